/-
  Operations that change memory, and calls. Own work of this project.
-/
import Derived.Test.YtmgfhkkcgdagpaaP0
import Derived.Laws.Append
import Derived.Lib.ConvBytes
import Derived.Laws.AppendOwn
import Derived.Orders
set_option linter.unusedVariables false
set_option linter.unusedSimpArgs false
set_option linter.unusedSectionVars false
section
namespace Go.AM
open Go

variable {P : Program} {ρ : Ren}

/-! ### One block is written -/
theorem R.put {s : St} {w w' : World} {id : Nat} {b0 b : AB} {L : Loc} (h : R s ρ w) (hg : s.get id = some b0) (ho : b0.owned = true) (hL : ρ id = some L) (hb : BlkOk ρ L w' b)
    (hsz : w'.heap.size = w.heap.size) (hos : w'.os = w.os) (htp : w'.tape = w.tape) (hout : w'.output = w.output) (hdr : w.drawn ≤ w'.drawn) (hoth : ∀ k, k ≠ L.b → w'.heap[k]? = w.heap[k]?) :
    R (s.put id b) ρ w' ∧ Step s (s.put id b) ρ ρ w w' := by
  have hlt := St.get_lt hg
  refine ⟨⟨fun j M e => by rw [hsz]; exact h.bound j M e, fun j c M e1 e2 => ?_, fun i j M N bi bj hij e1 e2 e3 e4 e5 e6 => ?_⟩, ⟨by simp, by simp; omega, fun _ _ => rfl, by omega, hos, htp, hout, hdr, ?_, ?_, ?_, ?_⟩⟩
  · by_cases hj : j = id
    · subst hj
      rw [St.get_put_same hg] at e1; injection e1 with e1; subst e1
      rw [hL] at e2; injection e2 with e2; subst e2
      exact hb
    · rw [St.get_put_ne s b hlt hj] at e1
      by_cases hl : c.live = true
      · refine (h.blk j c M e1 e2).same (hoth _ ?_)
        have := h.inj id j L M b0 c (Ne.symm hj) hL e2 hg e1 ho hl
        omega
      · cases c <;> simp [AB.live] at hl <;> trivial
  · have hold : ∀ k bk, (s.put id b).get k = some bk → ∃ bk', s.get k = some bk' ∧ (k = id → bk' = b0) ∧ (k ≠ id → bk' = bk) := by
      intro k bk hk
      by_cases hj : k = id
      · subst hj; exact ⟨b0, hg, fun _ => rfl, fun q => absurd rfl q⟩
      · rw [St.get_put_ne s b hlt hj] at hk; exact ⟨bk, hk, fun q => absurd q hj, fun _ => rfl⟩
    obtain ⟨bi', gi, i1, i2⟩ := hold i bi e3
    obtain ⟨bj', gj, j1, j2⟩ := hold j bj e4
    refine h.inj i j M N bi' bj' hij e1 e2 gi gj ?_ ?_
    · by_cases hi : i = id
      · rw [i1 hi]; exact ho
      · rw [i2 hi]; exact e5
    · by_cases hj : j = id
      · rw [j1 hj]; exact AB.live_of_owned ho
      · rw [j2 hj]; exact e6
  · intro k hk H
    refine hoth k fun e => ?_
    exact H id L b0 (by simp; omega) hL hg ho e.symm
  · intro j blk' hj hgj hl
    by_cases hj' : j = id
    · subst hj'; exact ⟨b0, hg, AB.live_of_owned ho, fun _ => ho⟩
    · rw [St.get_put_ne s b hlt hj'] at hgj; exact ⟨blk', hgj, hl, fun q => q⟩
  · intro j M blk' hj _ hgj _
    have := St.get_lt hgj
    simp at this; omega
  · intro j hj hn
    by_cases hj' : j = id
    · subst hj'; rw [hL] at hn; cases hn
    · exact St.get_put_ne s b hlt hj'
/-- A block is given up. -/
theorem R.kill {s : St} {w : World} {id : Nat} {b0 : AB} {L : Loc} (h : R s ρ w) (hg : s.get id = some b0) (ho : b0.owned = true) (hL : ρ id = some L) :
    R (s.put id .dead) ρ w ∧ Step s (s.put id .dead) ρ ρ w w := R.put h hg ho hL trivial rfl rfl rfl rfl (Nat.le_refl _) fun _ _ => rfl

/-! ### Stores -/
theorem setCells_drawn : ∀ (vs : List Value) (b o : Nat) (w : World), (w.setCells b o vs).drawn = w.drawn
  | [], _, _, _ => rfl
  | v :: vs, b, o, w => by rw [World.setCells, setCells_drawn vs b (o + 1)]; rfl
theorem setCells_heap : ∀ (vs : List Value) (b o : Nat) (cs : Array Value) (e : TypeId) (fr : Nat × Nat) (w : World), w.heap[b]? = some (.cells cs e fr) → o + vs.length ≤ cs.size →
    (w.setCells b o vs).heap[b]? = some (.cells (cs.toList.take o ++ vs ++ cs.toList.drop (o + vs.length)).toArray e fr) ∧ (∀ k, k ≠ b → (w.setCells b o vs).heap[k]? = w.heap[k]?) ∧ (w.setCells b o vs).heap.size = w.heap.size ∧
      (w.setCells b o vs).os = w.os ∧ (w.setCells b o vs).tape = w.tape ∧ (w.setCells b o vs).output = w.output
  | [], b, o, cs, e, fr, w, h, _ => by simp [World.setCells, h]
  | v :: vs, b, o, cs, e, fr, w, h, hl => by
    simp only [List.length_cons] at hl
    have h1 : (w.setCell ⟨b, o, none⟩ v).heap[b]? = some (.cells (cs.setIfInBounds o v) e fr) := by
      simp [World.setCell, Array.getElem?_modify, h]
    obtain ⟨g1, g2, g3, g4, g5, g6⟩ := setCells_heap vs b (o + 1) (cs.setIfInBounds o v) e fr (w.setCell ⟨b, o, none⟩ v) h1 (by simp; omega)
    simp only [World.setCells]
    refine ⟨?_, fun k hk => ?_, ?_, g4, g5, g6⟩
    · rw [g1]
      have ho : o < cs.toList.length := by simp; omega
      congr 2
      apply Array.ext'
      simp only [List.toList_toArray, Array.toList_setIfInBounds, List.length_cons]
      rw [List.take_succ_eq_append_getElem (by simpa using ho), List.drop_set_of_lt (by omega), List.take_set_of_le (by omega)]
      simp [Nat.add_assoc, Nat.add_comm 1]
    · rw [g2 k hk]
      simp only [World.setCell, Array.getElem?_modify]
      rw [if_neg (by omega)]
    · rw [g3]; simp [World.setCell]
theorem run_storeCells {w : World} {b o : Nat} {cs : Array Value} {e : TypeId} {fr : Nat × Nat} (h : w.heap[b]? = some (.cells cs e fr)) (hfr : ∀ i, i < cs.size → (fr.1 ≤ i && i < fr.2) = false) (vs : List Value) (h1 : ∀ v ∈ vs, v.oneCell' = true) (hl : o + vs.length ≤ cs.size) :
    (storeCells ⟨b, o, none⟩ vs).run P w = .ok () (w.setCells b o vs) := by
  have := run_storeCells_cells (P := P) b o vs 0 w (fun j hj => by
      have hlt : o + 0 + j < cs.size := by omega
      simp [World.cell?, h, show o + j < cs.size by omega]) (fun j hj => by
      have := hfr (o + 0 + j) (by omega)
      simpa [World.frozen?, h] using this) h1
  simpa using this

/-- What a store into an own row leaves. -/
theorem R.store {s : St} {w : World} {id : Nat} {cells : List AV} {L : Loc} (h : R s ρ w) (hg : s.get id = some (.row cells true)) (hL : ρ id = some L) {off : Nat} {vs : List AV} {ds : List Value} (hv : VRs ρ vs ds) (h1 : vs.all AV.one = true) (hlen : off + vs.length ≤ cells.length) :
    ∃ w', (storeCells ⟨L.b, L.o + off, none⟩ ds).run P w = .ok () w' ∧ R (s.put id (.row (setAt cells off vs) true)) ρ w' ∧ Step s (s.put id (.row (setAt cells off vs) true)) ρ ρ w w' := by
  obtain ⟨cs, e, fr, g1, g2, g3, g4, g5, g6⟩ := row_cells h hg hL
  have hld := hv.len
  have hin : L.o + off + ds.length ≤ cs.size := by omega
  obtain ⟨k1, k2, k3, k4, k5, k6⟩ := setCells_heap ds L.b (L.o + off) cs e fr w g1 hin
  refine ⟨_, run_storeCells g1 (fun i hi => g5 rfl i (by omega)) ds (VRs.ones h1 hv) hin, ?_⟩
  refine R.put h hg rfl hL ?_ k3 k4 k5 k6 (Nat.le_of_eq (setCells_drawn _ _ _ _).symm) k2
  simp only [BlkOk]
  refine ⟨_, e, fr, k1, by simp; omega, by rw [length_setAt _ _ _ hlen]; exact g3, fun i v hiv => ?_, fun _ => g5 rfl, setAt_one g6 h1 off⟩
  have hi : i < cells.length := by have := (List.getElem?_eq_some_iff.1 hiv).1; rwa [length_setAt _ _ _ hlen] at this
  simp only [List.getElem?_toArray]
  unfold setAt at hiv
  by_cases h2 : i < off
  · rw [List.append_assoc, List.getElem?_append_left (by simp; omega), List.getElem?_take_of_lt h2] at hiv
    obtain ⟨c, hc, hvc⟩ := g4.at_ _ hiv
    rw [List.getElem?_take_of_lt hi, List.getElem?_drop] at hc
    refine ⟨c, ?_, hvc⟩
    rw [List.append_assoc, List.getElem?_append_left (by simp; omega), List.getElem?_take_of_lt (by omega)]
    exact hc
  · by_cases h3 : i < off + vs.length
    · rw [List.append_assoc, List.getElem?_append_right (by simp; omega), List.getElem?_append_left (by simp; omega)] at hiv
      simp only [List.length_take, Nat.min_eq_left (show off ≤ cells.length by omega)] at hiv
      obtain ⟨c, hc, hvc⟩ := hv.at_ _ hiv
      refine ⟨c, ?_, hvc⟩
      rw [List.append_assoc, List.getElem?_append_right (by simp; omega), List.getElem?_append_left (by simp; omega)]
      simp only [List.length_take, Array.length_toList, Nat.min_eq_left (show L.o + off ≤ cs.size by omega)]
      rw [show L.o + i - (L.o + off) = i - off by omega]
      exact hc
    · rw [List.append_assoc, List.getElem?_append_right (by simp; omega), List.getElem?_append_right (by simp; omega), List.getElem?_drop] at hiv
      simp only [List.length_take, Nat.min_eq_left (show off ≤ cells.length by omega)] at hiv
      rw [show off + vs.length + (i - off - vs.length) = i by omega] at hiv
      obtain ⟨c, hc, hvc⟩ := g4.at_ _ hiv
      rw [List.getElem?_take_of_lt hi, List.getElem?_drop] at hc
      refine ⟨c, ?_, hvc⟩
      rw [List.append_assoc, List.getElem?_append_right (by simp; omega), List.getElem?_append_right (by simp; omega), List.getElem?_drop]
      simp only [List.length_take, Array.length_toList, Nat.min_eq_left (show L.o + off ≤ cs.size by omega)]
      rw [show L.o + off + ds.length + (L.o + i - (L.o + off) - ds.length) = L.o + i by omega]
      exact hc

theorem length_setAtX (cs : List AV) (off : Nat) (vs : List AV) (h : off ≤ cs.length) : (setAt cs off vs).length = max cs.length (off + vs.length) := by
  simp [setAt]
  omega
/-- The same, where the row may become longer. -/
theorem R.storeX {s : St} {w : World} {id : Nat} {cells : List AV} {L : Loc} (h : R s ρ w) (hg : s.get id = some (.row cells true)) (hL : ρ id = some L) {off : Nat} {vs : List AV} {ds : List Value} (hv : VRs ρ vs ds) (h1 : vs.all AV.one = true) (hlen : off ≤ cells.length) (hln : L.o + off + vs.length ≤ L.n) :
    ∃ w', (storeCells ⟨L.b, L.o + off, none⟩ ds).run P w = .ok () w' ∧ R (s.put id (.row (setAt cells off vs) true)) ρ w' ∧ Step s (s.put id (.row (setAt cells off vs) true)) ρ ρ w w' := by
  obtain ⟨cs, e, fr, g1, g2, g3, g4, g5, g6⟩ := row_cells h hg hL
  have hld := hv.len
  have hin : L.o + off + ds.length ≤ cs.size := by omega
  have hlx := length_setAtX cells off vs hlen
  obtain ⟨k1, k2, k3, k4, k5, k6⟩ := setCells_heap ds L.b (L.o + off) cs e fr w g1 hin
  refine ⟨_, run_storeCells g1 (fun i hi => g5 rfl i (by omega)) ds (VRs.ones h1 hv) hin, ?_⟩
  refine R.put h hg rfl hL ?_ k3 k4 k5 k6 (Nat.le_of_eq (setCells_drawn _ _ _ _).symm) k2
  simp only [BlkOk]
  refine ⟨_, e, fr, k1, by simp; omega, by rw [hlx]; omega, fun i v hiv => ?_, fun _ => g5 rfl, setAt_one g6 h1 off⟩
  have hi : i < max cells.length (off + vs.length) := by have := (List.getElem?_eq_some_iff.1 hiv).1; rwa [hlx] at this
  simp only [List.getElem?_toArray]
  unfold setAt at hiv
  by_cases h2 : i < off
  · rw [List.append_assoc, List.getElem?_append_left (by simp; omega), List.getElem?_take_of_lt h2] at hiv
    obtain ⟨c, hc, hvc⟩ := g4.at_ _ hiv
    rw [List.getElem?_take_of_lt (show i < cells.length by omega), List.getElem?_drop] at hc
    refine ⟨c, ?_, hvc⟩
    rw [List.append_assoc, List.getElem?_append_left (by simp; omega), List.getElem?_take_of_lt (by omega)]
    exact hc
  · by_cases h3 : i < off + vs.length
    · rw [List.append_assoc, List.getElem?_append_right (by simp; omega), List.getElem?_append_left (by simp; omega)] at hiv
      simp only [List.length_take, Nat.min_eq_left (show off ≤ cells.length by omega)] at hiv
      obtain ⟨c, hc, hvc⟩ := hv.at_ _ hiv
      refine ⟨c, ?_, hvc⟩
      rw [List.append_assoc, List.getElem?_append_right (by simp; omega), List.getElem?_append_left (by simp; omega)]
      simp only [List.length_take, Array.length_toList, Nat.min_eq_left (show L.o + off ≤ cs.size by omega)]
      rw [show L.o + i - (L.o + off) = i - off by omega]
      exact hc
    · rw [List.append_assoc, List.getElem?_append_right (by simp; omega), List.getElem?_append_right (by simp; omega), List.getElem?_drop] at hiv
      simp only [List.length_take, Nat.min_eq_left (show off ≤ cells.length by omega)] at hiv
      rw [show off + vs.length + (i - off - vs.length) = i by omega] at hiv
      obtain ⟨c, hc, hvc⟩ := g4.at_ _ hiv
      rw [List.getElem?_take_of_lt (show i < cells.length by omega), List.getElem?_drop] at hc
      refine ⟨c, ?_, hvc⟩
      rw [List.append_assoc, List.getElem?_append_right (by simp; omega), List.getElem?_append_right (by simp; omega), List.getElem?_drop]
      simp only [List.length_take, Array.length_toList, Nat.min_eq_left (show L.o + off ≤ cs.size by omega)]
      rw [show L.o + off + ds.length + (L.o + i - (L.o + off) - ds.length) = L.o + i by omega]
      exact hc

/-! ### append -/
theorem run_append_room {sT xT ty e : TypeId} {sz : Nat} {d : TypeDesc} (hu : P.underlying sT = some (.slice e)) (hsz : csize P e = some sz) (hx : P.underlying xT = some d) (hd : ∀ k, d ≠ .int k) {A : Option Addr} {sLen sCap k : Nat} {x : Value} {news : List Value} {w : World}
    (hlen : (Builtin.lenOf x).run P w = .ok k w) (hnew : (Builtin.firstCells sz k x).run P w = .ok news.toArray w) (hroom : sLen + k ≤ sCap) :
    (Builtin.append_ #[sT, xT] ty #[.slice A sLen sCap, x]).run P w = match A with
      | none => .ok (.slice none (sLen + k) sCap) w
      | some a => ((storeCells (a.add (sLen * sz)) news).run P w).andThen fun _ w' => .ok (.slice (some a) (sLen + k) sCap) w' := by
  have hz : (match (generalizing := false) d with | .int _ => true | _ => false) = false := by cases d <;> first | rfl | exact absurd rfl (hd _)
  cases A <;> simp [Builtin.append_, run_underlying hu, run_size hsz, run_underlying hx, hz, hlen, hroom, hnew]
theorem run_append_grow {sT xT ty e : TypeId} {sz : Nat} {d : TypeDesc} {i : TypeInfo} {zv : Value} (hu : P.underlying sT = some (.slice e)) (hi : P.info? e = some i) (hsz : i.size = sz) (hz : i.zero = some zv) (hb0 : i.bytes ≠ 0) (hx : P.underlying xT = some d) (hd : ∀ k, d ≠ .int k)
    {A : Option Addr} {sLen sCap k : Nat} {x : Value} {olds news : List Value} {w : World}
    (hlen : ∀ w, (Builtin.lenOf x).run P w = .ok k w) (hnew : (Builtin.firstCells sz k x).run P w.drew = .ok news.toArray w.drew) (hold : (Builtin.firstCells sz sLen (.slice A sLen sCap)).run P w.drew = .ok olds.toArray w.drew)
    (hroom : sCap < sLen + k) (hbytes : (sLen + k) * i.bytes ≤ roomBytes) :
    ∃ (c : Nat) (rest : List Value), sLen + k ≤ c ∧ rest.length = (c - (sLen + k)) * zv.cells.size ∧
      (Builtin.append_ #[sT, xT] ty #[.slice A sLen sCap, x]).run P w = .ok (.slice (some ⟨w.heap.size, 0, none⟩) (sLen + k) c) (pushW w.drew (.cells (olds ++ news ++ rest).toArray e)) := by
  have hz' : (match (generalizing := false) d with | .int _ => true | _ => false) = false := by cases d <;> first | rfl | exact absurd rfl (hd _)
  have hsize : csize P e = some sz := by simp [csize, hi, hsz]
  have hle : sLen + k ≤ roomBytes := Nat.le_trans (Nat.le_mul_of_pos_right _ (by omega)) hbytes
  have hbig : ¬ Builtin.nextslicecap (sLen + k) sCap * i.bytes > 2 ^ 48 := by
    have := growslice_fits (bytes := i.bytes) hroom (by simpa [roomBytes] using hbytes)
    omega
  have hq : (Question.appendCap (sLen + k) sCap e).forced = false := rfl
  refine ⟨(Question.appendCap (sLen + k) sCap e).cut (w.tape w.drawn (.appendCap (sLen + k) sCap e)), (Builtin.zeroCells zv.cells ((Question.appendCap (sLen + k) sCap e).cut (w.tape w.drawn (.appendCap (sLen + k) sCap e)) - (sLen + k))).toList, ?_, ?_, ?_⟩
  · simp [Question.cut]
  · simp [Builtin.zeroCells]
  · have h1 := hnew
    have h2 := hold
    have hsm : ¬ 9223372036854775807 < (sLen : Int) + (k : Int) := by
      unfold roomBytes at hle
      omega
    have hn : ¬ sLen + k ≤ sCap := by omega
    have hbig' : ¬ 281474976710656 < Builtin.nextslicecap (sLen + k) sCap * i.bytes := by omega
    simp [Builtin.append_, run_underlying hu, run_size hsize, run_underlying hx, hz', hlen, hn, run_info hi, hsm, hbig', hq, run_zero hi hz, h1, h2, newRow]
    refine congrArg (fun l => w.drew.alloc (Obj.cells l e)) ?_
    apply Array.ext'
    simp

theorem run_appendz_room {sT xT ty e : TypeId} {sz : Nat} {kk k' : IntKind} {i : TypeInfo} {zv : Value} (hu : P.underlying sT = some (.slice e)) (hi : P.info? e = some i) (hsz : i.size = sz) (hz : i.zero = some zv) (hb0 : i.bytes ≠ 0) (hx : P.underlying xT = some (.int kk)) {A : Option Addr} {sLen sCap k : Nat} {w : World}
    (hk : k * i.bytes ≤ roomBytes) (hroom : sLen + k ≤ sCap) :
    (Builtin.append_ #[sT, xT] ty #[.slice A sLen sCap, .int k' (k : Int)]).run P w = match A with
      | none => .ok (.slice none (sLen + k) sCap) w
      | some a => ((storeCells (a.add (sLen * sz)) (if k * sz = 0 then [] else (Builtin.zeroCells zv.cells k).toList)).run P w).andThen fun _ w' => .ok (.slice (some a) (sLen + k) sCap) w' := by
  have hsize : csize P e = some sz := by simp [csize, hi, hsz]
  have hle : k ≤ roomBytes := Nat.le_trans (Nat.le_mul_of_pos_right _ (by omega)) hk
  unfold roomBytes at hle hk
  have hw : IntKind.i64.wrap (k : Int) = (k : Int) := by simp [IntKind.wrap, IntKind.bits, IntKind.signed]; omega
  have hn : ¬ ((k : Int) < 0) := by omega
  have hb : ¬ (281474976710656 : Int) < (k : Int) * (i.bytes : Int) := by
    have : (k : Int) * (i.bytes : Int) = ((k * i.bytes : Nat) : Int) := by simp
    omega
  by_cases h0 : k * sz = 0
  · cases A <;> simp [Builtin.append_, run_underlying hu, run_size hsize, run_underlying hx, hroom, asInt, asIntOf, hw, hn, hb, run_info hi, h0]
  · cases A <;> simp [Builtin.append_, run_underlying hu, run_size hsize, run_underlying hx, hroom, asInt, asIntOf, hw, hn, hb, run_info hi, h0, run_zero hi hz]
theorem run_appendz_grow {sT xT ty e : TypeId} {sz : Nat} {kk k' : IntKind} {i : TypeInfo} {zv : Value} (hu : P.underlying sT = some (.slice e)) (hi : P.info? e = some i) (hsz : i.size = sz) (hz : i.zero = some zv) (hb0 : i.bytes ≠ 0) (hx : P.underlying xT = some (.int kk))
    {A : Option Addr} {sLen sCap k : Nat} {olds : List Value} {w : World}
    (hold : (Builtin.firstCells sz sLen (.slice A sLen sCap)).run P w.drew = .ok olds.toArray w.drew)
    (hroom : sCap < sLen + k) (hbytes : (sLen + k) * i.bytes ≤ roomBytes) :
    ∃ (c : Nat) (rest : List Value), sLen + k ≤ c ∧ rest.length = (c - (sLen + k)) * zv.cells.size ∧
      (Builtin.append_ #[sT, xT] ty #[.slice A sLen sCap, .int k' (k : Int)]).run P w = .ok (.slice (some ⟨w.heap.size, 0, none⟩) (sLen + k) c)
        (pushW w.drew (.cells (olds ++ (if k * sz = 0 then [] else (Builtin.zeroCells zv.cells k).toList) ++ rest).toArray e)) := by
  have hsize : csize P e = some sz := by simp [csize, hi, hsz]
  have hle : sLen + k ≤ roomBytes := Nat.le_trans (Nat.le_mul_of_pos_right _ (by omega)) hbytes
  have hk2 : k * i.bytes ≤ roomBytes := Nat.le_trans (Nat.mul_le_mul_right _ (by omega)) hbytes
  have hbig : ¬ Builtin.nextslicecap (sLen + k) sCap * i.bytes > 2 ^ 48 := by
    have := growslice_fits (bytes := i.bytes) hroom (by simpa [roomBytes] using hbytes)
    omega
  have hq : (Question.appendCap (sLen + k) sCap e).forced = false := rfl
  unfold roomBytes at hle hk2
  have hw : IntKind.i64.wrap (k : Int) = (k : Int) := by simp [IntKind.wrap, IntKind.bits, IntKind.signed]; omega
  have hneg : ¬ ((k : Int) < 0) := by omega
  have hb : ¬ (281474976710656 : Int) < (k : Int) * (i.bytes : Int) := by
    have : (k : Int) * (i.bytes : Int) = ((k * i.bytes : Nat) : Int) := by simp
    omega
  refine ⟨(Question.appendCap (sLen + k) sCap e).cut (w.tape w.drawn (.appendCap (sLen + k) sCap e)), (Builtin.zeroCells zv.cells ((Question.appendCap (sLen + k) sCap e).cut (w.tape w.drawn (.appendCap (sLen + k) sCap e)) - (sLen + k))).toList, ?_, ?_, ?_⟩
  · simp [Question.cut]
  · simp [Builtin.zeroCells]
  · have h2 := hold
    have hsm : ¬ 9223372036854775807 < (sLen : Int) + (k : Int) := by omega
    have hn : ¬ sLen + k ≤ sCap := by omega
    have hbig' : ¬ 281474976710656 < Builtin.nextslicecap (sLen + k) sCap * i.bytes := by omega
    by_cases h0 : k * sz = 0
    · simp [Builtin.append_, run_underlying hu, run_size hsize, run_underlying hx, asInt, asIntOf, hw, hneg, hb, hn, run_info hi, hsm, hbig', hq, run_zero hi hz, h2, newRow, h0]
      refine congrArg (fun l => w.drew.alloc (Obj.cells l e)) ?_
      apply Array.ext'
      simp
    · simp [Builtin.append_, run_underlying hu, run_size hsize, run_underlying hx, asInt, asIntOf, hw, hneg, hb, hn, run_info hi, hsm, hbig', hq, run_zero hi hz, h2, newRow, h0]
      refine congrArg (fun l => w.drew.alloc (Obj.cells l e)) ?_
      apply Array.ext'
      simp

theorem clean_drew' (w : World) : Clean w w.drew := ⟨Nat.le_refl _, rfl, rfl, rfl, Nat.le_succ _, fun _ _ => rfl⟩

/-- append: the two ways of the model, whatever is appended ('m'). -/
theorem append_step {s s' : St} {w : World} {sz : Nat} {i : TypeInfo} {zv : Value} {e : TypeId} {A : AV} {ca : Value} {new : List AV} {news : List Value} {k : Nat} {v : AV} {run : Value → World → Result Value}
    (hR : R s ρ w) (hsz : i.size = sz) (hzs : zv.cells.size = sz) (hsz0 : sz ≠ 0) (ha : VR ρ A ca) (hv : VRs ρ new news) (hn : new.length = k * sz) (h1 : new.all AV.one = true)
    (hroom : ∀ B n c, ca = .slice B n c → n + k ≤ c → run ca w = match B with
      | none => .ok (.slice none (n + k) c) w
      | some a => ((storeCells (a.add (n * sz)) news).run P w).andThen fun _ w' => .ok (.slice (some a) (n + k) c) w')
    (hgrow : ∀ B n c (olds : List Value), ca = .slice B n c → (Builtin.firstCells sz n ca).run P w.drew = .ok olds.toArray w.drew → c < n + k → (n + k) * i.bytes ≤ roomBytes → ∃ (c' : Nat) (rest : List Value), n + k ≤ c' ∧ rest.length = (c' - (n + k)) * zv.cells.size ∧
      run ca w = .ok (.slice (some ⟨w.heap.size, 0, none⟩) (n + k) c') (pushW w.drew (.cells (olds ++ news ++ rest).toArray e)))
    (hf : ∀ id, s.next ≤ id → id < s'.next → ρ id = none) (h : aappend s sz i.bytes A new k = some (v, s')) :
    ∃ ρ' w' c, run ca w = .ok c w' ∧ VR ρ' v c ∧ Step s s' ρ ρ' w w' ∧ R s' ρ' w' := by
  have fresh : ∀ (st : St) (olds : List AV) (oldc : List Value) (n c c' : Nat) (rest : List Value), R st ρ w → ρ st.next = none → VRs ρ olds oldc → olds.all AV.one = true → olds.length = n * sz → n + k ≤ c' → rest.length = (c' - (n + k)) * sz →
      VR (ρ.set st.next ⟨w.heap.size, 0, c' * sz⟩) (.sl st.next 0 (n + k) none sz) (.slice (some ⟨w.heap.size, 0, none⟩) (n + k) c') ∧ R (st.push (.row (olds ++ new) true)) (ρ.set st.next ⟨w.heap.size, 0, c' * sz⟩) (pushW w.drew (.cells (oldc ++ news ++ rest).toArray e)) ∧
        Step st (st.push (.row (olds ++ new) true)) ρ (ρ.set st.next ⟨w.heap.size, 0, c' * sz⟩) w (pushW w.drew (.cells (oldc ++ news ++ rest).toArray e)) := by
    intro st olds oldc n c c' rest hst hfr ho hoo hol hcc hrest
    have hmul : (n + k) * sz + (c' - (n + k)) * sz = c' * sz := by rw [← Nat.add_mul, Nat.add_sub_cancel' hcc]
    have hmul2 : (n + k) * sz = n * sz + k * sz := Nat.add_mul _ _ _
    refine ⟨?_, hst.push ((clean_drew' w).trans (clean_pushW _ _)) hfr (Nat.le_refl _) (by simp) ?_⟩
    · simp only [VR]
      exact ⟨_, _, _, Ren.set_same _ _ _, rfl, hcc, (fun _ q => by cases q), .inr ⟨by simp, by simp⟩⟩
    · have hall := ho.append hv
      have h2 := ho.len
      have h3 := hv.len
      simp only [BlkOk]
      refine ⟨_, e, (0, 0), pushW_new w.drew _, by simp; omega, by simp; omega, fun j u hj => ?_, fun _ j _ => by simp, by rw [List.all_append, hoo, h1]; rfl⟩
      obtain ⟨c, hc, hvc⟩ := hall.at_ j hj
      refine ⟨c, ?_, VR.mono (Ren.le_set _ hfr) _ _ hvc⟩
      have hlt := (List.getElem?_eq_some_iff.1 hc).1
      simp only [Nat.zero_add, List.getElem?_toArray]
      rw [List.getElem?_append_left hlt]
      exact hc
  unfold aappend at h
  cases A <;> simp only at h <;> (try (cases h; done))
  · rename_i id off len cap z
    simp only [VR] at ha
    obtain ⟨L, Ad, c, hL, rfl, hlc, hcap, hc⟩ := ha
    split at h
    · rename_i hz
      subst hz
      split at h
      · rename_i cells own hg
        split at h
        · rename_i hk0
          subst hk0
          injection h with h
          obtain ⟨rfl, rfl⟩ := Prod.mk.inj h
          have hnews : news = [] := by
            have := hv.len
            exact List.eq_nil_of_length_eq_zero (by omega)
          subst hnews
          refine ⟨ρ, w, .slice (some Ad) len c, ?_, ?_, Step.refl _ _ _, hR⟩
          · rw [hroom (some Ad) len c rfl (by omega)]
            simp [storeCells]
          · simp only [VR]; exact ⟨L, Ad, c, hL, rfl, hlc, hcap, hc⟩
        · rename_i hk0
          split at h
          · rename_i hin
            obtain ⟨hin, hroomb⟩ := hin
            have hkpos : 0 < k := Nat.pos_of_ne_zero hk0
            obtain ⟨cs, et, fr, g1, g2, g3, g4, g5, g6⟩ := row_cells hR hg hL
            have holdone : ((cells.drop off).take (len * z)).all AV.one = true := by
              rw [List.all_eq_true] at g6 ⊢
              intro x hx
              exact g6 x (List.mem_of_mem_drop (List.mem_of_mem_take hx))
            -- what the slice shows now
            have hold : (Builtin.firstCells z len (.slice (some Ad) len c)).run P w.drew = .ok (if c = 0 then [] else (cs.toList.drop (L.o + off)).take (len * z)).toArray w.drew ∧ VRs ρ ((cells.drop off).take (len * z)) (if c = 0 then [] else (cs.toList.drop (L.o + off)).take (len * z)) := by
              rcases hc with hc | ⟨rfl, hc⟩
              · have : len = 0 := by omega
                subst this
                rw [if_pos hc]
                exact ⟨by simp [Builtin.firstCells, loadCells, loadCellsFrom], by simpa using VRs_nil⟩
              · by_cases hc0 : c = 0
                · have : len = 0 := by omega
                  subst this
                  rw [if_pos hc0]
                  exact ⟨by simp [Builtin.firstCells, loadCells, loadCellsFrom], by simpa using VRs_nil⟩
                · rw [if_neg hc0]
                  have hlen : len * z ≤ c * z := Nat.mul_le_mul_right z hlc
                  refine ⟨?_, ?_⟩
                  · simp only [Builtin.firstCells]
                    exact run_loadCells_at (w := w.drew) g1 (len * z) (by omega)
                  · have := (g4.drop off).take (len * z)
                    rw [List.drop_take, List.drop_drop, List.take_take] at this
                    rwa [show min (len * z) (cells.length - off) = len * z by omega] at this
            have holdlen : ((cells.drop off).take (len * z)).length = len * z := by simp; omega
            -- in place
            have inplace : len + k ≤ c → own = true → off + (len + k) * z ≤ cells.length → ∃ w', run (.slice (some Ad) len c) w = .ok (.slice (some Ad) (len + k) c) w' ∧ R (s.put id (.row (setAt cells (off + len * z) new) true)) ρ w' ∧ Step s (s.put id (.row (setAt cells (off + len * z) new) true)) ρ ρ w w' := by
              intro hle hown hfit
              subst hown
              rcases hc with hc | ⟨rfl, hc⟩
              · omega
              have hm : (len + k) * z = len * z + k * z := Nat.add_mul _ _ _
              obtain ⟨w', hrun, hr, hs⟩ := R.store (P := P) hR hg hL (off := off + len * z) hv h1 (by omega)
              refine ⟨w', ?_, hr, hs⟩
              rw [hroom _ len c rfl hle]
              simp only [addr_add]
              rw [show L.o + off + len * z = L.o + (off + len * z) by omega, hrun]
              simp
            cases cap with
            | some c0 =>
              obtain rfl := hcap c0 rfl
              simp only at h
              split at h
              · rename_i hle
                split at h
                · rename_i hown
                  simp only [Bool.and_eq_true, decide_eq_true_eq] at hown
                  injection h with h
                  obtain ⟨rfl, rfl⟩ := Prod.mk.inj h
                  obtain ⟨w', hrun, hr, hs⟩ := inplace hle hown.1 hown.2
                  have ho := hown.1
                  subst ho
                  refine ⟨ρ, w', _, hrun, ?_, hs, hr⟩
                  simp only [VR]
                  exact ⟨L, Ad, c, hL, rfl, hle, fun _ q => by injection q, hc⟩
                · cases h
              · rename_i hle
                injection h with h
                obtain ⟨rfl, rfl⟩ := Prod.mk.inj h
                obtain ⟨c', rest, hcc, hrest, hrun⟩ := hgrow _ _ _ _ rfl hold.1 (by omega) hroomb
                obtain ⟨e1, e2, e3⟩ := fresh s _ _ len c c' rest hR (hf _ (Nat.le_refl _) (by simp)) hold.2 holdone holdlen hcc (by rw [hrest, hzs])
                exact ⟨_, _, _, hrun, e1, e3, e2⟩
            | none =>
              simp only at h
              split at h
              · rename_i hown
                subst hown
                injection h with h
                obtain ⟨rfl, rfl⟩ := Prod.mk.inj h
                by_cases hle : len + k ≤ c
                · -- the same block under a new number
                  rcases hc with hc | ⟨rfl, hc⟩
                  · omega
                  have hm : (len + k) * z = len * z + k * z := Nat.add_mul _ _ _
                  have hckz : (len + k) * z ≤ c * z := Nat.mul_le_mul_right z hle
                  have hnl := hv.len
                  have hfr : ρ s.next = none := hf _ (Nat.le_refl _) (by simp)
                  obtain ⟨k1, k2, k3, k4, k5, k6⟩ := setCells_heap news L.b (L.o + off + len * z) cs et fr w g1 (by omega)
                  have hst := run_storeCells (P := P) g1 (fun j hj => g5 rfl j (by omega)) news (VRs.ones h1 hv) (o := L.o + off + len * z) (by omega)
                  have hrun : run (.slice (some ⟨L.b, L.o + off, none⟩) len c) w = .ok (.slice (some ⟨L.b, L.o + off, none⟩) (len + k) c) (w.setCells L.b (L.o + off + len * z) news) := by
                    rw [hroom _ len c rfl hle]
                    simp only [addr_add]
                    rw [hst]
                    simp
                  obtain ⟨r1, s1⟩ := hR.kill hg rfl hL
                  have hlt := St.get_lt hg
                  have hid : id ≠ s.next := by omega
                  have hgd : ∀ j bj, (s.put id .dead).get j = some bj → bj.live = true → j ≠ id ∧ s.get j = some bj := by
                    intro j bj hj hl
                    by_cases hji : j = id
                    · subst hji; rw [St.get_put_same hg] at hj; injection hj with hj; subst hj; cases hl
                    · rw [St.get_put_ne s _ hlt hji] at hj; exact ⟨hji, hj⟩
                  refine ⟨ρ.set s.next ⟨L.b, L.o + off, L.n⟩, _, _, hrun, ?_, ?_, ?_⟩
                  · simp only [VR]
                    exact ⟨_, _, _, Ren.set_same _ _ _, rfl, hle, (fun _ q => by cases q), .inr ⟨by simp, by simp; omega⟩⟩
                  · refine ⟨by simp, by simp; omega, fun j hj => ?_, by omega, k4, k5, k6, Nat.le_of_eq (setCells_drawn _ _ _ _).symm, ?_, ?_, ?_, ?_⟩
                    · simp at hj; exact Ren.set_ne _ _ (by omega)
                    · intro b hb H
                      refine k2 b fun q => ?_
                      exact H id L _ (by simp; omega) hL hg rfl q.symm
                    · intro j bj hj hgj hl
                      have hjn : j ≠ s.next := by omega
                      rw [St.get_push, if_neg (by simpa using hjn)] at hgj
                      obtain ⟨hji, hgj⟩ := hgd j bj hgj hl
                      exact ⟨bj, hgj, hl, fun q => q⟩
                    · intro j M bj hj hM hgj hl
                      have : j = s.next := by have := St.get_lt hgj; simp at this; omega
                      subst this
                      rw [Ren.set_same] at hM; injection hM with hM; subst hM
                      exact .inr ⟨id, L, _, by simp; omega, hL, hg, rfl, rfl⟩
                    · intro j hj hjn
                      rw [St.get_push, if_neg (by simp; omega)]
                      exact St.get_put_ne s _ hlt (by rintro rfl; rw [hL] at hjn; cases hjn)
                  · refine ⟨fun j M hM => ?_, fun j bj M hgj hM => ?_, fun a b M N ba bb hab hM hN hga hgb hoa hlb => ?_⟩
                    · by_cases hjn : j = s.next
                      · subst hjn; rw [Ren.set_same] at hM; injection hM with hM; subst hM; simp only; rw [k3]; exact hR.bound _ _ hL
                      · rw [Ren.set_ne _ _ hjn] at hM; rw [k3]; exact hR.bound _ _ hM
                    · by_cases hjn : j = s.next
                      · subst hjn
                        rw [Ren.set_same] at hM; injection hM with hM; subst hM
                        rw [St.get_push, if_pos (by simp)] at hgj; injection hgj with hgj; subst hgj
                        have hall := hold.2.append hv
                        have hc0 : c ≠ 0 := by omega
                        rw [if_neg hc0] at hall
                        simp only [BlkOk]
                        refine ⟨_, et, fr, k1, by simp; omega, by simp; omega, fun q u hq => ?_, fun _ => g5 rfl, by rw [List.all_append, holdone, h1]; rfl⟩
                        obtain ⟨d, hd, hvd⟩ := hall.at_ q hq
                        refine ⟨d, ?_, VR.mono (Ren.le_set _ hfr) _ _ hvd⟩
                        have hql := (List.getElem?_eq_some_iff.1 hd).1
                        simp at hql
                        simp only [List.getElem?_toArray]
                        by_cases hq1 : q < len * z
                        · rw [List.getElem?_append_left (by simp; omega), List.getElem?_take_of_lt hq1, List.getElem?_drop] at hd
                          rw [List.append_assoc, List.getElem?_append_left (by simp; omega), List.getElem?_take_of_lt (by omega)]
                          exact hd
                        · have hl0 : ((cs.toList.drop (L.o + off)).take (len * z)).length = len * z := by simp; omega
                          rw [List.getElem?_append_right (by rw [hl0]; omega), hl0] at hd
                          rw [List.append_assoc, List.getElem?_append_right (by simp; omega), List.getElem?_append_left (by simp; omega)]
                          simp only [List.length_take, Array.length_toList, Nat.min_eq_left (show L.o + off + len * z ≤ cs.size by omega)]
                          rw [show L.o + off + q - (L.o + off + len * z) = q - len * z by omega]
                          exact hd
                      · rw [Ren.set_ne _ _ hjn] at hM
                        rw [St.get_push, if_neg (by simpa using hjn)] at hgj
                        by_cases hl : bj.live = true
                        · obtain ⟨hji, hgj⟩ := hgd j bj hgj hl
                          refine ((hR.blk j bj M hgj hM).mono (Ren.le_set _ hfr)).same (k2 _ ?_)
                          have := hR.inj id j L M _ bj (Ne.symm hji) hL hM hg hgj rfl hl
                          omega
                        · cases bj <;> simp [AB.live] at hl <;> trivial
                    · by_cases han : a = s.next
                      · subst han
                        rw [Ren.set_same] at hM; injection hM with hM; subst hM
                        rw [Ren.set_ne _ _ (Ne.symm hab)] at hN
                        rw [St.get_push, if_neg (by simpa using Ne.symm hab)] at hgb
                        obtain ⟨hbi, hgb⟩ := hgd b bb hgb hlb
                        exact hR.inj id b L N _ bb (Ne.symm hbi) hL hN hg hgb rfl hlb
                      · rw [Ren.set_ne _ _ han] at hM
                        rw [St.get_push, if_neg (by simpa using han)] at hga
                        obtain ⟨hai, hga⟩ := hgd a ba hga (AB.live_of_owned hoa)
                        by_cases hbn : b = s.next
                        · subst hbn
                          rw [Ren.set_same] at hN; injection hN with hN; subst hN
                          exact hR.inj a id M L ba _ hai hM hL hga hg hoa rfl
                        · rw [Ren.set_ne _ _ hbn] at hN
                          rw [St.get_push, if_neg (by simpa using hbn)] at hgb
                          obtain ⟨hbi, hgb⟩ := hgd b bb hgb hlb
                          exact hR.inj a b M N ba bb hab hM hN hga hgb hoa hlb
                · obtain ⟨c', rest, hcc, hrest, hrun⟩ := hgrow _ _ _ _ rfl hold.1 (by omega) hroomb
                  obtain ⟨r1, s1⟩ := hR.kill hg rfl hL
                  obtain ⟨e1, e2, e3⟩ := fresh (s.put id .dead) _ _ len c c' rest r1 (hf _ (Nat.le_refl _) (by simp)) hold.2 holdone holdlen hcc (by rw [hrest, hzs])
                  exact ⟨_, _, _, hrun, e1, s1.trans e3, e2⟩
              · cases h
          · cases h
      · cases h
    · cases h
  · simp only [VR] at ha
    subst ha
    split at h
    · rename_i hk0
      subst hk0
      injection h with h
      obtain ⟨rfl, rfl⟩ := Prod.mk.inj h
      refine ⟨ρ, w, .slice none 0 0, ?_, by simp [VR], Step.refl _ _ _, hR⟩
      rw [hroom none 0 0 rfl (by omega)]
    · rename_i hk0
      split at h
      · rename_i hb
        injection h with h
        obtain ⟨rfl, rfl⟩ := Prod.mk.inj h
        obtain ⟨c', rest, hcc, hrest, hrun⟩ := hgrow none 0 0 [] rfl (by simp [Builtin.firstCells]) (by omega) (by simpa using hb)
        obtain ⟨e1, e2, e3⟩ := fresh s [] [] 0 0 c' rest hR (hf _ (Nat.le_refl _) (by simp)) VRs_nil rfl (by simp) hcc (by rw [hrest, hzs])
        simp only [Nat.zero_add, List.nil_append] at hrun e1 e2 e3
        exact ⟨_, _, _, hrun, e1, e3, e2⟩
      · cases h

end Go.AM
end
/-
  Effects and calls as steps of the model. Own work of this project.
-/
section
namespace Go.AM
open Go

variable {P : Program} {ρ : Ren}

/-- No block is lost. -/
def Grow (s s' : St) : Prop := s.next ≤ s'.next ∧ ∀ id, id < s.next → s.get id ≠ none → s'.get id ≠ none
/-- Below the mark all is as it was. -/
def Keeps (s s' : St) : Prop := s.next ≤ s'.next ∧ s'.low ≤ s.low ∧ ∀ id, id < s.next → id < s'.low → s'.get id = s.get id
/-- What a contract promises: wherever the abstract machine answers, the model's call returns that answer. -/
def SoundAt (P : Program) (f : Nat) (c : List AV → St → Option (AV × St)) : Prop :=
  ∀ (args : List AV) (s : St) (r : AV) (s' : St), c args s = some (r, s') → callable P f = true ∧ (Grow s s' ∧ Keeps s s') ∧
    ∀ (ρ : Ren) (w : World) (cargs : List Value), (∀ id, s.next ≤ id → ρ id = none) → R s ρ w → VRs ρ args cargs →
      Calls P f cargs.toArray w fun e w' => ∃ ρ' v, e = .returned v ∧ VR ρ' r v ∧ Step s s' ρ ρ' w w' ∧ R s' ρ' w'
def Sound (P : Program) (call : Nat → List AV → St → Option (AV × St)) : Prop := ∀ f, SoundAt P f (call f)

theorem Step.relow {s s' : St} {ρ ρ' : Ren} {w w' : World} {n m : Nat} (h : Step { s with low := n } s' ρ ρ' w w') (hm : m = min s.low s'.low) : Step s { s' with low := m } ρ ρ' w w' := by
  subst hm
  refine ⟨h.next, Nat.min_le_left _ _, h.ren, h.size, h.os, h.tape, h.output, h.drawn, fun b hb H => h.frame b hb fun id L blk h1 h2 h3 h4 => H id L blk ?_ h2 h3 h4, h.old, fun id L blk h1 h2 h3 h4 => ?_, h.unm⟩
  · show min s.low s'.low ≤ id
    omega
  · rcases h.new id L blk h1 h2 h3 h4 with q | ⟨id0, L0, b0, q1, q2⟩
    · exact .inl q
    · refine .inr ⟨id0, L0, b0, ?_, q2⟩
      show min s.low s'.low ≤ id0
      omega

/-- A call of a function by its number, the arguments evaluated. -/
theorem call_wp {call : Nat → List AV → St → Option (AV × St)} (hS : Sound P call) {o : Oper} {a : Act} {s s' : St} {w : World} {f : Nat} {cl : Bool} {args : List AV} {cargs : List Value} {v : AV} {K : Act → World → Prop} {Q : Exit → Act → World → Prop}
    (hrun : (execOp a.eval o).run P w = (callFunc f cargs.toArray).run P w) (hargs : VRs ρ args cargs) (hR : R s ρ w) (h : acall (call f) cl args s = some (v, s'))
    (hf : ∀ id, s.next ≤ id → ρ id = none)
    (hK : ∀ ρ' w' c, Step s s' ρ ρ' w w' → R s' ρ' w' → VR ρ' v c → (cl = true → ρ' = ρ ∧ Clean w w') → K (a.put o.dst c) w') : o.wp P a w K Q := by
  unfold acall at h
  split at h
  · rename_i r s1 hc
    obtain ⟨hcal, hnext, hcalls⟩ := hS f args _ r s1 hc
    have hcalls := hcalls ρ w cargs hf (hR.low s.next) hargs
    have henter : (callFunc f cargs.toArray).run P w = .ok (.enter f cargs.toArray) w := by
      unfold callable at hcal
      cases hfn : P.funcs[f]? with
      | none => simp [hfn] at hcal
      | some fn =>
        simp only [hfn, Bool.and_eq_true, bne_iff_ne, ne_eq] at hcal
        cases hbd : fn.body with
        | none => simp [hbd] at hcal
        | some b => simp [callFunc, hfn, hcal.2, hbd]
    unfold Oper.wp
    rw [hrun, henter, Oper.upon_enter]
    refine hcalls.mono fun e w' hpost => ?_
    obtain ⟨ρ', c, rfl, hv, hst, hr⟩ := hpost
    show K (a.put o.dst c) w'
    split at h
    · rename_i hcl
      simp only [Bool.and_eq_true, decide_eq_true_eq] at hcl
      injection h with h
      obtain ⟨rfl, rfl⟩ := Prod.mk.inj h
      have hclean : Clean w w' := Step.clean (s := { s with low := s.next }) hst hcl.2
      exact hK ρ w' c (hclean.step s ρ) (hR.clean hclean) (VR.ground hcl.1 hv) fun _ => ⟨rfl, hclean⟩
    · split at h
      · cases h
      · rename_i hncl
        injection h with h
        obtain ⟨rfl, rfl⟩ := Prod.mk.inj h
        exact hK ρ' w' c (hst.relow rfl) (hr.low _) hv fun q => absurd q hncl
  · cases h

/-- The operation is a call: which function, with which arguments. -/
theorem exec_call {o : Oper} {a : Act} {env : Env} (hE : EnvR ρ env a.tmps) {c : Call} (hop : o.op = .call c) {f : Nat} (hc : c.callee = .value (.func f)) (w : World) : (execOp a.eval o).run P w = (callFunc f (c.args.toList.map a.eval).toArray).run P w := by
  obtain ⟨callee, args, argTypes⟩ := c
  simp only at hc
  subst hc
  have : (args.map a.eval) = (args.toList.map a.eval).toArray := by apply Array.ext'; simp
  simp [execOp, hop, resolve, Deferred.ofValue, Act.eval, invoke, this]
theorem exec_callv {o : Oper} {a : Act} {c : Call} (hop : o.op = .call c) {x : Operand} (hc : c.callee = .value x) {g : Nat} {caps : List Value} (hx : a.eval x = .func (.func g) #[] caps.toArray) (w : World) :
    (execOp a.eval o).run P w = (callFunc g (c.args.toList.map a.eval ++ caps).toArray).run P w := by
  obtain ⟨callee, args, argTypes⟩ := c
  simp only at hc
  subst hc
  have : (args.map a.eval) ++ caps.toArray = (args.toList.map a.eval ++ caps).toArray := by apply Array.ext'; simp
  simp [execOp, hop, resolve, hx, Deferred.ofValue, invoke, this]

/-- Calls, clean ones or not. -/
theorem calls_wp {call : Nat → List AV → St → Option (AV × St)} (hS : Sound P call) {o : Oper} {a : Act} {env : Env} {s s' : St} {w : World} {cl : Bool} {v : AV} {K : Act → World → Prop} {Q : Exit → Act → World → Prop}
    (hE : EnvR ρ env a.tmps) (hR : R s ρ w) (hf : ∀ id, s.next ≤ id → ρ id = none) (hic : (cop P cl o.op).isCall = true)
    (h : (match (generalizing := false) cop P cl o.op with
      | .call f k args => if k = cl then acall (call f) k (args.map (aev env)) s else none
      | .callv x k args => if k = cl then match aev env x with | .fn g caps => acall (call g) k (args.map (aev env) ++ caps) s | _ => none else none
      | _ => none) = some (v, s'))
    (hK : ∀ ρ' w' c, Step s s' ρ ρ' w w' → R s' ρ' w' → VR ρ' v c → (cl = true → ρ' = ρ ∧ Clean w w') → K (a.put o.dst c) w') : o.wp P a w K Q := by
  obtain ⟨hok, hc⟩ := cop_ok (P := P) (cl := cl) (op := o.op) (by intro e; rw [e] at hic; simp [AOp.isCall] at hic)
  rw [hc] at h hic
  clear hc
  cases hop : o.op with
  | call c =>
    rw [hop] at h hok hic
    simp only [cop0] at h hic
    have hargs : ∀ x ∈ c.args.toList, (copd x).ok = true := fun x hx => hok x (by simp [Op.operands, Call.operands]; exact .inr (by simpa using hx))
    cases hcal : c.callee with
    | value x =>
      have hx : (copd x).ok = true := hok x (by simp [Op.operands, Call.operands, hcal])
      have dyn : ∀ (_ : ccall P c cl = .callv (copd x) cl (c.args.toList.map copd)), o.wp P a w K Q := by
        intro hcc
        rw [hcc] at h
        simp only [if_true] at h
        have hxv := aev_rel hE hx
        split at h
        · rename_i g caps hav
          rw [hav] at hxv
          simp only [VR] at hxv
          obtain ⟨cs, hval, hcs⟩ := hxv
          exact call_wp hS (exec_callv hop hcal hval w) ((VRs_map hE c.args.toList hargs).append hcs) hR h hf hK
        · cases h
      cases x with
      | func f =>
        have : ccall P c cl = if callable P f then .call f cl (c.args.toList.map copd) else covl P f c.args.toList := by unfold ccall; rw [hcal]
        rw [this] at h hic
        split at hic
        · rename_i hcb
          rw [if_pos hcb] at h
          simp only [if_true] at h
          exact call_wp hS (exec_call hE hop hcal w) (VRs_map hE c.args.toList hargs) hR h hf hK
        · rw [covl_call] at hic; cases hic
      | tmp t => exact dyn (by unfold ccall; rw [hcal])
      | const k => exact dyn (by unfold ccall; rw [hcal])
      | global k => exact dyn (by unfold ccall; rw [hcal])
    | invoke r m => unfold ccall at hic; rw [hcal] at hic; simp [AOp.isCall] at hic
    | builtin b =>
      exfalso
      unfold ccall at hic
      rw [hcal] at hic
      simp only at hic
      revert hic
      repeat' split
      all_goals simp [AOp.isCall]
  | makeFunc fn first caps =>
    rw [hop] at hic
    exfalso
    revert hic
    cases fn <;> simp only [cop0] <;> (try split) <;> simp [AOp.isCall]
  | _ =>
    rw [hop] at hic
    exfalso
    revert hic
    simp only [cop0]
    repeat' split
    all_goals simp [AOp.isCall]

/-! ### The other effects -/
theorem ERs.set {es : List (AV × AV × Nat)} {ms : List MapEntry} (h : ERs ρ es ms) (j : Nat) {e : AV × AV × Nat} {m : MapEntry} (k : ER ρ e m) : ERs ρ (es.set j e) (ms.set j m) := by
  refine ⟨by simp [h.1], fun i x hx => ?_⟩
  by_cases hij : i = j
  · subst hij
    have hlt : i < es.length := by have := (List.getElem?_eq_some_iff.1 hx).1; simpa using this
    rw [List.getElem?_set_self hlt] at hx
    injection hx with hx; subst hx
    exact ⟨m, List.getElem?_set_self (by rw [← h.1]; exact hlt), k⟩
  · rw [List.getElem?_set_ne (Ne.symm hij)] at hx ⊢
    exact h.2 i x hx
theorem ERs.snoc {es : List (AV × AV × Nat)} {ms : List MapEntry} (h : ERs ρ es ms) {e : AV × AV × Nat} {m : MapEntry} (k : ER ρ e m) : ERs ρ (es ++ [e]) (ms ++ [m]) := by
  have hl := h.1
  refine ⟨by simp [hl], fun i x hx => ?_⟩
  by_cases hi : i < es.length
  · rw [List.getElem?_append_left hi] at hx
    rw [List.getElem?_append_left (by omega)]
    exact h.2 i x hx
  · rw [List.getElem?_append_right (by omega)] at hx
    rw [List.getElem?_append_right (by omega)]
    rw [hl] at hx
    cases hq : i - ms.length with
    | zero => rw [hq] at hx; simp at hx; subst hx; exact ⟨m, by simp, k⟩
    | succ q => rw [hq] at hx; simp at hx
theorem ERs.erase {es : List (AV × AV × Nat)} {ms : List MapEntry} (h : ERs ρ es ms) (j : Nat) : ERs ρ (es.eraseIdx j) (ms.eraseIdx j) := by
  refine ⟨by simp [List.length_eraseIdx, h.1], fun i x hx => ?_⟩
  rw [List.getElem?_eraseIdx] at hx ⊢
  split at hx
  · rename_i hlt; rw [if_pos hlt]; exact h.2 i x hx
  · rename_i hlt; rw [if_neg hlt]; exact h.2 (i + 1) x hx
theorem ERs.blk {L : Loc} {w : World} {es : List (AV × AV × Nat)} {ck : Nat} {ces : Array MapEntry} (hh : w.heap[L.b]? = some (.map ces ck)) (h : ERs ρ es ces.toList) : BlkOk ρ L w (.map es ck) := by
  simp only [BlkOk]
  exact ⟨ces, hh, by simpa using h.1, fun i e he => by obtain ⟨m, hm, hr⟩ := h.2 i e he; exact ⟨m, by simpa using hm, hr⟩⟩

theorem setObj_heap {w : World} {b : Nat} {o o' : Obj} (h : w.heap[b]? = some o) (hc : ∀ c e f, o ≠ .cells c e f) : (setObj b o').run P w = .ok () { w with heap := w.heap.setIfInBounds b o' } ∧
    ({ w with heap := w.heap.setIfInBounds b o' } : World).heap[b]? = some o' ∧ (∀ k, k ≠ b → ({ w with heap := w.heap.setIfInBounds b o' } : World).heap[k]? = w.heap[k]?) := by
  have hlt : b < w.heap.size := (Array.getElem?_eq_some_iff.1 h).1
  refine ⟨?_, by simp [hlt], fun k hk => by simp [Array.getElem?_setIfInBounds_ne (Ne.symm hk)]⟩
  cases o <;> first | exact absurd rfl (hc _ _ _) | simp only [setObj, Sem.run, h]

/-- A map's block is written. -/
theorem R.setMap {s : St} {w : World} {id : Nat} {es es' : List (AV × AV × Nat)} {ck ck' : Nat} {L : Loc} {ces ces' : Array MapEntry} (hR : R s ρ w) (hg : s.get id = some (.map es ck)) (hL : ρ id = some L) (hh : w.heap[L.b]? = some (.map ces ck)) (he : ERs ρ es' ces'.toList) :
    ∃ w', (setObj L.b (.map ces' ck')).run P w = .ok () w' ∧ R (s.put id (.map es' ck')) ρ w' ∧ Step s (s.put id (.map es' ck')) ρ ρ w w' := by
  obtain ⟨h1, h2, h3⟩ := setObj_heap (P := P) (o' := .map ces' ck') hh (by intro _ _ _ q; cases q)
  exact ⟨_, h1, R.put hR hg rfl hL (ERs.blk h2 he) (by simp) rfl rfl rfl (Nat.le_refl _) h3⟩

theorem sameBits_eqF {k : FK} {x y : AV} {cx cy : Value} (hx : VR ρ x cx) (hy : VR ρ y cy) (h : eqF k x y = some true) (n : Nat) : Instr.sameBits n cy cx = true := by
  cases k
  · obtain ⟨a, b, rfl, rfl, e⟩ := eqF_bo h
    simp only [VR] at hx hy; subst hx; subst hy
    have : a = b := by simpa using e.symm
    subst this
    cases n <;> simp [Instr.sameBits]
  · obtain ⟨k, a, b, rfl, rfl, e⟩ := eqF_i h
    simp only [VR] at hx hy; subst hx; subst hy
    have : a = b := by simpa using e.symm
    subst this
    cases n <;> simp [Instr.sameBits]
  · obtain ⟨a, b, rfl, rfl, e⟩ := eqF_s h
    simp only [VR] at hx hy; subst hx; subst hy
    have e' : a.toList = b.toList := by rw [beq_toListBytes] at e; simpa using e.symm
    cases n <;> simp [Instr.sameBits, beq_toListBytes, e']
theorem sameBits_eqL : ∀ {ks : List FK} {xs ys : List AV} {cs ds : List Value}, VRs ρ xs cs → VRs ρ ys ds → eqL ks xs ys = some true → ∀ n, ds.length = cs.length ∧ ((ds.zip cs).all fun (x, y) => Instr.sameBits n x y) = true
  | [], [], [], cs, ds, hx, hy, _, n => by simp only [VRs] at hx hy; subst hx; subst hy; simp
  | [], [], _ :: _, _, _, _, _, h, _ => by simp [eqL] at h
  | [], _ :: _, _, _, _, _, _, h, _ => by simp [eqL] at h
  | _ :: _, [], _, _, _, _, _, h, _ => by simp [eqL] at h
  | _ :: _, _ :: _, [], _, _, _, _, h, _ => by simp [eqL] at h
  | k :: ks, x :: xs, y :: ys, cs, ds, hx, hy, h, n => by
    simp only [VRs] at hx hy
    obtain ⟨c, cr, rfl, hx1, hx2⟩ := hx
    obtain ⟨d, dr, rfl, hy1, hy2⟩ := hy
    simp only [eqL] at h
    split at h
    · rename_i p q hp hq
      injection h with h
      simp only [Bool.and_eq_true] at h
      obtain ⟨rfl, rfl⟩ := h
      have ih := sameBits_eqL hx2 hy2 hq n
      exact ⟨by simp [ih.1], by simp only [List.zip_cons_cons, List.all_cons, sameBits_eqF hx1 hy1 hp n, Bool.true_and]; exact ih.2⟩
    · cases h
theorem sameBits_eqK {k : EK} {x y : AV} {cx cy : Value} (hx : VR ρ x cx) (hy : VR ρ y cy) (h : eqK k x y = some true) : Instr.sameBits 10000 cy cx = true := by
  cases k <;> simp only [eqK] at h <;> (try (cases h; done))
  · cases x <;> cases y <;> simp at h
    simp only [VR] at hx hy
    obtain ⟨cs, rfl, hx⟩ := hx
    obtain ⟨ds, rfl, hy⟩ := hy
    obtain ⟨h1, h2⟩ := sameBits_eqL hx hy h 9999
    show Instr.sameBits (9999 + 1) _ _ = true
    simp only [Instr.sameBits, List.size_toArray, Bool.and_eq_true, beq_iff_eq]
    exact ⟨h1, h2⟩
  · exact sameBits_eqF hx hy h 10000
theorem findE_eq {k : EK} {x : AV} : ∀ {es : List (AV × AV × Nat)} {i j : Nat} {v : AV}, findE k x es i = some (some (j, v)) → i ≤ j ∧ ∃ y b, es[j - i]? = some (y, v, b) ∧ eqK k x y = some true
  | [], i, j, v, h => by simp [findE] at h
  | (y, u, b) :: es, i, j, v, h => by
    simp only [findE] at h
    split at h
    · rename_i he
      injection h with h; injection h with h
      obtain ⟨rfl, rfl⟩ := Prod.mk.inj h
      exact ⟨Nat.le_refl _, y, b, by simp, he⟩
    · obtain ⟨h1, y', b', h2, h3⟩ := findE_eq h
      refine ⟨by omega, y', b', ?_, h3⟩
      rw [show j - i = (j - (i + 1)) + 1 by omega]
      simpa using h2
    · cases h

theorem aappend_bytes {s s' : St} {sz bytes : Nat} {A : AV} {new : List AV} {k : Nat} {v : AV} (h : aappend s sz bytes A new k = some (v, s')) : k = 0 ∨ k * bytes ≤ roomBytes := by
  by_cases hk : k = 0
  · exact .inl hk
  · right
    cases A <;> simp only [aappend, hk, if_false] at h <;> (try (cases h; done))
    · split at h
      · split at h
        · split at h
          · rename_i hrb
            exact Nat.le_trans (Nat.mul_le_mul_right _ (by omega)) hrb.2
          · cases h
        · cases h
      · cases h
    · split at h
      · assumption
      · cases h
theorem bytesWorld_drawn (w : World) (e : TypeId) (b : ByteArray) : w.drawn ≤ (Lib.bytesWorld w e b).drawn := by
  unfold Lib.bytesWorld
  unfold World.freeze
  first | exact Nat.le_succ _ | (split <;> exact Nat.le_succ _)
theorem effs_wp {call : Nat → List AV → St → Option (AV × St)} {o : Oper} {a : Act} {env : Env} {s s' : St} {w : World} {cl : Bool} {v : AV} {K : Act → World → Prop} {Q : Exit → Act → World → Prop}
    (hE : EnvR ρ env a.tmps) (hR : R s ρ w) (hf : ∀ id, s.next ≤ id → id < s'.next → ρ id = none) (hic : (cop P cl o.op).isCall = false)
    (h : aeff call env s (cop P cl o.op) = some (v, s'))
    (hK : ∀ ρ' w' c, Step s s' ρ ρ' w w' → R s' ρ' w' → VR ρ' v c → K (a.put o.dst c) w') : o.wp P a w K Q := by
  obtain ⟨hok, hc⟩ := cop_ok (P := P) (cl := cl) (op := o.op) (by intro e; rw [e] at h; simp [aeff] at h)
  rw [hc] at h hic
  clear hc
  have done : ∀ {ρ' : Ren} {w' : World} {c : Value}, (execOp a.eval o).run P w = .ok (.value c) w' → Step s s' ρ ρ' w w' → R s' ρ' w' → VR ρ' v c → o.wp P a w K Q := by
    intro ρ' w' c hrun h1 h2 h3
    unfold Oper.wp
    rw [hrun]
    exact hK ρ' w' c h1 h2 h3
  have skip : ∀ {ρ' : Ren} {w' : World}, (execOp a.eval o).run P w = .ok .skip w' → Step s s' ρ ρ' w w' → R s' ρ' w' → VR ρ' v undef → o.wp P a w K Q := by
    intro ρ' w' hrun h1 h2 h3
    unfold Oper.wp
    rw [hrun]
    exact hK ρ' w' undef h1 h2 h3
  cases hop : o.op with
  | store t x y =>
    rw [hop] at h hok
    simp only [cop0] at h
    have hx := aev_rel hE (hok x (by simp [Op.operands]))
    have hy := aev_rel hE (hok y (by simp [Op.operands]))
    split at h
    · rename_i n hn
      simp only [aeff] at h
      split at h
      · rename_i id off hav
        rw [hav] at hx
        simp only [VR] at hx
        obtain ⟨L, hL, hval⟩ := hx
        split at h
        · rename_i cells hg
          split at h
          · rename_i hcs
            injection h with h
            obtain ⟨rfl, rfl⟩ := Prod.mk.inj h
            obtain ⟨ds, hds, hvs⟩ := VR.cells hcs.2.1 hy
            obtain ⟨w', hrun, hr, hst⟩ := R.store (P := P) hR hg hL (off := off) hvs hcs.2.1 (by omega)
            refine skip (ρ' := ρ) (w' := w') ?_ hst hr (by simp [VR])
            have hsz : ds.length = n := by have := hvs.len; omega
            simp [execOp, hop, Instr.storeAt, hval, Instr.sureAddr, storeVar, run_size hn, hsz, hds, hrun]
          · cases h
        · cases h
      · cases h
    · simp [aeff] at h
  | convert src dst x =>
    rw [hop] at h hok
    simp only [cop0] at h
    have hx := aev_rel hE (hok x (by simp [Op.operands]))
    split at h
    · simp [aeff] at h
    · split at h <;> simp [aeff] at h
    · rename_i e hu1 hu2
      split at h
      · rename_i hu3 hsz
        simp only [aeff] at h
        split at h
        · rename_i b hav
          rw [hav] at hx
          simp only [VR] at hx
          split at h
          · rename_i hb
            injection h with h
            obtain ⟨rfl, rfl⟩ := Prod.mk.inj h
            have hge : b.size ≤ grownCap w b.size 0 e := grownCap_ge w b.size 0 e
            have hfr : ρ s.next = none := hf _ (Nat.le_refl _) (by simp)
            have hbs : b.data.size = b.size := rfl
            have hcs : (Lib.bytesCells w e b).size = grownCap w b.size 0 e := by
              simp only [Lib.bytesCells, Array.size_append, Array.size_map, Array.size_replicate, hbs]
              omega
            have hclean : Clean w (Lib.bytesWorld w e b) := ⟨by rw [Lib.bytesWorld_size]; omega, rfl, rfl, rfl, bytesWorld_drawn w e b, fun k hk => Lib.bytesWorld_at_old w e b k hk⟩
            have hrun : (execOp a.eval o).run P w = .ok (.value (.slice (some ⟨w.heap.size, 0, none⟩) b.size (grownCap w b.size 0 e))) (Lib.bytesWorld w e b) := by
              have hconv := Lib.run_convert_string_bytes (P := P) w src dst e b hu1 hu2 hu3
              simp [execOp, hop, hx, hconv]
            obtain ⟨hr, hst⟩ := hR.push (b := .row (bytesAV b) false) (L := ⟨w.heap.size, 0, grownCap w b.size 0 e⟩) hclean hfr (Nat.le_refl _) (by rw [Lib.bytesWorld_size]; simp) (by
              simp only [BlkOk]
              refine ⟨_, e, _, Lib.bytesWorld_at_new w e b, hcs, by simp [bytesAV]; exact hge, fun i u hu => ?_, (fun h => by cases h), bytesAV_one b⟩
              simp only [bytesAV, List.getElem?_map] at hu
              obtain ⟨q, hq, rfl⟩ := Option.map_eq_some_iff.1 hu
              refine ⟨.int .u8 (q.toNat : Int), ?_, by simp [VR]⟩
              have hlt : i < b.data.size := by have := (List.getElem?_eq_some_iff.1 hq).1; simpa using this
              simp only [Nat.zero_add, Lib.bytesCells]
              rw [Array.getElem?_append_left (by simpa using hlt)]
              simp only [Array.getElem?_map, Option.map_eq_some_iff]
              exact ⟨q, by simpa using hq, rfl⟩)
            refine done hrun hst hr ?_
            simp only [VR]
            exact ⟨_, _, _, Ren.set_same _ _ _, rfl, hge, (fun _ q => by cases q), .inr ⟨by simp, by simp⟩⟩
          · cases h
        · cases h
      · simp [aeff] at h
    · simp [aeff] at h
  | makeMap t r =>
    rw [hop] at h hok
    simp only [cop0] at h
    split at h
    · rename_i kt e hu
      simp only [aeff] at h
      have hgo : s' = s.push (.map [] 0) ∧ v = .mp s.next ∧ ∃ n, (execOp a.eval o).run P w = .ok (.value (.map (some n))) (pushW w (.map #[] 0)) ∧ n = w.heap.size := by
        cases r with
        | none =>
          simp at h
          exact ⟨h.2.symm, h.1.symm, _, by simp [execOp, hop, Instr.makeMap, pushW], rfl⟩
        | some x =>
          have hx := aev_rel hE (hok x (by simp [Op.operands]))
          simp only [Option.map_some] at h
          split at h
          · rename_i hq; cases hq
          · rename_i k n hq
            injection hq with hq
            rw [hq] at hx
            simp only [VR] at hx
            injection h with h
            obtain ⟨rfl, rfl⟩ := Prod.mk.inj h
            exact ⟨rfl, rfl, _, by simp [execOp, hop, Instr.makeMap, run_underlying hu, hx, asInt, asIntOf, pushW], rfl⟩
          · cases h
      obtain ⟨rfl, rfl, n, hrun, rfl⟩ := hgo
      have hfr : ρ s.next = none := hf _ (Nat.le_refl _) (by simp)
      obtain ⟨hr, hst⟩ := hR.push (b := .map [] 0) (L := ⟨w.heap.size, 0, 0⟩) (clean_pushW w (.map #[] 0)) hfr (Nat.le_refl _) (by simp) (ERs.blk (ces := #[]) (pushW_new w _) ⟨rfl, by simp⟩)
      exact done hrun hst hr (by simp only [VR]; exact ⟨_, Ren.set_same _ _ _, rfl⟩)
    · simp [aeff] at h
  | mapUpdate t m k x =>
    rw [hop] at h hok
    simp only [cop0] at h
    split at h
    · rename_i kt e hu
      split at h
      · rename_i k' hk
        simp only [aeff] at h
        have hm := aev_rel hE (hok m (by simp [Op.operands]))
        have hkv := aev_rel hE (hok k (by simp [Op.operands]))
        have hxv := aev_rel hE (hok x (by simp [Op.operands]))
        split at h
        · rename_i hkey
          simp only [Bool.and_eq_true] at hkey
          have hck := fun em w => run_checkKey_ok (P := P) hk hkey.1 hkv em w
          split at h
          · rename_i id hav
            rw [hav] at hm
            simp only [VR] at hm
            obtain ⟨L, hL, hval⟩ := hm
            split at h
            · rename_i es ck hg
              obtain ⟨ces, hh, hEr⟩ := map_entries hR hg hL
              have hget : (getObj L.b).run P w = .ok (.map ces ck) w := by simp [getObj, Sem.run, hh]
              split at h
              · rename_i j v' hfd
                obtain ⟨q, hq, hfound⟩ := run_findKey (P := P) hk hkv w hEr hfd
                cases q with
                | none => exact absurd hfound (by simp [Found])
                | some jc =>
                  obtain ⟨j', c⟩ := jc
                  simp only [Found] at hfound
                  obtain ⟨rfl, _⟩ := hfound
                  obtain ⟨_, y, b, hy, heq⟩ := findE_eq hfd
                  simp only [Nat.sub_zero] at hy
                  rw [hy] at h
                  injection h with h
                  obtain ⟨rfl, rfl⟩ := Prod.mk.inj h
                  obtain ⟨me, hme, e1, e2, e3⟩ := hEr.2 j _ hy
                  have hsame := sameBits_eqK hkv e1 heq
                  have hme' : ces[j]? = some me := by simpa using hme
                  obtain ⟨w', hrun, hr, hst⟩ := hR.setMap (P := P) (es' := es.set j (aev env (copd k), aev env (copd x), b)) (ck' := ck) (ces' := ces.modify j fun e => { e with key := a.eval k, val := a.eval x }) hg hL hh (by
                    have := hEr.set j (e := (aev env (copd k), aev env (copd x), b)) (m := { me with key := a.eval k, val := a.eval x }) ⟨hkv, hxv, e3⟩
                    have hlt : j < ces.size := (Array.getElem?_eq_some_iff.1 hme').1
                    have hset : (ces.modify j fun e => { e with key := a.eval k, val := a.eval x }).toList = ces.toList.set j { me with key := a.eval k, val := a.eval x } := by
                      apply List.ext_getElem?
                      intro i
                      by_cases hij : i = j
                      · subst hij
                        have hgi := (Array.getElem?_eq_some_iff.1 hme').2
                        simp [Array.getElem?_modify, hme', hlt, hgi]
                      · simp [Array.getElem?_modify, Ne.symm hij, List.getElem?_set_ne (Ne.symm hij)]
                    rw [hset]; exact this)
                  refine skip (ρ' := ρ) (w' := w') ?_ hst hr (by simp [VR])
                  simp [execOp, hop, Instr.mapUpdate, run_underlying hu, hval, hget, hck, hq, hme', Instr.keyThatStays, hsame, hrun]
              · rename_i hfd
                injection h with h
                obtain ⟨rfl, rfl⟩ := Prod.mk.inj h
                obtain ⟨q, hq, hfound⟩ := run_findKey (P := P) hk hkv w hEr hfd
                cases q with
                | some jc => exact absurd hfound (by simp [Found])
                | none =>
                  obtain ⟨w', hrun, hr, hst⟩ := hR.setMap (P := P) (es' := es ++ [(aev env (copd k), aev env (copd x), ck)]) (ck' := ck + 1) (ces' := ces.push { key := a.eval k, val := a.eval x, born := ck }) hg hL hh (by
                    have := hEr.snoc (e := (aev env (copd k), aev env (copd x), ck)) (m := { key := a.eval k, val := a.eval x, born := ck }) ⟨hkv, hxv, rfl⟩
                    simpa using this)
                  refine skip (ρ' := ρ) (w' := w') ?_ hst hr (by simp [VR])
                  simp [execOp, hop, Instr.mapUpdate, run_underlying hu, hval, hget, hck, hq, hrun]
              · cases h
            · cases h
          · cases h
        · cases h
      · simp [aeff] at h
    · simp [aeff] at h
  | call c =>
    rw [hop] at h hok hic
    simp only [cop0] at h hic
    have hargs : ∀ x ∈ c.args.toList, (copd x).ok = true := fun x hx => hok x (by simp [Op.operands, Call.operands]; exact .inr (by simpa using hx))
    cases hcal : c.callee with
    | value f =>
      exfalso
      unfold ccall at h hic
      rw [hcal] at h hic
      cases f <;> simp only at h hic
      · simp [AOp.isCall] at hic
      · simp [AOp.isCall] at hic
      · simp [AOp.isCall] at hic
      · split at hic
        · simp [AOp.isCall] at hic
        · rename_i hcb; rw [if_neg hcb, covl_eff] at h; cases h
    | invoke r m => unfold ccall at h; rw [hcal] at h; simp [aeff] at h
    | builtin b =>
      have hex := exec_builtin (a := a) hop hcal
      unfold ccall at h
      rw [hcal] at h
      simp only at h
      split at h
      · split at h <;> simp [aeff] at h
      · split at h <;> simp [aeff] at h
      · rename_i sA xA t u hA hT
        have hA' : c.args = #[sA, xA] := by apply Array.ext'; simpa using hA
        have hT' : c.argTypes = #[t, u] := by apply Array.ext'; simpa using hT
        have hs := aev_rel hE (hargs sA (by rw [hA]; simp))
        have hx := aev_rel hE (hargs xA (by rw [hA]; simp))
        split at h
        · rename_i e he
          have hu := slelem_spec he
          split at h
          · rename_i n b z k hn hb hz hux
            split at h
            · rename_i hnb
              simp only [Bool.and_eq_true, bne_iff_ne, ne_eq] at hnb
              obtain ⟨i, zv, hi, hzv, hzr, hzl, hzo⟩ := czero_spec (ρ := ρ) hz
              obtain ⟨i', hi', hin⟩ := csize_spec hn
              rw [hi] at hi'; injection hi' with hi'; subst hi'
              obtain ⟨i', hi', hbi⟩ := cbytes_spec hb
              rw [hi] at hi'; injection hi' with hi'; subst hi'
              subst hbi
              have hzs : zv.cells.size = n := by have := hzr.len; simp at this; omega
              simp only [aeff] at h
              split at h
              · rename_i q hav
                rw [hav] at hx
                simp only [VR] at hx
                split at h
                · rename_i hq
                  obtain ⟨m, rfl⟩ : ∃ m : Nat, q = (m : Int) := ⟨q.toNat, by omega⟩
                  simp only [Int.toNat_natCast] at h
                  have hzz : VRs ρ (zeros z m) (if m * n = 0 then [] else (Builtin.zeroCells zv.cells m).toList) := by
                    have h0 := VRs_zeros hzr m (m * n) (by rw [hzl, hin])
                    by_cases hmn : m * n = 0
                    · rw [if_pos hmn]
                      rw [hmn] at h0
                      have : ((Array.range 0).map fun i => zv.cells[i % zv.cells.size]!).toList = [] := by
                        have hr0 : Array.range 0 = #[] := rfl
                        rw [hr0]; simp
                      rwa [this] at h0
                    · rw [if_neg hmn]
                      have : (Builtin.zeroCells zv.cells m) = (Array.range (m * n)).map fun i => zv.cells[i % zv.cells.size]! := by unfold Builtin.zeroCells; rw [hzs]
                      rw [this]; exact h0
                  have hkb := aappend_bytes h
                  obtain ⟨ρ', w', cv, hrun, hv, hst, hr⟩ := append_step (P := P) (run := fun ca w => (Builtin.append_ #[t, u] o.type #[ca, .int .i64 (m : Int)]).run P w) (e := e) hR hin hzs hnb.1 hs hzz (by rw [zeros_length, hzl, hin]) (zeros_one hzo m)
                    (fun B nn cc hval hle => by
                      rw [hval]
                      rcases hkb with hkb | hkb
                      · exact run_appendz_room hu hi hin hzv hnb.2 hux (by rw [hkb]; simp) hle
                      · exact run_appendz_room hu hi hin hzv hnb.2 hux hkb hle)
                    (fun B nn cc olds hval hold hlt hrb => by
                      rw [hval] at hold ⊢
                      rw [← hin] at hold
                      exact run_appendz_grow hu hi hin hzv hnb.2 hux (by rw [hin] at hold; exact hold) hlt hrb) hf h
                  refine done (ρ' := ρ') (w' := w') (c := cv) ?_ hst hr hv
                  rw [hex]
                  have hrun' : (Builtin.append_ #[t, u] o.type #[a.eval sA, .int .i64 (m : Int)]).run P w = .ok cv w' := hrun
                  simp [builtin, hA', hT', hx, hrun']
                · cases h
              · cases h
            · simp [aeff] at h
          · rename_i n b z d hnd hn hb hz hux
            split at h
            · rename_i hnb
              simp only [Bool.and_eq_true, bne_iff_ne, ne_eq] at hnb
              obtain ⟨i, zv, hi, hzv, hzr, hzl, hzo⟩ := czero_spec (ρ := ρ) hz
              obtain ⟨i', hi', hin⟩ := csize_spec hn
              rw [hi] at hi'; injection hi' with hi'; subst hi'
              obtain ⟨i', hi', hbi⟩ := cbytes_spec hb
              rw [hi] at hi'; injection hi' with hi'; subst hi'
              subst hbi
              have hzs : zv.cells.size = n := by have := hzr.len; simp at this; omega
              have hd : ∀ k, d ≠ .int k := by
                intro k q; subst q
                first | exact hnd k rfl | exact hnd k hux
              simp only [aeff] at h
              split at h
              · rename_i new k hsh hlo
                obtain ⟨h1, h2, h3, cs, h4, h5⟩ := run_shown (P := P) hR hx hsh hlo k (Nat.le_refl _)
                rw [List.take_of_length_le (by omega)] at h5
                obtain ⟨ρ', w', cv, hrun, hv, hst, hr⟩ := append_step (P := P) (run := fun ca w => (Builtin.append_ #[t, u] o.type #[ca, a.eval xA]).run P w) (e := e) hR hin hzs hnb.1 hs h5 h2 h1
                  (fun B nn cc hval hle => by
                    rw [hval]
                    exact run_append_room hu hn hux hd (h3 w) (h4 w rfl) hle)
                  (fun B nn cc olds hval hold hlt hrb => by
                    rw [hval] at hold ⊢
                    exact run_append_grow hu hi hin hzv hnb.2 hux hd h3 (h4 w.drew rfl) hold hlt hrb) hf h
                refine done (ρ' := ρ') (w' := w') (c := cv) ?_ hst hr hv
                rw [hex]
                have hrun' : (Builtin.append_ #[t, u] o.type #[a.eval sA, a.eval xA]).run P w = .ok cv w' := hrun
                simp [builtin, hA', hT', hrun']
              · cases h
            · simp [aeff] at h
          · simp [aeff] at h
        · simp [aeff] at h
      · rename_i dA xA t u hA hT
        have hA' : c.args = #[dA, xA] := by apply Array.ext'; simpa using hA
        have hT' : c.argTypes = #[t, u] := by apply Array.ext'; simpa using hT
        have hd := aev_rel hE (hargs dA (by rw [hA]; simp))
        have hx := aev_rel hE (hargs xA (by rw [hA]; simp))
        split at h
        · rename_i e he
          have hu := slelem_spec he
          split at h
          · rename_i n hn
            split at h
            · rename_i hn0
              simp only [aeff] at h
              split at h
              · rename_i k hav hlo
                split at h
                · rename_i new hsh
                  rw [hav] at hd
                  injection h with h
                  obtain ⟨rfl, rfl⟩ := Prod.mk.inj h
                  simp only [VR] at hd
                  obtain ⟨_, _, h3, cs, h4, _⟩ := run_shown (P := P) hR hx hsh hlo 0 (Nat.zero_le _)
                  refine done (ρ' := ρ) (w' := w) (c := .int .i64 0) ?_ (Step.refl _ _ _) hR (by simp [VR])
                  rw [hex]
                  simp [builtin, hA', hT', Builtin.copy_, run_underlying hu, hd, h3, run_size hn, h4 w rfl, goInt]
                · cases h
              · rename_i id off len cap z k hav hlo
                rw [hav] at hd
                simp only [VR] at hd
                obtain ⟨L, A, cc, hL, hval, hlc, _, hc⟩ := hd
                split at h
                · rename_i hz
                  subst hz
                  split at h
                  · rename_i new cells hsh hg
                    split at h
                    · rename_i hfit
                      injection h with h
                      obtain ⟨rfl, rfl⟩ := Prod.mk.inj h
                      obtain ⟨h1, h2, h3, cs, h4, h5⟩ := run_shownP (P := P) hR hx hsh hlo (Nat.min_le_left _ _)
                      have hmk : min k len * z ≤ len * z := Nat.mul_le_mul_right z (Nat.min_le_right _ _)
                      have hlz : len * z ≤ cc * z := Nat.mul_le_mul_right z hlc
                      obtain ⟨_, _, _, _, _, hLn, _⟩ := row_cells hR hg hL
                      rcases hc with hc | ⟨rfl, hc⟩
                      · have hl0 : len = 0 := by omega
                        subst hl0
                        have hn0 : new = [] := by
                          apply List.eq_nil_of_length_eq_zero
                          rw [h2]
                          simp
                        subst hn0
                        have hcs0 : cs = [] := by
                          have := h5.len
                          apply List.eq_nil_of_length_eq_zero
                          simp at this
                          omega
                        subst hcs0
                        obtain ⟨w', hrun, hr, hst⟩ := R.storeX (P := P) hR hg hL (off := off) (vs := []) (ds := []) VRs_nil (by simp) hfit (by simp; omega)
                        have hw : w' = w := by simp [storeCells] at hrun; exact hrun.symm
                        subst hw
                        refine done (ρ' := ρ) (w' := w') (c := .int .i64 ((min k 0 : Nat) : Int)) ?_ hst hr (by simp [VR])
                        rw [hex]
                        have h4' := h4 w' rfl
                        simp at h4'
                        simp [builtin, hA', hT', Builtin.copy_, run_underlying hu, hval, h3, run_size hn, h4', goInt, storeCells]
                      · obtain ⟨w', hrun, hr, hst⟩ := R.storeX (P := P) hR hg hL (off := off) h5 h1 hfit (by omega)
                        refine done (ρ' := ρ) (w' := w') (c := .int .i64 ((min k len : Nat) : Int)) ?_ hst hr (by simp [VR])
                        rw [hex]
                        have hmin : Nat.min k len = min k len := rfl
                        simp [builtin, hA', hT', Builtin.copy_, run_underlying hu, hval, h3, run_size hn, hmin, h4 w rfl, hrun, goInt]
                    · cases h
                  · cases h
                · cases h
              · cases h
            · simp [aeff] at h
          · simp [aeff] at h
        · simp [aeff] at h
      · rename_i xA t hA hT
        have hA' : c.args = #[xA] := by apply Array.ext'; simpa using hA
        have hT' : c.argTypes = #[t] := by apply Array.ext'; simpa using hT
        have hx := aev_rel hE (hargs xA (by rw [hA]; simp))
        have hans : VR ρ (.tup []) (.tuple #[]) := by simp only [VR]; exact ⟨[], rfl, VRs_nil⟩
        split at h
        · rename_i e he
          have hu := slelem_spec he
          split at h
          · rename_i z hz
            split at h
            · rename_i hz0
              obtain ⟨i, zv, hi, hzv, hzr, hzl, hzo⟩ := czero_spec (ρ := ρ) hz
              simp only [aeff] at h
              split at h
              · rename_i hav
                rw [hav] at hx
                simp only [VR] at hx
                injection h with h
                obtain ⟨rfl, rfl⟩ := Prod.mk.inj h
                refine done (ρ' := ρ) (w' := w) (c := .tuple #[]) ?_ (Step.refl _ _ _) hR hans
                rw [hex]
                simp [builtin, hA', hT', Builtin.clear_, run_underlying hu, hx]
              · rename_i id off len cap sz hav
                rw [hav] at hx
                simp only [VR] at hx
                obtain ⟨L, A, cc, hL, hval, hlc, _, hc⟩ := hx
                split at h
                · rename_i hl0
                  subst hl0
                  injection h with h
                  obtain ⟨rfl, rfl⟩ := Prod.mk.inj h
                  refine done (ρ' := ρ) (w' := w) (c := .tuple #[]) ?_ (Step.refl _ _ _) hR hans
                  rw [hex]
                  simp [builtin, hA', hT', Builtin.clear_, run_underlying hu, hval]
                · rename_i hl0
                  split at h
                  · rename_i hsz
                    split at h
                    · rename_i cells hg
                      split at h
                      · rename_i hfit
                        injection h with h
                        obtain ⟨rfl, rfl⟩ := Prod.mk.inj h
                        obtain ⟨m, rfl⟩ : ∃ m, len = m + 1 := ⟨len - 1, by omega⟩
                        have hzs : zv.cells.size = z.length := by have := hzr.len; simp at this; omega
                        rcases hc with hc | ⟨rfl, hc⟩
                        · exfalso
                          omega
                        · have hzz : VRs ρ (zeros z (m + 1)) (Builtin.zeroCells zv.cells (m + 1)).toList := by
                            have h0 := VRs_zeros hzr (m + 1) ((m + 1) * z.length) rfl
                            have : (Builtin.zeroCells zv.cells (m + 1)) = (Array.range ((m + 1) * z.length)).map fun i => zv.cells[i % zv.cells.size]! := by unfold Builtin.zeroCells; rw [hzs]
                            rw [this]; exact h0
                          obtain ⟨w', hrun, hr, hst⟩ := R.store (P := P) hR hg hL (off := off) hzz (zeros_one hzo (m + 1)) (by rw [zeros_length, ← hsz]; omega)
                          refine done (ρ' := ρ) (w' := w') (c := .tuple #[]) ?_ hst hr hans
                          rw [hex]
                          simp [builtin, hA', hT', Builtin.clear_, run_underlying hu, hval, run_zero hi hzv, hrun]
                      · cases h
                    · cases h
                  · cases h
              · cases h
            · simp [aeff] at h
          · simp [aeff] at h
        · simp [aeff] at h
      · simp [aeff] at h
      · simp [aeff] at h
      · rename_i m k t ts hA hT
        have hA' : c.args = #[m, k] := by apply Array.ext'; simpa using hA
        have hT0 : c.argTypes[0]? = some t := by
          have : c.argTypes.toList[0]? = some t := by rw [hT]; rfl
          simpa using this
        have hm := aev_rel hE (hargs m (by rw [hA]; simp))
        have hkv := aev_rel hE (hargs k (by rw [hA]; simp))
        split at h
        · rename_i kt e hu
          split at h
          · rename_i k' hk
            simp only [aeff] at h
            split at h
            · rename_i hkey
              have hck := fun em w => run_checkKey_ok (P := P) hk hkey hkv em w
              split at h
              · rename_i hav
                rw [hav] at hm
                simp only [VR] at hm
                injection h with h
                obtain ⟨rfl, rfl⟩ := Prod.mk.inj h
                refine done (ρ' := ρ) (w' := w) (c := .tuple #[]) ?_ (Step.refl _ _ _) hR (by simp only [VR]; exact ⟨[], rfl, VRs_nil⟩)
                rw [hex]
                simp [builtin, hA', hT0, Builtin.delete_, run_underlying hu, hm, hck]
              · rename_i id hav
                rw [hav] at hm
                simp only [VR] at hm
                obtain ⟨L, hL, hval⟩ := hm
                split at h
                · rename_i es ck hg
                  obtain ⟨ces, hh, hEr⟩ := map_entries hR hg hL
                  have hget : (getObj L.b).run P w = .ok (.map ces ck) w := by simp [getObj, Sem.run, hh]
                  split at h
                  · rename_i j v' hfd
                    injection h with h
                    obtain ⟨rfl, rfl⟩ := Prod.mk.inj h
                    obtain ⟨q, hq, hfound⟩ := run_findKey (P := P) hk hkv w hEr hfd
                    cases q with
                    | none => exact absurd hfound (by simp [Found])
                    | some jc =>
                      obtain ⟨j', cc⟩ := jc
                      simp only [Found] at hfound
                      obtain ⟨rfl, _⟩ := hfound
                      obtain ⟨w', hrun, hr, hst⟩ := hR.setMap (P := P) (es' := es.eraseIdx j) (ck' := ck) (ces' := ces.eraseIdxIfInBounds j) hg hL hh (by
                        have := hEr.erase j
                        have hset : (ces.eraseIdxIfInBounds j).toList = ces.toList.eraseIdx j := by
                          unfold Array.eraseIdxIfInBounds
                          split
                          · simp
                          · rename_i hlt
                            rw [List.eraseIdx_of_length_le (by simpa using hlt)]
                        rw [hset]; exact this)
                      refine done (ρ' := ρ) (w' := w') (c := .tuple #[]) ?_ hst hr (by simp only [VR]; exact ⟨[], rfl, VRs_nil⟩)
                      rw [hex]
                      simp [builtin, hA', hT0, Builtin.delete_, run_underlying hu, hval, hget, hck, hq, hrun]
                  · rename_i hfd
                    injection h with h
                    obtain ⟨rfl, rfl⟩ := Prod.mk.inj h
                    obtain ⟨q, hq, hfound⟩ := run_findKey (P := P) hk hkv w hEr hfd
                    cases q with
                    | some jc => exact absurd hfound (by simp [Found])
                    | none =>
                      obtain ⟨s1, s2, s3⟩ := setObj_heap (P := P) (o' := .map ces ck) hh (by intro _ _ _ q; cases q)
                      have hclean : Clean w { w with heap := w.heap.setIfInBounds L.b (.map ces ck) } := ⟨by simp, rfl, rfl, rfl, Nat.le_refl _, fun b hb => by
                        by_cases hbl : b = L.b
                        · subst hbl; rw [s2, hh]
                        · exact s3 b hbl⟩
                      refine done (ρ' := ρ) (w' := { w with heap := w.heap.setIfInBounds L.b (.map ces ck) }) (c := .tuple #[]) ?_ (hclean.step s ρ) (hR.clean hclean) (by simp only [VR]; exact ⟨[], rfl, VRs_nil⟩)
                      rw [hex]
                      simp [builtin, hA', hT0, Builtin.delete_, run_underlying hu, hval, hget, hck, hq, s1]
                  · cases h
                · cases h
              · cases h
            · cases h
          · simp [aeff] at h
        · simp [aeff] at h
      · simp [aeff] at h
  | makeFunc fn first caps =>
    rw [hop] at h
    cases fn <;> simp only [cop0] at h <;> (try split at h) <;> simp [aeff] at h
  | range t x =>
    rw [hop] at h hok
    simp only [cop0] at h
    split at h
    · rename_i kt e hu
      simp only [aeff] at h
      have hx := aev_rel hE (hok x (by simp [Op.operands]))
      have hfin : ∀ (b : AB) (o' : Obj), v = .ptr s.next 0 → s' = s.push b → (Instr.range t (a.eval x)).run P w = .ok (.pointer (some ⟨w.heap.size, 0, none⟩)) (pushW w o') →
          BlkOk ρ ⟨w.heap.size, 0, 0⟩ (pushW w o') b → o.wp P a w K Q := by
        intro b o' hv hs hrun hb
        subst hv; subst hs
        have hfr : ρ s.next = none := hf _ (Nat.le_refl _) (by simp)
        obtain ⟨hr, hst⟩ := hR.push (b := b) (L := ⟨w.heap.size, 0, 0⟩) (clean_pushW w o') hfr (Nat.le_refl _) (by simp) (hb.mono (Ren.le_set _ hfr))
        exact done (c := .pointer (some ⟨w.heap.size, 0, none⟩)) (by simp only [execOp, hop, Sem.run_bind, hrun, Result.andThen_ok, Sem.run_pure]) hst hr (by simp only [VR]; exact ⟨_, Ren.set_same _ _ _, rfl⟩)
      split at h
      · rename_i hav
        rw [hav] at hx
        simp only [VR] at hx
        injection h with h
        obtain ⟨rfl, rfl⟩ := Prod.mk.inj h
        refine hfin _ (.mapIter none 0 #[] 0) rfl rfl (by simp [Instr.range, run_underlying hu, hx, pushW]) ?_
        simp only [BlkOk]
        exact ⟨none, pushW_new w _, by simp, .inl ⟨by simp, rfl⟩⟩
      · rename_i id hav
        rw [hav] at hx
        simp only [VR] at hx
        obtain ⟨L, hL, hval⟩ := hx
        split at h
        · rename_i es ck hg
          injection h with h
          obtain ⟨rfl, rfl⟩ := Prod.mk.inj h
          obtain ⟨ces, hh, hEr⟩ := map_entries hR hg hL
          have hget : (getObj L.b).run P w = .ok (.map ces ck) w := by simp [getObj, Sem.run, hh]
          refine hfin _ (.mapIter (some L.b) ck #[] ck) rfl rfl (by simp [Instr.range, run_underlying hu, hval, hget, pushW]) ?_
          simp only [BlkOk]
          exact ⟨some L.b, pushW_new w _, by simp, .inr ⟨id, L, by simp, hL, rfl⟩⟩
        · cases h
      · cases h
    · simp [aeff] at h
  | _ =>
    rw [hop] at h
    simp only [cop0] at h
    repeat' split at h
    all_goals simp [aeff] at h

end Go.AM
end
/-
  One operation, and a region in the order of the text. Own work of this project.
-/
section
namespace Go.AM
open Go

variable {P : Program} {ρ : Ren}

/-- No number from 's.next' on is in use. -/
def Free (s : St) (ρ : Ren) : Prop := ∀ id, s.next ≤ id → ρ id = none
theorem Free.step {s s' : St} {ρ ρ' : Ren} {w w' : World} (h : Free s ρ) (k : Step s s' ρ ρ' w w') : Free s' ρ' := fun id hid => by
  have := k.next
  rw [k.ren id (.inr hid)]
  exact h id (by omega)
theorem Free.le {s s' : St} {ρ ρ' : Ren} {w w' : World} (h : Free s ρ) (k : Step s s' ρ ρ' w w') : ρ.le ρ' := k.le fun id h1 _ => h id h1

theorem bool_of_VR {v : AV} {b : Bool} (h : VR ρ v (.bool b)) : v = .bool b ∨ v = .any := by
  cases v <;> simp [VR, undef] at h ⊢
  exact h.symm
theorem wanted_rel {ops : Array Oper} {o : Oper} {env : Env} {a : Act} {g : Option (Nat × Bool)} {d : Option Nat} {op : AOp} {r : Option Nat} {fr : Bool} {b : Bool} (hE : EnvR ρ env a.tmps) (hg : guardOf ops o = some g)
    (hw : wanted ⟨d, op, g, r, fr⟩ env = some b) : Region.wanted o (yielded ops a.tmps) = b := by
  unfold guardOf at hg
  unfold wanted at hw
  unfold Region.wanted
  cases hgo : o.guard with
  | none =>
    rw [hgo] at hg
    injection hg with hg; subst hg
    injection hw
  | some jw =>
    obtain ⟨j, want⟩ := jw
    rw [hgo] at hg
    simp only at hg
    cases hd : (ops[j]?).bind (·.dst) with
    | none => rw [hd] at hg; cases hg
    | some t =>
      rw [hd] at hg
      injection hg with hg; subst hg
      have hv := hE.at_ t
      simp only at hw ⊢
      have hy : yielded ops a.tmps j = match a.tmps[t]? with | some (.bool b) => some b | _ => none := by
        unfold yielded
        rw [hd]
        rfl
      rw [hy]
      cases htm : a.tmps[t]? with
      | none =>
        have hu : a.tmps.getD t undef = undef := by simp [Array.getD_eq_getD_getElem?, htm]
        rw [hu] at hv
        cases hev : env.getD t .und <;> rw [hev] at hv hw <;> simp [VR, undef] at hv hw ⊢ <;> exact hw
      | some c =>
        have hu : a.tmps.getD t undef = c := by simp [Array.getD_eq_getD_getElem?, htm]
        rw [hu] at hv
        by_cases hb : ∃ b, c = .bool b
        · obtain ⟨b, rfl⟩ := hb
          rcases bool_of_VR hv with e | e <;> rw [e] at hw <;> simp only at hw
          · have hw' := Option.some.inj hw
            first
              | exact hw'
              | (rw [← hw']; rfl)
              | (rw [← hw'])
          · cases hw
        · have h1 : (match c with | .bool b => some b | _ => none : Option Bool) = none := by
            cases c <;> first | rfl | exact absurd ⟨_, rfl⟩ hb
          have h2 : ∀ b, env.getD t .und ≠ .bool b := by
            intro b e
            rw [e] at hv
            simp only [VR] at hv
            exact hb ⟨b, hv⟩
          have h3 : (match some c with | some (.bool b) => some b | _ => none : Option Bool) = none := by
            cases c <;> first | rfl | exact absurd ⟨_, rfl⟩ hb
          rw [h3]
          cases hev : env.getD t .und <;> rw [hev] at hw <;> first | exact absurd hev (h2 _) | (injection hw) | (cases hw)

/-- An operation that looks at no memory. -/
theorem wp_pure {o : Oper} {a : Act} {env : Env} {cl : Bool} {v : AV} {w : World} {K : Act → World → Prop} {Q : Exit → Act → World → Prop} (hE : EnvR ρ env a.tmps) (h : apure env (cop P cl o.op) = some v)
    (hK : ∀ c, VR ρ v c → K (a.put o.dst c) w) : o.wp P a w K Q := by
  obtain ⟨c, hc, hrun⟩ := pure_run hE h
  unfold Oper.wp
  rw [hrun w]
  exact hK c hc
theorem wp_read {call : Nat → List AV → St → Option (AV × St)} {o : Oper} {a : Act} {env : Env} {cl : Bool} {s : St} {v : AV} {w : World} {K : Act → World → Prop} {Q : Exit → Act → World → Prop} (hE : EnvR ρ env a.tmps) (hR : R s ρ w)
    (hn : (cop P cl o.op).isCall = false) (h : aread call env s (cop P cl o.op) = some v) (hK : ∀ c, VR ρ v c → K (a.put o.dst c) w) : o.wp P a w K Q := by
  obtain ⟨c, hc, hrun⟩ := read_run hE hR hn h
  unfold Oper.wp
  rw [hrun]
  exact hK c hc

theorem isCall_cl {cl : Bool} {op : Op} {f : Nat} {k : Bool} {args : List AO} (h : cop P cl op = .call f k args) : k = cl := by
  obtain ⟨_, hc⟩ := cop_ok (P := P) (cl := cl) (op := op) (by rw [h]; simp)
  rw [hc] at h
  cases op with
  | call c =>
    simp only [cop0, ccall] at h
    revert h
    repeat' split
    all_goals first | (intro h; have h2 := congrArg AOp.isCall h; rw [covl_call] at h2; cases h2) | simp
    intro _ e _
    exact e.symm
  | makeFunc fn first caps =>
    exfalso
    revert h
    cases fn <;> simp only [cop0] <;> (try split) <;> simp
  | _ =>
    exfalso
    revert h
    simp only [cop0]
    repeat' split
    all_goals simp
theorem isCallv_cl {cl : Bool} {op : Op} {x : AO} {k : Bool} {args : List AO} (h : cop P cl op = .callv x k args) : k = cl := by
  obtain ⟨_, hc⟩ := cop_ok (P := P) (cl := cl) (op := op) (by rw [h]; simp)
  rw [hc] at h
  cases op with
  | call c =>
    simp only [cop0, ccall] at h
    revert h
    repeat' split
    all_goals first | (intro h; have h2 := congrArg AOp.isCall h; rw [covl_call] at h2; cases h2) | simp
    intro _ e _
    exact e.symm
  | makeFunc fn first caps =>
    exfalso
    revert h
    cases fn <;> simp only [cop0] <;> (try split) <;> simp
  | _ =>
    exfalso
    revert h
    simp only [cop0]
    repeat' split
    all_goals simp

/-- A call, clean or not. -/
theorem wp_callc {call : Nat → List AV → St → Option (AV × St)} (hS : Sound P call) {o : Oper} {a : Act} {env : Env} {s : St} {v : AV} {w : World} {K : Act → World → Prop} {Q : Exit → Act → World → Prop} (hE : EnvR ρ env a.tmps) (hR : R s ρ w) (hf : Free s ρ)
    (hn : (cop P true o.op).isCall = true) (h : aread call env s (cop P true o.op) = some v) (hK : ∀ w' c, Clean w w' → VR ρ v c → K (a.put o.dst c) w') : o.wp P a w K Q := by
  have key : ∃ s', (match (generalizing := false) cop P true o.op with
      | .call f k args => if k = true then acall (call f) k (args.map (aev env)) s else none
      | .callv x k args => if k = true then match aev env x with | .fn g caps => acall (call g) k (args.map (aev env) ++ caps) s | _ => none else none
      | _ => none) = some (v, s') := by
    cases hc : cop P true o.op <;> rw [hc] at hn <;> simp [AOp.isCall] at hn
    · rename_i f k args
      obtain rfl := isCall_cl hc
      rw [hc] at h
      simp only [aread] at h
      obtain ⟨⟨r, s'⟩, hr, rfl⟩ := Option.map_eq_some_iff.1 h
      exact ⟨s', by simpa using hr⟩
    · rename_i x k args
      obtain rfl := isCallv_cl hc
      rw [hc] at h
      simp only [aread] at h
      split at h
      · rename_i g caps hav
        obtain ⟨⟨r, s'⟩, hr, rfl⟩ := Option.map_eq_some_iff.1 h
        exact ⟨s', by simpa [hav] using hr⟩
      · cases h
  obtain ⟨s', hs'⟩ := key
  exact calls_wp hS hE hR hf hn hs' fun ρ' w' c _ _ hv hcl => by
    obtain ⟨rfl, hclean⟩ := hcl rfl
    exact hK w' c hclean hv
theorem wp_calld {call : Nat → List AV → St → Option (AV × St)} (hS : Sound P call) {o : Oper} {a : Act} {env : Env} {s s' : St} {v : AV} {w : World} {K : Act → World → Prop} {Q : Exit → Act → World → Prop} (hE : EnvR ρ env a.tmps) (hR : R s ρ w) (hf : Free s ρ)
    (hn : (cop P false o.op).isCall = true) (h : aeff call env s (cop P false o.op) = some (v, s')) (hK : ∀ ρ' w' c, Step s s' ρ ρ' w w' → R s' ρ' w' → VR ρ' v c → K (a.put o.dst c) w') : o.wp P a w K Q := by
  refine calls_wp hS (cl := false) hE hR hf hn (s' := s') (v := v) ?_ fun ρ' w' c h1 h2 h3 _ => hK ρ' w' c h1 h2 h3
  cases hc : cop P false o.op <;> rw [hc] at hn <;> simp [AOp.isCall] at hn
  · rename_i f k args
    obtain rfl := isCall_cl hc
    rw [hc] at h
    simp only [aeff] at h
    simpa using h
  · rename_i x k args
    obtain rfl := isCallv_cl hc
    rw [hc] at h
    simp only [aeff] at h
    split at h
    · rename_i g caps hav
      simpa [hav] using h
    · cases h

/-- An operation that makes one block, under the number 'id' that is free. -/
theorem wp_alloc {o : Oper} {a : Act} {env : Env} {cl : Bool} {mk : Nat → AV} {b : AB} {w : World} {K : Act → World → Prop} {Q : Exit → Act → World → Prop} (hE : EnvR ρ env a.tmps) (h : aalloc env (cop P cl o.op) = some (mk, b))
    (hK : ∀ (L : Loc) (w' : World) (c : Value), Clean w w' → w.heap.size ≤ L.b → L.b < w'.heap.size → (∀ id ρ', ρ.le ρ' → ρ' id = some L → VR ρ' (mk id) c) → (∀ ρ', ρ.le ρ' → BlkOk ρ' L w' b) → b.owned = true → K (a.put o.dst c) w') : o.wp P a w K Q := by
  obtain ⟨cs, e, c, hrun, hv, cells, rfl, hl, hvs, hone⟩ := alloc_run hE h
  unfold Oper.wp
  rw [hrun w]
  refine hK ⟨w.heap.size, 0, cs.size⟩ _ _ (clean_pushW w _) (Nat.le_refl _) (by simp) (fun id ρ' hle hid => hv id ρ' _ hle hid) (fun ρ' hle => ?_) rfl
  simp only [BlkOk]
  refine ⟨cs, e, (0, 0), pushW_new w _, rfl, by simpa using hl, fun i u hu => ?_, fun _ j _ => by simp, hone⟩
  obtain ⟨d, hd, hvd⟩ := hvs.at_ i hu
  exact ⟨d, by simpa using hd, VR.mono hle _ _ hvd⟩

/-- One operation of a region in the order of the text. -/
theorem aop_wp {call : Nat → List AV → St → Option (AV × St)} (hS : Sound P call) {o : Oper} {a : Act} {env : Env} {s s' : St} {v : AV} {w : World} {g : Option (Nat × Bool)} {base : Nat} {K : Act → World → Prop} {Q : Exit → Act → World → Prop}
    (hE : EnvR ρ env a.tmps) (hR : R s ρ w) (hf : Free s ρ) (h : aop call base ⟨o.dst, cop P false o.op, g, none, false⟩ env s = some (v, s'))
    (hK : ∀ ρ' w' c, Step s s' ρ ρ' w w' → R s' ρ' w' → VR ρ' v c → K (a.put o.dst c) w') : o.wp P a w K Q := by
  unfold aop at h
  simp only at h
  split at h
  · rename_i mk b hal
    injection h with h
    obtain ⟨rfl, rfl⟩ := Prod.mk.inj h
    refine wp_alloc hE hal fun L w' c hcl h1 h2 hv hb ho => ?_
    have hfr := hf s.next (Nat.le_refl _)
    obtain ⟨hr, hst⟩ := hR.push hcl hfr h1 h2 (hb _ (Ren.le_set L hfr))
    exact hK _ w' c hst hr (hv _ _ (Ren.le_set L hfr) (Ren.set_same _ _ _))
  · split at h
    · rename_i u hp
      injection h with h
      obtain ⟨rfl, rfl⟩ := Prod.mk.inj h
      exact wp_pure hE hp fun c hc => hK ρ w c (Step.refl _ _ _) hR hc
    · cases hic : (cop P false o.op).isCall
      · split at h
        · rename_i u hrd
          simp only [Bool.false_and, Bool.false_eq_true, if_false] at h
          injection h with h
          obtain ⟨rfl, rfl⟩ := Prod.mk.inj h
          exact wp_read hE hR hic hrd fun c hc => hK ρ w c (Step.refl _ _ _) hR hc
        · simp only [Bool.false_eq_true, if_false] at h
          exact effs_wp hE hR (fun id h1 _ => hf id h1) hic h hK
      · have hnr : aread call env s (cop P false o.op) = none := by
          cases hc : cop P false o.op <;> rw [hc] at hic <;> simp [AOp.isCall] at hic
          · obtain rfl := isCall_cl hc; rfl
          · obtain rfl := isCallv_cl hc; rfl
        rw [hnr] at h
        simp only [Bool.false_eq_true, if_false] at h
        exact wp_calld hS hE hR hf hic h hK

theorem EnvR.step {s s' : St} {ρ ρ' : Ren} {w w' : World} {env : Env} {tmps : Array Value} (hE : EnvR ρ env tmps) (hf : Free s ρ) (h : Step s s' ρ ρ' w w') : EnvR ρ' env tmps := hE.mono (hf.le h)

/-- The operations from number 'k' on, in the order of the text. -/
theorem aops_wp {call : Nat → List AV → St → Option (AV × St)} (hS : Sound P call) {ops : Array Oper} {base : Nat} {Q : Exit → Act → World → Prop} : ∀ (os : List Oper) (k : Nat) (l : List AOper) (env env' : Env) (s s' : St) (ρ : Ren) (a : Act) (w : World),
    (∀ j, os[j]? = ops[k + j]?) → cregP P ops os = some l → aops call base l env s = some (env', s') → EnvR ρ env a.tmps → R s ρ w → Free s ρ → a.defers = [] →
    (∀ ρ' a' w', Step s s' ρ ρ' w w' → R s' ρ' w' → Free s' ρ' → EnvR ρ' env' a'.tmps → a'.defers = [] → Q .normal a' w') → wpOps P ops Q (List.range' k os.length) a w
  | [], k, l, env, env', s, s', ρ, a, w, _, hl, h, hE, hR, hf, hd, hQ => by
    simp only [cregP] at hl
    injection hl with hl; subst hl
    simp only [aops] at h
    injection h with h
    obtain ⟨rfl, rfl⟩ := Prod.mk.inj h
    exact hQ ρ a w (Step.refl _ _ _) hR hf hE hd
  | o :: os, k, l, env, env', s, s', ρ, a, w, hix, hl, h, hE, hR, hf, hd, hQ => by
    simp only [cregP] at hl
    split at hl
    · rename_i g l' hg hl'
      injection hl with hl; subst hl
      have ho : ops[k]? = some o := by have := hix 0; simpa using this.symm
      simp only [List.length_cons, List.range'_succ, wpOps, ho]
      simp only [aops] at h
      split at h
      · rename_i hwt
        rw [wanted_rel hE hg hwt, if_pos rfl]
        left
        split at h
        · rename_i v s1 hop
          refine aop_wp hS hE hR hf hop fun ρ' w' c hst hr hv => ?_
          refine aops_wp hS os (k + 1) l' _ env' s1 s' ρ' _ w' (fun j => by have := hix (j + 1); simpa [Nat.add_assoc, Nat.add_comm 1] using this) hl' h ((hE.step hf hst).put hv o.dst) hr (hf.step hst) ?_ ?_
          · cases hdst : o.dst <;> simpa [Act.put] using hd
          · intro ρ2 a2 w2 hst2 hr2 hf2 hE2 hd2
            exact hQ ρ2 a2 w2 (hst.trans hst2) hr2 hf2 hE2 hd2
        · cases h
      · rename_i hwt
        rw [wanted_rel hE hg hwt, if_neg (by simp)]
        refine aops_wp hS os (k + 1) l' _ env' s s' ρ _ w (fun j => by have := hix (j + 1); simpa [Nat.add_assoc, Nat.add_comm 1] using this) hl' h (hE.put (by simp [VR]) o.dst) hR hf ?_ hQ
        cases hdst : o.dst <;> simpa [Act.put] using hd
      · cases h
    · cases hl

end Go.AM
end
/-
  Plain facts of the abstract machine: what an operation looks at, its kind, what it leaves alone. Own work of this project.
-/
section
namespace Go.AM
open Go

/-! ### What an operation looks at -/
theorem fillP_congr {env env' : Env} : ∀ (ps : List (Nat × Nat × AO)) (cs : List AV), (∀ x ∈ ps.map (·.2.2), aev env x = aev env' x) → fillP env cs ps = fillP env' cs ps
  | [], _, _ => rfl
  | (off, n, x) :: r, cs, h => by
    simp only [List.map_cons, List.forall_mem_cons] at h
    simp only [fillP, h.1, fun cs => fillP_congr r cs h.2]
theorem map_congr' {env env' : Env} {l : List AO} (h : ∀ x ∈ l, aev env x = aev env' x) : l.map (aev env) = l.map (aev env') := List.map_congr_left h
theorem opt_congr {env env' : Env} {o : Option AO} (h : ∀ x ∈ o.toList, aev env x = aev env' x) : o.map (aev env) = o.map (aev env') := by
  cases o with
  | none => rfl
  | some x => simp [h x (by simp)]
theorem aalloc_congr {env env' : Env} {op : AOp} (h : ∀ x ∈ op.opds, aev env x = aev env' x) : aalloc env op = aalloc env' op := by
  cases op
  case bsl z len sz ps =>
    simp only [AOp.opds] at h
    simp only [aalloc]
    rw [fillP_congr]
    intro x hx
    refine h x ?_
    simpa using hx
  all_goals first
    | rfl
    | (simp only [AOp.opds, List.forall_mem_cons] at h
       simp only [aalloc, h]
       done)
theorem apure_congr {env env' : Env} {op : AOp} (h : ∀ x ∈ op.opds, aev env x = aev env' x) : apure env op = apure env' op := by
  cases op
  case build z ps =>
    simp only [AOp.opds] at h
    simp only [apure]
    rw [fillP_congr _ _ h]
  case mkfn f l =>
    simp only [AOp.opds] at h
    simp only [apure]
    rw [map_congr' h]
  case mm big l =>
    simp only [AOp.opds] at h
    simp only [apure]
    rw [map_congr' h]
  case slc sz x lo hi mx =>
    simp only [AOp.opds, List.forall_mem_cons, List.mem_append] at h
    have h1 := opt_congr (o := lo) fun x hx => h.2 x (.inl hx)
    have h2 := opt_congr (o := hi) fun x hx => h.2 x (.inr (.inl hx))
    have h3 := opt_congr (o := mx) fun x hx => h.2 x (.inr (.inr hx))
    have h4 : ∀ m ∈ mx, aev env m = aev env' m := fun m hm => h.2 m (.inr (.inr (by simpa using hm)))
    simp only [apure, h.1, h1, h2, h3]
    cases mx with
    | none => rfl
    | some m => simp only [h4 m rfl]
  case slcs x lo hi =>
    simp only [AOp.opds, List.forall_mem_cons, List.mem_append] at h
    have h1 := opt_congr (o := lo) fun x hx => h.2 x (.inl hx)
    have h2 := opt_congr (o := hi) fun x hx => h.2 x (.inr hx)
    simp only [apure, h.1, h1, h2]
  case len k x =>
    simp only [AOp.opds, List.forall_mem_cons] at h
    cases k <;> simp only [apure, h]
  all_goals first
    | rfl
    | (simp only [AOp.opds, List.forall_mem_cons] at h
       simp only [apure, h]
       done)
theorem aread_congr {call : Nat → List AV → St → Option (AV × St)} {s : St} {env env' : Env} {op : AOp} (h : ∀ x ∈ op.opds, aev env x = aev env' x) : aread call env s op = aread call env' s op := by
  cases op
  case call f cl l =>
    simp only [AOp.opds] at h
    cases cl <;> simp only [aread]
    rw [map_congr' h]
  case callv x cl l =>
    simp only [AOp.opds, List.forall_mem_cons] at h
    cases cl <;> simp only [aread]
    rw [map_congr' h.2, h.1]
  case len k x =>
    simp only [AOp.opds, List.forall_mem_cons] at h
    cases k <;> simp only [aread, h]
  all_goals first
    | rfl
    | (simp only [AOp.opds, List.forall_mem_cons] at h
       simp only [aread, h]
       done)
theorem aeff_congr {call : Nat → List AV → St → Option (AV × St)} {s : St} {env env' : Env} {op : AOp} (h : ∀ x ∈ op.opds, aev env x = aev env' x) : aeff call env s op = aeff call env' s op := by
  cases op
  case call f cl l =>
    simp only [AOp.opds] at h
    cases cl <;> simp only [aeff]
    rw [map_congr' h]
  case callv x cl l =>
    simp only [AOp.opds, List.forall_mem_cons] at h
    cases cl <;> simp only [aeff]
    rw [map_congr' h.2, h.1]
  case mkmap r =>
    simp only [AOp.opds] at h
    simp only [aeff]
    rw [opt_congr h]
  all_goals first
    | rfl
    | (simp only [AOp.opds, List.forall_mem_cons] at h
       simp only [aeff, h]
       done)

/-! ### Its kind -/
theorem kind_alloc {env : Env} {op : AOp} {r : (Nat → AV) × AB} (h : aalloc env op = some r) : op.kind = .alloc := by
  cases op <;> first | rfl | (simp only [aalloc] at h; cases h)
theorem kind_pure {env : Env} {op : AOp} {r : AV} (h : apure env op = some r) : op.kind = .pure := by
  cases op
  case len k x => cases k <;> first | rfl | (simp only [apure] at h; cases h)
  all_goals first | rfl | (simp only [apure] at h; cases h)
theorem kind_read {call : Nat → List AV → St → Option (AV × St)} {s : St} {env : Env} {op : AOp} {r : AV} (h : aread call env s op = some r) : op.kind = .read := by
  cases op
  case len k x => cases k <;> first | rfl | (simp only [aread] at h; cases h)
  case call f cl l => cases cl <;> first | rfl | (simp only [aread] at h; cases h)
  case callv f cl l => cases cl <;> first | rfl | (simp only [aread] at h; cases h)
  all_goals first | rfl | (simp only [aread] at h; cases h)
theorem kind_eff {call : Nat → List AV → St → Option (AV × St)} {s : St} {env : Env} {op : AOp} {r : AV × St} (h : aeff call env s op = some r) : op.kind = .write := by
  cases op
  case call f cl l => cases cl <;> first | rfl | (simp only [aeff] at h; cases h)
  case callv f cl l => cases cl <;> first | rfl | (simp only [aeff] at h; cases h)
  all_goals first | rfl | (simp only [aeff] at h; cases h)

/-! ### What it leaves alone -/
theorem Keeps.refl (s : St) : Keeps s s := ⟨Nat.le_refl _, Nat.le_refl _, fun _ _ _ => rfl⟩
theorem Keeps.trans {a b c : St} (h : Keeps a b) (k : Keeps b c) : Keeps a c :=
  ⟨Nat.le_trans h.1 k.1, Nat.le_trans k.2.1 h.2.1, fun id h1 h2 => by
    rw [k.2.2 id (Nat.lt_of_lt_of_le h1 h.1) h2, h.2.2 id h1 (Nat.lt_of_lt_of_le h2 k.2.1)]⟩
theorem keeps_push (s : St) (b : AB) : Keeps s (s.push b) := ⟨by simp, by simp, fun id h _ => by rw [St.get_push_old _ _ h]⟩
theorem keeps_put {s : St} {id : Nat} {b0 : AB} (b : AB) (h : s.get id = some b0) : Keeps s (s.put id b) :=
  ⟨by simp, by simp [Nat.min_le_left], fun j _ hj => by
    simp at hj
    rw [St.get_put_ne _ _ (St.get_lt h) (by omega)]⟩
theorem keeps_append {s s' : St} {sz bytes k : Nat} {a : AV} {new : List AV} {v : AV} (h : aappend s sz bytes a new k = some (v, s')) : Keeps s s' := by
  unfold aappend at h
  split at h
  · split at h
    · injection h with h; obtain ⟨_, rfl⟩ := Prod.mk.inj h; exact .refl _
    · split at h
      · injection h with h; obtain ⟨_, rfl⟩ := Prod.mk.inj h; exact keeps_push _ _
      · cases h
  · split at h
    · split at h
      · rename_i cs own hg
        split at h
        · injection h with h; obtain ⟨_, rfl⟩ := Prod.mk.inj h; exact .refl _
        · split at h
          · split at h
            · split at h
              · split at h
                · injection h with h; obtain ⟨_, rfl⟩ := Prod.mk.inj h; exact keeps_put _ hg
                · cases h
              · injection h with h; obtain ⟨_, rfl⟩ := Prod.mk.inj h; exact keeps_push _ _
            · split at h
              · injection h with h; obtain ⟨_, rfl⟩ := Prod.mk.inj h; exact (keeps_put _ hg).trans (keeps_push _ _)
              · cases h
          · cases h
      · cases h
    · cases h
  · cases h
theorem keeps_eff {call : Nat → List AV → St → Option (AV × St)} {s s' : St} {env : Env} {op : AOp} {v : AV} (hc : op.isCall = false) (h : aeff call env s op = some (v, s')) : Keeps s s' := by
  cases op
  case call => simp [AOp.isCall] at hc
  case callv => simp [AOp.isCall] at hc
  all_goals simp only [aeff] at h
  all_goals first
    | (cases h; done)
    | exact keeps_append h
    | skip
  all_goals
    repeat' split at h
  all_goals first
    | (cases h; done)
    | exact keeps_append h
    | skip
  all_goals
    injection h with h
    obtain ⟨_, rfl⟩ := Prod.mk.inj h
  all_goals first
    | exact .refl _
    | exact keeps_push _ _
    | exact keeps_put _ (by assumption)

theorem Keeps.relow {s s' : St} {n : Nat} (h : Keeps { s with low := n } s') : Keeps s { s' with low := min s.low s'.low } :=
  ⟨h.1, Nat.min_le_left _ _, fun id h1 h2 => h.2.2 id h1 (by have : id < min s.low s'.low := h2; omega)⟩
theorem keeps_acall {P : Program} {call : Nat → List AV → St → Option (AV × St)} (hS : Sound P call) {f : Nat} {cl : Bool} {args : List AV} {s s' : St} {v : AV} (h : acall (call f) cl args s = some (v, s')) : Keeps s s' := by
  unfold acall at h
  split at h
  · rename_i r s1 hc
    obtain ⟨_, hg, _⟩ := hS f args _ r s1 hc
    split at h
    · injection h with h; obtain ⟨_, rfl⟩ := Prod.mk.inj h; exact .refl _
    · split at h
      · cases h
      · injection h with h; obtain ⟨_, rfl⟩ := Prod.mk.inj h; exact hg.2.relow
  · cases h
theorem keeps_effc {P : Program} {call : Nat → List AV → St → Option (AV × St)} (hS : Sound P call) {s s' : St} {env : Env} {op : AOp} {v : AV} (h : aeff call env s op = some (v, s')) : Keeps s s' := by
  cases hc : op.isCall
  · exact keeps_eff hc h
  · cases op <;> simp [AOp.isCall] at hc
    · rename_i f cl args
      cases cl <;> simp only [aeff] at h
      · exact keeps_acall hS h
      · cases h
    · rename_i x cl args
      cases cl <;> simp only [aeff] at h
      · split at h
        · exact keeps_acall hS h
        · cases h
      · cases h
theorem keeps_aop {P : Program} {call : Nat → List AV → St → Option (AV × St)} (hS : Sound P call) {base : Nat} {o : AOper} {s0 s s' : St} {env : Env} {v : AV} (h : aop call base o env s = some (v, s')) (hb : s0.next ≤ base) (hk : Keeps s0 s) : Keeps s0 s' := by
  unfold aop at h
  split at h
  · split at h
    · rename_i j _
      split at h
      · rename_i hg
        injection h with h; obtain ⟨_, rfl⟩ := Prod.mk.inj h
        exact ⟨hk.1, hk.2.1, fun id h1 h2 => by rw [St.get_born_ne _ _ (St.get_lt hg) (by omega)]; exact hk.2.2 id h1 h2⟩
      · cases h
    · injection h with h; obtain ⟨_, rfl⟩ := Prod.mk.inj h
      exact hk.trans (keeps_push _ _)
  · split at h
    · injection h with h; obtain ⟨_, rfl⟩ := Prod.mk.inj h; exact hk
    · split at h
      · split at h
        · cases h
        · injection h with h; obtain ⟨_, rfl⟩ := Prod.mk.inj h; exact hk
      · split at h
        · split at h
          · split at h
            · rename_i hp _
              injection h with h; obtain ⟨_, rfl⟩ := Prod.mk.inj h
              exact hk.trans (keeps_effc hS hp).relow
            · cases h
          · cases h
        · exact hk.trans (keeps_effc hS h)
theorem keeps_aops {P : Program} {call : Nat → List AV → St → Option (AV × St)} (hS : Sound P call) {base : Nat} {s0 : St} (hb : s0.next ≤ base) : ∀ {l : List AOper} {s s' : St} {env env' : Env}, aops call base l env s = some (env', s') → Keeps s0 s → Keeps s0 s'
  | [], s, s', env, env', h, hk => by
    simp only [aops] at h
    injection h with h; obtain ⟨_, rfl⟩ := Prod.mk.inj h; exact hk
  | o :: r, s, s', env, env', h, hk => by
    simp only [aops] at h
    split at h
    · split at h
      · rename_i ho
        exact keeps_aops hS hb h (keeps_aop hS ho hb hk)
      · cases h
    · exact keeps_aops hS hb h hk
    · cases h

/-! ### No block is lost -/
theorem Grow.refl (s : St) : Grow s s := ⟨Nat.le_refl _, fun _ _ h => h⟩
theorem Grow.trans {a b c : St} (h : Grow a b) (k : Grow b c) : Grow a c := ⟨Nat.le_trans h.1 k.1, fun id h1 h2 => k.2 id (Nat.lt_of_lt_of_le h1 h.1) (h.2 id h1 h2)⟩
theorem Grow.low {s s' : St} {n m : Nat} (h : Grow { s with low := n } s') : Grow s { s' with low := m } := h
theorem grow_push (s : St) (b : AB) : Grow s (s.push b) := ⟨by simp, fun id h1 h2 => by rw [St.get_push_old _ _ h1]; exact h2⟩
theorem grow_put {s : St} {id : Nat} {b0 : AB} (b : AB) (h : s.get id = some b0) : Grow s (s.put id b) :=
  ⟨by simp, fun j h1 h2 => by
    by_cases hj : j = id
    · subst hj; rw [St.get_put_same h]; simp
    · rw [St.get_put_ne _ _ (St.get_lt h) hj]; exact h2⟩
theorem grow_born {s : St} {id : Nat} {b0 : AB} (b : AB) (h : s.get id = some b0) : Grow s (s.born id b) :=
  ⟨by simp, fun j h1 h2 => by
    by_cases hj : j = id
    · subst hj; rw [St.get_born_same h]; simp
    · rw [St.get_born_ne _ _ (St.get_lt h) hj]; exact h2⟩
theorem grow_append {s s' : St} {sz bytes k : Nat} {a : AV} {new : List AV} {v : AV} (h : aappend s sz bytes a new k = some (v, s')) : Grow s s' := by
  unfold aappend at h
  split at h
  · split at h
    · injection h with h; obtain ⟨_, rfl⟩ := Prod.mk.inj h; exact .refl _
    · split at h
      · injection h with h; obtain ⟨_, rfl⟩ := Prod.mk.inj h; exact grow_push _ _
      · cases h
  · split at h
    · split at h
      · rename_i cs own hg
        split at h
        · injection h with h; obtain ⟨_, rfl⟩ := Prod.mk.inj h; exact .refl _
        · split at h
          · split at h
            · split at h
              · split at h
                · injection h with h; obtain ⟨_, rfl⟩ := Prod.mk.inj h; exact grow_put _ hg
                · cases h
              · injection h with h; obtain ⟨_, rfl⟩ := Prod.mk.inj h; exact grow_push _ _
            · split at h
              · injection h with h; obtain ⟨_, rfl⟩ := Prod.mk.inj h; exact (grow_put _ hg).trans (grow_push _ _)
              · cases h
          · cases h
      · cases h
    · cases h
  · cases h
theorem grow_acall {P : Program} {call : Nat → List AV → St → Option (AV × St)} (hS : Sound P call) {f : Nat} {cl : Bool} {args : List AV} {s s' : St} {v : AV} (h : acall (call f) cl args s = some (v, s')) : Grow s s' := by
  unfold acall at h
  split at h
  · rename_i r s1 hc
    obtain ⟨_, hg, _⟩ := hS f args _ r s1 hc
    split at h
    · injection h with h; obtain ⟨_, rfl⟩ := Prod.mk.inj h; exact .refl _
    · split at h
      · cases h
      · injection h with h; obtain ⟨_, rfl⟩ := Prod.mk.inj h; exact hg.1
  · cases h
theorem grow_eff {P : Program} {call : Nat → List AV → St → Option (AV × St)} (hS : Sound P call) {s s' : St} {env : Env} {op : AOp} {v : AV} (h : aeff call env s op = some (v, s')) : Grow s s' := by
  cases op
  case call f cl args =>
    cases cl <;> simp only [aeff] at h
    · exact grow_acall hS h
    · cases h
  case callv x cl args =>
    cases cl <;> simp only [aeff] at h
    · split at h
      · exact grow_acall hS h
      · cases h
    · cases h
  all_goals simp only [aeff] at h
  all_goals first
    | (cases h; done)
    | exact grow_append h
    | skip
  all_goals
    repeat' split at h
  all_goals first
    | (cases h; done)
    | exact grow_append h
    | skip
  all_goals
    injection h with h
    obtain ⟨_, rfl⟩ := Prod.mk.inj h
  all_goals first
    | exact .refl _
    | exact grow_push _ _
    | exact grow_put _ (by assumption)
theorem grow_aop {P : Program} {call : Nat → List AV → St → Option (AV × St)} (hS : Sound P call) {base : Nat} {o : AOper} {s s' : St} {env : Env} {v : AV} (h : aop call base o env s = some (v, s')) : Grow s s' := by
  unfold aop at h
  split at h
  · split at h
    · split at h
      · rename_i hg
        injection h with h; obtain ⟨_, rfl⟩ := Prod.mk.inj h
        exact grow_born _ hg
      · cases h
    · injection h with h; obtain ⟨_, rfl⟩ := Prod.mk.inj h
      exact grow_push _ _
  · split at h
    · injection h with h; obtain ⟨_, rfl⟩ := Prod.mk.inj h; exact .refl _
    · split at h
      · split at h
        · cases h
        · injection h with h; obtain ⟨_, rfl⟩ := Prod.mk.inj h; exact .refl _
      · split at h
        · split at h
          · split at h
            · rename_i hp _
              injection h with h; obtain ⟨_, rfl⟩ := Prod.mk.inj h
              exact (grow_eff hS hp).low
            · cases h
          · cases h
        · exact grow_eff hS h
theorem grow_aops {P : Program} {call : Nat → List AV → St → Option (AV × St)} (hS : Sound P call) {base : Nat} : ∀ {l : List AOper} {s s' : St} {env env' : Env}, aops call base l env s = some (env', s') → Grow s s'
  | [], s, s', env, env', h => by
    simp only [aops] at h
    injection h with h; obtain ⟨_, rfl⟩ := Prod.mk.inj h; exact .refl _
  | o :: r, s, s', env, env', h => by
    simp only [aops] at h
    split at h
    · split at h
      · rename_i ho
        exact (grow_aop hS ho).trans (grow_aops hS h)
      · cases h
    · exact grow_aops hS h
    · cases h

end Go.AM
end
/-
  A region that draws its order: the run in the order of the text, and what any other order sees of it. Own work of this project.
-/
section
namespace Go.AM
open Go

variable {P : Program} {ρ : Ren}

/-! ### Memory with some blocks put in -/
def St.patch (s : St) (f : Nat → AB → AB) : St := { s with heap := s.heap.mapIdx fun i b => f (s.next - 1 - i) b }
@[simp] theorem St.next_patch (s : St) (f : Nat → AB → AB) : (s.patch f).next = s.next := rfl
@[simp] theorem St.low_patch (s : St) (f : Nat → AB → AB) : (s.patch f).low = s.low := rfl
theorem St.get_patch (s : St) (f : Nat → AB → AB) (id : Nat) : (s.patch f).get id = (s.get id).map (f id) := by
  unfold St.get St.patch
  simp only
  split
  · rename_i h
    simp only [List.getElem?_mapIdx]
    rw [show s.next - 1 - (s.next - 1 - id) = id by omega]
  · rfl
theorem St.get_reserve : ∀ (k : Nat) (s : St) (id : Nat), (s.reserve k).get id = if id < s.next then s.get id else if id < s.next + k then some .unborn else none
  | 0, s, id => by
    simp only [St.reserve]
    split
    · rfl
    · rename_i h
      rw [if_neg (by omega)]
      simp [St.get, h]
  | k + 1, s, id => by
    simp only [St.reserve]
    rw [St.get_reserve k, St.get_push]
    simp only [St.next_push]
    by_cases h1 : id < s.next
    · simp [h1, show id < s.next + 1 by omega, show id ≠ s.next by omega]
    · by_cases h2 : id = s.next
      · subst h2
        simp
      · simp [h1, show ¬ id < s.next + 1 by omega, show s.next + 1 + k = s.next + (k + 1) by omega]
@[simp] theorem St.next_reserve : ∀ (k : Nat) (s : St), (s.reserve k).next = s.next + k
  | 0, s => rfl
  | k + 1, s => by simp only [St.reserve]; rw [St.next_reserve k]; simp; omega
@[simp] theorem St.low_reserve : ∀ (k : Nat) (s : St), (s.reserve k).low = s.low
  | 0, s => rfl
  | k + 1, s => by simp only [St.reserve]; rw [St.low_reserve k]; simp

theorem R.sub {s s' : St} {w : World} (h : R s ρ w) (k : ∀ id b L, ρ id = some L → s'.get id = some b → b.live = false ∨ s.get id = some b) : R s' ρ w := by
  refine ⟨h.bound, fun id b L h1 h2 => ?_, fun i j L M bi bj hij e1 e2 e3 e4 e5 e6 => ?_⟩
  · rcases k id b L h2 h1 with q | q
    · cases b <;> simp [AB.live] at q <;> trivial
    · exact h.blk id b L q h2
  · rcases k i bi L e1 e3 with q | q
    · rw [AB.live_of_owned e5] at q; cases q
    · rcases k j bj M e2 e4 with q' | q'
      · rw [e6] at q'; cases q'
      · exact h.inj i j L M bi bj hij e1 e2 q q' e5 e6
theorem Step.congr {s s1 s2 : St} {ρ ρ' : Ren} {w w' : World} (h : Step s s1 ρ ρ' w w') (hg : ∀ id, s1.get id = s2.get id) (hn : s1.next = s2.next) (hl : s1.low = s2.low) : Step s s2 ρ ρ' w w' := by
  refine ⟨hn ▸ h.next, hl ▸ h.low, fun id hid => h.ren id (by omega), h.size, h.os, h.tape, h.output, h.drawn, fun b hb H => h.frame b hb (by rw [hl]; exact H), fun id blk h1 h2 h3 => h.old id blk h1 (by rw [hg]; exact h2) h3,
    fun id L blk h1 h2 h3 h4 => ?_, fun id h1 h2 => by rw [← hg]; exact h.unm id h1 h2⟩
  have := h.new id L blk h1 h2 (by rw [hg]; exact h3) h4
  rw [hl] at this
  exact this

/-! ### The run in the order of the text -/
structure Trace (call : Nat → List AV → St → Option (AV × St)) (base : Nat) (l : List AOper) (S : Nat → St) (E : Nat → Env) (V : Nat → AV) : Prop where
  env : ∀ i o, l[i]? = some o → E (i + 1) = putE (E i) o.dst (V i)
  step : ∀ i o, l[i]? = some o → (wanted o (E i) = some true ∧ aop call base o (E i) (S i) = some (V i, S (i + 1))) ∨ (wanted o (E i) = some false ∧ V i = .und ∧ S (i + 1) = S i)
theorem trace_of {call : Nat → List AV → St → Option (AV × St)} {base : Nat} : ∀ (l : List AOper) (env env' : Env) (s s' : St), aops call base l env s = some (env', s') →
    ∃ S E V, Trace call base l S E V ∧ S 0 = s ∧ E 0 = env ∧ S l.length = s' ∧ E l.length = env'
  | [], env, env', s, s', h => by
    simp only [aops] at h
    injection h with h
    obtain ⟨rfl, rfl⟩ := Prod.mk.inj h
    exact ⟨fun _ => s, fun _ => env, fun _ => .und, ⟨fun i o h => by simp at h, fun i o h => by simp at h⟩, rfl, rfl, rfl, rfl⟩
  | o :: r, env, env', s, s', h => by
    have key : ∀ v s1, aops call base r (putE env o.dst v) s1 = some (env', s') → ((wanted o env = some true ∧ aop call base o env s = some (v, s1)) ∨ (wanted o env = some false ∧ v = .und ∧ s1 = s)) →
        ∃ S E V, Trace call base (o :: r) S E V ∧ S 0 = s ∧ E 0 = env ∧ S (o :: r).length = s' ∧ E (o :: r).length = env' := by
      intro v s1 hr hk
      obtain ⟨S, E, V, hT, h1, h2, h3, h4⟩ := trace_of r _ env' s1 s' hr
      refine ⟨fun | 0 => s | i + 1 => S i, fun | 0 => env | i + 1 => E i, fun | 0 => v | i + 1 => V i, ⟨?_, ?_⟩, rfl, rfl, h3, h4⟩
      · intro i o' hi
        cases i with
        | zero => simp at hi; subst hi; exact h2
        | succ i => exact hT.env i o' (by simpa using hi)
      · intro i o' hi
        cases i with
        | zero =>
          simp at hi; subst hi
          rcases hk with ⟨q1, q2⟩ | ⟨q1, q2, q3⟩
          · exact .inl ⟨q1, by show aop call base o env s = some (v, S 0); rw [h1]; exact q2⟩
          · exact .inr ⟨q1, q2, by show S 0 = s; rw [h1, q3]⟩
        | succ i => exact hT.step i o' (by simpa using hi)
    simp only [aops] at h
    split at h
    · rename_i hw
      split at h
      · rename_i v s1 ho
        exact key v s1 h (.inl ⟨hw, ho⟩)
      · cases h
    · rename_i hw
      exact key .und s h (.inr ⟨hw, rfl, rfl⟩)
    · cases h

section
variable {call : Nat → List AV → St → Option (AV × St)} {base : Nat} {l : List AOper} {S : Nat → St} {E : Nat → Env} {V : Nat → AV}

/-- Operation 'p' makes the block that is kept under 'r'. -/
def Al (l : List AOper) (E : Nat → Env) (p r : Nat) : Prop := ∃ o, l[p]? = some o ∧ o.op.kind = .alloc ∧ o.res = some r ∧ wanted o (E p) = some true
/-- The block that 'p' makes. -/
def Bl (l : List AOper) (E : Nat → Env) (p : Nat) : AB :=
  match l[p]? with
  | some o => match aalloc (E p) o.op with
    | some (_, b) => b
    | none => .unborn
  | none => .unborn
/-- Operation 'i' writes nothing that was there. -/
def Quiet (l : List AOper) (i : Nat) : Prop := ∀ o, l[i]? = some o → o.op.kind = .write → o.fresh = true ∧ o.stores = false
/-- It writes nothing that was there ahead of the region. -/
def Quiet0 (l : List AOper) (i : Nat) : Prop := ∀ o, l[i]? = some o → o.op.kind = .write → o.fresh = true
def NoWr (l : List AOper) (i : Nat) : Prop := ∀ o, l[i]? = some o → o.op.kind ≠ .write

theorem aop_alloc {o : AOper} {env : Env} {s s' : St} {v : AV} (h : aop call base o env s = some (v, s')) (hk : o.op.kind = .alloc) {r : Nat} (hr : o.res = some r) :
    ∃ mk b, aalloc env o.op = some (mk, b) ∧ s.get (base + r) = some .unborn ∧ v = mk (base + r) ∧ s' = s.born (base + r) b := by
  unfold aop at h
  split at h
  · rename_i mk b hal
    rw [hr] at h
    simp only at h
    split at h
    · rename_i hg
      injection h with h
      obtain ⟨rfl, rfl⟩ := Prod.mk.inj h
      exact ⟨mk, b, hal, hg, rfl, rfl⟩
    · cases h
  · split at h
    · rename_i u hp
      rw [kind_pure hp] at hk; cases hk
    · split at h
      · rename_i u hp
        rw [kind_read hp] at hk; cases hk
      · split at h
        · split at h
          · rename_i q1 q2 q3 hp
            rw [kind_eff hp] at hk; cases hk
          · cases h
        · rw [kind_eff h] at hk; cases hk
theorem aop_pure {o : AOper} {env : Env} {s s' : St} {v : AV} (h : aop call base o env s = some (v, s')) (hk : o.op.kind = .pure) : apure env o.op = some v ∧ s' = s := by
  unfold aop at h
  split at h
  · rename_i mk b hal
    rw [kind_alloc hal] at hk; cases hk
  · split at h
    · rename_i u hp
      injection h with h
      obtain ⟨rfl, rfl⟩ := Prod.mk.inj h
      exact ⟨hp, rfl⟩
    · split at h
      · rename_i u hp
        rw [kind_read hp] at hk; cases hk
      · split at h
        · split at h
          · rename_i q1 q2 q3 hp
            rw [kind_eff hp] at hk; cases hk
          · cases h
        · rw [kind_eff h] at hk; cases hk
theorem aop_read {o : AOper} {env : Env} {s s' : St} {v : AV} (h : aop call base o env s = some (v, s')) (hk : o.op.kind = .read) : aread call env s o.op = some v ∧ s' = s ∧ (o.fresh = true → oldLoad base env o.op = true) := by
  unfold aop at h
  split at h
  · rename_i mk b hal
    rw [kind_alloc hal] at hk; cases hk
  · split at h
    · rename_i u hp
      rw [kind_pure hp] at hk; cases hk
    · split at h
      · rename_i u hp
        split at h
        · cases h
        · rename_i hc
          injection h with h
          obtain ⟨rfl, rfl⟩ := Prod.mk.inj h
          refine ⟨hp, rfl, fun hf => ?_⟩
          rw [hf] at hc
          simpa using hc
      · split at h
        · split at h
          · rename_i q1 q2 q3 hp
            rw [kind_eff hp] at hk; cases hk
          · cases h
        · rw [kind_eff h] at hk; cases hk
theorem aop_write {o : AOper} {env : Env} {s s' : St} {v : AV} (h : aop call base o env s = some (v, s')) (hk : o.op.kind = .write) :
    (o.fresh = true ∧ ∃ s1, aeff call env { s with low := s.next } o.op = some (v, s1) ∧ o.floor base s.next ≤ s1.low ∧ s' = { s1 with low := min s.low s1.low }) ∨ (o.fresh = false ∧ aeff call env s o.op = some (v, s')) := by
  unfold aop at h
  split at h
  · rename_i mk b hal
    rw [kind_alloc hal] at hk; cases hk
  · split at h
    · rename_i u hp
      rw [kind_pure hp] at hk; cases hk
    · split at h
      · rename_i u hp
        rw [kind_read hp] at hk; cases hk
      · split at h
        · rename_i hf
          split at h
          · rename_i u s1 hp
            split at h
            · rename_i hn
              injection h with h
              obtain ⟨rfl, rfl⟩ := Prod.mk.inj h
              exact .inl ⟨hf, s1, hp, hn, rfl⟩
            · cases h
          · cases h
        · rename_i hf
          exact .inr ⟨by simpa using hf, h⟩

variable (hT : Trace call base l S E V) (hres : ∀ (i : Nat) (o : AOper), l[i]? = some o → o.op.kind = .alloc → ∃ r, o.res = some r)
include hT

theorem tr_al {p r : Nat} (h : Al l E p r) : (S p).get (base + r) = some .unborn ∧ S (p + 1) = (S p).born (base + r) (Bl l E p) ∧ (∃ o mk, l[p]? = some o ∧ aalloc (E p) o.op = some (mk, Bl l E p) ∧ V p = mk (base + r)) := by
  obtain ⟨o, ho, hk, hr, hw⟩ := h
  rcases hT.step p o ho with ⟨_, h⟩ | ⟨h, _⟩
  · obtain ⟨mk, b, h1, h2, h3, h4⟩ := aop_alloc h hk hr
    have hb : Bl l E p = b := by simp [Bl, ho, h1]
    exact ⟨h2, by rw [hb]; exact h4, o, mk, ho, by rw [hb]; exact h1, h3⟩
  · rw [h] at hw; cases hw

variable (hkp : ∀ (env : Env) (s s1 : St) (op : AOp) (v : AV), aeff call env s op = some (v, s1) → Keeps s s1)
include hres
/-- What is no writer and no maker leaves memory as it is. -/
theorem tr_same {i : Nat} {o : AOper} (ho : l[i]? = some o) (hk : o.op.kind ≠ .write) (ha : ∀ r, ¬ Al l E i r) : S (i + 1) = S i := by
  rcases hT.step i o ho with ⟨hw, h⟩ | ⟨_, _, h⟩
  · cases hkk : o.op.kind
    · exact (aop_pure h hkk).2
    · obtain ⟨r, hr⟩ := hres i o ho hkk
      exact absurd ⟨o, ho, hkk, hr, hw⟩ (ha r)
    · exact (aop_read h hkk).2.1
    · exact absurd hkk hk
  · exact h

include hkp in
theorem tr_quiet {i : Nat} {o : AOper} (ho : l[i]? = some o) (hq : Quiet l i) : (S i).next ≤ (S (i + 1)).next ∧ (NoWr l i → (S (i + 1)).next = (S i).next ∧ (S (i + 1)).low = (S i).low) ∧
    (∀ id, id < (S i).next → (∀ r, Al l E i r → id ≠ base + r) → (S (i + 1)).get id = (S i).get id) ∧ (∀ r, Al l E i r → (S (i + 1)).get (base + r) = some (Bl l E i)) := by
  by_cases ha : ∃ r, Al l E i r
  · obtain ⟨r, ha⟩ := ha
    obtain ⟨h1, h2, _⟩ := tr_al hT ha
    rw [h2]
    refine ⟨by simp, fun _ => by simp, fun id hid hne => ?_, fun r' hr' => ?_⟩
    · exact St.get_born_ne _ _ (St.get_lt h1) (hne r ha)
    · obtain ⟨o1, e1, _, e3, _⟩ := ha
      obtain ⟨o2, f1, _, f3, _⟩ := hr'
      rw [e1] at f1; injection f1 with f1; subst f1
      rw [e3] at f3; injection f3 with f3; subst f3
      exact St.get_born_same h1
  · have ha' : ∀ r, ¬ Al l E i r := fun r h => ha ⟨r, h⟩
    by_cases hk : o.op.kind = .write
    · obtain ⟨q1, q4⟩ := hq o ho hk
      rcases hT.step i o ho with ⟨hw, h⟩ | ⟨_, _, h⟩
      · rcases aop_write h hk with ⟨_, s1, h1, h2, h3⟩ | ⟨h1, _⟩
        · simp only [AOper.floor, q4, Bool.false_eq_true, if_false] at h2
          obtain ⟨k1, k2, k3⟩ := hkp _ _ _ _ _ h1
          rw [h3]
          refine ⟨k1, fun hn => absurd hk (hn o ho), fun id hid _ => ?_, fun r hr => absurd hr (ha' r)⟩
          exact k3 id hid (by have : id < (S i).next := hid; omega)
        · rw [q1] at h1; cases h1
      · rw [h]
        exact ⟨Nat.le_refl _, fun _ => ⟨rfl, rfl⟩, fun _ _ _ => rfl, fun r hr => absurd hr (ha' r)⟩
    · rw [tr_same hT hres ho hk ha']
      exact ⟨Nat.le_refl _, fun _ => ⟨rfl, rfl⟩, fun _ _ _ => rfl, fun r hr => absurd hr (ha' r)⟩

include hkp in
/-- What was there ahead of the region stays as it is. -/
theorem tr_old {i : Nat} (hi : i < l.length) (hq : Quiet0 l i) (hb : base ≤ (S i).next) : base ≤ (S (i + 1)).next ∧ ∀ id, id < base → (S (i + 1)).get id = (S i).get id := by
  obtain ⟨o, ho⟩ : ∃ o, l[i]? = some o := ⟨l[i]'hi, by simp⟩
  by_cases ha : ∃ r, Al l E i r
  · obtain ⟨r, ha⟩ := ha
    obtain ⟨h1, h2, _⟩ := tr_al hT ha
    rw [h2]
    exact ⟨by simpa using hb, fun id hid => St.get_born_ne _ _ (St.get_lt h1) (by omega)⟩
  · have ha' : ∀ r, ¬ Al l E i r := fun r h => ha ⟨r, h⟩
    by_cases hk : o.op.kind = .write
    · have q1 := hq o ho hk
      rcases hT.step i o ho with ⟨hw, h⟩ | ⟨_, _, h⟩
      · rcases aop_write h hk with ⟨_, s1, h1, h2, h3⟩ | ⟨h1, _⟩
        · obtain ⟨k1, k2, k3⟩ := hkp _ _ _ _ _ h1
          have k1' : (S i).next ≤ s1.next := k1
          have h2' : base ≤ s1.low := by
            unfold AOper.floor at h2
            split at h2
            · exact h2
            · omega
          rw [h3]
          refine ⟨by show base ≤ s1.next; omega, fun id hid => ?_⟩
          exact k3 id (by show id < (S i).next; omega) (by omega)
        · rw [q1] at h1; cases h1
      · rw [h]
        exact ⟨hb, fun _ _ => rfl⟩
    · rw [tr_same hT hres ho hk ha']
      exact ⟨hb, fun _ _ => rfl⟩
include hkp in
theorem tr_olds {a : Nat} (hb : base ≤ (S a).next) : ∀ (d : Nat), (∀ i, a ≤ i → i < a + d → Quiet0 l i) → a + d ≤ l.length → base ≤ (S (a + d)).next ∧ ∀ id, id < base → (S (a + d)).get id = (S a).get id
  | 0, _, _ => ⟨hb, fun _ _ => rfl⟩
  | d + 1, hq, hl => by
    obtain ⟨h1, h2⟩ := tr_olds hb d (fun i k1 k2 => hq i k1 (by omega)) (by omega)
    obtain ⟨h3, h4⟩ := tr_old hT hres hkp (by omega) (hq (a + d) (by omega) (by omega)) h1
    rw [show a + (d + 1) = a + d + 1 by omega]
    exact ⟨h3, fun id hid => by rw [h4 id hid, h2 id hid]⟩

variable (huniq : ∀ p q r, Al l E p r → Al l E q r → p = q)
include huniq hkp in
theorem tr_between {a : Nat} : ∀ (d : Nat), (∀ i, a ≤ i → i < a + d → Quiet l i) → a + d ≤ l.length → (S a).next ≤ (S (a + d)).next ∧ ((∀ i, a ≤ i → i < a + d → NoWr l i) → (S (a + d)).next = (S a).next ∧ (S (a + d)).low = (S a).low) ∧
    (∀ id, id < (S a).next → (∀ p r, a ≤ p → p < a + d → Al l E p r → id ≠ base + r) → (S (a + d)).get id = (S a).get id) ∧
    (∀ p r, a ≤ p → p < a + d → Al l E p r → base + r < (S a).next → (S (a + d)).get (base + r) = some (Bl l E p))
  | 0, _, _ => ⟨Nat.le_refl _, fun _ => ⟨rfl, rfl⟩, fun _ _ _ => rfl, fun p r h1 h2 => absurd h2 (by omega)⟩
  | d + 1, hq, hl => by
    obtain ⟨h1, h2, h3, h4⟩ := tr_between d (fun i k1 k2 => hq i k1 (by omega)) (by omega)
    obtain ⟨o, ho⟩ : ∃ o, l[a + d]? = some o := ⟨l[a + d]'(by omega), by simp⟩
    obtain ⟨k1, k2, k3, k4⟩ := tr_quiet hT hres hkp ho (hq (a + d) (by omega) (by omega))
    rw [show a + (d + 1) = a + d + 1 by omega]
    refine ⟨Nat.le_trans h1 k1, fun hn => ?_, fun id hid hne => ?_, fun p r p1 p2 ha hlt => ?_⟩
    · obtain ⟨e1, e2⟩ := h2 fun i i1 i2 => hn i i1 (by omega)
      obtain ⟨e3, e4⟩ := k2 (hn (a + d) (by omega) (by omega))
      exact ⟨e3.trans e1, e4.trans e2⟩
    · rw [k3 id (by omega) fun r hr => hne (a + d) r (by omega) (by omega) hr, h3 id hid fun p r p1 p2 => hne p r p1 (by omega)]
    · by_cases hp : p = a + d
      · subst hp
        exact k4 r ha
      · rw [k3 (base + r) (by omega) fun r' hr' e => ?_]
        · exact h4 p r p1 (by omega) ha hlt
        · have : r = r' := by omega
          subst this
          exact hp (huniq _ _ _ ha hr')
end

/-! ### The temporaries behind some of the operations -/
def curE (l : List AOper) (V : Nat → AV) (L : Nat → Bool) (env0 : Env) : Nat → Env
  | 0 => env0
  | k + 1 => match l[k]? with
    | some o => if L k then putE (curE l V L env0 k) o.dst (V k) else curE l V L env0 k
    | none => curE l V L env0 k
theorem putE_len (env : Env) (d : Option Nat) (v : AV) : (putE env d v).length = env.length := by cases d <;> simp [putE]
theorem putE_ne {env : Env} {d : Option Nat} {v : AV} {t : Nat} (h : d ≠ some t) : (putE env d v)[t]? = env[t]? := by
  cases d with
  | none => rfl
  | some d =>
    simp only [putE]
    rw [List.getElem?_set_ne (by simpa using h)]
theorem putE_same {env env' : Env} {t : Nat} {v : AV} (hl : env.length = env'.length) : (putE env (some t) v)[t]? = (putE env' (some t) v)[t]? := by
  simp [putE, List.getElem?_set, hl]
theorem putE_comm {env : Env} {d e : Option Nat} {u v : AV} (h : ∀ t, d = some t → e ≠ some t) : putE (putE env d u) e v = putE (putE env e v) d u := by
  cases d with
  | none => rfl
  | some d =>
    cases e with
    | none => rfl
    | some e =>
      simp only [putE]
      rw [List.set_comm]
      intro q
      exact h d rfl (by rw [q])
section
variable {call : Nat → List AV → St → Option (AV × St)} {base : Nat} {l : List AOper} {S : Nat → St} {E : Nat → Env} {V : Nat → AV} {L : Nat → Bool}
theorem curE_len (env0 : Env) : ∀ k, (curE l V L env0 k).length = env0.length
  | 0 => rfl
  | k + 1 => by
    simp only [curE]
    split
    · split
      · rw [putE_len, curE_len env0 k]
      · exact curE_len env0 k
    · exact curE_len env0 k
theorem E_len (hT : Trace call base l S E V) : ∀ k, k ≤ l.length → (E k).length = (E 0).length
  | 0, _ => rfl
  | k + 1, h => by
    obtain ⟨o, ho⟩ : ∃ o, l[k]? = some o := ⟨l[k]'(by omega), by simp⟩
    rw [hT.env k o ho, putE_len, E_len hT k (by omega)]
/-- What operation 'i' looks at is as in the order of the text. -/
theorem curE_look (hT : Trace call base l S E V) {i t : Nat} (hi : i ≤ l.length) (h1 : ∀ k o, l[k]? = some o → k < i → L k = false → o.dst ≠ some t) (h2 : ∀ k o, l[k]? = some o → i ≤ k → L k = true → o.dst ≠ some t) :
    ∀ k, k ≤ l.length → (curE l V L (E 0) k)[t]? = (E (min k i))[t]?
  | 0, _ => by simp [curE]
  | k + 1, hk => by
    obtain ⟨o, ho⟩ : ∃ o, l[k]? = some o := ⟨l[k]'(by omega), by simp⟩
    have IH := curE_look hT hi h1 h2 k (by omega)
    simp only [curE, ho]
    by_cases hki : k < i
    · rw [Nat.min_eq_left (by omega : k ≤ i)] at IH
      rw [Nat.min_eq_left (by omega : k + 1 ≤ i), hT.env k o ho]
      cases hL : L k
      · simp only [Bool.false_eq_true, if_false]
        rw [putE_ne (h1 k o ho hki hL), IH]
      · simp only [if_true]
        by_cases hd : o.dst = some t
        · rw [hd]
          exact putE_same (by rw [curE_len, E_len hT k (by omega)])
        · rw [putE_ne hd, putE_ne hd, IH]
    · rw [Nat.min_eq_right (by omega : i ≤ k)] at IH
      rw [Nat.min_eq_right (by omega : i ≤ k + 1)]
      cases hL : L k
      · simpa using IH
      · simp only [if_true]
        rw [putE_ne (h2 k o ho (by omega) hL), IH]
/-- One operation more. -/
theorem curE_add {m : Nat} {om : AOper} (hm : l[m]? = some om) (hL : L m = false) (env0 : Env) (h : ∀ k o, l[k]? = some o → m < k → L k = true → ∀ t, om.dst = some t → o.dst ≠ some t) :
    ∀ k, curE l V (fun j => if j = m then true else L j) env0 k = if m < k then putE (curE l V L env0 k) om.dst (V m) else curE l V L env0 k
  | 0 => by simp [curE]
  | k + 1 => by
    have IH := curE_add hm hL env0 h k
    simp only [curE]
    by_cases hk : k = m
    · subst hk
      rw [if_neg (by omega)] at IH
      simp only [hm, IH, hL, if_true, if_pos (show k < k + 1 by omega), Bool.false_eq_true, if_false]
    · cases ho : l[k]? with
      | none =>
        simp only
        rw [IH]
        by_cases hlt : m < k
        · rw [if_pos hlt, if_pos (by omega)]
        · rw [if_neg hlt, if_neg (by omega)]
      | some o =>
        simp only [if_neg hk]
        rw [IH]
        by_cases hlt : m < k
        · rw [if_pos hlt, if_pos (show m < k + 1 by omega)]
          cases hLk : L k
          · simp
          · simp only [if_true]
            rw [putE_comm (h k o ho hlt hLk)]
        · rw [if_neg hlt, if_neg (show ¬ m < k + 1 by omega)]
theorem curE_all (hT : Trace call base l S E V) (hL : ∀ k, k < l.length → L k = true) : ∀ k, k ≤ l.length → curE l V L (E 0) k = E k
  | 0, _ => rfl
  | k + 1, hk => by
    obtain ⟨o, ho⟩ : ∃ o, l[k]? = some o := ⟨l[k]'(by omega), by simp⟩
    simp only [curE, ho, hL k (by omega), if_true, curE_all hT hL k (by omega), hT.env k o ho]
end

/-- Only what is looked at. -/
def maskE (ts : List Nat) (env : Env) : Env := env.mapIdx fun t v => if ts.contains t then v else .any
theorem maskE_at {ts : List Nat} {env : Env} {t : Nat} (h : t ∈ ts) : (maskE ts env)[t]? = env[t]? := by
  simp [maskE, h]
theorem EnvR.mask {env : Env} {tmps : Array Value} (h : EnvR ρ env tmps) (ts : List Nat) : EnvR ρ (maskE ts env) tmps := by
  refine ⟨by simp [maskE, h.len], fun t => ?_⟩
  have := h.at_ t
  simp only [List.getD_eq_getElem?_getD, maskE, List.getElem?_mapIdx] at this ⊢
  cases ht : env[t]? with
  | none => rw [ht] at this; simpa using this
  | some v =>
    rw [ht] at this
    simp only [Option.map_some, Option.getD_some]
    split
    · simpa using this
    · simp [VR]
theorem aev_look {o : AOper} {env env' : Env} (h : ∀ t ∈ o.looks, env[t]? = env'[t]?) : ∀ x ∈ o.op.opds, aev env x = aev env' x := by
  intro x hx
  cases x with
  | t n =>
    have : n ∈ o.looks := by
      unfold AOper.looks
      exact List.mem_append_right _ (List.mem_filterMap.2 ⟨.t n, hx, rfl⟩)
    simp only [aev, List.getD_eq_getElem?_getD, h n this]
  | _ => rfl
theorem wanted_look {o : AOper} {env env' : Env} (h : ∀ t ∈ o.looks, env[t]? = env'[t]?) : wanted o env = wanted o env' := by
  unfold wanted
  cases hg : o.guard with
  | none => rfl
  | some g =>
    obtain ⟨t, b⟩ := g
    have : t ∈ o.looks := by simp [AOper.looks, hg]
    simp only [List.getD_eq_getElem?_getD, h t this]

end Go.AM
end
/-
  A region that draws its order: what holds behind any part of it. Own work of this project.
-/
section
namespace Go.AM
open Go

theorem aalloc_owned {env : Env} {op : AOp} {mk : Nat → AV} {b : AB} (h : aalloc env op = some (mk, b)) : b.owned = true := by
  cases op <;> simp only [aalloc] at h <;> try (cases h; done)
  all_goals repeat' split at h
  all_goals first
    | (cases h; done)
    | (injection h with h; obtain ⟨_, rfl⟩ := Prod.mk.inj h; rfl)
    | (obtain ⟨cs, _, h⟩ := Option.map_eq_some_iff.1 h
       obtain ⟨_, rfl⟩ := Prod.mk.inj h; rfl)

theorem R.birth {s s' : St} {ρ : Ren} {w w' : World} {b : AB} {id : Nat} {L : Loc} (h : R s ρ w) (hc : Clean w w') (hf : ρ id = none) (h1 : w.heap.size ≤ L.b) (h2 : L.b < w'.heap.size)
    (hb : BlkOk (ρ.set id L) L w' b) (hg : ∀ j, s'.get j = if j = id then some b else s.get j) : R s' (ρ.set id L) w' := by
  have hle : ρ.le (ρ.set id L) := Ren.le_set L hf
  refine ⟨fun j M e => ?_, fun j b' M e1 e2 => ?_, fun i j M N bi bj hij e1 e2 e3 e4 e5 e6 => ?_⟩
  · by_cases hid : j = id
    · subst hid; rw [Ren.set_same] at e; injection e with e; subst e; exact h2
    · rw [Ren.set_ne _ _ hid] at e; exact Nat.lt_of_lt_of_le (h.bound _ _ e) hc.size
  · rw [hg] at e1
    by_cases hid : j = id
    · subst hid
      rw [Ren.set_same] at e2; injection e2 with e2; subst e2
      rw [if_pos rfl] at e1; injection e1 with e1; subst e1
      exact hb
    · rw [Ren.set_ne _ _ hid] at e2
      rw [if_neg hid] at e1
      exact (h.blk j b' M e1 e2).mono hle |>.same (hc.block _ (h.bound _ _ e2))
  · rw [hg] at e3 e4
    by_cases hi : i = id
    · subst hi
      rw [Ren.set_same] at e1; injection e1 with e1; subst e1
      rw [Ren.set_ne _ _ (Ne.symm hij)] at e2
      have := h.bound _ _ e2
      omega
    · rw [Ren.set_ne _ _ hi] at e1
      by_cases hj : j = id
      · subst hj
        rw [Ren.set_same] at e2; injection e2 with e2; subst e2
        have := h.bound _ _ e1
        omega
      · rw [Ren.set_ne _ _ hj] at e2
        rw [if_neg hi] at e3
        rw [if_neg hj] at e4
        exact h.inj i j M N bi bj hij e1 e2 e3 e4 e5 e6
theorem Step.birth {s0 s s' : St} {ρ0 ρ : Ren} {w0 w w' : World} {b : AB} {id : Nat} {L : Loc} (h : Step s0 s ρ0 ρ w0 w) (hc : Clean w w') (h0 : s0.next ≤ id) (hn : id < s.next) (h1 : w.heap.size ≤ L.b)
    (hg : ∀ j, s'.get j = if j = id then some b else s.get j) (e1 : s'.next = s.next) (e2 : s'.low = s.low) : Step s0 s' ρ0 (ρ.set id L) w0 w' := by
  refine ⟨by rw [e1]; exact h.next, by rw [e2]; exact h.low, fun j hj => ?_, Nat.le_trans h.size hc.size, hc.os.trans h.os, hc.tape.trans h.tape, hc.output.trans h.output, Nat.le_trans h.drawn hc.drawn, fun c hb H => ?_, fun j b' q1 q2 q3 => ?_, fun j M b' q1 q2 q3 q4 => ?_, fun j q1 q2 => ?_⟩
  · rw [Ren.set_ne _ _ (by omega)]
    exact h.ren j (by omega)
  · rw [hc.block c (Nat.lt_of_lt_of_le hb h.size)]
    exact h.frame c hb (by rw [← e2]; exact H)
  · rw [hg, if_neg (by omega)] at q2
    exact h.old j b' q1 q2 q3
  · rw [e2]
    by_cases hj : j = id
    · subst hj
      rw [Ren.set_same] at q2; injection q2 with q2; subst q2
      exact .inl (Nat.le_trans h.size h1)
    · rw [Ren.set_ne _ _ hj] at q2
      rw [hg, if_neg hj] at q3
      exact h.new j M b' q1 q2 q3 q4
  · rw [hg, if_neg (by omega)]
    exact h.unm j q1 q2

/-- A load that may come up ahead of the first writer: it meets there what it meets in the text's run. -/
def ChkP (call : Nat → List AV → St → Option (AV × St)) (l : List AOper) (S : Nat → St) (E : Nat → Env) (V : Nat → AV) (i j : Nat) (a b : AOper) : Prop :=
  noDst a.dst (b.dst.toList ++ b.looks) = true ∧ noDst b.dst (a.dst.toList ++ a.looks) = true ∧ a.op.kind = .write ∧ b.op.kind = .read ∧ b.op.isCall = false ∧ b.fresh = false ∧
  (wanted b (E j) = some true → aread call (E j) (S i) b.op = some (V j)) ∧ (∀ (q : Nat) (o : AOper), q < j → q ≠ i → l[q]? = some o → o.op.kind ≠ .write) ∧ (∀ p r, ¬ Al l E p r)
/-- A region that may come up in more than one order, run in the order of the text. -/
structure Ctx (A : List Nat) (call : Nat → List AV → St → Option (AV × St)) (s : St) (k : Nat) (l : List AOper) (S : Nat → St) (E : Nat → Env) (V : Nat → AV) : Prop where
  tr : Trace call s.next l S E V
  s0 : S 0 = s.reserve k
  res : ∀ (i : Nat) (o : AOper), l[i]? = some o → o.op.kind = .alloc → ∃ r, o.res = some r ∧ r < k
  uniq : ∀ p q r, Al l E p r → Al l E q r → p = q
  pair : ∀ (i j : Nat) (a b : AOper), i < j → l[i]? = some a → l[j]? = some b → precedes A i j = true ∨ pairOk a b = true ∨ ChkP call l S E V i j a b
  grow : ∀ i, i < l.length → Grow (S i) (S (i + 1))
  kp : ∀ (env : Env) (s s1 : St) (op : AOp) (v : AV), aeff call env s op = some (v, s1) → Keeps s s1

open Classical in
/-- Behind the operations 'L', the last writer of them being the one ahead of 'W'. -/
noncomputable def pat (base : Nat) (l : List AOper) (E : Nat → Env) (L : Nat → Bool) (W : Nat) (id : Nat) (b : AB) : AB :=
  if h : ∃ p, ∃ r, Al l E p r ∧ id = base + r then (if L h.choose then (if h.choose < W then b else Bl l E h.choose) else .unborn) else b
noncomputable def sE (base : Nat) (l : List AOper) (S : Nat → St) (E : Nat → Env) (L : Nat → Bool) (W : Nat) : St := (S W).patch (pat base l E L W)

structure Inv (df : List Deferred) (s : St) (l : List AOper) (S : Nat → St) (E : Nat → Env) (V : Nat → AV) (ρ0 : Ren) (w0 : World) (L : Nat → Bool) (W : Nat) (ρ : Ren) (a : Act) (w : World) : Prop where
  W_le : W ≤ l.length
  wr : ∀ (k : Nat) (o : AOper), l[k]? = some o → o.op.kind = .write → (L k = true ↔ k < W)
  env : EnvR ρ (curE l V L (E 0) l.length) a.tmps
  defers : a.defers = df
  rel : R (sE s.next l S E L W) ρ w
  step : Step s (sE s.next l S E L W) ρ0 ρ w0 w
  free : ∀ id, (S W).next ≤ id → ρ id = none
  unb : ∀ p r, Al l E p r → L p = false → ρ (s.next + r) = none
  notyet : ∀ p r, Al l E p r → W ≤ p → ∀ b, (S W).get (s.next + r) = some b → b.live = false
  pend : ∀ p r, Al l E p r → L p = false → p < W → (S W).get (s.next + r) = some (Bl l E p)

section
variable {P : Program} {A : List Nat} {call : Nat → List AV → St → Option (AV × St)} {s : St} {k : Nat} {l : List AOper} {S : Nat → St} {E : Nat → Env} {V : Nat → AV} {ρ0 ρ ρ' : Ren} {w0 w w' : World} {L : Nat → Bool} {W m : Nat} {a : Act} {df : List Deferred}

theorem pat_no {base id : Nat} {b : AB} (h : ∀ p r, Al l E p r → id ≠ base + r) : pat base l E L W id b = b := by
  unfold pat
  rw [dif_neg]
  rintro ⟨p, r, h1, h2⟩
  exact h p r h1 h2
theorem pat_al {base p r : Nat} {b : AB} (hu : ∀ p q r, Al l E p r → Al l E q r → p = q) (h : Al l E p r) : pat base l E L W (base + r) b = if L p then (if p < W then b else Bl l E p) else .unborn := by
  have hex : ∃ p', ∃ r', Al l E p' r' ∧ base + r = base + r' := ⟨p, r, h, rfl⟩
  have hp : hex.choose = p := by
    obtain ⟨r', h1, h2⟩ := hex.choose_spec
    have : r = r' := by omega
    subst this
    exact hu _ _ _ h1 h
  unfold pat
  rw [dif_pos hex, hp]

theorem Al.lt {p r : Nat} (h : Al l E p r) : p < l.length := by
  obtain ⟨o, ho, _⟩ := h
  exact (List.getElem?_eq_some_iff.1 ho).1
theorem Al.not_write {p r : Nat} (h : Al l E p r) {o : AOper} (ho : l[p]? = some o) : o.op.kind ≠ .write := by
  obtain ⟨o', h1, h2, _⟩ := h
  rw [ho] at h1; injection h1 with h1; subst h1
  rw [h2]; simp

variable (C : Ctx A call s k l S E V)
include C
theorem Ctx.res' : ∀ (i : Nat) (o : AOper), l[i]? = some o → o.op.kind = .alloc → ∃ r, o.res = some r := fun i o h1 h2 => let ⟨r, h, _⟩ := C.res i o h1 h2; ⟨r, h⟩
theorem Ctx.lt {p r : Nat} (h : Al l E p r) : r < k := by
  obtain ⟨o, h1, h2, h3, _⟩ := h
  obtain ⟨r', e1, e2⟩ := C.res p o h1 h2
  rw [h3] at e1; injection e1 with e1; omega
theorem Ctx.grows : ∀ i, i ≤ l.length → Grow (S 0) (S i)
  | 0, _ => .refl _
  | i + 1, h => (Ctx.grows i (by omega)).trans (C.grow i (by omega))
theorem Ctx.nx {i : Nat} (h : i ≤ l.length) : s.next + k ≤ (S i).next := by
  have := (C.grows i h).1
  rw [C.s0, St.next_reserve] at this
  exact this
theorem Ctx.slot {p r i : Nat} (h : Al l E p r) (hi : i ≤ l.length) : s.next + r < (S i).next := by
  have := C.lt h
  have := C.nx hi
  omega
theorem Ctx.has {p r i : Nat} (h : Al l E p r) (hi : i ≤ l.length) : ∃ b, (S i).get (s.next + r) = some b := by
  have := (C.grows i hi).2 (s.next + r) (by rw [C.s0, St.next_reserve]; have := C.lt h; omega) (by
    rw [C.s0, St.get_reserve, if_neg (by omega), if_pos (by have := C.lt h; omega)]; simp)
  exact Option.ne_none_iff_exists'.1 this
theorem Ctx.get_no {id : Nat} (h : ∀ p r, Al l E p r → id ≠ s.next + r) : (sE s.next l S E L W).get id = (S W).get id := by
  unfold sE
  rw [St.get_patch]
  cases (S W).get id with
  | none => rfl
  | some b => simp [pat_no h]
theorem Ctx.get_al {p r : Nat} (hW : W ≤ l.length) (h : Al l E p r) : ∃ b, (S W).get (s.next + r) = some b ∧ (sE s.next l S E L W).get (s.next + r) = some (if L p then (if p < W then b else Bl l E p) else .unborn) := by
  obtain ⟨b, hb⟩ := C.has h hW
  refine ⟨b, hb, ?_⟩
  unfold sE
  rw [St.get_patch, hb, Option.map_some, pat_al C.uniq h]

/-- From one place of the text's order to a later one, no writer but quiet ones being between. -/
theorem Ctx.btw {x y : Nat} (hxy : x ≤ y) (hy : y ≤ l.length) (hq : ∀ i, x ≤ i → i < y → Quiet l i) : (S x).next ≤ (S y).next ∧ ((∀ i, x ≤ i → i < y → NoWr l i) → (S y).next = (S x).next ∧ (S y).low = (S x).low) ∧
    (∀ id, id < (S x).next → (∀ p r, x ≤ p → p < y → Al l E p r → id ≠ s.next + r) → (S y).get id = (S x).get id) ∧
    (∀ p r, x ≤ p → p < y → Al l E p r → (S y).get (s.next + r) = some (Bl l E p)) ∧
    (∀ p r, Al l E p r → (p < x ∨ y ≤ p) → (S y).get (s.next + r) = (S x).get (s.next + r)) := by
  have := tr_between C.tr C.res' C.kp C.uniq (a := x) (y - x) (by rw [show x + (y - x) = y by omega]; exact hq) (by omega)
  rw [show x + (y - x) = y by omega] at this
  obtain ⟨h1, h2, h3, h4⟩ := this
  refine ⟨h1, h2, h3, fun p r p1 p2 ha => h4 p r p1 p2 ha (C.slot ha (by omega)), fun p r ha hp => h3 _ (C.slot ha (by omega)) fun p' r' p1 p2 ha' e => ?_⟩
  have : r = r' := by omega
  subst this
  have := C.uniq _ _ _ ha ha'
  omega

/-- What the text's run has at 'm' is there now, as far as it can be named. -/
theorem Inv.agree (I : Inv df s l S E V ρ0 w0 L W ρ a w) (hm : m ≤ l.length) (hq1 : ∀ i, W ≤ i → i < m → Quiet l i) (hq2 : ∀ i, m ≤ i → i < W → Quiet l i) :
    ∀ id b M, ρ id = some M → (S m).get id = some b → b.live = false ∨ (sE s.next l S E L W).get id = some b := by
  intro id b M hM hg
  have hWl := I.W_le
  by_cases hal : ∃ p r, Al l E p r ∧ id = s.next + r
  · obtain ⟨p, r, ha, rfl⟩ := hal
    have hLp : L p = true := by
      cases h : L p
      · rw [I.unb p r ha h] at hM; cases hM
      · rfl
    obtain ⟨b0, hb0, hs⟩ := C.get_al (L := L) hWl ha
    rw [hLp] at hs
    simp only [if_true] at hs
    rw [hs]
    by_cases hWm : W ≤ m
    · obtain ⟨h1, _, h3, h4, h5⟩ := C.btw hWm hm hq1
      by_cases hp : p < W
      · rw [h5 p r ha (.inl hp), hb0] at hg
        injection hg with hg; subst hg
        rw [if_pos hp]
        exact .inr rfl
      · rw [if_neg hp]
        by_cases hpm : p < m
        · rw [h4 p r (by omega) hpm ha] at hg
          injection hg with hg; subst hg
          exact .inr rfl
        · rw [h5 p r ha (.inr (by omega))] at hg
          exact .inl (I.notyet p r ha (by omega) b hg)
    · have hmW : m ≤ W := by omega
      obtain ⟨h1, _, h3, h4, h5⟩ := C.btw hmW hWl hq2
      by_cases hpm : p < m
      · rw [← h5 p r ha (.inl hpm), hb0] at hg
        injection hg with hg; subst hg
        rw [if_pos (by omega)]
        exact .inr rfl
      · by_cases hp : p < W
        · obtain ⟨k1, _, k3, k4, k5⟩ := C.btw (x := m) (y := p) (by omega) (by omega) (fun i i1 i2 => hq2 i i1 (by omega))
          have := (tr_al C.tr ha).1
          rw [k5 p r ha (.inr (Nat.le_refl _)), hg] at this
          injection this with this; subst this
          exact .inl rfl
        · rw [← h5 p r ha (.inr (by omega))] at hg
          exact .inl (I.notyet p r ha (by omega) b hg)
  · have hno : ∀ p r, Al l E p r → id ≠ s.next + r := fun p r h e => hal ⟨p, r, h, e⟩
    rw [C.get_no hno]
    by_cases hWm : W ≤ m
    · obtain ⟨h1, _, h3, h4, h5⟩ := C.btw hWm hm hq1
      have hlt : id < (S W).next := by
        by_cases h : id < (S W).next
        · exact h
        · rw [I.free id (by omega)] at hM; cases hM
      rw [h3 id hlt fun p r _ _ h => hno p r h] at hg
      exact .inr hg
    · obtain ⟨h1, _, h3, h4, h5⟩ := C.btw (x := m) (y := W) (by omega) hWl hq2
      have hlt := St.get_lt hg
      rw [h3 id hlt fun p r _ _ h => hno p r h]
      exact .inr hg

/-- Another operation's slots are untouched by one more. -/
theorem Inv.env_add (I : Inv df s l S E V ρ0 w0 L W ρ a w) {o : AOper} (ho : l[m]? = some o) (hL : L m = false) (hcl : ∀ i j, L j = true → precedes A i j = true → L i = true) {c : Value} (hle : ρ.le ρ') (hv : VR ρ' (V m) c) :
    EnvR ρ' (curE l V (fun j => if j = m then true else L j) (E 0) l.length) (a.put o.dst c).tmps := by
  have hm := (List.getElem?_eq_some_iff.1 ho).1
  rw [curE_add ho hL (E 0) (fun k o' ho' hk hLk t ht hd => ?_) l.length, if_pos hm]
  · exact (I.env.mono hle).put hv o.dst
  · rcases C.pair m k o o' hk ho ho' with h | h | h
    · rw [hcl m k hLk h] at hL; cases hL
    · simp only [pairOk, Bool.and_eq_true] at h
      have := h.1.1
      simp [noDst, ht, hd] at this
    · have := h.1
      simp [noDst, ht, hd] at this
/-- What operation 'm' looks at is there. -/
theorem Inv.look (I : Inv df s l S E V ρ0 w0 L W ρ a w) {o : AOper} (ho : l[m]? = some o) (hL : L m = false) (hcl : ∀ i j, L j = true → precedes A i j = true → L i = true) (hpre : ∀ i, precedes A i m = true → L i = true) :
    ∀ t ∈ o.looks, (maskE o.looks (curE l V L (E 0) l.length))[t]? = (E m)[t]? := by
  intro t ht
  have hm := (List.getElem?_eq_some_iff.1 ho).1
  rw [maskE_at ht, curE_look C.tr (i := m) (by omega) ?_ ?_ l.length (Nat.le_refl _), Nat.min_eq_right (by omega)]
  · intro k o' ho' hk hLk hd
    rcases C.pair k m o' o hk ho' ho with h | h | h
    · rw [hpre k h] at hLk; cases hLk
    · simp only [pairOk, Bool.and_eq_true] at h
      have := h.1.1
      simp [noDst, hd, ht] at this
    · have := h.1
      simp [noDst, hd, ht] at this
  · intro k o' ho' hk hLk hd
    by_cases hkm : k = m
    · subst hkm; rw [hL] at hLk; cases hLk
    · rcases C.pair m k o o' (by omega) ho ho' with h | h | h
      · rw [hcl m k hLk h] at hL; cases hL
      · simp only [pairOk, Bool.and_eq_true] at h
        have := h.1.2
        simp [noDst, hd, ht] at this
      · have := h.2.1
        simp [noDst, hd, ht] at this

theorem Ctx.sE_same {L' : Nat → Bool} (h : ∀ p r, Al l E p r → L' p = L p) : sE s.next l S E L' W = sE s.next l S E L W := by
  unfold sE
  congr 1
  funext id b
  by_cases hal : ∃ p r, Al l E p r ∧ id = s.next + r
  · obtain ⟨p, r, ha, rfl⟩ := hal
    rw [pat_al C.uniq ha, pat_al C.uniq ha, h p r ha]
  · have hno : ∀ p r, Al l E p r → id ≠ s.next + r := fun p r h e => hal ⟨p, r, h, e⟩
    rw [pat_no hno, pat_no hno]

/-- One more operation, that is no writer and makes no block. -/
theorem Inv.quiet (I : Inv df s l S E V ρ0 w0 L W ρ a w) {o : AOper} (ho : l[m]? = some o) (hL : L m = false) (hcl : ∀ i j, L j = true → precedes A i j = true → L i = true) {c : Value} (hk : o.op.kind ≠ .write) (hna : ∀ r, ¬ Al l E m r)
    (hc : Clean w w') (hv : VR ρ (V m) c) : Inv df s l S E V ρ0 w0 (fun j => if j = m then true else L j) W ρ (a.put o.dst c) w' := by
  have hpm : ∀ p r, Al l E p r → p ≠ m := fun p r h e => hna r (e ▸ h)
  have hs := C.sE_same (L := L) (W := W) (L' := fun j => if j = m then true else L j) fun p r h => if_neg (hpm p r h)
  refine ⟨I.W_le, fun j o' ho' hk' => ?_, I.env_add C ho hL hcl (Ren.le_refl _) hv, ?_, by rw [hs]; exact I.rel.clean hc, by rw [hs]; exact I.step.trans (hc.step _ _), I.free, fun p r h hp => ?_, I.notyet, fun p r h hp => ?_⟩
  · have : j ≠ m := by
      rintro rfl
      rw [ho] at ho'; injection ho' with ho'; subst ho'
      exact hk hk'
    simp only [if_neg this]
    exact I.wr j o' ho' hk'
  · cases hd : o.dst <;> simpa [Act.put] using I.defers
  · rw [if_neg (hpm p r h)] at hp
    exact I.unb p r h hp
  · rw [if_neg (hpm p r h)] at hp
    exact I.pend p r h hp

/-- One more operation, that makes a block. -/
theorem Inv.alloc (I : Inv df s l S E V ρ0 w0 L W ρ a w) {o : AOper} (ho : l[m]? = some o) (hL : L m = false) (hcl : ∀ i j, L j = true → precedes A i j = true → L i = true) {c : Value} {r : Nat} (ha : Al l E m r) {M : Loc}
    (hc : Clean w w') (h1 : w.heap.size ≤ M.b) (h2 : M.b < w'.heap.size) (hb : BlkOk (ρ.set (s.next + r) M) M w' (Bl l E m)) (hv : VR (ρ.set (s.next + r) M) (V m) c) :
    Inv df s l S E V ρ0 w0 (fun j => if j = m then true else L j) W (ρ.set (s.next + r) M) (a.put o.dst c) w' := by
  have hf := I.unb m r ha hL
  have hWl := I.W_le
  have hr : ∀ p r', Al l E p r' → p ≠ m → r' ≠ r := fun p r' h hp e => by subst e; exact hp (C.uniq _ _ _ h ha)
  have hg : ∀ j, (sE s.next l S E (fun j => if j = m then true else L j) W).get j = if j = s.next + r then some (Bl l E m) else (sE s.next l S E L W).get j := by
    intro j
    by_cases hal : ∃ p r', Al l E p r' ∧ j = s.next + r'
    · obtain ⟨p, r', hp, rfl⟩ := hal
      obtain ⟨b, hb1, hb2⟩ := C.get_al (L := fun j => if j = m then true else L j) hWl hp
      rw [hb2]
      by_cases hpm : p = m
      · subst hpm
        have : r' = r := by
          obtain ⟨o1, e1, _, e3, _⟩ := hp
          obtain ⟨o2, f1, _, f3, _⟩ := ha
          rw [e1] at f1; injection f1 with f1; subst f1
          rw [e3] at f3; injection f3
        subst this
        simp only [if_true]
        by_cases hpW : p < W
        · rw [I.pend p r' ha hL hpW] at hb1
          injection hb1 with hb1; subst hb1
          simp
        · simp [hpW]
      · have := hr p r' hp hpm
        rw [if_neg (show ¬ s.next + r' = s.next + r by omega)]
        obtain ⟨b', hb1', hb2'⟩ := C.get_al (L := L) hWl hp
        rw [hb1] at hb1'; injection hb1' with hb1'; subst hb1'
        rw [hb2']
        simp only [if_neg hpm]
    · have hno : ∀ p r, Al l E p r → j ≠ s.next + r := fun p r h e => hal ⟨p, r, h, e⟩
      rw [C.get_no hno, C.get_no hno, if_neg (hno m r ha)]
  have hlt := C.slot ha hWl
  refine ⟨hWl, fun j o' ho' hk' => ?_, I.env_add C ho hL hcl (Ren.le_set M hf) hv, ?_, I.rel.birth hc hf h1 h2 hb hg, I.step.birth hc (by omega) hlt h1 hg rfl rfl, fun id hid => ?_, fun p r' h hp => ?_, I.notyet, fun p r' h hp => ?_⟩
  · have : j ≠ m := by
      rintro rfl
      exact ha.not_write ho' hk'
    simp only [if_neg this]
    exact I.wr j o' ho' hk'
  · cases hd : o.dst <;> simpa [Act.put] using I.defers
  · rw [Ren.set_ne _ _ (by omega)]
    exact I.free id hid
  · by_cases hpm : p = m
    · simp [hpm] at hp
    · rw [if_neg hpm] at hp
      have := hr p r' h hpm
      rw [Ren.set_ne _ _ (by omega)]
      exact I.unb p r' h hp
  · by_cases hpm : p = m
    · simp [hpm] at hp
    · rw [if_neg hpm] at hp
      exact I.pend p r' h hp
end

end Go.AM
end
/-
  A region that draws its order: one more writer, and the region as a whole. Own work of this project.
-/
section
namespace Go.AM
open Go

section
variable {P : Program} {A : List Nat} {call : Nat → List AV → St → Option (AV × St)} {s : St} {k : Nat} {l : List AOper} {S : Nat → St} {E : Nat → Env} {V : Nat → AV} {ρ0 ρ ρ' : Ren} {w0 w w' : World} {L : Nat → Bool} {W m : Nat} {a : Act} {df : List Deferred}
variable (C : Ctx A call s k l S E V)
include C

/-- One more operation, a writer. -/
theorem Inv.write (I : Inv df s l S E V ρ0 w0 L W ρ a w) {o : AOper} (ho : l[m]? = some o) (hL : L m = false) (hcl : ∀ i j, L j = true → precedes A i j = true → L i = true) {c : Value} (hk : o.op.kind = .write) (hW : W ≤ m)
    (hno : ∀ i, W ≤ i → i < m → NoWr l i) (hst : Step (S m) (S (m + 1)) ρ ρ' w w') (hR : R (S (m + 1)) ρ' w') (hv : VR ρ' (V m) c) :
    Inv df s l S E V ρ0 w0 (fun j => if j = m then true else L j) (m + 1) ρ' (a.put o.dst c) w' := by
  have hm := (List.getElem?_eq_some_iff.1 ho).1
  have hWl := I.W_le
  have hquiet : ∀ i, W ≤ i → i < m → Quiet l i := fun i h1 h2 o' ho' hk' => absurd hk' (hno i h1 h2 o' ho')
  obtain ⟨_, b2, b3, b4, b5⟩ := C.btw hW (by omega : m ≤ l.length) hquiet
  obtain ⟨hn, hlow⟩ := b2 hno
  have hagree := I.agree C (by omega : m ≤ l.length) hquiet (fun i h1 h2 => by omega)
  have hpm : ∀ p r, Al l E p r → p ≠ m := fun p r h e => by subst e; exact h.not_write ho hk
  have hsn := hst.next
  have hle : ρ.le ρ' := hst.le fun id h1 _ => I.free id (by omega)
  -- the later blocks are not there yet
  have hnot : ∀ p r, Al l E p r → m ≤ p → ∀ b, (S m).get (s.next + r) = some b → b.live = false := by
    intro p r h hp b hb
    rw [b5 p r h (.inr hp)] at hb
    exact I.notyet p r h (by omega) b hb
  have hren : ∀ p r, Al l E p r → ρ' (s.next + r) = ρ (s.next + r) := fun p r h => hst.ren _ (.inl (C.slot h (by omega)))
  -- what is there of the text's memory
  have heq : ∀ id b, (S m).get id = some b → (∀ p r, Al l E p r → id = s.next + r → L p = true ∧ p < m) → (sE s.next l S E L W).get id = some b := by
    intro id b hg hl
    by_cases hal : ∃ p r, Al l E p r ∧ id = s.next + r
    · obtain ⟨p, r, ha, rfl⟩ := hal
      obtain ⟨hLp, hpm⟩ := hl p r ha rfl
      obtain ⟨b0, hb0, hs⟩ := C.get_al (L := L) hWl ha
      rw [hs, hLp]
      simp only [if_true]
      by_cases hp : p < W
      · rw [if_pos hp]
        rw [b5 p r ha (.inl hp), hb0] at hg
        exact hg
      · rw [if_neg hp]
        rw [b4 p r (by omega) hpm ha] at hg
        exact hg
    · have hno' : ∀ p r, Al l E p r → id ≠ s.next + r := fun p r h e => hal ⟨p, r, h, e⟩
      rw [C.get_no hno', ← b3 id (by have := St.get_lt hg; omega) fun p r _ _ h => hno' p r h]
      exact hg
  have hclass : ∀ id b, (sE s.next l S E (fun j => if j = m then true else L j) (m + 1)).get id = some b → b.live = true →
      ((S (m + 1)).get id = some b ∧ ∀ p r, Al l E p r → id = s.next + r → L p = true ∧ p < m) ∨ (∃ p r, Al l E p r ∧ id = s.next + r ∧ L p = true ∧ m < p ∧ b = Bl l E p ∧ (sE s.next l S E L W).get id = some (Bl l E p) ∧ (Bl l E p).owned = true) := by
    intro id b hg hlive
    by_cases hal : ∃ p r, Al l E p r ∧ id = s.next + r
    · obtain ⟨p, r, ha, rfl⟩ := hal
      obtain ⟨b0, hb0, hs⟩ := C.get_al (L := fun j => if j = m then true else L j) (W := m + 1) (by omega) ha
      rw [hs] at hg
      have hne := hpm p r ha
      simp only [if_neg hne] at hg
      cases hLp : L p
      · rw [hLp] at hg
        simp at hg
        subst hg
        cases hlive
      · rw [hLp] at hg
        simp only [if_true] at hg
        by_cases hp : p < m + 1
        · rw [if_pos hp] at hg
          left
          refine ⟨by rw [hb0]; exact hg, fun p' r' ha' e => ?_⟩
          have : r = r' := by omega
          subst this
          have := C.uniq _ _ _ ha ha'
          subst this
          exact ⟨hLp, by omega⟩
        · rw [if_neg hp] at hg
          injection hg with hg
          right
          obtain ⟨b1, hb1, hs1⟩ := C.get_al (L := L) hWl ha
          rw [hLp] at hs1
          simp only [if_true] at hs1
          rw [if_neg (show ¬ p < W by omega)] at hs1
          obtain ⟨_, _, o1, mk, _, hal1, _⟩ := tr_al C.tr ha
          exact ⟨p, r, ha, rfl, hLp, by omega, hg.symm, hs1, aalloc_owned hal1⟩
    · have hno' : ∀ p r, Al l E p r → id ≠ s.next + r := fun p r h e => hal ⟨p, r, h, e⟩
      rw [C.get_no hno'] at hg
      exact .inl ⟨hg, fun p r h e => absurd e (hno' p r h)⟩
  -- where a live block of the text's memory lies: where it lay, or in a block that is new
  have horig : ∀ id b M, (S (m + 1)).get id = some b → b.live = true → ρ' id = some M → w.heap.size ≤ M.b ∨
      ∃ id0 N b0, ρ id0 = some N ∧ (S m).get id0 = some b0 ∧ (sE s.next l S E L W).get id0 = some b0 ∧ b0.live = true ∧ N.b = M.b ∧ (b.owned = true → b0.owned = true) := by
    intro id b M hg hl hM
    by_cases hid : id < (S m).next
    · obtain ⟨b0, h1, h2, h3⟩ := hst.old id b hid hg hl
      rw [hst.ren id (.inl hid)] at hM
      rcases hagree id b0 M hM h1 with q | q
      · rw [h2] at q; cases q
      · exact .inr ⟨id, M, b0, hM, h1, q, h2, rfl, h3⟩
    · rcases hst.new id M b (by omega) hM hg hl with q | ⟨id0, N, b0, _, h2, h3, h4, h5⟩
      · exact .inl q
      · rcases hagree id0 b0 N h2 h3 with q | q
        · rw [AB.live_of_owned h4] at q; cases q
        · exact .inr ⟨id0, N, b0, h2, h3, q, AB.live_of_owned h4, h5, fun _ => h4⟩
  have hRel : R (sE s.next l S E (fun j => if j = m then true else L j) (m + 1)) ρ' w' := by
    refine ⟨hR.bound, fun id b M hg hM => ?_, fun i j M N bi bj hij e1 e2 e3 e4 e5 e6 => ?_⟩
    · by_cases hlive : b.live = true
      · rcases hclass id b hg hlive with ⟨q, _⟩ | ⟨p, r, ha, rfl, hLp, hp, rfl, hs, how⟩
        · exact hR.blk id b M q hM
        · rw [hren p r ha] at hM
          refine ((I.rel.blk _ _ M hs hM).mono hle).same ?_
          refine hst.frame M.b (I.rel.bound _ _ hM) fun id' N blk hlo hN hgN hoN => ?_
          rcases hagree id' blk N hN hgN with q | q
          · rw [AB.live_of_owned hoN] at q; cases q
          · refine I.rel.inj id' _ N M blk _ ?_ hN hM q hs hoN hlive
            rintro rfl
            have := hnot p r ha (by omega) blk hgN
            rw [AB.live_of_owned hoN] at this; cases this
      · cases b <;> simp [AB.live] at hlive <;> trivial
    · have h5 := AB.live_of_owned e5
      rcases hclass i bi e3 h5 with ⟨q1, _⟩ | ⟨p, r, ha, rfl, hLp, hp, rfl, hs, how⟩
      · rcases hclass j bj e4 e6 with ⟨q2, _⟩ | ⟨p, r, ha, rfl, hLp, hp, rfl, hs, how⟩
        · exact hR.inj i j M N bi bj hij e1 e2 q1 q2 e5 e6
        · rw [hren p r ha] at e2
          have hb := I.rel.bound _ _ e2
          rcases horig i bi M q1 h5 e1 with q | ⟨id0, N0, b0, g1, g2, g3, g4, g5, g6⟩
          · omega
          · rw [← g5]
            refine I.rel.inj id0 _ N0 N b0 _ ?_ g1 e2 g3 hs (g6 e5) e6
            rintro rfl
            have := hnot p r ha (by omega) b0 g2
            rw [g4] at this; cases this
      · rcases hclass j bj e4 e6 with ⟨q2, _⟩ | ⟨p2, r2, ha2, rfl, hLp2, hp2, rfl, hs2, how2⟩
        · rw [hren p r ha] at e1
          have hb := I.rel.bound _ _ e1
          rcases horig j bj N q2 e6 e2 with q | ⟨id0, N0, b0, g1, g2, g3, g4, g5, g6⟩
          · omega
          · rw [← g5]
            refine I.rel.inj _ id0 M N0 _ b0 ?_ e1 g1 hs g3 e5 g4
            rintro rfl
            have := hnot p r ha (by omega) b0 g2
            rw [g4] at this; cases this
        · rw [hren p r ha] at e1
          rw [hren p2 r2 ha2] at e2
          exact I.rel.inj _ _ M N _ _ hij e1 e2 hs hs2 e5 e6
  have hStep : Step (sE s.next l S E L W) (sE s.next l S E (fun j => if j = m then true else L j) (m + 1)) ρ ρ' w w' := by
    have n1 : (sE s.next l S E L W).next = (S W).next := rfl
    have n2 : (sE s.next l S E (fun j => if j = m then true else L j) (m + 1)).next = (S (m + 1)).next := rfl
    have l1 : (sE s.next l S E L W).low = (S W).low := rfl
    have l2 : (sE s.next l S E (fun j => if j = m then true else L j) (m + 1)).low = (S (m + 1)).low := rfl
    refine ⟨by rw [n1, n2]; omega, by rw [l1, l2, ← hlow]; exact hst.low, fun id hid => hst.ren id (by rw [n1, n2] at hid; omega), hst.size, hst.os, hst.tape, hst.output, hst.drawn, fun b hb H => ?_, fun id b h1 h2 h3 => ?_, fun id M b h1 h2 h3 h4 => ?_, fun id h1 h2 => ?_⟩
    · refine hst.frame b hb fun id N blk q1 q2 q3 q4 => ?_
      rcases hagree id blk N q2 q3 with q | q
      · rw [AB.live_of_owned q4] at q; cases q
      · exact H id N blk (by rw [l2]; exact q1) q2 q q4
    · rw [n1, ← hn] at h1
      rcases hclass id b h2 h3 with ⟨q1, q2⟩ | ⟨p, r, ha, rfl, hLp, hp, rfl, hs, how⟩
      · obtain ⟨b0, g1, g2, g3⟩ := hst.old id b h1 q1 h3
        exact ⟨b0, heq id b0 g1 q2, g2, g3⟩
      · exact ⟨_, hs, AB.live_of_owned how, fun h => h⟩
    · rw [n1] at h1
      rcases hclass id b h3 h4 with ⟨q1, q2⟩ | ⟨p, r, ha, rfl, hLp, hp, rfl, hs, how⟩
      · rcases hst.new id M b (by omega) h2 q1 h4 with q | ⟨id0, N, b0, g1, g2, g3, g4, g5⟩
        · exact .inl q
        · rcases hagree id0 b0 N g2 g3 with q | q
          · rw [AB.live_of_owned g4] at q; cases q
          · exact .inr ⟨id0, N, b0, by rw [l2]; exact g1, g2, q, g4, g5⟩
      · have := C.slot ha hWl
        omega
    · rw [n1] at h1
      by_cases hal : ∃ p r, Al l E p r ∧ id = s.next + r
      · obtain ⟨p, r, ha, rfl⟩ := hal
        obtain ⟨b1, hb1, hs1⟩ := C.get_al (L := L) hWl ha
        obtain ⟨b2', hb2, hs2⟩ := C.get_al (L := fun j => if j = m then true else L j) (W := m + 1) (by omega) ha
        rw [hs1, hs2]
        simp only [if_neg (hpm p r ha)]
        have hu := hst.unm _ (by omega) h2
        by_cases hp : p < m
        · rw [if_pos (show p < m + 1 by omega)]
          by_cases hpW : p < W
          · rw [if_pos hpW]
            rw [hb2, b5 p r ha (.inl hpW), hb1] at hu
            injection hu with hu
            rw [hu]
          · rw [if_neg hpW]
            rw [hb2, b4 p r (by omega) hp ha] at hu
            injection hu with hu
            rw [hu]
        · have := hpm p r ha
          rw [if_neg (show ¬ p < m + 1 by omega), if_neg (show ¬ p < W by omega)]
      · have hno' : ∀ p r, Al l E p r → id ≠ s.next + r := fun p r h e => hal ⟨p, r, h, e⟩
        rw [C.get_no hno', C.get_no hno', hst.unm id (by omega) h2, b3 id h1 fun p r _ _ h => hno' p r h]
  refine ⟨by omega, fun j o' ho' hk' => ?_, I.env_add C ho hL hcl hle hv, ?_, hRel, I.step.trans hStep, fun id hid => ?_, fun p r h hp => ?_, fun p r h hp b hb => ?_, fun p r h hp hp2 => ?_⟩
  · by_cases hj : j = m
    · subst hj; simp
    · simp only [if_neg hj]
      rw [I.wr j o' ho' hk']
      constructor
      · intro h; omega
      · intro h
        by_cases hjW : j < W
        · exact hjW
        · exact absurd hk' (hno j (by omega) (by omega) o' ho')
  · cases hd : o.dst <;> simpa [Act.put] using I.defers
  · rw [hst.ren id (.inr hid)]
    exact I.free id (by omega)
  · rw [if_neg (hpm p r h)] at hp
    rw [hren p r h]
    exact I.unb p r h hp
  · by_cases hl : b.live = true
    · obtain ⟨b0, h1, h2, _⟩ := hst.old _ b (C.slot h (by omega)) hb hl
      have := hnot p r h (by omega) b0 h1
      rw [h2] at this; cases this
    · simpa using hl
  · have hne := hpm p r h
    rw [if_neg hne] at hp
    rw [hst.unm _ (C.slot h (by omega)) (I.unb p r h hp)]
    by_cases hpW : p < W
    · rw [b5 p r h (.inl hpW)]
      exact I.pend p r h hp hpW
    · exact b4 p r (by omega) (by omega) h
end

end Go.AM
end
/-
  A region that draws its order, as a whole. Own work of this project.
-/
section
namespace Go.AM
open Go

/-! ### Who comes up before whom -/
theorem ancOf_spec {acc : List Nat} {i : Nat} : ∀ {es : List Edge}, (ancOf acc es).testBit i = true → ∃ e ∈ es, Region.binds .any e = true ∧ (e.on = i ∨ (acc.getD e.on 0).testBit i = true)
  | [], h => by simp [ancOf] at h
  | e :: r, h => by
    simp only [ancOf] at h
    split at h
    · rename_i hb
      simp only [Nat.testBit_or, Bool.or_eq_true, Nat.one_shiftLeft, Nat.testBit_two_pow, decide_eq_true_eq] at h
      rcases h with (h | h) | h
      · exact ⟨e, by simp, hb, .inl h⟩
      · exact ⟨e, by simp, hb, .inr h⟩
      · obtain ⟨e', h1, h2⟩ := ancOf_spec h
        exact ⟨e', by simp [h1], h2⟩
    · obtain ⟨e', h1, h2⟩ := ancOf_spec h
      exact ⟨e', by simp [h1], h2⟩
def AncOk (ops : List Oper) (acc : List Nat) : Prop :=
  ∀ j i, (acc.getD j 0).testBit i = true → ∃ o, ops[j]? = some o ∧ ∃ e ∈ o.after.toList, Region.binds .any e = true ∧ (e.on = i ∨ (e.on < j ∧ (acc.getD e.on 0).testBit i = true))
theorem ancGo_ok {ops : List Oper} : ∀ (os : List Oper) (acc : List Nat), (∀ j, os[j]? = ops[acc.length + j]?) → AncOk ops acc → AncOk ops (ancGo os acc)
  | [], acc, _, h => h
  | o :: r, acc, hix, h => by
    simp only [ancGo]
    have ho : ops[acc.length]? = some o := by have := hix 0; simpa using this.symm
    refine ancGo_ok r _ (fun j => by have := hix (j + 1); simpa [Nat.add_assoc, Nat.add_comm 1] using this) fun j i hb => ?_
    have hold : ∀ x, x < acc.length → (acc ++ [ancOf acc o.after.toList]).getD x 0 = acc.getD x 0 := fun x hx => by
      simp [List.getD_eq_getElem?_getD, List.getElem?_append_left hx]
    by_cases hj : j < acc.length
    · rw [hold j hj] at hb
      obtain ⟨o', h1, e, h2, h3, h4⟩ := h j i hb
      refine ⟨o', h1, e, h2, h3, ?_⟩
      rcases h4 with h4 | ⟨h4, h5⟩
      · exact .inl h4
      · exact .inr ⟨h4, by rw [hold _ (by omega)]; exact h5⟩
    · by_cases hj2 : j = acc.length
      · subst hj2
        have : (acc ++ [ancOf acc o.after.toList]).getD acc.length 0 = ancOf acc o.after.toList := by simp [List.getD_eq_getElem?_getD]
        rw [this] at hb
        obtain ⟨e, h2, h3, h4⟩ := ancOf_spec hb
        refine ⟨o, ho, e, h2, h3, ?_⟩
        rcases h4 with h4 | h4
        · exact .inl h4
        · by_cases he : e.on < acc.length
          · exact .inr ⟨he, by rw [hold _ he]; exact h4⟩
          · simp [List.getD_eq_getElem?_getD, List.getElem?_eq_none (show acc.length ≤ e.on by omega)] at h4
      · simp [List.getD_eq_getElem?_getD, List.getElem?_eq_none (show (acc ++ [ancOf acc o.after.toList]).length ≤ j by simp; omega)] at hb
theorem ancs_ok (ops : Array Oper) : AncOk ops.toList (ancs ops) := ancGo_ok ops.toList [] (fun j => by simp) fun j i h => by simp at h

def Closed (ops : Array Oper) (L : Nat → Bool) : Prop := ∀ (j : Nat) (o : Oper), ops[j]? = some o → L j = true → ∀ e ∈ o.after.toList, Region.binds .any e = true → L e.on = true
theorem prec_in {ops : Array Oper} {L : Nat → Bool} (hc : Closed ops L) {i : Nat} : ∀ (j : Nat), (∀ (o : Oper), ops[j]? = some o → ∀ e ∈ o.after.toList, Region.binds .any e = true → L e.on = true) → precedes (ancs ops) i j = true → L i = true := by
  intro j
  induction j using Nat.strongRecOn with
  | _ j IH =>
    intro h hp
    obtain ⟨o, ho, e, he, hb, hd⟩ := ancs_ok ops j i hp
    have ho' : ops[j]? = some o := by simpa using ho
    have hL := h o ho' e he hb
    rcases hd with rfl | ⟨hlt, hp'⟩
    · exact hL
    · exact IH e.on hlt (fun o' h1 e' h2 h3 => hc e.on o' h1 hL e' h2 h3) hp'

theorem cregD_spec {P : Program} {A : List Nat} {ops : Array Oper} : ∀ {os : List Oper} {i k : Nat} {l : List AOper} {n : Nat}, cregD P A ops os i k = some (l, n) →
    l.length = os.length ∧ ∀ (j : Nat) (ao : AOper), l[j]? = some ao → ∃ o cl, os[j]? = some o ∧ ao.dst = o.dst ∧ ao.op = cop P cl o.op ∧ guardOf ops o = some ao.guard
  | [], i, k, l, n, h => by
    simp only [cregD] at h
    injection h with h; obtain ⟨rfl, rfl⟩ := Prod.mk.inj h
    exact ⟨rfl, fun j ao h => by simp at h⟩
  | o :: r, i, k, l, n, h => by
    simp only [cregD] at h
    split at h
    · rename_i g l' n' hg hr
      injection h with h; obtain ⟨rfl, rfl⟩ := Prod.mk.inj h
      obtain ⟨h1, h2⟩ := cregD_spec hr
      refine ⟨by simp [h1], fun j ao hj => ?_⟩
      cases j with
      | zero =>
        simp at hj; subst hj
        exact ⟨o, _, by simp, rfl, rfl, hg⟩
      | succ j =>
        obtain ⟨o', cl, e1, e2⟩ := h2 j ao (by simpa using hj)
        exact ⟨o', cl, by simpa using e1, e2⟩
    · cases h

section
variable {P : Program} {A : List Nat} {call : Nat → List AV → St → Option (AV × St)} {s : St} {k : Nat} {l : List AOper} {S : Nat → St} {E : Nat → Env} {V : Nat → AV} {ρ0 ρ ρ' : Ren} {w0 w w' : World} {L : Nat → Bool} {W m : Nat} {a : Act} {df : List Deferred}
variable (C : Ctx A call s k l S E V)
include C

theorem Inv.before (I : Inv df s l S E V ρ0 w0 L W ρ a w) {o : AOper} (ho : l[m]? = some o) (hpre : ∀ i, precedes A i m = true → L i = true) (hno : ∀ (i : Nat) (o' : AOper), W ≤ i → i < m → l[i]? = some o' → ¬ ChkP call l S E V i m o' o) {i : Nat} (h1 : W ≤ i) (h2 : i < m) {o' : AOper} (ho' : l[i]? = some o') (hk : o'.op.kind = .write) : pairOk o' o = true := by
  rcases C.pair i m o' o h2 ho' ho with h | h | h
  · have := (I.wr i o' ho' hk).1 (hpre i h)
    omega
  · exact h
  · exact absurd h (hno i o' h1 h2 ho')
theorem Inv.behind (I : Inv df s l S E V ρ0 w0 L W ρ a w) {o : AOper} (ho : l[m]? = some o) (hL : L m = false) (hcl : ∀ i j, L j = true → precedes A i j = true → L i = true) {i : Nat} (h1 : m ≤ i) (h2 : i < W) {o' : AOper} (ho' : l[i]? = some o') (hk : o'.op.kind = .write) : pairOk o o' = true := by
  have hi := (I.wr i o' ho' hk).2 h2
  by_cases him : i = m
  · subst him; rw [hL] at hi; cases hi
  · rcases C.pair m i o o' (by omega) ho ho' with h | h | h
    · rw [hcl m i hi h] at hL; cases hL
    · exact h
    · have h := h.2.2.2.1; rw [hk] at h; cases h
theorem pairOk_wr {a b : AOper} (h : pairOk a b = true) (ha : a.op.kind = .write) (hb : b.op.kind = .read ∨ b.op.kind = .write) : b.op.kind = .read ∧ a.fresh = true ∧ b.op.isCall = false ∧ (b.fresh = false → a.stores = false) := by
  simp only [pairOk, Bool.and_eq_true] at h
  have h := h.2
  rcases hb with hb | hb <;> rw [ha, hb] at h
  · simp only [Bool.and_eq_true, Bool.not_eq_true', Bool.or_eq_true] at h
    exact ⟨hb, h.1.1, h.1.2, fun hf => h.2.resolve_right (by simp [hf])⟩
  · cases h
theorem pairOk_rd {a b : AOper} (h : pairOk a b = true) (hb : b.op.kind = .write) (ha : a.op.kind = .read ∨ a.op.kind = .write) : a.op.kind = .read ∧ b.fresh = true ∧ a.op.isCall = false ∧ (a.fresh = false → b.stores = false) := by
  simp only [pairOk, Bool.and_eq_true] at h
  have h := h.2
  rcases ha with ha | ha <;> rw [ha, hb] at h
  · simp only [Bool.and_eq_true, Bool.not_eq_true', Bool.or_eq_true] at h
    exact ⟨ha, h.1.1, h.1.2, fun hf => h.2.resolve_right (by simp [hf])⟩
  · cases h

/-- The memory that operation 'm' meets in the text's run stands. -/
theorem Inv.meet (I : Inv df s l S E V ρ0 w0 L W ρ a w) {o : AOper} (ho : l[m]? = some o) (hL : L m = false) (hcl : ∀ i j, L j = true → precedes A i j = true → L i = true) (hpre : ∀ i, precedes A i m = true → L i = true)
    (hno : ∀ (i : Nat) (o' : AOper), W ≤ i → i < m → l[i]? = some o' → ¬ ChkP call l S E V i m o' o) (hk : o.op.kind = .read ∨ o.op.kind = .write) (hfr : o.op.kind = .read → o.fresh = false) : R (S m) ρ w ∧ (o.op.kind = .write ∨ o.op.isCall = true → Free (S m) ρ ∧ (o.op.kind = .write → W ≤ m ∧ ∀ i, W ≤ i → i < m → NoWr l i)) := by
  have hm := (List.getElem?_eq_some_iff.1 ho).1
  have q1 : ∀ i, W ≤ i → i < m → Quiet l i := fun i h1 h2 o' ho' hk' => by
    have := pairOk_wr C (I.before C ho hpre hno h1 h2 ho' hk') hk' hk
    exact ⟨this.2.1, this.2.2.2 (hfr this.1)⟩
  have q2 : ∀ i, m ≤ i → i < W → Quiet l i := fun i h1 h2 o' ho' hk' => by
    have := pairOk_rd C (I.behind C ho hL hcl h1 h2 ho' hk') hk' hk
    exact ⟨this.2.1, this.2.2.2 (hfr this.1)⟩
  refine ⟨I.rel.sub fun id b M h1 h2 => I.agree C (by omega) q1 q2 id b M h1 h2, fun hh => ?_⟩
  have n1 : ∀ i, W ≤ i → i < m → NoWr l i := fun i h1 h2 o' ho' hk' => by
    have := pairOk_wr C (I.before C ho hpre hno h1 h2 ho' hk') hk' hk
    rcases hh with h | h
    · rw [h] at this; cases this.1
    · rw [h] at this; cases this.2.2.1
  have n2 : ∀ i, m ≤ i → i < W → NoWr l i := fun i h1 h2 o' ho' hk' => by
    have := pairOk_rd C (I.behind C ho hL hcl h1 h2 ho' hk') hk' hk
    rcases hh with h | h
    · rw [h] at this; cases this.1
    · rw [h] at this; cases this.2.2.1
  have hnx : (S m).next = (S W).next := by
    by_cases hWm : W ≤ m
    · exact ((C.btw hWm (by omega) q1).2.1 n1).1
    · exact ((C.btw (by omega) I.W_le q2).2.1 n2).1.symm
  refine ⟨fun id hid => I.free id (by omega), fun hw => ⟨?_, n1⟩⟩
  by_cases hWm : W ≤ m
  · exact hWm
  · have := (I.wr m o ho hw).2 (by omega)
    rw [hL] at this; cases this

/-- What was there ahead of the region is what a load of it meets. -/
theorem Inv.old (I : Inv df s l S E V ρ0 w0 L W ρ a w) {o : AOper} (ho : l[m]? = some o) (hL : L m = false) (hcl : ∀ i j, L j = true → precedes A i j = true → L i = true) (hpre : ∀ i, precedes A i m = true → L i = true)
    (hno : ∀ (i : Nat) (o' : AOper), W ≤ i → i < m → l[i]? = some o' → ¬ ChkP call l S E V i m o' o) (hk : o.op.kind = .read) (id : Nat) (hid : id < s.next) : (sE s.next l S E L W).get id = (S m).get id := by
  have hm := (List.getElem?_eq_some_iff.1 ho).1
  have hWl := I.W_le
  have q1 : ∀ i, W ≤ i → i < m → Quiet0 l i := fun i h1 h2 o' ho' hk' => by
    have := pairOk_wr C (I.before C ho hpre hno h1 h2 ho' hk') hk' (.inl hk)
    exact this.2.1
  have q2 : ∀ i, m ≤ i → i < W → Quiet0 l i := fun i h1 h2 o' ho' hk' => by
    have := pairOk_rd C (I.behind C ho hL hcl h1 h2 ho' hk') hk' (.inl hk)
    exact this.2.1
  rw [C.get_no fun p r h e => by omega]
  have hb : ∀ i, i ≤ l.length → s.next ≤ (S i).next := fun i hi => by have := C.nx hi; omega
  by_cases hWm : W ≤ m
  · obtain ⟨d, rfl⟩ : ∃ d, m = W + d := ⟨m - W, by omega⟩
    exact ((tr_olds C.tr C.res' C.kp (hb W hWl) d (fun i h1 h2 => q1 i h1 h2) (by omega)).2 id hid).symm
  · obtain ⟨d, hd⟩ : ∃ d, W = m + d := ⟨W - m, by omega⟩
    subst hd
    exact (tr_olds C.tr C.res' C.kp (hb m (by omega)) d (fun i h1 h2 => q2 i h1 h2) (by omega)).2 id hid

theorem Inv.done (I : Inv df s l S E V ρ0 w0 L W ρ a w) (hall : ∀ j, j < l.length → L j = true) : Step s (S l.length) ρ0 ρ w0 w ∧ R (S l.length) ρ w ∧ Free (S l.length) ρ ∧ EnvR ρ (E l.length) a.tmps := by
  have hWl := I.W_le
  have hno : ∀ i, W ≤ i → i < l.length → NoWr l i := fun i h1 h2 o ho hk => by
    have := (I.wr i o ho hk).1 (hall i h2)
    omega
  obtain ⟨_, b2, b3, b4, b5⟩ := C.btw hWl (Nat.le_refl _) fun i h1 h2 o' ho' hk' => absurd hk' (hno i h1 h2 o' ho')
  obtain ⟨hn, hlow⟩ := b2 hno
  have hg : ∀ id, (sE s.next l S E L W).get id = (S l.length).get id := by
    intro id
    by_cases hal : ∃ p r, Al l E p r ∧ id = s.next + r
    · obtain ⟨p, r, ha, rfl⟩ := hal
      obtain ⟨b0, hb0, hs⟩ := C.get_al (L := L) hWl ha
      rw [hs, hall p ha.lt]
      simp only [if_true]
      by_cases hp : p < W
      · rw [if_pos hp, b5 p r ha (.inl hp), hb0]
      · rw [if_neg hp, b4 p r (by omega) ha.lt ha]
    · have hno' : ∀ p r, Al l E p r → id ≠ s.next + r := fun p r h e => hal ⟨p, r, h, e⟩
      rw [C.get_no hno']
      by_cases hid : id < (S W).next
      · rw [b3 id hid fun p r _ _ h => hno' p r h]
      · simp [St.get, hid, hn]
  refine ⟨I.step.congr hg hn.symm hlow.symm, I.rel.sub fun id b M _ h2 => .inr (by rw [hg]; exact h2), fun id hid => I.free id (by omega), ?_⟩
  have := I.env
  rw [curE_all C.tr hall l.length (Nat.le_refl _)] at this
  exact this

variable {ops : Array Oper} {Q : Exit → Act → World → Prop}
/-- One operation of a region that draws its order. -/
theorem Inv.go (hS : Sound P call) (I : Inv df s l S E V ρ0 w0 L W ρ a w) {o : AOper} (ho : l[m]? = some o) (hL : L m = false) (hcl : ∀ i j, L j = true → precedes A i j = true → L i = true) (hpre : ∀ i, precedes A i m = true → L i = true)
    {oc : Oper} {cl : Bool} (hoc : ops[m]? = some oc) (h1 : o.dst = oc.dst) (h2 : o.op = cop P cl oc.op) (h3 : guardOf ops oc = some o.guard) {K : Act → World → Prop}
    (hK : ∀ W' ρ' a' w', Inv df s l S E V ρ0 w0 (fun j => if j = m then true else L j) W' ρ' a' w' → K a' w') : wpOp P ops Q m K a w := by
  have hlk := I.look C ho hL hcl hpre
  have hE := I.env.mask o.looks
  have hwl := wanted_look hlk
  have hopd := aev_look hlk
  unfold wpOp
  rw [hoc]
  simp only
  rcases C.tr.step m o ho with ⟨hw, h⟩ | ⟨hw, hv, h⟩
  · rw [hw] at hwl
    obtain ⟨dst, op, guard, res, fresh⟩ := o
    simp only at h1 h2 h3
    subst h1; subst h2
    rw [wanted_rel hE h3 hwl, if_pos rfl]
    left
    cases hk : (cop P cl oc.op).kind
    · obtain ⟨hp, hs⟩ := aop_pure h hk
      simp only at hp
      rw [← apure_congr hopd] at hp
      refine wp_pure hE hp fun c hc => hK _ _ _ _ (I.quiet C ho hL hcl (by simp [hk]) ?_ (Clean.refl w) hc)
      rintro r ⟨o', e1, e2, _⟩
      rw [ho] at e1; injection e1 with e1; subst e1
      simp only at e2; rw [hk] at e2; cases e2
    · obtain ⟨r, hr, hrk⟩ := C.res m _ ho hk
      have ha : Al l E m r := ⟨_, ho, hk, hr, hw⟩
      obtain ⟨t1, t2, o', mk, t3, t4, t5⟩ := tr_al C.tr ha
      rw [ho] at t3; injection t3 with t3; subst t3
      simp only at t4
      rw [← aalloc_congr hopd] at t4
      refine wp_alloc hE t4 fun M w' c hcl' e1 e2 e3 e4 e5 => hK _ _ _ _ (I.alloc C ho hL hcl ha hcl' e1 e2 (e4 _ (Ren.le_set M (I.unb m r ha hL))) ?_)
      rw [t5]
      exact e3 _ _ (Ren.le_set M (I.unb m r ha hL)) (Ren.set_same _ _ _)
    · by_cases hchk : ∃ (i : Nat) (o' : AOper), W ≤ i ∧ i < m ∧ l[i]? = some o' ∧ ChkP call l S E V i m o' ⟨oc.dst, cop P cl oc.op, guard, res, fresh⟩
      · obtain ⟨i, o', hWi, him, ho', _, _, c3, _, c5, _, c7, c8, c9⟩ := hchk
        have hm := (List.getElem?_eq_some_iff.1 ho).1
        have hp := c7 hw
        simp only at hp c5
        rw [← aread_congr hopd] at hp
        have hR : R (S i) ρ w := I.rel.sub fun id b M h1 h2 => I.agree C (by omega) (fun q q1 q2 o2 ho2 hk2 => absurd hk2 (c8 q o2 (by omega) (by omega) ho2)) (fun q q1 q2 => by omega) id b M h1 h2
        exact wp_read hE hR c5 hp fun c hv => hK _ _ _ _ (I.quiet C ho hL hcl (by simp [hk]) (fun r => c9 m r) (Clean.refl w) hv)
      have hno : ∀ (i : Nat) (o' : AOper), W ≤ i → i < m → l[i]? = some o' → ¬ ChkP call l S E V i m o' ⟨oc.dst, cop P cl oc.op, guard, res, fresh⟩ := fun i o' q1 q2 q3 q4 => hchk ⟨i, o', q1, q2, q3, q4⟩
      obtain ⟨hp, hs, hold⟩ := aop_read h hk
      simp only at hp hold
      have hna : ∀ r, ¬ Al l E m r := by
        rintro r ⟨o', e1, e2, _⟩
        rw [ho] at e1; injection e1 with e1; subst e1
        simp only at e2; rw [hk] at e2; cases e2
      cases hfr : fresh
      rotate_left
      · have hold := hold hfr
        have hget := fun id hid => I.old C ho hL hcl hpre hno hk id hid
        have hp2 : aread call (E m) (sE s.next l S E L W) (cop P cl oc.op) = some (V m) ∧ (cop P cl oc.op).isCall = false := by
          revert hp hold
          generalize cop P cl oc.op = op
          intro hp hold
          cases op <;> simp only [oldLoad, Bool.false_eq_true] at hold
          all_goals
            simp only [aread] at hp ⊢
            split at hold
            · rename_i id off hv
              try simp only [hv] at hp
              try simp only [hv]
              rw [hget id (by simpa using hold)]
              exact ⟨hp, rfl⟩
            · cases hold
        obtain ⟨hp2, hc⟩ := hp2
        rw [← aread_congr hopd] at hp2
        exact wp_read hE I.rel hc hp2 fun c hv => hK _ _ _ _ (I.quiet C ho hL hcl (by simp [hk]) hna (Clean.refl w) hv)
      rw [← aread_congr hopd] at hp
      obtain ⟨hR, hF⟩ := I.meet C ho hL hcl hpre hno (.inl hk) fun _ => hfr
      cases hc : (cop P cl oc.op).isCall
      · exact wp_read hE hR hc hp fun c hv => hK _ _ _ _ (I.quiet C ho hL hcl (by simp [hk]) hna (Clean.refl w) hv)
      · have hcl1 : cl = true := by
          cases hcc : cop P cl oc.op <;> rw [hcc] at hc hk <;> simp [AOp.isCall] at hc
          · have := isCall_cl hcc
            subst this
            simpa [AOp.kind] using hk
          · have := isCallv_cl hcc
            subst this
            simpa [AOp.kind] using hk
        subst hcl1
        exact wp_callc hS hE hR (hF (.inr hc)).1 hc hp fun w' c hcln hv => hK _ _ _ _ (I.quiet C ho hL hcl (by simp [hk]) hna hcln hv)
    · obtain ⟨hR, hF⟩ := I.meet C ho hL hcl hpre (fun i o' _ _ _ q => by have := q.2.2.2.1; simp only [hk] at this; cases this) (.inr hk) (fun e => by rw [hk] at e; cases e)
      obtain ⟨hF, hW⟩ := hF (.inl hk)
      obtain ⟨hW, hno⟩ := hW hk
      have hgo : ∀ (s1 s2 : St), (∀ id, s1.get id = (S m).get id) → s1.next = (S m).next → aeff call (maskE (AOper.looks ⟨oc.dst, cop P cl oc.op, guard, res, fresh⟩) (curE l V L (E 0) l.length)) s1 (cop P cl oc.op) = some (V m, s2) →
          (∀ ρ' w', Step s1 s2 ρ ρ' w w' → R s2 ρ' w' → Step (S m) (S (m + 1)) ρ ρ' w w' ∧ R (S (m + 1)) ρ' w') → oc.wp P a w K Q := by
        intro s1 s2 hg hn he hback
        have hR1 : R s1 ρ w := hR.sub fun id b M _ h => .inr (by rw [← hg]; exact h)
        have hF1 : Free s1 ρ := fun id hid => hF id (by omega)
        have hfin : ∀ ρ' w' c, Step s1 s2 ρ ρ' w w' → R s2 ρ' w' → VR ρ' (V m) c → K (a.put oc.dst c) w' := fun ρ' w' c g1 g2 g3 => by
          obtain ⟨g4, g5⟩ := hback ρ' w' g1 g2
          exact hK _ _ _ _ (I.write C ho hL hcl hk hW hno g4 g5 g3)
        cases hc : (cop P cl oc.op).isCall
        · exact effs_wp hE hR1 (fun id g1 _ => hF1 id g1) hc he hfin
        · have hcl1 : cl = false := by
            cases hcc : cop P cl oc.op <;> rw [hcc] at hc hk <;> simp [AOp.isCall] at hc
            · have := isCall_cl hcc
              subst this
              simpa [AOp.kind] using hk
            · have := isCallv_cl hcc
              subst this
              simpa [AOp.kind] using hk
          subst hcl1
          exact wp_calld hS hE hR1 hF1 hc he hfin
      rcases aop_write h hk with ⟨_, s1, q1, q2, q3⟩ | ⟨_, q1⟩
      · simp only at q1
        rw [← aeff_congr hopd] at q1
        refine hgo { S m with low := (S m).next } s1 (fun id => rfl) rfl q1 fun ρ' w' g1 g2 => ?_
        rw [q3]
        exact ⟨g1.relow rfl, g2.low _⟩
      · simp only at q1
        rw [← aeff_congr hopd] at q1
        exact hgo _ _ (fun id => rfl) rfl q1 fun ρ' w' g1 g2 => ⟨g1, g2⟩
  · rw [hw] at hwl
    obtain ⟨dst, op, guard, res, fresh⟩ := o
    simp only at h1 h2 h3
    subst h1; subst h2
    rw [wanted_rel hE h3 hwl, if_neg (by simp)]
    have hund : VR ρ (V m) undef := by rw [hv]; simp [VR]
    by_cases hk : (cop P cl oc.op).kind = .write
    · obtain ⟨hR, hF⟩ := I.meet C ho hL hcl hpre (fun i o' _ _ _ q => by have := q.2.2.2.1; simp only [hk] at this; cases this) (.inr hk) (fun e => by rw [hk] at e; cases e)
      obtain ⟨hW, hno⟩ := (hF (.inl hk)).2 hk
      exact hK _ _ _ _ (I.write C ho hL hcl hk hW hno (by rw [h]; exact Step.refl _ _ _) (by rw [h]; exact hR) hund)
    · refine hK _ _ _ _ (I.quiet C ho hL hcl hk ?_ (Clean.refl w) hund)
      rintro r ⟨o', e1, _, _, e4⟩
      rw [ho] at e1; injection e1 with e1; subst e1
      rw [hw] at e4; cases e4

omit C in
theorem gd {b : Array Bool} {j : Nat} (h : j < b.size) (d : Bool) : b.getD j d = b[j] := by simp [Array.getD_eq_getD_getElem?, h]
/-- The rest of a region that draws its order. -/
theorem any_wp (hS : Sound P call) (hA : A = ancs ops) (hlen : l.length = ops.size) (hop : ∀ (j : Nat) (ao : AOper), l[j]? = some ao → ∃ o cl, ops[j]? = some o ∧ ao.dst = o.dst ∧ ao.op = cop P cl o.op ∧ guardOf ops o = some ao.guard)
    (hafter : ∀ (j : Nat) (o : Oper), ops[j]? = some o → ∀ e ∈ o.after.toList, Region.binds .any e = true → e.on < j)
    (hQ : ∀ ρ a w, Step s (S l.length) ρ0 ρ w0 w → R (S l.length) ρ w → Free (S l.length) ρ → EnvR ρ (E l.length) a.tmps → a.defers = df → Q .normal a w) :
    ∀ (fuel : Nat) (listed : Array Bool) (W : Nat) (ρ : Ren) (a : Act) (w : World), listed.size = ops.size → listed.toList.count false = fuel → Closed ops (fun j => listed.getD j false) →
      Inv df s l S E V ρ0 w0 (fun j => listed.getD j false) W ρ a w → wpAny P .any ops Q fuel listed a w := by
  have hfin : ∀ (listed : Array Bool) (W : Nat) (ρ : Ren) (a : Act) (w : World), Inv df s l S E V ρ0 w0 (fun j => listed.getD j false) W ρ a w → (∀ j, j < ops.size → listed.getD j false = true) → Q .normal a w := by
    intro listed W ρ a w I hall
    obtain ⟨g1, g2, g3, g4⟩ := I.done C fun j hj => hall j (by omega)
    exact hQ ρ a w g1 g2 g3 g4 I.defers
  intro fuel
  induction fuel with
  | zero =>
    intro listed W ρ a w hsz hct hcl I
    have hall : ∀ j, j < ops.size → listed.getD j false = true := by
      intro j hj
      have hmem : ¬ false ∈ listed.toList := by
        intro hm
        have := List.count_pos_iff.2 hm
        omega
      have hj' : j < listed.size := by omega
      rw [gd hj']
      cases hb : listed[j]
      · exact absurd (by rw [← hb]; simp) hmem
      · rfl
    refine ⟨?_, hfin listed W ρ a w I hall⟩
    unfold Region.ready
    rw [List.filter_eq_nil_iff]
    intro j hj
    have hj := List.mem_range.1 hj
    have := hall j hj
    have hj' : j < listed.size := by omega
    rw [gd hj'] at this ⊢
    simp [this]
  | succ fuel IH =>
    intro listed W ρ a w hsz hct hcl I
    refine ⟨fun hnil => hfin listed W ρ a w I ?_, fun m hm => ?_⟩
    · intro j
      induction j using Nat.strongRecOn with
      | _ j IHj =>
        intro hj
        cases hb : listed.getD j false
        · exfalso
          have hmem : j ∈ Region.ready .any ops listed := by
            unfold Region.ready
            rw [List.mem_filter]
            refine ⟨List.mem_range.2 hj, ?_⟩
            have hj' : j < listed.size := by omega
            have hoj : ops[j]? = some ops[j] := by simp [hj]
            rw [gd hj'] at hb
            rw [gd hj']
            simp only [hoj, Option.map_some, Option.getD_some, Bool.and_eq_true]
            refine ⟨by simp [hb], ?_⟩
            rw [Array.all_eq_true']
            intro e he
            by_cases hbd : Region.binds .any e = true
            · have hlt := hafter j _ hoj e (by simpa using he) hbd
              have := IHj e.on hlt (by omega)
              rw [this, hbd]
              rfl
            · simp [hbd]
          rw [hnil] at hmem
          cases hmem
        · rfl
    · unfold Region.ready at hm
      rw [List.mem_filter, List.mem_range] at hm
      obtain ⟨hlt, hm⟩ := hm
      have hlt' : m < listed.size := by omega
      have hom : ops[m]? = some ops[m] := by simp [hlt]
      rw [gd hlt'] at hm
      simp only [hom, Option.map_some, Option.getD_some, Bool.and_eq_true] at hm
      obtain ⟨hm1, hm2⟩ := hm
      have hL : listed.getD m false = false := by rw [gd hlt']; simpa using hm1
      have haft : ∀ e ∈ (ops[m]).after.toList, Region.binds .any e = true → listed.getD e.on false = true := by
        intro e he hb
        rw [Array.all_eq_true'] at hm2
        have := hm2 e (by simpa using he)
        simp only [hb, Bool.not_true, Bool.false_or] at this
        exact this
      have hclo : ∀ i j, listed.getD j false = true → precedes A i j = true → listed.getD i false = true := by
        intro i j hj hp
        subst hA
        exact prec_in hcl j (fun o ho e he hb => hcl j o ho hj e he hb) hp
      have hpre : ∀ i, precedes A i m = true → listed.getD i false = true := by
        intro i hp
        subst hA
        refine prec_in hcl m (fun o ho e he hb => ?_) hp
        rw [hom] at ho; injection ho with ho; subst ho
        exact haft e he hb
      obtain ⟨ao, hao⟩ : ∃ ao, l[m]? = some ao := ⟨l[m]'(by omega), by simp⟩
      obtain ⟨oc, cl, e1, e2, e3, e4⟩ := hop m ao hao
      have hLs : (fun j => (listed.setIfInBounds m true).getD j false) = fun j => if j = m then true else listed.getD j false := by
        funext j
        by_cases hj : j = m
        · subst hj
          simp [Array.getD_eq_getD_getElem?, hlt']
        · simp [Array.getD_eq_getD_getElem?, hj, Array.getElem?_setIfInBounds_ne (Ne.symm hj)]
      refine I.go C hS hao hL hclo hpre e1 e2 e3 e4 fun W' ρ' a' w' I' => ?_
      refine IH _ W' ρ' a' w' (by simpa using hsz) ?_ ?_ (by rw [hLs]; exact I')
      · have hLm : listed[m] = false := by rw [gd hlt'] at hL; exact hL
        have : (listed.setIfInBounds m true).toList = listed.toList.set m true := by simp
        rw [this, List.count_set (by simpa using hlt')]
        simp only [Array.getElem_toList, hLm, hct]
        simp
      · rw [hLs]
        intro j o ho hj e he hb
        simp only at hj ⊢
        by_cases hem : e.on = m
        · simp [hem]
        · rw [if_neg hem]
          by_cases hjm : j = m
          · subst hjm
            rw [hom] at ho; injection ho with ho; subst ho
            exact haft e he hb
          · rw [if_neg hjm] at hj
            exact hcl j o ho hj e he hb
end

end Go.AM
end
/-
  Code, loops and functions. Own work of this project.
-/
section
namespace Go.AM
open Go

variable {P : Program} {ρ : Ren}

theorem uniq_res {r : Nat} : ∀ {l : List AOper}, (l.filterMap (·.res)).Nodup → ∀ {p q : Nat} {a b : AOper}, l[p]? = some a → l[q]? = some b → a.res = some r → b.res = some r → p = q
  | [], _, _, _, _, _, h, _, _, _ => by simp at h
  | o :: l, hn, p, q, a, b, hp, hq, ha, hb => by
    have hmem : ∀ (j : Nat) (c : AOper), l[j]? = some c → c.res = some r → r ∈ l.filterMap (·.res) := fun j c hj hc => List.mem_filterMap.2 ⟨c, List.mem_of_getElem? hj, hc⟩
    have htail : (l.filterMap (·.res)).Nodup := by
      rw [List.filterMap_cons] at hn
      split at hn
      · exact hn
      · exact (List.nodup_cons.1 hn).2
    have hhead : o.res = some r → r ∉ l.filterMap (·.res) := by
      intro h
      rw [List.filterMap_cons, h] at hn
      exact (List.nodup_cons.1 hn).1
    cases p with
    | zero =>
      simp at hp; subst hp
      cases q with
      | zero => rfl
      | succ q => exact absurd (hmem q b (by simpa using hq) hb) (hhead ha)
    | succ p =>
      cases q with
      | zero =>
        simp at hq; subst hq
        exact absurd (hmem p a (by simpa using hp) ha) (hhead hb)
      | succ q => exact congrArg _ (uniq_res htail (by simpa using hp) (by simpa using hq) ha hb)

/-- A region that draws its order, by its run in the text's order. -/
theorem ctx_any {df : List Deferred} {call : Nat → List AV → St → Option (AV × St)} (hS : Sound P call) {ops : Array Oper} {l : List AOper} {k : Nat} {env env' : Env} {s s' : St} {a : Act} {w : World} {Q : Exit → Act → World → Prop} {S : Nat → St} {E : Nat → Env} {V : Nat → AV}
    (C : Ctx (ancs ops) call s k l S E V) (hE0 : E 0 = env) (hS' : S l.length = s') (hE' : E l.length = env') (hlen' : l.length = ops.size)
    (hops : ∀ (j : Nat) (ao : AOper), l[j]? = some ao → ∃ o cl, ops.toList[j]? = some o ∧ ao.dst = o.dst ∧ ao.op = cop P cl o.op ∧ guardOf ops o = some ao.guard)
    (hafter : ((List.range ops.size).all fun j => match ops[j]? with | some o => o.after.toList.all fun e => !Region.binds .any e || decide (e.on < j) | none => false) = true) (hE : EnvR ρ env a.tmps) (hR : R s ρ w) (hf : Free s ρ) (hd : a.defers = df)
    (hQ : ∀ ρ' a' w', Step s s' ρ ρ' w w' → R s' ρ' w' → Free s' ρ' → EnvR ρ' env' a'.tmps → a'.defers = df → Q .normal a' w') : wpAny P .any ops Q ops.size (Array.replicate ops.size false) a { w with drawn := w.drawn + 1 } := by
  have h0 := C.s0
  have hL0 : ∀ j, (Array.replicate ops.size false).getD j false = false := by
    intro j
    simp [Array.getD_eq_getD_getElem?, Array.getElem?_replicate]
    split <;> rfl
  have hgetold : ∀ j, j < s.next → (sE s.next l S E (fun j => (Array.replicate ops.size false).getD j false) 0).get j = s.get j := by
    intro j hj
    rw [C.get_no fun p r _ e => by omega, h0, St.get_reserve, if_pos hj]
  have hgetnew : ∀ j b, s.next ≤ j → (sE s.next l S E (fun j => (Array.replicate ops.size false).getD j false) 0).get j = some b → b = .unborn := by
    intro j b hj hg
    by_cases hal : ∃ p r, Al l E p r ∧ j = s.next + r
    · obtain ⟨p, r, ha, rfl⟩ := hal
      obtain ⟨b0, hb0, hs⟩ := C.get_al (L := fun j => (Array.replicate ops.size false).getD j false) (Nat.zero_le _) ha
      rw [hs] at hg
      simp only [hL0, Bool.false_eq_true, if_false] at hg
      injection hg with hg; exact hg.symm
    · rw [C.get_no fun p r h e => hal ⟨p, r, h, e⟩, h0, St.get_reserve, if_neg (by omega)] at hg
      split at hg
      · injection hg with hg; exact hg.symm
      · cases hg
  have hclean : Clean w { w with drawn := w.drawn + 1 } := clean_drew w
  have I : Inv df s l S E V ρ w (fun j => (Array.replicate ops.size false).getD j false) 0 ρ a { w with drawn := w.drawn + 1 } := by
    refine ⟨Nat.zero_le _, fun j o _ _ => by simp [hL0], ?_, hd, (hR.clean hclean).sub fun j b M h1 h2 => ?_, ?_, fun j hj => ?_, fun p r ha _ => hf _ (by omega), fun p r ha _ b hb => ?_, fun p r _ _ hp => by omega⟩
    · have : ∀ j, curE l V (fun j => (Array.replicate ops.size false).getD j false) (E 0) j = E 0 := by
        intro j
        induction j with
        | zero => rfl
        | succ j ih =>
          simp only [curE]
          split
          · rw [if_neg (by rw [hL0]; simp)]
            exact ih
          · exact ih
      rw [this, hE0]
      exact hE
    · by_cases hj : j < s.next
      · rw [hgetold j hj] at h2
        exact .inr h2
      · rw [hgetnew j b (by omega) h2]
        exact .inl rfl
    · refine ⟨?_, ?_, fun _ _ => rfl, hclean.size, rfl, rfl, rfl, hclean.drawn, fun b hb _ => hclean.block b hb, fun j b h1 h2 h3 => ⟨b, by rw [← hgetold j h1]; exact h2, h3, fun h => h⟩, fun j M b h1 h2 h3 h4 => ?_, fun j h1 _ => hgetold j h1⟩
      · show s.next ≤ (S 0).next
        rw [h0]; simp
      · show (S 0).low ≤ s.low
        rw [h0]; simp
      · rw [hgetnew j b h1 h3] at h4
        cases h4
    · refine hf j ?_
      rw [h0] at hj
      simp at hj
      omega
    · have := C.lt ha
      rw [h0, St.get_reserve, if_neg (by omega), if_pos (by omega)] at hb
      injection hb with hb; subst hb; rfl
  refine (any_wp C hS rfl hlen' (fun j ao hj => ?_) (fun j o ho e he hb => ?_) (fun ρ' a' w' g1 g2 g3 g4 g5 => ?_) ops.size (Array.replicate ops.size false) 0 ρ a _ (by simp) (by simp) (fun j o _ hj => ?_) I)
  · obtain ⟨o, cl, e1, e2⟩ := hops j ao hj
    exact ⟨o, cl, by simpa using e1, e2⟩
  · have hj := (Array.getElem?_eq_some_iff.1 ho).1
    have := List.all_eq_true.1 hafter j (List.mem_range.2 hj)
    rw [ho] at this
    have := List.all_eq_true.1 this e he
    simpa [hb] using this
  · rw [hS'] at g1 g2 g3
    rw [hE'] at g4
    exact hQ ρ' a' w' g1 g2 g3 g4 g5
  · simp only [hL0] at hj
    cases hj
/-- A region that draws its order. -/
theorem regd_any {df : List Deferred} {call : Nat → List AV → St → Option (AV × St)} (hS : Sound P call) {ops : Array Oper} {l : List AOper} {k n : Nat} {env env' : Env} {s s' : St} {a : Act} {w : World} {Q : Exit → Act → World → Prop}
    (hcreg : cregD P (ancs ops) ops ops.toList 0 0 = some (l, n)) (hdraw : drawOk (ancs ops) ops l k = true) (h : aops call s.next l env (s.reserve k) = some (env', s')) (hE : EnvR ρ env a.tmps) (hR : R s ρ w) (hf : Free s ρ) (hd : a.defers = df)
    (hQ : ∀ ρ' a' w', Step s s' ρ ρ' w w' → R s' ρ' w' → Free s' ρ' → EnvR ρ' env' a'.tmps → a'.defers = df → Q .normal a' w') : wpAny P .any ops Q ops.size (Array.replicate ops.size false) a { w with drawn := w.drawn + 1 } := by
  obtain ⟨S, E, V, hT, h0, hE0, hS', hE'⟩ := trace_of l env env' _ s' h
  obtain ⟨hlen, hops⟩ := cregD_spec hcreg
  simp only [drawOk, Bool.and_eq_true] at hdraw
  obtain ⟨⟨⟨⟨_, hafter⟩, hpair⟩, hres⟩, huniq⟩ := hdraw
  have hnd := of_decide_eq_true huniq
  have hlen' : l.length = ops.size := by simpa using hlen
  have C : Ctx (ancs ops) call s k l S E V := by
    refine ⟨hT, h0, fun i o ho hk => ?_, fun p q r hp hq => ?_, fun i j a b hij ha hb => ?_, fun i hi => ?_, fun env s s1 op v h => keeps_effc hS h⟩
    · have := List.all_eq_true.1 hres o (List.mem_of_getElem? ho)
      simp only [hk, bne_self_eq_false, Bool.false_or] at this
      split at this
      · rename_i r hr
        exact ⟨r, hr, of_decide_eq_true this⟩
      · cases this
    · obtain ⟨o1, e1, _, e3, _⟩ := hp
      obtain ⟨o2, f1, _, f3, _⟩ := hq
      exact uniq_res hnd e1 f1 e3 f3
    · have hj := (List.getElem?_eq_some_iff.1 hb).1
      have := List.all_eq_true.1 (List.all_eq_true.1 hpair j (List.mem_range.2 (by omega))) i (List.mem_range.2 hij)
      rw [ha, hb] at this
      rcases (by simpa using this) with h | h
      · exact .inl h
      · exact .inr (.inl h)
    · obtain ⟨o, ho⟩ : ∃ o, l[i]? = some o := ⟨l[i]'hi, by simp⟩
      rcases hT.step i o ho with ⟨_, q⟩ | ⟨_, _, q⟩
      · exact grow_aop hS q
      · rw [q]; exact .refl _
  exact ctx_any hS C hE0 hS' hE' hlen' hops hafter hE hR hf hd hQ
theorem cregP_spec {ops : Array Oper} : ∀ {os : List Oper} {l : List AOper}, cregP P ops os = some l →
    l.length = os.length ∧ ∀ (j : Nat) (ao : AOper), l[j]? = some ao → ∃ o cl, os[j]? = some o ∧ ao.dst = o.dst ∧ ao.op = cop P cl o.op ∧ guardOf ops o = some ao.guard
  | [], l, h => by
    simp only [cregP] at h
    injection h with h; subst h
    exact ⟨rfl, fun j ao h => by simp at h⟩
  | o :: r, l, h => by
    simp only [cregP] at h
    split at h
    · rename_i g l' hg hr
      injection h with h; subst h
      obtain ⟨h1, h2⟩ := cregP_spec hr
      refine ⟨by simp [h1], fun j ao hj => ?_⟩
      cases j with
      | zero =>
        simp at hj; subst hj
        exact ⟨o, _, by simp, rfl, rfl, hg⟩
      | succ j =>
        obtain ⟨o', cl, e1, e2⟩ := h2 j ao (by simpa using hj)
        exact ⟨o', cl, by simpa using e1, e2⟩
    · cases h
theorem pairW_spec {l : List AOper} {i j : Nat} {a b : AOper} {c : Nat × Nat} (h : pairW l i j a b = some c) : noDst a.dst (b.dst.toList ++ b.looks) = true ∧ noDst b.dst (a.dst.toList ++ a.looks) = true ∧ a.op.kind = .write ∧ b.fresh = false ∧
    (∀ (q : Nat) (o : AOper), q < j → q ≠ i → l[q]? = some o → o.op.kind ≠ .write) ∧ b.dst = some c.1 ∧ b.op = .load1 (.t c.2) ∧ b.guard = none ∧ c.1 ≠ c.2 ∧ ∀ (q : Nat) (o : AOper), j < q → l[q]? = some o → o.dst ≠ some c.1 ∧ o.dst ≠ some c.2 := by
  unfold pairW at h
  split at h
  rotate_left
  · cases h
  rename_i hc
  simp only [Bool.and_eq_true, Bool.not_eq_true', beq_iff_eq, List.all_eq_true, List.mem_range, Bool.or_eq_true] at hc
  obtain ⟨⟨⟨⟨h1, h2⟩, h3⟩, h4⟩, h5⟩ := hc
  split at h
  rotate_left
  · cases h
  rename_i t x e1 e2 e3
  split at h
  rotate_left
  · cases h
  rename_i hc2
  injection h with h; subst h
  simp only [Bool.and_eq_true, List.all_eq_true, List.mem_range, Bool.or_eq_true, decide_eq_true_eq, bne_iff_ne] at hc2
  refine ⟨h1, h2, h3, h4, fun q o hq hqi ho hk => ?_, e1, e2, e3, hc2.1, fun q o hq ho => ?_⟩
  · rcases h5 q hq with h | h
    · exact hqi h
    · rw [ho] at h
      simp [hk] at h
  · have hlt := (List.getElem?_eq_some_iff.1 ho).1
    rcases hc2.2 q hlt with h | h
    · omega
    · rw [ho] at h
      simpa using h
theorem drawW_spec {A : List Nat} {ops : Array Oper} {l : List AOper} {chk : List (Nat × Nat)} (h : drawW A ops l = some chk) : l.length = ops.size ∧ ((List.range ops.size).all fun j => match ops[j]? with | some o => o.after.toList.all fun e => !Region.binds .any e || decide (e.on < j) | none => false) = true ∧
    (∀ o ∈ l, o.op.kind ≠ .alloc) ∧ ∀ (i j : Nat) (a b : AOper), i < j → l[i]? = some a → l[j]? = some b → precedes A i j = true ∨ pairOk a b = true ∨ ∃ c ∈ chk, pairW l i j a b = some c := by
  unfold drawW at h
  split at h
  rotate_left
  · cases h
  rename_i hc
  injection h with h; subst h
  rw [Bool.and_eq_true, Bool.and_eq_true, Bool.and_eq_true] at hc
  obtain ⟨⟨⟨h1, h2⟩, h3⟩, h4⟩ := hc
  refine ⟨by simpa using h1, h2, fun o ho => by have := List.all_eq_true.1 h3 o ho; simpa using this, fun i j a b hij ha hb => ?_⟩
  have h1 : l.length = ops.size := by simpa using h1
  have hj : j < ops.size := by have := (List.getElem?_eq_some_iff.1 hb).1; omega
  have := List.all_eq_true.1 (List.all_eq_true.1 h4 j (List.mem_range.2 hj)) i (List.mem_range.2 hij)
  rw [ha, hb] at this
  simp only [Bool.or_eq_true] at this
  by_cases hp : precedes A i j = true
  · exact .inl hp
  by_cases hq : pairOk a b = true
  · exact .inr (.inl hq)
  rcases this with h | h | h
  · exact .inl h
  · exact .inr (.inl h)
  obtain ⟨c, hc⟩ := Option.isSome_iff_exists.1 h
  refine .inr (.inr ⟨c, ?_, hc⟩)
  refine List.mem_flatMap.2 ⟨j, List.mem_range.2 hj, List.mem_filterMap.2 ⟨i, List.mem_range.2 hij, ?_⟩⟩
  rw [if_neg hp, ha, hb]
  simp only
  rw [if_neg hq, hc]
theorem E_late {call : Nat → List AV → St → Option (AV × St)} {base : Nat} {l : List AOper} {S : Nat → St} {E : Nat → Env} {V : Nat → AV} (hT : Trace call base l S E V) {m t : Nat} : ∀ n, m ≤ n → n ≤ l.length → (∀ (q : Nat) (o : AOper), m ≤ q → q < n → l[q]? = some o → o.dst ≠ some t) → (E n)[t]? = (E m)[t]? := by
  intro n
  induction n with
  | zero =>
    intro h _ _
    have : m = 0 := by omega
    subst this; rfl
  | succ n ih =>
    intro h1 h2 h3
    by_cases hm : m = n + 1
    · subst hm; rfl
    · obtain ⟨o, ho⟩ : ∃ o, l[n]? = some o := ⟨l[n]'(by omega), by simp⟩
      rw [hT.env n o ho, putE_ne (h3 n o (by omega) (by omega) ho)]
      exact ih (by omega) (by omega) fun q o' q1 q2 => h3 q o' q1 (by omega)
/-- A region that draws its order and has loads between its writers. -/
theorem regw_any {df : List Deferred} {call : Nat → List AV → St → Option (AV × St)} (hS : Sound P call) {ops : Array Oper} {l : List AOper} {chk : List (Nat × Nat)} {env env' : Env} {s s' : St} {a : Act} {w : World} {Q : Exit → Act → World → Prop}
    (hcreg : cregW P ops = some (l, chk)) (h : aops call s.next l env s = some (env', s')) (hc : chkP chk s env') (hE : EnvR ρ env a.tmps) (hR : R s ρ w) (hf : Free s ρ) (hd : a.defers = df)
    (hQ : ∀ ρ' a' w', Step s s' ρ ρ' w w' → R s' ρ' w' → Free s' ρ' → EnvR ρ' env' a'.tmps → a'.defers = df → Q .normal a' w') : wpAny P .any ops Q ops.size (Array.replicate ops.size false) a { w with drawn := w.drawn + 1 } := by
  obtain ⟨S, E, V, hT, h0, hE0, hS', hE'⟩ := trace_of l env env' _ s' h
  unfold cregW at hcreg
  split at hcreg
  rotate_left
  · cases hcreg
  split at hcreg
  rotate_left
  · cases hcreg
  rename_i l1 hl
  split at hcreg
  rotate_left
  · cases hcreg
  rename_i c0 r0 hdw
  injection hcreg with hcreg
  obtain ⟨rfl, rfl⟩ := Prod.mk.inj hcreg
  obtain ⟨hlen, hops⟩ := cregP_spec hl
  obtain ⟨hlen', hafter, hal, hpair⟩ := drawW_spec hdw
  have hnal : ∀ p r, ¬ Al l1 E p r := by
    rintro p r ⟨o, ho, hk, _⟩
    exact hal o (List.mem_of_getElem? ho) hk
  have hres : ∀ (i : Nat) (o : AOper), l1[i]? = some o → o.op.kind = .alloc → ∃ r, o.res = some r := fun i o ho hk => absurd hk (hal o (List.mem_of_getElem? ho))
  have hSi : ∀ n, n ≤ l1.length → (∀ (q : Nat) (o : AOper), q < n → l1[q]? = some o → o.op.kind ≠ .write) → S n = s := by
    intro n
    induction n with
    | zero => exact fun _ _ => h0
    | succ n ih =>
      intro h1 h2
      obtain ⟨o, ho⟩ : ∃ o, l1[n]? = some o := ⟨l1[n]'(by omega), by simp⟩
      rw [tr_same hT hres ho (h2 n o (by omega) ho) (hnal n)]
      exact ih (by omega) fun q o' q1 => h2 q o' (by omega)
  have C : Ctx (ancs ops) call s 0 l1 S E V := by
    refine ⟨hT, h0, fun i o ho hk => absurd hk (hal o (List.mem_of_getElem? ho)), fun p q r hp hq => absurd hp (hnal p r), fun i j a b hij ha hb => ?_, fun i hi => ?_, fun env s s1 op v h => keeps_effc hS h⟩
    · rcases hpair i j a b hij ha hb with h | h | ⟨c, hcm, h⟩
      · exact .inl h
      · exact .inr (.inl h)
      · obtain ⟨g1, g2, g3, g4, g5, g6, g7, g8, g9, g10⟩ := pairW_spec h
        have hj := (List.getElem?_eq_some_iff.1 hb).1
        refine .inr (.inr ⟨g1, g2, g3, by rw [g7]; rfl, by rw [g7]; rfl, g4, fun _ => ?_, g5, hnal⟩)
        obtain ⟨k1, k2⟩ := hc c hcm
        rw [hSi i (by omega) fun q o hq ho => g5 q o (by omega) (by omega) ho, g7]
        show ald s (aev (E j) (.t c.2)) = some (V j)
        have x1 : (E l1.length)[c.2]? = (E j)[c.2]? := by
          refine E_late hT _ (by omega) (Nat.le_refl _) fun q o q1 q2 ho => ?_
          by_cases hq : q = j
          · subst hq
            rw [hb] at ho; injection ho with ho; subst ho
            rw [g6]
            intro e
            injection e with e
            exact g9 e
          · exact (g10 q o (by omega) ho).2
        have x2 : (E l1.length)[c.1]? = some (V j) := by
          rw [E_late hT (m := j + 1) _ (by omega) (Nat.le_refl _) fun q o q1 q2 ho => (g10 q o (by omega) ho).1, hT.env j b hb, g6]
          have hle : c.1 < (E j).length := by
            rw [← hE', E_len hT _ (Nat.le_refl _)] at k1
            rw [E_len hT _ (by omega)]
            exact k1
          simp [putE, hle]
        rw [← hE'] at k2
        simp only [aev, List.getD_eq_getElem?_getD, x1, x2, Option.getD_some] at k2
        simpa only [aev, List.getD_eq_getElem?_getD] using k2
    · obtain ⟨o, ho⟩ : ∃ o, l1[i]? = some o := ⟨l1[i]'hi, by simp⟩
      rcases hT.step i o ho with ⟨_, q⟩ | ⟨_, _, q⟩
      · exact grow_aop hS q
      · rw [q]; exact .refl _
  exact ctx_any hS C hE0 hS' hE' hlen' hops hafter hE hR hf hd hQ
theorem regw_wp {call : Nat → List AV → St → Option (AV × St)} (hS : Sound P call) (hm : P.follows .mixedOrders = true) {id : Nat} {ops : Array Oper} {l : List AOper} {chk : List (Nat × Nat)} {env env' : Env} {s s' : St} {a : Act} {w : World} {Q : Exit → Act → World → Prop}
    (hcreg : cregW P ops = some (l, chk)) (h : aops call s.next l env s = some (env', s')) (hc : chkP chk s env') (hE : EnvR ρ env a.tmps) (hR : R s ρ w) (hf : Free s ρ) (hd : a.defers = [])
    (hQ : ∀ ρ' a' w', Step s s' ρ ρ' w w' → R s' ρ' w' → Free s' ρ' → EnvR ρ' env' a'.tmps → a'.defers = [] → Q .normal a' w') : (Code.region id ops true).wp P Q a w :=
  wp_region_any hm (regw_any hS hcreg h hc hE hR hf hd hQ)
theorem regd_wp {call : Nat → List AV → St → Option (AV × St)} (hS : Sound P call) (hm : P.follows .mixedOrders = true) {id : Nat} {ops : Array Oper} {l : List AOper} {k n : Nat} {env env' : Env} {s s' : St} {a : Act} {w : World} {Q : Exit → Act → World → Prop}
    (hcreg : cregD P (ancs ops) ops ops.toList 0 0 = some (l, n)) (hdraw : drawOk (ancs ops) ops l k = true) (h : aops call s.next l env (s.reserve k) = some (env', s')) (hE : EnvR ρ env a.tmps) (hR : R s ρ w) (hf : Free s ρ) (hd : a.defers = [])
    (hQ : ∀ ρ' a' w', Step s s' ρ ρ' w w' → R s' ρ' w' → Free s' ρ' → EnvR ρ' env' a'.tmps → a'.defers = [] → Q .normal a' w') : (Code.region id ops true).wp P Q a w :=
  wp_region_any hm (regd_any hS hcreg hdraw h hE hR hf hd hQ)

/-! ### Code -/
def AEx.out : AEx → Exit
  | .nor => .normal
  | .exit id => .exit id
  | .ret => .ret

def ExecOk (P : Program) (call : Nat → List AV → St → Option (AV × St)) (n : Nat) : Prop :=
  ∀ (c : Code) (x : AEx) (env env' : Env) (s s' : St) (ρ : Ren) (a : Act) (w : World) (Q : Exit → Act → World → Prop), aexec call n (ccode P c) env s = some (x, env', s') → EnvR ρ env a.tmps → R s ρ w → Free s ρ → a.defers = [] →
    (∀ ρ' a' w', Step s s' ρ ρ' w w' → R s' ρ' w' → Free s' ρ' → EnvR ρ' env' a'.tmps → a'.defers = [] → Q x.out a' w') → c.wp P Q a w
def LoopOk (P : Program) (call : Nat → List AV → St → Option (AV × St)) (n : Nat) : Prop :=
  ∀ (c : Code) (x : AEx) (env env' : Env) (s s' : St) (ρ : Ren) (a : Act) (w : World) (Q : Exit → Act → World → Prop), aexec call n (.loop (ccode P c)) env s = some (x, env', s') → EnvR ρ env a.tmps → R s ρ w → Free s ρ → a.defers = [] →
    (∀ ρ' a' w', Step s s' ρ ρ' w w' → R s' ρ' w' → Free s' ρ' → EnvR ρ' env' a'.tmps → a'.defers = [] → Q x.out a' w') → Code.rounds P c Q n a w

theorem loop_ok {call : Nat → List AV → St → Option (AV × St)} {n : Nat} (h1 : ExecOk P call n) (h2 : LoopOk P call n) : LoopOk P call (n + 1) := by
  intro c x env env' s s' ρ a w Q h hE hR hf hd hQ
  simp only [aexec] at h
  rw [rounds_succ]
  cases hb : aexec call n (ccode P c) env s with
  | none => rw [hb] at h; cases h
  | some r =>
    obtain ⟨y, env1, s1⟩ := r
    rw [hb] at h
    refine h1 c y env env1 s s1 ρ a w _ hb hE hR hf hd fun ρ1 a1 w1 g1 g2 g3 g4 g5 => ?_
    cases y with
    | nor =>
      simp only at h
      exact h2 c x env1 env' s1 s' ρ1 a1 w1 Q h g4 g2 g3 g5 fun ρ2 a2 w2 k1 k2 k3 k4 k5 => hQ ρ2 a2 w2 (g1.trans k1) k2 k3 k4 k5
    | exit id =>
      simp only at h
      injection h with h; injection h with h h'; injection h' with h' h''
      subst h; subst h'; subst h''
      exact hQ ρ1 a1 w1 g1 g2 g3 g4 g5
    | ret =>
      simp only at h
      injection h with h; injection h with h h'; injection h' with h' h''
      subst h; subst h'; subst h''
      exact hQ ρ1 a1 w1 g1 g2 g3 g4 g5

theorem exec_ok {call : Nat → List AV → St → Option (AV × St)} (hS : Sound P call) (hm : P.follows .mixedOrders = true) {n : Nat} (h1 : ExecOk P call n) (h2 : LoopOk P call (n + 1)) : ExecOk P call (n + 1) := by
  intro c x env env' s s' ρ a w Q h hE hR hf hd hQ
  cases c with
  | skip =>
    simp only [ccode, aexec] at h
    injection h with h; injection h with h h'; injection h' with h' h''
    subst h; subst h'; subst h''
    exact wp_skip (hQ ρ a w (.refl _ _ _) hR hf hE hd)
  | exit id =>
    simp only [ccode, aexec] at h
    injection h with h; injection h with h h'; injection h' with h' h''
    subst h; subst h'; subst h''
    exact wp_exit (hQ ρ a w (.refl _ _ _) hR hf hE hd)
  | ret =>
    simp only [ccode, aexec] at h
    injection h with h; injection h with h h'; injection h' with h' h''
    subst h; subst h'; subst h''
    exact wp_ret (hQ ρ a w (.refl _ _ _) hR hf hE hd)
  | seq c d =>
    simp only [ccode, aexec] at h
    cases hb : aexec call n (ccode P c) env s with
    | none => rw [hb] at h; cases h
    | some r =>
      obtain ⟨y, env1, s1⟩ := r
      rw [hb] at h
      refine wp_seq (h1 c y env env1 s s1 ρ a w _ hb hE hR hf hd fun ρ1 a1 w1 g1 g2 g3 g4 g5 => ?_)
      cases y with
      | nor =>
        simp only at h
        exact h1 d x env1 env' s1 s' ρ1 a1 w1 Q h g4 g2 g3 g5 fun ρ2 a2 w2 k1 k2 k3 k4 k5 => hQ ρ2 a2 w2 (g1.trans k1) k2 k3 k4 k5
      | exit id =>
        simp only at h
        injection h with h; injection h with h h'; injection h' with h' h''
        subst h; subst h'; subst h''
        exact hQ ρ1 a1 w1 g1 g2 g3 g4 g5
      | ret =>
        simp only at h
        injection h with h; injection h with h h'; injection h' with h' h''
        subst h; subst h'; subst h''
        exact hQ ρ1 a1 w1 g1 g2 g3 g4 g5
  | cond q c d =>
    simp only [ccode] at h
    split at h
    · rename_i hok
      simp only [aexec] at h
      have hv := aev_rel hE hok
      split at h
      · rename_i hb
        rw [hb] at hv
        simp only [VR] at hv
        exact wp_cond_true hv (h1 c x env env' s s' ρ a w Q h hE hR hf hd hQ)
      · rename_i hb
        rw [hb] at hv
        simp only [VR] at hv
        exact wp_cond_false hv (h1 d x env env' s s' ρ a w Q h hE hR hf hd hQ)
      · cases h
    · simp [aexec] at h
  | block id c =>
    simp only [ccode, aexec] at h
    cases hb : aexec call n (ccode P c) env s with
    | none => rw [hb] at h; cases h
    | some r =>
      obtain ⟨y, env1, s1⟩ := r
      rw [hb] at h
      refine wp_block (h1 c y env env1 s s1 ρ a w _ hb hE hR hf hd fun ρ1 a1 w1 g1 g2 g3 g4 g5 => ?_)
      cases y with
      | nor =>
        simp only at h
        injection h with h; injection h with h h'; injection h' with h' h''
        subst h; subst h'; subst h''
        exact hQ ρ1 a1 w1 g1 g2 g3 g4 g5
      | exit i =>
        simp only at h
        by_cases hi : i = id
        · rw [if_pos hi] at h
          injection h with h; injection h with h h'; injection h' with h' h''
          subst h; subst h'; subst h''
          simp only [AEx.out, Exit.inBlock, if_pos hi]
          exact hQ ρ1 a1 w1 g1 g2 g3 g4 g5
        · rw [if_neg hi] at h
          injection h with h; injection h with h h'; injection h' with h' h''
          subst h; subst h'; subst h''
          simp only [AEx.out, Exit.inBlock, if_neg hi]
          exact hQ ρ1 a1 w1 g1 g2 g3 g4 g5
      | ret =>
        simp only at h
        injection h with h; injection h with h h'; injection h' with h' h''
        subst h; subst h'; subst h''
        exact hQ ρ1 a1 w1 g1 g2 g3 g4 g5
  | loop c =>
    simp only [ccode] at h
    exact wp_loop_rounds (n + 1) (h2 c x env env' s s' ρ a w Q h hE hR hf hd hQ)
  | region id ops draw =>
    cases draw
    · simp only [ccode] at h
      split at h
      · rename_i l hl
        simp only [aexec] at h
        split at h
        · rename_i env1 s1 ho
          injection h with h; injection h with h h'; injection h' with h' h''
          subst h; subst h'; subst h''
          refine wp_region ?_
          rw [List.range_eq_range']
          have := aops_wp (Q := Q) hS ops.toList 0 l env env1 s s1 ρ a w (fun j => by simp) hl ho hE hR hf hd hQ
          simpa using this
        · cases h
      · simp [aexec] at h
    · simp only [ccode, cdraw] at h
      split at h
      · rename_i l chk hl
        simp only [aexec] at h
        split at h
        · rename_i env1 s1 ho
          split at h
          · rename_i hck
            injection h with h; injection h with h h'; injection h' with h' h''
            subst h; subst h'; subst h''
            exact regw_wp hS hm hl ho hck hE hR hf hd hQ
          · cases h
        · cases h
      split at h
      · rename_i l k hl
        split at h
        · rename_i hdr
          simp only [aexec] at h
          split at h
          · rename_i env1 s1 ho
            injection h with h; injection h with h h'; injection h' with h' h''
            subst h; subst h'; subst h''
            exact regd_wp hS hm hl hdr ho hE hR hf hd hQ
          · cases h
        · simp [aexec] at h
      · simp [aexec] at h
  | _ => simp [ccode, aexec] at h

theorem exec_all {call : Nat → List AV → St → Option (AV × St)} (hS : Sound P call) (hm : P.follows .mixedOrders = true) : ∀ n, ExecOk P call n ∧ LoopOk P call n
  | 0 => ⟨fun c x env env' s s' ρ a w Q h => by simp [aexec] at h, fun c x env env' s s' ρ a w Q h => by simp [aexec] at h⟩
  | n + 1 => by
    obtain ⟨h1, h2⟩ := exec_all hS hm n
    have h3 := loop_ok h1 h2
    exact ⟨exec_ok hS hm h1 h3, h3⟩

theorem grow_exec {call : Nat → List AV → St → Option (AV × St)} (hS : Sound P call) : ∀ {n : Nat} {c : AC} {x : AEx} {env env' : Env} {s s' : St}, aexec call n c env s = some (x, env', s') → Grow s s'
  | 0, c, x, env, env', s, s', h => by simp [aexec] at h
  | n + 1, c, x, env, env', s, s', h => by
    have hres : ∀ k (s : St), Grow s (s.reserve k) := by
      intro k
      induction k with
      | zero => exact fun s => .refl s
      | succ k ih => exact fun s => (grow_push s .unborn).trans (ih _)
    cases c <;> simp only [aexec] at h
    case skip => injection h with h; injection h with h h'; injection h' with h' h''; subst h''; exact .refl _
    case exit => injection h with h; injection h with h h'; injection h' with h' h''; subst h''; exact .refl _
    case ret => injection h with h; injection h with h h'; injection h' with h' h''; subst h''; exact .refl _
    case bad => cases h
    case reg ops =>
      split at h
      · rename_i ho
        injection h with h; injection h with h h'; injection h' with h' h''; subst h''
        exact grow_aops hS ho
      · cases h
    case regw ops chk =>
      split at h
      · rename_i ho
        split at h
        · injection h with h; injection h with h h'; injection h' with h' h''; subst h''
          exact grow_aops hS ho
        · cases h
      · cases h
    case regd k ops =>
      split at h
      · rename_i ho
        injection h with h; injection h with h h'; injection h' with h' h''; subst h''
        exact (hres k s).trans (grow_aops hS ho)
      · cases h
    case seq c d =>
      cases hb : aexec call n c env s with
      | none => rw [hb] at h; cases h
      | some r =>
        obtain ⟨y, env1, s1⟩ := r
        rw [hb] at h
        have := grow_exec hS hb
        cases y with
        | nor => exact this.trans (grow_exec hS h)
        | exit i => injection h with h; injection h with h h'; injection h' with h' h''; subst h''; exact this
        | ret => injection h with h; injection h with h h'; injection h' with h' h''; subst h''; exact this
    case cond q c d =>
      split at h
      · exact grow_exec hS h
      · exact grow_exec hS h
      · cases h
    case block i c =>
      cases hb : aexec call n c env s with
      | none => rw [hb] at h; cases h
      | some r =>
        obtain ⟨y, env1, s1⟩ := r
        rw [hb] at h
        have := grow_exec hS hb
        cases y with
        | nor => injection h with h; injection h with h h'; injection h' with h' h''; subst h''; exact this
        | exit j =>
          simp only at h
          split at h <;> (injection h with h; injection h with h h'; injection h' with h' h''; subst h''; exact this)
        | ret => injection h with h; injection h with h h'; injection h' with h' h''; subst h''; exact this
    case loop c =>
      cases hb : aexec call n c env s with
      | none => rw [hb] at h; cases h
      | some r =>
        obtain ⟨y, env1, s1⟩ := r
        rw [hb] at h
        have := grow_exec hS hb
        cases y with
        | nor => exact this.trans (grow_exec hS h)
        | exit i => injection h with h; injection h with h h'; injection h' with h' h''; subst h''; exact this
        | ret => injection h with h; injection h with h h'; injection h' with h' h''; subst h''; exact this

theorem keeps_exec {call : Nat → List AV → St → Option (AV × St)} (hS : Sound P call) : ∀ {n : Nat} {c : AC} {x : AEx} {env env' : Env} {s s' : St}, aexec call n c env s = some (x, env', s') → Keeps s s'
  | 0, c, x, env, env', s, s', h => by simp [aexec] at h
  | n + 1, c, x, env, env', s, s', h => by
    have hres : ∀ k (s : St), Keeps s (s.reserve k) := by
      intro k
      induction k with
      | zero => exact fun s => .refl s
      | succ k ih => exact fun s => (keeps_push s .unborn).trans (ih _)
    cases c with
    | skip => simp only [aexec] at h; injection h with h; obtain ⟨_, h⟩ := Prod.mk.inj h; obtain ⟨_, rfl⟩ := Prod.mk.inj h; exact .refl _
    | exit i => simp only [aexec] at h; injection h with h; obtain ⟨_, h⟩ := Prod.mk.inj h; obtain ⟨_, rfl⟩ := Prod.mk.inj h; exact .refl _
    | ret => simp only [aexec] at h; injection h with h; obtain ⟨_, h⟩ := Prod.mk.inj h; obtain ⟨_, rfl⟩ := Prod.mk.inj h; exact .refl _
    | bad => simp only [aexec] at h; cases h
    | reg os =>
      simp only [aexec] at h
      split at h
      · rename_i ho
        injection h with h; obtain ⟨_, h⟩ := Prod.mk.inj h; obtain ⟨_, rfl⟩ := Prod.mk.inj h
        exact keeps_aops hS (Nat.le_refl _) ho (.refl _)
      · cases h
    | regw os chk =>
      simp only [aexec] at h
      split at h
      · rename_i ho
        split at h
        · injection h with h; obtain ⟨_, h⟩ := Prod.mk.inj h; obtain ⟨_, rfl⟩ := Prod.mk.inj h
          exact keeps_aops hS (Nat.le_refl _) ho (.refl _)
        · cases h
      · cases h
    | regd k os =>
      simp only [aexec] at h
      split at h
      · rename_i ho
        injection h with h; obtain ⟨_, h⟩ := Prod.mk.inj h; obtain ⟨_, rfl⟩ := Prod.mk.inj h
        exact keeps_aops hS (Nat.le_refl _) ho (hres k s)
      · cases h
    | seq a b =>
      simp only [aexec] at h
      cases hb : aexec call n a env s with
      | none => rw [hb] at h; cases h
      | some r =>
        obtain ⟨y, e1, s1⟩ := r
        rw [hb] at h
        have := keeps_exec hS hb
        cases y with
        | nor => exact this.trans (keeps_exec hS h)
        | exit i => simp only at h; injection h with h; obtain ⟨_, h⟩ := Prod.mk.inj h; obtain ⟨_, rfl⟩ := Prod.mk.inj h; exact this
        | ret => simp only at h; injection h with h; obtain ⟨_, h⟩ := Prod.mk.inj h; obtain ⟨_, rfl⟩ := Prod.mk.inj h; exact this
    | cond c a b =>
      simp only [aexec] at h
      split at h
      · exact keeps_exec hS h
      · exact keeps_exec hS h
      · cases h
    | block id c =>
      simp only [aexec] at h
      cases hb : aexec call n c env s with
      | none => rw [hb] at h; cases h
      | some r =>
        obtain ⟨y, e1, s1⟩ := r
        rw [hb] at h
        have := keeps_exec hS hb
        cases y with
        | nor => simp only at h; injection h with h; obtain ⟨_, h⟩ := Prod.mk.inj h; obtain ⟨_, rfl⟩ := Prod.mk.inj h; exact this
        | exit i =>
          simp only at h
          split at h <;> (injection h with h; obtain ⟨_, h⟩ := Prod.mk.inj h; obtain ⟨_, rfl⟩ := Prod.mk.inj h; exact this)
        | ret => simp only at h; injection h with h; obtain ⟨_, h⟩ := Prod.mk.inj h; obtain ⟨_, rfl⟩ := Prod.mk.inj h; exact this
    | loop c =>
      simp only [aexec] at h
      cases hb : aexec call n c env s with
      | none => rw [hb] at h; cases h
      | some r =>
        obtain ⟨y, e1, s1⟩ := r
        rw [hb] at h
        have := keeps_exec hS hb
        cases y with
        | nor => exact this.trans (keeps_exec hS h)
        | exit i => simp only at h; injection h with h; obtain ⟨_, h⟩ := Prod.mk.inj h; obtain ⟨_, rfl⟩ := Prod.mk.inj h; exact this
        | ret => simp only at h; injection h with h; obtain ⟨_, h⟩ := Prod.mk.inj h; obtain ⟨_, rfl⟩ := Prod.mk.inj h; exact this

end Go.AM
end
/-
  Functions, and tables of functions. Own work of this project.
-/
section
namespace Go.AM
open Go

variable {P : Program} {ρ : Ren}

def resRead (tmps : Array Value) : ResultVar → Sem Value
  | .tmp t => pure (tmps.getD t undef)
  | .cell a t => do loadVar t (← asAddr (tmps.getD a undef))
theorem results_list {env : Env} {s : St} {w : World} {tmps : Array Value} (hE : EnvR ρ env tmps) (hR : R s ρ w) : ∀ (rvs : List ResultVar) (rs : List AR) (vs : List AV), cres P rvs = some rs → rs.mapM (aresult env s) = some vs →
    ∃ cs, VRs ρ vs cs ∧ (rvs.mapM (resRead tmps)).run P w = .ok cs w
  | [], rs, vs, h, h' => by
    simp only [cres] at h
    injection h with h; subst h
    simp at h'
    subst h'
    exact ⟨[], VRs_nil, by simp⟩
  | .tmp t :: r, rs, vs, h, h' => by
    simp only [cres] at h
    obtain ⟨rs', hr, rfl⟩ := Option.map_eq_some_iff.1 h
    simp only [List.mapM_cons, aresult] at h'
    cases hq : r with
    | _ =>
      rw [← hq]
      cases hm : rs'.mapM (aresult env s) with
      | none => rw [hm] at h'; cases h'
      | some vs' =>
        rw [hm] at h'
        injection h' with h'; subst h'
        obtain ⟨cs, h1, h2⟩ := results_list hE hR r rs' vs' hr hm
        refine ⟨tmps.getD t undef :: cs, VRs_cons.2 ⟨hE.at_ t, h1⟩, ?_⟩
        simp [List.mapM_cons, resRead, h2]
  | .cell a t :: r, rs, vs, h, h' => by
    simp only [cres] at h
    split at h
    · rename_i n rs' hn hr
      have hva := hE.at_ a
      split at h
      · rename_i h1
        split at h
        · rename_i hn1
          injection h with h; subst h
          simp only [List.mapM_cons, aresult] at h'
          cases hev : env.getD a .und <;> rw [hev] at h' hva <;> try (cases h'; done)
          rename_i id o
          simp only [VR] at hva
          obtain ⟨L, hL, hval⟩ := hva
          simp only at h'
          cases hg : s.get id with
          | none => rw [hg] at h'; cases h'
          | some b =>
            rw [hg] at h'
            cases b <;> try (cases h'; done)
            rename_i cells own
            simp only at h'
            cases hco : cells[o]? with
            | none => rw [hco] at h'; cases h'
            | some v =>
              rw [hco] at h'
              cases hm : rs'.mapM (aresult env s) with
              | none => rw [hm] at h'; cases h'
              | some vs' =>
                rw [hm] at h'
                injection h' with h'; subst h'
                obtain ⟨cs, e1, e2⟩ := results_list hE hR r rs' vs' hr hm
                obtain ⟨cc, e, fr, g1, g2, g3, g4, _⟩ := row_cells hR hg hL
                obtain ⟨c, hc, hvc⟩ := g4.at_ _ hco
                have hlt := (List.getElem?_eq_some_iff.1 hco).1
                rw [List.getElem?_take_of_lt hlt, List.getElem?_drop] at hc
                have hcell := cell_at g1 (L.o + o)
                simp at hc
                refine ⟨c :: cs, VRs_cons.2 ⟨hvc, e1⟩, ?_⟩
                simp [List.mapM_cons, resRead, hval, asAddr, loadVar, run_isAgg_one h1, run_load, hcell, hc, e2]
        · cases h
      · split at h
        · rename_i fs hu
          injection h with h; subst h
          simp only [List.mapM_cons, aresult] at h'
          cases hev : env.getD a .und <;> rw [hev] at h' hva <;> try (cases h'; done)
          rename_i id o
          simp only [VR] at hva
          obtain ⟨L, hL, hval⟩ := hva
          simp only at h'
          cases hg : s.get id with
          | none => rw [hg] at h'; cases h'
          | some b =>
            rw [hg] at h'
            cases b <;> try (cases h'; done)
            rename_i cells own
            simp only at h'
            by_cases hlen : o + n ≤ cells.length
            · rw [if_pos hlen] at h'
              cases hm : rs'.mapM (aresult env s) with
              | none => rw [hm] at h'; cases h'
              | some vs' =>
                rw [hm] at h'
                injection h' with h'; subst h'
                obtain ⟨cs, e1, e2⟩ := results_list hE hR r rs' vs' hr hm
                obtain ⟨cc, e, fr, g1, g2, g3, g4, _⟩ := row_cells hR hg hL
                have hv := (g4.drop o).take n
                rw [List.drop_take, List.drop_drop, List.take_take] at hv
                rw [show min n (cells.length - o) = n by omega] at hv
                have hld := run_loadCells_at (P := P) g1 (o := L.o + o) n (by omega)
                refine ⟨.agg ((cc.toList.drop (L.o + o)).take n).toArray :: cs, VRs_cons.2 ⟨by simp only [VR]; exact ⟨_, rfl, hv⟩, e1⟩, ?_⟩
                simp [List.mapM_cons, resRead, hval, asAddr, loadVar, run_isAgg_struct hu, run_size hn, hld, e2]
            · rw [if_neg hlen] at h'; cases h'
        · rename_i e m hu
          injection h with h; subst h
          simp only [List.mapM_cons, aresult] at h'
          cases hev : env.getD a .und <;> rw [hev] at h' hva <;> try (cases h'; done)
          rename_i id o
          simp only [VR] at hva
          obtain ⟨L, hL, hval⟩ := hva
          simp only at h'
          cases hg : s.get id with
          | none => rw [hg] at h'; cases h'
          | some b =>
            rw [hg] at h'
            cases b <;> try (cases h'; done)
            rename_i cells own
            simp only at h'
            by_cases hlen : o + n ≤ cells.length
            · rw [if_pos hlen] at h'
              cases hm : rs'.mapM (aresult env s) with
              | none => rw [hm] at h'; cases h'
              | some vs' =>
                rw [hm] at h'
                injection h' with h'; subst h'
                obtain ⟨cs, e1, e2⟩ := results_list hE hR r rs' vs' hr hm
                obtain ⟨cc, e, fr, g1, g2, g3, g4, _⟩ := row_cells hR hg hL
                have hv := (g4.drop o).take n
                rw [List.drop_take, List.drop_drop, List.take_take] at hv
                rw [show min n (cells.length - o) = n by omega] at hv
                have hld := run_loadCells_at (P := P) g1 (o := L.o + o) n (by omega)
                refine ⟨.agg ((cc.toList.drop (L.o + o)).take n).toArray :: cs, VRs_cons.2 ⟨by simp only [VR]; exact ⟨_, rfl, hv⟩, e1⟩, ?_⟩
                simp [List.mapM_cons, resRead, hval, asAddr, loadVar, run_isAgg_array hu, run_size hn, hld, e2]
            · rw [if_neg hlen] at h'; cases h'
        · cases h
    · cases h
theorem results_run {fn : Func} {rs : List AR} {env : Env} {s : St} {w : World} {tmps : Array Value} {v : AV} (hE : EnvR ρ env tmps) (hR : R s ρ w) (hc : cres P fn.results.toList = some rs) (h : aresults env s rs = some v) :
    ∃ c, VR ρ v c ∧ (results fn tmps).run P w = .ok c w := by
  unfold aresults at h
  have key : ∀ vs, rs.mapM (aresult env s) = some vs → ∃ cs, VRs ρ vs cs ∧ (results fn tmps).run P w = .ok (if h : cs.toArray.size = 1 then cs.toArray[0] else .tuple cs.toArray) w := by
    intro vs hvs
    obtain ⟨cs, h1, h2⟩ := results_list hE hR _ _ _ hc hvs
    refine ⟨cs, h1, ?_⟩
    have hres : results fn tmps = (fn.results.mapM (resRead tmps) >>= fun vs => pure (if h : vs.size = 1 then vs[0] else .tuple vs)) := by
      unfold results
      congr 1
    rw [hres, Array.mapM_eq_mapM_toList]
    simp [h2]
  cases hm : rs.mapM (aresult env s) with
  | none => rw [hm] at h; cases h
  | some vs =>
    obtain ⟨cs, h1, h2⟩ := key vs hm
    rw [hm] at h
    rw [h2]
    have hl := h1.len
    match vs, h with
    | [], h =>
      simp only at h
      injection h with h; subst h
      refine ⟨_, ?_, rfl⟩
      rw [dif_neg (by simp [← hl])]
      simp only [VR]
      exact ⟨cs, rfl, h1⟩
    | [x], h =>
      simp only at h
      injection h with h; subst h
      refine ⟨_, ?_, rfl⟩
      match cs, h1, hl with
      | [c], h1, _ =>
        rw [VRs_cons] at h1
        simpa using h1.1
    | x :: y :: r, h =>
      simp only at h
      injection h with h; subst h
      refine ⟨_, ?_, rfl⟩
      rw [dif_neg (by simp [← hl])]
      simp only [VR]
      exact ⟨cs, rfl, h1⟩

theorem env_start {args : List AV} {cargs : List Value} (h : VRs ρ args cargs) (n : Nat) : EnvR ρ (args ++ List.replicate (n - args.length) .und) (cargs.toArray ++ Array.replicate (n - cargs.toArray.size) undef) := by
  have hl := h.len
  refine ⟨by simp [hl], fun t => ?_⟩
  by_cases ht : t < args.length
  · have ht' : t < cargs.length := by omega
    obtain ⟨c, hc, hv⟩ := h.at_ t (v := args[t]) (by simp [ht])
    simp [List.getD_eq_getElem?_getD, List.getElem?_append_left ht, Array.getD_eq_getD_getElem?, Array.getElem?_append, ht', ht] at hc ⊢
    rw [hc]
    exact hv
  · have ht' : ¬ t < cargs.length := by omega
    simp only [List.getD_eq_getElem?_getD, List.getElem?_append_right (show args.length ≤ t by omega), Array.getD_eq_getD_getElem?, Array.getElem?_append, List.size_toArray, ht', if_false, dif_neg, not_false_eq_true, List.getElem?_replicate, Array.getElem?_replicate, hl]
    split <;> simp [VR, undef]

/-- A function's code, run by the abstract machine over sound calls. -/
theorem fn_sound {call : Nat → List AV → St → Option (AV × St)} (hS : Sound P call) (hm : P.follows .mixedOrders = true) {f : Nat} {fn : Func} {afn : AFn} (hf : P.funcs[f]? = some fn) (hcal : callable P f = true) (hc : cfn P fn = some afn) (fuel : Nat) :
    SoundAt P f (acallFn call fuel afn) := by
  intro args s r s' h
  unfold cfn at hc
  split at hc
  · rename_i c rs hb hr
    injection hc with hc; subst hc
    unfold acallFn at h
    simp only at h
    split at h
    · cases h
    · rename_i x env s1 hno he
      obtain ⟨v, hv, hvs⟩ := Option.map_eq_some_iff.1 h
      obtain ⟨rfl, rfl⟩ := Prod.mk.inj hvs
      refine ⟨hcal, ⟨grow_exec hS he, keeps_exec hS he⟩, fun ρ w cargs hfree hR hargs => ?_⟩
      refine calls_of_wp hf hb ?_
      refine (exec_all hS hm fuel).1 c x _ env s s1 ρ _ w _ he (env_start hargs fn.ntmps) hR hfree rfl fun ρ' a' w' g1 g2 g3 g4 g5 => ?_
      obtain ⟨cv, h1, h2⟩ := results_run g4 g2 hr hv
      cases x with
      | nor => exact ⟨g5, cv, h2, ρ', cv, rfl, h1, g1, g2⟩
      | ret => exact ⟨g5, cv, h2, ρ', cv, rfl, h1, g1, g2⟩
      | exit i => exact absurd rfl (hno i)
    · cases h
  · cases hc

/-! ### Tables -/
inductive AFun where
  | code (fn : AFn)
  | con (c : List AV → St → Option (AV × St))
  | no
/-- Calls by a table, 'F': the fuel of each body, the last number: how deep. -/
noncomputable def acalls (tab : Nat → AFun) (F : Nat) : Nat → Nat → List AV → St → Option (AV × St)
  | 0, _, _, _ => none
  | d + 1, f, args, s => match tab f with
    | .code fn => acallFn (acalls tab F d) F fn args s
    | .con c => c args s
    | .no => none
def FunOk (P : Program) (f : Nat) : AFun → Prop
  | .code afn => callable P f = true ∧ ∃ fn, P.funcs[f]? = some fn ∧ cfn P fn = some afn
  | .con c => SoundAt P f c
  | .no => True
theorem acalls_sound {tab : Nat → AFun} {F : Nat} (hm : P.follows .mixedOrders = true) (h : ∀ f, FunOk P f (tab f)) : ∀ d, Sound P (acalls tab F d)
  | 0 => fun f args s r s' h => by simp [acalls] at h
  | d + 1 => fun f args s r s' hh => by
    have := h f
    simp only [acalls] at hh
    cases ht : tab f with
    | code afn =>
      rw [ht] at this hh
      obtain ⟨h1, fn, h2, h3⟩ := this
      exact fn_sound (acalls_sound hm h d) hm h2 h1 h3 F args s r s' hh
    | con c =>
      rw [ht] at this hh
      exact this args s r s' hh
    | no => rw [ht] at hh; cases hh

end Go.AM
end
