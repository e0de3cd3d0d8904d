/-
  Operations that change memory, and calls. Own work of this project.
-/
import Derived.Test.YtihjheckdjocoaaAmOps5
import Derived.Laws.Append
set_option linter.unusedVariables false
set_option linter.unusedSimpArgs false
namespace Go.AM
open Go

variable {P : Program} {ρ : Ren}

/-! ### One block is written -/
theorem R.put {s : St} {w w' : World} {id : Nat} {b0 b : AB} {L : Loc} (h : R s ρ w) (hg : s.get id = some b0) (ho : b0.owned = true) (hL : ρ id = some L) (hb : BlkOk ρ L w' b)
    (hsz : w'.heap.size = w.heap.size) (hos : w'.os = w.os) (htp : w'.tape = w.tape) (hout : w'.output = w.output) (hdr : w.drawn ≤ w'.drawn) (hoth : ∀ k, k ≠ L.b → w'.heap[k]? = w.heap[k]?) :
    R (s.put id b) ρ w' ∧ Step s (s.put id b) ρ ρ w w' := by
  have hlt := St.get_lt hg
  refine ⟨⟨fun j M e => by rw [hsz]; exact h.bound j M e, fun j c M e1 e2 => ?_, fun i j M N bi bj hij e1 e2 e3 e4 e5 e6 => ?_⟩, ⟨by simp, by simp; omega, fun _ _ => rfl, by omega, hos, htp, hout, hdr, ?_, ?_, ?_, ?_⟩⟩
  · by_cases hj : j = id
    · subst hj
      rw [St.get_put_same hg] at e1; injection e1 with e1; subst e1
      rw [hL] at e2; injection e2 with e2; subst e2
      exact hb
    · rw [St.get_put_ne s b hlt hj] at e1
      by_cases hl : c.live = true
      · refine (h.blk j c M e1 e2).same (hoth _ ?_)
        have := h.inj id j L M b0 c (Ne.symm hj) hL e2 hg e1 ho hl
        omega
      · cases c <;> simp [AB.live] at hl <;> trivial
  · have hold : ∀ k bk, (s.put id b).get k = some bk → ∃ bk', s.get k = some bk' ∧ (k = id → bk' = b0) ∧ (k ≠ id → bk' = bk) := by
      intro k bk hk
      by_cases hj : k = id
      · subst hj; exact ⟨b0, hg, fun _ => rfl, fun q => absurd rfl q⟩
      · rw [St.get_put_ne s b hlt hj] at hk; exact ⟨bk, hk, fun q => absurd q hj, fun _ => rfl⟩
    obtain ⟨bi', gi, i1, i2⟩ := hold i bi e3
    obtain ⟨bj', gj, j1, j2⟩ := hold j bj e4
    refine h.inj i j M N bi' bj' hij e1 e2 gi gj ?_ ?_
    · by_cases hi : i = id
      · rw [i1 hi]; exact ho
      · rw [i2 hi]; exact e5
    · by_cases hj : j = id
      · rw [j1 hj]; exact AB.live_of_owned ho
      · rw [j2 hj]; exact e6
  · intro k hk H
    refine hoth k fun e => ?_
    exact H id L b0 (by simp; omega) hL hg ho e.symm
  · intro j blk' hj hgj hl
    by_cases hj' : j = id
    · subst hj'; exact ⟨b0, hg, AB.live_of_owned ho, fun _ => ho⟩
    · rw [St.get_put_ne s b hlt hj'] at hgj; exact ⟨blk', hgj, hl, fun q => q⟩
  · intro j M blk' hj _ hgj _
    have := St.get_lt hgj
    simp at this; omega
  · intro j hj hn
    by_cases hj' : j = id
    · subst hj'; rw [hL] at hn; cases hn
    · exact St.get_put_ne s b hlt hj'
/-- A block is given up. -/
theorem R.kill {s : St} {w : World} {id : Nat} {b0 : AB} {L : Loc} (h : R s ρ w) (hg : s.get id = some b0) (ho : b0.owned = true) (hL : ρ id = some L) :
    R (s.put id .dead) ρ w ∧ Step s (s.put id .dead) ρ ρ w w := R.put h hg ho hL trivial rfl rfl rfl rfl (Nat.le_refl _) fun _ _ => rfl

/-! ### Stores -/
theorem setCells_drawn : ∀ (vs : List Value) (b o : Nat) (w : World), (w.setCells b o vs).drawn = w.drawn
  | [], _, _, _ => rfl
  | v :: vs, b, o, w => by rw [World.setCells, setCells_drawn vs b (o + 1)]; rfl
theorem setCells_heap : ∀ (vs : List Value) (b o : Nat) (cs : Array Value) (e : TypeId) (fr : Nat × Nat) (w : World), w.heap[b]? = some (.cells cs e fr) → o + vs.length ≤ cs.size →
    (w.setCells b o vs).heap[b]? = some (.cells (cs.toList.take o ++ vs ++ cs.toList.drop (o + vs.length)).toArray e fr) ∧ (∀ k, k ≠ b → (w.setCells b o vs).heap[k]? = w.heap[k]?) ∧ (w.setCells b o vs).heap.size = w.heap.size ∧
      (w.setCells b o vs).os = w.os ∧ (w.setCells b o vs).tape = w.tape ∧ (w.setCells b o vs).output = w.output
  | [], b, o, cs, e, fr, w, h, _ => by simp [World.setCells, h]
  | v :: vs, b, o, cs, e, fr, w, h, hl => by
    simp only [List.length_cons] at hl
    have h1 : (w.setCell ⟨b, o, none⟩ v).heap[b]? = some (.cells (cs.setIfInBounds o v) e fr) := by
      simp [World.setCell, Array.getElem?_modify, h]
    obtain ⟨g1, g2, g3, g4, g5, g6⟩ := setCells_heap vs b (o + 1) (cs.setIfInBounds o v) e fr (w.setCell ⟨b, o, none⟩ v) h1 (by simp; omega)
    simp only [World.setCells]
    refine ⟨?_, fun k hk => ?_, ?_, g4, g5, g6⟩
    · rw [g1]
      have ho : o < cs.toList.length := by simp; omega
      congr 2
      apply Array.ext'
      simp only [List.toList_toArray, Array.toList_setIfInBounds, List.length_cons]
      rw [List.take_succ_eq_append_getElem (by simpa using ho), List.drop_set_of_lt (by omega), List.take_set_of_le (by omega)]
      simp [Nat.add_assoc, Nat.add_comm 1]
    · rw [g2 k hk]
      simp only [World.setCell, Array.getElem?_modify]
      rw [if_neg (by omega)]
    · rw [g3]; simp [World.setCell]
theorem run_storeCells {w : World} {b o : Nat} {cs : Array Value} {e : TypeId} {fr : Nat × Nat} (h : w.heap[b]? = some (.cells cs e fr)) (hfr : ∀ i, i < cs.size → (fr.1 ≤ i && i < fr.2) = false) (vs : List Value) (h1 : ∀ v ∈ vs, v.oneCell' = true) (hl : o + vs.length ≤ cs.size) :
    (storeCells ⟨b, o, none⟩ vs).run P w = .ok () (w.setCells b o vs) := by
  have := run_storeCells_cells (P := P) b o vs 0 w (fun j hj => by
      have hlt : o + 0 + j < cs.size := by omega
      simp [World.cell?, h, show o + j < cs.size by omega]) (fun j hj => by
      have := hfr (o + 0 + j) (by omega)
      simpa [World.frozen?, h] using this) h1
  simpa using this

/-- What a store into an own row leaves. -/
theorem R.store {s : St} {w : World} {id : Nat} {cells : List AV} {L : Loc} (h : R s ρ w) (hg : s.get id = some (.row cells true)) (hL : ρ id = some L) {off : Nat} {vs : List AV} {ds : List Value} (hv : VRs ρ vs ds) (h1 : vs.all AV.one = true) (hlen : off + vs.length ≤ cells.length) :
    ∃ w', (storeCells ⟨L.b, L.o + off, none⟩ ds).run P w = .ok () w' ∧ R (s.put id (.row (setAt cells off vs) true)) ρ w' ∧ Step s (s.put id (.row (setAt cells off vs) true)) ρ ρ w w' := by
  obtain ⟨cs, e, fr, g1, g2, g3, g4, g5, g6⟩ := row_cells h hg hL
  have hld := hv.len
  have hin : L.o + off + ds.length ≤ cs.size := by omega
  obtain ⟨k1, k2, k3, k4, k5, k6⟩ := setCells_heap ds L.b (L.o + off) cs e fr w g1 hin
  refine ⟨_, run_storeCells g1 (fun i hi => g5 rfl i (by omega)) ds (VRs.ones h1 hv) hin, ?_⟩
  refine R.put h hg rfl hL ?_ k3 k4 k5 k6 (Nat.le_of_eq (setCells_drawn _ _ _ _).symm) k2
  simp only [BlkOk]
  refine ⟨_, e, fr, k1, by simp; omega, by rw [length_setAt _ _ _ hlen]; exact g3, fun i v hiv => ?_, fun _ => g5 rfl, setAt_one g6 h1 off⟩
  have hi : i < cells.length := by have := (List.getElem?_eq_some_iff.1 hiv).1; rwa [length_setAt _ _ _ hlen] at this
  simp only [List.getElem?_toArray]
  unfold setAt at hiv
  by_cases h2 : i < off
  · rw [List.append_assoc, List.getElem?_append_left (by simp; omega), List.getElem?_take_of_lt h2] at hiv
    obtain ⟨c, hc, hvc⟩ := g4.at_ _ hiv
    rw [List.getElem?_take_of_lt hi, List.getElem?_drop] at hc
    refine ⟨c, ?_, hvc⟩
    rw [List.append_assoc, List.getElem?_append_left (by simp; omega), List.getElem?_take_of_lt (by omega)]
    exact hc
  · by_cases h3 : i < off + vs.length
    · rw [List.append_assoc, List.getElem?_append_right (by simp; omega), List.getElem?_append_left (by simp; omega)] at hiv
      simp only [List.length_take, Nat.min_eq_left (show off ≤ cells.length by omega)] at hiv
      obtain ⟨c, hc, hvc⟩ := hv.at_ _ hiv
      refine ⟨c, ?_, hvc⟩
      rw [List.append_assoc, List.getElem?_append_right (by simp; omega), List.getElem?_append_left (by simp; omega)]
      simp only [List.length_take, Array.length_toList, Nat.min_eq_left (show L.o + off ≤ cs.size by omega)]
      rw [show L.o + i - (L.o + off) = i - off by omega]
      exact hc
    · rw [List.append_assoc, List.getElem?_append_right (by simp; omega), List.getElem?_append_right (by simp; omega), List.getElem?_drop] at hiv
      simp only [List.length_take, Nat.min_eq_left (show off ≤ cells.length by omega)] at hiv
      rw [show off + vs.length + (i - off - vs.length) = i by omega] at hiv
      obtain ⟨c, hc, hvc⟩ := g4.at_ _ hiv
      rw [List.getElem?_take_of_lt hi, List.getElem?_drop] at hc
      refine ⟨c, ?_, hvc⟩
      rw [List.append_assoc, List.getElem?_append_right (by simp; omega), List.getElem?_append_right (by simp; omega), List.getElem?_drop]
      simp only [List.length_take, Array.length_toList, Nat.min_eq_left (show L.o + off ≤ cs.size by omega)]
      rw [show L.o + off + ds.length + (L.o + i - (L.o + off) - ds.length) = L.o + i by omega]
      exact hc

/-! ### append -/
theorem run_append_room {sT xT ty e : TypeId} {sz : Nat} {d : TypeDesc} (hu : P.underlying sT = some (.slice e)) (hsz : csize P e = some sz) (hx : P.underlying xT = some d) (hd : ∀ k, d ≠ .int k) {A : Option Addr} {sLen sCap k : Nat} {x : Value} {news : List Value} {w : World}
    (hlen : (Builtin.lenOf x).run P w = .ok k w) (hnew : (Builtin.firstCells sz k x).run P w = .ok news.toArray w) (hroom : sLen + k ≤ sCap) :
    (Builtin.append_ #[sT, xT] ty #[.slice A sLen sCap, x]).run P w = match A with
      | none => .ok (.slice none (sLen + k) sCap) w
      | some a => ((storeCells (a.add (sLen * sz)) news).run P w).andThen fun _ w' => .ok (.slice (some a) (sLen + k) sCap) w' := by
  have hz : (match (generalizing := false) d with | .int _ => true | _ => false) = false := by cases d <;> first | rfl | exact absurd rfl (hd _)
  cases A <;> simp [Builtin.append_, run_underlying hu, run_size hsz, run_underlying hx, hz, hlen, hroom, hnew]
theorem run_append_grow {sT xT ty e : TypeId} {sz : Nat} {d : TypeDesc} {i : TypeInfo} {zv : Value} (hu : P.underlying sT = some (.slice e)) (hi : P.info? e = some i) (hsz : i.size = sz) (hz : i.zero = some zv) (hb0 : i.bytes ≠ 0) (hx : P.underlying xT = some d) (hd : ∀ k, d ≠ .int k)
    {A : Option Addr} {sLen sCap k : Nat} {x : Value} {olds news : List Value} {w : World}
    (hlen : ∀ w, (Builtin.lenOf x).run P w = .ok k w) (hnew : (Builtin.firstCells sz k x).run P w.drew = .ok news.toArray w.drew) (hold : (Builtin.firstCells sz sLen (.slice A sLen sCap)).run P w.drew = .ok olds.toArray w.drew)
    (hroom : sCap < sLen + k) (hbytes : (sLen + k) * i.bytes ≤ roomBytes) :
    ∃ (c : Nat) (rest : List Value), sLen + k ≤ c ∧ rest.length = (c - (sLen + k)) * zv.cells.size ∧
      (Builtin.append_ #[sT, xT] ty #[.slice A sLen sCap, x]).run P w = .ok (.slice (some ⟨w.heap.size, 0, none⟩) (sLen + k) c) (pushW w.drew (.cells (olds ++ news ++ rest).toArray e)) := by
  have hz' : (match (generalizing := false) d with | .int _ => true | _ => false) = false := by cases d <;> first | rfl | exact absurd rfl (hd _)
  have hsize : csize P e = some sz := by simp [csize, hi, hsz]
  have hle : sLen + k ≤ roomBytes := Nat.le_trans (Nat.le_mul_of_pos_right _ (by omega)) hbytes
  have hbig : ¬ Builtin.nextslicecap (sLen + k) sCap * i.bytes > 2 ^ 48 := by
    have := growslice_fits (bytes := i.bytes) hroom (by simpa [roomBytes] using hbytes)
    omega
  have hq : (Question.appendCap (sLen + k) sCap e).forced = false := rfl
  refine ⟨(Question.appendCap (sLen + k) sCap e).cut (w.tape w.drawn (.appendCap (sLen + k) sCap e)), (Builtin.zeroCells zv.cells ((Question.appendCap (sLen + k) sCap e).cut (w.tape w.drawn (.appendCap (sLen + k) sCap e)) - (sLen + k))).toList, ?_, ?_, ?_⟩
  · simp [Question.cut]
  · simp [Builtin.zeroCells]
  · have h1 := hnew
    have h2 := hold
    have hsm : ¬ 9223372036854775807 < (sLen : Int) + (k : Int) := by
      unfold roomBytes at hle
      omega
    have hn : ¬ sLen + k ≤ sCap := by omega
    have hbig' : ¬ 281474976710656 < Builtin.nextslicecap (sLen + k) sCap * i.bytes := by omega
    simp [Builtin.append_, run_underlying hu, run_size hsize, run_underlying hx, hz', hlen, hn, run_info hi, hsm, hbig', hq, run_zero hi hz, h1, h2, newRow]
    refine congrArg (fun l => w.drew.alloc (Obj.cells l e)) ?_
    apply Array.ext'
    simp

theorem run_appendz_room {sT xT ty e : TypeId} {sz : Nat} {kk k' : IntKind} {i : TypeInfo} {zv : Value} (hu : P.underlying sT = some (.slice e)) (hi : P.info? e = some i) (hsz : i.size = sz) (hz : i.zero = some zv) (hb0 : i.bytes ≠ 0) (hx : P.underlying xT = some (.int kk)) {A : Option Addr} {sLen sCap k : Nat} {w : World}
    (hk : k * i.bytes ≤ roomBytes) (hroom : sLen + k ≤ sCap) :
    (Builtin.append_ #[sT, xT] ty #[.slice A sLen sCap, .int k' (k : Int)]).run P w = match A with
      | none => .ok (.slice none (sLen + k) sCap) w
      | some a => ((storeCells (a.add (sLen * sz)) (if k * sz = 0 then [] else (Builtin.zeroCells zv.cells k).toList)).run P w).andThen fun _ w' => .ok (.slice (some a) (sLen + k) sCap) w' := by
  have hsize : csize P e = some sz := by simp [csize, hi, hsz]
  have hle : k ≤ roomBytes := Nat.le_trans (Nat.le_mul_of_pos_right _ (by omega)) hk
  unfold roomBytes at hle hk
  have hw : IntKind.i64.wrap (k : Int) = (k : Int) := by simp [IntKind.wrap, IntKind.bits, IntKind.signed]; omega
  have hn : ¬ ((k : Int) < 0) := by omega
  have hb : ¬ (281474976710656 : Int) < (k : Int) * (i.bytes : Int) := by
    have : (k : Int) * (i.bytes : Int) = ((k * i.bytes : Nat) : Int) := by simp
    omega
  by_cases h0 : k * sz = 0
  · cases A <;> simp [Builtin.append_, run_underlying hu, run_size hsize, run_underlying hx, hroom, asInt, asIntOf, hw, hn, hb, run_info hi, h0]
  · cases A <;> simp [Builtin.append_, run_underlying hu, run_size hsize, run_underlying hx, hroom, asInt, asIntOf, hw, hn, hb, run_info hi, h0, run_zero hi hz]
theorem run_appendz_grow {sT xT ty e : TypeId} {sz : Nat} {kk k' : IntKind} {i : TypeInfo} {zv : Value} (hu : P.underlying sT = some (.slice e)) (hi : P.info? e = some i) (hsz : i.size = sz) (hz : i.zero = some zv) (hb0 : i.bytes ≠ 0) (hx : P.underlying xT = some (.int kk))
    {A : Option Addr} {sLen sCap k : Nat} {olds : List Value} {w : World}
    (hold : (Builtin.firstCells sz sLen (.slice A sLen sCap)).run P w.drew = .ok olds.toArray w.drew)
    (hroom : sCap < sLen + k) (hbytes : (sLen + k) * i.bytes ≤ roomBytes) :
    ∃ (c : Nat) (rest : List Value), sLen + k ≤ c ∧ rest.length = (c - (sLen + k)) * zv.cells.size ∧
      (Builtin.append_ #[sT, xT] ty #[.slice A sLen sCap, .int k' (k : Int)]).run P w = .ok (.slice (some ⟨w.heap.size, 0, none⟩) (sLen + k) c)
        (pushW w.drew (.cells (olds ++ (if k * sz = 0 then [] else (Builtin.zeroCells zv.cells k).toList) ++ rest).toArray e)) := by
  have hsize : csize P e = some sz := by simp [csize, hi, hsz]
  have hle : sLen + k ≤ roomBytes := Nat.le_trans (Nat.le_mul_of_pos_right _ (by omega)) hbytes
  have hk2 : k * i.bytes ≤ roomBytes := Nat.le_trans (Nat.mul_le_mul_right _ (by omega)) hbytes
  have hbig : ¬ Builtin.nextslicecap (sLen + k) sCap * i.bytes > 2 ^ 48 := by
    have := growslice_fits (bytes := i.bytes) hroom (by simpa [roomBytes] using hbytes)
    omega
  have hq : (Question.appendCap (sLen + k) sCap e).forced = false := rfl
  unfold roomBytes at hle hk2
  have hw : IntKind.i64.wrap (k : Int) = (k : Int) := by simp [IntKind.wrap, IntKind.bits, IntKind.signed]; omega
  have hneg : ¬ ((k : Int) < 0) := by omega
  have hb : ¬ (281474976710656 : Int) < (k : Int) * (i.bytes : Int) := by
    have : (k : Int) * (i.bytes : Int) = ((k * i.bytes : Nat) : Int) := by simp
    omega
  refine ⟨(Question.appendCap (sLen + k) sCap e).cut (w.tape w.drawn (.appendCap (sLen + k) sCap e)), (Builtin.zeroCells zv.cells ((Question.appendCap (sLen + k) sCap e).cut (w.tape w.drawn (.appendCap (sLen + k) sCap e)) - (sLen + k))).toList, ?_, ?_, ?_⟩
  · simp [Question.cut]
  · simp [Builtin.zeroCells]
  · have h2 := hold
    have hsm : ¬ 9223372036854775807 < (sLen : Int) + (k : Int) := by omega
    have hn : ¬ sLen + k ≤ sCap := by omega
    have hbig' : ¬ 281474976710656 < Builtin.nextslicecap (sLen + k) sCap * i.bytes := by omega
    by_cases h0 : k * sz = 0
    · simp [Builtin.append_, run_underlying hu, run_size hsize, run_underlying hx, asInt, asIntOf, hw, hneg, hb, hn, run_info hi, hsm, hbig', hq, run_zero hi hz, h2, newRow, h0]
      refine congrArg (fun l => w.drew.alloc (Obj.cells l e)) ?_
      apply Array.ext'
      simp
    · simp [Builtin.append_, run_underlying hu, run_size hsize, run_underlying hx, asInt, asIntOf, hw, hneg, hb, hn, run_info hi, hsm, hbig', hq, run_zero hi hz, h2, newRow, h0]
      refine congrArg (fun l => w.drew.alloc (Obj.cells l e)) ?_
      apply Array.ext'
      simp

theorem clean_drew' (w : World) : Clean w w.drew := ⟨Nat.le_refl _, rfl, rfl, rfl, Nat.le_succ _, fun _ _ => rfl⟩

/-- append: the two ways of the model, whatever is appended ('m'). -/
theorem append_step {s s' : St} {w : World} {sz : Nat} {i : TypeInfo} {zv : Value} {e : TypeId} {A : AV} {ca : Value} {new : List AV} {news : List Value} {k : Nat} {v : AV} {run : Value → World → Result Value}
    (hR : R s ρ w) (hsz : i.size = sz) (hzs : zv.cells.size = sz) (hsz0 : sz ≠ 0) (ha : VR ρ A ca) (hv : VRs ρ new news) (hn : new.length = k * sz) (h1 : new.all AV.one = true)
    (hroom : ∀ B n c, ca = .slice B n c → n + k ≤ c → run ca w = match B with
      | none => .ok (.slice none (n + k) c) w
      | some a => ((storeCells (a.add (n * sz)) news).run P w).andThen fun _ w' => .ok (.slice (some a) (n + k) c) w')
    (hgrow : ∀ B n c (olds : List Value), ca = .slice B n c → (Builtin.firstCells sz n ca).run P w.drew = .ok olds.toArray w.drew → c < n + k → (n + k) * i.bytes ≤ roomBytes → ∃ (c' : Nat) (rest : List Value), n + k ≤ c' ∧ rest.length = (c' - (n + k)) * zv.cells.size ∧
      run ca w = .ok (.slice (some ⟨w.heap.size, 0, none⟩) (n + k) c') (pushW w.drew (.cells (olds ++ news ++ rest).toArray e)))
    (hf : ∀ id, s.next ≤ id → id < s'.next → ρ id = none) (h : aappend s sz i.bytes A new k = some (v, s')) :
    ∃ ρ' w' c, run ca w = .ok c w' ∧ VR ρ' v c ∧ Step s s' ρ ρ' w w' ∧ R s' ρ' w' := by
  have fresh : ∀ (st : St) (olds : List AV) (oldc : List Value) (n c c' : Nat) (rest : List Value), R st ρ w → ρ st.next = none → VRs ρ olds oldc → olds.all AV.one = true → olds.length = n * sz → n + k ≤ c' → rest.length = (c' - (n + k)) * sz →
      VR (ρ.set st.next ⟨w.heap.size, 0, c' * sz⟩) (.sl st.next 0 (n + k) none sz) (.slice (some ⟨w.heap.size, 0, none⟩) (n + k) c') ∧ R (st.push (.row (olds ++ new) true)) (ρ.set st.next ⟨w.heap.size, 0, c' * sz⟩) (pushW w.drew (.cells (oldc ++ news ++ rest).toArray e)) ∧
        Step st (st.push (.row (olds ++ new) true)) ρ (ρ.set st.next ⟨w.heap.size, 0, c' * sz⟩) w (pushW w.drew (.cells (oldc ++ news ++ rest).toArray e)) := by
    intro st olds oldc n c c' rest hst hfr ho hoo hol hcc hrest
    have hmul : (n + k) * sz + (c' - (n + k)) * sz = c' * sz := by rw [← Nat.add_mul, Nat.add_sub_cancel' hcc]
    have hmul2 : (n + k) * sz = n * sz + k * sz := Nat.add_mul _ _ _
    refine ⟨?_, hst.push ((clean_drew' w).trans (clean_pushW _ _)) hfr (Nat.le_refl _) (by simp) ?_⟩
    · simp only [VR]
      exact ⟨_, _, _, Ren.set_same _ _ _, rfl, hcc, (fun _ q => by cases q), .inr ⟨by simp, by simp⟩⟩
    · have hall := ho.append hv
      have h2 := ho.len
      have h3 := hv.len
      simp only [BlkOk]
      refine ⟨_, e, (0, 0), pushW_new w.drew _, by simp; omega, by simp; omega, fun j u hj => ?_, fun _ j _ => by simp, by rw [List.all_append, hoo, h1]; rfl⟩
      obtain ⟨c, hc, hvc⟩ := hall.at_ j hj
      refine ⟨c, ?_, VR.mono (Ren.le_set _ hfr) _ _ hvc⟩
      have hlt := (List.getElem?_eq_some_iff.1 hc).1
      simp only [Nat.zero_add, List.getElem?_toArray]
      rw [List.getElem?_append_left hlt]
      exact hc
  unfold aappend at h
  cases A <;> simp only at h <;> (try (cases h; done))
  · rename_i id off len cap z
    simp only [VR] at ha
    obtain ⟨L, Ad, c, hL, rfl, hlc, hcap, hc⟩ := ha
    split at h
    · rename_i hz
      subst hz
      split at h
      · rename_i cells own hg
        split at h
        · rename_i hk0
          subst hk0
          injection h with h
          obtain ⟨rfl, rfl⟩ := Prod.mk.inj h
          have hnews : news = [] := by
            have := hv.len
            exact List.eq_nil_of_length_eq_zero (by omega)
          subst hnews
          refine ⟨ρ, w, .slice (some Ad) len c, ?_, ?_, Step.refl _ _ _, hR⟩
          · rw [hroom (some Ad) len c rfl (by omega)]
            simp [storeCells]
          · simp only [VR]; exact ⟨L, Ad, c, hL, rfl, hlc, hcap, hc⟩
        · rename_i hk0
          split at h
          · rename_i hin
            obtain ⟨hin, hroomb⟩ := hin
            have hkpos : 0 < k := Nat.pos_of_ne_zero hk0
            obtain ⟨cs, et, fr, g1, g2, g3, g4, g5, g6⟩ := row_cells hR hg hL
            have holdone : ((cells.drop off).take (len * z)).all AV.one = true := by
              rw [List.all_eq_true] at g6 ⊢
              intro x hx
              exact g6 x (List.mem_of_mem_drop (List.mem_of_mem_take hx))
            -- what the slice shows now
            have hold : (Builtin.firstCells z len (.slice (some Ad) len c)).run P w.drew = .ok (if c = 0 then [] else (cs.toList.drop (L.o + off)).take (len * z)).toArray w.drew ∧ VRs ρ ((cells.drop off).take (len * z)) (if c = 0 then [] else (cs.toList.drop (L.o + off)).take (len * z)) := by
              rcases hc with hc | ⟨rfl, hc⟩
              · have : len = 0 := by omega
                subst this
                rw [if_pos hc]
                exact ⟨by simp [Builtin.firstCells, loadCells, loadCellsFrom], by simpa using VRs_nil⟩
              · by_cases hc0 : c = 0
                · have : len = 0 := by omega
                  subst this
                  rw [if_pos hc0]
                  exact ⟨by simp [Builtin.firstCells, loadCells, loadCellsFrom], by simpa using VRs_nil⟩
                · rw [if_neg hc0]
                  have hlen : len * z ≤ c * z := Nat.mul_le_mul_right z hlc
                  refine ⟨?_, ?_⟩
                  · simp only [Builtin.firstCells]
                    exact run_loadCells_at (w := w.drew) g1 (len * z) (by omega)
                  · have := (g4.drop off).take (len * z)
                    rw [List.drop_take, List.drop_drop, List.take_take] at this
                    rwa [show min (len * z) (cells.length - off) = len * z by omega] at this
            have holdlen : ((cells.drop off).take (len * z)).length = len * z := by simp; omega
            -- in place
            have inplace : len + k ≤ c → own = true → off + (len + k) * z ≤ cells.length → ∃ w', run (.slice (some Ad) len c) w = .ok (.slice (some Ad) (len + k) c) w' ∧ R (s.put id (.row (setAt cells (off + len * z) new) true)) ρ w' ∧ Step s (s.put id (.row (setAt cells (off + len * z) new) true)) ρ ρ w w' := by
              intro hle hown hfit
              subst hown
              rcases hc with hc | ⟨rfl, hc⟩
              · omega
              have hm : (len + k) * z = len * z + k * z := Nat.add_mul _ _ _
              obtain ⟨w', hrun, hr, hs⟩ := R.store (P := P) hR hg hL (off := off + len * z) hv h1 (by omega)
              refine ⟨w', ?_, hr, hs⟩
              rw [hroom _ len c rfl hle]
              simp only [addr_add]
              rw [show L.o + off + len * z = L.o + (off + len * z) by omega, hrun]
              simp
            cases cap with
            | some c0 =>
              obtain rfl := hcap c0 rfl
              simp only at h
              split at h
              · rename_i hle
                split at h
                · rename_i hown
                  simp only [Bool.and_eq_true, decide_eq_true_eq] at hown
                  injection h with h
                  obtain ⟨rfl, rfl⟩ := Prod.mk.inj h
                  obtain ⟨w', hrun, hr, hs⟩ := inplace hle hown.1 hown.2
                  have ho := hown.1
                  subst ho
                  refine ⟨ρ, w', _, hrun, ?_, hs, hr⟩
                  simp only [VR]
                  exact ⟨L, Ad, c, hL, rfl, hle, fun _ q => by injection q, hc⟩
                · cases h
              · rename_i hle
                injection h with h
                obtain ⟨rfl, rfl⟩ := Prod.mk.inj h
                obtain ⟨c', rest, hcc, hrest, hrun⟩ := hgrow _ _ _ _ rfl hold.1 (by omega) hroomb
                obtain ⟨e1, e2, e3⟩ := fresh s _ _ len c c' rest hR (hf _ (Nat.le_refl _) (by simp)) hold.2 holdone holdlen hcc (by rw [hrest, hzs])
                exact ⟨_, _, _, hrun, e1, e3, e2⟩
            | none =>
              simp only at h
              split at h
              · rename_i hown
                subst hown
                injection h with h
                obtain ⟨rfl, rfl⟩ := Prod.mk.inj h
                by_cases hle : len + k ≤ c
                · -- the same block under a new number
                  rcases hc with hc | ⟨rfl, hc⟩
                  · omega
                  have hm : (len + k) * z = len * z + k * z := Nat.add_mul _ _ _
                  have hckz : (len + k) * z ≤ c * z := Nat.mul_le_mul_right z hle
                  have hnl := hv.len
                  have hfr : ρ s.next = none := hf _ (Nat.le_refl _) (by simp)
                  obtain ⟨k1, k2, k3, k4, k5, k6⟩ := setCells_heap news L.b (L.o + off + len * z) cs et fr w g1 (by omega)
                  have hst := run_storeCells (P := P) g1 (fun j hj => g5 rfl j (by omega)) news (VRs.ones h1 hv) (o := L.o + off + len * z) (by omega)
                  have hrun : run (.slice (some ⟨L.b, L.o + off, none⟩) len c) w = .ok (.slice (some ⟨L.b, L.o + off, none⟩) (len + k) c) (w.setCells L.b (L.o + off + len * z) news) := by
                    rw [hroom _ len c rfl hle]
                    simp only [addr_add]
                    rw [hst]
                    simp
                  obtain ⟨r1, s1⟩ := hR.kill hg rfl hL
                  have hlt := St.get_lt hg
                  have hid : id ≠ s.next := by omega
                  have hgd : ∀ j bj, (s.put id .dead).get j = some bj → bj.live = true → j ≠ id ∧ s.get j = some bj := by
                    intro j bj hj hl
                    by_cases hji : j = id
                    · subst hji; rw [St.get_put_same hg] at hj; injection hj with hj; subst hj; cases hl
                    · rw [St.get_put_ne s _ hlt hji] at hj; exact ⟨hji, hj⟩
                  refine ⟨ρ.set s.next ⟨L.b, L.o + off, L.n⟩, _, _, hrun, ?_, ?_, ?_⟩
                  · simp only [VR]
                    exact ⟨_, _, _, Ren.set_same _ _ _, rfl, hle, (fun _ q => by cases q), .inr ⟨by simp, by simp; omega⟩⟩
                  · refine ⟨by simp, by simp; omega, fun j hj => ?_, by omega, k4, k5, k6, Nat.le_of_eq (setCells_drawn _ _ _ _).symm, ?_, ?_, ?_, ?_⟩
                    · simp at hj; exact Ren.set_ne _ _ (by omega)
                    · intro b hb H
                      refine k2 b fun q => ?_
                      exact H id L _ (by simp; omega) hL hg rfl q.symm
                    · intro j bj hj hgj hl
                      have hjn : j ≠ s.next := by omega
                      rw [St.get_push, if_neg (by simpa using hjn)] at hgj
                      obtain ⟨hji, hgj⟩ := hgd j bj hgj hl
                      exact ⟨bj, hgj, hl, fun q => q⟩
                    · intro j M bj hj hM hgj hl
                      have : j = s.next := by have := St.get_lt hgj; simp at this; omega
                      subst this
                      rw [Ren.set_same] at hM; injection hM with hM; subst hM
                      exact .inr ⟨id, L, _, by simp; omega, hL, hg, rfl, rfl⟩
                    · intro j hj hjn
                      rw [St.get_push, if_neg (by simp; omega)]
                      exact St.get_put_ne s _ hlt (by rintro rfl; rw [hL] at hjn; cases hjn)
                  · refine ⟨fun j M hM => ?_, fun j bj M hgj hM => ?_, fun a b M N ba bb hab hM hN hga hgb hoa hlb => ?_⟩
                    · by_cases hjn : j = s.next
                      · subst hjn; rw [Ren.set_same] at hM; injection hM with hM; subst hM; simp only; rw [k3]; exact hR.bound _ _ hL
                      · rw [Ren.set_ne _ _ hjn] at hM; rw [k3]; exact hR.bound _ _ hM
                    · by_cases hjn : j = s.next
                      · subst hjn
                        rw [Ren.set_same] at hM; injection hM with hM; subst hM
                        rw [St.get_push, if_pos (by simp)] at hgj; injection hgj with hgj; subst hgj
                        have hall := hold.2.append hv
                        have hc0 : c ≠ 0 := by omega
                        rw [if_neg hc0] at hall
                        simp only [BlkOk]
                        refine ⟨_, et, fr, k1, by simp; omega, by simp; omega, fun q u hq => ?_, fun _ => g5 rfl, by rw [List.all_append, holdone, h1]; rfl⟩
                        obtain ⟨d, hd, hvd⟩ := hall.at_ q hq
                        refine ⟨d, ?_, VR.mono (Ren.le_set _ hfr) _ _ hvd⟩
                        have hql := (List.getElem?_eq_some_iff.1 hd).1
                        simp at hql
                        simp only [List.getElem?_toArray]
                        by_cases hq1 : q < len * z
                        · rw [List.getElem?_append_left (by simp; omega), List.getElem?_take_of_lt hq1, List.getElem?_drop] at hd
                          rw [List.append_assoc, List.getElem?_append_left (by simp; omega), List.getElem?_take_of_lt (by omega)]
                          exact hd
                        · have hl0 : ((cs.toList.drop (L.o + off)).take (len * z)).length = len * z := by simp; omega
                          rw [List.getElem?_append_right (by rw [hl0]; omega), hl0] at hd
                          rw [List.append_assoc, List.getElem?_append_right (by simp; omega), List.getElem?_append_left (by simp; omega)]
                          simp only [List.length_take, Array.length_toList, Nat.min_eq_left (show L.o + off + len * z ≤ cs.size by omega)]
                          rw [show L.o + off + q - (L.o + off + len * z) = q - len * z by omega]
                          exact hd
                      · rw [Ren.set_ne _ _ hjn] at hM
                        rw [St.get_push, if_neg (by simpa using hjn)] at hgj
                        by_cases hl : bj.live = true
                        · obtain ⟨hji, hgj⟩ := hgd j bj hgj hl
                          refine ((hR.blk j bj M hgj hM).mono (Ren.le_set _ hfr)).same (k2 _ ?_)
                          have := hR.inj id j L M _ bj (Ne.symm hji) hL hM hg hgj rfl hl
                          omega
                        · cases bj <;> simp [AB.live] at hl <;> trivial
                    · by_cases han : a = s.next
                      · subst han
                        rw [Ren.set_same] at hM; injection hM with hM; subst hM
                        rw [Ren.set_ne _ _ (Ne.symm hab)] at hN
                        rw [St.get_push, if_neg (by simpa using Ne.symm hab)] at hgb
                        obtain ⟨hbi, hgb⟩ := hgd b bb hgb hlb
                        exact hR.inj id b L N _ bb (Ne.symm hbi) hL hN hg hgb rfl hlb
                      · rw [Ren.set_ne _ _ han] at hM
                        rw [St.get_push, if_neg (by simpa using han)] at hga
                        obtain ⟨hai, hga⟩ := hgd a ba hga (AB.live_of_owned hoa)
                        by_cases hbn : b = s.next
                        · subst hbn
                          rw [Ren.set_same] at hN; injection hN with hN; subst hN
                          exact hR.inj a id M L ba _ hai hM hL hga hg hoa rfl
                        · rw [Ren.set_ne _ _ hbn] at hN
                          rw [St.get_push, if_neg (by simpa using hbn)] at hgb
                          obtain ⟨hbi, hgb⟩ := hgd b bb hgb hlb
                          exact hR.inj a b M N ba bb hab hM hN hga hgb hoa hlb
                · obtain ⟨c', rest, hcc, hrest, hrun⟩ := hgrow _ _ _ _ rfl hold.1 (by omega) hroomb
                  obtain ⟨r1, s1⟩ := hR.kill hg rfl hL
                  obtain ⟨e1, e2, e3⟩ := fresh (s.put id .dead) _ _ len c c' rest r1 (hf _ (Nat.le_refl _) (by simp)) hold.2 holdone holdlen hcc (by rw [hrest, hzs])
                  exact ⟨_, _, _, hrun, e1, s1.trans e3, e2⟩
              · cases h
          · cases h
      · cases h
    · cases h
  · simp only [VR] at ha
    subst ha
    split at h
    · rename_i hk0
      subst hk0
      injection h with h
      obtain ⟨rfl, rfl⟩ := Prod.mk.inj h
      refine ⟨ρ, w, .slice none 0 0, ?_, by simp [VR], Step.refl _ _ _, hR⟩
      rw [hroom none 0 0 rfl (by omega)]
    · rename_i hk0
      split at h
      · rename_i hb
        injection h with h
        obtain ⟨rfl, rfl⟩ := Prod.mk.inj h
        obtain ⟨c', rest, hcc, hrest, hrun⟩ := hgrow none 0 0 [] rfl (by simp [Builtin.firstCells]) (by omega) (by simpa using hb)
        obtain ⟨e1, e2, e3⟩ := fresh s [] [] 0 0 c' rest hR (hf _ (Nat.le_refl _) (by simp)) VRs_nil rfl (by simp) hcc (by rw [hrest, hzs])
        simp only [Nat.zero_add, List.nil_append] at hrun e1 e2 e3
        exact ⟨_, _, _, hrun, e1, e3, e2⟩
      · cases h

end Go.AM
