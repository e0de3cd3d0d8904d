/-
  Lists in the abstract machine's memory: reading them, new ones, appending, what a caller is told. Own work of this project.
-/
import Derived.Test.YtihjheckdjocoaaAmEv
set_option linter.unusedVariables false
set_option linter.unusedSimpArgs false
namespace Go.AM
open Go

/-! ### How elements lie in cells -/
structure Cod (α : Type) where
  sz : Nat
  enc : α → List AV
  dec : List AV → Option α
  pos : 0 < sz
  len : ∀ x, (enc x).length = sz
  plain : ∀ x, (enc x).all AV.plain = true
  dec_enc : ∀ x, dec (enc x) = some x
  enc_dec : ∀ cs x, dec cs = some x → cs = enc x
variable {α : Type}
def Cod.cells (C : Cod α) (l : List α) : List AV := (l.map C.enc).flatten
def decL (C : Cod α) : Nat → List AV → Option (List α)
  | 0, _ => some []
  | n + 1, cs => match C.dec (cs.take C.sz), decL C n (cs.drop C.sz) with
    | some x, some r => some (x :: r)
    | _, _ => none
def read (C : Cod α) (s : St) : AV → Option (List α)
  | .nils => some []
  | .sl id off n _ z => if z = C.sz then match s.get id with
      | some (.row cs _) => if off + n * C.sz ≤ cs.length then decL C n (cs.drop off) else none
      | _ => none
    else none
  | _ => none
theorem cells_nil (C : Cod α) : C.cells [] = [] := rfl
theorem cells_cons (C : Cod α) (x : α) (l : List α) : C.cells (x :: l) = C.enc x ++ C.cells l := rfl
theorem cells_append (C : Cod α) (l m : List α) : C.cells (l ++ m) = C.cells l ++ C.cells m := by simp [Cod.cells]
theorem cells_one (C : Cod α) (x : α) : C.cells [x] = C.enc x := by simp [Cod.cells]
theorem cells_len (C : Cod α) (l : List α) : (C.cells l).length = l.length * C.sz := by
  induction l with
  | nil => simp [cells_nil]
  | cons x l ih => rw [cells_cons, List.length_append, ih, C.len, List.length_cons, Nat.succ_mul]; omega
theorem cells_plain (C : Cod α) (l : List α) : (C.cells l).all AV.plain = true := by
  induction l with
  | nil => rfl
  | cons x l ih => rw [cells_cons, List.all_append, C.plain, ih]; rfl
theorem plain_one {v : AV} (h : v.plain = true) : v.one = true := by cases v <;> simp_all [AV.plain, AV.one]
theorem plain_ren {v : AV} (f : Nat → Nat) (h : v.plain = true) : v.ren f = v := by cases v <;> simp_all [AV.plain, AV.ren]
theorem plains_rens (f : Nat → Nat) : ∀ {vs : List AV}, vs.all AV.plain = true → AV.rens f vs = vs
  | [], _ => rfl
  | v :: vs, h => by
    simp only [List.all_cons, Bool.and_eq_true] at h
    simp [AV.rens, plain_ren f h.1, plains_rens f h.2]
theorem cells_one' (C : Cod α) (l : List α) : (C.cells l).all AV.one = true := by
  have := cells_plain C l
  rw [List.all_eq_true] at this ⊢
  exact fun v hv => plain_one (this v hv)
theorem decL_some {C : Cod α} : ∀ {n : Nat} {cs : List AV} {l : List α}, decL C n cs = some l → l.length = n ∧ n * C.sz ≤ cs.length ∧ cs.take (n * C.sz) = C.cells l
  | 0, cs, l, h => by
    simp only [decL] at h
    injection h with h
    subst h
    simp [cells_nil]
  | n + 1, cs, l, h => by
    simp only [decL] at h
    split at h
    · rename_i x r hx hr
      injection h with h
      subst h
      obtain ⟨h1, h2, h3⟩ := decL_some hr
      have e := C.enc_dec _ _ hx
      have hl := congrArg List.length e
      rw [C.len, List.length_take] at hl
      rw [List.length_drop] at h2
      have hp := C.pos
      refine ⟨by simp [h1], by rw [Nat.succ_mul]; omega, ?_⟩
      rw [cells_cons, ← e, ← h3, Nat.succ_mul, Nat.add_comm (n * C.sz), List.take_add]
    · cases h
theorem decL_cells (C : Cod α) : ∀ (l : List α) (r : List AV), decL C l.length (C.cells l ++ r) = some l
  | [], r => rfl
  | x :: l, r => by
    have h := C.len x
    have e1 : (C.enc x ++ (C.cells l ++ r)).take C.sz = C.enc x := by rw [← h]; simp
    have e2 : (C.enc x ++ (C.cells l ++ r)).drop C.sz = C.cells l ++ r := by rw [← h]; simp
    simp only [List.length_cons, decL, cells_cons, List.append_assoc, e1, e2, C.dec_enc, decL_cells C l r]
theorem cells_at (C : Cod α) : ∀ (l : List α) (i : Nat) (x : α), l[i]? = some x → ∀ k m, k + m ≤ C.sz → ((C.cells l).drop (i * C.sz + k)).take m = ((C.enc x).drop k).take m
  | [], i, x, h, _, _, _ => by simp at h
  | y :: l, 0, x, h, k, m, hk => by
    simp at h
    subst h
    have hl := C.len y
    rw [cells_cons, Nat.zero_mul, Nat.zero_add, List.drop_append_of_le_length (by omega), List.take_append_of_le_length (by rw [List.length_drop]; omega)]
  | y :: l, i + 1, x, h, k, m, hk => by
    have hl := C.len y
    rw [cells_cons, Nat.succ_mul, show i * C.sz + C.sz + k = (C.enc y).length + (i * C.sz + k) by omega, ← List.drop_drop, List.drop_left]
    exact cells_at C l i x (by simpa using h) k m hk
theorem read_nils (C : Cod α) (s : St) : read C s .nils = some [] := rfl
theorem read_sl {C : Cod α} {s : St} {id off n z : Nat} {cap : Option Nat} {l : List α} (h : read C s (.sl id off n cap z) = some l) :
    z = C.sz ∧ n = l.length ∧ ∃ cs own, s.get id = some (.row cs own) ∧ off + n * C.sz ≤ cs.length ∧ (cs.drop off).take (n * C.sz) = C.cells l ∧
      ∀ i x, l[i]? = some x → ∀ k m, k + m ≤ C.sz → off + i * C.sz + k + m ≤ cs.length ∧ (cs.drop (off + i * C.sz + k)).take m = ((C.enc x).drop k).take m := by
  simp only [read] at h
  split at h
  · rename_i hz
    split at h
    · rename_i cs own hg
      split at h
      · rename_i hle
        obtain ⟨h1, h2, h3⟩ := decL_some h
        refine ⟨hz, h1.symm, cs, own, hg, hle, h3, fun i x hi k m hk => ?_⟩
        have hlt := (List.getElem?_eq_some_iff.1 hi).1
        have hmul : i * C.sz + C.sz ≤ n * C.sz := by
          rw [← Nat.succ_mul]
          exact Nat.mul_le_mul_right _ (by omega)
        refine ⟨by omega, ?_⟩
        rw [← cells_at C l i x hi k m hk, ← h3, List.drop_take, List.take_take, List.drop_drop, Nat.min_eq_left (by omega), ← Nat.add_assoc]
      · cases h
    · cases h
  · cases h
theorem read_of {C : Cod α} {s : St} {id off n : Nat} {cap : Option Nat} {l : List α} {cs : List AV} {own : Bool} (hn : n = l.length) (h1 : s.get id = some (.row cs own)) (h2 : off + n * C.sz ≤ cs.length) (h3 : (cs.drop off).take (n * C.sz) = C.cells l) :
    read C s (.sl id off n cap C.sz) = some l := by
  subst hn
  simp only [read, if_true, h1, h2]
  have := decL_cells C l ((cs.drop off).drop (l.length * C.sz))
  rw [← h3, List.take_append_drop] at this
  exact this
/-- Behind what leaves the block as it was. -/
theorem read_mono {C : Cod α} {s t : St} {v : AV} {l : List α} (h : read C s v = some l) (k : ∀ id b, s.get id = some b → t.get id = some b) : read C t v = some l := by
  cases v with
  | nils => exact h
  | sl id off n cap z =>
    obtain ⟨rfl, hn, cs, own, hg, h1, h2, _⟩ := read_sl h
    exact read_of hn (k _ _ hg) h1 h2
  | _ => simp [read] at h
theorem read_low (C : Cod α) (s : St) (n : Nat) (v : AV) : read C { heap := s.heap, next := s.next, low := n } v = read C s v := by
  cases v <;> rfl
theorem read_len {C : Cod α} {s : St} {v : AV} {l : List α} (h : read C s v = some l) : lenOf v = some l.length := by
  cases v with
  | nils => simp [read] at h; subst h; rfl
  | sl id off n cap z =>
    obtain ⟨rfl, hn, _⟩ := read_sl h
    simp [lenOf, hn]
  | _ => simp [read] at h
theorem read_shown {C : Cod α} {s : St} {v : AV} {l : List α} (h : read C s v = some l) : shown s C.sz v = some (C.cells l) := by
  cases v with
  | nils => simp [read] at h; subst h; rfl
  | sl id off n cap z =>
    obtain ⟨rfl, hn, cs, own, hg, h1, h2, _⟩ := read_sl h
    simp [shown, hg, h1, h2]
  | _ => simp [read] at h
theorem read_drop {C : Cod α} {s : St} {id off n z m : Nat} {cap cap' : Option Nat} {l : List α} (h : read C s (.sl id off n cap z) = some l) (k : Nat) (hm : m = n - k) (hk : k ≤ n) : read C s (.sl id (off + k * z) m cap' z) = some (l.drop k) := by
  obtain ⟨rfl, hn, cs, own, hg, h1, h2, _⟩ := read_sl h
  subst hm
  have e : (n - k) * C.sz + k * C.sz = n * C.sz := by rw [← Nat.add_mul]; congr 1; omega
  refine read_of (by simp [hn]) hg (by omega) ?_
  have hc : (C.cells l).drop (k * C.sz) = C.cells (l.drop k) := by
    conv => lhs; rw [← List.take_append_drop k l, cells_append]
    have : k * C.sz = (C.cells (l.take k)).length := by rw [cells_len, List.length_take, Nat.min_eq_left (by omega)]
    rw [this, List.drop_left]
  rw [← hc, ← h2, List.drop_take, List.drop_drop]
  congr 1
  omega
theorem read_take {C : Cod α} {s : St} {id off n z : Nat} {cap cap' : Option Nat} {l : List α} (h : read C s (.sl id off n cap z) = some l) (k : Nat) (hk : k ≤ n) : read C s (.sl id off k cap' z) = some (l.take k) := by
  obtain ⟨rfl, hn, cs, own, hg, h1, h2, _⟩ := read_sl h
  have hmul : k * C.sz ≤ n * C.sz := Nat.mul_le_mul_right _ hk
  refine read_of (by simp; omega) hg (by omega) ?_
  have hc : (C.cells l).take (k * C.sz) = C.cells (l.take k) := by
    conv => lhs; rw [← List.take_append_drop k l, cells_append]
    have : k * C.sz = (C.cells (l.take k)).length := by rw [cells_len, List.length_take, Nat.min_eq_left (by omega)]
    rw [this, List.take_left]
  rw [← hc, ← h2, List.take_take, Nat.min_eq_left hmul]

/-! ### What was there stays -/
structure Keep (s t : St) : Prop where
  next : s.next ≤ t.next
  get : ∀ id, id < s.next → t.get id = s.get id
  low : min s.low s.next ≤ t.low
theorem Keep.refl (s : St) : Keep s s := ⟨Nat.le_refl _, fun _ _ => rfl, by omega⟩
theorem Keep.push {s t : St} (h : Keep s t) (b : AB) : Keep s (t.push b) :=
  ⟨by have := h.next; simp; omega, fun id hid => by rw [St.get_push_old _ _ (by have := h.next; omega), h.get id hid], by simpa using h.low⟩
theorem Keep.put {s t : St} (h : Keep s t) {id : Nat} (b : AB) (h1 : s.next ≤ id) (h2 : id < t.next) : Keep s (t.put id b) :=
  ⟨by simpa using h.next, fun j hj => by rw [St.get_put_ne _ _ h2 (by omega), h.get j hj], by have := h.low; simp; omega⟩
theorem Keep.trans {a b c : St} (h : Keep a b) (k : Keep b c) : Keep a c :=
  ⟨Nat.le_trans h.next k.next, fun id hid => by rw [k.get id (Nat.lt_of_lt_of_le hid h.next), h.get id hid], by have h1 := h.low; have h2 := k.low; have h3 := h.next; omega⟩
theorem Keep.blk {s t : St} (h : Keep s t) {id : Nat} {b : AB} (hb : s.get id = some b) : t.get id = some b := by rw [h.get id (St.get_lt hb), hb]
theorem Keep.read {s t : St} (h : Keep s t) {C : Cod α} {v : AV} {l : List α} (hr : read C s v = Option.some l) : read C t v = Option.some l := read_mono hr fun _ _ => h.blk
theorem Keep.low' {s t : St} (h : Keep s t) (n : Nat) (hn : min s.low s.next ≤ n) : Keep s { heap := t.heap, next := t.next, low := n } := ⟨h.next, fun id hid => h.get id hid, hn⟩
theorem Keep.grow {s t : St} (h : Keep s t) : Grow s t := by
  refine ⟨h.next, fun id h1 h2 => ?_⟩
  rw [h.get id h1]
  exact h2

/-! ### A new list, whose block nobody else has -/
def Own (C : Cod α) (s t : St) (v : AV) (l : List α) : Prop :=
  (v = .nils ∧ l = []) ∨ ∃ j, v = .sl j 0 l.length none C.sz ∧ l ≠ [] ∧ s.next ≤ j ∧ t.get j = some (.row (C.cells l) true)
theorem Own.nil (C : Cod α) (s t : St) : Own C s t .nils [] := .inl ⟨rfl, rfl⟩
theorem Own.read {C : Cod α} {s t : St} {v : AV} {l : List α} (h : Own C s t v l) : read C t v = some l := by
  rcases h with ⟨rfl, rfl⟩ | ⟨j, rfl, _, _, h⟩
  · rfl
  · refine read_of rfl h (by simp [cells_len]) ?_
    rw [List.drop_zero, ← cells_len]
    simp
theorem Own.mono {C : Cod α} {s t u : St} {v : AV} {l : List α} (h : Own C s t v l) (k : ∀ id b, t.get id = some b → u.get id = some b) : Own C s u v l := by
  rcases h with ⟨rfl, rfl⟩ | ⟨j, rfl, h0, h1, h⟩
  · exact .inl ⟨rfl, rfl⟩
  · exact .inr ⟨j, rfl, h0, h1, k _ _ h⟩
theorem get_push_some {t : St} (b : AB) {id : Nat} {c : AB} (h : t.get id = some c) : (t.push b).get id = some c := by rw [St.get_push_old _ _ (St.get_lt h), h]
theorem Own.push {C : Cod α} {s t : St} {v : AV} {l : List α} (h : Own C s t v l) (b : AB) : Own C s (t.push b) v l := h.mono fun _ _ => get_push_some b
theorem append_own {C : Cod α} {s t : St} {v : AV} {l : List α} (hK : Keep s t) (hO : Own C s t v l) (m : List α) (bytes : Nat) (hb : (l.length + m.length) * bytes ≤ roomBytes) :
    ∃ v' t', aappend t C.sz bytes v (C.cells m) m.length = some (v', t') ∧ Keep s t' ∧ Own C s t' v' (l ++ m) := by
  by_cases hm : m = []
  · subst hm
    rcases hO with ⟨rfl, rfl⟩ | ⟨j, rfl, h0, h1, h⟩
    · exact ⟨.nils, t, by simp [aappend], hK, .nil _ _ _⟩
    · exact ⟨.sl j 0 l.length none C.sz, t, by simp [aappend, h], hK, by rw [List.append_nil]; exact .inr ⟨j, rfl, h0, h1, h⟩⟩
  · have hm0 : m.length ≠ 0 := by simpa using hm
    rcases hO with ⟨rfl, rfl⟩ | ⟨j, rfl, h0, h1, h⟩
    · refine ⟨.sl t.next 0 m.length none C.sz, t.push (.row (C.cells m) true), ?_, hK.push _, .inr ⟨t.next, by simp, by simpa using hm, hK.next, by simpa using St.get_push_new t _⟩⟩
      simp only [aappend, if_neg hm0]
      rw [if_pos (by simpa using hb)]
    · refine ⟨.sl t.next 0 (l.length + m.length) none C.sz, (t.put j .dead).push (.row (C.cells (l ++ m)) true), ?_, (hK.put .dead h1 (St.get_lt h)).push _, .inr ⟨t.next, by simp, by simp [hm], hK.next, by simpa using St.get_push_new (t.put j .dead) _⟩⟩
      simp only [aappend, if_true, h, if_neg hm0]
      rw [if_pos ⟨by simp [cells_len], hb⟩]
      have e : (C.cells l).take (l.length * C.sz) = C.cells l := by rw [← cells_len]; simp
      rw [List.drop_zero, e, cells_append]
/-- One element, laid ready in a row. -/
theorem append_one {C : Cod α} {s t : St} {v : AV} {l : List α} (hK : Keep s t) (hO : Own C s t v l) (x : α) (bytes : Nat) (hb : (l.length + 1) * bytes ≤ roomBytes) :
    ∃ v' t', aappend (t.push (.row (C.enc x) true)) C.sz bytes v (C.enc x) 1 = some (v', t') ∧ Keep s t' ∧ Own C s t' v' (l ++ [x]) := by
  have := append_own (hK.push (.row (C.enc x) true)) (hO.push _) [x] bytes hb
  rwa [cells_one] at this

/-! ### What a caller is told -/
def St.lowed (s : St) : St := { heap := s.heap, next := s.next, low := min s.low s.next }
/-- A new list: nil if it is empty. -/
def freshV (C : Cod α) (s : St) (l : List α) : AV := if l.isEmpty then .nils else .sl s.next 0 l.length none C.sz
def freshS (C : Cod α) (s : St) (l : List α) : St := if l.isEmpty then s.lowed else s.lowed.push (.row (C.cells l) true)
theorem lowed_get (s : St) (id : Nat) : s.lowed.get id = s.get id := rfl
theorem lowed_next (s : St) : s.lowed.next = s.next := rfl
theorem keep_lowed (s : St) : Keep s s.lowed := ⟨Nat.le_refl _, fun _ _ => rfl, Nat.le_refl _⟩
theorem keep_fresh (C : Cod α) (s : St) (l : List α) : Keep s (freshS C s l) := by
  unfold freshS
  split
  · exact keep_lowed s
  · exact (keep_lowed s).push _
theorem emb_keep {s t : St} (h : Keep s t) : ∃ f : Nat → Nat, (∀ id, id < s.next → f id = id) ∧ Emb f s s.lowed t := by
  have hn := h.next
  refine ⟨fun id => if id < s.next then id else t.next + id, fun id hid => by simp [hid], ⟨Nat.le_refl _, h.low, fun id hid => by simp [hid], fun id hid => ?_, fun i j h1 h2 e => ?_, fun id b hb => ?_, fun id h1 h2 => rfl⟩⟩
  · have : ¬ id < s.next := by simp [lowed_next] at hid; omega
    simp [this]
  · rw [lowed_next] at h1 h2
    simpa [h1, h2] using e
  · have hlt : id < s.next := St.get_lt (by rwa [lowed_get] at hb)
    rw [lowed_get] at hb
    exact .inr (.inr ⟨hlt, hb, h.blk hb⟩)
theorem emb_fresh {C : Cod α} {s t : St} (h : Keep s t) {v : AV} {l : List α} (hO : Own C s t v l) : ∃ f : Nat → Nat, (∀ id, id < s.next → f id = id) ∧ Emb f s (freshS C s l) t ∧ v = (freshV C s l).ren f := by
  rcases hO with ⟨rfl, rfl⟩ | ⟨j, rfl, hl, h1, hj⟩
  · obtain ⟨f, h1, h2⟩ := emb_keep h
    exact ⟨f, h1, h2, by simp [freshV, AV.ren]⟩
  · have hn := h.next
    have hlow := h.low
    have hlt := St.get_lt hj
    have hle : l.isEmpty = false := by simpa using hl
    have e0 : freshS C s l = s.lowed.push (.row (C.cells l) true) := by simp [freshS, hle]
    have e1 : (freshS C s l).next = s.next + 1 := by rw [e0]; rfl
    have e2 : ∀ id, (freshS C s l).get id = if id = s.next then some (.row (C.cells l) true) else s.get id := fun id => by rw [e0, St.get_push]; rfl
    refine ⟨fun id => if id < s.next then id else if id = s.next then j else t.next + id, fun id hid => by simp [hid], ⟨by omega, ?_, fun id hid => by simp [hid], fun id hid => ?_, fun i k h1 h2 e => ?_, fun id b hb => ?_, fun id h1 h2 => ?_⟩, ?_⟩
    · rw [e0]
      exact hlow
    · rw [e1] at hid
      rw [if_neg (by omega), if_neg (by omega)]
      omega
    · rw [e1] at h1 h2
      by_cases a1 : i < s.next
      · by_cases a2 : k < s.next
        · rw [if_pos a1, if_pos a2] at e; exact e
        · rw [if_pos a1, if_neg a2, if_pos (by omega)] at e; omega
      · by_cases a2 : k < s.next
        · rw [if_neg a1, if_pos a2, if_pos (by omega)] at e; omega
        · omega
    · rw [e2] at hb
      split at hb
      · rename_i hid
        injection hb with hb
        subst hb
        refine .inr (.inl ?_)
        rw [if_neg (by omega), if_pos hid, hj, AB.ren, plains_rens _ (cells_plain C l)]
      · have hid := St.get_lt hb
        exact .inr (.inr ⟨hid, hb, h.blk hb⟩)
    · rw [e2, if_neg (by omega)]
    · simp [freshV, hle, AV.ren]
end Go.AM
