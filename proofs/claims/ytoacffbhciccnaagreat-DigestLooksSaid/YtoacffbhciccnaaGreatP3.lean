/-
  The program's and the reference's loops over lists of dots and nodes. Own work of this project; in part printed by a program of it.
-/
import Derived.Test.YtoacffbhciccnaaGreatP2
import Derived.Shelf.SlSortCmp.WholeK
import Derived.Ground.SlsfProg
import Derived.Shelf.SlGeneric
import Derived.Test.YtoacffbhciccnaaGreatProg
import Derived.Shelf.SlSortCmp.NoneTotal
import Derived.KernelRfl
set_option linter.unusedVariables false
set_option linter.unusedSimpArgs false
section
set_option maxRecDepth 100000
set_option maxHeartbeats 4000000
namespace Go.AM
open Go Go.Proofs

theorem getsome {α : Type} {l : List α} {i : Nat} (h : i < l.length) : ∃ x, l[i]? = some x := ⟨l[i], by simp [h]⟩
/-- In order, each once. -/
def chain {α : Type} (p : α → α → Bool) : List α → Bool
  | [] => true
  | [_] => true
  | x :: y :: r => p x y && chain p (y :: r)
theorem chain_iff {α : Type} (p : α → α → Bool) : ∀ (l : List α), chain p l = true ↔ ∀ i x y, l[i]? = some x → l[i + 1]? = some y → p x y = true
  | [] => by simp [chain]
  | [a] => by simp [chain]
  | a :: b :: r => by
    rw [chain, Bool.and_eq_true, chain_iff p (b :: r)]
    constructor
    · rintro ⟨h1, h2⟩ i x y hx hy
      cases i with
      | zero => simp at hx hy; subst hx; subst hy; exact h1
      | succ i => exact h2 i x y (by simpa using hx) (by simpa using hy)
    · intro h
      exact ⟨h 0 a b (by simp) (by simp), fun i x y hx hy => h (i + 1) x y (by simpa using hx) (by simpa using hy)⟩
theorem getlt {α : Type} {l : List α} {i : Nat} {x : α} (h : l[i]? = some x) : i < l.length := (List.getElem?_eq_some_iff.1 h).1
theorem dcmp_lt (a b : Dot) : (0 ≤ dcmp a b) = (a.before b = false) := by
  simp only [dcmp, cmpI, Dot.before]
  grind
def fCmp (a b : Dot) : AV := .int .i64 (dcmp a b)
theorem s_Cmp : SoundAt Tryz.prog 50 (conDD fCmp) := s_dotCmp.lowed fun xs s r s' h => by
  obtain ⟨d, e, rfl, rfl, rfl⟩ := conDD_some h
  exact ⟨rfl, rfl⟩
theorem q_Cmp (cl : Bool) (a b : Dot) (s : St) : acall (conDD fCmp) cl [.agg (Dot.av a), .agg (Dot.av b)] s = some (.int .i64 (dcmp a b), s) := conDD_call fCmp (fun _ _ => rfl) cl a b s

def setD (l : List Dot) : Bool := chain Dot.before l
def fIsSet (l : List Dot) : AV := .bool (setD l)
theorem s_IsSet : SoundAt Tryz.prog 86 (conL dotC fIsSet) :=
  con_keep (tb_sound (l := [(50, conDD fCmp)]) (by simpa using s_Cmp)) mixed Tryz.func86 k86 c86 fun args s r s' h => by
    obtain ⟨v, l, rfl, hr, hl, rfl, rfl⟩ := conL_some h
    refine ⟨rfl, rfl, by simp [a86], fun env hlen ha => ?_⟩
    have h0 : E env 0 = _ := ha 0 _ rfl
    have hlen : elen env = _ := hlen
    simp only [a86] at hlen
    unfold a86
    try dsimp only [oO, oG]
    have hL := lenV_read hr
    simp (config := {contextual := true, maxDischargeDepth := 12}) only [tb, q_Cmp, h0, hlen, ↓bD, bU, forall_const, bS, implies_true, isNx, cstep_bool, ↓wp_cond, ↓wp_loop, ↓reduceIte, reduceCtorEq, Nat.reduceEqDiff, Nat.reduceLT, Nat.reduceAdd, Nat.reduceMul, Int.ofNat_lt, Int.ofNat_le, exists_const]
    refine lwp_inv (fun n e t => t = s ∧ ∃ i, n + i = l.length + 1 ∧ 1 ≤ i ∧ (i ≤ l.length ∨ i = 1) ∧ elen e = 21 ∧ E e 0 = v ∧ E e 3 = .int .i64 (i : Int) ∧ ∀ k x y, k + 1 < i → l[k]? = some x → l[k + 1]? = some y → x.before y = true) (n := l.length) ⟨by simp [kt_refl], 1, by omega, by omega, by omega, ?_, ?_, ?_, fun k x y hk => by omega⟩ ?_
    · simp only [E_pne, E_psame, elen_put, Nat.reduceEqDiff, ne_eq, not_false_eq_true, Nat.reduceLT, hlen]
    · simp only [E_pne, E_psame, elen_put, Nat.reduceEqDiff, ne_eq, not_false_eq_true, Nat.reduceLT, h0]
    · simp only [E_pne, E_psame, elen_put, Nat.reduceEqDiff, ne_eq, not_false_eq_true, Nat.reduceLT, hlen]; rfl
    · rintro n e t ⟨rfl, i, hn, h1, h2, he, e0, e3, hpre⟩
      obtain ⟨k, rfl⟩ : ∃ k, i = k + 1 := ⟨i - 1, by omega⟩
      by_cases hlt : k + 1 < l.length
      · obtain ⟨x, hx⟩ := getsome (l := l) (i := k) (by omega)
        obtain ⟨y, hy⟩ := getsome hlt
        have hw1 := wrap_sub1 (n := k) (by unfold lim at hl; omega)
        have hw2 := wrap_add1 (n := k + 1) (by unfold lim at hl; omega)
        obtain ⟨a1, _⟩ := dot_lods hr (.refl _) hx
        obtain ⟨b1, _⟩ := dot_lods hr (.refl _) hy
        have i1 := dot_idx hr hx .i64
        have i2 := dot_idx hr hy .i64
        simp (config := {contextual := true, maxDischargeDepth := 12}) only [tb, q_Cmp, e0, e3, he, hL, hlt, hw1, hw2, a1, b1, i1, i2, ↓bD, bU, forall_const, bS, implies_true, isNx, cstep_bool, ↓wp_cond, ↓wp_loop, ↓reduceIte, reduceCtorEq, Nat.reduceEqDiff, Nat.reduceLT, Nat.reduceAdd, Nat.reduceMul, Int.ofNat_lt, Int.ofNat_le, exists_const]
        refine ⟨⟨fun hb => ?_, fun hb => ⟨n - 1, by omega, k + 2, by omega, by omega, by omega, rfl, ?_⟩⟩, fun hf => hf.elim⟩
        · have hb := of_decide_eq_true hb
          rw [dcmp_lt] at hb
          have : setD l = false := by
            rw [← Bool.not_eq_true]
            intro hc
            have := (chain_iff _ l).1 hc k x y hx hy
            rw [hb] at this
            cases this
          simp [fIsSet, this]
        · intro k' x' y' hk' hx' hy'
          by_cases e : k' = k
          · subst e
            rw [hx] at hx'; rw [hy] at hy'
            cases hx'; cases hy'
            have hb := of_decide_eq_false hb
            rw [dcmp_lt] at hb
            simpa using hb
          · exact hpre k' x' y' (by omega) hx' hy'
      · have : setD l = true := (chain_iff _ l).2 fun i x y hx hy => hpre i x y (by have := getlt hy; omega) hx hy
        simp (config := {contextual := true, maxDischargeDepth := 12}) only [tb, q_Cmp, e0, e3, he, hL, hlt, ↓bD, bU, forall_const, bS, implies_true, isNx, cstep_bool, ↓wp_cond, ↓wp_loop, ↓reduceIte, reduceCtorEq, Nat.reduceEqDiff, Nat.reduceLT, Nat.reduceAdd, Nat.reduceMul, Int.ofNat_lt, Int.ofNat_le, exists_const]
        simp [fIsSet, this]
theorem q_IsSet (cl : Bool) {v : AV} {l : List Dot} {s : St} (h : read dotC s v = some l) (hl : l.length ≤ lim) : acall (conL dotC fIsSet) cl [v] s = some (.bool (setD l), s) := conL_call (fun _ => rfl) h hl cl

def ndLt (a b : Nd) : Bool := a.d.before b.d
def storeL (l : List Nd) : Bool := l.all Nd.valid && chain ndLt l
theorem ne_at {α : Type} {l m : List α} {i : Nat} {x y : α} (hx : l[i]? = some x) (hy : m[i]? = some y) (h : x ≠ y) : l ≠ m := by
  rintro rfl
  rw [hx] at hy
  cases hy
  exact h rfl
theorem eq_of_at {α : Type} {l m : List α} (hlen : l.length = m.length) (h : ∀ (k : Nat) (x y : α), l[k]? = some x → m[k]? = some y → x = y) : l = m := by
  apply List.ext_getElem? 
  intro k
  by_cases hk : k < l.length
  · obtain ⟨x, hx⟩ := getsome hk
    obtain ⟨y, hy⟩ := getsome (l := m) (i := k) (by omega)
    rw [hx, hy, h k x y hx hy]
  · rw [List.getElem?_eq_none (by omega), List.getElem?_eq_none (by omega)]
end Go.AM
end
/-
  More loops: Find, Agree, IndexFunc, and functions that pass on what another one answers. Own work of this project; in part printed by a program of it.
-/
section
set_option maxRecDepth 100000
set_option maxHeartbeats 4000000
namespace Go.AM
open Go Go.Proofs

/-! ### Find -/
/-! ### IndexFunc and ContainsFunc -/
def conLfn (f : List Nd → AV) (g : Nat) : Con := fun xs s => match xs with
  | [v, .fn g' []] => if g' = g then match read ndC s v with
    | some l => if l.length ≤ lim then some (f l, s.lowed) else none
    | none => none
    else none
  | _ => none
theorem conLfn_some {f : List Nd → AV} {g : Nat} {xs : List AV} {s : St} {r : AV} {s' : St} (h : conLfn f g xs s = some (r, s')) : ∃ v l, xs = [v, .fn g []] ∧ read ndC s v = some l ∧ l.length ≤ lim ∧ r = f l ∧ s' = s.lowed := by
  unfold conLfn at h
  split at h
  · split at h
    · rename_i e
      subst e
      split at h
      · split at h
        · rename_i v _ _ l hr hl
          injection h with h
          obtain ⟨rfl, rfl⟩ := Prod.mk.inj h
          exact ⟨v, l, rfl, hr, hl, rfl, rfl⟩
        · cases h
      · cases h
    · cases h
  · cases h
theorem conLfn_call {f : List Nd → AV} (hf : ∀ l, (f l).ground = true) {g : Nat} {s : St} {v : AV} {l : List Nd} (h : read ndC s v = some l) (hl : l.length ≤ lim) (cl : Bool) : acall (conLfn f g) cl [v, .fn g []] s = some (f l, s) :=
  acall_rol (by simp only [conLfn, read_low, h, hl, if_true]) (hf l)
/-- The first node that is not valid, or -1. -/
def badL : List Nd → Int
  | [] => -1
  | x :: r => if x.valid = false then 0 else if badL r < 0 then -1 else badL r + 1
theorem badL_hit : ∀ (l : List Nd) (i : Nat) (x : Nd), l[i]? = some x → x.valid = false → (∀ k y, k < i → l[k]? = some y → y.valid = true) → badL l = i
  | [], i, x, h, _, _ => by simp at h
  | y :: r, 0, x, h, hd, _ => by simp at h; subst h; simp [badL, hd]
  | y :: r, i + 1, x, h, hd, hp => by
    have h1 := hp 0 y (by omega) (by simp)
    have h2 := badL_hit r i x (by simpa using h) hd fun k z hk hz => hp (k + 1) z (by omega) (by simpa using hz)
    simp only [badL, h2, h1]
    rw [if_neg (by simp), if_neg (by omega)]
    omega
theorem badL_miss : ∀ (l : List Nd), (∀ x ∈ l, x.valid = true) → badL l = -1
  | [], _ => rfl
  | y :: r, h => by
    simp [badL, h y (by simp), badL_miss r fun x hx => h x (by simp [hx])]
theorem badL_all (l : List Nd) : (0 ≤ badL l) = (l.all Nd.valid = false) := by
  induction l with
  | nil => simp [badL]
  | cons x r ih =>
    simp only [badL, List.all_cons]
    cases hx : x.valid
    · simp
    · simp only [Bool.true_and, Bool.true_eq_false, if_false]
      rw [← ih]
      split <;> simp <;> omega
def fBad (l : List Nd) : AV := .int .i64 (badL l)
def fHasBad (l : List Nd) : AV := .bool (!l.all Nd.valid)
theorem s_IndexBad : SoundAt Tryz.prog 95 (conLfn fBad 90) :=
  con_keep (tb_sound (l := [(90, conN fInvalid)]) (by simpa using s_Invalid)) mixed Tryz.func95 k95 c95 fun args s r s' h => by
    obtain ⟨v, l, rfl, hr, hl, rfl, rfl⟩ := conLfn_some h
    refine ⟨rfl, rfl, by simp [a95], fun env hlen ha => ?_⟩
    have h0 : E env 0 = _ := ha 0 _ rfl
    have h1 : E env 1 = _ := ha 1 _ rfl
    have hlen : elen env = _ := hlen
    simp only [a95] at hlen
    unfold a95
    try dsimp only [oO, oG]
    have hL := lenV_read hr
    simp (config := {contextual := true, maxDischargeDepth := 12}) only [tb, q_Invalid, h0, h1, hlen, hL, ↓bD, bU, forall_const, bS, implies_true, isNx, cstep_bool, ↓wp_cond, ↓wp_loop, ↓reduceIte, reduceCtorEq, Nat.reduceEqDiff, Nat.reduceLT, Nat.reduceAdd, Nat.reduceMul, Int.ofNat_lt, Int.ofNat_le, exists_const]
    refine lwp_inv (fun n e t => t = s ∧ ∃ i : Nat, n + i = l.length ∧ elen e = 19 ∧ E e 0 = v ∧ E e 1 = .fn 90 [] ∧ E e 7 = .int .i64 (l.length : Int) ∧ E e 8 = .int .i64 (i : Int) ∧ ∀ k y, k < i → l[k]? = some y → y.valid = true) (n := l.length) ⟨rfl, 0, by omega, by simp only [E_pne, E_psame, elen_put, Nat.reduceEqDiff, ne_eq, not_false_eq_true, Nat.reduceLT, hlen], by simp only [E_pne, E_psame, elen_put, Nat.reduceEqDiff, ne_eq, not_false_eq_true, Nat.reduceLT, h0], by simp only [E_pne, E_psame, elen_put, Nat.reduceEqDiff, ne_eq, not_false_eq_true, Nat.reduceLT, h1], by simp only [E_pne, E_psame, elen_put, Nat.reduceEqDiff, ne_eq, not_false_eq_true, Nat.reduceLT, hlen], by simp only [E_pne, E_psame, elen_put, Nat.reduceEqDiff, ne_eq, not_false_eq_true, Nat.reduceLT, hlen]; rfl, fun k y hk => by omega⟩ ?_
    · rintro n e t ⟨rfl, i, hn, he, e0, e1, e7, e8, hpre⟩
      by_cases hlt : i < l.length
      · obtain ⟨x, hx⟩ := getsome hlt
        have hw2 := wrap_add1 (n := i) (by unfold lim at hl; omega)
        obtain ⟨a1, _⟩ := nd_lods hr (.refl _) hx
        have i1 := nd_idx hr hx .i64
        simp (config := {contextual := true, maxDischargeDepth := 12}) only [tb, q_Invalid, ae_callv, List.append_nil, e0, e1, e7, e8, he, hL, hlt, hw2, a1, i1, ↓bD, bU, forall_const, bS, implies_true, isNx, cstep_bool, ↓wp_cond, ↓wp_loop, ↓reduceIte, reduceCtorEq, Nat.reduceEqDiff, Nat.reduceLT, Nat.reduceAdd, Nat.reduceMul, Int.ofNat_lt, Int.ofNat_le, exists_const]
        refine ⟨⟨fun hb => ?_, fun hb => ⟨n - 1, by omega, i + 1, by omega, rfl, ?_⟩⟩, fun hf => hf.elim⟩
        · simp only [fBad, badL_hit l i x hx hb hpre]
        · intro k' y' hk' hy'
          by_cases e' : k' = i
          · subst e'
            rw [hx] at hy'; cases hy'
            exact hb
          · exact hpre k' y' (by omega) hy'
      · have : badL l = -1 := badL_miss l fun x hx => by
          obtain ⟨k, hk⟩ := List.getElem?_of_mem hx
          exact hpre k x (by have := getlt hk; omega) hk
        simp (config := {contextual := true, maxDischargeDepth := 12}) only [tb, e0, e1, e7, e8, he, hL, hlt, ↓bD, bU, forall_const, bS, implies_true, isNx, cstep_bool, ↓wp_cond, ↓wp_loop, ↓reduceIte, reduceCtorEq, Nat.reduceEqDiff, Nat.reduceLT, Nat.reduceAdd, Nat.reduceMul, Int.ofNat_lt, Int.ofNat_le, exists_const]
        simp [fBad, this]
theorem q_IndexBad (cl : Bool) {v : AV} {l : List Nd} {s : St} (h : read ndC s v = some l) (hl : l.length ≤ lim) : acall (conLfn fBad 90) cl [v, .fn 90 []] s = some (.int .i64 (badL l), s) := conLfn_call (fun _ => rfl) h hl cl
theorem s_HasBad : SoundAt Tryz.prog 89 (conLfn fHasBad 90) :=
  con_keep (tb_sound (l := [(95, conLfn fBad 90)]) (by simpa using s_IndexBad)) mixed Tryz.func89 k89 c89 fun args s r s' h => by
    obtain ⟨v, l, rfl, hr, hl, rfl, rfl⟩ := conLfn_some h
    refine ⟨rfl, rfl, by simp [a89], fun env hlen ha => ?_⟩
    have h0 : E env 0 = _ := ha 0 _ rfl
    have h1 : E env 1 = _ := ha 1 _ rfl
    have hlen : elen env = _ := hlen
    simp only [a89] at hlen
    unfold a89
    try dsimp only [oO, oG]
    have hq := q_IndexBad false hr hl
    simp (config := {contextual := true, maxDischargeDepth := 12}) only [tb, hq, h0, h1, hlen, ↓bD, bU, forall_const, bS, implies_true, isNx, cstep_bool, ↓wp_cond, ↓wp_loop, ↓reduceIte, reduceCtorEq, Nat.reduceEqDiff, Nat.reduceLT, Nat.reduceAdd, Nat.reduceMul, Int.ofNat_lt, Int.ofNat_le, exists_const]
    simp only [badL_all, fHasBad]
    cases l.all Nd.valid <;> rfl
theorem q_HasBad (cl : Bool) {v : AV} {l : List Nd} {s : St} (h : read ndC s v = some l) (hl : l.length ≤ lim) : acall (conLfn fHasBad 90) cl [v, .fn 90 []] s = some (.bool (!l.all Nd.valid), s) := conLfn_call (fun _ => rfl) h hl cl

end Go.AM
end
/-
  Plain laws of sets of dots, version vectors and causal contexts. Own work of this project.
-/
section
namespace Go.AM
open Go Go.Proofs

/-! ### Lists in order -/
theorem chain_pw {α : Type} {p : α → α → Bool} (ht : ∀ a b c, p a b = true → p b c = true → p a c = true) : ∀ l : List α, chain p l = true ↔ l.Pairwise fun a b => p a b = true
  | [] => by simp [chain]
  | [a] => by simp [chain]
  | a :: b :: r => by
    rw [chain, Bool.and_eq_true, chain_pw ht (b :: r), List.pairwise_cons (a := a)]
    constructor
    · rintro ⟨h1, h2⟩
      refine ⟨fun x hx => ?_, h2⟩
      rcases List.mem_cons.1 hx with rfl | hx
      · exact h1
      · exact ht _ _ _ h1 ((List.pairwise_cons.1 h2).1 x hx)
    · rintro ⟨h1, h2⟩
      exact ⟨h1 b (by simp), h2⟩
/-- Two lists in strict order with the same elements. -/
theorem strict_uniq {α : Type} {p : α → α → Bool} (hi : ∀ a, p a a = false) (ht : ∀ a b c, p a b = true → p b c = true → p a c = true) : ∀ l m : List α, l.Pairwise (fun a b => p a b = true) → m.Pairwise (fun a b => p a b = true) → (∀ x, x ∈ l ↔ x ∈ m) → l = m
  | [], [], _, _, _ => rfl
  | [], y :: m, _, _, h => by have := (h y).2 (by simp); simp at this
  | x :: l, [], _, _, h => by have := (h x).1 (by simp); simp at this
  | x :: l, y :: m, h1, h2, h => by
    rw [List.pairwise_cons] at h1 h2
    have e : x = y := by
      have hx := (h x).1 (by simp)
      have hy := (h y).2 (by simp)
      rcases List.mem_cons.1 hx with e | hx
      · exact e
      · rcases List.mem_cons.1 hy with e | hy
        · exact e.symm
        · have := ht _ _ _ (h2.1 x hx) (h1.1 y hy)
          rw [hi] at this
          cases this
    subst e
    rw [strict_uniq hi ht l m h1.2 h2.2 fun z => ?_]
    have hz := h z
    simp only [List.mem_cons] at hz
    constructor
    · intro hm
      rcases hz.1 (.inr hm) with rfl | q
      · have := h1.1 z hm
        rw [hi] at this
        cases this
      · exact q
    · intro hm
      rcases hz.2 (.inr hm) with rfl | q
      · have := h2.1 z hm
        rw [hi] at this
        cases this
      · exact q
theorem bef_irr (a : Dot) : a.before a = false := by simp [Dot.before]
theorem bef_trans (a b c : Dot) (h : a.before b = true) (k : b.before c = true) : a.before c = true := by
  simp only [Dot.before, Bool.or_eq_true, Bool.and_eq_true, decide_eq_true_eq] at *
  omega
theorem bef_tri (a b : Dot) (h : a ≠ b) : a.before b = true ∨ b.before a = true := by
  obtain ⟨ar, ac⟩ := a
  obtain ⟨br, bc⟩ := b
  simp only [ne_eq, Dot.mk.injEq] at h
  simp only [Dot.before, Bool.or_eq_true, Bool.and_eq_true, decide_eq_true_eq]
  omega
abbrev Srt (l : List Dot) : Prop := l.Pairwise fun a b => a.before b = true
theorem srt_cons {x : Dot} {l : List Dot} : Srt (x :: l) ↔ (∀ y ∈ l, x.before y = true) ∧ Srt l := List.pairwise_cons
theorem setD_srt (l : List Dot) : setD l = true ↔ Srt l := chain_pw bef_trans l
theorem srt_uniq {l m : List Dot} (h1 : Srt l) (h2 : Srt m) (h : ∀ x, x ∈ l ↔ x ∈ m) : l = m := strict_uniq bef_irr bef_trans l m h1 h2 h

/-! ### Sets of dots -/
def insD (d : Dot) : List Dot → List Dot
  | [] => [d]
  | x :: r => if x.before d = true then x :: insD d r else d :: x :: r
def withL (s : List Dot) (d : Dot) : List Dot := if d ∈ s then s else insD d s
def setL (l : List Dot) : List Dot := l.foldl withL []
theorem insD_mem (d : Dot) : ∀ (l : List Dot) (x : Dot), x ∈ insD d l ↔ x = d ∨ x ∈ l
  | [], x => by simp [insD]
  | y :: r, x => by
    unfold insD
    split
    · rw [List.mem_cons, insD_mem d r x, List.mem_cons]
      constructor
      · rintro (h | h | h)
        · exact .inr (.inl h)
        · exact .inl h
        · exact .inr (.inr h)
      · rintro (h | h | h)
        · exact .inr (.inl h)
        · exact .inl h
        · exact .inr (.inr h)
    · simp
theorem withL_mem (s : List Dot) (d x : Dot) : x ∈ withL s d ↔ x = d ∨ x ∈ s := by
  unfold withL
  split
  · rename_i h
    constructor
    · exact .inr
    · rintro (rfl | q)
      · exact h
      · exact q
  · exact insD_mem d s x
theorem insD_srt (d : Dot) : ∀ l : List Dot, Srt l → d ∉ l → Srt (insD d l)
  | [], _, _ => by simp [insD]
  | y :: r, h, hd => by
    simp only [List.mem_cons, not_or] at hd
    rw [srt_cons] at h
    unfold insD
    split
    · rename_i hb
      rw [srt_cons]
      refine ⟨fun x hx => ?_, insD_srt d r h.2 hd.2⟩
      rcases (insD_mem d r x).1 hx with rfl | hx
      · exact hb
      · exact h.1 x hx
    · rename_i hb
      have hb : d.before y = true := (bef_tri d y hd.1).resolve_right hb
      rw [srt_cons, srt_cons]
      refine ⟨fun x hx => ?_, h⟩
      rcases List.mem_cons.1 hx with rfl | hx
      · exact hb
      · exact bef_trans _ _ _ hb (h.1 x hx)
theorem withL_srt {s : List Dot} (d : Dot) (h : Srt s) : Srt (withL s d) := by
  unfold withL
  split
  · exact h
  · exact insD_srt d s h (by assumption)
theorem foldWith_mem : ∀ (l s : List Dot) (x : Dot), x ∈ l.foldl withL s ↔ x ∈ s ∨ x ∈ l
  | [], s, x => by simp
  | d :: l, s, x => by
    rw [List.foldl_cons, foldWith_mem l, withL_mem, List.mem_cons]
    constructor
    · rintro ((h | h) | h)
      · exact .inr (.inl h)
      · exact .inl h
      · exact .inr (.inr h)
    · rintro (h | h | h)
      · exact .inl (.inr h)
      · exact .inl (.inl h)
      · exact .inr h
theorem foldWith_srt : ∀ (l s : List Dot), Srt s → Srt (l.foldl withL s)
  | [], s, h => h
  | d :: l, s, h => foldWith_srt l _ (withL_srt d h)
theorem setL_mem (l : List Dot) (x : Dot) : x ∈ setL l ↔ x ∈ l := by
  unfold setL
  rw [foldWith_mem]
  simp
theorem setL_srt (l : List Dot) : Srt (setL l) := foldWith_srt l [] .nil
theorem insD_len (d : Dot) : ∀ l : List Dot, (insD d l).length = l.length + 1
  | [] => rfl
  | x :: r => by
    unfold insD
    split
    · simp [insD_len d r]
    · rfl
theorem withL_len (s : List Dot) (d : Dot) : (withL s d).length ≤ s.length + 1 := by
  unfold withL
  split
  · omega
  · rw [insD_len]; omega
theorem foldWith_len : ∀ (l s : List Dot), (l.foldl withL s).length ≤ s.length + l.length
  | [], s => by simp
  | d :: l, s => by
    have h1 := foldWith_len l (withL s d)
    have h2 := withL_len s d
    simp only [List.foldl_cons, List.length_cons]
    omega
theorem setL_len (l : List Dot) : (setL l).length ≤ l.length := by
  have := foldWith_len l []
  simpa [setL] using this
/-- The program's way: in order, then each once. -/
def leD (a b : Dot) : Bool := !b.before a
def insS (d : Dot) : List Dot → List Dot
  | [] => [d]
  | x :: r => if d.before x = true then d :: x :: r else x :: insS d r
def sortD : List Dot → List Dot
  | [] => []
  | x :: r => insS x (sortD r)
theorem insS_perm (x : Dot) : ∀ l, (insS x l).Perm (x :: l)
  | [] => .refl _
  | y :: r => by
    unfold insS
    split
    · exact .refl _
    · exact ((insS_perm x r).cons y).trans (.swap x y r)
theorem sortD_perm : ∀ l, (sortD l).Perm l
  | [] => .refl _
  | x :: r => (insS_perm x _).trans ((sortD_perm r).cons x)
theorem sortD_len (l : List Dot) : (sortD l).length = l.length := (sortD_perm l).length_eq
theorem leD_trans (a b c : Dot) (h : leD a b = true) (k : leD b c = true) : leD a c = true := by
  simp only [leD, Bool.not_eq_true', Dot.before, Bool.or_eq_false_iff, Bool.and_eq_false_iff, decide_eq_false_iff_not] at *
  omega
theorem leD_anti (a b : Dot) (h : leD a b = true) (k : leD b a = true) : a = b := by
  obtain ⟨ar, ac⟩ := a
  obtain ⟨br, bc⟩ := b
  simp only [leD, Bool.not_eq_true', Dot.before, Bool.or_eq_false_iff, Bool.and_eq_false_iff, decide_eq_false_iff_not] at h k
  simp only [Dot.mk.injEq]
  omega
theorem leD_of_bef (a b : Dot) (h : a.before b = true) : leD a b = true := by
  simp only [leD, Bool.not_eq_true', Dot.before, Bool.or_eq_true, Bool.and_eq_true, decide_eq_true_eq, Bool.or_eq_false_iff, Bool.and_eq_false_iff, decide_eq_false_iff_not] at *
  omega
theorem insS_le (x : Dot) : ∀ l : List Dot, (l.Pairwise fun a b => leD a b = true) → (insS x l).Pairwise fun a b => leD a b = true
  | [], _ => by simp [insS]
  | y :: r, h => by
    rw [List.pairwise_cons] at h
    unfold insS
    split
    · rename_i hb
      rw [List.pairwise_cons, List.pairwise_cons]
      refine ⟨fun z hz => ?_, h⟩
      rcases List.mem_cons.1 hz with rfl | hz
      · exact leD_of_bef _ _ hb
      · exact leD_trans _ _ _ (leD_of_bef _ _ hb) (h.1 z hz)
    · rename_i hb
      rw [List.pairwise_cons]
      refine ⟨fun z hz => ?_, insS_le x r h.2⟩
      rcases List.mem_cons.1 ((insS_perm x r).mem_iff.1 hz) with rfl | hz
      · simpa [leD] using hb
      · exact h.1 z hz
theorem sortD_le : ∀ l : List Dot, (sortD l).Pairwise fun a b => leD a b = true
  | [] => by simp [sortD]
  | x :: r => insS_le x _ (sortD_le r)
theorem le_uniq : ∀ (l m : List Dot), l.Perm m → (l.Pairwise fun a b => leD a b = true) → (m.Pairwise fun a b => leD a b = true) → l = m
  | [], m, h, _, _ => (List.nil_perm.1 h).symm
  | x :: l, [], h, _, _ => absurd h.length_eq (by simp)
  | x :: l, y :: m, h, h1, h2 => by
    rw [List.pairwise_cons] at h1 h2
    have e : x = y := by
      rcases List.mem_cons.1 (h.mem_iff.1 (List.mem_cons_self ..)) with q | hx
      · exact q
      rcases List.mem_cons.1 (h.mem_iff.2 (List.mem_cons_self ..)) with q | hy
      · exact q.symm
      exact leD_anti x y (h1.1 y hy) (h2.1 x hx)
    subst e
    rw [le_uniq l m h.cons_inv h1.2 h2.2]
/-- Neighbours once. -/
def dedup : List Dot → List Dot
  | [] => []
  | [x] => [x]
  | x :: y :: r => if x = y then dedup (y :: r) else x :: dedup (y :: r)
theorem dedup_mem : ∀ (l : List Dot) (x : Dot), x ∈ dedup l ↔ x ∈ l
  | [], x => by simp [dedup]
  | [y], x => by simp [dedup]
  | y :: z :: r, x => by
    unfold dedup
    split
    · rename_i e
      subst e
      rw [dedup_mem (y :: r) x]
      simp
    · rw [List.mem_cons, dedup_mem (z :: r) x, List.mem_cons (a := x) (b := y)]
theorem dedup_srt : ∀ l : List Dot, (l.Pairwise fun a b => leD a b = true) → Srt (dedup l)
  | [], _ => by simp [dedup]
  | [y], _ => by simp [dedup]
  | y :: z :: r, h => by
    rw [List.pairwise_cons] at h
    unfold dedup
    split
    · exact dedup_srt (z :: r) h.2
    · rename_i hne
      rw [srt_cons]
      refine ⟨fun x hx => ?_, dedup_srt (z :: r) h.2⟩
      have hyz := h.1 z (by simp)
      have hx := (dedup_mem (z :: r) x).1 hx
      have hb : y.before z = true := (bef_tri y z hne).resolve_right (by simpa [leD] using hyz)
      rcases List.mem_cons.1 hx with rfl | hx
      · exact hb
      · have h3 := (List.pairwise_cons.1 h.2).1 x hx
        simp only [leD, Bool.not_eq_true', Dot.before, Bool.or_eq_true, Bool.and_eq_true, decide_eq_true_eq, Bool.or_eq_false_iff, Bool.and_eq_false_iff, decide_eq_false_iff_not] at *
        omega
theorem dedup_sort (l : List Dot) : dedup (sortD l) = setL l := srt_uniq (dedup_srt _ (sortD_le l)) (setL_srt l) fun x => by rw [dedup_mem, (sortD_perm l).mem_iff, setL_mem]

/-! ### Vectors -/
def vget : List Dot → Int → Int
  | [], _ => 0
  | x :: r, k => if x.r = k then x.c else vget r k
def vhas (v : List Dot) (d : Dot) : Bool := d.valid && decide (d.c ≤ vget v d.r)
def vlt (a b : Dot) : Bool := decide (a.r < b.r)
def vvalid (v : List Dot) : Bool := chain vlt v && v.all Dot.valid
abbrev VSrt (l : List Dot) : Prop := l.Pairwise fun a b => vlt a b = true
theorem vsrt_cons {x : Dot} {l : List Dot} : VSrt (x :: l) ↔ (∀ y ∈ l, vlt x y = true) ∧ VSrt l := List.pairwise_cons
theorem vlt_trans (a b c : Dot) (h : vlt a b = true) (k : vlt b c = true) : vlt a c = true := by
  simp only [vlt, decide_eq_true_eq] at *
  omega
theorem vvalid_iff (v : List Dot) : vvalid v = true ↔ VSrt v ∧ ∀ x ∈ v, x.valid = true := by
  rw [vvalid, Bool.and_eq_true, chain_pw vlt_trans, List.all_eq_true]
theorem valid_iff (d : Dot) : d.valid = true ↔ 1 ≤ d.r ∧ d.r ≤ 64 ∧ 1 ≤ d.c ∧ d.c ≤ 4294967295 := by
  simp only [Dot.valid, Bool.and_eq_true, decide_eq_true_eq, and_assoc]
theorem vget_none : ∀ {v : List Dot} {k : Int}, (∀ x ∈ v, x.r ≠ k) → vget v k = 0
  | [], k, _ => rfl
  | x :: r, k, h => by
    rw [vget, if_neg (h x (by simp)), vget_none fun y hy => h y (by simp [hy])]
theorem vget_mem : ∀ {v : List Dot} {x : Dot}, VSrt v → x ∈ v → vget v x.r = x.c
  | [], x, _, h => by simp at h
  | y :: r, x, hs, h => by
    rw [vsrt_cons] at hs
    rcases List.mem_cons.1 h with rfl | h
    · simp [vget]
    · have := hs.1 x h
      simp only [vlt, decide_eq_true_eq] at this
      rw [vget, if_neg (by omega), vget_mem hs.2 h]
theorem vget_or : ∀ (v : List Dot) (k : Int), vget v k = 0 ∨ ∃ x ∈ v, x.r = k ∧ x.c = vget v k
  | [], k => .inl rfl
  | y :: r, k => by
    rw [vget]
    split
    · exact .inr ⟨y, by simp, by assumption, rfl⟩
    · rcases vget_or r k with h | ⟨x, h1, h2⟩
      · exact .inl h
      · exact .inr ⟨x, by simp [h1], h2⟩
theorem vget_nn {v : List Dot} (h : vvalid v = true) (k : Int) : 0 ≤ vget v k ∧ vget v k ≤ 4294967295 := by
  rcases vget_or v k with h1 | ⟨x, h1, h2, h3⟩
  · omega
  · have := (valid_iff x).1 (((vvalid_iff v).1 h).2 x h1)
    omega
theorem vget_pos {v : List Dot} (h : vvalid v = true) {k : Int} (hk : 1 ≤ vget v k) : (⟨k, vget v k⟩ : Dot) ∈ v := by
  rcases vget_or v k with h1 | ⟨x, h1, h2, h3⟩
  · omega
  · obtain ⟨xr, xc⟩ := x
    simp only at h2 h3
    subst h2
    rw [← h3]
    exact h1
theorem vget_ext {v w : List Dot} (hv : vvalid v = true) (hw : vvalid w = true) (h : ∀ k, vget v k = vget w k) : v = w := by
  have hi : ∀ a, vlt a a = false := fun a => by simp [vlt]
  obtain ⟨h1, h2⟩ := (vvalid_iff v).1 hv
  obtain ⟨k1, k2⟩ := (vvalid_iff w).1 hw
  have key : ∀ (v w : List Dot), vvalid v = true → vvalid w = true → (∀ k, vget v k = vget w k) → ∀ x ∈ v, x ∈ w := by
    intro v w hv hw h x hx
    obtain ⟨h1, h2⟩ := (vvalid_iff v).1 hv
    have e := vget_mem h1 hx
    have hx := (valid_iff x).1 (h2 x hx)
    rw [h] at e
    have := vget_pos hw (k := x.r) (by omega)
    rw [e] at this
    exact this
  exact strict_uniq hi vlt_trans v w h1 k1 fun x => ⟨key v w hv hw h x, key w v hw hv (fun k => (h k).symm) x⟩
/-- The reference's way to raise a vector. -/
def raiseGo (d : Dot) : Bool → List Dot → List Dot
  | done, [] => if done = true then [] else [d]
  | done, x :: r => (if done = false ∧ d.r ≤ x.r then [d] else []) ++ ((if x.r = d.r then [] else [x]) ++ raiseGo d (done || decide (d.r ≤ x.r)) r)
def raiseL (v : List Dot) (d : Dot) : List Dot := if vhas v d = true then v else raiseGo d false v
theorem raiseGo_done (d : Dot) : ∀ (v : List Dot), (∀ x ∈ v, d.r < x.r) → raiseGo d true v = v
  | [], _ => rfl
  | x :: r, h => by
    have := h x (by simp)
    rw [raiseGo, if_neg (by simp), if_neg (by omega), Bool.true_or, raiseGo_done d r fun y hy => h y (by simp [hy])]
    rfl
theorem raiseGo_mem (d : Dot) : ∀ (v : List Dot), VSrt v → ∀ x, x ∈ raiseGo d false v ↔ x = d ∨ (x ∈ v ∧ x.r ≠ d.r)
  | [], _, x => by simp [raiseGo]
  | y :: r, h, x => by
    rw [vsrt_cons] at h
    rw [raiseGo]
    by_cases hy : d.r ≤ y.r
    · have hr : ∀ z ∈ r, d.r < z.r := fun z hz => by
        have := h.1 z hz
        simp only [vlt, decide_eq_true_eq] at this
        omega
      rw [if_pos ⟨rfl, hy⟩, Bool.false_or, decide_eq_true hy, raiseGo_done d r hr]
      by_cases e : y.r = d.r
      · rw [if_pos e]
        simp only [List.cons_append, List.nil_append, List.mem_cons]
        constructor
        · rintro (q | q)
          · exact .inl q
          · exact .inr ⟨.inr q, by have := hr x q; omega⟩
        · rintro (q | ⟨rfl | q, q2⟩)
          · exact .inl q
          · exact absurd e q2
          · exact .inr q
      · rw [if_neg e]
        simp only [List.cons_append, List.nil_append, List.mem_cons]
        constructor
        · rintro (q | rfl | q)
          · exact .inl q
          · exact .inr ⟨.inl rfl, e⟩
          · exact .inr ⟨.inr q, by have := hr x q; omega⟩
        · rintro (q | ⟨q | q, q2⟩)
          · exact .inl q
          · exact .inr (.inl q)
          · exact .inr (.inr q)
    · rw [if_neg (by omega), if_neg (by omega), Bool.false_or, decide_eq_false hy]
      simp only [List.cons_append, List.nil_append, List.mem_cons]
      rw [raiseGo_mem d r h.2 x]
      constructor
      · rintro (rfl | q | ⟨q, q2⟩)
        · exact .inr ⟨.inl rfl, by omega⟩
        · exact .inl q
        · exact .inr ⟨.inr q, q2⟩
      · rintro (q | ⟨q | q, q2⟩)
        · exact .inr (.inl q)
        · exact .inl q
        · exact .inr (.inr ⟨q, q2⟩)
theorem raiseGo_srt (d : Dot) : ∀ (v : List Dot), VSrt v → VSrt (raiseGo d false v)
  | [], _ => by simp [raiseGo]
  | y :: r, h => by
    rw [vsrt_cons] at h
    rw [raiseGo]
    by_cases hy : d.r ≤ y.r
    · have hr : ∀ z ∈ r, d.r < z.r := fun z hz => by
        have := h.1 z hz
        simp only [vlt, decide_eq_true_eq] at this
        omega
      rw [if_pos ⟨rfl, hy⟩, Bool.false_or, decide_eq_true hy, raiseGo_done d r hr]
      by_cases e : y.r = d.r
      · rw [if_pos e]
        simp only [List.cons_append, List.nil_append]
        rw [vsrt_cons]
        exact ⟨fun x hx => by simpa [vlt] using hr x hx, h.2⟩
      · rw [if_neg e]
        simp only [List.cons_append, List.nil_append]
        rw [vsrt_cons, vsrt_cons]
        refine ⟨fun x hx => ?_, h⟩
        rcases List.mem_cons.1 hx with rfl | hx
        · simp only [vlt, decide_eq_true_eq]; omega
        · simpa [vlt] using hr x hx
    · rw [if_neg (by omega), if_neg (by omega), Bool.false_or, decide_eq_false hy]
      simp only [List.cons_append, List.nil_append]
      rw [vsrt_cons]
      refine ⟨fun x hx => ?_, raiseGo_srt d r h.2⟩
      rcases (raiseGo_mem d r h.2 x).1 hx with rfl | ⟨hx, _⟩
      · simp only [vlt, decide_eq_true_eq]; omega
      · exact h.1 x hx
theorem raiseL_valid {v : List Dot} {d : Dot} (h : vvalid v = true) (hd : d.valid = true) : vvalid (raiseL v d) = true := by
  unfold raiseL
  split
  · exact h
  · obtain ⟨h1, h2⟩ := (vvalid_iff v).1 h
    refine (vvalid_iff _).2 ⟨raiseGo_srt d v h1, fun x hx => ?_⟩
    rcases (raiseGo_mem d v h1 x).1 hx with rfl | ⟨hx, _⟩
    · exact hd
    · exact h2 x hx
theorem vget_of {v : List Dot} (h : VSrt v) {k c : Int} (hm : (⟨k, c⟩ : Dot) ∈ v) : vget v k = c := vget_mem h hm
theorem raiseL_get {v : List Dot} {d : Dot} (h : vvalid v = true) (hd : d.valid = true) (k : Int) : vget (raiseL v d) k = if k = d.r then max (vget v k) d.c else vget v k := by
  unfold raiseL
  have hdc := (valid_iff d).1 hd
  split
  · rename_i hh
    simp only [vhas, Bool.and_eq_true, decide_eq_true_eq] at hh
    split
    · rename_i e
      subst e
      omega
    · rfl
  · rename_i hh
    simp only [vhas, hd, Bool.true_and, decide_eq_true_eq] at hh
    obtain ⟨h1, h2⟩ := (vvalid_iff v).1 h
    have hs := raiseGo_srt d v h1
    split
    · rename_i e
      subst e
      rw [vget_mem hs ((raiseGo_mem d v h1 d).2 (.inl rfl))]
      omega
    · rename_i e
      have hp := vget_nn h k
      by_cases h0 : vget v k = 0
      · rw [h0]
        refine vget_none fun x hx => ?_
        rcases (raiseGo_mem d v h1 x).1 hx with rfl | ⟨hx, _⟩
        · exact fun q => e q.symm
        · intro q
          have := vget_mem h1 hx
          rw [q, h0] at this
          have := (valid_iff x).1 (h2 x hx)
          omega
      · have hm := vget_pos h (k := k) (by omega)
        exact vget_of hs ((raiseGo_mem d v h1 _).2 (.inr ⟨hm, e⟩))
theorem vvalid_nil : vvalid [] = true := rfl
theorem fold_valid : ∀ {l v : List Dot}, vvalid v = true → l.all Dot.valid = true → vvalid (l.foldl raiseL v) = true
  | [], v, h, _ => h
  | d :: l, v, h, hl => by
    simp only [List.all_cons, Bool.and_eq_true] at hl
    exact fold_valid (v := raiseL v d) (raiseL_valid h hl.1) hl.2
def vmax (m : Int) (k : Int) : List Dot → Int
  | [] => m
  | d :: l => vmax (if k = d.r then max m d.c else m) k l
theorem fold_get : ∀ {l v : List Dot}, vvalid v = true → l.all Dot.valid = true → ∀ k, vget (l.foldl raiseL v) k = vmax (vget v k) k l
  | [], v, h, _, k => rfl
  | d :: l, v, h, hl, k => by
    simp only [List.all_cons, Bool.and_eq_true] at hl
    rw [List.foldl_cons, fold_get (v := raiseL v d) (raiseL_valid h hl.1) hl.2, raiseL_get h hl.1, vmax]
theorem vmax_app : ∀ (l m : List Dot) (a k : Int), vmax a k (l ++ m) = vmax (vmax a k l) k m
  | [], m, a, k => rfl
  | d :: l, m, a, k => by
    rw [List.cons_append, vmax, vmax, vmax_app l m]
def madeL (l : List Dot) : List Dot := l.foldl raiseL []
theorem madeL_valid {l : List Dot} (h : l.all Dot.valid = true) : vvalid (madeL l) = true := fold_valid vvalid_nil h
theorem vvalid_all {v : List Dot} (h : vvalid v = true) : v.all Dot.valid = true := List.all_eq_true.2 ((vvalid_iff v).1 h).2
theorem vmax_low : ∀ (l : List Dot) (m k : Int), (∀ x ∈ l, x.r ≠ k) → vmax m k l = m
  | [], m, k, _ => rfl
  | d :: l, m, k, h => by
    have := h d (by simp)
    rw [vmax, if_neg (fun e => this e.symm), vmax_low l m k fun x hx => h x (by simp [hx])]
theorem vmax_vec : ∀ {v : List Dot}, vvalid v = true → ∀ (m k : Int), 0 ≤ m → vmax m k v = max m (vget v k)
  | [], _, m, k, hm => by simp [vmax, vget]; omega
  | d :: l, h, m, k, hm => by
    obtain ⟨h1, h2⟩ := (vvalid_iff _).1 h
    have h1' := (vsrt_cons.1 h1)
    have hl : vvalid l = true := (vvalid_iff l).2 ⟨h1'.2, fun x hx => h2 x (by simp [hx])⟩
    rw [vmax, vget]
    by_cases e : k = d.r
    · subst e
      rw [if_pos rfl, if_pos rfl]
      refine vmax_low l _ _ fun x hx => ?_
      have := h1'.1 x hx
      simp only [vlt, decide_eq_true_eq] at this
      omega
    · rw [if_neg e, if_neg (fun q => e q.symm), vmax_vec hl m k hm]
theorem madeL_vec {v : List Dot} (h : vvalid v = true) : madeL v = v := by
  refine vget_ext (madeL_valid (vvalid_all h)) h fun k => ?_
  unfold madeL
  rw [fold_get vvalid_nil (vvalid_all h), vmax_vec h _ _ (by simp [vget])]
  have := vget_nn h k
  simp only [vget]
  omega
theorem madeL_merge {a b : List Dot} (ha : vvalid a = true) : madeL (a ++ b) = b.foldl raiseL a := by
  have := madeL_vec ha
  unfold madeL at this ⊢
  rw [List.foldl_append, this]
theorem madeL_get {a b : List Dot} (ha : vvalid a = true) (hb : vvalid b = true) (k : Int) : vget (madeL (a ++ b)) k = max (vget a k) (vget b k) := by
  rw [madeL_merge ha, fold_get ha (vvalid_all hb), vmax_vec hb _ _ (vget_nn ha k).1]
theorem raiseGo_len (d : Dot) : ∀ (b : Bool) (v : List Dot), (raiseGo d b v).length ≤ v.length + (if b = true then 0 else 1)
  | b, [] => by cases b <;> simp [raiseGo]
  | b, x :: r => by
    have h := raiseGo_len d (b || decide (d.r ≤ x.r)) r
    rw [raiseGo]
    simp only [List.length_append, List.length_cons]
    have h1 : (if x.r = d.r then ([] : List Dot) else [x]).length ≤ 1 := by split <;> simp
    cases b
    · by_cases hd : d.r ≤ x.r
      · rw [Bool.false_or, decide_eq_true hd, if_pos rfl] at h
        rw [if_pos ⟨rfl, hd⟩, Bool.false_or, decide_eq_true hd]
        simp only [List.length_cons, List.length_nil, Bool.false_eq_true, if_false]
        omega
      · rw [Bool.false_or, decide_eq_false hd, if_neg (by simp)] at h
        rw [if_neg (by omega), Bool.false_or, decide_eq_false hd]
        simp only [List.length_nil, Bool.false_eq_true, if_false]
        omega
    · rw [Bool.true_or, if_pos rfl] at h
      rw [if_neg (by simp), Bool.true_or]
      simp only [List.length_nil, if_true]
      omega
theorem raiseL_len (v : List Dot) (d : Dot) : (raiseL v d).length ≤ v.length + 1 := by
  unfold raiseL
  split
  · omega
  · exact raiseGo_len d false v
theorem fold_len : ∀ (l v : List Dot), (l.foldl raiseL v).length ≤ v.length + l.length
  | [], v => by simp
  | d :: l, v => by
    have h1 := fold_len l (raiseL v d)
    have h2 := raiseL_len v d
    simp only [List.foldl_cons, List.length_cons]
    omega
theorem madeL_len (l : List Dot) : (madeL l).length ≤ l.length := by
  have := fold_len l []
  simpa [madeL] using this

/-! ### Contexts -/
structure DCx where
  v : List Dot
  c : List Dot
  deriving DecidableEq
def cvalid (x : DCx) : Bool := vvalid x.v && (setD x.c && x.c.all Dot.valid)
theorem cvalid_iff (x : DCx) : cvalid x = true ↔ vvalid x.v = true ∧ Srt x.c ∧ ∀ d ∈ x.c, d.valid = true := by
  rw [cvalid, Bool.and_eq_true, Bool.and_eq_true, setD_srt, List.all_eq_true]
def near (v : List Dot) (d : Dot) : Bool := decide (d.c ≤ vget v d.r + 1)
def isC (x : DCx) : Bool := cvalid x && !x.c.any (near x.v)
def kstep (p : List Dot × List Dot) (d : Dot) : List Dot × List Dot :=
  if vget p.1 d.r + 1 < d.c then (p.1, p.2 ++ [d]) else if d.c = vget p.1 d.r + 1 then (raiseL p.1 d, p.2) else p
def compC (x : DCx) : DCx := ⟨(x.c.foldl kstep (x.v, [])).1, (x.c.foldl kstep (x.v, [])).2⟩
def chas (x : DCx) (d : Dot) : Bool := d.valid && (decide (d.c ≤ vget x.v d.r) || decide (d ∈ x.c))
theorem kstep_gt {p : List Dot × List Dot} {d : Dot} (h : vget p.1 d.r + 1 < d.c) : kstep p d = (p.1, p.2 ++ [d]) := if_pos h
theorem kstep_eq {p : List Dot × List Dot} {d : Dot} (h : d.c = vget p.1 d.r + 1) : kstep p d = (raiseL p.1 d, p.2) := by
  unfold kstep
  rw [if_neg (by omega), if_pos h]
theorem kstep_le {p : List Dot × List Dot} {d : Dot} (h : d.c ≤ vget p.1 d.r) : kstep p d = p := by
  unfold kstep
  rw [if_neg (by omega), if_neg (by omega)]
theorem isC_iff (x : DCx) : isC x = true ↔ cvalid x = true ∧ ∀ d ∈ x.c, vget x.v d.r + 1 < d.c := by
  rw [isC, Bool.and_eq_true]
  simp only [Bool.not_eq_true', List.any_eq_false, near, decide_eq_true_eq, Int.not_le]
/-- What holds while the cloud is gone through: seen from the dots that are to come. -/
structure CInv (v0 : List Dot) (done rest : List Dot) (p : List Dot × List Dot) : Prop where
  val : vvalid p.1 = true
  sub : ∀ d ∈ p.2, d ∈ done
  srt : Srt p.2
  ok : ∀ d ∈ p.2, vget p.1 d.r + 1 < d.c
  has : ∀ d : Dot, d.valid = true → ((d.c ≤ vget p.1 d.r ∨ d ∈ p.2) ↔ (d.c ≤ vget v0 d.r ∨ d ∈ done))
theorem cinv_step {v0 done rest : List Dot} {p : List Dot × List Dot} {d : Dot} (hs : Srt (done ++ d :: rest)) (hv : ∀ x ∈ done ++ d :: rest, x.valid = true) (h : CInv v0 done (d :: rest) p) : CInv v0 (done ++ [d]) rest (kstep p d) := by
  have hd : d.valid = true := hv d (by simp)
  have hdd := (valid_iff d).1 hd
  have hbef : ∀ x ∈ done, x.before d = true := fun x hx => (List.pairwise_append.1 hs).2.2 x hx d (by simp)
  obtain ⟨h1, h2, h3, h4, h5⟩ := h
  unfold kstep
  split
  · rename_i hc
    refine ⟨h1, fun x hx => ?_, ?_, fun x hx => ?_, fun x hx => ?_⟩
    · rcases List.mem_append.1 hx with hx | hx
      · exact List.mem_append.2 (.inl (h2 x hx))
      · exact List.mem_append.2 (.inr hx)
    · show Srt (p.2 ++ [d])
      refine List.pairwise_append.2 ⟨h3, List.pairwise_singleton _ _, fun a ha b hb => ?_⟩
      simp at hb
      subst hb
      exact hbef a (h2 a ha)
    · rcases List.mem_append.1 hx with hx | hx
      · exact h4 x hx
      · simp at hx
        subst hx
        exact hc
    · have := h5 x hx
      simp only [List.mem_append, List.mem_singleton]
      constructor
      · rintro (q | q | q)
        · exact (this.1 (.inl q)).imp id .inl
        · exact (this.1 (.inr q)).imp id .inl
        · exact .inr (.inr q)
      · rintro (q | q | q)
        · exact (this.2 (.inl q)).imp id .inl
        · exact (this.2 (.inr q)).imp id .inl
        · exact .inr (.inr q)
  · rename_i hc
    split
    · rename_i he
      have hg := fun k => raiseL_get h1 hd k
      refine ⟨raiseL_valid h1 hd, fun x hx => List.mem_append.2 (.inl (h2 x hx)), h3, fun x hx => ?_, fun x hx => ?_⟩
      · have hx4 := h4 x hx
        rw [hg]
        split
        · rename_i e
          have hb := hbef x (h2 x hx)
          simp only [Dot.before, Bool.or_eq_true, Bool.and_eq_true, decide_eq_true_eq] at hb
          rw [e] at hx4
          omega
        · exact hx4
      · have := h5 x hx
        have hxv := (valid_iff x).1 hx
        rw [hg]
        simp only [List.mem_append, List.mem_singleton]
        constructor
        · rintro (q | q)
          · split at q
            · rename_i e
              by_cases hq : x.c ≤ vget p.1 x.r
              · exact (this.1 (.inl hq)).imp id .inl
              · refine .inr (.inr ?_)
                obtain ⟨xr, xc⟩ := x
                obtain ⟨dr, dc⟩ := d
                simp only [Dot.mk.injEq] at *
                subst e
                refine ⟨rfl, ?_⟩
                omega
            · exact (this.1 (.inl q)).imp id .inl
          · exact (this.1 (.inr q)).imp id .inl
        · have mono : x.c ≤ vget p.1 x.r → x.c ≤ (if x.r = d.r then max (vget p.1 x.r) d.c else vget p.1 x.r) := by
            intro q
            split <;> omega
          rintro (q | q | q)
          · exact (this.2 (.inl q)).imp mono id
          · exact (this.2 (.inr q)).imp mono id
          · subst q
            left
            rw [if_pos rfl]
            omega
    · rename_i he
      refine ⟨h1, fun x hx => List.mem_append.2 (.inl (h2 x hx)), h3, h4, fun x hx => ?_⟩
      have := h5 x hx
      simp only [List.mem_append, List.mem_singleton]
      constructor
      · intro q
        exact (this.1 q).imp id .inl
      · rintro (q | q | q)
        · exact this.2 (.inl q)
        · exact this.2 (.inr q)
        · subst q
          left
          omega
theorem cinv_fold {v0 : List Dot} : ∀ (rest done : List Dot) (p : List Dot × List Dot), Srt (done ++ rest) → (∀ x ∈ done ++ rest, x.valid = true) → CInv v0 done rest p → CInv v0 (done ++ rest) [] (rest.foldl kstep p)
  | [], done, p, _, _, h => by rw [List.append_nil]; exact h
  | d :: rest, done, p, hs, hv, h => by
    have e : done ++ d :: rest = done ++ [d] ++ rest := by simp
    have := cinv_fold (v0 := v0) rest (done ++ [d]) (kstep p d) (by rw [← e]; exact hs) (by rw [← e]; exact hv) (cinv_step hs hv h)
    rw [e]
    exact this
theorem comp_inv {x : DCx} (h : cvalid x = true) : CInv x.v x.c [] (x.c.foldl kstep (x.v, [])) := by
  obtain ⟨h1, h2, h3⟩ := (cvalid_iff x).1 h
  have := cinv_fold (v0 := x.v) x.c [] (x.v, []) (by simpa using h2) (by simpa using h3) ⟨h1, by simp, .nil, by simp, by simp⟩
  simpa using this
theorem comp_isC {x : DCx} (h : cvalid x = true) : isC (compC x) = true := by
  obtain ⟨h1, h2, h3, h4, h5⟩ := comp_inv h
  have hv := ((cvalid_iff x).1 h).2.2
  exact (isC_iff _).2 ⟨(cvalid_iff _).2 ⟨h1, h3, fun d hd => hv d (h2 d hd)⟩, h4⟩
theorem comp_has {x : DCx} (h : cvalid x = true) (d : Dot) : chas (compC x) d = chas x d := by
  obtain ⟨h1, h2, h3, h4, h5⟩ := comp_inv h
  unfold chas
  by_cases hd : d.valid = true
  · have := h5 d hd
    rw [hd, Bool.true_and, Bool.true_and, Bool.eq_iff_iff]
    simp only [Bool.or_eq_true, decide_eq_true_eq]
    exact this
  · have hd : d.valid = false := by simpa using hd
    rw [hd, Bool.false_and, Bool.false_and]
/-- A compact context is told by its dots. -/
theorem isC_ext {a b : DCx} (ha : isC a = true) (hb : isC b = true) (h : ∀ d, chas a d = chas b d) : a = b := by
  have half : ∀ a b : DCx, isC a = true → isC b = true → (∀ d, chas a d = chas b d) → ∀ k, vget b.v k ≤ vget a.v k := by
    intro a b ha hb h k
    obtain ⟨ha1, ha2⟩ := (isC_iff a).1 ha
    obtain ⟨hb1, hb2⟩ := (isC_iff b).1 hb
    have va := ((cvalid_iff a).1 ha1).1
    have vb := ((cvalid_iff b).1 hb1).1
    have na := vget_nn va k
    have nb := vget_nn vb k
    refine Int.not_lt.1 fun hlt => ?_
    have hk := vget_pos vb (k := k) (by omega)
    have hkv := (valid_iff _).1 (((vvalid_iff _).1 vb).2 _ hk)
    simp only at hkv
    have hd : (⟨k, vget a.v k + 1⟩ : Dot).valid = true := (valid_iff _).2 ⟨hkv.1, hkv.2.1, by simp only; omega, by simp only; omega⟩
    have hh := h ⟨k, vget a.v k + 1⟩
    unfold chas at hh
    rw [hd, Bool.true_and, Bool.true_and] at hh
    have hbt : (decide (vget a.v k + 1 ≤ vget b.v k) || decide ((⟨k, vget a.v k + 1⟩ : Dot) ∈ b.c)) = true := by
      rw [decide_eq_true (by omega), Bool.true_or]
    rw [hbt] at hh
    have hat : ¬ (vget a.v k + 1 ≤ vget a.v k) := by omega
    rw [decide_eq_false hat, Bool.false_or, decide_eq_true_eq] at hh
    have := ha2 _ hh
    simp only at this
    omega
  have hget : ∀ k, vget a.v k = vget b.v k := fun k => Int.le_antisymm (half b a hb ha (fun d => (h d).symm) k) (half a b ha hb h k)
  have sub : ∀ a b : DCx, isC a = true → isC b = true → (∀ d, chas a d = chas b d) → (∀ k, vget a.v k = vget b.v k) → ∀ d ∈ a.c, d ∈ b.c := by
    intro a b ha hb h hget d hd
    obtain ⟨ha1, ha2⟩ := (isC_iff a).1 ha
    have hdv := ((cvalid_iff a).1 ha1).2.2 d hd
    have h2 := ha2 d hd
    have hh := h d
    unfold chas at hh
    rw [hdv, Bool.true_and, Bool.true_and, decide_eq_true hd, Bool.or_true] at hh
    have hn : ¬ d.c ≤ vget b.v d.r := by rw [← hget]; omega
    rw [decide_eq_false hn, Bool.false_or] at hh
    exact of_decide_eq_true hh.symm
  have hv : a.v = b.v := vget_ext ((cvalid_iff a).1 ((isC_iff a).1 ha).1).1 ((cvalid_iff b).1 ((isC_iff b).1 hb).1).1 hget
  have hc : a.c = b.c := srt_uniq ((cvalid_iff a).1 ((isC_iff a).1 ha).1).2.1 ((cvalid_iff b).1 ((isC_iff b).1 hb).1).2.1 fun d => ⟨sub a b ha hb h hget d, sub b a hb ha (fun d => (h d).symm) (fun k => (hget k).symm) d⟩
  cases a
  cases b
  simp only at hv hc
  rw [hv, hc]
theorem comp_id {x : DCx} (h : isC x = true) : compC x = x := isC_ext (comp_isC ((isC_iff x).1 h).1) h fun d => comp_has ((isC_iff x).1 h).1 d
/-- More dots. -/
def addC (x : DCx) (l : List Dot) : DCx := compC ⟨x.v, setL (x.c ++ l)⟩
/-- All dots of two. -/
def uniC (a b : DCx) : DCx := compC ⟨madeL (a.v ++ b.v), setL (a.c ++ b.c)⟩
theorem uni_valid {a b : DCx} (ha : cvalid a = true) (hb : cvalid b = true) : cvalid ⟨madeL (a.v ++ b.v), setL (a.c ++ b.c)⟩ = true := by
  obtain ⟨h1, h2, h3⟩ := (cvalid_iff a).1 ha
  obtain ⟨k1, k2, k3⟩ := (cvalid_iff b).1 hb
  refine (cvalid_iff _).2 ⟨madeL_valid ?_, setL_srt _, fun d hd => ?_⟩
  · rw [List.all_append, vvalid_all h1, vvalid_all k1]; rfl
  · rcases List.mem_append.1 ((setL_mem _ _).1 hd) with hd | hd
    · exact h3 d hd
    · exact k3 d hd
theorem uni_isC {a b : DCx} (ha : cvalid a = true) (hb : cvalid b = true) : isC (uniC a b) = true := comp_isC (uni_valid ha hb)
theorem uni_has {a b : DCx} (ha : cvalid a = true) (hb : cvalid b = true) (d : Dot) : chas (uniC a b) d = (chas a d || chas b d) := by
  unfold uniC
  rw [comp_has (uni_valid ha hb)]
  unfold chas
  cases d.valid
  · simp
  · rw [Bool.eq_iff_iff]
    simp only [Bool.true_and, Bool.or_eq_true, decide_eq_true_eq, setL_mem, List.mem_append]
    rw [madeL_get ((cvalid_iff a).1 ha).1 ((cvalid_iff b).1 hb).1]
    constructor
    · rintro (q | q | q)
      · by_cases hq : d.c ≤ vget a.v d.r
        · exact .inl (.inl hq)
        · exact .inr (.inl (by omega))
      · exact .inl (.inr q)
      · exact .inr (.inr q)
    · rintro ((q | q) | (q | q))
      · exact .inl (by omega)
      · exact .inr (.inl q)
      · exact .inl (by omega)
      · exact .inr (.inr q)
def subC (a b : DCx) : Prop := ∀ d, chas a d = true → chas b d = true
theorem sub_iff {a b : DCx} (ha : cvalid a = true) (hb : cvalid b = true) : uniC a b = compC b ↔ subC a b := by
  constructor
  · intro h d hd
    have := uni_has ha hb d
    rw [h, comp_has hb, hd, Bool.true_or] at this
    exact this
  · intro h
    refine isC_ext (uni_isC ha hb) (comp_isC hb) fun d => ?_
    rw [uni_has ha hb, comp_has hb]
    cases hd : chas a d
    · simp
    · rw [h d hd]; rfl
/-- The reference's way to look. -/
def rwithin (a b : DCx) : Bool := (a.c.all fun d => chas (compC b) d) && a.v.all fun d => vhas (compC b).v d
theorem rwithin_iff {a b : DCx} (ha : cvalid a = true) (hb : cvalid b = true) : rwithin a b = true ↔ subC a b := by
  obtain ⟨h1, h2, h3⟩ := (cvalid_iff a).1 ha
  obtain ⟨k0, k4⟩ := (isC_iff _).1 (comp_isC hb)
  obtain ⟨k1, k2, k3⟩ := (cvalid_iff _).1 k0
  rw [rwithin, Bool.and_eq_true, List.all_eq_true, List.all_eq_true]
  constructor
  · rintro ⟨q1, q2⟩ d hd
    rw [← comp_has hb]
    unfold chas at hd
    rw [Bool.and_eq_true, Bool.or_eq_true, decide_eq_true_eq, decide_eq_true_eq] at hd
    obtain ⟨hv, hd | hd⟩ := hd
    · have hdv := (valid_iff d).1 hv
      have := q2 _ (vget_pos h1 (k := d.r) (by omega))
      simp only [vhas, Bool.and_eq_true, decide_eq_true_eq] at this
      unfold chas
      rw [hv, decide_eq_true (by omega)]
      rfl
    · exact q1 d hd
  · intro q
    refine ⟨fun d hd => ?_, fun d hd => ?_⟩
    · rw [comp_has hb]
      refine q d ?_
      unfold chas
      rw [h3 d hd, decide_eq_true hd, Bool.or_true]
      rfl
    · have hv := ((vvalid_iff _).1 h1).2 d hd
      have hg := vget_mem ((vvalid_iff _).1 h1).1 hd
      have hdv := (valid_iff d).1 hv
      unfold vhas
      rw [hv, Bool.true_and, decide_eq_true_eq]
      refine Int.not_lt.1 fun hlt => ?_
      have nb := vget_nn k1 d.r
      have hw : (⟨d.r, vget (compC b).v d.r + 1⟩ : Dot).valid = true := (valid_iff _).2 ⟨hdv.1, hdv.2.1, by simp only; omega, by simp only; omega⟩
      have hh := q ⟨d.r, vget (compC b).v d.r + 1⟩ (by
        unfold chas
        rw [hw, Bool.true_and, Bool.or_eq_true, decide_eq_true_eq]
        left
        simp only
        omega)
      rw [← comp_has hb] at hh
      unfold chas at hh
      rw [hw, Bool.true_and, Bool.or_eq_true, decide_eq_true_eq, decide_eq_true_eq] at hh
      rcases hh with hh | hh
      · simp only at hh
        omega
      · have := k4 _ hh
        simp only at this
        omega
/-! ### How many -/
theorem kfold_len : ∀ (l : List Dot) (p : List Dot × List Dot), (l.foldl kstep p).1.length ≤ p.1.length + l.length ∧ (l.foldl kstep p).2.length ≤ p.2.length + l.length
  | [], p => by simp
  | d :: l, p => by
    have h := kfold_len l (kstep p d)
    rw [List.foldl_cons, List.length_cons]
    have h1 : (kstep p d).1.length ≤ p.1.length + 1 ∧ (kstep p d).2.length ≤ p.2.length + 1 := by
      unfold kstep
      repeat' split
      · simp
      · have := raiseL_len p.1 d
        exact ⟨this, by show p.2.length ≤ _; omega⟩
      · exact ⟨by omega, by omega⟩
    omega
theorem comp_len (x : DCx) : (compC x).v.length ≤ x.v.length + x.c.length ∧ (compC x).c.length ≤ x.c.length := by
  have h := kfold_len x.c (x.v, [])
  simpa [compC] using h
end Go.AM
end
/-
  Contracts of functions that return a new list. Own work of this project.
-/
section
namespace Go.AM
open Go

variable {β : Type}
/-- The new list alone, or with one more result. -/
def mkR (e : Option AV) (v : AV) : AV := match e with
  | none => v
  | some e => .tup [v, e]
def conF (D : Cod β) (p : List AV → St → Option (List β × Option AV)) : Con := fun xs s => match p xs s with
  | some (l, e) => some (mkR e (freshV D s l), freshS D s l)
  | none => none
theorem conF_some {D : Cod β} {p : List AV → St → Option (List β × Option AV)} {xs : List AV} {s : St} {r : AV} {s' : St} (h : conF D p xs s = some (r, s')) : ∃ l e, p xs s = some (l, e) ∧ r = mkR e (freshV D s l) ∧ s' = freshS D s l := by
  unfold conF at h
  split at h
  · rename_i l e hp
    injection h with h
    obtain ⟨rfl, rfl⟩ := Prod.mk.inj h
    exact ⟨l, e, hp, rfl, rfl⟩
  · cases h
theorem mkR_ren {f : Nat → Nat} {e : Option AV} (he : ∀ x, e = some x → x.plain = true) (v : AV) : (mkR e v).ren f = mkR e (v.ren f) := by
  cases e with
  | none => rfl
  | some x => simp [mkR, AV.ren, AV.rens, plain_ren f (he x rfl)]
theorem con_fresh {P : Program} {call : Nat → List AV → St → Option (AV × St)} (hS : Sound P call) (hm : P.follows .mixedOrders = true) {g : Nat} {fn : Func} {afn : AFn} (hf : P.funcs[g]? = some fn) (hcal : callable P g = true) (hc : cfn P fn = some afn)
    {D : Cod β} {p : List AV → St → Option (List β × Option AV)} (h : ∀ args s l e, p args s = some (l, e) → (∀ x, e = some x → x.plain = true) ∧ args.length ≤ afn.ntmps ∧ ∀ env : Env, elen env = afn.ntmps → (∀ i v, args[i]? = some v → E env i = v) →
      awp call afn.body (fun x env t => (∀ i, x ≠ .exit i) ∧ Keep s t ∧ ∃ v, aresults env t afn.results = some (mkR e v) ∧ Own D s t v l) env s) : SoundAt P g (conF D p) := by
  refine con_sound hS hm hf hcal hc fun args s r s' hh => ?_
  obtain ⟨l, e, hp, rfl, rfl⟩ := conF_some hh
  obtain ⟨he, hl, k⟩ := h args s l e hp
  refine ⟨gk_fresh D s l, start_env hl fun env h1 h2 => awp_mono _ (fun x env' t q => ?_) (k env h1 h2)⟩
  obtain ⟨q1, q2, v, q3, q4⟩ := q
  obtain ⟨f, _, hf, hv⟩ := emb_fresh q2 q4
  exact ⟨q1, f, by rw [q3, mkR_ren he, hv], hf⟩
/-- What a caller has behind such a call. -/
theorem acall_fresh {D : Cod β} {p : List AV → St → Option (List β × Option AV)} {xs : List AV} {s : St} {l : List β} {e : Option AV} (hp : p xs { heap := s.heap, next := s.next, low := s.next } = some (l, e)) (he : ∀ x, e = some x → x.plain = true) :
    ∃ v t, acall (conF D p) false xs s = some (mkR e v, t) ∧ Keep s t ∧ Own D s t v l := by
  have hg : ∀ v : AV, v.plain = true → (mkR e v).ground = true := by
    intro v hv
    cases e with
    | none =>
      cases v <;> simp_all [mkR, AV.plain, AV.ground]
    | some x =>
      have h1 := he x rfl
      have h2 : ∀ y : AV, y.plain = true → y.plains = true := by intro y hy; cases y <;> simp_all [AV.plain, AV.plains]
      simp [mkR, AV.ground, h2 _ h1, h2 _ hv]
  by_cases hl : l = []
  · subst hl
    refine ⟨.nils, s, ?_, .refl s, .nil _ _ _⟩
    simp [acall, conF, hp, freshV, freshS, hg .nils rfl, St.lowed]
  · have hle : l.isEmpty = false := by simpa using hl
    refine ⟨.sl s.next 0 l.length none D.sz, freshS D s l, ?_, keep_fresh D s l, .inr ⟨s.next, rfl, hl, Nat.le_refl _, ?_⟩⟩
    · have hn : (mkR e (.sl s.next 0 l.length none D.sz)).ground = false := by cases e <;> simp [mkR, AV.ground, AV.plain, AV.plains]
      simp only [acall, conF, hp, freshV, freshS, hle, Bool.false_eq_true, if_false, hn, Bool.false_and]
      simp [St.push, St.lowed]
    · simp only [freshS, hle, Bool.false_eq_true, if_false]
      exact St.get_push_new _ _
/-- Made by a function that was called: still the caller's own, seen from where the caller began. -/
theorem Own.from {D : Cod β} {s0 s t : St} {v : AV} {l : List β} (h : Own D s t v l) (hn : s0.next ≤ s.next) : Own D s0 t v l := by
  rcases h with ⟨rfl, rfl⟩ | ⟨j, rfl, h0, h1, h⟩
  · exact .inl ⟨rfl, rfl⟩
  · exact .inr ⟨j, rfl, h0, by omega, h⟩
def pL {α : Type} (C : Cod α) (f : List α → Option (List β × Option AV)) : List AV → St → Option (List β × Option AV) := fun xs s => match xs with
  | [v] => match read C s v with
    | some l => if l.length ≤ lim then f l else none
    | none => none
  | _ => none
theorem pL_some {α : Type} {C : Cod α} {f : List α → Option (List β × Option AV)} {xs : List AV} {s : St} {r : List β × Option AV} (h : pL C f xs s = some r) : ∃ v l, xs = [v] ∧ read C s v = some l ∧ l.length ≤ lim ∧ f l = some r := by
  unfold pL at h
  split at h
  · split at h
    · split at h
      · rename_i v _ l hr hl
        exact ⟨v, l, rfl, hr, hl, h⟩
      · cases h
    · cases h
  · cases h
theorem fresh_L {α : Type} {C : Cod α} {D : Cod β} {f : List α → Option (List β × Option AV)} {s : St} {v : AV} {l : List α} (h : read C s v = some l) (hl : l.length ≤ lim) {r : List β} {e : Option AV} (hf : f l = some (r, e)) (he : ∀ x, e = some x → x.plain = true) :
    ∃ w t, acall (conF D (pL C f)) false [v] s = some (mkR e w, t) ∧ Keep s t ∧ Own D s t w r :=
  acall_fresh (by simp only [pL, read_low, h, hl, hf, if_true]) he
theorem mkR_none (v : AV) : mkR none v = v := nrfl rfl
theorem mkR_some (e v : AV) : mkR (some e) v = .tup [v, e] := nrfl rfl

/-! ### Appending by value -/
variable {call : Nat → List AV → St → Option (AV × St)} {env : Env} {s t : St}
def appV (s : St) (sz bytes : Nat) (a x : AV) : Option (AV × St) := match shown s sz x, lenOf x with
  | some new, some k => aappend s sz bytes a new k
  | _, _ => none
theorem ae_app (sz b : Nat) (z : List AV) (a x : AO) : aeff call env s (.app sz b z a x) = appV s sz b (aev env a) (aev env x) := nrfl rfl
theorem appV_list {C : Cod β} {t : St} {v x : AV} {l m : List β} (hK : Keep s t) (hO : Own C s t v l) (hr : read C t x = some m) (bytes : Nat) (hb : (l.length + m.length) * bytes ≤ roomBytes) :
    ∃ v' t', appV t C.sz bytes v x = some (v', t') ∧ Keep s t' ∧ Own C s t' v' (l ++ m) := by
  simp only [appV, read_shown hr, read_len hr]
  exact append_own hK hO m bytes hb
/-- One value, laid into a row of its own before. -/
theorem appV_one {C : Cod β} {t : St} {v : AV} {l : List β} (hK : Keep s t) (hO : Own C s t v l) (x : β) (bytes : Nat) (hb : (l.length + 1) * bytes ≤ roomBytes) :
    ∃ v' t', appV (t.push (.row (C.enc x) true)) C.sz bytes v (.sl t.next 0 1 (some 1) C.sz) = some (v', t') ∧ Keep s t' ∧ Own C s t' v' (l ++ [x]) := by
  have hr : read C (t.push (.row (C.enc x) true)) (.sl t.next 0 1 (some 1) C.sz) = some [x] := by
    refine read_of rfl (St.get_push_new _ _) (by simp [C.len]) ?_
    rw [cells_one, List.drop_zero, Nat.one_mul, ← C.len x]
    simp
  exact appV_list (hK.push _) (hO.push _) hr bytes (by simpa using hb)
def slcV (sz : Nat) (x : AV) (lo hi : Option AV) : Option AV := match x with
  | .sl id off len cap z =>
    if z = sz then
      match cap with
      | some c => match optNat hi c len with
          | some h => match optNat lo h 0 with
            | some l => some (.sl id (off + l * sz) (h - l) (some (c - l)) sz)
            | none => none
          | none => none
      | none => match optNat hi len len with
          | some h => match optNat lo h 0 with
            | some l => some (.sl id (off + l * sz) (h - l) none sz)
            | none => none
          | none => none
    else none
  | .nils => match (some 0 : Option Nat), optNat hi 0 0, optNat lo 0 0 with
      | some _, some _, some _ => some .nils
      | _, _, _ => none
  | _ => none
theorem ap_slc (sz : Nat) (x : AO) (lo hi : Option AO) : apure env (.slc sz x lo hi none) = slcV sz (aev env x) (lo.map (aev env)) (hi.map (aev env)) := by
  simp only [apure, slcV]
  cases hx : aev env x with
  | sl id off len cap z =>
    cases cap <;> simp [optNat] <;> rfl
  | nils =>
    simp only [optNat, Option.map_none, Option.isSome_none, Bool.false_and, Bool.false_eq_true, if_false]
    rfl
  | _ => rfl
theorem asNatIn_nat {k : IntKind} {i : Int} {n m : Nat} (hi : i = (n : Int)) (h : n ≤ m) : asNatIn (.int k i) m = some n := by
  subst hi
  simp [asNatIn, h]
theorem slc_lo {C : Cod β} {s : St} {v : AV} {l : List β} (hr : read C s v = some l) {k : IntKind} {i : Int} {n : Nat} (hi : i = (n : Int)) (hn : n ≤ l.length) :
    ∃ v', slcV C.sz v (some (.int k i)) none = some v' ∧ ∀ t, Keep s t → read C t v' = some (l.drop n) := by
  cases v with
  | nils =>
    simp [read] at hr
    subst hr
    have : n = 0 := by simpa using hn
    subst this
    exact ⟨.nils, by simp [slcV, optNat, asNatIn, hi], fun t _ => by simp [read]⟩
  | sl id off len cap z =>
    obtain ⟨rfl, rfl, _⟩ := read_sl hr
    cases cap with
    | none => exact ⟨.sl id (off + n * C.sz) (l.length - n) none C.sz, by simp [slcV, optNat, asNatIn_nat hi hn], fun t hK => read_drop (hK.read hr) n rfl hn⟩
    | some c =>
      by_cases hc : n ≤ c ∧ l.length ≤ c
      · refine ⟨.sl id (off + n * C.sz) (l.length - n) (some (c - n)) C.sz, ?_, fun t hK => read_drop (hK.read hr) n rfl hn⟩
        simp only [slcV, if_true, optNat, asNatIn_nat hi hn]
      · refine ⟨.sl id (off + n * C.sz) (l.length - n) (some (c - n)) C.sz, ?_, fun t hK => read_drop (hK.read hr) n rfl hn⟩
        simp only [slcV, if_true, optNat, asNatIn_nat hi hn]
  | _ => simp [read] at hr
theorem slc_hi {C : Cod β} {s : St} {v : AV} {l : List β} (hr : read C s v = some l) (hcap : ∀ id off n c z, v = .sl id off n (some c) z → n ≤ c) {k : IntKind} {i : Int} {n : Nat} (hi : i = (n : Int)) (hn : n ≤ l.length) :
    ∃ v', slcV C.sz v none (some (.int k i)) = some v' ∧ ∀ t, Keep s t → read C t v' = some (l.take n) := by
  cases v with
  | nils =>
    simp [read] at hr
    subst hr
    have : n = 0 := by simpa using hn
    subst this
    exact ⟨.nils, by simp [slcV, optNat, asNatIn, hi], fun t _ => by simp [read]⟩
  | sl id off len cap z =>
    obtain ⟨rfl, rfl, _⟩ := read_sl hr
    cases cap with
    | none =>
      refine ⟨.sl id off n none C.sz, ?_, fun t hK => read_take (hK.read hr) n hn⟩
      simp [slcV, optNat, asNatIn_nat hi hn]
    | some c =>
      have := hcap _ _ _ _ _ rfl
      refine ⟨.sl id off n (some c) C.sz, ?_, fun t hK => read_take (hK.read hr) n hn⟩
      simp [slcV, optNat, asNatIn_nat hi (show n ≤ c by omega)]
  | _ => simp [read] at hr
end Go.AM
end
/-
  A function's own code as its contract (run with as much fuel as it takes); what a call that changes memory leaves. Own work of this project.
-/
section
namespace Go.AM
open Go

variable {call : Nat → List AV → St → Option (AV × St)}

/-! ### More fuel changes nothing -/
theorem aexec_mono : ∀ {n m : Nat} {c : AC} {env : Env} {s : St} {r : AEx × Env × St}, n ≤ m → aexec call n c env s = some r → aexec call m c env s = some r
  | 0, _, _, _, _, _, _, h => by simp [aexec] at h
  | n + 1, 0, _, _, _, _, hm, _ => by omega
  | n + 1, m + 1, c, env, s, r, hm, h => by
    have hm' : n ≤ m := by omega
    cases c with
    | skip => exact h
    | exit i => exact h
    | ret => exact h
    | bad => exact h
    | reg os => exact h
    | regd k os => exact h
    | seq a b =>
      simp only [aexec] at h ⊢
      cases ha : aexec call n a env s with
      | none => rw [ha] at h; cases h
      | some r1 =>
        rw [ha] at h
        rw [aexec_mono hm' ha]
        obtain ⟨x, e1, s1⟩ := r1
        cases x with
        | nor => exact aexec_mono hm' h
        | exit i => exact h
        | ret => exact h
    | cond c a b =>
      simp only [aexec] at h ⊢
      split at h
      · exact aexec_mono hm' h
      · exact aexec_mono hm' h
      · cases h
    | block id c =>
      simp only [aexec] at h ⊢
      cases ha : aexec call n c env s with
      | none => rw [ha] at h; cases h
      | some r1 =>
        rw [ha] at h
        rw [aexec_mono hm' ha]
        exact h
    | loop c =>
      simp only [aexec] at h ⊢
      cases ha : aexec call n c env s with
      | none => rw [ha] at h; cases h
      | some r1 =>
        rw [ha] at h
        rw [aexec_mono hm' ha]
        obtain ⟨x, e1, s1⟩ := r1
        cases x with
        | nor => exact aexec_mono hm' h
        | exit i => exact h
        | ret => exact h
/-- No range over a map in it. -/
def noNxtC : AC → Bool
  | .reg os | .regd _ os => noNxt os
  | .seq a b | .cond _ a b => noNxtC a && noNxtC b
  | .block _ c | .loop c => noNxtC c
  | _ => true
theorem awp_exec : ∀ (c : AC) {Q : AEx → Env → St → Prop} {env : Env} {s : St}, noNxtC c = true → awp call c Q env s → ∃ n x e t, aexec call n c env s = some (x, e, t) ∧ Q x e t
  | .skip, _, _, _, _, k => ⟨1, _, _, _, rfl, k⟩
  | .exit _, _, _, _, _, k => ⟨1, _, _, _, rfl, k⟩
  | .ret, _, _, _, _, k => ⟨1, _, _, _, rfl, k⟩
  | .bad, _, _, _, _, k => k.elim
  | .reg os, _, env, s, hn, k => by
    obtain ⟨e, t, h1, h2⟩ := awops_some os env s hn k
    exact ⟨1, _, _, _, by simp only [aexec, h1], h2⟩
  | .regd _ os, _, _, _, _, k => by
    obtain ⟨e, t, h1, h2⟩ := k
    exact ⟨1, _, _, _, by simp only [aexec, h1], h2⟩
  | .seq a b, Q, env, s, hn, k => by
    simp only [noNxtC, Bool.and_eq_true] at hn
    obtain ⟨n, x, e, t, h1, h2⟩ := awp_exec a hn.1 k
    cases x with
    | nor =>
      obtain ⟨m, x', e', t', h3, h4⟩ := awp_exec b hn.2 h2
      refine ⟨max n m + 1, x', e', t', ?_, h4⟩
      simp only [aexec]
      rw [aexec_mono (Nat.le_max_left n m) h1]
      exact aexec_mono (Nat.le_max_right n m) h3
    | exit i => exact ⟨n + 1, _, _, _, by simp only [aexec, h1], h2⟩
    | ret => exact ⟨n + 1, _, _, _, by simp only [aexec, h1], h2⟩
  | .cond c a b, Q, env, s, hn, k => by
    simp only [noNxtC, Bool.and_eq_true] at hn
    simp only [awp] at k
    split at k
    · rename_i hc
      obtain ⟨n, x, e, t, h1, h2⟩ := awp_exec a hn.1 k
      exact ⟨n + 1, x, e, t, by simp only [aexec, hc, h1], h2⟩
    · rename_i hc
      obtain ⟨n, x, e, t, h1, h2⟩ := awp_exec b hn.2 k
      exact ⟨n + 1, x, e, t, by simp only [aexec, hc, h1], h2⟩
    · exact k.elim
  | .block id c, Q, env, s, hn, k => by
    obtain ⟨n, x, e, t, h1, h2⟩ := awp_exec c hn k
    cases x with
    | nor => exact ⟨n + 1, _, _, _, by simp only [aexec, h1], h2⟩
    | exit i =>
      simp only at h2
      split at h2
      · rename_i hi
        exact ⟨n + 1, _, _, _, by simp only [aexec, h1, if_pos hi], h2⟩
      · rename_i hi
        exact ⟨n + 1, _, _, _, by simp only [aexec, h1, if_neg hi], h2⟩
    | ret => exact ⟨n + 1, _, _, _, by simp only [aexec, h1], h2⟩
  | .loop c, Q, env, s, hn, k => by
    obtain ⟨r, k⟩ := k
    revert env s k
    induction r with
    | zero => exact fun env s k => k.elim
    | succ r ih =>
      intro env s k
      simp only [arounds] at k
      obtain ⟨n, x, e, t, h1, h2⟩ := awp_exec c hn k
      cases x with
      | nor =>
        obtain ⟨m, x', e', t', h3, h4⟩ := ih _ _ h2
        refine ⟨max n m + 1, x', e', t', ?_, h4⟩
        simp only [aexec]
        rw [aexec_mono (Nat.le_max_left n m) h1]
        exact aexec_mono (Nat.le_max_right n m) h3
      | exit i => exact ⟨n + 1, _, _, _, by simp only [aexec, h1], h2⟩
      | ret => exact ⟨n + 1, _, _, _, by simp only [aexec, h1], h2⟩

/-! ### The code as a contract -/
open Classical in
noncomputable def runFn (call : Nat → List AV → St → Option (AV × St)) (fn : AFn) : Con := fun args s =>
  if h : ∃ n r, acallFn call n fn args s = some r then some (Classical.choose (Classical.choose_spec h)) else none
theorem run_sound {P : Program} (hS : Sound P call) (hm : P.follows .mixedOrders = true) {f : Nat} {fn : Func} {afn : AFn} (hf : P.funcs[f]? = some fn) (hcal : callable P f = true) (hc : cfn P fn = some afn) : SoundAt P f (runFn call afn) := by
  intro args s r s' h
  unfold runFn at h
  split at h
  · rename_i hx
    injection h with h
    have := Classical.choose_spec (Classical.choose_spec hx)
    rw [h] at this
    exact fn_sound hS hm hf hcal hc _ args s r s' this
  · cases h
theorem acallFn_mono {fn : AFn} {n m : Nat} (h : n ≤ m) {args : List AV} {s : St} {r : AV × St} (k : acallFn call n fn args s = some r) : acallFn call m fn args s = some r := by
  unfold acallFn at k ⊢
  cases ha : aexec call n fn.body (args ++ List.replicate (fn.ntmps - args.length) .und) s with
  | none => rw [ha] at k; cases k
  | some q =>
    rw [ha] at k
    rw [aexec_mono h ha]
    exact k
theorem run_of {fn : AFn} {n : Nat} {args : List AV} {s : St} {r : AV × St} (k : acallFn call n fn args s = some r) : runFn call fn args s = some r := by
  have hx : ∃ n r, acallFn call n fn args s = some r := ⟨n, r, k⟩
  unfold runFn
  rw [dif_pos hx]
  have := Classical.choose_spec (Classical.choose_spec hx)
  have h1 := acallFn_mono (Nat.le_max_left n (Classical.choose hx)) k
  have h2 := acallFn_mono (Nat.le_max_right n (Classical.choose hx)) this
  rw [h1] at h2
  exact h2.symm ▸ rfl
theorem run_awp {fn : AFn} (hn : noNxtC fn.body = true) {args : List AV} (hl : args.length ≤ fn.ntmps) {s : St} {Q : AV → St → Prop}
    (h : ∀ env : Env, elen env = fn.ntmps → (∀ i v, args[i]? = some v → E env i = v) → awp call fn.body (fun x e t => (∀ i, x ≠ .exit i) ∧ ∃ r, aresults e t fn.results = some r ∧ Q r t) env s) :
    ∃ r t, runFn call fn args s = some (r, t) ∧ Q r t := by
  have h := start_env hl h
  obtain ⟨n, x, e, t, h1, hx, r, h2, h3⟩ := awp_exec fn.body hn h
  refine ⟨r, t, run_of (n := n) ?_, h3⟩
  unfold acallFn
  rw [h1]
  cases x with
  | nor => simp only [h2, Option.map_some]
  | exit i => exact absurd rfl (hx i)
  | ret => simp only [h2, Option.map_some]

/-! ### What a call changes -/
/-- Only the blocks of M, and what is new. -/
structure Chg (M : List Nat) (s t : St) : Prop where
  next : s.next ≤ t.next
  get : ∀ id, id < s.next → id ∉ M → t.get id = s.get id
  low : ∀ k, k ≤ s.low → k ≤ s.next → (∀ id ∈ M, k ≤ id) → k ≤ t.low
theorem Chg.refl (M : List Nat) (s : St) : Chg M s s := ⟨Nat.le_refl _, fun _ _ _ => rfl, fun _ h _ _ => h⟩
theorem Keep.chg {s t : St} (h : Keep s t) (M : List Nat) : Chg M s t := ⟨h.next, fun id h1 _ => h.get id h1, fun k h1 h2 _ => by have := h.low; omega⟩
theorem Chg.keep {s t : St} (h : Chg [] s t) : Keep s t := ⟨h.next, fun id h1 => h.get id h1 (by simp), h.low _ (Nat.min_le_left _ _) (Nat.min_le_right _ _) (by simp)⟩
theorem Chg.trans {M M' : List Nat} {a b c : St} (h : Chg M a b) (k : Chg M' b c) (hM : ∀ id ∈ M', id ∈ M ∨ a.next ≤ id) : Chg M a c := by
  refine ⟨Nat.le_trans h.next k.next, fun id h1 h2 => ?_, fun n h1 h2 h3 => ?_⟩
  · rw [k.get id (Nat.lt_of_lt_of_le h1 h.next) fun hm => ?_, h.get id h1 h2]
    rcases hM id hm with q | q
    · exact h2 q
    · omega
  · refine k.low n (h.low n h1 h2 h3) (Nat.le_trans h2 h.next) fun id hid => ?_
    rcases hM id hid with q | q
    · exact h3 id q
    · omega
theorem Chg.mono {M M' : List Nat} {s t : St} (h : Chg M s t) (hM : ∀ id ∈ M, id ∈ M') : Chg M' s t :=
  ⟨h.next, fun id h1 h2 => h.get id h1 fun q => h2 (hM id q), fun k h1 h2 h3 => h.low k h1 h2 fun id q => h3 id (hM id q)⟩
theorem Chg.push {M : List Nat} {s t : St} (h : Chg M s t) (b : AB) : Chg M s (t.push b) :=
  h.trans (M' := []) (((Keep.refl t).push b).chg []) (by simp)
theorem Chg.put {M : List Nat} {s t : St} (h : Chg M s t) {id : Nat} (b : AB) (hid : id ∈ M ∨ s.next ≤ id) (hlt : id < t.next) : Chg M s (t.put id b) := by
  refine ⟨by simpa using h.next, fun j h1 h2 => ?_, fun k h1 h2 h3 => ?_⟩
  · rw [St.get_put_ne _ _ hlt fun e => ?_, h.get j h1 h2]
    subst e
    rcases hid with q | q
    · exact h2 q
    · omega
  · have := h.low k h1 h2 h3
    have : k ≤ id := by
      rcases hid with q | q
      · exact h3 id q
      · omega
    simp
    omega
/-- What was made in the meantime may be changed. -/
theorem Chg.new {M M' : List Nat} {a s t : St} (h : Chg M a s) (k : Chg M' s t) (hM : ∀ id ∈ M', a.next ≤ id ∨ id ∈ M) : Chg M a t := h.trans k fun id q => (hM id q).symm
theorem Keep.chgn {M' : List Nat} {a s t : St} (h : Keep a s) (k : Chg M' s t) (hM : ∀ id ∈ M', a.next ≤ id) : Keep a t :=
  ((h.chg []).trans k fun id q => .inr (hM id q)).keep
theorem Chg.blk {M : List Nat} {s t : St} (h : Chg M s t) {id : Nat} {b : AB} (hb : s.get id = some b) (hm : id ∉ M) : t.get id = some b := by rw [h.get id (St.get_lt hb) hm, hb]
@[reducible] def lowd (s : St) : St := { heap := s.heap, next := s.next, low := s.next }
/-- The call answers what names no block, and has changed nothing. -/
theorem acall_same {c : Con} {cl : Bool} {args : List AV} {s t : St} {r : AV} (h : c args (lowd s) = some (r, t)) (hk : Keep (lowd s) t) (hg : r.ground = true) : acall c cl args s = some (r, s) := by
  have hl := hk.low
  have hl : s.next ≤ t.low := by
    have : min s.next s.next ≤ t.low := hl
    omega
  simp only [acall]
  rw [show ({ heap := s.heap, next := s.next, low := s.next } : St) = lowd s from rfl, h]
  simp [hg, hl]
theorem acall_new {c : Con} {args : List AV} {M : List Nat} {s t : St} {r : AV} (h : c args (lowd s) = some (r, t)) (hk : Chg M (lowd s) t) (hng : r.ground = false ∨ t.low < s.next) :
    ∃ t', acall c false args s = some (r, t') ∧ (∀ id, t'.get id = t.get id) ∧ t'.next = t.next ∧ Chg M s t' := by
  refine ⟨{ heap := t.heap, next := t.next, low := min s.low t.low }, ?_, fun _ => rfl, rfl, hk.next, hk.get, fun k h1 h2 h3 => ?_⟩
  · simp only [acall]
    rw [show ({ heap := s.heap, next := s.next, low := s.next } : St) = lowd s from rfl, h]
    simp only
    rw [if_neg]
    · simp
    · simp only [Bool.and_eq_true, decide_eq_true_eq]
      rintro ⟨h1, h2⟩
      rcases hng with q | q
      · rw [h1] at q; cases q
      · omega
  · have := hk.low k h2 h2 h3
    show k ≤ min s.low t.low
    omega
theorem run_same {fn : AFn} (hn : noNxtC fn.body = true) {args : List AV} (hl : args.length ≤ fn.ntmps) {cl : Bool} {s : St} {r : AV} (hg : r.ground = true)
    (h : ∀ env : Env, elen env = fn.ntmps → (∀ i v, args[i]? = some v → E env i = v) → awp call fn.body (fun x e t => (∀ i, x ≠ .exit i) ∧ aresults e t fn.results = some r ∧ Keep (lowd s) t) env (lowd s)) :
    acall (runFn call fn) cl args s = some (r, s) := by
  obtain ⟨r', t, h1, h2, h3⟩ := run_awp hn hl (Q := fun r' t => r' = r ∧ Keep (lowd s) t) fun env h1 h2 => awp_mono _ (fun x e t q => ⟨q.1, r, q.2.1, rfl, q.2.2⟩) (h env h1 h2)
  subst h2
  exact acall_same h1 h3 hg
theorem acall_newl {c : Con} {args : List AV} {M : List Nat} {s t : St} {r : AV} (h : c args (lowd s) = some (r, t)) (hk : Chg M (lowd s) t) (hng : r.ground = false ∨ t.low < s.next) :
    ∃ t', acall c false args s = some (r, t') ∧ (∀ id, t'.get id = t.get id) ∧ t'.next = t.next ∧ Chg M s t' ∧ (r.ground = false ∨ t'.low < s.next) := by
  refine ⟨{ heap := t.heap, next := t.next, low := min s.low t.low }, ?_, fun _ => rfl, rfl, ⟨hk.next, hk.get, fun k h1 h2 h3 => ?_⟩, hng.imp id fun h => Nat.lt_of_le_of_lt (Nat.min_le_right _ _) h⟩
  · simp only [acall]
    rw [show ({ heap := s.heap, next := s.next, low := s.next } : St) = lowd s from rfl, h]
    simp only
    rw [if_neg]
    · simp
    · simp only [Bool.and_eq_true, decide_eq_true_eq]
      rintro ⟨h1, h2⟩
      rcases hng with q | q
      · rw [h1] at q; cases q
      · omega
  · have := hk.low k h2 h2 h3
    show k ≤ min s.low t.low
    omega
theorem run_fresh {β : Type} {D : Cod β} {fn : AFn} (hn : noNxtC fn.body = true) {args : List AV} (hl : args.length ≤ fn.ntmps) {s : St} {l : List β} (mk : AV → AV) (hmk : ∀ j off n cap z, (mk (.sl j off n cap z)).ground = false)
    (h : ∀ env : Env, elen env = fn.ntmps → (∀ i v, args[i]? = some v → E env i = v) → awp call fn.body (fun x e t => (∀ i, x ≠ .exit i) ∧ Keep (lowd s) t ∧ ∃ v, aresults e t fn.results = some (mk v) ∧ Own D (lowd s) t v l) env (lowd s)) :
    ∃ v t, acall (runFn call fn) false args s = some (mk v, t) ∧ Own D s t v l ∧ Keep s t := by
  obtain ⟨r, t, h1, h2, v, rfl, h3⟩ := run_awp hn hl (Q := fun r t => Keep (lowd s) t ∧ ∃ v, r = mk v ∧ Own D (lowd s) t v l) fun env h1 h2 => awp_mono _ (fun x e t q => by
    obtain ⟨q1, q2, v, q3, q4⟩ := q
    exact ⟨q1, mk v, q3, q2, v, rfl, q4⟩) (h env h1 h2)
  have hnew : (mk v).ground = false → ∃ v t, acall (runFn call fn) false args s = some (mk v, t) ∧ Own D s t v l ∧ Keep s t := by
    intro hg
    obtain ⟨t', g1, g2, g3, g4⟩ := acall_new h1 (h2.chg []) (.inl hg)
    exact ⟨v, t', g1, h3.mono fun id b hb => by rw [g2]; exact hb, g4.keep⟩
  rcases h3 with ⟨rfl, rfl⟩ | ⟨j, rfl, h4⟩
  · by_cases hg : (mk .nils).ground = true
    · exact ⟨.nils, s, acall_same h1 h2 hg, .nil _ _ _, .refl s⟩
    · exact hnew (by simpa using hg)
  · exact hnew (hmk _ _ _ _ _)
/-! ### A call that answers with new memory, in a region that draws its order -/
def acallF (c : Con) (args : List AV) (s : St) : Option (AV × St) := match acall c false args (lowd s) with
  | some (v, t) => if s.next ≤ t.low then some (v, { heap := t.heap, next := t.next, low := min s.low t.low }) else none
  | none => none
variable {base : Nat} {d : Option Nat} {r : Option Nat} {rest : List AOper} {Q : Env → St → Prop} {env : Env} {s : St}
theorem st_callf (f : Nat) (l : List AO) : awops call base (⟨d, .call f false l, none, r, true⟩ :: rest) Q env s = estep (acallF (call f) (l.map (aev env)) s) fun v t => awops call base rest Q (pE env d v) t := by
  rw [st_efff (op := .call f false l) (by simp) rfl rfl rfl]
  simp only [aeff, acallF, AOp.floor, AOp.isStore, Bool.false_eq_true, if_false]
  cases acall (call f) false (l.map (aev env)) (lowd s) with
  | none => rfl
  | some q =>
    obtain ⟨v, t⟩ := q
    simp only [estep]
    by_cases h : s.next ≤ t.low
    · rw [if_pos h, if_pos h]
    · rw [if_neg h, if_neg h]
theorem acallF_keep {c : Con} {args : List AV} {s t : St} {v : AV} (h : acall c false args (lowd s) = some (v, t)) (hk : Keep (lowd s) t) : ∃ t', acallF c args s = some (v, t') ∧ (∀ id, t'.get id = t.get id) ∧ t'.next = t.next ∧ Keep s t' := by
  have hl : s.next ≤ t.low := by
    have := hk.low
    have : min s.next s.next ≤ t.low := this
    omega
  refine ⟨{ heap := t.heap, next := t.next, low := min s.low t.low }, ?_, fun _ => rfl, rfl, hk.next, hk.get, ?_⟩
  · simp only [acallF, h, if_pos hl]
  · show min s.low s.next ≤ min s.low t.low
    omega
end Go.AM
end
/-
  What all chapters need: conditions, slices made ready, pointers, maps by value, numbers. Own work of this project.
-/
section
set_option maxRecDepth 100000
namespace Go.AM
open Go Go.Proofs

variable {call : Nat → List AV → St → Option (AV × St)} {env : Env} {s t u : St}
theorem cs_dec (p : Prop) [Decidable p] (A B : Prop) : cstep (.bool (decide p)) A B = ((p → A) ∧ (¬ p → B)) := by by_cases h : p <;> simp [cstep, h]
theorem cs_not (b : Bool) (A B : Prop) : cstep (.bool (!b)) A B = cstep (.bool b) B A := by cases b <;> rfl
theorem cs_and (a b : Bool) (A B : Prop) : cstep (.bool (a && b)) A B = ((a = true ∧ b = true → A) ∧ ((a && b) = false → B)) := by cases a <;> cases b <;> simp [cstep]
theorem cs_or (a b : Bool) (A B : Prop) : cstep (.bool (a || b)) A B = (((a || b) = true → A) ∧ (a = false ∧ b = false → B)) := by cases a <;> cases b <;> simp [cstep]
theorem cs_true (A B : Prop) : cstep (.bool (decide True)) A B = A := by simp [cstep]
theorem cs_false (A B : Prop) : cstep (.bool (decide False)) A B = B := by simp [cstep]
theorem take_snoc {α : Type} {l : List α} {i : Nat} {x : α} (h : l[i]? = some x) : l.take (i + 1) = l.take i ++ [x] := by
  rw [List.take_add_one, h]
  rfl
def lookV (s : St) (z : AV) (k : EK) (ok : Bool) (m i : AV) : Option AV :=
  if i.key k then
    match m with
    | .nilm => some (if ok then .tup [z, .bool false] else z)
    | .mp id => match s.get id with
      | some (.map es _) => match findE k i es 0 with
        | some (some (_, v)) => some (if ok then .tup [v, .bool true] else v)
        | some none => some (if ok then .tup [z, .bool false] else z)
        | none => none
      | _ => none
    | _ => none
  else none
theorem ar_look (z : AV) (k : EK) (ok : Bool) (m i : AO) : aread call env s (.look z k ok m i) = lookV s z k ok (aev env m) (aev env i) := nrfl rfl
def msetV (s : St) (k : EK) (m i x : AV) : Option (AV × St) :=
  if i.key k && x.whole then
    match m with
    | .mp id => match s.get id with
      | some (.map es ck) => match findE k i es 0 with
        | some (some (j, _)) => match es[j]? with
          | some (_, _, b) => some (.und, s.put id (.map (es.set j (i, x, b)) ck))
          | none => none
        | some none => some (.und, s.put id (.map (es ++ [(i, x, ck)]) (ck + 1)))
        | none => none
      | _ => none
    | _ => none
  else none
theorem ae_mset (k : EK) (m i x : AO) : aeff call env s (.mset k m i x) = msetV s k (aev env m) (aev env i) (aev env x) := nrfl rfl
def rngV (s : St) : AV → Option (AV × St)
  | .nilm => some (.ptr s.next 0, s.push (.iter none 0 [] 0))
  | .mp id => match s.get id with
    | some (.map _ ck) => some (.ptr s.next 0, s.push (.iter (some id) ck [] ck))
    | _ => none
  | _ => none
theorem ae_rng (x : AO) : aeff call env s (.rng x) = rngV s (aev env x) := nrfl rfl
theorem ae_mkmap0 : aeff call env s (.mkmap none) = some (.mp s.next, s.push (.map [] 0)) := nrfl rfl
def entV (s : St) : AV → Option AV
  | .ptr id 0 => match s.get id with
    | some (.iter (some m) _ seen last) => match seen.getLast?, s.get m with
      | some stamp, some (.map es ck) => if ck = last then (es.find? fun e => e.2.2 == stamp).map fun e => .tup [e.1, e.2.1] else none
      | _, _ => none
    | _ => none
  | _ => none
theorem ar_ent (x : AO) : aread call env s (.ent x) = entV s (aev env x) := nrfl (by
  simp only [aread, entV]
  cases aev env x <;> rfl)
theorem lookV_push {id : Nat} (h : ltN id s) (b : AB) (z : AV) (k : EK) (ok : Bool) (i : AV) : lookV (s.push b) z k ok (.mp id) i = lookV s z k ok (.mp id) i := by
  simp only [lookV, St.get_push_old _ _ h]
theorem lookV_lowed (z : AV) (k : EK) (ok : Bool) (m i : AV) : lookV s.lowed z k ok m i = lookV s z k ok m i := by cases m <;> rfl
theorem put_push_lt {id : Nat} (h : ltN id s) (b c : AB) : (s.push b).put id c = (s.put id c).push b := by
  unfold ltN at h
  have : s.next + 1 - 1 - id = s.next - 1 - id + 1 := by omega
  simp only [St.push, St.put, this, List.set_cons_succ]
theorem msetV_push {id : Nat} (h : ltN id s) (b : AB) (k : EK) (i x : AV) : msetV (s.push b) k (.mp id) i x = (msetV s k (.mp id) i x).map fun r => (r.1, r.2.push b) := by
  simp only [msetV, St.get_push_old _ _ h, put_push_lt h]
  repeat' split
  all_goals rfl
theorem put_lowed (id : Nat) (c : AB) : s.lowed.put id c = (s.put id c).lowed := by
  simp only [St.put, St.lowed]
  congr 1
  omega
theorem msetV_lowed (k : EK) (m i x : AV) : msetV s.lowed k m i x = (msetV s k m i x).map fun r => (r.1, r.2.lowed) := by
  simp only [msetV, lowed_get, put_lowed]
  repeat' split
  all_goals rfl
theorem cs_dead (p : Prop) [Decidable p] (A B : Prop) : cstep (.bool (!decide p)) A B = cstep (.bool (decide p)) B A := cs_not _ _ _
theorem lt_put {n id : Nat} {t : St} (h : ltN n t) (c : AB) : ltN n (t.put id c) = True := eq_true h
theorem same_put {n id : Nat} {t : St} (h : sameN n t) (c : AB) : sameN n (t.put id c) = True := eq_true h
theorem sto_lowed (n : Nat) (a x : AV) : sto s.lowed n a x = (sto s n a x).map fun r => (r.1, r.2.lowed) := by
  simp only [sto, lowed_get, put_lowed]
  repeat' split
  all_goals rfl
theorem aappend_frame {t t' : St} {sz bytes k : Nat} {v v' : AV} {new : List AV} (h : aappend t sz bytes v new k = some (v', t')) {id : Nat} {b : AB} (hne : ∀ o n c z, v ≠ .sl id o n c z) (hg : t.get id = some b) : t'.get id = some b := by
  unfold aappend at h
  split at h
  · split at h
    · injection h with h; obtain ⟨_, rfl⟩ := Prod.mk.inj h; exact hg
    · split at h
      · injection h with h; obtain ⟨_, rfl⟩ := Prod.mk.inj h; exact get_push_some _ hg
      · cases h
  · rename_i id' off len cap z
    have hid : id ≠ id' := fun e => hne off len cap z (by rw [e])
    split at h
    · split at h
      · rename_i cs own hg'
        have hlt := St.get_lt hg'
        split at h
        · injection h with h; obtain ⟨_, rfl⟩ := Prod.mk.inj h; exact hg
        · split at h
          · split at h
            · split at h
              · split at h
                · injection h with h; obtain ⟨_, rfl⟩ := Prod.mk.inj h
                  rw [St.get_put_ne _ _ hlt hid]; exact hg
                · cases h
              · injection h with h; obtain ⟨_, rfl⟩ := Prod.mk.inj h; exact get_push_some _ hg
            · split at h
              · injection h with h; obtain ⟨_, rfl⟩ := Prod.mk.inj h
                refine get_push_some _ ?_
                rw [St.get_put_ne _ _ hlt hid]; exact hg
              · cases h
          · cases h
      · cases h
    · cases h
  · cases h
theorem appV_frame {t t' : St} {sz bytes : Nat} {v v' x : AV} (h : appV t sz bytes v x = some (v', t')) {id : Nat} {b : AB} (hne : ∀ o n c z, v ≠ .sl id o n c z) (hg : t.get id = some b) : t'.get id = some b := by
  unfold appV at h
  split at h
  · exact aappend_frame h hne hg
  · cases h
theorem pigeon : ∀ (n : Nat) (l : List Nat), l.Nodup → (∀ x ∈ l, x < n) → l.length ≤ n
  | 0, l, _, h => by
    cases l with
    | nil => simp
    | cons x r => exact absurd (h x (by simp)) (by omega)
  | n + 1, l, hd, h => by
    by_cases hn : n ∈ l
    · have := pigeon n (l.erase n) (hd.erase n) fun x hx => by
        have := (hd.mem_erase_iff.1 hx)
        have := h x this.2
        omega
      rw [List.length_erase_of_mem hn] at this
      omega
    · have := pigeon n l hd fun x hx => by
        have := h x hx
        have : x ≠ n := fun e => hn (e ▸ hx)
        omega
      omega
theorem room_left {seen : List Nat} {n i : Nat} (hd : seen.Nodup) (hl : ∀ x ∈ seen, x < n) (hi : i < n) (hn : i ∉ seen) : seen.length < n := by
  have := pigeon n (i :: seen) (List.nodup_cons.2 ⟨hn, hd⟩) fun x hx => by
    rcases List.mem_cons.1 hx with rfl | hx
    · exact hi
    · exact hl x hx
  simp at this
  omega
def bslV (z : List AV) (len sz : Nat) (ps : List (Nat × AV)) : Option ((Nat → AV) × AB) := (fillP [] z (ps.map fun p => (p.1 * sz, sz, .c p.2))).map fun cs => (fun id => .sl id 0 len (some len) sz, .row cs true)
theorem fillP_aev (env : Env) : ∀ (ps : List (Nat × Nat × AO)) (z : List AV), fillP env z ps = fillP [] z (ps.map fun p => (p.1, p.2.1, .c (aev env p.2.2)))
  | [], z => rfl
  | (a, b, x) :: r, z => by
    simp only [fillP, List.map_cons]
    show (if _ then _ else _) = (if _ then _ else _)
    rw [fillP_aev env r]
    rfl
theorem aa_bsl {env : Env} (z : List AV) (len sz : Nat) (ps : List (Nat × AO)) : aalloc env (.bsl z len sz ps) = bslV z len sz (ps.map fun p => (p.1, aev env p.2)) := by
  simp only [aalloc, bslV]
  rw [fillP_aev]
  simp only [List.map_map, Function.comp_def]
theorem sg_bsl {call : Nat → List AV → St → Option (AV × St)} {base : Nat} {d : Option Nat} {r : Option Nat} {fr : Bool} {rest : List AOper} {Q : Env → St → Prop} {env : Env} (z : List AV) (l n : Nat) (ps : List (Nat × AO)) (t : Nat) (w : Bool) :
    awops call base (⟨d, .bsl z l n ps, some (t, w), r, fr⟩ :: rest) Q env s = gstep (E env t) w (awops call base (⟨d, .bsl z l n ps, none, r, fr⟩ :: rest) Q env s) (awops call base rest Q (pE env d .und) s) := st_guard _ _ _
def nchkV : AV → Option AV
  | .ptr id o => some (.ptr id o)
  | _ => none
theorem ap_nchk (x : AO) : apure env (.nchk x) = nchkV (aev env x) := by
  simp only [apure, nchkV]
  generalize aev env x = v
  cases v <;> rfl
theorem nchkV_ptr (id o : Nat) : nchkV (.ptr id o) = some (.ptr id o) := nrfl rfl
theorem bin_np (id o : Nat) : binOp .eql .np (.ptr id o) .nilp = some (.bool false) := nrfl rfl
theorem bin_npn : binOp .eql .np .nilp .nilp = some (.bool true) := nrfl rfl
theorem bin_npx (id o : Nat) : binOp .neq .np (.ptr id o) .nilp = some (.bool true) := nrfl rfl
theorem bin_npnx : binOp .neq .np .nilp .nilp = some (.bool false) := nrfl rfl
def mmV (big : Bool) : List AV → Option AV
  | v :: r => mmL big v r
  | [] => none
theorem ap_mm (big : Bool) (xs : List AO) : apure env (.mm big xs) = mmV big (xs.map (aev env)) := by
  simp only [apure, mmV]
  cases xs.map (aev env) <;> rfl
theorem mmV_max (k : IntKind) (a b : Int) : mmV true [.int k a, .int k b] = some (.int k (max a b)) := by
  simp only [mmV, mmL, if_true]
  congr 2
  split <;> omega
theorem mmV_min (k : IntKind) (a b : Int) : mmV false [.int k a, .int k b] = some (.int k (min a b)) := by
  simp only [mmV, mmL, if_true, Bool.false_eq_true, if_false]
  congr 2
  split <;> omega
theorem res3 (env : Env) (s : St) (a b c : Nat) : aresults env s [.t a, .t b, .t c] = some (.tup [E env a, E env b, E env c]) := by
  unfold E
  rfl
theorem row2_lod {id : Nat} {a b : AV} {own : Bool} (h : t.get id = some (.row [a, b] own)) : lod1 t (.ptr id 0) = some a ∧ lod1 t (.ptr id 1) = some b ∧ ltN id t := by
  refine ⟨?_, ?_, St.get_lt h⟩ <;> simp [lod1, h]
theorem row2_sto {id : Nat} {a b : AV} (h : t.get id = some (.row [a, b] true)) {x : AV} (hc : x.cells = [x]) (ho : x.one = true) : sto t 1 (.ptr id 0) x = some (.und, t.put id (.row [x, b] true)) ∧ sto t 1 (.ptr id 1) x = some (.und, t.put id (.row [a, x] true)) := by
  constructor <;> simp [sto, h, hc, ho, setAt]
theorem Keep.born {s t : St} (h : Keep s t) {id : Nat} (b : AB) (h1 : s.next ≤ id) (h2 : id < t.next) : Keep s (t.born id b) :=
  ⟨by simpa using h.next, fun j hj => by rw [St.get_born_ne _ _ h2 (by omega), h.get j hj], by simpa using h.low⟩
theorem keep_reserve (s : St) (k : Nat) : Keep s (s.reserve k) := ⟨by simp, fun id h => by rw [St.get_reserve, if_pos h], by simp; omega⟩
theorem keep_lowd (s : St) : Keep s (lowd s) := ⟨Nat.le_refl _, fun _ _ => rfl, Nat.min_le_right _ _⟩
theorem read_low' {α : Type} {C : Cod α} {v : AV} {l : List α} (h : read C s v = some l) : read C (lowd s) v = some l := (keep_lowd s).read h
def mkslV (z : List AV) (bytes : Nat) (l c : AV) : Option ((Nat → AV) × AB) := match l, c with
  | .int .i64 l, .int .i64 c =>
    if 0 ≤ l ∧ l ≤ c ∧ (bytes : Int) * c ≤ roomBytes ∧ c ≤ 9223372036854775807 then
        some (fun id => .sl id 0 l.toNat (some c.toNat) z.length, .row (zeros z c.toNat) true)
      else none
  | _, _ => none
theorem aa_mksl {env : Env} (z : List AV) (b : Nat) (l c : AO) : aalloc env (.mksl z b l c) = mkslV z b (aev env l) (aev env c) := by
  simp only [aalloc, mkslV]
  rfl
def copyV (s : St) (sz : Nat) (d x : AV) : Option (AV × St) := match d, shown s sz x, lenOf x with
    | .nils, some _, some _ => some (.int .i64 0, s)
    | .sl id off len _ z, some new, some k =>
      if z = sz then
        match s.get id with
        | some (.row cs true) =>
          if off + len * sz ≤ cs.length then
            some (.int .i64 ((min k len : Nat) : Int), s.put id (.row (setAt cs off (new.take (min k len * sz))) true))
          else none
        | _ => none
      else none
    | _, _, _ => none
theorem ae_copy {call : Nat → List AV → St → Option (AV × St)} {env : Env} (sz : Nat) (d x : AO) : aeff call env s (.copy sz d x) = copyV s sz (aev env d) (aev env x) := by
  simp only [aeff, copyV]
  rfl
def slc3V (sz : Nat) (x h m : AV) : Option AV := apure [] (.slc sz (.c x) none (some (.c h)) (some (.c m)))
theorem ap_slc3 {env : Env} (sz : Nat) (x h m : AO) : apure env (.slc sz x none (some h) (some m)) = slc3V sz (aev env x) (aev env h) (aev env m) := nrfl rfl
theorem slc3V_all (j n : Nat) : slc3V 1 (.sl j 0 n (some n) 1) (.int .i64 (n : Int)) (.int .i64 (n : Int)) = some (.sl j 0 n (some n) 1) := by
  simp [slc3V, apure, aev, optNat, asNatIn]
theorem bin_nss (id off n : Nat) (cap : Option Nat) (z : Nat) : binOp .eql .ns (.sl id off n cap z) .nils = some (.bool false) := nrfl rfl
theorem bin_nsn : binOp .eql .ns .nils .nils = some (.bool true) := nrfl rfl
theorem boxV_2 {a b : AV} (ha : a.one = true) (hb : b.one = true) : boxV 2 (.agg [a, b]) = some (fun id => .ptr id 0, .row [a, b] true) := by
  simp [boxV, AV.cells, ha, hb]
theorem tb_at (g : Nat) (c : Con) (r : List (Nat × Con)) (f : Nat) : tb ((g, c) :: r) f = if f = g then c else tb r f := nrfl rfl
theorem extV_2 (a b c : AV) (r : List AV) : extV 2 (.tup (a :: b :: c :: r)) = some c := nrfl rfl
end Go.AM
end
/-
  The rules for stepping that all chapters use, in one. Own work of this project.
-/
section
namespace Go.AM
open Go

theorem bX : type_of% (And.intro @cs_dec <|
  And.intro @cs_not <|
  And.intro @cs_and <|
  And.intro @cs_or <|
  And.intro @cs_dead <|
  And.intro @cs_true <|
  And.intro @cs_false <|
  And.intro @ae_app <|
  And.intro @ap_slc <|
  And.intro @mkR_none <|
  And.intro @mkR_some <|
  And.intro @ar_look <|
  And.intro @ae_mset <|
  And.intro @ae_rng <|
  And.intro @ae_mkmap0 <|
  And.intro @ar_ent <|
  And.intro @lookV_push <|
  And.intro @lookV_lowed <|
  And.intro @msetV_push <|
  And.intro @msetV_lowed <|
  And.intro @lt_put <|
  And.intro @same_put <|
  And.intro @sto_lowed <|
  And.intro @aa_bsl <|
  And.intro @ap_nchk <|
  And.intro @nchkV_ptr <|
  And.intro @bin_np <|
  And.intro @bin_npn <|
  And.intro @bin_npx <|
  And.intro @bin_npnx <|
  And.intro @ap_mm <|
  And.intro @mmV_max <|
  And.intro @mmV_min <|
  And.intro @res3 <|
  And.intro @aa_mksl <|
  And.intro @ae_copy <|
  And.intro @ap_slc3 <|
  And.intro @slc3V_all <|
  And.intro @bin_nss <|
  And.intro @bin_nsn <|
  @extV_2) := And.intro @cs_dec <|
  And.intro @cs_not <|
  And.intro @cs_and <|
  And.intro @cs_or <|
  And.intro @cs_dead <|
  And.intro @cs_true <|
  And.intro @cs_false <|
  And.intro @ae_app <|
  And.intro @ap_slc <|
  And.intro @mkR_none <|
  And.intro @mkR_some <|
  And.intro @ar_look <|
  And.intro @ae_mset <|
  And.intro @ae_rng <|
  And.intro @ae_mkmap0 <|
  And.intro @ar_ent <|
  And.intro @lookV_push <|
  And.intro @lookV_lowed <|
  And.intro @msetV_push <|
  And.intro @msetV_lowed <|
  And.intro @lt_put <|
  And.intro @same_put <|
  And.intro @sto_lowed <|
  And.intro @aa_bsl <|
  And.intro @ap_nchk <|
  And.intro @nchkV_ptr <|
  And.intro @bin_np <|
  And.intro @bin_npn <|
  And.intro @bin_npx <|
  And.intro @bin_npnx <|
  And.intro @ap_mm <|
  And.intro @mmV_max <|
  And.intro @mmV_min <|
  And.intro @res3 <|
  And.intro @aa_mksl <|
  And.intro @ae_copy <|
  And.intro @ap_slc3 <|
  And.intro @slc3V_all <|
  And.intro @bin_nss <|
  And.intro @bin_nsn <|
  @extV_2
theorem bE : type_of% (And.intro @E_pne <|
  And.intro @E_psame <|
  @elen_put) := And.intro @E_pne <|
  And.intro @E_psame <|
  @elen_put
end Go.AM
end
/-
  Looking at lists of dots: the program and the references. Own work of this project; in part printed by a program of it.
-/
section
set_option maxRecDepth 100000
set_option maxHeartbeats 8000000
namespace Go.AM
open Go Go.Proofs

variable {s t u : St}

theorem mem_at {α : Type} {l : List α} {i : Nat} {x : α} (h : l[i]? = some x) : x ∈ l := List.mem_of_getElem? h
theorem all_false {α : Type} {p : α → Bool} {l : List α} {i : Nat} {x : α} (h : l[i]? = some x) (hp : p x = false) : l.all p = false := by
  rw [List.all_eq_false]
  exact ⟨x, mem_at h, by simp [hp]⟩
theorem all_at {α : Type} {p : α → Bool} {l : List α} (h : ∀ k x, k < l.length → l[k]? = some x → p x = true) : l.all p = true := by
  rw [List.all_eq_true]
  intro x hx
  obtain ⟨k, hk⟩ := List.getElem?_of_mem hx
  exact h k x (getlt hk) hk
theorem pre_next {α : Type} {P : Nat → α → Prop} {l : List α} {i : Nat} {x : α} (hx : l[i]? = some x) (h : ∀ k y, k < i → l[k]? = some y → P k y) (hp : P i x) : ∀ k y, k < i + 1 → l[k]? = some y → P k y := fun k y hk hy => by
  by_cases e : k = i
  · subst e
    rw [hx] at hy
    injection hy with hy
    subst hy
    exact hp
  · exact h k y (by omega) hy
noncomputable def R_VInv : Con := runFn (tb [(92, conD fDotValid)]) a106
theorem s_VInv : SoundAt Tryz.prog 106 R_VInv := run_sound (tb_sound (l := [(92, conD fDotValid)]) (by simpa using s_DotValid)) mixed Tryz.func106 k106 c106
theorem n_VInv : noNxtC a106.body = true := by kernel_rfl
theorem w_VInv {s : St} (d : Dot) : ∀ env : Env, elen env = a106.ntmps → (∀ i x_, [.agg (Dot.av d)][i]? = some x_ → E env i = x_) → awp (tb [(92, conD fDotValid)]) a106.body (fun x e t => (∀ i, x ≠ .exit i) ∧ aresults e t a106.results = some (.bool (!d.valid)) ∧ Keep s t) env s := by
  intro env hlen ha
  have h0 : E env 0 = _ := ha 0 _ rfl
  have hlen : elen env = _ := hlen
  simp only [a106] at hlen
  unfold a106
  try dsimp only [oO, oG]
  have q := q_DotValid false d
  simp (config := {contextual := true, maxDischargeDepth := 12}) only [tb_at, h0, hlen, q, ↓bD, bU, forall_const, bS, implies_true, isNx, eq_self, ↓wp_cond, ↓wp_loop, ↓reduceIte, reduceCtorEq, Nat.reduceEqDiff, Nat.reduceLT, Nat.reduceAdd, Nat.reduceMul, bT, ↓sg_bsl, ↓st_callf, bX]
  all_goals exact (Keep.refl s).push _
theorem q_VInv (cl : Bool) {s : St} (d : Dot) : acall R_VInv cl [.agg (Dot.av d)] s = some (.bool (!d.valid), s) := run_same n_VInv (by simp [a106]) rfl (w_VInv (s := lowd s) d)
noncomputable def R_CInv : Con := runFn (tb [(92, conD fDotValid)]) a107
theorem s_CInv : SoundAt Tryz.prog 107 R_CInv := run_sound (tb_sound (l := [(92, conD fDotValid)]) (by simpa using s_DotValid)) mixed Tryz.func107 k107 c107
theorem n_CInv : noNxtC a107.body = true := by kernel_rfl
theorem w_CInv {s : St} (d : Dot) : ∀ env : Env, elen env = a107.ntmps → (∀ i x_, [.agg (Dot.av d)][i]? = some x_ → E env i = x_) → awp (tb [(92, conD fDotValid)]) a107.body (fun x e t => (∀ i, x ≠ .exit i) ∧ aresults e t a107.results = some (.bool (!d.valid)) ∧ Keep s t) env s := by
  intro env hlen ha
  have h0 : E env 0 = _ := ha 0 _ rfl
  have hlen : elen env = _ := hlen
  simp only [a107] at hlen
  unfold a107
  try dsimp only [oO, oG]
  have q := q_DotValid false d
  simp (config := {contextual := true, maxDischargeDepth := 12}) only [tb_at, h0, hlen, q, ↓bD, bU, forall_const, bS, implies_true, isNx, eq_self, ↓wp_cond, ↓wp_loop, ↓reduceIte, reduceCtorEq, Nat.reduceEqDiff, Nat.reduceLT, Nat.reduceAdd, Nat.reduceMul, bT, ↓sg_bsl, ↓st_callf, bX]
  all_goals exact (Keep.refl s).push _
theorem q_CInv (cl : Bool) {s : St} (d : Dot) : acall R_CInv cl [.agg (Dot.av d)] s = some (.bool (!d.valid), s) := run_same n_CInv (by simp [a107]) rfl (w_CInv (s := lowd s) d)
theorem box_dot (s : St) (d : Dot) (hK : Keep (s.push (.row (Dot.av d) true)) t) : lod t 2 (.ptr s.next 0) = some (.agg (Dot.av d)) ∧ lod1 t (.ptr s.next 0) = some (.int .i64 d.r) ∧ lod1 t (.ptr s.next 1) = some (.int .i64 d.c) ∧ ltN s.next t := by
  have h := hK.blk (St.get_push_new s (.row (Dot.av d) true))
  refine ⟨by simp [lod, h, Dot.av], ?_, ?_, St.get_lt h⟩ <;> simp [lod1, h, Dot.av]
def idxD (l : List Dot) (p : Dot → Bool) : Int := match l.findIdx? p with
  | some i => (i : Int)
  | none => -1
theorem idxD_hit {l : List Dot} {p : Dot → Bool} {i : Nat} {x : Dot} (hx : l[i]? = some x) (hp : p x = true) (h : ∀ k y, k < i → l[k]? = some y → p y = false) : idxD l p = (i : Int) := by
  unfold idxD
  have hlt := getlt hx
  have e : l.findIdx? p = some i := by
    rw [List.findIdx?_eq_some_iff_getElem]
    refine ⟨hlt, ?_, fun j hj => ?_⟩
    · rw [List.getElem?_eq_getElem hlt] at hx
      injection hx with hx
      rw [hx, hp]
    · have := h j l[j] hj (List.getElem?_eq_getElem (by omega))
      simp [this]
  rw [e]
theorem idxD_miss {l : List Dot} {p : Dot → Bool} (h : ∀ k y, k < l.length → l[k]? = some y → p y = false) : idxD l p = -1 := by
  unfold idxD
  have e : l.findIdx? p = none := by
    rw [List.findIdx?_eq_none_iff]
    intro x hx
    obtain ⟨k, hk⟩ := List.getElem?_of_mem hx
    exact h k x (getlt hk) hk
  rw [e]
theorem idxD_ge (l : List Dot) (p : Dot → Bool) : (0 ≤ idxD l p) = (l.any p = true) := by
  unfold idxD
  cases h : l.findIdx? p with
  | none =>
    rw [List.findIdx?_eq_none_iff] at h
    simp only [eq_iff_iff]
    constructor
    · intro q; omega
    · intro q
      obtain ⟨x, hx, hp⟩ := List.any_eq_true.1 q
      rw [h x hx] at hp
      cases hp
  | some i =>
    rw [List.findIdx?_eq_some_iff_getElem] at h
    obtain ⟨h1, h2, _⟩ := h
    simp only [eq_iff_iff]
    exact ⟨fun _ => List.any_eq_true.2 ⟨l[i], by simp, h2⟩, fun _ => by omega⟩
end Go.AM
end
/-
  Looking at vectors: the program and the references. Own work of this project; in part printed by a program of it.
-/
section
set_option maxRecDepth 100000
set_option maxHeartbeats 8000000
namespace Go.AM
open Go Go.Proofs

variable {s t u : St}

/-! ### The first element that a function finds -/
def callvV (call : Nat → List AV → St → Option (AV × St)) (f : AV) (args : List AV) (s : St) : Option (AV × St) := match f with
  | .fn g caps => acall (call g) false (args ++ caps) s
  | _ => none
theorem ae_callvV {call : Nat → List AV → St → Option (AV × St)} {env : Env} (x : AO) (l : List AO) : aeff call env s (.callv x false l) = callvV call (aev env x) (l.map (aev env)) s := nrfl rfl
theorem ap_mkfn {env : Env} (f : Nat) (l : List AO) : apure env (.mkfn f l) = some (.fn f (l.map (aev env))) := nrfl rfl
theorem callvV_fn {call : Nat → List AV → St → Option (AV × St)} (g : Nat) (caps args : List AV) : callvV call (.fn g caps) args s = acall (call g) false (args ++ caps) s := nrfl rfl
noncomputable def R_VG1 : Con := runFn (tb []) a84
theorem s_VG1 : SoundAt Tryz.prog 84 R_VG1 := run_sound (tb_sound (l := []) (by simp)) mixed Tryz.func84 k84 c84
theorem n_VG1 : noNxtC a84.body = true := by kernel_rfl
theorem w_VG1 {s : St} (d : Dot) {b : Nat} {k : Int} (hb : lod1 s (.ptr b 0) = some (.int .i64 k)) (hbl : ltN b s) : ∀ env : Env, elen env = a84.ntmps → (∀ i x_, [.agg (Dot.av d), .ptr b 0][i]? = some x_ → E env i = x_) → awp (tb []) a84.body (fun x e t => (∀ i, x ≠ .exit i) ∧ aresults e t a84.results = some (.bool (decide (d.r = k))) ∧ Keep s t) env s := by
  intro env hlen ha
  have h0 : E env 0 = _ := ha 0 _ rfl
  have h1 : E env 1 = _ := ha 1 _ rfl
  have hlen : elen env = _ := hlen
  simp only [a84] at hlen
  unfold a84
  try dsimp only [oO, oG]
  simp (config := {contextual := true, maxDischargeDepth := 12}) only [tb_at, h0, h1, hlen, hb, hbl, ↓bD, bU, forall_const, bS, implies_true, isNx, eq_self, ↓wp_cond, ↓wp_loop, ↓reduceIte, reduceCtorEq, Nat.reduceEqDiff, Nat.reduceLT, Nat.reduceAdd, Nat.reduceMul, bT, ↓sg_bsl, ↓st_callf, bX, ap_mkfn, ae_callvV, callvV_fn, List.cons_append, List.nil_append]
  all_goals exact (Keep.refl s).push _
theorem q_VG1 (cl : Bool) {s : St} (d : Dot) {b : Nat} {k : Int} (hb : lod1 s (.ptr b 0) = some (.int .i64 k)) (hbl : ltN b s) : acall R_VG1 cl [.agg (Dot.av d), .ptr b 0] s = some (.bool (decide (d.r = k)), s) := run_same n_VG1 (by simp [a84]) rfl (w_VG1 (s := lowd s) d hb hbl)
noncomputable def R_IdxV : Con := runFn (tb [(106, R_VInv), (84, R_VG1)]) a83
theorem s_IdxV : SoundAt Tryz.prog 83 R_IdxV := run_sound (tb_sound (l := [(106, R_VInv), (84, R_VG1)]) (by simpa using ⟨s_VInv, s_VG1⟩)) mixed Tryz.func83 k83 c83
theorem n_IdxV : noNxtC a83.body = true := by kernel_rfl
theorem w_IdxV {s : St} {v : AV} {l : List Dot} (hr : read dotC s v = some l) (hl : l.length ≤ lim) {T : List (Nat × Con)} {g : Nat} {caps : List AV} (p : Dot → Bool) (hf : ∀ (t : St) (d : Dot), Keep s t → acall (tb T g) false (.agg (Dot.av d) :: caps) t = some (.bool (p d), t)) : ∀ env : Env, elen env = a83.ntmps → (∀ i x_, [v, .fn g caps][i]? = some x_ → E env i = x_) → awp (tb T) a83.body (fun x e t => (∀ i, x ≠ .exit i) ∧ aresults e t a83.results = some (.int .i64 (idxD l p)) ∧ Keep s t) env s := by
  intro env hlen ha
  have h0 : E env 0 = _ := ha 0 _ rfl
  have h1 : E env 1 = _ := ha 1 _ rfl
  have hlen : elen env = _ := hlen
  simp only [a83] at hlen
  unfold a83
  try dsimp only [oO, oG]
  have hL := lenV_read hr
  simp (config := {contextual := true, maxDischargeDepth := 12}) only [tb_at, h0, h1, hlen, hL, ↓bD, bU, forall_const, bS, implies_true, isNx, eq_self, ↓wp_cond, ↓wp_loop, ↓reduceIte, reduceCtorEq, Nat.reduceEqDiff, Nat.reduceLT, Nat.reduceAdd, Nat.reduceMul, bT, ↓sg_bsl, ↓st_callf, bX, ap_mkfn, ae_callvV, callvV_fn, List.cons_append, List.nil_append]
  obtain ⟨I, hI⟩ : ∃ I : Nat → Env → St → Prop, ∀ n e t, I n e t = (t = s ∧ ∃ i : Nat, n + i = l.length ∧ elen e = 19 ∧ E e 0 = v ∧ E e 1 = .fn g caps ∧ E e 6 = v ∧ E e 7 = .int .i64 (l.length : Int) ∧ E e 8 = .int .i64 (i : Int) ∧ ∀ k y, k < i → l[k]? = some y → p y = false) := ⟨fun n e t => (t = s ∧ ∃ i : Nat, n + i = l.length ∧ elen e = 19 ∧ E e 0 = v ∧ E e 1 = .fn g caps ∧ E e 6 = v ∧ E e 7 = .int .i64 (l.length : Int) ∧ E e 8 = .int .i64 (i : Int) ∧ ∀ k y, k < i → l[k]? = some y → p y = false), fun _ _ _ => rfl⟩
  refine lwp_inv I (n := l.length) ?_ ?_
  · rw [hI]
    exact ⟨rfl, 0, by omega, (by simp only [bE, Nat.reduceEqDiff, bN, Nat.reduceLT, hlen]; try rfl), (by simp only [bE, Nat.reduceEqDiff, bN, Nat.reduceLT, hlen, h0]; try rfl), (by simp only [bE, Nat.reduceEqDiff, bN, Nat.reduceLT, hlen, h1]; try rfl), (by simp only [bE, Nat.reduceEqDiff, bN, Nat.reduceLT, hlen, h0]; try rfl), (by simp only [bE, Nat.reduceEqDiff, bN, Nat.reduceLT, hlen, hL]; try rfl), (by simp only [bE, Nat.reduceEqDiff, bN, Nat.reduceLT, hlen]; try rfl), fun k y hk => by omega⟩
  intro n e t hi
  rw [hI] at hi
  obtain ⟨hK, i, hni, he, e0, e1, e6, e7, e8, hpre⟩ := hi
  subst hK
  by_cases hlt : i < l.length
  · obtain ⟨x, hx⟩ := getsome hlt
    have hw2 := wrap_add1 (n := i) (by unfold lim at hl; omega)
    obtain ⟨a1, a2, a3, a4⟩ := dot_lods hr (.refl _) hx
    have i1 := dot_idx hr hx .i64
    have hq := hf _ x (.refl _)
    cases hp : p x
    · rw [hp] at hq
      simp (config := {contextual := true, maxDischargeDepth := 12}) only [tb_at, he, e0, e1, e6, e7, e8, hL, hlt, hw2, a1, i1, hq, ↓bD, bU, forall_const, bS, implies_true, isNx, eq_self, ↓wp_cond, ↓wp_loop, ↓reduceIte, reduceCtorEq, Nat.reduceEqDiff, Nat.reduceLT, Nat.reduceAdd, Nat.reduceMul, bT, ↓sg_bsl, ↓st_callf, bX, ap_mkfn, ae_callvV, callvV_fn, List.cons_append, List.nil_append]
      refine ⟨n - 1, by omega, ?_⟩
      rw [hI]
      exact ⟨rfl, i + 1, by omega, (by simp only [bE, Nat.reduceEqDiff, bN, Nat.reduceLT, he, e0, e1, e6, e7, e8]; try rfl), (by simp only [bE, Nat.reduceEqDiff, bN, Nat.reduceLT, he, e0, e1, e6, e7, e8]; try rfl), (by simp only [bE, Nat.reduceEqDiff, bN, Nat.reduceLT, he, e0, e1, e6, e7, e8]; try rfl), (by simp only [bE, Nat.reduceEqDiff, bN, Nat.reduceLT, he, e0, e1, e6, e7, e8]; try rfl), (by simp only [bE, Nat.reduceEqDiff, bN, Nat.reduceLT, he, e0, e1, e6, e7, e8]; try rfl), (by simp only [bE, Nat.reduceEqDiff, bN, Nat.reduceLT, he, e0, e1, e6, e7, e8]; try rfl), pre_next (P := fun k y => p y = false) hx hpre hp⟩
    · rw [hp] at hq
      have hS := idxD_hit hx hp hpre
      simp (config := {contextual := true, maxDischargeDepth := 12}) only [tb_at, he, e0, e1, e6, e7, e8, hL, hlt, hw2, a1, i1, hq, hS, ↓bD, bU, forall_const, bS, implies_true, isNx, eq_self, ↓wp_cond, ↓wp_loop, ↓reduceIte, reduceCtorEq, Nat.reduceEqDiff, Nat.reduceLT, Nat.reduceAdd, Nat.reduceMul, bT, ↓sg_bsl, ↓st_callf, bX, ap_mkfn, ae_callvV, callvV_fn, List.cons_append, List.nil_append]
      all_goals first | exact .refl _ | skip
  · obtain rfl : i = l.length := by omega
    have hS := idxD_miss hpre
    simp (config := {contextual := true, maxDischargeDepth := 12}) only [tb_at, he, e0, e1, e6, e7, e8, hL, hlt, hS, ↓bD, bU, forall_const, bS, implies_true, isNx, eq_self, ↓wp_cond, ↓wp_loop, ↓reduceIte, reduceCtorEq, Nat.reduceEqDiff, Nat.reduceLT, Nat.reduceAdd, Nat.reduceMul, bT, ↓sg_bsl, ↓st_callf, bX, ap_mkfn, ae_callvV, callvV_fn, List.cons_append, List.nil_append]
    all_goals first | exact .refl _ | skip
theorem q_IdxV (cl : Bool) {s : St} {v : AV} {l : List Dot} (hr : read dotC s v = some l) (hl : l.length ≤ lim) {g : Nat} {caps : List AV} (p : Dot → Bool) (hf : ∀ (t : St) (d : Dot), Keep s t → acall (tb [(106, R_VInv), (84, R_VG1)] g) false (.agg (Dot.av d) :: caps) t = some (.bool (p d), t)) : acall R_IdxV cl [v, .fn g caps] s = some (.int .i64 (idxD l p), s) := run_same n_IdxV (by simp [a83]) rfl (w_IdxV (s := lowd s) (read_low' hr) hl p (fun t d h => hf t d ((keep_lowd s).trans h)))
noncomputable def R_AnyV : Con := runFn (tb [(83, R_IdxV)]) a105
theorem s_AnyV : SoundAt Tryz.prog 105 R_AnyV := run_sound (tb_sound (l := [(83, R_IdxV)]) (by simpa using s_IdxV)) mixed Tryz.func105 k105 c105
theorem n_AnyV : noNxtC a105.body = true := by kernel_rfl

theorem any_inv (l : List Dot) : (l.any fun d => !d.valid) = !l.all Dot.valid := by
  rw [Bool.eq_iff_iff]
  simp [List.all_eq_false]
theorem w_AnyV {s : St} {v : AV} {l : List Dot} (hr : read dotC s v = some l) (hl : l.length ≤ lim) : ∀ env : Env, elen env = a105.ntmps → (∀ i x_, [v, .fn 106 []][i]? = some x_ → E env i = x_) → awp (tb [(83, R_IdxV)]) a105.body (fun x e t => (∀ i, x ≠ .exit i) ∧ aresults e t a105.results = some (.bool (!l.all Dot.valid)) ∧ Keep s t) env s := by
  intro env hlen ha
  have h0 : E env 0 = _ := ha 0 _ rfl
  have h1 : E env 1 = _ := ha 1 _ rfl
  have hlen : elen env = _ := hlen
  simp only [a105] at hlen
  unfold a105
  try dsimp only [oO, oG]
  have q := q_IdxV false hr hl (fun d => !d.valid) (g := 106) (caps := []) fun t d _ => q_VInv false d
  have hS : decide (0 ≤ idxD l fun d => !d.valid) = !l.all Dot.valid := by
    simp only [idxD_ge, any_inv, Bool.decide_eq_true]
  simp (config := {contextual := true, maxDischargeDepth := 12}) only [tb_at, h0, h1, hlen, q, hS, ↓bD, bU, forall_const, bS, implies_true, isNx, eq_self, ↓wp_cond, ↓wp_loop, ↓reduceIte, reduceCtorEq, Nat.reduceEqDiff, Nat.reduceLT, Nat.reduceAdd, Nat.reduceMul, bT, ↓sg_bsl, ↓st_callf, bX, ap_mkfn, ae_callvV, callvV_fn, List.cons_append, List.nil_append]
  all_goals exact .refl s
theorem q_AnyV (cl : Bool) {s : St} {v : AV} {l : List Dot} (hr : read dotC s v = some l) (hl : l.length ≤ lim) : acall R_AnyV cl [v, .fn 106 []] s = some (.bool (!l.all Dot.valid), s) := run_same n_AnyV (by simp [a105]) rfl (w_AnyV (s := lowd s) (read_low' hr) hl)

theorem boxV_i (n : Int) : boxV 1 (.int .i64 n) = some (fun id => .ptr id 0, .row [.int .i64 n] true) := nrfl rfl
theorem box_int (s : St) (n : Int) (hK : Keep (s.push (.row [.int .i64 n] true)) t) : lod1 t (.ptr s.next 0) = some (.int .i64 n) ∧ ltN s.next t := by
  have h := hK.blk (St.get_push_new s (.row [.int .i64 n] true))
  exact ⟨by simp [lod1, h], St.get_lt h⟩
theorem vget_hit : ∀ {l : List Dot} {i : Nat} {x : Dot} {k : Int}, l[i]? = some x → x.r = k → (∀ j y, j < i → l[j]? = some y → y.r ≠ k) → vget l k = x.c
  | [], i, x, k, h, _, _ => by simp at h
  | y :: r, 0, x, k, h, hk, _ => by simp at h; subst h; simp [vget, hk]
  | y :: r, i + 1, x, k, h, hk, hp => by
    rw [vget, if_neg (hp 0 y (by omega) (by simp))]
    exact vget_hit (by simpa using h) hk fun j z hj hz => hp (j + 1) z (by omega) (by simpa using hz)
theorem idx_vget (l : List Dot) (k : Int) : (idxD l (fun d => decide (d.r = k)) < 0 ∧ vget l k = 0) ∨ ∃ (i : Nat) (x : Dot), idxD l (fun d => decide (d.r = k)) = (i : Int) ∧ l[i]? = some x ∧ x.c = vget l k := by
  unfold idxD
  cases h : l.findIdx? fun d => decide (d.r = k) with
  | none =>
    rw [List.findIdx?_eq_none_iff] at h
    exact .inl ⟨by simp only; omega, vget_none fun x hx => by simpa using h x hx⟩
  | some i =>
    rw [List.findIdx?_eq_some_iff_getElem] at h
    obtain ⟨h1, h2, h3⟩ := h
    have hx : l[i]? = some l[i] := List.getElem?_eq_getElem h1
    refine .inr ⟨i, l[i], rfl, hx, (vget_hit hx (by simpa using h2) fun j y hj hy => ?_).symm⟩
    have := h3 j hj
    rw [List.getElem?_eq_getElem (by omega)] at hy
    injection hy with hy
    rw [hy] at this
    simpa using this
noncomputable def R_VGet : Con := runFn (tb [(83, R_IdxV)]) a59
theorem s_VGet : SoundAt Tryz.prog 59 R_VGet := run_sound (tb_sound (l := [(83, R_IdxV)]) (by simpa using s_IdxV)) mixed Tryz.func59 k59 c59
theorem n_VGet : noNxtC a59.body = true := by kernel_rfl
theorem w_VGet {s : St} {v : AV} {l : List Dot} (hr : read dotC s v = some l) (hl : l.length ≤ lim) (k : Int) : ∀ env : Env, elen env = a59.ntmps → (∀ i x_, [v, .int .i64 k][i]? = some x_ → E env i = x_) → awp (tb [(83, R_IdxV)]) a59.body (fun x e t => (∀ i, x ≠ .exit i) ∧ aresults e t a59.results = some (.int .i64 (vget l k)) ∧ Keep s t) env s := by
  intro env hlen ha
  have h0 : E env 0 = _ := ha 0 _ rfl
  have h1 : E env 1 = _ := ha 1 _ rfl
  have hlen : elen env = _ := hlen
  simp only [a59] at hlen
  unfold a59
  try dsimp only [oO, oG]
  have hK1 : Keep s (s.push (.row [.int .i64 k] true)) := (Keep.refl s).push _
  have hr1 := hK1.read hr
  have q := q_IdxV false hr1 hl (fun d => decide (d.r = k)) (g := 84) (caps := [.ptr s.next 0]) fun t d hk => q_VG1 false d (box_int s k hk).1 (box_int s k hk).2
  rcases idx_vget l k with ⟨hn, hg⟩ | ⟨i, x, hi, hx, hg⟩
  · have hz := eq_true hn
    simp (config := {contextual := true, maxDischargeDepth := 12}) only [tb_at, h0, h1, hlen, q, hz, hg, ↓bD, bU, forall_const, bS, implies_true, isNx, eq_self, ↓wp_cond, ↓wp_loop, ↓reduceIte, reduceCtorEq, Nat.reduceEqDiff, Nat.reduceLT, Nat.reduceAdd, Nat.reduceMul, bT, ↓sg_bsl, ↓st_callf, bX, ap_mkfn, ae_callvV, callvV_fn, List.cons_append, List.nil_append, boxV_i]
    all_goals exact hK1
  · rw [hi] at q
    have hz : ((i : Int) < 0) = False := eq_false (by omega)
    obtain ⟨a1, a2, a3, a4⟩ := dot_lods hr hK1 hx
    have i1 := dot_idx hr hx .i64
    simp (config := {contextual := true, maxDischargeDepth := 12}) only [tb_at, h0, h1, hlen, q, hz, hg, a3, a4, i1, ↓bD, bU, forall_const, bS, implies_true, isNx, eq_self, ↓wp_cond, ↓wp_loop, ↓reduceIte, reduceCtorEq, Nat.reduceEqDiff, Nat.reduceLT, Nat.reduceAdd, Nat.reduceMul, bT, ↓sg_bsl, ↓st_callf, bX, ap_mkfn, ae_callvV, callvV_fn, List.cons_append, List.nil_append, boxV_i]
    all_goals exact hK1
theorem q_VGet (cl : Bool) {s : St} {v : AV} {l : List Dot} (hr : read dotC s v = some l) (hl : l.length ≤ lim) (k : Int) : acall R_VGet cl [v, .int .i64 k] s = some (.int .i64 (vget l k), s) := run_same n_VGet (by simp [a59]) rfl (w_VGet (s := lowd s) (read_low' hr) hl k)
noncomputable def R_EqV : Con := runFn (tb []) a65
theorem s_EqV : SoundAt Tryz.prog 65 R_EqV := run_sound (tb_sound (l := []) (by simp)) mixed Tryz.func65 k65 c65
theorem n_EqV : noNxtC a65.body = true := by kernel_rfl
theorem w_EqV {s : St} {v : AV} {l : List Dot} (hr : read dotC s v = some l) (hl : l.length ≤ lim) {w : AV} {m : List Dot} (hrw : read dotC s w = some m) (hm : m.length ≤ lim) : ∀ env : Env, elen env = a65.ntmps → (∀ i x_, [v, w][i]? = some x_ → E env i = x_) → awp (tb []) a65.body (fun x e t => (∀ i, x ≠ .exit i) ∧ aresults e t a65.results = some (.bool (decide (l = m))) ∧ Keep s t) env s := by
  intro env hlen ha
  have h0 : E env 0 = _ := ha 0 _ rfl
  have h1 : E env 1 = _ := ha 1 _ rfl
  have hlen : elen env = _ := hlen
  simp only [a65] at hlen
  unfold a65
  try dsimp only [oO, oG]
  have hL := lenV_read hr
  have hM := lenV_read hrw
  by_cases hlm : l.length = m.length
  · have hz : ((l.length : Int) = (m.length : Int)) = True := eq_true (by omega)
    simp (config := {contextual := true, maxDischargeDepth := 12}) only [tb_at, h0, h1, hlen, hL, hM, hz, ↓bD, bU, forall_const, bS, implies_true, isNx, eq_self, ↓wp_cond, ↓wp_loop, ↓reduceIte, reduceCtorEq, Nat.reduceEqDiff, Nat.reduceLT, Nat.reduceAdd, Nat.reduceMul, bT, ↓sg_bsl, ↓st_callf, bX, ap_mkfn, ae_callvV, callvV_fn, List.cons_append, List.nil_append, boxV_i]
    obtain ⟨I, hI⟩ : ∃ I : Nat → Env → St → Prop, ∀ n e t, I n e t = (t = s ∧ ∃ i : Nat, n + i = l.length ∧ elen e = 26 ∧ E e 0 = v ∧ E e 1 = w ∧ E e 12 = .int .i64 (l.length : Int) ∧ E e 13 = .int .i64 (i : Int) ∧ ∀ k y, k < i → l[k]? = some y → m[k]? = some y) := ⟨fun n e t => (t = s ∧ ∃ i : Nat, n + i = l.length ∧ elen e = 26 ∧ E e 0 = v ∧ E e 1 = w ∧ E e 12 = .int .i64 (l.length : Int) ∧ E e 13 = .int .i64 (i : Int) ∧ ∀ k y, k < i → l[k]? = some y → m[k]? = some y), fun _ _ _ => rfl⟩
    refine lwp_inv I (n := l.length) ?_ ?_
    · rw [hI]
      exact ⟨rfl, 0, by omega, (by simp only [bE, Nat.reduceEqDiff, bN, Nat.reduceLT, hlen]; try rfl), (by simp only [bE, Nat.reduceEqDiff, bN, Nat.reduceLT, hlen, h0]; try rfl), (by simp only [bE, Nat.reduceEqDiff, bN, Nat.reduceLT, hlen, h1]; try rfl), (by simp only [bE, Nat.reduceEqDiff, bN, Nat.reduceLT, hlen, hL]; try rfl), (by simp only [bE, Nat.reduceEqDiff, bN, Nat.reduceLT, hlen]; try rfl), fun k y hk => by omega⟩
    intro n e t hi
    rw [hI] at hi
    obtain ⟨hK, i, hni, he, e0, e1, e12, e13, hpre⟩ := hi
    subst hK
    by_cases hlt : i < l.length
    · obtain ⟨x, hx⟩ := getsome hlt
      obtain ⟨y, hy⟩ := getsome (l := m) (i := i) (by omega)
      have hw2 := wrap_add1 (n := i) (by unfold lim at hl; omega)
      obtain ⟨a1, a2, a3, a4⟩ := dot_lods hr (.refl _) hx
      have i1 := dot_idx hr hx .i64
      obtain ⟨b1, b2, b3, b4⟩ := dot_lods hrw (.refl _) hy
      have i2 := dot_idx hrw hy .i64
      by_cases hp : x = y
      · have hz := eq_true hp
        simp (config := {contextual := true, maxDischargeDepth := 12}) only [tb_at, he, e0, e1, e12, e13, hL, hM, hlt, hw2, a1, i1, b1, i2, hz, reserve0, ↓bD, bU, forall_const, bS, implies_true, isNx, eq_self, ↓wp_cond, ↓wp_loop, ↓reduceIte, reduceCtorEq, Nat.reduceEqDiff, Nat.reduceLT, Nat.reduceAdd, Nat.reduceMul, bT, ↓sg_bsl, ↓st_callf, bX, ap_mkfn, ae_callvV, callvV_fn, List.cons_append, List.nil_append, boxV_i]
        refine ⟨n - 1, by omega, ?_⟩
        rw [hI]
        exact ⟨rfl, i + 1, by omega, (by simp only [bE, Nat.reduceEqDiff, bN, Nat.reduceLT, he, e0, e1, e12, e13]; try rfl), (by simp only [bE, Nat.reduceEqDiff, bN, Nat.reduceLT, he, e0, e1, e12, e13]; try rfl), (by simp only [bE, Nat.reduceEqDiff, bN, Nat.reduceLT, he, e0, e1, e12, e13]; try rfl), (by simp only [bE, Nat.reduceEqDiff, bN, Nat.reduceLT, he, e0, e1, e12, e13]; try rfl), (by simp only [bE, Nat.reduceEqDiff, bN, Nat.reduceLT, he, e0, e1, e12, e13]; try rfl), pre_next (P := fun k y => m[k]? = some y) hx hpre (by rw [hp]; exact hy)⟩
      · have hz := eq_false hp
        have hS : decide (l = m) = false := decide_eq_false (ne_at hx hy hp)
        simp (config := {contextual := true, maxDischargeDepth := 12}) only [tb_at, he, e0, e1, e12, e13, hL, hM, hlt, hw2, a1, i1, b1, i2, hz, hS, reserve0, ↓bD, bU, forall_const, bS, implies_true, isNx, eq_self, ↓wp_cond, ↓wp_loop, ↓reduceIte, reduceCtorEq, Nat.reduceEqDiff, Nat.reduceLT, Nat.reduceAdd, Nat.reduceMul, bT, ↓sg_bsl, ↓st_callf, bX, ap_mkfn, ae_callvV, callvV_fn, List.cons_append, List.nil_append, boxV_i]
        all_goals first | exact .refl _ | skip
    · obtain rfl : i = l.length := by omega
      have hS : decide (l = m) = true := decide_eq_true (eq_of_at hlm fun k x y hx hy => by
        have := hpre k x (getlt hx) hx
        rw [hy] at this
        exact (Option.some.inj this).symm)
      simp (config := {contextual := true, maxDischargeDepth := 12}) only [tb_at, he, e0, e1, e12, e13, hL, hM, hlt, hS, ↓bD, bU, forall_const, bS, implies_true, isNx, eq_self, ↓wp_cond, ↓wp_loop, ↓reduceIte, reduceCtorEq, Nat.reduceEqDiff, Nat.reduceLT, Nat.reduceAdd, Nat.reduceMul, bT, ↓sg_bsl, ↓st_callf, bX, ap_mkfn, ae_callvV, callvV_fn, List.cons_append, List.nil_append, boxV_i]
      all_goals first | exact .refl _ | skip
  · have hz : ((l.length : Int) = (m.length : Int)) = False := eq_false (by omega)
    have hS : decide (l = m) = false := decide_eq_false fun h => hlm (by rw [h])
    simp (config := {contextual := true, maxDischargeDepth := 12}) only [tb_at, h0, h1, hlen, hL, hM, hz, hS, ↓bD, bU, forall_const, bS, implies_true, isNx, eq_self, ↓wp_cond, ↓wp_loop, ↓reduceIte, reduceCtorEq, Nat.reduceEqDiff, Nat.reduceLT, Nat.reduceAdd, Nat.reduceMul, bT, ↓sg_bsl, ↓st_callf, bX, ap_mkfn, ae_callvV, callvV_fn, List.cons_append, List.nil_append, boxV_i]
    all_goals first | exact .refl _ | skip
theorem q_EqV (cl : Bool) {s : St} {v : AV} {l : List Dot} (hr : read dotC s v = some l) (hl : l.length ≤ lim) {w : AV} {m : List Dot} (hrw : read dotC s w = some m) (hm : m.length ≤ lim) : acall R_EqV cl [v, w] s = some (.bool (decide (l = m)), s) := run_same n_EqV (by simp [a65]) rfl (w_EqV (s := lowd s) (read_low' hr) hl (read_low' hrw) hm)
noncomputable def R_EqD : Con := runFn (tb []) a66
theorem s_EqD : SoundAt Tryz.prog 66 R_EqD := run_sound (tb_sound (l := []) (by simp)) mixed Tryz.func66 k66 c66
theorem n_EqD : noNxtC a66.body = true := by kernel_rfl
theorem w_EqD {s : St} {v : AV} {l : List Dot} (hr : read dotC s v = some l) (hl : l.length ≤ lim) {w : AV} {m : List Dot} (hrw : read dotC s w = some m) (hm : m.length ≤ lim) : ∀ env : Env, elen env = a66.ntmps → (∀ i x_, [v, w][i]? = some x_ → E env i = x_) → awp (tb []) a66.body (fun x e t => (∀ i, x ≠ .exit i) ∧ aresults e t a66.results = some (.bool (decide (l = m))) ∧ Keep s t) env s := by
  intro env hlen ha
  have h0 : E env 0 = _ := ha 0 _ rfl
  have h1 : E env 1 = _ := ha 1 _ rfl
  have hlen : elen env = _ := hlen
  simp only [a66] at hlen
  unfold a66
  try dsimp only [oO, oG]
  have hL := lenV_read hr
  have hM := lenV_read hrw
  by_cases hlm : l.length = m.length
  · have hz : ((l.length : Int) = (m.length : Int)) = True := eq_true (by omega)
    simp (config := {contextual := true, maxDischargeDepth := 12}) only [tb_at, h0, h1, hlen, hL, hM, hz, ↓bD, bU, forall_const, bS, implies_true, isNx, eq_self, ↓wp_cond, ↓wp_loop, ↓reduceIte, reduceCtorEq, Nat.reduceEqDiff, Nat.reduceLT, Nat.reduceAdd, Nat.reduceMul, bT, ↓sg_bsl, ↓st_callf, bX, ap_mkfn, ae_callvV, callvV_fn, List.cons_append, List.nil_append, boxV_i]
    obtain ⟨I, hI⟩ : ∃ I : Nat → Env → St → Prop, ∀ n e t, I n e t = (t = s ∧ ∃ i : Nat, n + i = l.length ∧ elen e = 26 ∧ E e 0 = v ∧ E e 1 = w ∧ E e 12 = .int .i64 (l.length : Int) ∧ E e 13 = .int .i64 (i : Int) ∧ ∀ k y, k < i → l[k]? = some y → m[k]? = some y) := ⟨fun n e t => (t = s ∧ ∃ i : Nat, n + i = l.length ∧ elen e = 26 ∧ E e 0 = v ∧ E e 1 = w ∧ E e 12 = .int .i64 (l.length : Int) ∧ E e 13 = .int .i64 (i : Int) ∧ ∀ k y, k < i → l[k]? = some y → m[k]? = some y), fun _ _ _ => rfl⟩
    refine lwp_inv I (n := l.length) ?_ ?_
    · rw [hI]
      exact ⟨rfl, 0, by omega, (by simp only [bE, Nat.reduceEqDiff, bN, Nat.reduceLT, hlen]; try rfl), (by simp only [bE, Nat.reduceEqDiff, bN, Nat.reduceLT, hlen, h0]; try rfl), (by simp only [bE, Nat.reduceEqDiff, bN, Nat.reduceLT, hlen, h1]; try rfl), (by simp only [bE, Nat.reduceEqDiff, bN, Nat.reduceLT, hlen, hL]; try rfl), (by simp only [bE, Nat.reduceEqDiff, bN, Nat.reduceLT, hlen]; try rfl), fun k y hk => by omega⟩
    intro n e t hi
    rw [hI] at hi
    obtain ⟨hK, i, hni, he, e0, e1, e12, e13, hpre⟩ := hi
    subst hK
    by_cases hlt : i < l.length
    · obtain ⟨x, hx⟩ := getsome hlt
      obtain ⟨y, hy⟩ := getsome (l := m) (i := i) (by omega)
      have hw2 := wrap_add1 (n := i) (by unfold lim at hl; omega)
      obtain ⟨a1, a2, a3, a4⟩ := dot_lods hr (.refl _) hx
      have i1 := dot_idx hr hx .i64
      obtain ⟨b1, b2, b3, b4⟩ := dot_lods hrw (.refl _) hy
      have i2 := dot_idx hrw hy .i64
      by_cases hp : x = y
      · have hz := eq_true hp
        simp (config := {contextual := true, maxDischargeDepth := 12}) only [tb_at, he, e0, e1, e12, e13, hL, hM, hlt, hw2, a1, i1, b1, i2, hz, reserve0, ↓bD, bU, forall_const, bS, implies_true, isNx, eq_self, ↓wp_cond, ↓wp_loop, ↓reduceIte, reduceCtorEq, Nat.reduceEqDiff, Nat.reduceLT, Nat.reduceAdd, Nat.reduceMul, bT, ↓sg_bsl, ↓st_callf, bX, ap_mkfn, ae_callvV, callvV_fn, List.cons_append, List.nil_append, boxV_i]
        refine ⟨n - 1, by omega, ?_⟩
        rw [hI]
        exact ⟨rfl, i + 1, by omega, (by simp only [bE, Nat.reduceEqDiff, bN, Nat.reduceLT, he, e0, e1, e12, e13]; try rfl), (by simp only [bE, Nat.reduceEqDiff, bN, Nat.reduceLT, he, e0, e1, e12, e13]; try rfl), (by simp only [bE, Nat.reduceEqDiff, bN, Nat.reduceLT, he, e0, e1, e12, e13]; try rfl), (by simp only [bE, Nat.reduceEqDiff, bN, Nat.reduceLT, he, e0, e1, e12, e13]; try rfl), (by simp only [bE, Nat.reduceEqDiff, bN, Nat.reduceLT, he, e0, e1, e12, e13]; try rfl), pre_next (P := fun k y => m[k]? = some y) hx hpre (by rw [hp]; exact hy)⟩
      · have hz := eq_false hp
        have hS : decide (l = m) = false := decide_eq_false (ne_at hx hy hp)
        simp (config := {contextual := true, maxDischargeDepth := 12}) only [tb_at, he, e0, e1, e12, e13, hL, hM, hlt, hw2, a1, i1, b1, i2, hz, hS, reserve0, ↓bD, bU, forall_const, bS, implies_true, isNx, eq_self, ↓wp_cond, ↓wp_loop, ↓reduceIte, reduceCtorEq, Nat.reduceEqDiff, Nat.reduceLT, Nat.reduceAdd, Nat.reduceMul, bT, ↓sg_bsl, ↓st_callf, bX, ap_mkfn, ae_callvV, callvV_fn, List.cons_append, List.nil_append, boxV_i]
        all_goals first | exact .refl _ | skip
    · obtain rfl : i = l.length := by omega
      have hS : decide (l = m) = true := decide_eq_true (eq_of_at hlm fun k x y hx hy => by
        have := hpre k x (getlt hx) hx
        rw [hy] at this
        exact (Option.some.inj this).symm)
      simp (config := {contextual := true, maxDischargeDepth := 12}) only [tb_at, he, e0, e1, e12, e13, hL, hM, hlt, hS, ↓bD, bU, forall_const, bS, implies_true, isNx, eq_self, ↓wp_cond, ↓wp_loop, ↓reduceIte, reduceCtorEq, Nat.reduceEqDiff, Nat.reduceLT, Nat.reduceAdd, Nat.reduceMul, bT, ↓sg_bsl, ↓st_callf, bX, ap_mkfn, ae_callvV, callvV_fn, List.cons_append, List.nil_append, boxV_i]
      all_goals first | exact .refl _ | skip
  · have hz : ((l.length : Int) = (m.length : Int)) = False := eq_false (by omega)
    have hS : decide (l = m) = false := decide_eq_false fun h => hlm (by rw [h])
    simp (config := {contextual := true, maxDischargeDepth := 12}) only [tb_at, h0, h1, hlen, hL, hM, hz, hS, ↓bD, bU, forall_const, bS, implies_true, isNx, eq_self, ↓wp_cond, ↓wp_loop, ↓reduceIte, reduceCtorEq, Nat.reduceEqDiff, Nat.reduceLT, Nat.reduceAdd, Nat.reduceMul, bT, ↓sg_bsl, ↓st_callf, bX, ap_mkfn, ae_callvV, callvV_fn, List.cons_append, List.nil_append, boxV_i]
    all_goals first | exact .refl _ | skip
theorem q_EqD (cl : Bool) {s : St} {v : AV} {l : List Dot} (hr : read dotC s v = some l) (hl : l.length ≤ lim) {w : AV} {m : List Dot} (hrw : read dotC s w = some m) (hm : m.length ≤ lim) : acall R_EqD cl [v, w] s = some (.bool (decide (l = m)), s) := run_same n_EqD (by simp [a66]) rfl (w_EqD (s := lowd s) (read_low' hr) hl (read_low' hrw) hm)

end Go.AM
end
/-
  Looking at contexts: the program and the reference. Own work of this project; in part printed by a program of it.
-/
section
set_option maxRecDepth 100000
set_option maxHeartbeats 8000000
namespace Go.AM
open Go Go.Proofs

variable {s t u : St}

theorem read_oneD {v : AV} {l : List Dot} (h : read dotC s v = some l) : v.cells = [v] ∧ v.one = true := by
  cases v <;> simp_all [read, AV.cells, AV.one]
theorem box_ctx (s : St) (v w : AV) (hK : Keep (s.push (.row [v, w] true)) t) : lod t 2 (.ptr s.next 0) = some (.agg [v, w]) ∧ lod1 t (.ptr s.next 0) = some v ∧ lod1 t (.ptr s.next 1) = some w ∧ ltN s.next t := by
  have h := hK.blk (St.get_push_new s (.row [v, w] true))
  obtain ⟨h1, h2, h3⟩ := row2_lod h
  exact ⟨by simp [lod, h], h1, h2, h3⟩
theorem wrap_vget {v : List Dot} (h : vvalid v = true) (k : Int) : IntKind.i64.wrap (vget v k + 1) = vget v k + 1 := by
  have h1 := vget_nn h k
  obtain ⟨n, hn⟩ : ∃ n : Nat, vget v k = (n : Int) := ⟨(vget v k).toNat, by omega⟩
  rw [hn]
  have := wrap_add1 (n := n) (by omega)
  rw [this]
  omega
theorem vvalid_bad {l : List Dot} {i : Nat} {x : Dot} (hx : l[i]? = some x) (h : x.valid = false) : vvalid l = false := by
  unfold vvalid
  rw [all_false hx h, Bool.and_false]
theorem vvalid_unsorted {l : List Dot} {i : Nat} {x y : Dot} (hx : l[i]? = some x) (hy : l[i + 1]? = some y) (h : y.r ≤ x.r) : vvalid l = false := by
  have : chain vlt l = false := by
    rw [← Bool.not_eq_true]
    intro hc
    have := (chain_iff vlt l).1 hc i x y hx hy
    simp only [vlt, decide_eq_true_eq] at this
    omega
  unfold vvalid
  rw [this, Bool.false_and]
theorem vvalid_good {l : List Dot} (h : ∀ k y, k < l.length → l[k]? = some y → y.valid = true ∧ ∀ j z, j + 1 = k → l[j]? = some z → z.r < y.r) : vvalid l = true := by
  unfold vvalid
  rw [Bool.and_eq_true]
  refine ⟨(chain_iff vlt l).2 fun i x y hx hy => ?_, all_at fun k y hk hy => (h k y hk hy).1⟩
  have := (h (i + 1) y (getlt hy) hy).2 i x rfl hx
  simpa [vlt] using this
theorem setD_bad {l : List Dot} {i : Nat} {x y : Dot} (hx : l[i]? = some x) (hy : l[i + 1]? = some y) (h : x.before y = false) : setD l = false := by
  rw [← Bool.not_eq_true]
  intro hc
  have := (chain_iff Dot.before l).1 hc i x y hx hy
  rw [h] at this
  cases this
noncomputable def R_VValid : Con := runFn (tb [(105, R_AnyV)]) a85
theorem s_VValid : SoundAt Tryz.prog 85 R_VValid := run_sound (tb_sound (l := [(105, R_AnyV)]) (by simpa using s_AnyV)) mixed Tryz.func85 k85 c85
theorem n_VValid : noNxtC a85.body = true := by kernel_rfl
theorem w_VValid {s : St} {v : AV} {l : List Dot} (hr : read dotC s v = some l) (hl : l.length ≤ lim) : ∀ env : Env, elen env = a85.ntmps → (∀ i x_, [v][i]? = some x_ → E env i = x_) → awp (tb [(105, R_AnyV)]) a85.body (fun x e t => (∀ i, x ≠ .exit i) ∧ aresults e t a85.results = some (.bool (vvalid l)) ∧ Keep s t) env s := by
  intro env hlen ha
  have h0 : E env 0 = _ := ha 0 _ rfl
  have hlen : elen env = _ := hlen
  simp only [a85] at hlen
  unfold a85
  try dsimp only [oO, oG]
  have hL := lenV_read hr
  have qa := q_AnyV false hr hl
  simp (config := {contextual := true, maxDischargeDepth := 12}) only [tb_at, h0, hlen, hL, ↓bD, bU, forall_const, bS, implies_true, isNx, eq_self, ↓wp_cond, ↓wp_loop, ↓reduceIte, reduceCtorEq, Nat.reduceEqDiff, Nat.reduceLT, Nat.reduceAdd, Nat.reduceMul, bT, ↓sg_bsl, ↓st_callf, bX, ap_mkfn, ae_callvV, callvV_fn, List.cons_append, List.nil_append, boxV_i, boxV_dot]
  obtain ⟨I, hI⟩ : ∃ I : Nat → Env → St → Prop, ∀ n e t, I n e t = (t = s ∧ ∃ i : Nat, n + i = l.length ∧ elen e = 25 ∧ E e 0 = v ∧ E e 3 = .int .i64 ((i + 1 : Nat) : Int) ∧ ∀ k x y, k < i → l[k]? = some x → l[k + 1]? = some y → x.r < y.r) := ⟨fun n e t => (t = s ∧ ∃ i : Nat, n + i = l.length ∧ elen e = 25 ∧ E e 0 = v ∧ E e 3 = .int .i64 ((i + 1 : Nat) : Int) ∧ ∀ k x y, k < i → l[k]? = some x → l[k + 1]? = some y → x.r < y.r), fun _ _ _ => rfl⟩
  refine lwp_inv I (n := l.length) ?_ ?_
  · rw [hI]
    exact ⟨rfl, 0, by omega, (by simp only [bE, Nat.reduceEqDiff, bN, Nat.reduceLT, hlen]; try rfl), (by simp only [bE, Nat.reduceEqDiff, bN, Nat.reduceLT, hlen, h0]; try rfl), (by simp only [bE, Nat.reduceEqDiff, bN, Nat.reduceLT, hlen]; try rfl), fun k x y hk => by omega⟩
  intro n e t hi
  rw [hI] at hi
  obtain ⟨hK, i, hni, he, e0, e3, hpre⟩ := hi
  subst hK
  by_cases hlt : i + 1 < l.length
  · obtain ⟨x, hx⟩ := getsome (l := l) (i := i) (by omega)
    obtain ⟨y, hy⟩ := getsome hlt
    have hw1 := wrap_sub1 (n := i) (by unfold lim at hl; omega)
    have hw2 := wrap_add1 (n := i + 1) (by unfold lim at hl; omega)
    obtain ⟨a1, a2, a3, a4⟩ := dot_lods hr (.refl _) hx
    have i1 := dot_idx hr hx .i64
    obtain ⟨b1, b2, b3, b4⟩ := dot_lods hr (.refl _) hy
    have i2 := dot_idx hr hy .i64
    by_cases hp : y.r ≤ x.r
    · have hz := eq_true hp
      have hS : vvalid l = false := vvalid_unsorted hx hy hp
      simp (config := {contextual := true, maxDischargeDepth := 12}) only [tb_at, he, e0, e3, hL, hlt, hw1, hw2, a2, i1, b2, i2, hz, hS, reserve0, ↓bD, bU, forall_const, bS, implies_true, isNx, eq_self, ↓wp_cond, ↓wp_loop, ↓reduceIte, reduceCtorEq, Nat.reduceEqDiff, Nat.reduceLT, Nat.reduceAdd, Nat.reduceMul, bT, ↓sg_bsl, ↓st_callf, bX, ap_mkfn, ae_callvV, callvV_fn, List.cons_append, List.nil_append, boxV_i, boxV_dot]
      all_goals first | exact .refl _ | skip
    · have hz := eq_false hp
      simp (config := {contextual := true, maxDischargeDepth := 12}) only [tb_at, he, e0, e3, hL, hlt, hw1, hw2, a2, i1, b2, i2, hz, reserve0, ↓bD, bU, forall_const, bS, implies_true, isNx, eq_self, ↓wp_cond, ↓wp_loop, ↓reduceIte, reduceCtorEq, Nat.reduceEqDiff, Nat.reduceLT, Nat.reduceAdd, Nat.reduceMul, bT, ↓sg_bsl, ↓st_callf, bX, ap_mkfn, ae_callvV, callvV_fn, List.cons_append, List.nil_append, boxV_i, boxV_dot]
      refine ⟨n - 1, by omega, ?_⟩
      rw [hI]
      refine ⟨rfl, i + 1, by omega, (by simp only [bE, Nat.reduceEqDiff, bN, Nat.reduceLT, he, e0, e3]; try rfl), (by simp only [bE, Nat.reduceEqDiff, bN, Nat.reduceLT, he, e0, e3]; try rfl), (by simp only [bE, Nat.reduceEqDiff, bN, Nat.reduceLT, he, e0, e3]; try rfl), fun k a b hk ha hb => ?_⟩
      by_cases e : k = i
      · subst e
        rw [hx] at ha; rw [hy] at hb
        injection ha with ha; injection hb with hb
        subst ha; subst hb
        omega
      · exact hpre k a b (by omega) ha hb
  · have hchain : chain vlt l = true := (chain_iff vlt l).2 fun k a b ha hb => by
      have := hpre k a b (by have := getlt hb; omega) ha hb
      simpa [vlt] using this
    have hS : l.all Dot.valid = vvalid l := by unfold vvalid; rw [hchain, Bool.true_and]
    have hz : ((((i + 1 : Nat) : Int)) < (l.length : Int)) = False := eq_false (by omega)
    have hnn : (!!l.all Dot.valid) = vvalid l := by rw [Bool.not_not]; exact hS
    simp (config := {contextual := true, maxDischargeDepth := 12}) only [tb_at, he, e0, e3, hL, hz, qa, notV_bool, hnn, ↓bD, bU, forall_const, bS, implies_true, isNx, eq_self, ↓wp_cond, ↓wp_loop, ↓reduceIte, reduceCtorEq, Nat.reduceEqDiff, Nat.reduceLT, Nat.reduceAdd, Nat.reduceMul, bT, ↓sg_bsl, ↓st_callf, bX, ap_mkfn, ae_callvV, callvV_fn, List.cons_append, List.nil_append, boxV_i, boxV_dot]
    all_goals first | exact .refl _ | skip
theorem q_VValid (cl : Bool) {s : St} {v : AV} {l : List Dot} (hr : read dotC s v = some l) (hl : l.length ≤ lim) : acall R_VValid cl [v] s = some (.bool (vvalid l), s) := run_same n_VValid (by simp [a85]) rfl (w_VValid (s := lowd s) (read_low' hr) hl)
end Go.AM
end
/-
  Questions about contexts: the program and the reference. Own work of this project; in part printed by a program of it.
-/
section
set_option maxRecDepth 100000
set_option maxHeartbeats 8000000
namespace Go.AM
open Go Go.Proofs

variable {s t u : St}

theorem sto_dot {n : Nat} {s : St} (h : sameN n s) (x : Dot) : sto (s.push (.row [.int .i64 0, .int .i64 0] true)) 2 (.ptr n 0) (.agg (Dot.av x)) = some (.und, s.lowed.push (.row (Dot.av x) true)) := by
  unfold sameN at h
  subst h
  simp only [sto, St.get_push_new, push_put]
  rfl
noncomputable def R_IsC1 : Con := runFn (tb [(59, R_VGet)]) a58
theorem s_IsC1 : SoundAt Tryz.prog 58 R_IsC1 := run_sound (tb_sound (l := [(59, R_VGet)]) (by simpa using s_VGet)) mixed Tryz.func58 k58 c58
theorem n_IsC1 : noNxtC a58.body = true := by kernel_rfl
theorem w_IsC1 {s : St} {b : Nat} {v w : AV} {X : DCx} (hb0 : lod1 s (.ptr b 0) = some v) (hb1 : lod1 s (.ptr b 1) = some w) (hb2 : lod s 2 (.ptr b 0) = some (.agg [v, w])) (hbl : ltN b s) (hv : read dotC s v = some X.v) (hw : read dotC s w = some X.c) (hlv : X.v.length ≤ lim) (hlw : X.c.length ≤ lim) (d : Dot) (hvv : vvalid X.v = true) : ∀ env : Env, elen env = a58.ntmps → (∀ i x_, [.agg (Dot.av d), .ptr b 0][i]? = some x_ → E env i = x_) → awp (tb [(59, R_VGet)]) a58.body (fun x e t => (∀ i, x ≠ .exit i) ∧ aresults e t a58.results = some (.bool (near X.v d)) ∧ Keep s t) env s := by
  intro env hlen ha
  have h0 : E env 0 = _ := ha 0 _ rfl
  have h1 : E env 1 = _ := ha 1 _ rfl
  have hlen : elen env = _ := hlen
  simp only [a58] at hlen
  unfold a58
  try dsimp only [oO, oG]
  have hK1 : Keep s (s.push (.row (Dot.av d) true)) := (Keep.refl s).push _
  obtain ⟨b1, b2, b3, b4⟩ := box_dot s d (.refl _)
  have q := q_VGet true (hK1.read hv) hlv d.r
  have hwr := wrap_vget hvv d.r
  have hS : decide (d.c ≤ vget X.v d.r + 1) = near X.v d := rfl
  simp (config := {contextual := true, maxDischargeDepth := 12}) only [tb_at, h0, h1, hlen, b1, b2, b3, b4, hb0, hbl, q, hwr, hS, reserve0, ↓bD, bU, forall_const, bS, implies_true, isNx, eq_self, ↓wp_cond, ↓wp_loop, ↓reduceIte, reduceCtorEq, Nat.reduceEqDiff, Nat.reduceLT, Nat.reduceAdd, Nat.reduceMul, bT, ↓sg_bsl, ↓st_callf, bX, ap_mkfn, ae_callvV, callvV_fn, List.cons_append, List.nil_append, boxV_i, boxV_dot, sto_dot]
  all_goals exact hK1
theorem q_IsC1 (cl : Bool) {s : St} {b : Nat} {v w : AV} {X : DCx} (hb0 : lod1 s (.ptr b 0) = some v) (hb1 : lod1 s (.ptr b 1) = some w) (hb2 : lod s 2 (.ptr b 0) = some (.agg [v, w])) (hbl : ltN b s) (hv : read dotC s v = some X.v) (hw : read dotC s w = some X.c) (hlv : X.v.length ≤ lim) (hlw : X.c.length ≤ lim) (d : Dot) (hvv : vvalid X.v = true) : acall R_IsC1 cl [.agg (Dot.av d), .ptr b 0] s = some (.bool (near X.v d), s) := run_same n_IsC1 (by simp [a58]) rfl (w_IsC1 (s := lowd s) hb0 hb1 hb2 hbl (read_low' hv) (read_low' hw) hlv hlw d hvv)
noncomputable def R_IdxD : Con := runFn (tb [(107, R_CInv), (58, R_IsC1)]) a88
theorem s_IdxD : SoundAt Tryz.prog 88 R_IdxD := run_sound (tb_sound (l := [(107, R_CInv), (58, R_IsC1)]) (by simp [s_CInv, s_IsC1])) mixed Tryz.func88 k88 c88
theorem n_IdxD : noNxtC a88.body = true := by kernel_rfl
theorem w_IdxD {s : St} {v : AV} {l : List Dot} (hr : read dotC s v = some l) (hl : l.length ≤ lim) {T : List (Nat × Con)} {g : Nat} {caps : List AV} (p : Dot → Bool) (hf : ∀ (t : St) (d : Dot), Keep s t → acall (tb T g) false (.agg (Dot.av d) :: caps) t = some (.bool (p d), t)) : ∀ env : Env, elen env = a88.ntmps → (∀ i x_, [v, .fn g caps][i]? = some x_ → E env i = x_) → awp (tb T) a88.body (fun x e t => (∀ i, x ≠ .exit i) ∧ aresults e t a88.results = some (.int .i64 (idxD l p)) ∧ Keep s t) env s := by
  intro env hlen ha
  have h0 : E env 0 = _ := ha 0 _ rfl
  have h1 : E env 1 = _ := ha 1 _ rfl
  have hlen : elen env = _ := hlen
  simp only [a88] at hlen
  unfold a88
  try dsimp only [oO, oG]
  have hL := lenV_read hr
  simp (config := {contextual := true, maxDischargeDepth := 12}) only [tb_at, h0, h1, hlen, hL, ↓bD, bU, forall_const, bS, implies_true, isNx, eq_self, ↓wp_cond, ↓wp_loop, ↓reduceIte, reduceCtorEq, Nat.reduceEqDiff, Nat.reduceLT, Nat.reduceAdd, Nat.reduceMul, bT, ↓sg_bsl, ↓st_callf, bX, ap_mkfn, ae_callvV, callvV_fn, List.cons_append, List.nil_append, boxV_i, boxV_dot, sto_dot]
  obtain ⟨I, hI⟩ : ∃ I : Nat → Env → St → Prop, ∀ n e t, I n e t = (t = s ∧ ∃ i : Nat, n + i = l.length ∧ elen e = 19 ∧ E e 0 = v ∧ E e 1 = .fn g caps ∧ E e 6 = v ∧ E e 7 = .int .i64 (l.length : Int) ∧ E e 8 = .int .i64 (i : Int) ∧ ∀ k y, k < i → l[k]? = some y → p y = false) := ⟨fun n e t => (t = s ∧ ∃ i : Nat, n + i = l.length ∧ elen e = 19 ∧ E e 0 = v ∧ E e 1 = .fn g caps ∧ E e 6 = v ∧ E e 7 = .int .i64 (l.length : Int) ∧ E e 8 = .int .i64 (i : Int) ∧ ∀ k y, k < i → l[k]? = some y → p y = false), fun _ _ _ => rfl⟩
  refine lwp_inv I (n := l.length) ?_ ?_
  · rw [hI]
    exact ⟨rfl, 0, by omega, (by simp only [bE, Nat.reduceEqDiff, bN, Nat.reduceLT, hlen]; try rfl), (by simp only [bE, Nat.reduceEqDiff, bN, Nat.reduceLT, hlen, h0]; try rfl), (by simp only [bE, Nat.reduceEqDiff, bN, Nat.reduceLT, hlen, h1]; try rfl), (by simp only [bE, Nat.reduceEqDiff, bN, Nat.reduceLT, hlen, h0]; try rfl), (by simp only [bE, Nat.reduceEqDiff, bN, Nat.reduceLT, hlen, hL]; try rfl), (by simp only [bE, Nat.reduceEqDiff, bN, Nat.reduceLT, hlen]; try rfl), fun k y hk => by omega⟩
  intro n e t hi
  rw [hI] at hi
  obtain ⟨hK, i, hni, he, e0, e1, e6, e7, e8, hpre⟩ := hi
  subst hK
  by_cases hlt : i < l.length
  · obtain ⟨x, hx⟩ := getsome hlt
    have hw2 := wrap_add1 (n := i) (by unfold lim at hl; omega)
    obtain ⟨a1, a2, a3, a4⟩ := dot_lods hr (.refl _) hx
    have i1 := dot_idx hr hx .i64
    have hq := hf _ x (.refl _)
    cases hp : p x
    · rw [hp] at hq
      simp (config := {contextual := true, maxDischargeDepth := 12}) only [tb_at, he, e0, e1, e6, e7, e8, hL, hlt, hw2, a1, i1, hq, ↓bD, bU, forall_const, bS, implies_true, isNx, eq_self, ↓wp_cond, ↓wp_loop, ↓reduceIte, reduceCtorEq, Nat.reduceEqDiff, Nat.reduceLT, Nat.reduceAdd, Nat.reduceMul, bT, ↓sg_bsl, ↓st_callf, bX, ap_mkfn, ae_callvV, callvV_fn, List.cons_append, List.nil_append, boxV_i, boxV_dot, sto_dot]
      refine ⟨n - 1, by omega, ?_⟩
      rw [hI]
      exact ⟨rfl, i + 1, by omega, (by simp only [bE, Nat.reduceEqDiff, bN, Nat.reduceLT, he, e0, e1, e6, e7, e8]; try rfl), (by simp only [bE, Nat.reduceEqDiff, bN, Nat.reduceLT, he, e0, e1, e6, e7, e8]; try rfl), (by simp only [bE, Nat.reduceEqDiff, bN, Nat.reduceLT, he, e0, e1, e6, e7, e8]; try rfl), (by simp only [bE, Nat.reduceEqDiff, bN, Nat.reduceLT, he, e0, e1, e6, e7, e8]; try rfl), (by simp only [bE, Nat.reduceEqDiff, bN, Nat.reduceLT, he, e0, e1, e6, e7, e8]; try rfl), (by simp only [bE, Nat.reduceEqDiff, bN, Nat.reduceLT, he, e0, e1, e6, e7, e8]; try rfl), pre_next (P := fun k y => p y = false) hx hpre hp⟩
    · rw [hp] at hq
      have hS := idxD_hit hx hp hpre
      simp (config := {contextual := true, maxDischargeDepth := 12}) only [tb_at, he, e0, e1, e6, e7, e8, hL, hlt, hw2, a1, i1, hq, hS, ↓bD, bU, forall_const, bS, implies_true, isNx, eq_self, ↓wp_cond, ↓wp_loop, ↓reduceIte, reduceCtorEq, Nat.reduceEqDiff, Nat.reduceLT, Nat.reduceAdd, Nat.reduceMul, bT, ↓sg_bsl, ↓st_callf, bX, ap_mkfn, ae_callvV, callvV_fn, List.cons_append, List.nil_append, boxV_i, boxV_dot, sto_dot]
      all_goals first | exact .refl _ | skip
  · obtain rfl : i = l.length := by omega
    have hS := idxD_miss hpre
    simp (config := {contextual := true, maxDischargeDepth := 12}) only [tb_at, he, e0, e1, e6, e7, e8, hL, hlt, hS, ↓bD, bU, forall_const, bS, implies_true, isNx, eq_self, ↓wp_cond, ↓wp_loop, ↓reduceIte, reduceCtorEq, Nat.reduceEqDiff, Nat.reduceLT, Nat.reduceAdd, Nat.reduceMul, bT, ↓sg_bsl, ↓st_callf, bX, ap_mkfn, ae_callvV, callvV_fn, List.cons_append, List.nil_append, boxV_i, boxV_dot, sto_dot]
    all_goals first | exact .refl _ | skip
theorem q_IdxD (cl : Bool) {s : St} {v : AV} {l : List Dot} (hr : read dotC s v = some l) (hl : l.length ≤ lim) {g : Nat} {caps : List AV} (p : Dot → Bool) (hf : ∀ (t : St) (d : Dot), Keep s t → acall (tb [(107, R_CInv), (58, R_IsC1)] g) false (.agg (Dot.av d) :: caps) t = some (.bool (p d), t)) : acall R_IdxD cl [v, .fn g caps] s = some (.int .i64 (idxD l p), s) := run_same n_IdxD (by simp [a88]) rfl (w_IdxD (s := lowd s) (read_low' hr) hl p (fun t d h => hf t d ((keep_lowd s).trans h)))
noncomputable def R_AnyD : Con := runFn (tb [(88, R_IdxD)]) a61
theorem s_AnyD : SoundAt Tryz.prog 61 R_AnyD := run_sound (tb_sound (l := [(88, R_IdxD)]) (by simpa using s_IdxD)) mixed Tryz.func61 k61 c61
theorem n_AnyD : noNxtC a61.body = true := by kernel_rfl
theorem w_AnyD {s : St} {v : AV} {l : List Dot} (hr : read dotC s v = some l) (hl : l.length ≤ lim) {g : Nat} {caps : List AV} (p : Dot → Bool) (hf : ∀ (t : St) (d : Dot), Keep s t → acall (tb [(107, R_CInv), (58, R_IsC1)] g) false (.agg (Dot.av d) :: caps) t = some (.bool (p d), t)) : ∀ env : Env, elen env = a61.ntmps → (∀ i x_, [v, .fn g caps][i]? = some x_ → E env i = x_) → awp (tb [(88, R_IdxD)]) a61.body (fun x e t => (∀ i, x ≠ .exit i) ∧ aresults e t a61.results = some (.bool (l.any p)) ∧ Keep s t) env s := by
  intro env hlen ha
  have h0 : E env 0 = _ := ha 0 _ rfl
  have h1 : E env 1 = _ := ha 1 _ rfl
  have hlen : elen env = _ := hlen
  simp only [a61] at hlen
  unfold a61
  try dsimp only [oO, oG]
  have q := q_IdxD false hr hl p hf
  have hS : decide (0 ≤ idxD l p) = l.any p := by
    simp only [idxD_ge, Bool.decide_eq_true]
  simp (config := {contextual := true, maxDischargeDepth := 12}) only [tb_at, h0, h1, hlen, q, hS, ↓bD, bU, forall_const, bS, implies_true, isNx, eq_self, ↓wp_cond, ↓wp_loop, ↓reduceIte, reduceCtorEq, Nat.reduceEqDiff, Nat.reduceLT, Nat.reduceAdd, Nat.reduceMul, bT, ↓sg_bsl, ↓st_callf, bX, ap_mkfn, ae_callvV, callvV_fn, List.cons_append, List.nil_append, boxV_i, boxV_dot, sto_dot]
  all_goals exact .refl s
theorem q_AnyD (cl : Bool) {s : St} {v : AV} {l : List Dot} (hr : read dotC s v = some l) (hl : l.length ≤ lim) {g : Nat} {caps : List AV} (p : Dot → Bool) (hf : ∀ (t : St) (d : Dot), Keep s t → acall (tb [(107, R_CInv), (58, R_IsC1)] g) false (.agg (Dot.av d) :: caps) t = some (.bool (p d), t)) : acall R_AnyD cl [v, .fn g caps] s = some (.bool (l.any p), s) := run_same n_AnyD (by simp [a61]) rfl (w_AnyD (s := lowd s) (read_low' hr) hl p (fun t d h => hf t d ((keep_lowd s).trans h)))
noncomputable def R_Cval : Con := runFn (tb [(61, R_AnyD)]) a87
theorem s_Cval : SoundAt Tryz.prog 87 R_Cval := run_sound (tb_sound (l := [(61, R_AnyD)]) (by simpa using s_AnyD)) mixed Tryz.func87 k87 c87
theorem n_Cval : noNxtC a87.body = true := by kernel_rfl
theorem w_Cval {s : St} {v : AV} {l : List Dot} (hr : read dotC s v = some l) (hl : l.length ≤ lim) : ∀ env : Env, elen env = a87.ntmps → (∀ i x_, [v][i]? = some x_ → E env i = x_) → awp (tb [(61, R_AnyD)]) a87.body (fun x e t => (∀ i, x ≠ .exit i) ∧ aresults e t a87.results = some (.bool (l.all Dot.valid)) ∧ Keep s t) env s := by
  intro env hlen ha
  have h0 : E env 0 = _ := ha 0 _ rfl
  have hlen : elen env = _ := hlen
  simp only [a87] at hlen
  unfold a87
  try dsimp only [oO, oG]
  have q := q_AnyD false hr hl (fun d => !d.valid) (g := 107) (caps := []) fun t d _ => q_CInv false d
  have hS : (!l.any fun d => !d.valid) = l.all Dot.valid := by rw [any_inv, Bool.not_not]
  simp (config := {contextual := true, maxDischargeDepth := 12}) only [tb_at, h0, hlen, q, notV_bool, hS, ↓bD, bU, forall_const, bS, implies_true, isNx, eq_self, ↓wp_cond, ↓wp_loop, ↓reduceIte, reduceCtorEq, Nat.reduceEqDiff, Nat.reduceLT, Nat.reduceAdd, Nat.reduceMul, bT, ↓sg_bsl, ↓st_callf, bX, ap_mkfn, ae_callvV, callvV_fn, List.cons_append, List.nil_append, boxV_i, boxV_dot, sto_dot]
  all_goals exact .refl s
theorem q_Cval (cl : Bool) {s : St} {v : AV} {l : List Dot} (hr : read dotC s v = some l) (hl : l.length ≤ lim) : acall R_Cval cl [v] s = some (.bool (l.all Dot.valid), s) := run_same n_Cval (by simp [a87]) rfl (w_Cval (s := lowd s) (read_low' hr) hl)
noncomputable def R_CValid : Con := runFn (tb [(85, R_VValid), (86, conL dotC fIsSet), (87, R_Cval)]) a60
theorem s_CValid : SoundAt Tryz.prog 60 R_CValid := run_sound (tb_sound (l := [(85, R_VValid), (86, conL dotC fIsSet), (87, R_Cval)]) (by simpa using ⟨s_VValid, s_IsSet, s_Cval⟩)) mixed Tryz.func60 k60 c60
theorem n_CValid : noNxtC a60.body = true := by kernel_rfl
theorem w_CValid {s : St} {v w : AV} {X : DCx} (hv : read dotC s v = some X.v) (hw : read dotC s w = some X.c) (hlv : X.v.length ≤ lim) (hlw : X.c.length ≤ lim) : ∀ env : Env, elen env = a60.ntmps → (∀ i x_, [.agg [v, w]][i]? = some x_ → E env i = x_) → awp (tb [(85, R_VValid), (86, conL dotC fIsSet), (87, R_Cval)]) a60.body (fun x e t => (∀ i, x ≠ .exit i) ∧ aresults e t a60.results = some (.bool (cvalid X)) ∧ Keep s t) env s := by
  intro env hlen ha
  have h0 : E env 0 = _ := ha 0 _ rfl
  have hlen : elen env = _ := hlen
  simp only [a60] at hlen
  unfold a60
  try dsimp only [oO, oG]
  have hbx := boxV_2 (read_oneD hv).2 (read_oneD hw).2
  have hK1 : Keep s (s.push (.row [v, w] true)) := (Keep.refl s).push _
  obtain ⟨c1, c2, c3, c4⟩ := box_ctx s v w (.refl _)
  have hv1 := hK1.read hv
  have hw1 := hK1.read hw
  have q1 := q_VValid false hv1 hlv
  have q2 := q_IsSet false hw1 hlw
  have q3 := q_Cval false hw1 hlw
  have hS : ((vvalid X.v && setD X.c) && X.c.all Dot.valid) = cvalid X := by
    unfold cvalid
    rw [Bool.and_assoc]
  simp (config := {contextual := true, maxDischargeDepth := 12}) only [tb_at, h0, hlen, hbx, c1, c2, c3, c4, q1, q2, q3, hS, ↓bD, bU, forall_const, bS, implies_true, isNx, eq_self, ↓wp_cond, ↓wp_loop, ↓reduceIte, reduceCtorEq, Nat.reduceEqDiff, Nat.reduceLT, Nat.reduceAdd, Nat.reduceMul, bT, ↓sg_bsl, ↓st_callf, bX, ap_mkfn, ae_callvV, callvV_fn, List.cons_append, List.nil_append, boxV_i, boxV_dot, sto_dot]
  all_goals exact hK1
theorem q_CValid (cl : Bool) {s : St} {v w : AV} {X : DCx} (hv : read dotC s v = some X.v) (hw : read dotC s w = some X.c) (hlv : X.v.length ≤ lim) (hlw : X.c.length ≤ lim) : acall R_CValid cl [.agg [v, w]] s = some (.bool (cvalid X), s) := run_same n_CValid (by simp [a60]) rfl (w_CValid (s := lowd s) (read_low' hv) (read_low' hw) hlv hlw)
noncomputable def R_CEqual : Con := runFn (tb [(65, R_EqV), (66, R_EqD)]) a46
theorem s_CEqual : SoundAt Tryz.prog 46 R_CEqual := run_sound (tb_sound (l := [(65, R_EqV), (66, R_EqD)]) (by simpa using ⟨s_EqV, s_EqD⟩)) mixed Tryz.func46 k46 c46
theorem n_CEqual : noNxtC a46.body = true := by kernel_rfl
theorem w_CEqual {s : St} {v w : AV} {X : DCx} (hv : read dotC s v = some X.v) (hw : read dotC s w = some X.c) (hlv : X.v.length ≤ lim) (hlw : X.c.length ≤ lim) {v' w' : AV} {Y : DCx} (kv : read dotC s v' = some Y.v) (kw : read dotC s w' = some Y.c) (klv : Y.v.length ≤ lim) (klw : Y.c.length ≤ lim) : ∀ env : Env, elen env = a46.ntmps → (∀ i x_, [.agg [v, w], .agg [v', w']][i]? = some x_ → E env i = x_) → awp (tb [(65, R_EqV), (66, R_EqD)]) a46.body (fun x e t => (∀ i, x ≠ .exit i) ∧ aresults e t a46.results = some (.bool (decide (X = Y))) ∧ Keep s t) env s := by
  intro env hlen ha
  have h0 : E env 0 = _ := ha 0 _ rfl
  have h1 : E env 1 = _ := ha 1 _ rfl
  have hlen : elen env = _ := hlen
  simp only [a46] at hlen
  unfold a46
  try dsimp only [oO, oG]
  have hbx := boxV_2 (read_oneD hv).2 (read_oneD hw).2
  have hby := boxV_2 (read_oneD kv).2 (read_oneD kw).2
  have hK2 : Keep s ((s.push (.row [v, w] true)).push (.row [v', w'] true)) := ((Keep.refl s).push _).push _
  obtain ⟨c1, c2, c3, c4⟩ := box_ctx s v w ((Keep.refl _).push (.row [v', w'] true))
  obtain ⟨d1, d2, d3, d4⟩ := box_ctx (s.push (.row [v, w] true)) v' w' (.refl _)
  have q1 := q_EqV false (hK2.read hv) hlv (hK2.read kv) klv
  have q2 := q_EqD false (hK2.read hw) hlw (hK2.read kw) klw
  have hS : (decide (X.v = Y.v) && decide (X.c = Y.c)) = decide (X = Y) := by
    obtain ⟨xv, xc⟩ := X
    obtain ⟨yv, yc⟩ := Y
    rw [Bool.eq_iff_iff]
    simp
  simp (config := {contextual := true, maxDischargeDepth := 12}) only [tb_at, h0, h1, hlen, hbx, hby, c1, c2, c3, c4, d1, d2, d3, d4, q1, q2, hS, ↓bD, bU, forall_const, bS, implies_true, isNx, eq_self, ↓wp_cond, ↓wp_loop, ↓reduceIte, reduceCtorEq, Nat.reduceEqDiff, Nat.reduceLT, Nat.reduceAdd, Nat.reduceMul, bT, ↓sg_bsl, ↓st_callf, bX, ap_mkfn, ae_callvV, callvV_fn, List.cons_append, List.nil_append, boxV_i, boxV_dot, sto_dot]
  all_goals exact hK2
theorem q_CEqual (cl : Bool) {s : St} {v w : AV} {X : DCx} (hv : read dotC s v = some X.v) (hw : read dotC s w = some X.c) (hlv : X.v.length ≤ lim) (hlw : X.c.length ≤ lim) {v' w' : AV} {Y : DCx} (kv : read dotC s v' = some Y.v) (kw : read dotC s w' = some Y.c) (klv : Y.v.length ≤ lim) (klw : Y.c.length ≤ lim) : acall R_CEqual cl [.agg [v, w], .agg [v', w']] s = some (.bool (decide (X = Y)), s) := run_same n_CEqual (by simp [a46]) rfl (w_CEqual (s := lowd s) (read_low' hv) (read_low' hw) hlv hlw (read_low' kv) (read_low' kw) klv klw)
noncomputable def R_IsC : Con := runFn (tb [(60, R_CValid), (61, R_AnyD)]) a37
theorem s_IsC : SoundAt Tryz.prog 37 R_IsC := run_sound (tb_sound (l := [(60, R_CValid), (61, R_AnyD)]) (by simpa using ⟨s_CValid, s_AnyD⟩)) mixed Tryz.func37 k37 c37
theorem n_IsC : noNxtC a37.body = true := by kernel_rfl
theorem w_IsC {s : St} {v w : AV} {X : DCx} (hv : read dotC s v = some X.v) (hw : read dotC s w = some X.c) (hlv : X.v.length ≤ lim) (hlw : X.c.length ≤ lim) : ∀ env : Env, elen env = a37.ntmps → (∀ i x_, [.agg [v, w]][i]? = some x_ → E env i = x_) → awp (tb [(60, R_CValid), (61, R_AnyD)]) a37.body (fun x e t => (∀ i, x ≠ .exit i) ∧ aresults e t a37.results = some (.bool (isC X)) ∧ Keep s t) env s := by
  intro env hlen ha
  have h0 : E env 0 = _ := ha 0 _ rfl
  have hlen : elen env = _ := hlen
  simp only [a37] at hlen
  unfold a37
  try dsimp only [oO, oG]
  have hbx := boxV_2 (read_oneD hv).2 (read_oneD hw).2
  have hK1 : Keep s (s.push (.row [v, w] true)) := (Keep.refl s).push _
  obtain ⟨c1, c2, c3, c4⟩ := box_ctx s v w (.refl _)
  have hv1 := hK1.read hv
  have hw1 := hK1.read hw
  have q1 := q_CValid false hv1 hw1 hlv hlw
  have hS : (cvalid X && !X.c.any (near X.v)) = isC X := rfl
  cases hc : cvalid X
  · rw [hc] at q1 hS
    have hS : isC X = false := by rw [← hS]; rfl
    simp (config := {contextual := true, maxDischargeDepth := 12}) only [tb_at, h0, hlen, hbx, c1, c2, c3, c4, q1, hS, ↓bD, bU, forall_const, bS, implies_true, isNx, eq_self, ↓wp_cond, ↓wp_loop, ↓reduceIte, reduceCtorEq, Nat.reduceEqDiff, Nat.reduceLT, Nat.reduceAdd, Nat.reduceMul, bT, ↓sg_bsl, ↓st_callf, bX, ap_mkfn, ae_callvV, callvV_fn, List.cons_append, List.nil_append, boxV_i, boxV_dot, sto_dot]
    all_goals exact hK1
  · rw [hc] at q1 hS
    rw [Bool.true_and] at hS
    have hvv := ((cvalid_iff X).1 hc).1
    have q2 := q_AnyD false hw1 hlw (near X.v) (g := 58) (caps := [.ptr s.next 0]) fun t d hk => by
      obtain ⟨d1, d2, d3, d4⟩ := box_ctx s v w hk
      exact q_IsC1 false d2 d3 d1 d4 (hk.read hv1) (hk.read hw1) hlv hlw d hvv
    simp (config := {contextual := true, maxDischargeDepth := 12}) only [tb_at, h0, hlen, hbx, c1, c2, c3, c4, q1, q2, notV_bool, hS, ↓bD, bU, forall_const, bS, implies_true, isNx, eq_self, ↓wp_cond, ↓wp_loop, ↓reduceIte, reduceCtorEq, Nat.reduceEqDiff, Nat.reduceLT, Nat.reduceAdd, Nat.reduceMul, bT, ↓sg_bsl, ↓st_callf, bX, ap_mkfn, ae_callvV, callvV_fn, List.cons_append, List.nil_append, boxV_i, boxV_dot, sto_dot]
    all_goals exact hK1
theorem q_IsC (cl : Bool) {s : St} {v w : AV} {X : DCx} (hv : read dotC s v = some X.v) (hw : read dotC s w = some X.c) (hlv : X.v.length ≤ lim) (hlw : X.c.length ≤ lim) : acall R_IsC cl [.agg [v, w]] s = some (.bool (isC X), s) := run_same n_IsC (by simp [a37]) rfl (w_IsC (s := lowd s) (read_low' hv) (read_low' hw) hlv hlw)
end Go.AM
end
/-
  DERIVED: THE SHELF's CONTRACTS AT THIS DUMP, IN PLAIN WORDS (tools/lay-plain.mjs out of 'YtoacffbhciccnaaGreatAmShelf.lean', which tools/lay-shelf.mjs wrote): THE SAME DECLARATIONS UNDER THE SAME NAMES: 'import', 'namespace', 'open', 'def', 'theorem' AND NOTHING ELSE: no command of the shelf's: FOR A HAND-IN. Each laying: the table of numbers ('.._ren') and one theorem, a field a fact of the dump's own or the kernel's comparison; each contract: ONE APPLICATION.
-/
section
namespace Go.Proofs
open Go.Shelf
def Tryz.sortDot_ren : Go.Shelf.Ren := ⟨fun | 6 => 119 | 15 => 117 | 14 => 116 | 28 => 129 | 29 => 130 | 20 => 121 | 21 => 122 | 22 => 123 | 23 => 124 | 24 => 125 | 25 => 126 | 26 => 127 | 27 => 128 | 46 => 131 | 47 => 132 | 48 => 133 | 49 => 134 | 50 => 135 | 57 => 136 | n => n, fun | 22 => 27 | 24 => 54 | 25 => 72 | 3 => 3 | 39 => 124 | 0 => 0 | 53 => 135 | 55 => 137 | 4 => 4 | 46 => 128 | 45 => 127 | 50 => 132 | 5 => 5 | 9 => 9 | 66 => 138 | 70 => 142 | 76 => 144 | 77 => 145 | n => n, fun | n => n⟩
theorem Tryz.sortDot : Go.Proofs.SlLaysF0.n6 Tryz.prog Tryz.sortDot_ren := {
  mixed := by kernel_rfl
  f6 := ⟨Tryz.f119.name, by decide, Tryz.func119.trans (congrArg some (by kernel_rfl))⟩
  f14 := ⟨Tryz.f116.name, by decide, Tryz.func116.trans (congrArg some (by kernel_rfl))⟩
  f15 := Tryz.func117.trans (congrArg some (by kernel_rfl))
  f20 := ⟨Tryz.f121.name, by decide, Tryz.func121.trans (congrArg some (by kernel_rfl))⟩
  f21 := ⟨Tryz.f122.name, by decide, Tryz.func122.trans (congrArg some (by kernel_rfl))⟩
  f22 := ⟨Tryz.f123.name, by decide, Tryz.func123.trans (congrArg some (by kernel_rfl))⟩
  f23 := ⟨Tryz.f124.name, by decide, Tryz.func124.trans (congrArg some (by kernel_rfl))⟩
  f24 := ⟨Tryz.f125.name, by decide, Tryz.func125.trans (congrArg some (by kernel_rfl))⟩
  f25 := ⟨Tryz.f126.name, by decide, Tryz.func126.trans (congrArg some (by kernel_rfl))⟩
  f26 := ⟨Tryz.f127.name, by decide, Tryz.func127.trans (congrArg some (by kernel_rfl))⟩
  f27 := ⟨Tryz.f128.name, by decide, Tryz.func128.trans (congrArg some (by kernel_rfl))⟩
  f28 := Tryz.func129.trans (congrArg some (by kernel_rfl))
  f29 := Tryz.func130.trans (congrArg some (by kernel_rfl))
  f46 := ⟨Tryz.f131.name, by decide, Tryz.func131.trans (congrArg some (by kernel_rfl))⟩
  f47 := Tryz.func132.trans (congrArg some (by kernel_rfl))
  f48 := Tryz.func133.trans (congrArg some (by kernel_rfl))
  f49 := ⟨Tryz.f134.name, by decide, Tryz.func134.trans (congrArg some (by kernel_rfl))⟩
  f50 := ⟨Tryz.f135.name, by decide, Tryz.func135.trans (congrArg some (by kernel_rfl))⟩
  f57 := ⟨Tryz.f136.name, by decide, Tryz.func136.trans (congrArg some (by kernel_rfl))⟩
  t0 := Tryz.underlying0
  a0 := Tryz.isAgg0
  z0 := Tryz.sizeOf0
  v0 := Tryz.zeroValue0
  t3 := Tryz.underlying3
  a3 := Tryz.isAgg3
  z3 := Tryz.sizeOf3
  v3 := Tryz.zeroValue3
  t4 := Tryz.underlying4
  a4 := Tryz.isAgg4
  z4 := Tryz.sizeOf4
  v4 := Tryz.zeroValue4
  t5 := Tryz.underlying5
  a5 := Tryz.isAgg5
  z5 := Tryz.sizeOf5
  v5 := Tryz.zeroValue5
  t9 := Tryz.underlying9
  a9 := Tryz.isAgg9
  z9 := Tryz.sizeOf9
  v9 := Tryz.zeroValue9
  t22 := Tryz.underlying27
  a22 := Tryz.isAgg27
  z22 := Tryz.sizeOf27
  v22 := Tryz.zeroValue27
  t25 := Tryz.underlying72
  a25 := Tryz.isAgg72
  z25 := Tryz.sizeOf72
  v25 := Tryz.zeroValue72
  t39 := Tryz.underlying124
  a39 := Tryz.isAgg124
  z39 := Tryz.sizeOf124
  v39 := Tryz.zeroValue124
  t45 := Tryz.underlying127
  a45 := Tryz.isAgg127
  z45 := Tryz.sizeOf127
  v45 := Tryz.zeroValue127
  t46 := Tryz.underlying128
  a46 := Tryz.isAgg128
  z46 := Tryz.sizeOf128
  v46 := Tryz.zeroValue128
  t50 := Tryz.underlying132
  a50 := Tryz.isAgg132
  z50 := Tryz.sizeOf132
  v50 := Tryz.zeroValue132
  t53 := Tryz.underlying135
  a53 := Tryz.isAgg135
  z53 := Tryz.sizeOf135
  v53 := Tryz.zeroValue135
  t55 := Tryz.underlying137
  a55 := Tryz.isAgg137
  z55 := Tryz.sizeOf137
  v55 := Tryz.zeroValue137
  t66 := Tryz.underlying138
  a66 := Tryz.isAgg138
  z66 := Tryz.sizeOf138
  v66 := Tryz.zeroValue138
  t70 := Tryz.underlying142
  a70 := Tryz.isAgg142
  z70 := Tryz.sizeOf142
  v70 := Tryz.zeroValue142
  t76 := Tryz.underlying144
  a76 := Tryz.isAgg144
  z76 := Tryz.sizeOf144
  v76 := Tryz.zeroValue144
  t77 := Tryz.underlying145
  a77 := Tryz.isAgg145
  z77 := Tryz.sizeOf145
  v77 := Tryz.zeroValue145 }
end Go.Proofs
end
/-
  The contracts of slices.SortFunc at dots: pdqsort under an order given by a function without captures. Own work of this project.
-/
section
set_option maxHeartbeats 1000000
namespace Go.AM
open Go Go.Proofs
open Go.Sort (HoldsK putRowK flatK get_flatK size_flatK)

instance : Inhabited Dot := ⟨⟨0, 0⟩⟩
def toValD : AV → Value
  | .int k n => .int k n
  | _ => undef
def dvals (x : Dot) : List Value := (Dot.av x).map toValD
theorem dvals_len (x : Dot) : (dvals x).length = 2 := rfl
theorem dvals_one (x : Dot) : ∀ v ∈ dvals x, v.oneCell' = true := by
  intro v hv
  simp only [dvals, Dot.av, List.map_cons, List.map_nil, toValD, List.mem_cons, List.not_mem_nil, or_false] at hv
  rcases hv with rfl | rfl <;> rfl
theorem dot_val {ρ : Ren} {x : Dot} {i : Nat} {v : AV} {c : Value} (h : (Dot.av x)[i]? = some v) (k : VR ρ v c) : (dvals x)[i]? = some c := by
  simp only [dvals, List.getElem?_map, h, Option.map_some, Option.some.injEq]
  have : v ∈ Dot.av x := List.mem_of_getElem? h
  simp only [Dot.av, List.mem_cons, List.not_mem_nil, or_false] at this
  rcases this with rfl | rfl <;> (simp only [VR] at k; rw [k]; rfl)
theorem dot_VR {ρ : Ren} {x : Dot} {i : Nat} {v : AV} (h : (Dot.av x)[i]? = some v) : ∃ c, (dvals x)[i]? = some c ∧ VR ρ v c := by
  refine ⟨toValD v, by simp [dvals, h], ?_⟩
  have : v ∈ Dot.av x := List.mem_of_getElem? h
  simp only [Dot.av, List.mem_cons, List.not_mem_nil, or_false] at this
  rcases this with rfl | rfl <;> simp [VR, toValD]
theorem dcells_get : ∀ (l : List Dot) (t : Nat), (dotC.cells l)[t]? = (l[t / 2]?).bind fun x => (Dot.av x)[t % 2]?
  | [], t => by simp [cells_nil]
  | x :: l, t => by
    rw [cells_cons]
    have hl : (dotC.enc x).length = 2 := rfl
    by_cases h : t < 2
    · rw [List.getElem?_append_left (by omega), Nat.div_eq_of_lt h, Nat.mod_eq_of_lt h]
      rfl
    · rw [List.getElem?_append_right (by omega), hl, dcells_get l (t - 2)]
      have e1 : t / 2 = (t - 2) / 2 + 1 := by omega
      have e2 : t % 2 = (t - 2) % 2 := by omega
      rw [e1, e2]
      rfl
theorem clean_growD {W W' : World} (h : Clean W W') : ∃ q os, W' = Sort.grow (W.drewN q) os := by
  refine ⟨W'.drawn - W.drawn, W'.heap.extract W.heap.size W'.heap.size, ?_⟩
  have hd := h.drawn
  have hh : W'.heap = W.heap ++ W'.heap.extract W.heap.size W'.heap.size := by
    have hs := h.size
    apply Array.ext_getElem?
    intro i
    rw [Array.getElem?_append]
    split
    · exact h.block i (by assumption)
    · rw [Array.getElem?_extract]
      by_cases hi : i < W'.heap.size
      · rw [if_pos (by omega)]
        congr 1
        omega
      · rw [if_neg (by omega), Array.getElem?_eq_none (by omega)]
  have h1 := h.os
  have h2 := h.tape
  have h3 := h.output
  cases W'
  cases W
  simp only [Sort.grow, World.drewN] at *
  subst h1; subst h2; subst h3
  congr 1
  omega
theorem dcmp_lays {g : Nat} {c : Con} {cf : Dot → Dot → Int} (hs : SoundAt Tryz.prog g c) (hc : ∀ x y : Dot, c [.agg (Dot.av x), .agg (Dot.av y)] St.empty = some (.int .i64 (cf x y), St.empty)) (w : World) (blk off size : Nat) : CmpLays Tryz.prog g #[] dvals 2 cf blk off size w := by
  intro m os dk hdk x y
  obtain ⟨_, _, h⟩ := hs [.agg (Dot.av x), .agg (Dot.av y)] St.empty (.int .i64 (cf x y)) St.empty (hc x y)
  have hv : ∀ x : Dot, VRs (fun _ => none) (Dot.av x) (dvals x) := fun x => by
    simp [Dot.av, dvals, toValD, VRs, VR]
  have := h (fun _ => none) (sortWorldK dvals 2 w blk off m dk os) [.agg (dvals x).toArray, .agg (dvals y).toArray] (fun _ _ => rfl) (R_empty _) (by
    rw [VRs_cons, VRs_cons]
    exact ⟨by simp only [VR]; exact ⟨_, rfl, hv x⟩, by simp only [VR]; exact ⟨_, rfl, hv y⟩, VRs_nil⟩)
  refine Calls.mono (by simpa using this) fun e w' hp => ?_
  obtain ⟨ρ', v, rfl, hv, hst, _⟩ := hp
  simp only [VR] at hv
  subst hv
  exact ⟨rfl, clean_growD (hst.clean (by simp [St.empty]))⟩
theorem holds_ofD {ρ : Ren} {L : Loc} {w : World} {l : List Dot} (h : BlkOk ρ L w (.row (dotC.cells l) true)) : HoldsK dvals 2 w L.b L.o l.toArray := by
  simp only [BlkOk] at h
  obtain ⟨cs, e, fr, h1, h2, h3, h4, h5, _⟩ := h
  rw [cells_len] at h3
  intro j hj
  have hj : j < l.length * 2 := by simpa using hj
  obtain ⟨x, hx⟩ := getsome (l := l) (i := j / 2) (by omega)
  have h6 : (Dot.av x).length = 2 := rfl
  obtain ⟨v, hv⟩ : ∃ v, (Dot.av x)[j % 2]? = some v := ⟨(Dot.av x)[j % 2]'(by omega), by simp⟩
  obtain ⟨c, hc, hr⟩ := h4 j v (by rw [dcells_get, hx]; exact hv)
  have hn := dot_val hv hr
  have e1 : (flatK dvals 2 l.toArray)[j]! = c := by
    rw [get_flatK _ _ _ _ (by simpa using hj)]
    have : l.toArray[j / 2]! = x := by simp [hx]
    rw [this]
    simp [hn]
  have h66 : dotC.sz = 2 := rfl
  rw [h66] at h3
  have hfr := h5 trivial (L.o + j) (by omega)
  constructor
  · simp only [World.cell?, h1, id, e1]
    simpa using hc
  · simp only [World.frozen?, h1]
    exact hfr
theorem blk_afterD {ρ : Ren} {L : Loc} {w : World} {l m : List Dot} (h : BlkOk ρ L w (.row (dotC.cells l) true)) (hm : m.length = l.length) (n : Nat) : BlkOk ρ L (putRowK dvals 2 (Sort.ahead w n) L.b L.o m.toArray) (.row (dotC.cells m) true) := by
  simp only [BlkOk] at h ⊢
  obtain ⟨cs, e, fr, h1, h2, h3, h4, h5, _⟩ := h
  rw [cells_len] at h3
  have h6 : dotC.sz = 2 := rfl
  refine ⟨Sort.putCells id L.o (flatK dvals 2 m.toArray) cs, e, fr, ?_, by simp [Sort.putCells, h2], by rw [cells_len, hm]; exact h3, fun i v hv => ?_, h5, cells_one' dotC m⟩
  · simp only [putRowK, Sort.putRow, Sort.mapBlock, Sort.ahead]
    rw [Array.getElem?_modify]
    simp [h1, Sort.onCells]
  · have hi := (List.getElem?_eq_some_iff.1 hv).1
    rw [cells_len] at hi
    rw [dcells_get] at hv
    rw [h6] at hi
    obtain ⟨x, hx⟩ := getsome (l := m) (i := i / 2) (by omega)
    rw [hx] at hv
    obtain ⟨c, hc, hr⟩ := dot_VR (ρ := ρ) hv
    refine ⟨c, ?_, hr⟩
    have e1 : (flatK dvals 2 m.toArray)[i]! = c := by
      rw [get_flatK _ _ _ _ (by simp; omega)]
      have : m.toArray[i / 2]! = x := by simp [hx]
      rw [this]
      simp [hc]
    simp only [Sort.putCells, Array.getElem?_mapIdx]
    have hlt : L.o + i < cs.size := by
      rw [h6, ← hm] at h3
      rw [h2]
      omega
    rw [Array.getElem?_eq_getElem hlt]
    simp only [Option.map_some, size_flatK, List.size_toArray]
    rw [if_pos (by omega)]
    simp [e1]

/-! ### pdqsort -/
def cPdq (g : Nat) (ok : List Dot → Bool) (srt : List Dot → List Dot) : Con := fun xs s => match xs with
  | [.nils, .int .i64 a, .int .i64 b, .int .i64 _, .fn g' []] => if g' = g ∧ a = 0 ∧ b = 0 then some (.tup [], s.lowed) else none
  | [.sl j o n cap 2, .int .i64 a, .int .i64 b, .int .i64 lm, .fn g' []] => if g' = g ∧ a = 0 ∧ b = (n : Int) then
      if n = 0 then some (.tup [], s.lowed) else
      match s.get j with
      | some (.row cs true) => match decL dotC n cs with
        | some l => if o = 0 ∧ cs.length = n * 2 ∧ ok l = true ∧ n ≤ lim ∧ 0 ≤ lm ∧ lm < 4611686018427387904 then some (.tup [], s.put j (.row (dotC.cells (srt l)) true)) else none
        | none => none
      | _ => none
    else none
  | _ => none
theorem s_pdq {g : Nat} {c0 : Con} {cf : Dot → Dot → Int} (hs : SoundAt Tryz.prog g c0) (hc : ∀ x y : Dot, c0 [.agg (Dot.av x), .agg (Dot.av y)] St.empty = some (.int .i64 (cf x y), St.empty)) (hO : Sort.SWO (ltOf cf))
    (eg : ∀ args w, (callFunc g args).run Tryz.prog w = .ok (.enter g args) w) {ok : List Dot → Bool} {srt : List Dot → List Dot} (hl : ∀ l, (srt l).length = l.length)
    (hu : ∀ l d : List Dot, ok l = true → d.Perm l → (d.Pairwise fun a b => ltOf cf b a = false) → d = srt l) :
    SoundAt Tryz.prog 116 (cPdq g ok srt) := by
  intro xs s r s' h
  have hk : callable Tryz.prog 116 = true := by kernel_rfl
  unfold cPdq at h
  split at h
  · split at h
    · rename_i a b lm g' e
      obtain ⟨rfl, rfl, rfl⟩ := e
      injection h with h
      obtain ⟨rfl, rfl⟩ := Prod.mk.inj h
      refine ⟨hk, gk_lowed s, fun ρ w cargs hfree hR hargs => ?_⟩
      obtain ⟨a1, r1, rfl, v1, w1⟩ : ∃ c r, cargs = c :: r ∧ VR ρ .nils c ∧ VRs ρ [.int .i64 0, .int .i64 0, .int .i64 lm, .fn g' []] r := by simpa only [VRs] using hargs
      obtain ⟨a2, r2, rfl, v2, w2⟩ : ∃ c r, r1 = c :: r ∧ VR ρ (.int .i64 0) c ∧ VRs ρ [.int .i64 0, .int .i64 lm, .fn g' []] r := by simpa only [VRs] using w1
      obtain ⟨a3, r3, rfl, v3, w3⟩ : ∃ c r, r2 = c :: r ∧ VR ρ (.int .i64 0) c ∧ VRs ρ [.int .i64 lm, .fn g' []] r := by simpa only [VRs] using w2
      obtain ⟨a4, r4, rfl, v4, w4⟩ : ∃ c r, r3 = c :: r ∧ VR ρ (.int .i64 lm) c ∧ VRs ρ [.fn g' []] r := by simpa only [VRs] using w3
      obtain ⟨a5, r5, rfl, v5, w5⟩ : ∃ c r, r4 = c :: r ∧ VR ρ (.fn g' []) c ∧ VRs ρ [] r := by simpa only [VRs] using w4
      simp only [VRs] at w5
      subst w5
      simp only [VR] at v1 v2 v3 v4
      subst v1 v2 v3 v4
      have main := AnyF.pdqsortCmpFunc_none (P := Tryz.prog) (ρ := Tryz.sortDot_ren) { Tryz.sortDot with } none 0 lm a5 w
      have main : Calls Tryz.prog 116 _ w _ := main
      refine main.mono fun e w' hp => ?_
      obtain ⟨rfl, rfl⟩ := hp
      have hst := Step.refl s ρ w'
      exact ⟨ρ, _, rfl, by simp [VR, VRs], ⟨Nat.le_refl _, Nat.min_le_left _ _, hst.ren, hst.size, rfl, rfl, rfl, hst.drawn, fun b hb H => rfl, hst.old, fun id L blk e1 _ e3 _ => absurd (St.get_lt e3) (by rw [lowed_next]; omega), fun _ _ _ => rfl⟩, ⟨hR.bound, hR.blk, hR.inj⟩⟩
    · cases h
  · rename_i j o n cap a b lm g'
    split at h
    · rename_i e
      obtain ⟨rfl, rfl, rfl⟩ := e
      split at h
      · rename_i h0
        subst h0
        injection h with h
        obtain ⟨rfl, rfl⟩ := Prod.mk.inj h
        refine ⟨hk, gk_lowed s, fun ρ w cargs hfree hR hargs => ?_⟩
        obtain ⟨a1, r1, rfl, v1, w1⟩ : ∃ c r, cargs = c :: r ∧ VR ρ (.sl j o 0 cap 2) c ∧ VRs ρ [.int .i64 0, .int .i64 ((0 : Nat) : Int), .int .i64 lm, .fn g' []] r := by simpa only [VRs] using hargs
        obtain ⟨a2, r2, rfl, v2, w2⟩ : ∃ c r, r1 = c :: r ∧ VR ρ (.int .i64 0) c ∧ VRs ρ [.int .i64 ((0 : Nat) : Int), .int .i64 lm, .fn g' []] r := by simpa only [VRs] using w1
        obtain ⟨a3, r3, rfl, v3, w3⟩ : ∃ c r, r2 = c :: r ∧ VR ρ (.int .i64 ((0 : Nat) : Int)) c ∧ VRs ρ [.int .i64 lm, .fn g' []] r := by simpa only [VRs] using w2
        obtain ⟨a4, r4, rfl, v4, w4⟩ : ∃ c r, r3 = c :: r ∧ VR ρ (.int .i64 lm) c ∧ VRs ρ [.fn g' []] r := by simpa only [VRs] using w3
        obtain ⟨a5, r5, rfl, v5, w5⟩ : ∃ c r, r4 = c :: r ∧ VR ρ (.fn g' []) c ∧ VRs ρ [] r := by simpa only [VRs] using w4
        simp only [VRs] at w5
        subst w5
        simp only [VR] at v1 v2 v3 v4
        subst v2 v3 v4
        obtain ⟨L, p, c, hL, rfl, _⟩ := v1
        have main := AnyF.pdqsortCmpFunc_none (P := Tryz.prog) (ρ := Tryz.sortDot_ren) { Tryz.sortDot with } p c lm a5 w
        have main : Calls Tryz.prog 116 _ w _ := main
        refine main.mono fun e w' hp => ?_
        obtain ⟨rfl, rfl⟩ := hp
        have hst := Step.refl s ρ w'
        exact ⟨ρ, _, rfl, by simp [VR, VRs], ⟨Nat.le_refl _, Nat.min_le_left _ _, hst.ren, hst.size, rfl, rfl, rfl, hst.drawn, fun b hb H => rfl, hst.old, fun id L blk e1 _ e3 _ => absurd (St.get_lt e3) (by rw [lowed_next]; omega), fun _ _ _ => rfl⟩, ⟨hR.bound, hR.blk, hR.inj⟩⟩
      · rename_i hn0
        split at h
        · rename_i cs hg
          split at h
          · rename_i l hd
            split at h
            · rename_i hcc
              obtain ⟨rfl, hc1, hok, hlim, hlm0, hlm1⟩ := hcc
              injection h with h
              obtain ⟨rfl, rfl⟩ := Prod.mk.inj h
              obtain ⟨d1, d2, d3⟩ := decL_some hd
              have hcs : cs = dotC.cells l := by rw [← d3, show n * dotC.sz = cs.length from hc1.symm]; simp
              subst hcs
              obtain ⟨lmt, rfl⟩ : ∃ k : Nat, lm = (k : Int) := ⟨lm.toNat, by omega⟩
              refine ⟨hk, ⟨grow_put _ hg, keeps_put _ hg⟩, fun ρ w cargs hfree hR hargs => ?_⟩
              obtain ⟨a1, r1, rfl, v1, w1⟩ : ∃ c r, cargs = c :: r ∧ VR ρ (.sl j 0 n cap 2) c ∧ VRs ρ [.int .i64 0, .int .i64 (n : Int), .int .i64 (lmt : Int), .fn g' []] r := by simpa only [VRs] using hargs
              obtain ⟨a2, r2, rfl, v2, w2⟩ : ∃ c r, r1 = c :: r ∧ VR ρ (.int .i64 0) c ∧ VRs ρ [.int .i64 (n : Int), .int .i64 (lmt : Int), .fn g' []] r := by simpa only [VRs] using w1
              obtain ⟨a3, r3, rfl, v3, w3⟩ : ∃ c r, r2 = c :: r ∧ VR ρ (.int .i64 (n : Int)) c ∧ VRs ρ [.int .i64 (lmt : Int), .fn g' []] r := by simpa only [VRs] using w2
              obtain ⟨a4, r4, rfl, v4, w4⟩ : ∃ c r, r3 = c :: r ∧ VR ρ (.int .i64 (lmt : Int)) c ∧ VRs ρ [.fn g' []] r := by simpa only [VRs] using w3
              obtain ⟨a5, r5, rfl, v5, w5⟩ : ∃ c r, r4 = c :: r ∧ VR ρ (.fn g' []) c ∧ VRs ρ [] r := by simpa only [VRs] using w4
              simp only [VRs] at w5
              subst w5
              simp only [VR] at v1 v2 v3 v4 v5
              subst v2 v3 v4
              obtain ⟨L, p, c, hL, rfl, hle, _, hca⟩ := v1
              obtain ⟨cb, rfl, hcb⟩ := v5
              simp only [VRs] at hcb
              subst hcb
              rcases hca with rfl | ⟨rfl, hcap⟩
              · omega
              have hb := hR.blk j _ L hg hL
              have hH := holds_ofD hb
              have hlt := hR.bound j L hL
              have hsz : l.toArray.size = n := by simpa using d1
              have hszl : l.toArray.size < 4611686018427387904 := by rw [hsz]; unfold lim at hlim; omega
              have main := AnyQ.pdqsortCmpFunc_all (P := Tryz.prog) (ρ := Tryz.sortDot_ren) { Tryz.sortDot with } 2 Tryz.isAgg54 Tryz.sizeOf54 dvals cf g' #[] hO L.b L.o c l.toArray w eg (dcmp_lays hs hc w L.b L.o l.toArray.size) ⟨dvals_len, dvals_one, hH, hlt⟩ (l.toArray.size + 1) 0 l.toArray.size lmt l.toArray w (by omega) rfl (SWK.start hH) (Nat.zero_le _) (Nat.le_refl _) hszl (by omega) (Or.inl rfl)
              have hsrt0 := Sort.pdq_sorts (ltOf cf) hO l.toArray 0 l.toArray.size lmt true true (Nat.zero_le _) (Nat.le_refl _) (Or.inl rfl)
              rw [hsz] at main hsrt0
              have main : Calls Tryz.prog 116 _ w _ := main
              refine main.mono fun e w' hp => ?_
              obtain ⟨⟨p1, _, p2⟩, hsrt⟩ := hsrt0
              obtain ⟨rfl, nn, os, rfl⟩ := hp
              generalize hdd : Sort.pdq (ltOf cf) l.toArray 0 n lmt true true = d' at *
              have hsz' : d'.size = n := by rw [p1, hsz]
              have hp : d'.toList.Perm l := by
                have e1 : d'.extract 0 n = d' := by rw [← hsz']; simp
                have e2 : l.toArray.extract 0 n = l.toArray := by rw [← hsz]; simp
                rw [e1, e2] at p2
                exact p2
              have hd' : d'.toList = srt l := by
                refine hu l _ hok hp ?_
                rw [List.pairwise_iff_getElem]
                intro i j hi hj hij
                have h1 := hsrt i j (Nat.zero_le _) hij (by simpa [hsz'] using hj)
                have e1 : d'[i]! = d'.toList[i] := by
                  simp at hi
                  simp [hi]
                have e2 : d'[j]! = d'.toList[j] := by
                  simp at hj
                  simp [hj]
                rw [e1, e2] at h1
                exact h1
              have hd'' : d' = (srt l).toArray := by rw [← hd']
              subst hd''
              obtain ⟨hR1, hS1⟩ := R.put (b := .row (dotC.cells (srt l)) true) hR hg rfl hL (blk_afterD hb (hl l) nn) (by simp [putRowK, Sort.putRow, Sort.mapBlock, Sort.ahead]) rfl rfl rfl (by show w.drawn ≤ w.drawn + nn; omega) (by
                intro k hk'
                simp only [putRowK, Sort.putRow, Sort.mapBlock, Sort.ahead]
                rw [Array.getElem?_modify, if_neg (Ne.symm hk')])
              have hcl : Clean (putRowK dvals 2 (Sort.ahead w nn) L.b L.o (srt l).toArray) (sortWorldK dvals 2 w L.b L.o nn (srt l).toArray os) := by
                refine ⟨by simp [sortWorldK, Sort.grow], rfl, rfl, rfl, Nat.le_refl _, fun b hb => ?_⟩
                simp only [sortWorldK, Sort.grow]
                rw [Array.getElem?_append_left hb]
              exact ⟨ρ, _, rfl, by simp [VR, VRs], hS1.trans (hcl.step _ ρ), hR1.clean hcl⟩
            · cases h
          · cases h
        · cases h
    · cases h
  · cases h
/-! ### bits.Len -/
def cBits : Con := fun xs s => match xs with
  | [.int .u64 n] => if 0 ≤ n ∧ n < 4611686018427387904 then some (.int .i64 (Lib.bitLen n.toNat : Nat), s.lowed) else none
  | _ => none
theorem s_bits : SoundAt Tryz.prog 117 cBits := by
  intro xs s r s' h
  have hk : callable Tryz.prog 117 = true := by kernel_rfl
  unfold cBits at h
  split at h
  · rename_i n
    split at h
    · rename_i hn
      injection h with h
      obtain ⟨rfl, rfl⟩ := Prod.mk.inj h
      refine ⟨hk, gk_lowed s, fun ρ w cargs hfree hR hargs => ?_⟩
      obtain ⟨a1, r1, rfl, v1, w1⟩ : ∃ c r, cargs = c :: r ∧ VR ρ (.int .u64 n) c ∧ VRs ρ [] r := by simpa only [VRs] using hargs
      simp only [VRs] at w1
      subst w1
      simp only [VR] at v1
      subst v1
      have main := Any.bits_Len (SlLaysF0.n15.bits (P := Tryz.prog) (ρ := Tryz.sortDot_ren) { Tryz.sortDot with }) n w (by omega) (by omega)
      have main : Calls Tryz.prog 117 _ w _ := main
      refine main.mono fun e w' hp => ?_
      obtain ⟨rfl, rfl⟩ := hp
      have hst := Step.refl s ρ w'
      exact ⟨ρ, _, rfl, by simp [VR], ⟨Nat.le_refl _, Nat.min_le_left _ _, hst.ren, hst.size, rfl, rfl, rfl, hst.drawn, fun b hb H => rfl, hst.old, fun id L blk e1 _ e3 _ => absurd (St.get_lt e3) (by rw [lowed_next]; omega), fun _ _ _ => rfl⟩, ⟨hR.bound, hR.blk, hR.inj⟩⟩
    · cases h
  · cases h
theorem bits_small {n : Nat} (h : n < 4611686018427387904) : (Lib.bitLen n : Int) < 4611686018427387904 := by
  have := Lib.bitLen_le n 62 (by omega) (by omega)
  omega
end Go.AM
end
/-
  slices.SortFunc as the abstract machine runs it. Printed by a program of this project.
-/
section
set_option maxRecDepth 100000
namespace Go.AM
open Go Go.Proofs

/- slices.SortFunc[redpencil/api.Vector,redpencil/api.Dot] -/
def a110 : AFn := ⟨14, [],
  .seq (.reg [oO 5 (.mv (.t 0)),
 oO 6 (.len .sl (.t 5)),
 oO 4 (.mv (.t 6))])
 (.reg [oO 7 (.mv (.t 0)),
 oO 8 (.mv (.t 4)),
 oO 9 (.mv (.t 4)),
 oO 10 (.conv .u64 (.t 9)),
 oO 11 (.call 117 false [(.t 10)]),
 oO 12 (.mv (.t 1)),
 oO 13 (.call 116 false [(.t 7), (.c (.int .i64 0)), (.t 8), (.t 11), (.t 12)])])⟩
/- slices.SortFunc[[]redpencil/api.Dot,redpencil/api.Dot] -/
def a119 : AFn := ⟨14, [],
  .seq (.reg [oO 5 (.mv (.t 0)),
 oO 6 (.len .sl (.t 5)),
 oO 4 (.mv (.t 6))])
 (.reg [oO 7 (.mv (.t 0)),
 oO 8 (.mv (.t 4)),
 oO 9 (.mv (.t 4)),
 oO 10 (.conv .u64 (.t 9)),
 oO 11 (.call 117 false [(.t 10)]),
 oO 12 (.mv (.t 1)),
 oO 13 (.call 116 false [(.t 7), (.c (.int .i64 0)), (.t 8), (.t 11), (.t 12)])])⟩
theorem c110 : cfn Tryz.prog Tryz.f110 = some a110 := by kernel_rfl
theorem c119 : cfn Tryz.prog Tryz.f119 = some a119 := by kernel_rfl

end Go.AM
end
/-
  New lists of dots: copies, sorting, joining. Own work of this project; in part printed by a program of it.
-/
section
set_option maxRecDepth 100000
set_option maxHeartbeats 8000000
namespace Go.AM
open Go Go.Proofs

variable {s t u : St}

/-! ### A call that changes nothing that was there -/
theorem run_any {call : Nat → List AV → St → Option (AV × St)} {fn : AFn} (hn : noNxtC fn.body = true) {args : List AV} (hl : args.length ≤ fn.ntmps) {s : St} {Q : AV → St → Prop} (hQ : ∀ r t t', (∀ id, t'.get id = t.get id) → t'.next = t.next → Q r t → Q r t') (hg : ∀ r t, r.ground = true → Keep s t → Q r t → Q r s)
    (h : ∀ env : Env, elen env = fn.ntmps → (∀ i v, args[i]? = some v → E env i = v) → awp call fn.body (fun x e t => (∀ i, x ≠ .exit i) ∧ ∃ r, aresults e t fn.results = some r ∧ Q r t ∧ Keep (lowd s) t) env (lowd s)) :
    ∃ r t, acall (runFn call fn) false args s = some (r, t) ∧ Q r t ∧ Keep s t := by
  obtain ⟨r, t, h1, h2, h3⟩ := run_awp hn hl (Q := fun r t => Q r t ∧ Keep (lowd s) t) h
  by_cases hgr : r.ground = true
  · exact ⟨r, s, acall_same h1 h3 hgr, hg r t hgr ((keep_lowd s).trans h3) h2, .refl s⟩
  · obtain ⟨t', g1, g2, g3, g4⟩ := acall_new h1 (h3.chg []) (.inl (by simpa using hgr))
    exact ⟨r, t', g1, hQ r t t' g2 g3 h2, g4.keep⟩
/-! ### New lists -/
/-- A list whose row is new, and nothing else. -/
def NewX {β : Type} (C : Cod β) (s t : St) (v : AV) (l : List β) : Prop := (v = .nils ∧ l = []) ∨ ∃ j cap, v = .sl j 0 l.length cap C.sz ∧ s.next ≤ j ∧ t.get j = some (.row (C.cells l) true)
/-- The same, with more behind it. -/
def NewR {β : Type} (C : Cod β) (s t : St) (v : AV) (l : List β) : Prop := (v = .nils ∧ l = []) ∨ ∃ j cap rest, v = .sl j 0 l.length cap C.sz ∧ s.next ≤ j ∧ t.get j = some (.row (C.cells (l ++ rest)) true)
section
variable {β : Type} {C : Cod β} {v : AV} {l : List β}
theorem NewX.nw (h : NewX C s t v l) : NewR C s t v l := h.imp id fun ⟨j, cap, h1, h2, h3⟩ => ⟨j, cap, [], h1, h2, by rw [List.append_nil]; exact h3⟩
theorem NewR.read (h : NewR C s t v l) : read C t v = some l := by
  rcases h with ⟨rfl, rfl⟩ | ⟨j, cap, rest, rfl, h1, h2⟩
  · rfl
  · refine read_of rfl h2 (by rw [cells_len, List.length_append, Nat.add_mul]; omega) ?_
    rw [List.drop_zero, cells_append, ← cells_len]
    simp
theorem NewX.read (h : NewX C s t v l) : AM.read C t v = some l := h.nw.read
theorem Own.newX (h : Own C s t v l) : NewX C s t v l := by
  rcases h with h | ⟨j, h1, _, h2, h3⟩
  · exact .inl h
  · exact .inr ⟨j, none, h1, h2, h3⟩
theorem NewX.mono (h : NewX C s t v l) (k : ∀ id b, t.get id = some b → u.get id = some b) : NewX C s u v l := h.imp id fun ⟨j, cap, h1, h2, h3⟩ => ⟨j, cap, h1, h2, k _ _ h3⟩
theorem NewR.mono (h : NewR C s t v l) (k : ∀ id b, t.get id = some b → u.get id = some b) : NewR C s u v l := h.imp id fun ⟨j, cap, rest, h1, h2, h3⟩ => ⟨j, cap, rest, h1, h2, k _ _ h3⟩
theorem NewX.from {s0 : St} (h : NewX C s t v l) (k : s0.next ≤ s.next) : NewX C s0 t v l := h.imp id fun ⟨j, cap, h1, h2, h3⟩ => ⟨j, cap, h1, Nat.le_trans k h2, h3⟩
theorem NewR.from {s0 : St} (h : NewR C s t v l) (k : s0.next ≤ s.next) : NewR C s0 t v l := h.imp id fun ⟨j, cap, rest, h1, h2, h3⟩ => ⟨j, cap, rest, h1, Nat.le_trans k h2, h3⟩
theorem NewX.ground (h : NewX C s t v l) (hg : v.ground = true) : v = .nils ∧ l = [] := by
  rcases h with h | ⟨j, cap, rfl, _⟩
  · exact h
  · cases hg
theorem NewR.ground (h : NewR C s t v l) (hg : v.ground = true) : v = .nils ∧ l = [] := by
  rcases h with h | ⟨j, cap, rest, rfl, _⟩
  · exact h
  · cases hg
theorem Own.ground (h : Own C s t v l) (hg : v.ground = true) : v = .nils ∧ l = [] := h.newX.ground hg
theorem NewX.nil (C : Cod β) (s t : St) : NewX C s t .nils [] := .inl ⟨rfl, rfl⟩
theorem NewR.nil (C : Cod β) (s t : St) : NewR C s t .nils [] := .inl ⟨rfl, rfl⟩
end
/-- No longer than it may grow. -/
def CapOK (v : AV) : Prop := ∀ id off n c z, v = .sl id off n (some c) z → n ≤ c
theorem CapOK.nils : CapOK .nils := fun _ _ _ _ _ h => by cases h
theorem Own.capOK {β : Type} {C : Cod β} {v : AV} {l : List β} (h : Own C s t v l) : CapOK v := by
  rcases h with ⟨rfl, _⟩ | ⟨j, rfl, _⟩
  · exact .nils
  · intro _ _ _ _ _ h; cases h
def vids : AV → List Nat
  | .sl id _ _ _ _ => [id]
  | _ => []
theorem read_ground {v : AV} {l : List Dot} (h : read dotC s v = some l) (hg : v.ground = true) : v = .nils ∧ l = [] := by
  cases v <;> simp_all [read, AV.ground, AV.plains, AV.plain]
def convV (k : IntKind) : AV → Option AV
  | .int _ n => some (.int k (k.wrap n))
  | _ => none
theorem ap_conv {env : Env} (k : IntKind) (x : AO) : apure env (.conv k x) = convV k (aev env x) := nrfl (by
  simp only [apure, convV]
  cases aev env x <;> rfl)
theorem convV_int (k k' : IntKind) (n : Int) : convV k (.int k' n) = some (.int k (k.wrap n)) := nrfl rfl
theorem bslV_0 : bslV [] 0 2 [] = some (fun id => .sl id 0 0 (some 0) 2, .row [] true) := nrfl rfl

theorem app_clone {v : AV} {l : List Dot} (hr : read dotC s v = some l) (hl : l.length ≤ lim) : ∃ v' t, appV (s.push (.row [] true)) 2 16 (.sl s.next 0 0 (some 0) 2) v = some (v', t) ∧ (NewX dotC s t v' l ∧ CapOK v') ∧ Keep s t := by
  have hK : Keep s (s.push (.row [] true)) := (Keep.refl s).push _
  have hr1 := hK.read hr
  have h2 : dotC.sz = 2 := rfl
  simp only [appV]
  rw [← h2, read_shown hr1, read_len hr1]
  simp only [aappend, if_true, St.get_push_new]
  by_cases h0 : l.length = 0
  · have : l = [] := List.length_eq_zero_iff.1 h0
    subst this
    exact ⟨_, _, if_pos (rfl : ([] : List Dot).length = 0), ⟨.inr ⟨s.next, some 0, rfl, Nat.le_refl _, St.get_push_new _ _⟩, fun _ _ _ _ _ h => by injection h with _ _ h; omega⟩, hK⟩
  · rw [if_neg h0, if_pos ⟨by simp, by unfold lim at hl; unfold roomBytes; omega⟩, if_neg (by omega)]
    refine ⟨_, _, rfl, ⟨.inr ⟨_, none, by rw [Nat.zero_add], hK.next, ?_⟩, fun _ _ _ _ _ h => by cases h⟩, hK.push _⟩
    rw [St.get_push_new]
    simp
noncomputable def R_SClD : Con := runFn (tb []) a118
theorem s_SClD : SoundAt Tryz.prog 118 R_SClD := run_sound (tb_sound (l := []) (by simp)) mixed Tryz.func118 k118 c118
theorem n_SClD : noNxtC a118.body = true := by kernel_rfl
theorem w_SClD {s : St} {v : AV} {l : List Dot} (hr : read dotC s v = some l) (hl : l.length ≤ lim) : ∀ env : Env, elen env = a118.ntmps → (∀ i x_, [v][i]? = some x_ → E env i = x_) → awp (tb []) a118.body (fun x e t => (∀ i, x ≠ .exit i) ∧ ∃ r, aresults e t a118.results = some r ∧ (NewX dotC s t r l ∧ CapOK r) ∧ Keep s t) env s := by
  intro env hlen ha
  have h0 : E env 0 = _ := ha 0 _ rfl
  have hlen : elen env = _ := hlen
  simp only [a118] at hlen
  unfold a118
  try dsimp only [oO, oG]
  cases v with
  | nils =>
    rw [read_nils] at hr
    injection hr with hr
    subst hr
    simp (config := {contextual := true, maxDischargeDepth := 12}) only [tb_at, h0, hlen, ↓bD, bU, forall_const, bS, implies_true, isNx, eq_self, ↓wp_cond, ↓wp_loop, ↓reduceIte, reduceCtorEq, Nat.reduceEqDiff, Nat.reduceLT, Nat.reduceAdd, Nat.reduceMul, bT, ↓sg_bsl, ↓st_callf, bX, ap_mkfn, ae_callvV, callvV_fn, List.cons_append, List.nil_append, boxV_i, boxV_dot, sto_dot, ap_conv, convV_int, bslV_0]
    first | exact ⟨_, rfl, ⟨.nil _ _ _, .nils⟩, .refl s⟩ | exact ⟨_, rfl, .nil _ _ _, .nils⟩
  | sl id off n cap z =>
    obtain ⟨v', t, hap, hN, hK⟩ := app_clone hr hl
    simp (config := {contextual := true, maxDischargeDepth := 12}) only [tb_at, h0, hlen, hap, ↓bD, bU, forall_const, bS, implies_true, isNx, eq_self, ↓wp_cond, ↓wp_loop, ↓reduceIte, reduceCtorEq, Nat.reduceEqDiff, Nat.reduceLT, Nat.reduceAdd, Nat.reduceMul, bT, ↓sg_bsl, ↓st_callf, bX, ap_mkfn, ae_callvV, callvV_fn, List.cons_append, List.nil_append, boxV_i, boxV_dot, sto_dot, ap_conv, convV_int, bslV_0]
    exact ⟨_, rfl, hN, hK⟩
  | _ => simp [read] at hr
theorem q_SClD {s : St} {v : AV} {l : List Dot} (hr : read dotC s v = some l) (hl : l.length ≤ lim) : ∃ v' t, acall R_SClD false [v] s = some (v', t) ∧ (NewX dotC s t v' l ∧ CapOK v') ∧ Keep s t :=
  run_any n_SClD (by simp [a118]) (fun r t t' hg hn hq => ⟨hq.1.mono fun id b hb => by rw [hg]; exact hb, hq.2⟩) (fun r t hgr hk hq => by obtain ⟨rfl, rfl⟩ := hq.1.ground hgr; exact ⟨.nil _ _ _, .nils⟩) (w_SClD (s := lowd s) (read_low' hr) hl)
noncomputable def R_SClV : Con := runFn (tb []) a81
theorem s_SClV : SoundAt Tryz.prog 81 R_SClV := run_sound (tb_sound (l := []) (by simp)) mixed Tryz.func81 k81 c81
theorem n_SClV : noNxtC a81.body = true := by kernel_rfl
theorem w_SClV {s : St} {v : AV} {l : List Dot} (hr : read dotC s v = some l) (hl : l.length ≤ lim) : ∀ env : Env, elen env = a81.ntmps → (∀ i x_, [v][i]? = some x_ → E env i = x_) → awp (tb []) a81.body (fun x e t => (∀ i, x ≠ .exit i) ∧ ∃ r, aresults e t a81.results = some r ∧ (NewX dotC s t r l ∧ CapOK r) ∧ Keep s t) env s := by
  intro env hlen ha
  have h0 : E env 0 = _ := ha 0 _ rfl
  have hlen : elen env = _ := hlen
  simp only [a81] at hlen
  unfold a81
  try dsimp only [oO, oG]
  cases v with
  | nils =>
    rw [read_nils] at hr
    injection hr with hr
    subst hr
    simp (config := {contextual := true, maxDischargeDepth := 12}) only [tb_at, h0, hlen, ↓bD, bU, forall_const, bS, implies_true, isNx, eq_self, ↓wp_cond, ↓wp_loop, ↓reduceIte, reduceCtorEq, Nat.reduceEqDiff, Nat.reduceLT, Nat.reduceAdd, Nat.reduceMul, bT, ↓sg_bsl, ↓st_callf, bX, ap_mkfn, ae_callvV, callvV_fn, List.cons_append, List.nil_append, boxV_i, boxV_dot, sto_dot, ap_conv, convV_int, bslV_0]
    first | exact ⟨_, rfl, ⟨.nil _ _ _, .nils⟩, .refl s⟩ | exact ⟨_, rfl, .nil _ _ _, .nils⟩
  | sl id off n cap z =>
    obtain ⟨v', t, hap, hN, hK⟩ := app_clone hr hl
    simp (config := {contextual := true, maxDischargeDepth := 12}) only [tb_at, h0, hlen, hap, ↓bD, bU, forall_const, bS, implies_true, isNx, eq_self, ↓wp_cond, ↓wp_loop, ↓reduceIte, reduceCtorEq, Nat.reduceEqDiff, Nat.reduceLT, Nat.reduceAdd, Nat.reduceMul, bT, ↓sg_bsl, ↓st_callf, bX, ap_mkfn, ae_callvV, callvV_fn, List.cons_append, List.nil_append, boxV_i, boxV_dot, sto_dot, ap_conv, convV_int, bslV_0]
    exact ⟨_, rfl, hN, hK⟩
  | _ => simp [read] at hr
theorem q_SClV {s : St} {v : AV} {l : List Dot} (hr : read dotC s v = some l) (hl : l.length ≤ lim) : ∃ v' t, acall R_SClV false [v] s = some (v', t) ∧ (NewX dotC s t v' l ∧ CapOK v') ∧ Keep s t :=
  run_any n_SClV (by simp [a81]) (fun r t t' hg hn hq => ⟨hq.1.mono fun id b hb => by rw [hg]; exact hb, hq.2⟩) (fun r t hgr hk hq => by obtain ⟨rfl, rfl⟩ := hq.1.ground hgr; exact ⟨.nil _ _ _, .nils⟩) (w_SClV (s := lowd s) (read_low' hr) hl)

/-! ### Sorting -/
theorem q_bits (cl : Bool) {n : Nat} (h : n < 4611686018427387904) : acall cBits cl [.int .u64 (n : Int)] s = some (.int .i64 (Lib.bitLen n : Nat), s) := acall_rol (by
  simp only [cBits]
  rw [if_pos ⟨by omega, by omega⟩, Int.toNat_natCast]) rfl
theorem wrap_u64 {n : Nat} (h : n < 4611686018427387904) : IntKind.u64.wrap (n : Int) = (n : Int) := by
  simp [IntKind.wrap, IntKind.signed, IntKind.bits]
  omega
theorem pdq_call {s0 : St} {v : AV} {l : List Dot} (hN : NewX dotC s0 s v l) (hl : l.length ≤ lim) (g : Nat) {ok : List Dot → Bool} {srt : List Dot → List Dot} (hok : ok l = true) (hlen : (srt l).length = l.length) {lm : Nat} (hlm : (lm : Int) < 4611686018427387904) :
    ∃ t, acall (cPdq g ok srt) false [v, .int .i64 0, .int .i64 (l.length : Int), .int .i64 (lm : Int), .fn g []] s = some (.tup [], t) ∧ NewX dotC s0 t v (srt l) ∧ Chg (vids v) s t ∧ (l ≠ [] → t.low < s.next) ∧ (l = [] → t = s) := by
  have hnil : l = [] → srt l = [] := fun e => by
    rw [e] at hlen ⊢
    simpa using hlen
  rcases hN with ⟨rfl, rfl⟩ | ⟨j, cap, rfl, h1, h⟩
  · exact ⟨s, acall_rol (by simp [cPdq]) rfl, .inl ⟨rfl, hnil rfl⟩, (Keep.refl s).chg _, fun h => absurd rfl h, fun _ => rfl⟩
  · by_cases h0 : l = []
    · subst h0
      refine ⟨s, acall_rol (by simp [cPdq, show dotC.sz = 2 from rfl]) rfl, .inr ⟨j, cap, by rw [hnil rfl], h1, by rw [hnil rfl]; exact h⟩, (Keep.refl s).chg _, fun h => absurd rfl h, fun _ => rfl⟩
    · have hpos : 0 < l.length := List.length_pos_iff.2 h0
      have hd : decL dotC l.length (dotC.cells l) = some l := by
        have := decL_cells dotC l []
        rwa [List.append_nil] at this
      have h6 : dotC.sz = 2 := rfl
      have hlen2 : (dotC.cells l).length = l.length * 2 := by rw [cells_len, h6]
      have hc : cPdq g ok srt [.sl j 0 l.length cap dotC.sz, .int .i64 0, .int .i64 (l.length : Int), .int .i64 (lm : Int), .fn g []] (lowd s) = some (.tup [], (lowd s).put j (.row (dotC.cells (srt l)) true)) := by
        have hg : (lowd s).get j = some (.row (dotC.cells l) true) := h
        rw [h6]
        simp only [cPdq, and_self, if_true, hg, hd, hlen2, hok, hl]
        rw [if_neg (by omega), if_pos ⟨trivial, trivial, trivial, trivial, by omega, hlm⟩]
      have hlt := St.get_lt h
      obtain ⟨t', g1, g2, g3, g4, g5⟩ := acall_newl (M := [j]) hc ((Chg.refl _ _).put _ (.inl (by simp)) hlt) (.inr (by
        show min s.next j < s.next
        omega))
      refine ⟨t', g1, .inr ⟨j, cap, by rw [hlen], h1, ?_⟩, g4, fun _ => g5.resolve_left (by intro h; cases h), fun e => absurd e h0⟩
      rw [g2]
      exact St.get_put_same h

theorem dcmp_casesD (a b : Dot) : (dcmp a b = -1 ∧ a.before b = true ∧ b.before a = false) ∨ (dcmp a b = 1 ∧ a.before b = false ∧ b.before a = true) ∨ (dcmp a b = 0 ∧ a.before b = false ∧ b.before a = false ∧ a = b) := by
  obtain ⟨ar, ac⟩ := a
  obtain ⟨br, bc⟩ := b
  simp only [dcmp, cmpI, Dot.before]
  by_cases h1 : ac < bc
  · left
    simp [h1, show ¬ bc < ac by omega, show ¬ bc = ac by omega]
  · by_cases h2 : bc < ac
    · right; left
      simp [h1, h2, show ¬ ac = bc by omega]
    · obtain rfl : ac = bc := by omega
      by_cases h3 : ar < br
      · left
        simp [h3, show ¬ br < ar by omega]
      · by_cases h4 : br < ar
        · right; left
          simp [h3, h4]
        · obtain rfl : ar = br := by omega
          right; right
          simp
theorem lt_dcmp (x y : Dot) : ltOf dcmp x y = x.before y := by
  unfold ltOf
  rcases dcmp_casesD x y with ⟨h, h1, _⟩ | ⟨h, h1, _⟩ | ⟨h, h1, _⟩ <;> simp only [h, h1] <;> decide
theorem swoD : Sort.SWO (ltOf dcmp) := by
  refine ⟨fun x => by rw [lt_dcmp]; exact bef_irr _, fun x y z => ?_, fun x y z => ?_⟩
  · rw [lt_dcmp, lt_dcmp, lt_dcmp]
    exact bef_trans x y z
  · rw [lt_dcmp, lt_dcmp, lt_dcmp]
    intro h1 h2
    have := leD_trans z y x (by simpa [leD] using h2) (by simpa [leD] using h1)
    simpa [leD] using this
theorem s_pdqSSortD : SoundAt Tryz.prog 116 (cPdq 50 (fun _ => true) sortD) :=
  s_pdq (c0 := cDotCmp) (cf := dcmp) s_dotCmp (fun x y => rfl) swoD (enters_of Tryz.func50 (by kernel_rfl) rfl) sortD_len fun l d _ hp hs => le_uniq _ _ (hp.trans (sortD_perm l).symm) (hs.imp fun {a b} h => by
    rw [lt_dcmp] at h
    simpa [leD] using h) (sortD_le l)
def cVecCmp : Con := fun xs s => match xs with
  | [.agg [.int .i64 a, .int .i64 _], .agg [.int .i64 c, .int .i64 _]] => some (.int .i64 (cmpI a c), s)
  | _ => none
set_option maxHeartbeats 4000000 in
theorem s_vecCmp : SoundAt Tryz.prog 111 cVecCmp :=
  pure_of (fn_sound (tb_sound (l := [(75, cCmpInt)]) (by simpa using s_cmpInt)) mixed Tryz.func111 k111 c111 60) fun xs s r s' h => by
    unfold cVecCmp at h
    split at h
    · rename_i a b c d
      injection h with h
      obtain ⟨rfl, rfl⟩ := Prod.mk.inj h
      refine ⟨rfl, rfl, rfl, ?_⟩
      simp [tb, cCmpInt, acallFn, a111, aexec, aops, aop, aalloc, apure, aread, aeff, wanted, putE, aev, acall, binOp, intOp, aresults, aresult, AV.ground, AV.plains, AV.plain, St.empty, St.push, St.get, St.reserve, St.born, AV.cells, AV.one, fillP, setAt]
    · cases h
/-! By replicas. -/
def insV (d : Dot) : List Dot → List Dot
  | [] => [d]
  | x :: r => if d.r < x.r then d :: x :: r else x :: insV d r
def sortV : List Dot → List Dot
  | [] => []
  | x :: r => insV x (sortV r)
def okV (l : List Dot) : Bool := decide (l.map Dot.r).Nodup
theorem insV_perm (x : Dot) : ∀ l, (insV x l).Perm (x :: l)
  | [] => .refl _
  | y :: r => by
    unfold insV
    split
    · exact .refl _
    · exact ((insV_perm x r).cons y).trans (.swap x y r)
theorem sortV_perm : ∀ l, (sortV l).Perm l
  | [] => .refl _
  | x :: r => (insV_perm x _).trans ((sortV_perm r).cons x)
theorem sortV_len (l : List Dot) : (sortV l).length = l.length := (sortV_perm l).length_eq
theorem insV_srt (x : Dot) : ∀ l : List Dot, VSrt l → (∀ y ∈ l, x.r ≠ y.r) → VSrt (insV x l)
  | [], _, _ => by simp [insV]
  | y :: r, h, hx => by
    rw [vsrt_cons] at h
    have hne := hx y (by simp)
    unfold insV
    split
    · rename_i hb
      rw [vsrt_cons, vsrt_cons]
      refine ⟨fun z hz => ?_, h⟩
      rcases List.mem_cons.1 hz with rfl | hz
      · simpa [vlt] using hb
      · have := h.1 z hz
        simp only [vlt, decide_eq_true_eq] at this ⊢
        omega
    · rename_i hb
      rw [vsrt_cons]
      refine ⟨fun z hz => ?_, insV_srt x r h.2 fun y hy => hx y (by simp [hy])⟩
      rcases List.mem_cons.1 ((insV_perm x r).mem_iff.1 hz) with rfl | hz
      · simp only [vlt, decide_eq_true_eq]; omega
      · exact h.1 z hz
theorem sortV_srt : ∀ l : List Dot, (l.map Dot.r).Nodup → VSrt (sortV l)
  | [], _ => by simp [sortV]
  | x :: r, h => by
    simp only [List.map_cons, List.nodup_cons] at h
    refine insV_srt x _ (sortV_srt r h.2) fun y hy e => h.1 ?_
    rw [e]
    exact List.mem_map_of_mem ((sortV_perm r).mem_iff.1 hy)
def vcmp (a b : Dot) : Int := cmpI a.r b.r
theorem lt_vcmp (x y : Dot) : ltOf vcmp x y = vlt x y := by
  unfold ltOf vcmp vlt cmpI
  by_cases h : x.r < y.r
  · simp [h]
  · by_cases h2 : y.r < x.r <;> simp [h, h2]
theorem swoV : Sort.SWO (ltOf vcmp) := by
  refine ⟨fun x => by rw [lt_vcmp]; simp [vlt], fun x y z => ?_, fun x y z => ?_⟩
  · rw [lt_vcmp, lt_vcmp, lt_vcmp]
    exact vlt_trans x y z
  · rw [lt_vcmp, lt_vcmp, lt_vcmp]
    simp only [vlt, decide_eq_false_iff_not]
    omega
theorem s_pdqSSortV : SoundAt Tryz.prog 116 (cPdq 111 okV sortV) :=
  s_pdq (c0 := cVecCmp) (cf := vcmp) s_vecCmp (fun x y => rfl) swoV (enters_of Tryz.func111 (by kernel_rfl) rfl) sortV_len fun l d hok hp hs => by
    have hnd := of_decide_eq_true hok
    have hndd : (d.map Dot.r).Nodup := (hp.map Dot.r).nodup_iff.2 hnd
    have hd : VSrt d := by
      have hne : d.Pairwise fun a b => a.r ≠ b.r := List.pairwise_map.1 hndd
      refine (hs.and hne).imp fun {a b} ⟨h1, h2⟩ => ?_
      rw [lt_vcmp] at h1
      simp only [vlt, decide_eq_false_iff_not, decide_eq_true_eq] at h1 ⊢
      omega
    exact strict_uniq (fun a => by simp [vlt]) vlt_trans _ _ hd (sortV_srt l hnd) fun x => (hp.trans (sortV_perm l).symm).mem_iff
noncomputable def R_SSortD : Con := runFn (tb [(117, cBits), (116, cPdq 50 (fun _ => true) sortD)]) a119
theorem s_SSortD : SoundAt Tryz.prog 119 R_SSortD := run_sound (tb_sound (l := [(117, cBits), (116, cPdq 50 (fun _ => true) sortD)]) (by simpa using ⟨s_bits, s_pdqSSortD⟩)) mixed Tryz.func119 k119 c119
theorem n_SSortD : noNxtC a119.body = true := by kernel_rfl
theorem w_SSortD {s : St} {s0 : St} {v : AV} {l : List Dot} (hN : NewX dotC s0 s v l) (hl : l.length ≤ lim) : ∀ env : Env, elen env = a119.ntmps → (∀ i x_, [v, .fn 50 []][i]? = some x_ → E env i = x_) → awp (tb [(117, cBits), (116, cPdq 50 (fun _ => true) sortD)]) a119.body (fun x e t => (∀ i, x ≠ .exit i) ∧ ∃ r, aresults e t a119.results = some r ∧ (r = .tup [] ∧ NewX dotC s0 t v (sortD l)) ∧ Chg (vids v) s t ∧ (l ≠ [] → t.low < s.next) ∧ (l = [] → Keep s t)) env s := by
  intro env hlen ha
  have h0 : E env 0 = _ := ha 0 _ rfl
  have h1 : E env 1 = _ := ha 1 _ rfl
  have hlen : elen env = _ := hlen
  simp only [a119] at hlen
  unfold a119
  try dsimp only [oO, oG]
  have hL := lenV_read hN.read
  have qb := q_bits false (n := l.length) (s := s) (by unfold lim at hl; omega)
  have hw := wrap_u64 (n := l.length) (by unfold lim at hl; omega)
  obtain ⟨t, qp, hN', hC, hlow, hsame⟩ := pdq_call hN hl 50 (ok := (fun _ => true)) (srt := sortD) rfl (sortD_len l) (lm := Lib.bitLen l.length) (bits_small (by unfold lim at hl; omega))
  simp (config := {contextual := true, maxDischargeDepth := 12}) only [tb_at, h0, h1, hlen, hL, qb, hw, qp, ↓bD, bU, forall_const, bS, implies_true, isNx, eq_self, ↓wp_cond, ↓wp_loop, ↓reduceIte, reduceCtorEq, Nat.reduceEqDiff, Nat.reduceLT, Nat.reduceAdd, Nat.reduceMul, bT, ↓sg_bsl, ↓st_callf, bX, ap_mkfn, ae_callvV, callvV_fn, List.cons_append, List.nil_append, boxV_i, boxV_dot, sto_dot, ap_conv, convV_int, bslV_0]
  exact ⟨_, rfl, ⟨rfl, hN'⟩, hC, hlow, fun e => by rw [hsame e]; exact .refl s⟩
theorem q_SSortD {s : St} {s0 : St} {v : AV} {l : List Dot} (hN : NewX dotC s0 s v l) (hl : l.length ≤ lim) : ∃ t, acall R_SSortD false [v, .fn 50 []] s = some (.tup [], t) ∧ NewX dotC s0 t v (sortD l) ∧ Chg (vids v) s t := by
  obtain ⟨r, t, h1, ⟨rfl, h2⟩, h3, h4, h5⟩ := run_awp n_SSortD (args := [v, .fn 50 []]) (by simp [a119]) (Q := fun r t => (r = .tup [] ∧ NewX dotC s0 t v (sortD l)) ∧ Chg (vids v) (lowd s) t ∧ (l ≠ [] → t.low < s.next) ∧ (l = [] → Keep (lowd s) t)) (w_SSortD (s := lowd s) (hN.mono fun _ _ h => h) hl)
  by_cases hl0 : l = []
  · have hs : sortD l = [] := by
      have : (sortD l).length = l.length := (sortD_len l)
      rw [hl0] at this ⊢
      simpa using this
    refine ⟨s, acall_same h1 (h5 hl0) rfl, ?_, (Keep.refl s).chg _⟩
    rw [hs]
    rw [hl0] at hN
    exact hN
  · obtain ⟨t', g1, g2, g3, g4⟩ := acall_new h1 h3 (.inr (h4 hl0))
    exact ⟨t', g1, h2.mono fun id b hb => by rw [g2]; exact hb, g4⟩
noncomputable def R_SSortV : Con := runFn (tb [(117, cBits), (116, cPdq 111 okV sortV)]) a110
theorem s_SSortV : SoundAt Tryz.prog 110 R_SSortV := run_sound (tb_sound (l := [(117, cBits), (116, cPdq 111 okV sortV)]) (by simpa using ⟨s_bits, s_pdqSSortV⟩)) mixed Tryz.func110 k110 c110
theorem n_SSortV : noNxtC a110.body = true := by kernel_rfl
theorem w_SSortV {s : St} {s0 : St} {v : AV} {l : List Dot} (hN : NewX dotC s0 s v l) (hl : l.length ≤ lim) (hnd : (l.map Dot.r).Nodup) : ∀ env : Env, elen env = a110.ntmps → (∀ i x_, [v, .fn 111 []][i]? = some x_ → E env i = x_) → awp (tb [(117, cBits), (116, cPdq 111 okV sortV)]) a110.body (fun x e t => (∀ i, x ≠ .exit i) ∧ ∃ r, aresults e t a110.results = some r ∧ (r = .tup [] ∧ NewX dotC s0 t v (sortV l)) ∧ Chg (vids v) s t ∧ (l ≠ [] → t.low < s.next) ∧ (l = [] → Keep s t)) env s := by
  intro env hlen ha
  have h0 : E env 0 = _ := ha 0 _ rfl
  have h1 : E env 1 = _ := ha 1 _ rfl
  have hlen : elen env = _ := hlen
  simp only [a110] at hlen
  unfold a110
  try dsimp only [oO, oG]
  have hL := lenV_read hN.read
  have qb := q_bits false (n := l.length) (s := s) (by unfold lim at hl; omega)
  have hw := wrap_u64 (n := l.length) (by unfold lim at hl; omega)
  obtain ⟨t, qp, hN', hC, hlow, hsame⟩ := pdq_call hN hl 111 (ok := okV) (srt := sortV) (decide_eq_true hnd) (sortV_len l) (lm := Lib.bitLen l.length) (bits_small (by unfold lim at hl; omega))
  simp (config := {contextual := true, maxDischargeDepth := 12}) only [tb_at, h0, h1, hlen, hL, qb, hw, qp, ↓bD, bU, forall_const, bS, implies_true, isNx, eq_self, ↓wp_cond, ↓wp_loop, ↓reduceIte, reduceCtorEq, Nat.reduceEqDiff, Nat.reduceLT, Nat.reduceAdd, Nat.reduceMul, bT, ↓sg_bsl, ↓st_callf, bX, ap_mkfn, ae_callvV, callvV_fn, List.cons_append, List.nil_append, boxV_i, boxV_dot, sto_dot, ap_conv, convV_int, bslV_0]
  exact ⟨_, rfl, ⟨rfl, hN'⟩, hC, hlow, fun e => by rw [hsame e]; exact .refl s⟩
theorem q_SSortV {s : St} {s0 : St} {v : AV} {l : List Dot} (hN : NewX dotC s0 s v l) (hl : l.length ≤ lim) (hnd : (l.map Dot.r).Nodup) : ∃ t, acall R_SSortV false [v, .fn 111 []] s = some (.tup [], t) ∧ NewX dotC s0 t v (sortV l) ∧ Chg (vids v) s t := by
  obtain ⟨r, t, h1, ⟨rfl, h2⟩, h3, h4, h5⟩ := run_awp n_SSortV (args := [v, .fn 111 []]) (by simp [a110]) (Q := fun r t => (r = .tup [] ∧ NewX dotC s0 t v (sortV l)) ∧ Chg (vids v) (lowd s) t ∧ (l ≠ [] → t.low < s.next) ∧ (l = [] → Keep (lowd s) t)) (w_SSortV (s := lowd s) (hN.mono fun _ _ h => h) hl hnd)
  by_cases hl0 : l = []
  · have hs : sortV l = [] := by
      have : (sortV l).length = l.length := (sortV_len l)
      rw [hl0] at this ⊢
      simpa using this
    refine ⟨s, acall_same h1 (h5 hl0) rfl, ?_, (Keep.refl s).chg _⟩
    rw [hs]
    rw [hl0] at hN
    exact hN
  · obtain ⟨t', g1, g2, g3, g4⟩ := acall_new h1 h3 (.inr (h4 hl0))
    exact ⟨t', g1, h2.mono fun id b hb => by rw [g2]; exact hb, g4⟩

end Go.AM
end
/-
  Maps from replicas to counters in memory. Own work of this project.
-/
section
namespace Go.AM
open Go Go.Proofs

variable {s t : St}
/-! ### Counters by replicas -/
def entsI : Nat → List Dot → List (AV × AV × Nat)
  | _, [] => []
  | k, x :: r => (.int .i64 x.r, .int .i64 x.c, k) :: entsI (k + 1) r
def mapI (l : List Dot) : AB := .map (entsI 0 l) l.length
def lookI : List Dot → Int → Option (Nat × Dot)
  | [], _ => none
  | x :: r, d => if x.r = d then some (0, x) else (lookI r d).map fun p => (p.1 + 1, p.2)
def updI (l : List Dot) (x : Dot) : List Dot := match lookI l x.r with
  | some (j, _) => l.set j x
  | none => l ++ [x]
theorem eqK_int (a b : Int) : eqK (.ky .i) (.int .i64 a) (.int .i64 b) = some (decide (b = a)) := by
  simp only [eqK, eqF, if_true]
  congr 1
  rw [Bool.eq_iff_iff]
  simp only [beq_iff_eq, decide_eq_true_eq]
  exact eq_comm
theorem key_int (d : Int) : (AV.int .i64 d).key (.ky .i) = true := rfl
theorem whole_int (x : Int) : (AV.int .i64 x).whole = true := rfl
theorem find_entsI : ∀ (l : List Dot) (d : Int) (k i : Nat), findE (.ky .i) (.int .i64 d) (entsI k l) i = some ((lookI l d).map fun p => (i + p.1, .int .i64 p.2.c))
  | [], d, k, i => rfl
  | x :: r, d, k, i => by
    simp only [entsI, findE, eqK_int, lookI]
    by_cases h : x.r = d
    · simp [h]
    · simp only [h, decide_false, if_false]
      rw [find_entsI r d (k + 1) (i + 1)]
      cases lookI r d <;> simp [Nat.add_comm, Nat.add_left_comm]
theorem lookI_some : ∀ {l : List Dot} {d : Int} {j : Nat} {x : Dot}, lookI l d = some (j, x) → l[j]? = some x ∧ x.r = d
  | [], d, j, x, h => by simp [lookI] at h
  | y :: r, d, j, x, h => by
    simp only [lookI] at h
    split at h
    · injection h with h
      obtain ⟨rfl, rfl⟩ := Prod.mk.inj h
      exact ⟨rfl, by assumption⟩
    · obtain ⟨p, hp, h⟩ := Option.map_eq_some_iff.1 h
      obtain ⟨rfl, rfl⟩ := Prod.mk.inj h
      obtain ⟨h1, h2⟩ := lookI_some (l := r) (j := p.1) (x := p.2) hp
      exact ⟨by simpa using h1, h2⟩
theorem entsI_get : ∀ (l : List Dot) (k j : Nat), (entsI k l)[j]? = (l[j]?).map fun x => (.int .i64 x.r, .int .i64 x.c, k + j)
  | [], k, j => by simp [entsI]
  | x :: r, k, 0 => rfl
  | x :: r, k, j + 1 => by
    simp only [entsI, List.getElem?_cons_succ, entsI_get r (k + 1) j]
    rw [show k + 1 + j = k + (j + 1) by omega]
theorem entsI_append : ∀ (l m : List Dot) (k : Nat), entsI k (l ++ m) = entsI k l ++ entsI (k + l.length) m
  | [], m, k => by simp [entsI]
  | x :: r, m, k => by
    simp only [List.cons_append, entsI, entsI_append r m (k + 1), List.length_cons]
    rw [show k + 1 + r.length = k + (r.length + 1) by omega]
theorem entsI_set : ∀ (l : List Dot) (k j : Nat) (x : Dot), entsI k (l.set j x) = (entsI k l).set j (.int .i64 x.r, .int .i64 x.c, k + j)
  | [], k, j, x => by simp [entsI]
  | y :: r, k, 0, x => by simp [entsI]
  | y :: r, k, j + 1, x => by
    simp only [List.set_cons_succ, entsI, entsI_set r (k + 1) j x]
    rw [show k + 1 + j = k + (j + 1) by omega]
theorem lookI_hit {l : List Dot} {d : Int} {j : Nat} {x : Dot} {id : Nat} (hg : s.get id = some (mapI l)) (h : lookI l d = some (j, x)) (z : AV) : lookV s z (.ky .i) false (.mp id) (.int .i64 d) = some (.int .i64 x.c) := by
  simp only [lookV, key_int, if_true, hg, mapI, find_entsI, h, Option.map_some, Bool.false_eq_true, if_false]
theorem lookI_miss {l : List Dot} {d : Int} {id : Nat} (hg : s.get id = some (mapI l)) (h : lookI l d = none) (z : AV) : lookV s z (.ky .i) false (.mp id) (.int .i64 d) = some z := by
  simp only [lookV, key_int, if_true, hg, mapI, find_entsI, h, Option.map_none, Bool.false_eq_true, if_false]
theorem msetI_map {l : List Dot} {id : Nat} (hg : s.get id = some (mapI l)) (x : Dot) : msetV s (.ky .i) (.mp id) (.int .i64 x.r) (.int .i64 x.c) = some (.und, s.put id (mapI (updI l x))) := by
  simp only [msetV, key_int, whole_int, Bool.and_self, if_true, hg, mapI, find_entsI, updI]
  cases h : lookI l x.r with
  | none =>
    simp only [Option.map_none, entsI_append, entsI, List.length_append, List.length_singleton, Nat.zero_add]
  | some p =>
    obtain ⟨j, y⟩ := p
    obtain ⟨h1, h2⟩ := lookI_some h
    simp only [Option.map_some, Nat.zero_add, entsI_get, h1, entsI_set, List.length_set]
theorem rngI_map {l : List Dot} {id : Nat} (hg : s.get id = some (mapI l)) : rngV s (.mp id) = some (.ptr s.next 0, s.push (.iter (some id) l.length [] l.length)) := by
  simp only [rngV, hg, mapI]
theorem nextI_map {l : List Dot} {id p : Nat} {seen : List Nat} {K : AV → St → Prop} (hg : s.get id = some (mapI l)) (hp : s.get p = some (.iter (some id) l.length seen l.length))
    (h1 : (∀ i, i < l.length → i ∈ seen) → K (.tup [.bool false]) s) (h2 : ∀ i x, l[i]? = some x → i ∉ seen → K (.tup [.bool true, .int .i64 x.r, .int .i64 x.c]) (s.put p (.iter (some id) l.length (seen ++ [i]) l.length))) : anext (.ptr p 0) s K := by
  simp only [anext, hp, hg, mapI]
  have hm : ∀ e ∈ entsI 0 l, ∃ i x, l[i]? = some x ∧ e = (.int .i64 x.r, .int .i64 x.c, i) := by
    intro e he
    obtain ⟨i, hi⟩ := List.getElem?_of_mem he
    rw [entsI_get] at hi
    obtain ⟨x, hx, rfl⟩ := Option.map_eq_some_iff.1 hi
    exact ⟨i, x, hx, by simp⟩
  refine ⟨fun e he => ?_, Nat.le_refl _, fun ha => h1 fun i hi => ?_, fun e he hs => ?_⟩
  · obtain ⟨i, x, hx, rfl⟩ := hm e he
    exact getlt hx
  · obtain ⟨x, hx⟩ := getsome hi
    have : (entsI 0 l)[i]? = some (.int .i64 x.r, .int .i64 x.c, 0 + i) := by rw [entsI_get, hx]; rfl
    have := ha _ (List.mem_of_getElem? this)
    simpa using this
  · obtain ⟨i, x, hx, rfl⟩ := hm e he
    exact h2 i x hx hs
theorem entI_map {l : List Dot} {id p : Nat} {seen : List Nat} {i : Nat} {x : Dot} (hg : s.get id = some (mapI l)) (hp : s.get p = some (.iter (some id) l.length (seen ++ [i]) l.length)) (hx : l[i]? = some x) : entV s (.ptr p 0) = some (.tup [.int .i64 x.r, .int .i64 x.c]) := by
  have key : ∀ (l : List Dot) (k i : Nat) (x : Dot), l[i]? = some x → (entsI k l).find? (fun e => e.2.2 == k + i) = some (.int .i64 x.r, .int .i64 x.c, k + i) := by
    intro l
    induction l with
    | nil => intro k i x h; simp at h
    | cons y r ih =>
      intro k i x h
      cases i with
      | zero => simp at h; subst h; simp [entsI]
      | succ i =>
        have e : k + (i + 1) = k + 1 + i := by omega
        rw [entsI, List.find?_cons_of_neg (by simp), e]
        exact ih (k + 1) i x (by simpa using h)
  have := key l 0 i x hx
  rw [Nat.zero_add] at this
  simp only [entV, hp, hg, mapI, List.getLast?_concat, if_true, this, Option.map_some]
end Go.AM
end
/-
  vector.made: the greatest counters of some dots. Own work of this project; in part printed by a program of it.
-/
section
set_option maxRecDepth 100000
set_option maxHeartbeats 8000000
namespace Go.AM
open Go Go.Proofs

variable {s t u : St}

theorem updI_cons (x y : Dot) (r : List Dot) : updI (x :: r) y = if x.r = y.r then y :: r else x :: updI r y := by
  unfold updI
  rw [lookI]
  by_cases h : x.r = y.r
  · rw [if_pos h, if_pos h]; rfl
  · rw [if_neg h, if_neg h]
    cases lookI r y.r with
    | none => rfl
    | some p => rfl
theorem updI_nil (y : Dot) : updI [] y = [y] := rfl
theorem vget_upd (y : Dot) (k : Int) : ∀ M : List Dot, vget (updI M y) k = if k = y.r then y.c else vget M k
  | [] => by
    simp only [updI_nil, vget]
    by_cases h : k = y.r
    · rw [if_pos h.symm, if_pos h]
    · rw [if_neg (fun e => h e.symm), if_neg h]
  | x :: r => by
    rw [updI_cons]
    by_cases h : x.r = y.r
    · rw [if_pos h, vget, vget, h]
      by_cases hk : k = y.r
      · rw [if_pos hk.symm, if_pos hk]
      · rw [if_neg (fun e => hk e.symm), if_neg hk, if_neg (fun e => hk e.symm)]
    · rw [if_neg h, vget, vget, vget_upd y k r]
      by_cases hk : x.r = k
      · rw [if_pos hk, if_pos hk, if_neg (fun e => h (hk.trans e))]
      · rw [if_neg hk, if_neg hk]
theorem updI_mem {y x : Dot} : ∀ {M : List Dot}, x ∈ updI M y → x = y ∨ x ∈ M
  | [], h => by simp [updI_nil] at h; exact .inl h
  | z :: r, h => by
    rw [updI_cons] at h
    split at h
    · rcases List.mem_cons.1 h with h | h
      · exact .inl h
      · exact .inr (by simp [h])
    · rcases List.mem_cons.1 h with h | h
      · exact .inr (by simp [h])
      · exact (updI_mem h).imp id fun h => by simp [h]
theorem updI_nodup {y : Dot} : ∀ {M : List Dot}, (M.map Dot.r).Nodup → ((updI M y).map Dot.r).Nodup
  | [], h => by simp [updI_nil]
  | z :: r, h => by
    rw [updI_cons]
    simp only [List.map_cons, List.nodup_cons] at h
    split
    · rename_i e
      simp only [List.map_cons, List.nodup_cons]
      rw [← e]
      exact h
    · rename_i e
      simp only [List.map_cons, List.nodup_cons]
      refine ⟨fun hm => ?_, updI_nodup h.2⟩
      obtain ⟨x, hx, hxr⟩ := List.mem_map.1 hm
      rcases updI_mem hx with rfl | hx
      · exact e hxr.symm
      · exact h.1 (by rw [← hxr]; exact List.mem_map_of_mem hx)
theorem updI_len (y : Dot) : ∀ M : List Dot, (updI M y).length ≤ M.length + 1
  | [] => by simp [updI_nil]
  | z :: r => by
    rw [updI_cons]
    split
    · simp
    · have := updI_len y r
      simp
      omega
theorem look_vget : ∀ (M : List Dot) (k : Int), (∃ j x, lookI M k = some (j, x) ∧ vget M k = x.c) ∨ (lookI M k = none ∧ vget M k = 0)
  | [], k => .inr ⟨rfl, rfl⟩
  | y :: r, k => by
    rw [lookI, vget]
    by_cases h : y.r = k
    · rw [if_pos h, if_pos h]
      exact .inl ⟨0, y, rfl, rfl⟩
    · rw [if_neg h, if_neg h]
      rcases look_vget r k with ⟨j, x, h1, h2⟩ | ⟨h1, h2⟩
      · exact .inl ⟨j + 1, x, by rw [h1]; rfl, h2⟩
      · exact .inr ⟨by rw [h1]; rfl, h2⟩
def mstep (M : List Dot) (d : Dot) : List Dot := updI M ⟨d.r, max (vget M d.r) d.c⟩
structure MInv (l M : List Dot) : Prop where
  nd : (M.map Dot.r).Nodup
  val : ∀ x ∈ M, x.valid = true
  get : ∀ k, vget M k = vmax 0 k l
  len : M.length ≤ l.length
theorem minv_step {l M : List Dot} {d : Dot} (h : MInv l M) (hl : ∀ x ∈ l, x.valid = true) (hd : d.valid = true) : MInv (l ++ [d]) (mstep M d) := by
  have hdv := (valid_iff d).1 hd
  have hg := h.get d.r
  have hbound : vget M d.r ≤ 4294967295 := by
    rcases vget_or M d.r with q | ⟨x, hx, _, hc⟩
    · omega
    · have := (valid_iff x).1 (h.val x hx)
      omega
  refine ⟨updI_nodup h.nd, fun x hx => ?_, fun k => ?_, ?_⟩
  · rcases updI_mem hx with rfl | hx
    · refine (valid_iff _).2 ⟨hdv.1, hdv.2.1, ?_, ?_⟩ <;> simp only <;> omega
    · exact h.val x hx
  · rw [vmax_app, ← h.get k]
    unfold mstep
    rw [vget_upd]
    simp only [vmax]
    split
    · rename_i e
      rw [e]
    · rfl
  · have := updI_len ⟨d.r, max (vget M d.r) d.c⟩ M
    have := h.len
    unfold mstep
    simp
    omega
theorem minv_fold {l : List Dot} (hl : ∀ x ∈ l, x.valid = true) : ∀ i, i ≤ l.length → MInv (l.take i) ((l.take i).foldl mstep [])
  | 0, _ => ⟨by simp, by simp, fun k => rfl, by simp⟩
  | i + 1, hi => by
    obtain ⟨x, hx⟩ := getsome (l := l) (i := i) (by omega)
    rw [take_snoc hx, List.foldl_append]
    exact minv_step (minv_fold hl i (by omega)) (fun y hy => hl y (List.mem_of_mem_take hy)) (hl x (mem_at hx))
theorem minv_made {l M : List Dot} (h : MInv l M) (hl : l.all Dot.valid = true) : sortV M = madeL l := by
  have hs := sortV_srt M h.nd
  have hv : vvalid (sortV M) = true := (vvalid_iff _).2 ⟨hs, fun x hx => h.val x ((sortV_perm M).mem_iff.1 hx)⟩
  refine vget_ext hv (madeL_valid hl) fun k => ?_
  have e2 : vget (madeL l) k = vmax 0 k l := by
    unfold madeL
    rw [fold_get vvalid_nil hl]
    rfl
  rw [e2, ← h.get k]
  have hmem : ∀ x ∈ M, vget M x.r = x.c := by
    intro x hx
    clear hs hv e2
    have hnd := h.nd
    clear h hl
    induction M with
    | nil => simp at hx
    | cons y r ih =>
      simp only [List.map_cons, List.nodup_cons] at hnd
      rcases List.mem_cons.1 hx with rfl | hx
      · simp [vget]
      · rw [vget, if_neg, ih hx hnd.2]
        intro e
        exact hnd.1 (by rw [e]; exact List.mem_map_of_mem hx)
  rcases vget_or M k with q | ⟨x, hx, hk, hc⟩
  · have : vget (sortV M) k = 0 := by
      refine vget_none fun x hx e => ?_
      have hx := (sortV_perm M).mem_iff.1 hx
      have := hmem x hx
      have := (valid_iff x).1 (h.val x hx)
      rw [e] at *
      omega
    rw [this, q]
  · subst hk
    rw [vget_mem hs ((sortV_perm M).mem_iff.2 hx), hmem x hx]
theorem range_getD (M : List Dot) : (List.range M.length).map (fun i => M[i]?) = M.map some := by
  apply List.ext_getElem?
  intro i
  rw [List.getElem?_map, List.getElem?_map]
  by_cases h : i < M.length
  · rw [List.getElem?_range h]
    simp [h]
  · rw [List.getElem?_eq_none (by simpa using h), List.getElem?_eq_none (by omega)]
    rfl
theorem seen_permD {M acc : List Dot} {seen : List Nat} (h1 : seen.Nodup) (h2 : ∀ i ∈ seen, i < M.length) (h3 : acc.map some = seen.map fun i => M[i]?) (h4 : ∀ i, i < M.length → i ∈ seen) : acc.Perm M := by
  have hp : seen.Perm (List.range M.length) := (List.perm_ext_iff_of_nodup h1 List.nodup_range).2 fun i => by
    rw [List.mem_range]
    exact ⟨h2 i, h4 i⟩
  have h5 := hp.map fun i => M[i]?
  rw [← h3, range_getD] at h5
  have h6 := h5.filterMap (fun x => x)
  have e : ∀ l : List Dot, (l.map some).filterMap (fun x => x) = l := by
    intro l
    induction l with
    | nil => rfl
    | cons x r ih => simp [ih]
  rwa [e, e] at h6
theorem own_of_new {β : Type} {C : Cod β} {v : AV} {l l' : List β} (h : Own C s t v l) (k : NewX C s u v l') (hl : l'.length = l.length) : Own C s u v l' := by
  rcases h with ⟨rfl, rfl⟩ | ⟨j, rfl, h0, h1, h2⟩
  · rcases k with ⟨_, k⟩ | ⟨j, cap, k, _⟩
    · exact .inl ⟨rfl, k⟩
    · cases k
  · rcases k with ⟨k, _⟩ | ⟨j', cap, k, k1, k2⟩
    · cases k
    · injection k with e1 e2 e3 e4
      subst e1
      refine .inr ⟨j, by rw [hl], ?_, h1, k2⟩
      intro e
      rw [e] at hl
      have := List.length_eq_zero_iff.1 hl.symm
      exact h0 this
theorem own_vids {β : Type} {C : Cod β} {v : AV} {l : List β} (h : Own C s t v l) : ∀ id ∈ vids v, s.next ≤ id := by
  rcases h with ⟨rfl, _⟩ | ⟨j, rfl, _, h1, _⟩
  · simp [vids]
  · intro id hid
    simp [vids] at hid
    omega
theorem fstep_d0 (a : Int) (K : List AV → Option (List AV)) : fstep [.int .i64 0, .int .i64 0] 0 1 (.int .i64 a) K = K [.int .i64 a, .int .i64 0] := nrfl rfl
theorem fstep_d1 (a b : Int) (K : List AV → Option (List AV)) : fstep [.int .i64 a, .int .i64 0] 1 1 (.int .i64 b) K = K (Dot.av ⟨a, b⟩) := nrfl rfl
theorem bsl_dot {x : Dot} : bslV [.int .i64 0, .int .i64 0] 1 2 [(0, .agg (Dot.av x))] = some (fun id => .sl id 0 1 (some 1) 2, .row (Dot.av x) true) := nrfl rfl
def gMade (l : List Dot) : Option (List Dot × Option AV) := if l.all Dot.valid = true then some (madeL l, none) else none
theorem s_VMade : SoundAt Tryz.prog 100 (conF dotC (pL dotC gMade)) :=
  con_fresh (tb_sound (l := [(110, R_SSortV)]) (by simpa using s_SSortV)) mixed Tryz.func100 k100 c100 fun args s r ee h => by
    obtain ⟨v, l, rfl, hr, hl, hp⟩ := pL_some h
    have hall : l.all Dot.valid = true := by
      unfold gMade at hp
      split at hp
      · assumption
      · cases hp
    unfold gMade at hp
    rw [if_pos hall] at hp
    injection hp with hp
    obtain ⟨rfl, rfl⟩ := Prod.mk.inj hp
    refine ⟨by simp, by simp [a100], fun env hlen ha => ?_⟩
    have h0 : E env 0 = _ := ha 0 _ rfl
    have hlen : elen env = _ := hlen
    simp only [a100] at hlen
    unfold a100
    try dsimp only [oO, oG]
    have hL := lenV_read hr
    have hvl := List.all_eq_true.1 hall
    simp (config := {contextual := true, maxDischargeDepth := 12}) only [tb_at, h0, hlen, hL, ↓bD, bU, forall_const, bS, implies_true, isNx, eq_self, ↓wp_cond, ↓wp_loop, ↓reduceIte, reduceCtorEq, Nat.reduceEqDiff, Nat.reduceLT, Nat.reduceAdd, Nat.reduceMul, bT, ↓sg_bsl, ↓st_callf, bX, ap_mkfn, ae_callvV, callvV_fn, List.cons_append, List.nil_append, boxV_i, boxV_dot, sto_dot, ap_conv, convV_int, bslV_0, fstep_d0, fstep_d1, bsl_dot]
    obtain ⟨I, hI⟩ : ∃ I : Nat → Env → St → Prop, ∀ n e t, I n e t = (Keep s t ∧ ∃ i : Nat, n + i = l.length ∧ elen e = 43 ∧ E e 3 = .mp s.next ∧ E e 10 = v ∧ E e 11 = .int .i64 (l.length : Int) ∧ E e 12 = .int .i64 (i : Int) ∧ t.get s.next = some (mapI ((l.take i).foldl mstep []))) := ⟨fun n e t => (Keep s t ∧ ∃ i : Nat, n + i = l.length ∧ elen e = 43 ∧ E e 3 = .mp s.next ∧ E e 10 = v ∧ E e 11 = .int .i64 (l.length : Int) ∧ E e 12 = .int .i64 (i : Int) ∧ t.get s.next = some (mapI ((l.take i).foldl mstep []))), fun _ _ _ => rfl⟩
    refine lwp_inv I (n := l.length) ?_ ?_
    · rw [hI]
      exact ⟨(Keep.refl s).push _, 0, by omega, (by simp only [bE, Nat.reduceEqDiff, bN, Nat.reduceLT, hlen]; try rfl), (by simp only [bE, Nat.reduceEqDiff, bN, Nat.reduceLT, hlen]; try rfl), (by simp only [bE, Nat.reduceEqDiff, bN, Nat.reduceLT, hlen, h0]; try rfl), (by simp only [bE, Nat.reduceEqDiff, bN, Nat.reduceLT, hlen, hL]; try rfl), (by simp only [bE, Nat.reduceEqDiff, bN, Nat.reduceLT, hlen]; try rfl), by rw [List.take_zero]; exact St.get_push_new s _⟩
    intro n e t hi
    rw [hI] at hi
    obtain ⟨hK, i, hni, he, e3, e10, e11, e12, gM⟩ := hi
    have hM := minv_fold hvl i (by omega)
    generalize hMM : (l.take i).foldl mstep [] = M at gM hM
    have lM := lt_of_get gM
    by_cases hlt : i < l.length
    · obtain ⟨d, hx⟩ := getsome hlt
      have hw2 := wrap_add1 (n := i) (by unfold lim at hl; omega)
      obtain ⟨a1, a2, a3, a4⟩ := dot_lods hr hK hx
      have i1 := dot_idx hr hx .i64
      have hlk : lookV t (.int .i64 0) (.ky .i) false (.mp s.next) (.int .i64 d.r) = some (.int .i64 (vget M d.r)) := by
        rcases look_vget M d.r with ⟨j, x, h1, h2⟩ | ⟨h1, h2⟩
        · rw [lookI_hit gM h1, h2]
        · rw [lookI_miss gM h1, h2]
      have hst := msetI_map gM ⟨d.r, max (vget M d.r) d.c⟩
      simp (config := {contextual := true, maxDischargeDepth := 12}) only [tb_at, he, e3, e10, e11, e12, hL, hlt, hw2, a1, a2, a3, a4, i1, hlk, hst, lM, ↓bD, bU, forall_const, bS, implies_true, isNx, eq_self, ↓wp_cond, ↓wp_loop, ↓reduceIte, reduceCtorEq, Nat.reduceEqDiff, Nat.reduceLT, Nat.reduceAdd, Nat.reduceMul, bT, ↓sg_bsl, ↓st_callf, bX, ap_mkfn, ae_callvV, callvV_fn, List.cons_append, List.nil_append, boxV_i, boxV_dot, sto_dot, ap_conv, convV_int, bslV_0, fstep_d0, fstep_d1, bsl_dot]
      have hnn : s.next ≤ s.next := Nat.le_refl _
      refine ⟨n - 1, by omega, ?_⟩
      rw [hI]
      refine ⟨((hK.put _ (Nat.le_refl _) lM).lowed).push _, i + 1, by omega, (by simp only [bE, Nat.reduceEqDiff, bN, Nat.reduceLT, he, e3, e10, e11, e12]; try rfl), (by simp only [bE, Nat.reduceEqDiff, bN, Nat.reduceLT, he, e3, e10, e11, e12]; try rfl), (by simp only [bE, Nat.reduceEqDiff, bN, Nat.reduceLT, he, e3, e10, e11, e12]; try rfl), (by simp only [bE, Nat.reduceEqDiff, bN, Nat.reduceLT, he, e3, e10, e11, e12]; try rfl), (by simp only [bE, Nat.reduceEqDiff, bN, Nat.reduceLT, he, e3, e10, e11, e12]; try rfl), ?_⟩
      rw [take_snoc hx, List.foldl_append, hMM]
      exact get_push_some _ (St.get_put_same gM)
    · obtain rfl : i = l.length := by omega
      rw [List.take_length] at hMM hM
      have hrg := rngI_map gM
      have hgI : (t.push (.iter (some s.next) M.length [] M.length)).get t.next = some (.iter (some s.next) M.length [] M.length) := St.get_push_new _ _
      have hgM : (t.push (.iter (some s.next) M.length [] M.length)).get s.next = some (mapI M) := get_push_some _ gM
      simp (config := {contextual := true, maxDischargeDepth := 12}) only [tb_at, he, e3, e10, e11, e12, hL, hlt, hrg, lM, ↓bD, bU, forall_const, bS, implies_true, isNx, eq_self, ↓wp_cond, ↓wp_loop, ↓reduceIte, reduceCtorEq, Nat.reduceEqDiff, Nat.reduceLT, Nat.reduceAdd, Nat.reduceMul, bT, ↓sg_bsl, ↓st_callf, bX, ap_mkfn, ae_callvV, callvV_fn, List.cons_append, List.nil_append, boxV_i, boxV_dot, sto_dot, ap_conv, convV_int, bslV_0, fstep_d0, fstep_d1, bsl_dot]
      obtain ⟨I2, hI2⟩ : ∃ I : Nat → Env → St → Prop, ∀ n2 e2 t2, I n2 e2 t2 = (Keep s t2 ∧ ∃ (seen : List Nat) (acc : List Dot), n2 + seen.length = M.length ∧ elen e2 = 43 ∧ E e2 28 = .ptr t.next 0 ∧ t2.get s.next = some (mapI M) ∧ t2.get t.next = some (.iter (some s.next) M.length seen M.length) ∧ Own dotC s t2 (E e2 6) acc ∧ seen.Nodup ∧ (∀ k ∈ seen, k < M.length) ∧ acc.map some = seen.map fun k => M[k]?) := ⟨fun n2 e2 t2 => (Keep s t2 ∧ ∃ (seen : List Nat) (acc : List Dot), n2 + seen.length = M.length ∧ elen e2 = 43 ∧ E e2 28 = .ptr t.next 0 ∧ t2.get s.next = some (mapI M) ∧ t2.get t.next = some (.iter (some s.next) M.length seen M.length) ∧ Own dotC s t2 (E e2 6) acc ∧ seen.Nodup ∧ (∀ k ∈ seen, k < M.length) ∧ acc.map some = seen.map fun k => M[k]?), fun _ _ _ => rfl⟩
      refine lwp_inv I2 (n := M.length) ?_ ?_
      · rw [hI2]
        refine ⟨hK.push _, [], [], by simp, (by simp only [bE, Nat.reduceEqDiff, bN, Nat.reduceLT, he]; try rfl), (by simp only [bE, Nat.reduceEqDiff, bN, Nat.reduceLT, he]; try rfl), hgM, hgI, ?_, by simp, by simp, by simp⟩
        simp only [bE, Nat.reduceEqDiff, bN, Nat.reduceLT, he]
        exact .nil _ _ _
      clear hgI hgM hrg
      intro n2 e2 t2 hi2
      rw [hI2] at hi2
      obtain ⟨hK2, seen, acc, hn2, he2, e28, gM2, gI2, hO2, hsd, hsl, hac⟩ := hi2
      have lM2 := lt_of_get gM2
      have lI2 := lt_of_get gI2
      have hpI : s.next ≤ t.next := hK.next
      have hne0 : s.next ≠ t.next := by
        intro e
        rw [e, gI2] at gM2
        cases gM2
      simp only [↓wp_seq, ↓wp_reg, ↓st_nxt, aev_t, e28]
      refine nextI_map gM2 gI2 (fun hall2 => ?_) (fun i x hx hns => ?_)
      · have hpm := seen_permD hsd hsl hac hall2
        have hMl := hM.len
        have hal : acc.length ≤ lim := by rw [hpm.length_eq]; omega
        have hnd2 : (acc.map Dot.r).Nodup := (hpm.map Dot.r).nodup_iff.2 hM.nd
        obtain ⟨t3, hsrt, hN3, hC3⟩ := q_SSortV hO2.newX hal hnd2
        have hsm : sortV acc = madeL l := by
          rw [← minv_made hM hall]
          exact strict_uniq (fun a => by simp [vlt]) vlt_trans _ _ (sortV_srt acc hnd2) (sortV_srt M hM.nd) fun x => ((sortV_perm acc).trans (hpm.trans (sortV_perm M).symm)).mem_iff
        have hK3 : Keep s t3 := hK2.chgn hC3 (own_vids hO2)
        have hO3 := own_of_new hO2 hN3 (sortV_len acc)
        rw [hsm] at hO3
        simp (config := {contextual := true, maxDischargeDepth := 12}) only [tb_at, he2, e28, hsrt, ↓bD, bU, forall_const, bS, implies_true, isNx, eq_self, ↓wp_cond, ↓wp_loop, ↓reduceIte, reduceCtorEq, Nat.reduceEqDiff, Nat.reduceLT, Nat.reduceAdd, Nat.reduceMul, bT, ↓sg_bsl, ↓st_callf, bX, ap_mkfn, ae_callvV, callvV_fn, List.cons_append, List.nil_append, boxV_i, boxV_dot, sto_dot, ap_conv, convV_int, bslV_0, fstep_d0, fstep_d1, bsl_dot]
        exact ⟨hK3, _, rfl, hO3⟩
      · obtain ⟨t4, ht4⟩ : ∃ t4, t4 = t2.put t.next (.iter (some s.next) M.length (seen ++ [i]) M.length) := ⟨_, rfl⟩
        rw [← ht4]
        have gM4 : t4.get s.next = some (mapI M) := by rw [ht4, St.get_put_ne _ _ lI2 hne0]; exact gM2
        have gI4 : t4.get t.next = some (.iter (some s.next) M.length (seen ++ [i]) M.length) := by rw [ht4]; exact St.get_put_same gI2
        have hK4 : Keep s t4 := by rw [ht4]; exact hK2.put _ hpI lI2
        have hO4 : Own dotC s t4 (E e2 6) acc := by
          rcases hO2 with q | ⟨j, q1, q2, q3, q4⟩
          · exact .inl q
          · refine .inr ⟨j, q1, q2, q3, ?_⟩
            have : j ≠ t.next := by
              intro e
              rw [e, gI2] at q4
              cases q4
            rw [ht4, St.get_put_ne _ _ lI2 this]
            exact q4
        have lI4 := lt_of_get gI4
        have lM4 := lt_of_get gM4
        have hen := entI_map gM4 gI4 hx
        have hacl : acc.length = seen.length := by have := congrArg List.length hac; simpa using this
        obtain ⟨u, t5, hap, hK5, hO5⟩ := appV_one (C := dotC) hK4 hO4 x 16 (by
          have := hM.len
          unfold lim at *
          simp [roomBytes]
          omega)
        have hap : appV (t4.push (.row (Dot.av x) true)) 2 16 (E e2 6) (.sl t4.next 0 1 (some 1) 2) = some (u, t5) := hap
        have hdx : (⟨x.r, x.c⟩ : Dot) = x := rfl
        simp (config := {contextual := true, maxDischargeDepth := 12}) only [tb_at, he2, e28, hen, hap, hdx, ↓bD, bU, forall_const, bS, implies_true, isNx, eq_self, ↓wp_cond, ↓wp_loop, ↓reduceIte, reduceCtorEq, Nat.reduceEqDiff, Nat.reduceLT, Nat.reduceAdd, Nat.reduceMul, bT, ↓sg_bsl, ↓st_callf, bX, ap_mkfn, ae_callvV, callvV_fn, List.cons_append, List.nil_append, boxV_i, boxV_dot, sto_dot, ap_conv, convV_int, bslV_0, fstep_d0, fstep_d1, bsl_dot]
        have hne1 : ∀ o n c z, E e2 6 ≠ .sl s.next o n c z := by
          intro o n c z e
          rcases hO4 with ⟨q, _⟩ | ⟨j, q1, q2, q3, q4⟩
          · rw [q] at e; cases e
          · rw [q1] at e
            injection e with e
            rw [e, gM4] at q4
            cases q4
        have hne2 : ∀ o n c z, E e2 6 ≠ .sl t.next o n c z := by
          intro o n c z e
          rcases hO4 with ⟨q, _⟩ | ⟨j, q1, q2, q3, q4⟩
          · rw [q] at e; cases e
          · rw [q1] at e
            injection e with e
            rw [e, gI4] at q4
            cases q4
        have hil := getlt hx
        refine ⟨n2 - 1, by
          have := room_left hsd hsl hil hns
          omega, ?_⟩
        rw [hI2]
        refine ⟨hK5, seen ++ [i], acc ++ [x], ?_, (by simp only [bE, Nat.reduceEqDiff, bN, Nat.reduceLT, he2]; try rfl), (by simp only [bE, Nat.reduceEqDiff, bN, Nat.reduceLT, he2, e28]; try rfl), ?_, ?_, by simp only [bE, Nat.reduceEqDiff, bN, Nat.reduceLT, he2]; exact hO5, ?_, ?_, ?_⟩
        · have := room_left hsd hsl hil hns
          simp
          omega
        · exact appV_frame hap hne1 (get_push_some _ gM4)
        · exact appV_frame hap hne2 (get_push_some _ gI4)
        · rw [List.nodup_append]
          exact ⟨hsd, by simp, fun a ha b hb e => by simp at hb; subst hb; subst e; exact hns ha⟩
        · intro k hk
          rcases List.mem_append.1 hk with hk | hk
          · exact hsl k hk
          · simp at hk; omega
        · rw [List.map_append, List.map_append, hac]
          simp [hx]
theorem q_VMade {v : AV} {l : List Dot} (hr : read dotC s v = some l) (hl : l.length ≤ lim) (hall : l.all Dot.valid = true) : ∃ w t, acall (conF dotC (pL dotC gMade)) false [v] s = some (w, t) ∧ Keep s t ∧ Own dotC s t w (madeL l) := by
  obtain ⟨w, t, h1, h2, h3⟩ := fresh_L (D := dotC) (f := gMade) hr hl (by unfold gMade; rw [if_pos hall]) (by simp)
  rw [mkR_none] at h1
  exact ⟨w, t, h1, h2, h3⟩

end Go.AM
end
