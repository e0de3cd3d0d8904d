/-
  Loops; elements of lists that an argument shows; contracts of functions of lists. Own work of this project.
-/
import Derived.Test.YtihjheckdjocoaaAmNd
set_option linter.unusedVariables false
set_option linter.unusedSimpArgs false
namespace Go.AM
open Go

variable {call : Nat → List AV → St → Option (AV × St)} {env : Env} {s t : St}

/-! ### A loop, its continuation held back from rewriting -/
class HQ where
  q : AEx → Env → St → Prop
def lwp (call : Nat → List AV → St → Option (AV × St)) (c : AC) (env : Env) (s : St) [h : HQ] : Prop := awp call (.loop c) h.q env s
theorem wp_loop (c : AC) (Q : AEx → Env → St → Prop) : awp call (.loop c) Q env s = @lwp call c env s ⟨Q⟩ := nrfl rfl
theorem lwp_inv {c : AC} {Q : AEx → Env → St → Prop} (I : Nat → Env → St → Prop) {n : Nat} (h : I n env s)
    (step : ∀ n e t, I n e t → awp call c (fun x e' t' => match x with
      | .nor => ∃ m, m < n ∧ I m e' t'
      | x => Q x e' t') e t) : @lwp call c env s ⟨Q⟩ := awp_loop I step h

/-! ### Numbers -/
theorem wrap_nat {n : Nat} (h : n < 4611686018427387904) : IntKind.i64.wrap (n : Int) = (n : Int) := by
  simp only [IntKind.wrap, IntKind.signed, IntKind.bits]
  simp
  omega
theorem wrap_add1 {n : Nat} (h : n < 4611686018427387903) : IntKind.i64.wrap ((n : Int) + 1) = ((n + 1 : Nat) : Int) := wrap_nat (n := n + 1) (by omega)
theorem wrap_sub1 {n : Nat} (h : n < 4611686018427387903) : IntKind.i64.wrap (((n + 1 : Nat) : Int) - 1) = (n : Int) := by
  have := wrap_nat (n := n) (by omega)
  have e : ((n + 1 : Nat) : Int) - 1 = (n : Int) := by omega
  rw [e, this]

/-! ### Elements -/
def bid : AV → Nat
  | .sl id _ _ _ _ => id
  | _ => 0
def boff : AV → Nat
  | .sl _ off _ _ _ => off
  | _ => 0
theorem read_idx {α : Type} {C : Cod α} {v : AV} {l : List α} (h : read C s v = some l) {i : Nat} {x : α} (hi : l[i]? = some x) (k : IntKind) : iadV C.sz v (.int k (i : Int)) = some (.ptr (bid v) (boff v + i * C.sz)) := by
  have hlt := (List.getElem?_eq_some_iff.1 hi).1
  cases v with
  | nils => simp [read] at h; subst h; simp at hlt
  | sl id off n cap z =>
    obtain ⟨rfl, rfl, _⟩ := read_sl h
    exact iadV_nat hlt
  | _ => simp [read] at h
theorem read_lt {α : Type} {C : Cod α} {v : AV} {l : List α} (h : read C s v = some l) (hK : Keep s t) {i : Nat} {x : α} (hi : l[i]? = some x) : ltN (bid v) t := by
  have hlt := (List.getElem?_eq_some_iff.1 hi).1
  cases v with
  | nils => simp [read] at h; subst h; simp at hlt
  | sl id off n cap z =>
    obtain ⟨rfl, rfl, cs, own, hg, _⟩ := read_sl h
    exact St.get_lt (hK.blk hg)
  | _ => simp [read] at h
theorem nd_idx {v : AV} {l : List Nd} (h : read ndC s v = some l) {i : Nat} {x : Nd} (hi : l[i]? = some x) (k : IntKind) : iadV 6 v (.int k (i : Int)) = some (.ptr (bid v) (boff v + i * 6)) := read_idx h hi k
theorem dot_idx {v : AV} {l : List Dot} (h : read dotC s v = some l) {i : Nat} {x : Dot} (hi : l[i]? = some x) (k : IntKind) : iadV 2 v (.int k (i : Int)) = some (.ptr (bid v) (boff v + i * 2)) := read_idx h hi k
theorem nd_lods {v : AV} {l : List Nd} (h : read ndC s v = some l) (hK : Keep s t) {i : Nat} {x : Nd} (hi : l[i]? = some x) :
    lod t 6 (.ptr (bid v) (boff v + i * 6)) = some (.agg (Nd.av x)) ∧ lod t 2 (.ptr (bid v) (boff v + i * 6)) = some (.agg (Dot.av x.d)) ∧ lod t 2 (.ptr (bid v) (boff v + i * 6 + 2)) = some (.agg (Dot.av x.p)) ∧
    lod1 t (.ptr (bid v) (boff v + i * 6 + 4)) = some (.int .i64 x.t) ∧ lod1 t (.ptr (bid v) (boff v + i * 6 + 5)) = some (.int .i32 x.x) ∧ ltN (bid v) t := by
  have hl := read_lt h hK hi
  cases v with
  | nils => simp [read] at h; subst h; simp at hi
  | sl id off n cap z =>
    obtain ⟨a1, a2, a3, a4, a5⟩ := nd_loads h hi t fun b hb => hK.blk hb
    exact ⟨a1, a2, a3, a4, a5, hl⟩
  | _ => simp [read] at h
theorem dot_lods {v : AV} {l : List Dot} (h : read dotC s v = some l) (hK : Keep s t) {i : Nat} {x : Dot} (hi : l[i]? = some x) :
    lod t 2 (.ptr (bid v) (boff v + i * 2)) = some (.agg (Dot.av x)) ∧ lod1 t (.ptr (bid v) (boff v + i * 2)) = some (.int .i64 x.r) ∧ lod1 t (.ptr (bid v) (boff v + i * 2 + 1)) = some (.int .i64 x.c) ∧ ltN (bid v) t := by
  have hl := read_lt h hK hi
  cases v with
  | nils => simp [read] at h; subst h; simp at hi
  | sl id off n cap z =>
    obtain ⟨a1, a2, a3⟩ := dot_loads h hi t fun b hb => hK.blk hb
    exact ⟨a1, a2, a3, hl⟩
  | _ => simp [read] at h

theorem lod_reserve {id : Nat} (h : ltN id s) (k n o : Nat) : lod (s.reserve k) n (.ptr id o) = lod s n (.ptr id o) := by
  unfold ltN at h
  simp only [lod, St.get_reserve, if_pos h]
theorem lod1_reserve {id : Nat} (h : ltN id s) (k o : Nat) : lod1 (s.reserve k) (.ptr id o) = lod1 s (.ptr id o) := by
  unfold ltN at h
  simp only [lod1, St.get_reserve, if_pos h]
theorem nd_head {v : AV} {x : Nd} {r : List Nd} (h : read ndC s v = some (x :: r)) (hK : Keep s t) :
    iadV 6 v (.int .i64 0) = some (.ptr (bid v) (boff v)) ∧ lod t 6 (.ptr (bid v) (boff v)) = some (.agg (Nd.av x)) ∧ lod t 2 (.ptr (bid v) (boff v)) = some (.agg (Dot.av x.d)) ∧ ltN (bid v) t := by
  have hx : (x :: r)[0]? = some x := rfl
  obtain ⟨a1, a2, _, _, _, a6⟩ := nd_lods h hK hx
  have i1 := nd_idx h hx .i64
  rw [Nat.zero_mul, Nat.add_zero] at a1 a2 i1
  exact ⟨i1, a1, a2, a6⟩
/-! ### Contracts of functions of lists -/
def lim : Nat := 1000000
def conL {α : Type} (C : Cod α) (f : List α → AV) : Con := fun xs s => match xs with
  | [v] => match read C s v with
    | some l => if l.length ≤ lim then some (f l, s.lowed) else none
    | none => none
  | _ => none
def conLL {α β : Type} (C : Cod α) (D : Cod β) (f : List α → List β → AV) : Con := fun xs s => match xs with
  | [v, w] => match read C s v, read D s w with
    | some l, some m => if l.length ≤ lim ∧ m.length ≤ lim then some (f l m, s.lowed) else none
    | _, _ => none
  | _ => none
theorem conL_some {α : Type} {C : Cod α} {f : List α → AV} {xs : List AV} {s : St} {r : AV} {s' : St} (h : conL C f xs s = some (r, s')) : ∃ v l, xs = [v] ∧ read C s v = some l ∧ l.length ≤ lim ∧ r = f l ∧ s' = s.lowed := by
  unfold conL at h
  split at h
  · split at h
    · split at h
      · rename_i v _ l hr hl
        injection h with h
        obtain ⟨rfl, rfl⟩ := Prod.mk.inj h
        exact ⟨v, l, rfl, hr, hl, rfl, rfl⟩
      · cases h
    · cases h
  · cases h
theorem conLL_some {α β : Type} {C : Cod α} {D : Cod β} {f : List α → List β → AV} {xs : List AV} {s : St} {r : AV} {s' : St} (h : conLL C D f xs s = some (r, s')) :
    ∃ v w l m, xs = [v, w] ∧ read C s v = some l ∧ read D s w = some m ∧ l.length ≤ lim ∧ m.length ≤ lim ∧ r = f l m ∧ s' = s.lowed := by
  unfold conLL at h
  split at h
  · split at h
    · split at h
      · rename_i v w _ _ l m hr hw hl
        injection h with h
        obtain ⟨rfl, rfl⟩ := Prod.mk.inj h
        exact ⟨v, w, l, m, rfl, hr, hw, hl.1, hl.2, rfl, rfl⟩
      · cases h
    · cases h
  · cases h
theorem conL_call {α : Type} {C : Cod α} {f : List α → AV} (hf : ∀ l, (f l).ground = true) {v : AV} {l : List α} (h : read C s v = some l) (hl : l.length ≤ lim) (cl : Bool) : acall (conL C f) cl [v] s = some (f l, s) :=
  acall_rol (by simp only [conL, read_low, h, hl, if_true]) (hf l)
theorem conLL_call {α β : Type} {C : Cod α} {D : Cod β} {f : List α → List β → AV} (hf : ∀ l m, (f l m).ground = true) {v w : AV} {l : List α} {m : List β} (h : read C s v = some l) (k : read D s w = some m) (hl : l.length ≤ lim) (hm : m.length ≤ lim) (cl : Bool) :
    acall (conLL C D f) cl [v, w] s = some (f l m, s) :=
  acall_rol (by simp only [conLL, read_low, h, k, hl, hm, and_self, if_true]) (hf l m)
end Go.AM
