/-
  Small tables of contracts; dots and nodes as data. Own work of this project.
-/
import Derived.Test.YtihjheckdjocoaaAmCon
set_option linter.unusedVariables false
set_option linter.unusedSimpArgs false
namespace Go.AM
open Go

abbrev Con := List AV → St → Option (AV × St)
def tb : List (Nat × Con) → Nat → Con
  | [], _ => fun _ _ => none
  | (g, c) :: r, f => if f = g then c else tb r f
theorem tb_sound {P : Program} : ∀ {l : List (Nat × Con)}, (∀ p ∈ l, SoundAt P p.1 p.2) → Sound P (tb l)
  | [], _ => fun f as s r s' h => by simp [tb] at h
  | (g, c) :: l, h => fun f as s r s' hc => by
    simp only [tb] at hc
    split at hc
    · rename_i e
      subst e
      exact h (f, c) (by simp) as s r s' hc
    · exact tb_sound (l := l) (fun p hp => h p (by simp [hp])) f as s r s' hc

theorem pure_of {P : Program} {g : Nat} {c : Con} (h : SoundAt P g c) {c' : Con} (hk : ∀ as s r s', c' as s = some (r, s') → s' = s ∧ as.all AV.plains = true ∧ r.ground = true ∧ ∃ t, c as St.empty = some (r, t)) : SoundAt P g c' :=
  (pure_sound h).weaken fun as s r s' hc => by
    obtain ⟨rfl, h1, h2, t, h3⟩ := hk as s r s' hc
    simp [pureC, h1, h3, h2]

theorem beq_dec (a b : Int) : (a == b) = decide (a = b) := by
  by_cases h : a = b <;> simp [h]
theorem bne_dec (a b : Int) : (a != b) = !decide (a = b) := by
  by_cases h : a = b <;> simp [h]

/-! ### Data -/
structure Dot where
  r : Int
  c : Int
  deriving DecidableEq
structure Nd where
  d : Dot
  p : Dot
  t : Int
  x : Int
  deriving DecidableEq
def Dot.av (d : Dot) : List AV := [.int .i64 d.r, .int .i64 d.c]
def Nd.av (n : Nd) : List AV := [.int .i64 n.d.r, .int .i64 n.d.c, .int .i64 n.p.r, .int .i64 n.p.c, .int .i64 n.t, .int .i32 n.x]
def cmpI (a b : Int) : Int := if a < b then -1 else if b < a then 1 else 0
def dcmp (a b : Dot) : Int := if cmpI a.c b.c = 0 then cmpI a.r b.r else cmpI a.c b.c

/-! ### Contracts -/
def cCmpInt : Con := fun as s => match as with
  | [.int .i64 a, .int .i64 b] => some (.int .i64 (cmpI a b), s)
  | _ => none
def cIsNaNInt : Con := fun as s => match as with
  | [.int .i64 a] => some (.bool false, s)
  | _ => none
/-- cmp.Or of two numbers. -/
def cOr2 : Con := fun as s => match as with
  | [.sl id off 2 _ 1] => match s.get id with
    | some (.row cs _) => match cs[off]?, cs[off + 1]? with
      | some (.int .i64 a), some (.int .i64 b) => some (.int .i64 (if a = 0 then b else a), s)
      | _, _ => none
    | _ => none
  | _ => none
def cDotCmp : Con := fun as s => match as with
  | [.agg [.int .i64 a, .int .i64 b], .agg [.int .i64 c, .int .i64 d]] => some (.int .i64 (dcmp ⟨a, b⟩ ⟨c, d⟩), s)
  | _ => none
/-- The comparison of store.Of. -/
def cNodeCmp : Con := fun as s => match as with
  | [.agg [.int .i64 a, .int .i64 b, .int .i64 _, .int .i64 _, .int .i64 _, .int .i32 _], .agg [.int .i64 c, .int .i64 d, .int .i64 _, .int .i64 _, .int .i64 _, .int .i32 _]] => some (.int .i64 (dcmp ⟨a, b⟩ ⟨c, d⟩), s)
  | _ => none

end Go.AM
