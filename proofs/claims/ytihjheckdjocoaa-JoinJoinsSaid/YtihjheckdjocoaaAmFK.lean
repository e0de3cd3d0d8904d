/-
  The chapter's examples: 'known' answers true. Own work of this project; in part printed by a program of it.
-/
import Derived.Test.YtihjheckdjocoaaAmFO
import Derived.KernelRfl
set_option linter.unusedVariables false
set_option linter.unusedSimpArgs false
set_option maxRecDepth 100000
set_option maxHeartbeats 4000000
namespace Go.AM
open Go Go.Proofs

def joinF : Nat → List Nd → List Nd → Option (List Nd)
  | 0, a, b => some (a ++ b)
  | n + 1, [], b => some b
  | n + 1, x :: a, [] => some (x :: a)
  | n + 1, x :: a, y :: b =>
    if x.d.before y.d = true then (joinF n a (y :: b)).map (x :: ·)
    else if y.d.before x.d = true then (joinF n (x :: a) b).map (y :: ·)
    else if x.clash y = true then none
    else (joinF n a b).map (x.merge y :: ·)
theorem joinF_eq : ∀ (n : Nat) (a b : List Nd), a.length + b.length ≤ n → joinF n a b = joinL a b
  | 0, a, b, h => by
    have h1 : a = [] := List.length_eq_zero_iff.1 (by omega)
    have h2 : b = [] := List.length_eq_zero_iff.1 (by omega)
    subst h1; subst h2
    simp [joinF, joinL]
  | n + 1, [], b, _ => by simp [joinF, joinL]
  | n + 1, x :: a, [], _ => by simp [joinF, joinL]
  | n + 1, x :: a, y :: b, h => by
    simp only [List.length_cons] at h
    rw [joinF, joinL, joinF_eq n a (y :: b) (by simp; omega), joinF_eq n (x :: a) b (by simp; omega), joinF_eq n a b (by omega)]
def gJoinK (a b : List Nd) : Option (List Nd × Option AV) :=
  if storeL a = true ∧ storeL b = true then match joinF (a.length + b.length) a b with
    | some l => some (l, some (.int .i64 0))
    | none => some ([], some (.int .i64 15))
  else some ([], some (.int .i64 2))
theorem gJoinK_eq : gJoinK = gJoin := by
  funext a b
  rw [gJoinK, gJoin, joinF_eq _ a b (Nat.le_refl _)]
  rfl
theorem s_JoinK : SoundAt Try.prog 14 (conF ndC (pLL ndC ndC gJoinK)) := by
  rw [gJoinK_eq]
  exact s_Join
def tabK : Nat → AFun
  | 8 => .code a8
  | 26 => .code a26
  | 11 => .code a11
  | 10 => .code a10
  | 19 => .code a19
  | 18 => .code a18
  | 23 => .code a23
  | 21 => .code a21
  | 33 => .code a33
  | 14 => .con (conF ndC (pLL ndC ndC gJoinK))
  | 15 => .con (conLL ndC ndC fSame)
  | 25 => .con (conLL ndC ndC fSame)
  | 44 => .con (conF ndC (pL ndC gOf))
  | 20 => .con (conL ndC fValid)
  | _ => .no
theorem tabK_ok : ∀ f, FunOk Try.prog f (tabK f) := by
  intro f
  unfold tabK
  split
  · exact ⟨k8, _, Try.func8, c8⟩
  · exact ⟨k26, _, Try.func26, c26⟩
  · exact ⟨k11, _, Try.func11, c11⟩
  · exact ⟨k10, _, Try.func10, c10⟩
  · exact ⟨k19, _, Try.func19, c19⟩
  · exact ⟨k18, _, Try.func18, c18⟩
  · exact ⟨k23, _, Try.func23, c23⟩
  · exact ⟨k21, _, Try.func21, c21⟩
  · exact ⟨k33, _, Try.func33, c33⟩
  · exact s_JoinK
  · exact s_Same
  · exact s_JEqual
  · exact s_Of
  · exact s_JValid
  · trivial
def isTrue : Option (AV × St) → Bool
  | some (.bool true, _) => true
  | _ => false
theorem isTrue_ex {o : Option (AV × St)} (h : isTrue o = true) : ∃ s, o = some (.bool true, s) := by
  unfold isTrue at h
  split at h
  · exact ⟨_, rfl⟩
  · cases h
theorem known_run : isTrue (acalls tabK 100 8 8 [] St.empty) = true := by kernel_rfl
theorem s_known : SoundAt Try.prog 8 (closed [] (.bool true)) := by
  obtain ⟨s, hs⟩ := isTrue_ex known_run
  exact closed_sound (acalls_sound mixed tabK_ok 8 _) hs rfl
end Go.AM
