/-
  The join is a state, in which both are, and does not depend on the order of both; that of a state with itself is the state; of three states, any two of which agree, it does not matter how they are grouped; states that are within each other are equal; and what is dead stays dead: the statement JoinHolds of layer 14 holds for every input. No condition.
-/
import Derived.Test.YtihjheckdjocoaaP5
import Derived.WalkKit
section
set_option linter.unusedVariables false
set_option linter.unusedSimpArgs false
set_option maxRecDepth 100000
namespace Go.Proofs.Ytihjheckdjocoaa
open Go Go.AM Go.ChangeShapes Go.WideShapes Go.ChangeAt Go.RowKit

theorem seat_own : ownKnob Try.prog.godebug = .none := by kernel_rfl
theorem seat_laid : laidOutB Try.prog = true := by kernel_rfl
theorem seat_under : Try.prog.underlying 23 = some (.slice 44) := by kernel_rfl
theorem seat_cells : ndKs.length = Try.prog.cellsOf 44 := by kernel_rfl
theorem seat_bool : Try.prog.underlying 4 = some .bool := by kernel_rfl
theorem seat_read : (Try.prog.readableRec 23 && decide (23 < Try.prog.types.size)) = true := by kernel_rfl

theorem joinHolds_lifted (os : Os) (started : os.Started) (H : Type) (enc : TypeId × Value → H) :
    ReturnsInHanded {} Try.checked os 6 .any (Rows.joinHoldsSpec.pre6 enc Try.prog Try.f6 Rows.joinHoldsRow.domain false) (Rows.joinHoldsSpec.post enc Try.prog Try.f6 false true false false) := by
  refine returnsInHanded_of_change_shaped (C := Try.checked) seat_own started (by kernel_rfl) Try.func6
    (ChangeSpec.witness6 (enc := enc) (C := Try.checked) false ⟨#[], #[.slice .none 0 0, .slice .none 0 0, .slice .none 0 0], []⟩ 8 (by kernel_rfl) (by kernel_rfl) (by kernel_rfl) (by kernel_rfl)) ?_
  intro W base args ds gs before hval0 hW hcnd _ hsh _
  have hval : ∀ (j : Nat) t v, #[23, 23, 23][j]? = some t → args[j]? = some v → Value.okWide Try.prog W .any base t v := hval0
  have hW' := hW
  obtain ⟨p, q, hA0, hV, rfl, hfz, hnd⟩ := hW
  have hA : DataW.TrodAll enc Try.prog W 0 (fun _ => true) true [23, 23, 23] args.toList ds p := hA0
  obtain ⟨v0, vs0, d0, ds0, p0, q0, hargs, rfl, rfl, h0, r0⟩ := trodAll_cons hA
  obtain ⟨v1, vs1, d1, ds1, p1, q1, rfl, rfl, rfl, h1, r1⟩ := trodAll_cons r0
  obtain ⟨v2, vs2, d2, ds2, p2, q2, rfl, rfl, rfl, h2, r2⟩ := trodAll_cons r1
  obtain ⟨rfl, rfl, rfl⟩ := trodAll_nil r2
  obtain rfl : args = #[v0, v1, v2] := by cases args; simp_all
  obtain ⟨rfl, rfl⟩ := trodVars_none hV
  have hc := seat_hasCells hsh
  obtain ⟨a0⟩ := arg_open seat_under seat_cells hc h0 (hval 0 23 v0 rfl rfl) 0
  obtain ⟨a1⟩ := arg_open seat_under seat_cells hc h1 (hval 1 23 v1 rfl rfl) 1
  obtain ⟨a2⟩ := arg_open seat_under seat_cells hc h2 (hval 2 23 v2 rfl rfl) 2
  refine (three_args a0 a1 a2 s_JoinHolds).mono fun e W' hp => ?_
  obtain ⟨rfl, hcl⟩ := hp
  have hr := seat_read
  simp only [Bool.and_eq_true, decide_eq_true_eq] at hr
  refine ⟨_, rfl, post_of_clean seat_laid (fun t ht => ?_) hW' rfl rfl rfl rfl rfl seat_bool hcl⟩
  have ht : t ∈ [23, 23, 23] := ht
  simp at ht
  subst ht
  exact hr
theorem joinHolds_over : Rows.joinHoldsRow.holds Try.pinned (OpenSpec.ofChange Rows.joinHoldsSpec) :=
  OpenClaim.holds_of_wide 6 Try.f6 rfl rfl rfl rfl rfl rfl rfl ⟨rfl, rfl, rfl, rfl, rfl⟩ rfl rfl rfl rfl rfl (by kernel_rfl) Try.func6 (by kernel_rfl)
    (of_decide_eq_true (by kernel_rfl)) (by unfold Func.isWrapper; first | (rw [if_pos (by decide +kernel)]; kernel_rfl) | (rw [if_neg (by decide +kernel)]; exact ⟨rfl, rfl⟩))
    (fun os started H enc _ => joinHolds_lifted os started H enc)
/-- The statement. -/
theorem joinHolds_holds : Rows.JoinHoldsSaid := joinHolds_over

end Go.Proofs.Ytihjheckdjocoaa
end
