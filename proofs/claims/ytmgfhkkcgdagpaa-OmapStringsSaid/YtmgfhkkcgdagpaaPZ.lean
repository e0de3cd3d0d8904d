/-
  A map whose keys are strings, in the order of their lengths, of which those with one length are the same key: the statement OmapStrings of layer 8 holds for every input. No condition.
-/
import Derived.Test.YtmgfhkkcgdagpaaP4
import Derived.Test.YtmgfhkkcgdagpaaRows
import Derived.WalkKit
set_option linter.unusedVariables false
set_option linter.unusedSimpArgs false
section
set_option maxRecDepth 100000
namespace Go.Proofs.Ytmgfhkkcgdagpaa
open Go Go.AM Go.ChangeShapes Go.WideShapes Go.ChangeAt Go.RowKit

theorem seat_own : ownKnob Try.prog.godebug = .none := by kernel_rfl
theorem seat_laid : laidOutB Try.prog = true := by kernel_rfl
theorem seat_bool : Try.prog.underlying 4 = some .bool := by kernel_rfl
theorem seat_read : ([46].all fun t => Try.prog.readableRec t && decide (t < Try.prog.types.size)) = true := by kernel_rfl
theorem seat_ok : [46].all (okT Try.prog 8) = true := by kernel_rfl
def isCells : Option Obj → Bool
  | some (.cells ..) => true
  | _ => false
theorem seat_hasCells {W : World} (h : W.ShapedOpen Try.prog) : HasCellsD W := by
  have h0 : decide (Try.prog.globals.size ≤ 0) = true := by kernel_rfl
  have h1 : decide (0 < (begin Try.prog (fun _ _ => 0) default).world.heap.size) = true := by kernel_rfl
  have h2 : isCells ((begin Try.prog (fun _ _ => 0) default).world.heap[0]?) = true := by kernel_rfl
  have h0 := of_decide_eq_true h0
  obtain ⟨o, o0, e1, e2, e3⟩ := h.2 0 h0 (of_decide_eq_true h1)
  have hl : World.looseAt (0 - Try.prog.globals.size) = false := by
    have : 0 - Try.prog.globals.size = 0 := by omega
    rw [this]
    rfl
  rw [hl] at e3
  simp only [Bool.false_eq_true, if_false] at e3
  subst e3
  rw [e2] at h2
  cases o with
  | cells cs e fr => exact ⟨0, cs, e, fr, e1⟩
  | _ => cases h2

theorem omapStrings_lifted (os : Os) (started : os.Started) (H : Type) (enc : TypeId × Value → H) :
    ReturnsInHanded {} Try.checked os 4 .any (Rows.omapStringsSpec.pre6 enc Try.prog Try.f4 Rows.omapStringsRow.domain false) (Rows.omapStringsSpec.post enc Try.prog Try.f4 false true false false) := by
  refine returnsInHanded_of_change_shaped (C := Try.checked) seat_own started (by kernel_rfl) Try.func4
    (ChangeSpec.witness6 (enc := enc) (C := Try.checked) false ⟨#[], #[.slice .none 0 0], []⟩ 8 (by kernel_rfl) (by kernel_rfl) (by kernel_rfl) (by kernel_rfl)) ?_
  intro W base args ds gs before hval0 hW hcnd _ hsh _
  have hval : ∀ (j : Nat) t v, #[46][j]? = some t → args[j]? = some v → Value.okWide Try.prog W .any base t v := hval0
  have hW' := hW
  obtain ⟨p, q, hA0, hV, rfl, hfz, hnd⟩ := hW
  have hA : DataW.TrodAll enc Try.prog W 0 (fun _ => true) true [46] args.toList ds p := hA0
  obtain ⟨rfl, rfl⟩ := trodVars_none hV
  obtain ⟨d0, rfl⟩ : ∃ d0, ds = [d0] := by
    have hl := trodAll_len hA
    match ds, hl with
    | [d0], _ => exact ⟨d0, rfl⟩
  obtain ⟨xs, bl, ho⟩ := args_deep (seat_hasCells hsh) (d := 7) (fun t ht => List.all_eq_true.1 seat_ok t ht) hA (fun j t v h1 h2 => ⟨base, hval j t v (by simpa using h1) (by simpa using h2)⟩) 0
  have hcall := deep_call ho s_OmapStrings
  have hargs : args.toList.toArray = args := by simp
  rw [hargs] at hcall
  refine hcall.mono fun e W' hp => ?_
  obtain ⟨rfl, hcl⟩ := hp
  refine ⟨_, rfl, post_of_clean seat_laid (fun t ht => ?_) hW' rfl rfl rfl rfl rfl seat_bool hcl⟩
  have hr := List.all_eq_true.1 seat_read t ht
  simp only [Bool.and_eq_true, decide_eq_true_eq] at hr
  exact hr
theorem omapStrings_over : Rows.omapStringsRow.holds Try.pinned (OpenSpec.ofChange Rows.omapStringsSpec) :=
  OpenClaim.holds_of_wide 4 Try.f4 rfl rfl rfl rfl rfl rfl rfl ⟨rfl, rfl, rfl, rfl, rfl⟩ rfl rfl rfl rfl rfl (by kernel_rfl) Try.func4 (by kernel_rfl)
    (of_decide_eq_true (by kernel_rfl)) (by unfold Func.isWrapper; first | (rw [if_pos (by decide +kernel)]; kernel_rfl) | (rw [if_neg (by decide +kernel)]; exact ⟨rfl, rfl⟩))
    (fun os started H enc _ => omapStrings_lifted os started H enc)
/-- The statement. -/
theorem omapStrings_holds : Rows.OmapStringsSaid := omapStrings_over

end Go.Proofs.Ytmgfhkkcgdagpaa
end
