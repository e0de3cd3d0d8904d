/-
  No cell of these rows narrows 'for every input' (looked for: loops, veiled, ifaces, maps, wideKeys, modest, calm, conditions, laid).
  DERIVED. THE GIVEN ROWS OF THIS SEAT. 5 by the template 'for every input the law returns true; each argument reads behind the call as it read before'; 0 by the template 'total and deterministic' (their statements: YtihjheckdjocoaaTotals.lean).
  GIVEN WITH THE SEED: the statements are not yours to turn. If you find one false, say at which input.
  Laid BY PROGRAM, IN A SANDBOX (cutbox-rows.mjs): the forced cells as the released guide's own fill.sh prints them over the translation e8815dc1b64a8768… (all of the seat's roots in one cut). By AI agents, Wed Nov 11 2026. No macro, syntax, notation, axiom, sorry.
-/
import Derived.Test.YtihjheckdjocoaaChecked
import GoSem.Claim
import GoSem.ClaimJoined
import GoSem.ClaimMapViews
import Derived.JoinedTies
import Derived.KernelRfl
namespace Go.Proofs.Ytihjheckdjocoaa
/- THE CELL 'sum', in the pinned program and in every row, IS THE sha256 OF THE DUMP (.gsa) THAT YtihjheckdjocoaaProg.lean LOADS. Nothing in Lean hashes anything: it is a label: what it is worth is what the hold of that sum in a sandbox is worth. -/
noncomputable def Try.pinned : Pinned := { name := "ytihjheckdjocoaa", sum := "e8815dc1b64a876855cdca651d5800f5694cb9f0690ece8d070cc4f16f9f925f", checked := Try.checked }
namespace Rows
def none {H : Type} : Left H := { results := [], args := [] }

/-- 'redpencillaw14.JoinJoins': WHATEVER THE INPUT: true; the input reads as it did. -/
def joinJoinsSpec : ChangeSpec := { name := "joinJoins", fn := fun _ => fun
  | [d1, d2] => { results := [.lit (.bool true)], args := [d1, d2] }
  | _ => none }
def joinJoinsRow : OpenClaim := { program := "ytihjheckdjocoaa", sum := "e8815dc1b64a876855cdca651d5800f5694cb9f0690ece8d070cc4f16f9f925f", func := "redpencil/redpencillaw14.JoinJoins", spec := "joinJoins", unfollowed := true, recurses := true, plainKeys := false, apart := false }
def JoinJoinsSaid : Prop := joinJoinsRow.holds Try.pinned (OpenSpec.ofChange joinJoinsSpec)

/-- ITS FALSE NEIGHBOUR: 'it returns false'. Refute it at one input. -/
def joinJoinsWrong : ChangeSpec := { name := "joinJoins", fn := fun _ => fun
  | [d1, d2] => { results := [.lit (.bool false)], args := [d1, d2] }
  | _ => none }
def JoinJoinsWrongFalsely : Prop := joinJoinsRow.holds Try.pinned (OpenSpec.ofChange joinJoinsWrong)

/-- 'redpencillaw14.JoinAlls': WHATEVER THE INPUT: true; the input reads as it did. -/
def joinAllsSpec : ChangeSpec := { name := "joinAlls", fn := fun _ => fun
  | [d] => { results := [.lit (.bool true)], args := [d] }
  | _ => none }
def joinAllsRow : OpenClaim := { program := "ytihjheckdjocoaa", sum := "e8815dc1b64a876855cdca651d5800f5694cb9f0690ece8d070cc4f16f9f925f", func := "redpencil/redpencillaw14.JoinAlls", spec := "joinAlls", unfollowed := true, recurses := true, plainKeys := false, apart := false }
def JoinAllsSaid : Prop := joinAllsRow.holds Try.pinned (OpenSpec.ofChange joinAllsSpec)

/-- ITS FALSE NEIGHBOUR: 'it returns false'. Refute it at one input. -/
def joinAllsWrong : ChangeSpec := { name := "joinAlls", fn := fun _ => fun
  | [d] => { results := [.lit (.bool false)], args := [d] }
  | _ => none }
def JoinAllsWrongFalsely : Prop := joinAllsRow.holds Try.pinned (OpenSpec.ofChange joinAllsWrong)

/-- 'redpencillaw14.JoinWithins': WHATEVER THE INPUT: true; the input reads as it did. -/
def joinWithinsSpec : ChangeSpec := { name := "joinWithins", fn := fun _ => fun
  | [d1, d2] => { results := [.lit (.bool true)], args := [d1, d2] }
  | _ => none }
def joinWithinsRow : OpenClaim := { program := "ytihjheckdjocoaa", sum := "e8815dc1b64a876855cdca651d5800f5694cb9f0690ece8d070cc4f16f9f925f", func := "redpencil/redpencillaw14.JoinWithins", spec := "joinWithins", unfollowed := true, recurses := true, plainKeys := false, apart := false }
def JoinWithinsSaid : Prop := joinWithinsRow.holds Try.pinned (OpenSpec.ofChange joinWithinsSpec)

/-- ITS FALSE NEIGHBOUR: 'it returns false'. Refute it at one input. -/
def joinWithinsWrong : ChangeSpec := { name := "joinWithins", fn := fun _ => fun
  | [d1, d2] => { results := [.lit (.bool false)], args := [d1, d2] }
  | _ => none }
def JoinWithinsWrongFalsely : Prop := joinWithinsRow.holds Try.pinned (OpenSpec.ofChange joinWithinsWrong)

/-- 'redpencillaw14.JoinHolds': WHATEVER THE INPUT: true; the input reads as it did. -/
def joinHoldsSpec : ChangeSpec := { name := "joinHolds", fn := fun _ => fun
  | [d1, d2, d3] => { results := [.lit (.bool true)], args := [d1, d2, d3] }
  | _ => none }
def joinHoldsRow : OpenClaim := { program := "ytihjheckdjocoaa", sum := "e8815dc1b64a876855cdca651d5800f5694cb9f0690ece8d070cc4f16f9f925f", func := "redpencil/redpencillaw14.JoinHolds", spec := "joinHolds", unfollowed := true, recurses := true, plainKeys := false, apart := false }
def JoinHoldsSaid : Prop := joinHoldsRow.holds Try.pinned (OpenSpec.ofChange joinHoldsSpec)

/-- ITS FALSE NEIGHBOUR: 'it returns false'. Refute it at one input. -/
def joinHoldsWrong : ChangeSpec := { name := "joinHolds", fn := fun _ => fun
  | [d1, d2, d3] => { results := [.lit (.bool false)], args := [d1, d2, d3] }
  | _ => none }
def JoinHoldsWrongFalsely : Prop := joinHoldsRow.holds Try.pinned (OpenSpec.ofChange joinHoldsWrong)

/-- 'redpencillaw14.JoinValid': WHATEVER THE INPUT: true; the input reads as it did. -/
def joinValidSpec : ChangeSpec := { name := "joinValid", fn := fun _ => fun
  | [d1, d2] => { results := [.lit (.bool true)], args := [d1, d2] }
  | _ => none }
def joinValidRow : OpenClaim := { program := "ytihjheckdjocoaa", sum := "e8815dc1b64a876855cdca651d5800f5694cb9f0690ece8d070cc4f16f9f925f", func := "redpencil/redpencillaw14.JoinValid", spec := "joinValid", unfollowed := true, recurses := true, plainKeys := false, apart := false }
def JoinValidSaid : Prop := joinValidRow.holds Try.pinned (OpenSpec.ofChange joinValidSpec)

/-- ITS FALSE NEIGHBOUR: 'it returns false'. Refute it at one input. -/
def joinValidWrong : ChangeSpec := { name := "joinValid", fn := fun _ => fun
  | [d1, d2] => { results := [.lit (.bool false)], args := [d1, d2] }
  | _ => none }
def JoinValidWrongFalsely : Prop := joinValidRow.holds Try.pinned (OpenSpec.ofChange joinValidWrong)

/- THE SECOND FORM. 'bulk': how many values and letters a reading holds, each counted each time it is reached (what is shared counts as often as it is met; a slice's spare places count too). A statement '..UptoSaid' is the law's where the arguments, and the package variables that the reading takes, are together of bulk at most 1048576: NARROWER than '..Said'. Prove '..Said' where nothing that the law and all that it calls make is longer than what came in: it says more and counts as full. Else prove '..UptoSaid'. A law counts once. -/
mutual
def uptoBulk {H : Type} : DataW H → Nat
  | .lit (.string bytes) => bytes.length + 1
  | .lit _ => 1
  | .nil => 1
  | .ptr d => uptoBulk d + 1
  | .slice elems spare => uptoBulkAll elems + uptoBulkAll spare + 1
  | .agg parts => uptoBulkAll parts + 1
  | .iface _ d => uptoBulk d + 1
  | .map entries => uptoBulkEntries entries + 1
  | .held _ => 1
def uptoBulkAll {H : Type} : List (DataW H) → Nat
  | [] => 0
  | d :: r => uptoBulk d + uptoBulkAll r
def uptoBulkEntries {H : Type} : List (Lit × DataW H) → Nat
  | [] => 0
  | x :: r => uptoBulkEntry x + uptoBulkEntries r
def uptoBulkEntry {H : Type} : Lit × DataW H → Nat
  | (.string bytes, d) => bytes.length + uptoBulk d + 1
  | (_, d) => uptoBulk d + 1
 end
def uptoSmall : (H : Type) → List (DataW H) → Bool := fun _ ds => decide (uptoBulkAll ds ≤ 1048576)
def OpenSpec.upto (s : _root_.Go.ChangeSpec) : _root_.Go.OpenSpec := { _root_.Go.OpenSpec.ofChange s with cond := some uptoSmall }

/-- 'redpencillaw14.JoinJoins', WHERE WHAT IT READS IS OF BULK AT MOST 1048576: true; the input reads as it did. -/
def joinJoinsUptoRow : OpenClaim := { program := "ytihjheckdjocoaa", sum := "e8815dc1b64a876855cdca651d5800f5694cb9f0690ece8d070cc4f16f9f925f", func := "redpencil/redpencillaw14.JoinJoins", spec := "joinJoins", unfollowed := true, recurses := true, plainKeys := false, apart := false, narrowed := true }
def JoinJoinsUptoSaid : Prop := joinJoinsUptoRow.holds Try.pinned (OpenSpec.upto joinJoinsSpec)

/-- 'redpencillaw14.JoinAlls', WHERE WHAT IT READS IS OF BULK AT MOST 1048576: true; the input reads as it did. -/
def joinAllsUptoRow : OpenClaim := { program := "ytihjheckdjocoaa", sum := "e8815dc1b64a876855cdca651d5800f5694cb9f0690ece8d070cc4f16f9f925f", func := "redpencil/redpencillaw14.JoinAlls", spec := "joinAlls", unfollowed := true, recurses := true, plainKeys := false, apart := false, narrowed := true }
def JoinAllsUptoSaid : Prop := joinAllsUptoRow.holds Try.pinned (OpenSpec.upto joinAllsSpec)

/-- 'redpencillaw14.JoinWithins', WHERE WHAT IT READS IS OF BULK AT MOST 1048576: true; the input reads as it did. -/
def joinWithinsUptoRow : OpenClaim := { program := "ytihjheckdjocoaa", sum := "e8815dc1b64a876855cdca651d5800f5694cb9f0690ece8d070cc4f16f9f925f", func := "redpencil/redpencillaw14.JoinWithins", spec := "joinWithins", unfollowed := true, recurses := true, plainKeys := false, apart := false, narrowed := true }
def JoinWithinsUptoSaid : Prop := joinWithinsUptoRow.holds Try.pinned (OpenSpec.upto joinWithinsSpec)

/-- 'redpencillaw14.JoinHolds', WHERE WHAT IT READS IS OF BULK AT MOST 1048576: true; the input reads as it did. -/
def joinHoldsUptoRow : OpenClaim := { program := "ytihjheckdjocoaa", sum := "e8815dc1b64a876855cdca651d5800f5694cb9f0690ece8d070cc4f16f9f925f", func := "redpencil/redpencillaw14.JoinHolds", spec := "joinHolds", unfollowed := true, recurses := true, plainKeys := false, apart := false, narrowed := true }
def JoinHoldsUptoSaid : Prop := joinHoldsUptoRow.holds Try.pinned (OpenSpec.upto joinHoldsSpec)

/-- 'redpencillaw14.JoinValid', WHERE WHAT IT READS IS OF BULK AT MOST 1048576: true; the input reads as it did. -/
def joinValidUptoRow : OpenClaim := { program := "ytihjheckdjocoaa", sum := "e8815dc1b64a876855cdca651d5800f5694cb9f0690ece8d070cc4f16f9f925f", func := "redpencil/redpencillaw14.JoinValid", spec := "joinValid", unfollowed := true, recurses := true, plainKeys := false, apart := false, narrowed := true }
def JoinValidUptoSaid : Prop := joinValidUptoRow.holds Try.pinned (OpenSpec.upto joinValidSpec)

end Rows
end Go.Proofs.Ytihjheckdjocoaa
