/-
  No cell of these rows narrows 'for every input' (looked for: loops, veiled, ifaces, maps, wideKeys, modest, calm, conditions, laid).
  DERIVED. THE GIVEN ROWS OF THIS SEAT. 5 by the template 'for every input the law returns true; each argument reads behind the call as it read before'; 0 by the template 'total and deterministic' (their statements: YtnojanlkminpaaaTotals.lean).
  GIVEN WITH THE SEED: the statements are not yours to turn. If you find one false, say at which input.
  Laid BY PROGRAM, IN A SANDBOX (cutbox-rows.mjs): the forced cells as the released guide's own fill.sh prints them over the translation 5d24edc184d5db3c… (all of the seat's roots in one cut). By AI agents, Wed Nov 11 2026. No macro, syntax, notation, axiom, sorry.
-/
import Derived.Test.YtnojanlkminpaaaChecked
import GoSem.Claim
import GoSem.ClaimJoined
import GoSem.ClaimMapViews
import Derived.JoinedTies
import Derived.KernelRfl
namespace Go.Proofs.Ytnojanlkminpaaa
/- THE CELL 'sum', in the pinned program and in every row, IS THE sha256 OF THE DUMP (.gsa) THAT YtnojanlkminpaaaProg.lean LOADS. Nothing in Lean hashes anything: it is a label: what it is worth is what the hold of that sum in a sandbox is worth. -/
noncomputable def Try.pinned : Pinned := { name := "ytnojanlkminpaaa", sum := "5d24edc184d5db3cb4f561565d32a6b1f8aa6d2aa6831136c1f65aac624cba3c", checked := Try.checked }
namespace Rows
def none {H : Type} : Left H := { results := [], args := [] }

/-- 'redpencillaw24.BufferIntervals': WHATEVER THE INPUT: true; the input reads as it did. -/
def bufferIntervalsSpec : ChangeSpec := { name := "bufferIntervals", fn := fun _ => fun
  | [d1, d2] => { results := [.lit (.bool true)], args := [d1, d2] }
  | _ => none }
def bufferIntervalsRow : OpenClaim := { program := "ytnojanlkminpaaa", sum := "5d24edc184d5db3cb4f561565d32a6b1f8aa6d2aa6831136c1f65aac624cba3c", func := "redpencil/redpencillaw24.BufferIntervals", spec := "bufferIntervals", unfollowed := true, recurses := true, plainKeys := false, apart := false }
def BufferIntervalsSaid : Prop := bufferIntervalsRow.holds Try.pinned (OpenSpec.ofChange bufferIntervalsSpec)

/-- ITS FALSE NEIGHBOUR: 'it returns false'. Refute it at one input. -/
def bufferIntervalsWrong : ChangeSpec := { name := "bufferIntervals", fn := fun _ => fun
  | [d1, d2] => { results := [.lit (.bool false)], args := [d1, d2] }
  | _ => none }
def BufferIntervalsWrongFalsely : Prop := bufferIntervalsRow.holds Try.pinned (OpenSpec.ofChange bufferIntervalsWrong)

/-- 'redpencillaw24.BufferFulls': WHATEVER THE INPUT: true; the input reads as it did. -/
def bufferFullsSpec : ChangeSpec := { name := "bufferFulls", fn := fun _ => fun
  | [d1, d2] => { results := [.lit (.bool true)], args := [d1, d2] }
  | _ => none }
def bufferFullsRow : OpenClaim := { program := "ytnojanlkminpaaa", sum := "5d24edc184d5db3cb4f561565d32a6b1f8aa6d2aa6831136c1f65aac624cba3c", func := "redpencil/redpencillaw24.BufferFulls", spec := "bufferFulls", unfollowed := true, recurses := true, plainKeys := false, apart := false }
def BufferFullsSaid : Prop := bufferFullsRow.holds Try.pinned (OpenSpec.ofChange bufferFullsSpec)

/-- ITS FALSE NEIGHBOUR: 'it returns false'. Refute it at one input. -/
def bufferFullsWrong : ChangeSpec := { name := "bufferFulls", fn := fun _ => fun
  | [d1, d2] => { results := [.lit (.bool false)], args := [d1, d2] }
  | _ => none }
def BufferFullsWrongFalsely : Prop := bufferFullsRow.holds Try.pinned (OpenSpec.ofChange bufferFullsWrong)

/-- 'redpencillaw24.BufferHolds': WHATEVER THE INPUT: true; the input reads as it did. -/
def bufferHoldsSpec : ChangeSpec := { name := "bufferHolds", fn := fun _ => fun
  | [d1, d2, d3, d4] => { results := [.lit (.bool true)], args := [d1, d2, d3, d4] }
  | _ => none }
def bufferHoldsRow : OpenClaim := { program := "ytnojanlkminpaaa", sum := "5d24edc184d5db3cb4f561565d32a6b1f8aa6d2aa6831136c1f65aac624cba3c", func := "redpencil/redpencillaw24.BufferHolds", spec := "bufferHolds", unfollowed := true, recurses := true, plainKeys := false, apart := false }
def BufferHoldsSaid : Prop := bufferHoldsRow.holds Try.pinned (OpenSpec.ofChange bufferHoldsSpec)

/-- ITS FALSE NEIGHBOUR: 'it returns false'. Refute it at one input. -/
def bufferHoldsWrong : ChangeSpec := { name := "bufferHolds", fn := fun _ => fun
  | [d1, d2, d3, d4] => { results := [.lit (.bool false)], args := [d1, d2, d3, d4] }
  | _ => none }
def BufferHoldsWrongFalsely : Prop := bufferHoldsRow.holds Try.pinned (OpenSpec.ofChange bufferHoldsWrong)

/-- 'redpencillaw24.BufferPlays': WHATEVER THE INPUT: true; the input reads as it did. -/
def bufferPlaysSpec : ChangeSpec := { name := "bufferPlays", fn := fun _ => fun
  | [d] => { results := [.lit (.bool true)], args := [d] }
  | _ => none }
def bufferPlaysRow : OpenClaim := { program := "ytnojanlkminpaaa", sum := "5d24edc184d5db3cb4f561565d32a6b1f8aa6d2aa6831136c1f65aac624cba3c", func := "redpencil/redpencillaw24.BufferPlays", spec := "bufferPlays", unfollowed := true, recurses := true, plainKeys := false, apart := false }
def BufferPlaysSaid : Prop := bufferPlaysRow.holds Try.pinned (OpenSpec.ofChange bufferPlaysSpec)

/-- ITS FALSE NEIGHBOUR: 'it returns false'. Refute it at one input. -/
def bufferPlaysWrong : ChangeSpec := { name := "bufferPlays", fn := fun _ => fun
  | [d] => { results := [.lit (.bool false)], args := [d] }
  | _ => none }
def BufferPlaysWrongFalsely : Prop := bufferPlaysRow.holds Try.pinned (OpenSpec.ofChange bufferPlaysWrong)

/-- 'redpencillaw24.BufferNil': WHATEVER THE INPUT: true; the input reads as it did. -/
def bufferNilSpec : ChangeSpec := { name := "bufferNil", fn := fun _ => fun
  | [d1, d2, d3] => { results := [.lit (.bool true)], args := [d1, d2, d3] }
  | _ => none }
def bufferNilRow : OpenClaim := { program := "ytnojanlkminpaaa", sum := "5d24edc184d5db3cb4f561565d32a6b1f8aa6d2aa6831136c1f65aac624cba3c", func := "redpencil/redpencillaw24.BufferNil", spec := "bufferNil", unfollowed := true, recurses := true, plainKeys := false, apart := false }
def BufferNilSaid : Prop := bufferNilRow.holds Try.pinned (OpenSpec.ofChange bufferNilSpec)

/-- ITS FALSE NEIGHBOUR: 'it returns false'. Refute it at one input. -/
def bufferNilWrong : ChangeSpec := { name := "bufferNil", fn := fun _ => fun
  | [d1, d2, d3] => { results := [.lit (.bool false)], args := [d1, d2, d3] }
  | _ => none }
def BufferNilWrongFalsely : Prop := bufferNilRow.holds Try.pinned (OpenSpec.ofChange bufferNilWrong)

/- THE SECOND FORM. 'bulk': how many values and letters a reading holds, each counted each time it is reached (what is shared counts as often as it is met; a slice's spare places count too). A statement '..UptoSaid' is the law's where the arguments, and the package variables that the reading takes, are together of bulk at most 1048576: NARROWER than '..Said'. Prove '..Said' where nothing that the law and all that it calls make is longer than what came in: it says more and counts as full. Else prove '..UptoSaid'. A law counts once. -/
mutual
def uptoBulk {H : Type} : DataW H → Nat
  | .lit (.string bytes) => bytes.length + 1
  | .lit _ => 1
  | .nil => 1
  | .ptr d => uptoBulk d + 1
  | .slice elems spare => uptoBulkAll elems + uptoBulkAll spare + 1
  | .agg parts => uptoBulkAll parts + 1
  | .iface _ d => uptoBulk d + 1
  | .map entries => uptoBulkEntries entries + 1
  | .held _ => 1
def uptoBulkAll {H : Type} : List (DataW H) → Nat
  | [] => 0
  | d :: r => uptoBulk d + uptoBulkAll r
def uptoBulkEntries {H : Type} : List (Lit × DataW H) → Nat
  | [] => 0
  | x :: r => uptoBulkEntry x + uptoBulkEntries r
def uptoBulkEntry {H : Type} : Lit × DataW H → Nat
  | (.string bytes, d) => bytes.length + uptoBulk d + 1
  | (_, d) => uptoBulk d + 1
 end
def uptoSmall : (H : Type) → List (DataW H) → Bool := fun _ ds => decide (uptoBulkAll ds ≤ 1048576)
def OpenSpec.upto (s : _root_.Go.ChangeSpec) : _root_.Go.OpenSpec := { _root_.Go.OpenSpec.ofChange s with cond := some uptoSmall }

/-- 'redpencillaw24.BufferIntervals', WHERE WHAT IT READS IS OF BULK AT MOST 1048576: true; the input reads as it did. -/
def bufferIntervalsUptoRow : OpenClaim := { program := "ytnojanlkminpaaa", sum := "5d24edc184d5db3cb4f561565d32a6b1f8aa6d2aa6831136c1f65aac624cba3c", func := "redpencil/redpencillaw24.BufferIntervals", spec := "bufferIntervals", unfollowed := true, recurses := true, plainKeys := false, apart := false, narrowed := true }
def BufferIntervalsUptoSaid : Prop := bufferIntervalsUptoRow.holds Try.pinned (OpenSpec.upto bufferIntervalsSpec)

/-- 'redpencillaw24.BufferFulls', WHERE WHAT IT READS IS OF BULK AT MOST 1048576: true; the input reads as it did. -/
def bufferFullsUptoRow : OpenClaim := { program := "ytnojanlkminpaaa", sum := "5d24edc184d5db3cb4f561565d32a6b1f8aa6d2aa6831136c1f65aac624cba3c", func := "redpencil/redpencillaw24.BufferFulls", spec := "bufferFulls", unfollowed := true, recurses := true, plainKeys := false, apart := false, narrowed := true }
def BufferFullsUptoSaid : Prop := bufferFullsUptoRow.holds Try.pinned (OpenSpec.upto bufferFullsSpec)

/-- 'redpencillaw24.BufferHolds', WHERE WHAT IT READS IS OF BULK AT MOST 1048576: true; the input reads as it did. -/
def bufferHoldsUptoRow : OpenClaim := { program := "ytnojanlkminpaaa", sum := "5d24edc184d5db3cb4f561565d32a6b1f8aa6d2aa6831136c1f65aac624cba3c", func := "redpencil/redpencillaw24.BufferHolds", spec := "bufferHolds", unfollowed := true, recurses := true, plainKeys := false, apart := false, narrowed := true }
def BufferHoldsUptoSaid : Prop := bufferHoldsUptoRow.holds Try.pinned (OpenSpec.upto bufferHoldsSpec)

/-- 'redpencillaw24.BufferPlays', WHERE WHAT IT READS IS OF BULK AT MOST 1048576: true; the input reads as it did. -/
def bufferPlaysUptoRow : OpenClaim := { program := "ytnojanlkminpaaa", sum := "5d24edc184d5db3cb4f561565d32a6b1f8aa6d2aa6831136c1f65aac624cba3c", func := "redpencil/redpencillaw24.BufferPlays", spec := "bufferPlays", unfollowed := true, recurses := true, plainKeys := false, apart := false, narrowed := true }
def BufferPlaysUptoSaid : Prop := bufferPlaysUptoRow.holds Try.pinned (OpenSpec.upto bufferPlaysSpec)

/-- 'redpencillaw24.BufferNil', WHERE WHAT IT READS IS OF BULK AT MOST 1048576: true; the input reads as it did. -/
def bufferNilUptoRow : OpenClaim := { program := "ytnojanlkminpaaa", sum := "5d24edc184d5db3cb4f561565d32a6b1f8aa6d2aa6831136c1f65aac624cba3c", func := "redpencil/redpencillaw24.BufferNil", spec := "bufferNil", unfollowed := true, recurses := true, plainKeys := false, apart := false, narrowed := true }
def BufferNilUptoSaid : Prop := bufferNilUptoRow.holds Try.pinned (OpenSpec.upto bufferNilSpec)

end Rows
end Go.Proofs.Ytnojanlkminpaaa
