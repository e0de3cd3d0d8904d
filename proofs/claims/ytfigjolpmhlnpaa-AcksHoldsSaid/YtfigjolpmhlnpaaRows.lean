/-
  No cell of these rows narrows 'for every input' (looked for: loops, veiled, ifaces, maps, wideKeys, modest, calm, conditions, laid).
  DERIVED. THE GIVEN ROWS OF THIS SEAT. 5 by the template 'for every input the law returns true; each argument reads behind the call as it read before'; 0 by the template 'total and deterministic' (their statements: YtfigjolpmhlnpaaTotals.lean).
  GIVEN WITH THE SEED: the statements are not yours to turn. If you find one false, say at which input.
  Laid BY PROGRAM, IN A SANDBOX (cutbox-rows.mjs): the forced cells as the released guide's own fill.sh prints them over the translation 02b31be143da5397… (all of the seat's roots in one cut). By AI agents, Wed Nov 11 2026. No macro, syntax, notation, axiom, sorry.
-/
import Derived.Test.YtfigjolpmhlnpaaChecked
import GoSem.Claim
import GoSem.ClaimJoined
import GoSem.ClaimMapViews
import Derived.JoinedTies
import Derived.KernelRfl
namespace Go.Proofs.Ytfigjolpmhlnpaa
/- THE CELL 'sum', in the pinned program and in every row, IS THE sha256 OF THE DUMP (.gsa) THAT YtfigjolpmhlnpaaProg.lean LOADS. Nothing in Lean hashes anything: it is a label: what it is worth is what the hold of that sum in a sandbox is worth. -/
noncomputable def Try.pinned : Pinned := { name := "ytfigjolpmhlnpaa", sum := "02b31be143da5397aabda749a609f5c217ac2bf4bb0da9a6d6da685b823121b7", checked := Try.checked }
namespace Rows
def none {H : Type} : Left H := { results := [], args := [] }

/-- 'redpencillaw25.AcksNew': WHATEVER THE INPUT: true; the input reads as it did. -/
def acksNewSpec : ChangeSpec := { name := "acksNew", fn := fun _ => fun
  | [d1, d2] => { results := [.lit (.bool true)], args := [d1, d2] }
  | _ => none }
def acksNewRow : OpenClaim := { program := "ytfigjolpmhlnpaa", sum := "02b31be143da5397aabda749a609f5c217ac2bf4bb0da9a6d6da685b823121b7", func := "redpencil/redpencillaw25.AcksNew", spec := "acksNew", unfollowed := true, recurses := true, apart := false }
def AcksNewSaid : Prop := acksNewRow.holds Try.pinned (OpenSpec.ofChange acksNewSpec)

/-- ITS FALSE NEIGHBOUR: 'it returns false'. Refute it at one input. -/
def acksNewWrong : ChangeSpec := { name := "acksNew", fn := fun _ => fun
  | [d1, d2] => { results := [.lit (.bool false)], args := [d1, d2] }
  | _ => none }
def AcksNewWrongFalsely : Prop := acksNewRow.holds Try.pinned (OpenSpec.ofChange acksNewWrong)

/-- 'redpencillaw25.AcksAll': WHATEVER THE INPUT: true; the input reads as it did. -/
def acksAllSpec : ChangeSpec := { name := "acksAll", fn := fun _ => fun
  | [d1, d2] => { results := [.lit (.bool true)], args := [d1, d2] }
  | _ => none }
def acksAllRow : OpenClaim := { program := "ytfigjolpmhlnpaa", sum := "02b31be143da5397aabda749a609f5c217ac2bf4bb0da9a6d6da685b823121b7", func := "redpencil/redpencillaw25.AcksAll", spec := "acksAll", unfollowed := true, recurses := true, apart := false }
def AcksAllSaid : Prop := acksAllRow.holds Try.pinned (OpenSpec.ofChange acksAllSpec)

/-- ITS FALSE NEIGHBOUR: 'it returns false'. Refute it at one input. -/
def acksAllWrong : ChangeSpec := { name := "acksAll", fn := fun _ => fun
  | [d1, d2] => { results := [.lit (.bool false)], args := [d1, d2] }
  | _ => none }
def AcksAllWrongFalsely : Prop := acksAllRow.holds Try.pinned (OpenSpec.ofChange acksAllWrong)

/-- 'redpencillaw25.AcksHolds': WHATEVER THE INPUT: true; the input reads as it did. -/
def acksHoldsSpec : ChangeSpec := { name := "acksHolds", fn := fun _ => fun
  | [d1, d2, d3] => { results := [.lit (.bool true)], args := [d1, d2, d3] }
  | _ => none }
def acksHoldsRow : OpenClaim := { program := "ytfigjolpmhlnpaa", sum := "02b31be143da5397aabda749a609f5c217ac2bf4bb0da9a6d6da685b823121b7", func := "redpencil/redpencillaw25.AcksHolds", spec := "acksHolds", unfollowed := true, recurses := true, apart := false }
def AcksHoldsSaid : Prop := acksHoldsRow.holds Try.pinned (OpenSpec.ofChange acksHoldsSpec)

/-- ITS FALSE NEIGHBOUR: 'it returns false'. Refute it at one input. -/
def acksHoldsWrong : ChangeSpec := { name := "acksHolds", fn := fun _ => fun
  | [d1, d2, d3] => { results := [.lit (.bool false)], args := [d1, d2, d3] }
  | _ => none }
def AcksHoldsWrongFalsely : Prop := acksHoldsRow.holds Try.pinned (OpenSpec.ofChange acksHoldsWrong)

/-- 'redpencillaw25.AcksPlays': WHATEVER THE INPUT: true; the input reads as it did. -/
def acksPlaysSpec : ChangeSpec := { name := "acksPlays", fn := fun _ => fun
  | [d1, d2, d3] => { results := [.lit (.bool true)], args := [d1, d2, d3] }
  | _ => none }
def acksPlaysRow : OpenClaim := { program := "ytfigjolpmhlnpaa", sum := "02b31be143da5397aabda749a609f5c217ac2bf4bb0da9a6d6da685b823121b7", func := "redpencil/redpencillaw25.AcksPlays", spec := "acksPlays", unfollowed := true, recurses := true, apart := false }
def AcksPlaysSaid : Prop := acksPlaysRow.holds Try.pinned (OpenSpec.ofChange acksPlaysSpec)

/-- ITS FALSE NEIGHBOUR: 'it returns false'. Refute it at one input. -/
def acksPlaysWrong : ChangeSpec := { name := "acksPlays", fn := fun _ => fun
  | [d1, d2, d3] => { results := [.lit (.bool false)], args := [d1, d2, d3] }
  | _ => none }
def AcksPlaysWrongFalsely : Prop := acksPlaysRow.holds Try.pinned (OpenSpec.ofChange acksPlaysWrong)

/-- 'redpencillaw25.AcksNil': WHATEVER THE INPUT: true; the input reads as it did. -/
def acksNilSpec : ChangeSpec := { name := "acksNil", fn := fun _ => fun
  | [d1, d2, d3] => { results := [.lit (.bool true)], args := [d1, d2, d3] }
  | _ => none }
def acksNilRow : OpenClaim := { program := "ytfigjolpmhlnpaa", sum := "02b31be143da5397aabda749a609f5c217ac2bf4bb0da9a6d6da685b823121b7", func := "redpencil/redpencillaw25.AcksNil", spec := "acksNil", unfollowed := true, recurses := true, apart := false }
def AcksNilSaid : Prop := acksNilRow.holds Try.pinned (OpenSpec.ofChange acksNilSpec)

/-- ITS FALSE NEIGHBOUR: 'it returns false'. Refute it at one input. -/
def acksNilWrong : ChangeSpec := { name := "acksNil", fn := fun _ => fun
  | [d1, d2, d3] => { results := [.lit (.bool false)], args := [d1, d2, d3] }
  | _ => none }
def AcksNilWrongFalsely : Prop := acksNilRow.holds Try.pinned (OpenSpec.ofChange acksNilWrong)

/- THE SECOND FORM. 'bulk': how many values and letters a reading holds, each counted each time it is reached (what is shared counts as often as it is met; a slice's spare places count too). A statement '..UptoSaid' is the law's where the arguments, and the package variables that the reading takes, are together of bulk at most 1048576: NARROWER than '..Said'. Prove '..Said' where nothing that the law and all that it calls make is longer than what came in: it says more and counts as full. Else prove '..UptoSaid'. A law counts once. -/
mutual
def uptoBulk {H : Type} : DataW H → Nat
  | .lit (.string bytes) => bytes.length + 1
  | .lit _ => 1
  | .nil => 1
  | .ptr d => uptoBulk d + 1
  | .slice elems spare => uptoBulkAll elems + uptoBulkAll spare + 1
  | .agg parts => uptoBulkAll parts + 1
  | .iface _ d => uptoBulk d + 1
  | .map entries => uptoBulkEntries entries + 1
  | .held _ => 1
def uptoBulkAll {H : Type} : List (DataW H) → Nat
  | [] => 0
  | d :: r => uptoBulk d + uptoBulkAll r
def uptoBulkEntries {H : Type} : List (Lit × DataW H) → Nat
  | [] => 0
  | x :: r => uptoBulkEntry x + uptoBulkEntries r
def uptoBulkEntry {H : Type} : Lit × DataW H → Nat
  | (.string bytes, d) => bytes.length + uptoBulk d + 1
  | (_, d) => uptoBulk d + 1
 end
def uptoSmall : (H : Type) → List (DataW H) → Bool := fun _ ds => decide (uptoBulkAll ds ≤ 1048576)
def OpenSpec.upto (s : _root_.Go.ChangeSpec) : _root_.Go.OpenSpec := { _root_.Go.OpenSpec.ofChange s with cond := some uptoSmall }

/-- 'redpencillaw25.AcksNew', WHERE WHAT IT READS IS OF BULK AT MOST 1048576: true; the input reads as it did. -/
def acksNewUptoRow : OpenClaim := { program := "ytfigjolpmhlnpaa", sum := "02b31be143da5397aabda749a609f5c217ac2bf4bb0da9a6d6da685b823121b7", func := "redpencil/redpencillaw25.AcksNew", spec := "acksNew", unfollowed := true, recurses := true, apart := false, narrowed := true }
def AcksNewUptoSaid : Prop := acksNewUptoRow.holds Try.pinned (OpenSpec.upto acksNewSpec)

/-- 'redpencillaw25.AcksAll', WHERE WHAT IT READS IS OF BULK AT MOST 1048576: true; the input reads as it did. -/
def acksAllUptoRow : OpenClaim := { program := "ytfigjolpmhlnpaa", sum := "02b31be143da5397aabda749a609f5c217ac2bf4bb0da9a6d6da685b823121b7", func := "redpencil/redpencillaw25.AcksAll", spec := "acksAll", unfollowed := true, recurses := true, apart := false, narrowed := true }
def AcksAllUptoSaid : Prop := acksAllUptoRow.holds Try.pinned (OpenSpec.upto acksAllSpec)

/-- 'redpencillaw25.AcksHolds', WHERE WHAT IT READS IS OF BULK AT MOST 1048576: true; the input reads as it did. -/
def acksHoldsUptoRow : OpenClaim := { program := "ytfigjolpmhlnpaa", sum := "02b31be143da5397aabda749a609f5c217ac2bf4bb0da9a6d6da685b823121b7", func := "redpencil/redpencillaw25.AcksHolds", spec := "acksHolds", unfollowed := true, recurses := true, apart := false, narrowed := true }
def AcksHoldsUptoSaid : Prop := acksHoldsUptoRow.holds Try.pinned (OpenSpec.upto acksHoldsSpec)

/-- 'redpencillaw25.AcksPlays', WHERE WHAT IT READS IS OF BULK AT MOST 1048576: true; the input reads as it did. -/
def acksPlaysUptoRow : OpenClaim := { program := "ytfigjolpmhlnpaa", sum := "02b31be143da5397aabda749a609f5c217ac2bf4bb0da9a6d6da685b823121b7", func := "redpencil/redpencillaw25.AcksPlays", spec := "acksPlays", unfollowed := true, recurses := true, apart := false, narrowed := true }
def AcksPlaysUptoSaid : Prop := acksPlaysUptoRow.holds Try.pinned (OpenSpec.upto acksPlaysSpec)

/-- 'redpencillaw25.AcksNil', WHERE WHAT IT READS IS OF BULK AT MOST 1048576: true; the input reads as it did. -/
def acksNilUptoRow : OpenClaim := { program := "ytfigjolpmhlnpaa", sum := "02b31be143da5397aabda749a609f5c217ac2bf4bb0da9a6d6da685b823121b7", func := "redpencil/redpencillaw25.AcksNil", spec := "acksNil", unfollowed := true, recurses := true, apart := false, narrowed := true }
def AcksNilUptoSaid : Prop := acksNilUptoRow.holds Try.pinned (OpenSpec.upto acksNilSpec)

end Rows
end Go.Proofs.Ytfigjolpmhlnpaa
