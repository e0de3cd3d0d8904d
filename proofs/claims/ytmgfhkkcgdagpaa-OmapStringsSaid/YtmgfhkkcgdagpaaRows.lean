/-
  No cell of these rows narrows 'for every input' (looked for: loops, veiled, ifaces, maps, wideKeys, modest, calm, conditions, laid).
  DERIVED. THE GIVEN ROWS OF THIS SEAT. 5 by the template 'for every input the law returns true; each argument reads behind the call as it read before'; 0 by the template 'total and deterministic' (their statements: YtmgfhkkcgdagpaaTotals.lean).
  GIVEN WITH THE SEED: the statements are not yours to turn. If you find one false, say at which input.
  Laid BY PROGRAM, IN A SANDBOX (cutbox-rows.mjs): the forced cells as the released guide's own fill.sh prints them over the translation 45c331d1a9dd3027… (all of the seat's roots in one cut). By AI agents, Wed Nov 11 2026. No macro, syntax, notation, axiom, sorry.
-/
import Derived.Test.YtmgfhkkcgdagpaaChecked
import GoSem.Claim
import GoSem.ClaimJoined
import GoSem.ClaimMapViews
import Derived.JoinedTies
import Derived.KernelRfl
namespace Go.Proofs.Ytmgfhkkcgdagpaa
/- THE CELL 'sum', in the pinned program and in every row, IS THE sha256 OF THE DUMP (.gsa) THAT YtmgfhkkcgdagpaaProg.lean LOADS. Nothing in Lean hashes anything: it is a label: what it is worth is what the hold of that sum in a sandbox is worth. -/
noncomputable def Try.pinned : Pinned := { name := "ytmgfhkkcgdagpaa", sum := "45c331d1a9dd302790ed463c930bf036abc41aa785abe14e0e81ee1d3f85d0c9", checked := Try.checked }
namespace Rows
def none {H : Type} : Left H := { results := [], args := [] }

/-- 'redpencillaw08.OmapIterates': WHATEVER THE INPUT: true; the input reads as it did. -/
def omapIteratesSpec : ChangeSpec := { name := "omapIterates", fn := fun _ => fun
  | [d1, d2, d3, d4] => { results := [.lit (.bool true)], args := [d1, d2, d3, d4] }
  | _ => none }
def omapIteratesRow : OpenClaim := { program := "ytmgfhkkcgdagpaa", sum := "45c331d1a9dd302790ed463c930bf036abc41aa785abe14e0e81ee1d3f85d0c9", func := "redpencil/redpencillaw08.OmapIterates", spec := "omapIterates", inPlace := ["slices.overlaps[redpencil/omap.entry[int, string]]"], unfollowed := true, recurses := true, apart := false }
def OmapIteratesSaid : Prop := omapIteratesRow.holds Try.pinned (OpenSpec.ofChange omapIteratesSpec)

/-- ITS FALSE NEIGHBOUR: 'it returns false'. Refute it at one input. -/
def omapIteratesWrong : ChangeSpec := { name := "omapIterates", fn := fun _ => fun
  | [d1, d2, d3, d4] => { results := [.lit (.bool false)], args := [d1, d2, d3, d4] }
  | _ => none }
def OmapIteratesWrongFalsely : Prop := omapIteratesRow.holds Try.pinned (OpenSpec.ofChange omapIteratesWrong)

/-- 'redpencillaw08.OmapStrings': WHATEVER THE INPUT: true; the input reads as it did. -/
def omapStringsSpec : ChangeSpec := { name := "omapStrings", fn := fun _ => fun
  | [d] => { results := [.lit (.bool true)], args := [d] }
  | _ => none }
def omapStringsRow : OpenClaim := { program := "ytmgfhkkcgdagpaa", sum := "45c331d1a9dd302790ed463c930bf036abc41aa785abe14e0e81ee1d3f85d0c9", func := "redpencil/redpencillaw08.OmapStrings", spec := "omapStrings", inPlace := ["slices.overlaps[redpencil/omap.entry[int, string]]", "slices.overlaps[redpencil/omap.entry[string, []int]]"], unfollowed := true, recurses := true, apart := false }
def OmapStringsSaid : Prop := omapStringsRow.holds Try.pinned (OpenSpec.ofChange omapStringsSpec)

/-- ITS FALSE NEIGHBOUR: 'it returns false'. Refute it at one input. -/
def omapStringsWrong : ChangeSpec := { name := "omapStrings", fn := fun _ => fun
  | [d] => { results := [.lit (.bool false)], args := [d] }
  | _ => none }
def OmapStringsWrongFalsely : Prop := omapStringsRow.holds Try.pinned (OpenSpec.ofChange omapStringsWrong)

/-- 'redpencillaw08.OmapHolds': WHATEVER THE INPUT: true; the input reads as it did. -/
def omapHoldsSpec : ChangeSpec := { name := "omapHolds", fn := fun _ => fun
  | [d1, d2, d3] => { results := [.lit (.bool true)], args := [d1, d2, d3] }
  | _ => none }
def omapHoldsRow : OpenClaim := { program := "ytmgfhkkcgdagpaa", sum := "45c331d1a9dd302790ed463c930bf036abc41aa785abe14e0e81ee1d3f85d0c9", func := "redpencil/redpencillaw08.OmapHolds", spec := "omapHolds", inPlace := ["slices.overlaps[redpencil/omap.entry[int, string]]"], unfollowed := true, recurses := true, apart := false }
def OmapHoldsSaid : Prop := omapHoldsRow.holds Try.pinned (OpenSpec.ofChange omapHoldsSpec)

/-- ITS FALSE NEIGHBOUR: 'it returns false'. Refute it at one input. -/
def omapHoldsWrong : ChangeSpec := { name := "omapHolds", fn := fun _ => fun
  | [d1, d2, d3] => { results := [.lit (.bool false)], args := [d1, d2, d3] }
  | _ => none }
def OmapHoldsWrongFalsely : Prop := omapHoldsRow.holds Try.pinned (OpenSpec.ofChange omapHoldsWrong)

/-- 'redpencillaw08.OmapPlays': WHATEVER THE INPUT: true; the input reads as it did. -/
def omapPlaysSpec : ChangeSpec := { name := "omapPlays", fn := fun _ => fun
  | [d1, d2] => { results := [.lit (.bool true)], args := [d1, d2] }
  | _ => none }
def omapPlaysRow : OpenClaim := { program := "ytmgfhkkcgdagpaa", sum := "45c331d1a9dd302790ed463c930bf036abc41aa785abe14e0e81ee1d3f85d0c9", func := "redpencil/redpencillaw08.OmapPlays", spec := "omapPlays", inPlace := ["slices.overlaps[redpencil/omap.entry[int, string]]"], unfollowed := true, recurses := true, apart := false }
def OmapPlaysSaid : Prop := omapPlaysRow.holds Try.pinned (OpenSpec.ofChange omapPlaysSpec)

/-- ITS FALSE NEIGHBOUR: 'it returns false'. Refute it at one input. -/
def omapPlaysWrong : ChangeSpec := { name := "omapPlays", fn := fun _ => fun
  | [d1, d2] => { results := [.lit (.bool false)], args := [d1, d2] }
  | _ => none }
def OmapPlaysWrongFalsely : Prop := omapPlaysRow.holds Try.pinned (OpenSpec.ofChange omapPlaysWrong)

/-- 'redpencillaw08.OmapNil': WHATEVER THE INPUT: true; the input reads as it did. -/
def omapNilSpec : ChangeSpec := { name := "omapNil", fn := fun _ => fun
  | [d1, d2] => { results := [.lit (.bool true)], args := [d1, d2] }
  | _ => none }
def omapNilRow : OpenClaim := { program := "ytmgfhkkcgdagpaa", sum := "45c331d1a9dd302790ed463c930bf036abc41aa785abe14e0e81ee1d3f85d0c9", func := "redpencil/redpencillaw08.OmapNil", spec := "omapNil", inPlace := ["slices.overlaps[redpencil/omap.entry[int, string]]"], unfollowed := true, recurses := true, apart := false }
def OmapNilSaid : Prop := omapNilRow.holds Try.pinned (OpenSpec.ofChange omapNilSpec)

/-- ITS FALSE NEIGHBOUR: 'it returns false'. Refute it at one input. -/
def omapNilWrong : ChangeSpec := { name := "omapNil", fn := fun _ => fun
  | [d1, d2] => { results := [.lit (.bool false)], args := [d1, d2] }
  | _ => none }
def OmapNilWrongFalsely : Prop := omapNilRow.holds Try.pinned (OpenSpec.ofChange omapNilWrong)

/- THE SECOND FORM. 'bulk': how many values and letters a reading holds, each counted each time it is reached (what is shared counts as often as it is met; a slice's spare places count too). A statement '..UptoSaid' is the law's where the arguments, and the package variables that the reading takes, are together of bulk at most 1048576: NARROWER than '..Said'. Prove '..Said' where nothing that the law and all that it calls make is longer than what came in: it says more and counts as full. Else prove '..UptoSaid'. A law counts once. -/
mutual
def uptoBulk {H : Type} : DataW H → Nat
  | .lit (.string bytes) => bytes.length + 1
  | .lit _ => 1
  | .nil => 1
  | .ptr d => uptoBulk d + 1
  | .slice elems spare => uptoBulkAll elems + uptoBulkAll spare + 1
  | .agg parts => uptoBulkAll parts + 1
  | .iface _ d => uptoBulk d + 1
  | .map entries => uptoBulkEntries entries + 1
  | .held _ => 1
def uptoBulkAll {H : Type} : List (DataW H) → Nat
  | [] => 0
  | d :: r => uptoBulk d + uptoBulkAll r
def uptoBulkEntries {H : Type} : List (Lit × DataW H) → Nat
  | [] => 0
  | x :: r => uptoBulkEntry x + uptoBulkEntries r
def uptoBulkEntry {H : Type} : Lit × DataW H → Nat
  | (.string bytes, d) => bytes.length + uptoBulk d + 1
  | (_, d) => uptoBulk d + 1
 end
def uptoSmall : (H : Type) → List (DataW H) → Bool := fun _ ds => decide (uptoBulkAll ds ≤ 1048576)
def OpenSpec.upto (s : _root_.Go.ChangeSpec) : _root_.Go.OpenSpec := { _root_.Go.OpenSpec.ofChange s with cond := some uptoSmall }

/-- 'redpencillaw08.OmapIterates', WHERE WHAT IT READS IS OF BULK AT MOST 1048576: true; the input reads as it did. -/
def omapIteratesUptoRow : OpenClaim := { program := "ytmgfhkkcgdagpaa", sum := "45c331d1a9dd302790ed463c930bf036abc41aa785abe14e0e81ee1d3f85d0c9", func := "redpencil/redpencillaw08.OmapIterates", spec := "omapIterates", inPlace := ["slices.overlaps[redpencil/omap.entry[int, string]]"], unfollowed := true, recurses := true, apart := false, narrowed := true }
def OmapIteratesUptoSaid : Prop := omapIteratesUptoRow.holds Try.pinned (OpenSpec.upto omapIteratesSpec)

/-- 'redpencillaw08.OmapStrings', WHERE WHAT IT READS IS OF BULK AT MOST 1048576: true; the input reads as it did. -/
def omapStringsUptoRow : OpenClaim := { program := "ytmgfhkkcgdagpaa", sum := "45c331d1a9dd302790ed463c930bf036abc41aa785abe14e0e81ee1d3f85d0c9", func := "redpencil/redpencillaw08.OmapStrings", spec := "omapStrings", inPlace := ["slices.overlaps[redpencil/omap.entry[int, string]]", "slices.overlaps[redpencil/omap.entry[string, []int]]"], unfollowed := true, recurses := true, apart := false, narrowed := true }
def OmapStringsUptoSaid : Prop := omapStringsUptoRow.holds Try.pinned (OpenSpec.upto omapStringsSpec)

/-- 'redpencillaw08.OmapHolds', WHERE WHAT IT READS IS OF BULK AT MOST 1048576: true; the input reads as it did. -/
def omapHoldsUptoRow : OpenClaim := { program := "ytmgfhkkcgdagpaa", sum := "45c331d1a9dd302790ed463c930bf036abc41aa785abe14e0e81ee1d3f85d0c9", func := "redpencil/redpencillaw08.OmapHolds", spec := "omapHolds", inPlace := ["slices.overlaps[redpencil/omap.entry[int, string]]"], unfollowed := true, recurses := true, apart := false, narrowed := true }
def OmapHoldsUptoSaid : Prop := omapHoldsUptoRow.holds Try.pinned (OpenSpec.upto omapHoldsSpec)

/-- 'redpencillaw08.OmapPlays', WHERE WHAT IT READS IS OF BULK AT MOST 1048576: true; the input reads as it did. -/
def omapPlaysUptoRow : OpenClaim := { program := "ytmgfhkkcgdagpaa", sum := "45c331d1a9dd302790ed463c930bf036abc41aa785abe14e0e81ee1d3f85d0c9", func := "redpencil/redpencillaw08.OmapPlays", spec := "omapPlays", inPlace := ["slices.overlaps[redpencil/omap.entry[int, string]]"], unfollowed := true, recurses := true, apart := false, narrowed := true }
def OmapPlaysUptoSaid : Prop := omapPlaysUptoRow.holds Try.pinned (OpenSpec.upto omapPlaysSpec)

/-- 'redpencillaw08.OmapNil', WHERE WHAT IT READS IS OF BULK AT MOST 1048576: true; the input reads as it did. -/
def omapNilUptoRow : OpenClaim := { program := "ytmgfhkkcgdagpaa", sum := "45c331d1a9dd302790ed463c930bf036abc41aa785abe14e0e81ee1d3f85d0c9", func := "redpencil/redpencillaw08.OmapNil", spec := "omapNil", inPlace := ["slices.overlaps[redpencil/omap.entry[int, string]]"], unfollowed := true, recurses := true, apart := false, narrowed := true }
def OmapNilUptoSaid : Prop := omapNilUptoRow.holds Try.pinned (OpenSpec.upto omapNilSpec)

end Rows
end Go.Proofs.Ytmgfhkkcgdagpaa
