/-
  No cell of these rows narrows 'for every input' (looked for: loops, veiled, ifaces, maps, wideKeys, modest, calm, conditions, laid).
  DERIVED. THE GIVEN ROWS OF THIS SEAT. 5 by the template 'for every input the law returns true; each argument reads behind the call as it read before'; 0 by the template 'total and deterministic' (their statements: YtoacffbhciccnaaGreatTotals.lean).
  GIVEN WITH THE SEED: the statements are not yours to turn. If you find one false, say at which input.
  Laid BY PROGRAM, IN A SANDBOX (cutbox-rows.mjs): the forced cells as the released guide's own fill.sh prints them over the translation d951324ad6e6eac6… (all of the seat's roots in one cut). By AI agents, Wed Nov 11 2026. No macro, syntax, notation, axiom, sorry.
-/
import Derived.Test.YtoacffbhciccnaaGreatChecked
import GoSem.Claim
import GoSem.ClaimJoined
import GoSem.ClaimMapViews
import Derived.JoinedTies
import Derived.KernelRfl
namespace Go.Proofs.YtoacffbhciccnaaGreat
/- THE CELL 'sum', in the pinned program and in every row, IS THE sha256 OF THE DUMP (.gsa) THAT YtoacffbhciccnaaGreatProg.lean LOADS. Nothing in Lean hashes anything: it is a label: what it is worth is what the hold of that sum in a sandbox is worth. -/
noncomputable def Tryz.pinned : Pinned := { name := "ytoacffbhciccnaagreat", sum := "d951324ad6e6eac6a79d3205cdf07337a435932c26dd9ed897c0234ac0193998", checked := Tryz.checked }
namespace Rows
def none {H : Type} : Left H := { results := [], args := [] }

/-- 'redpencillaw16.DigestOf': WHATEVER THE INPUT: true; the input reads as it did. -/
def digestOfSpec : ChangeSpec := { name := "digestOf", fn := fun _ => fun
  | [d] => { results := [.lit (.bool true)], args := [d] }
  | _ => none }
def digestOfRow : OpenClaim := { program := "ytoacffbhciccnaagreat", sum := "d951324ad6e6eac6a79d3205cdf07337a435932c26dd9ed897c0234ac0193998", func := "redpencil/redpencillaw16.DigestOf", spec := "digestOf", unfollowed := true, recurses := true, apart := false }
def DigestOfSaid : Prop := digestOfRow.holds Tryz.pinned (OpenSpec.ofChange digestOfSpec)

/-- ITS FALSE NEIGHBOUR: 'it returns false'. Refute it at one input. -/
def digestOfWrong : ChangeSpec := { name := "digestOf", fn := fun _ => fun
  | [d] => { results := [.lit (.bool false)], args := [d] }
  | _ => none }
def DigestOfWrongFalsely : Prop := digestOfRow.holds Tryz.pinned (OpenSpec.ofChange digestOfWrong)

/-- 'redpencillaw16.DigestDiffs': WHATEVER THE INPUT: true; the input reads as it did. -/
def digestDiffsSpec : ChangeSpec := { name := "digestDiffs", fn := fun _ => fun
  | [d1, d2] => { results := [.lit (.bool true)], args := [d1, d2] }
  | _ => none }
def digestDiffsRow : OpenClaim := { program := "ytoacffbhciccnaagreat", sum := "d951324ad6e6eac6a79d3205cdf07337a435932c26dd9ed897c0234ac0193998", func := "redpencil/redpencillaw16.DigestDiffs", spec := "digestDiffs", unfollowed := true, recurses := true, apart := false }
def DigestDiffsSaid : Prop := digestDiffsRow.holds Tryz.pinned (OpenSpec.ofChange digestDiffsSpec)

/-- ITS FALSE NEIGHBOUR: 'it returns false'. Refute it at one input. -/
def digestDiffsWrong : ChangeSpec := { name := "digestDiffs", fn := fun _ => fun
  | [d1, d2] => { results := [.lit (.bool false)], args := [d1, d2] }
  | _ => none }
def DigestDiffsWrongFalsely : Prop := digestDiffsRow.holds Tryz.pinned (OpenSpec.ofChange digestDiffsWrong)

/-- 'redpencillaw16.DigestStates': WHATEVER THE INPUT: true; the input reads as it did. -/
def digestStatesSpec : ChangeSpec := { name := "digestStates", fn := fun _ => fun
  | [d1, d2] => { results := [.lit (.bool true)], args := [d1, d2] }
  | _ => none }
def digestStatesRow : OpenClaim := { program := "ytoacffbhciccnaagreat", sum := "d951324ad6e6eac6a79d3205cdf07337a435932c26dd9ed897c0234ac0193998", func := "redpencil/redpencillaw16.DigestStates", spec := "digestStates", unfollowed := true, recurses := true, apart := false }
def DigestStatesSaid : Prop := digestStatesRow.holds Tryz.pinned (OpenSpec.ofChange digestStatesSpec)

/-- ITS FALSE NEIGHBOUR: 'it returns false'. Refute it at one input. -/
def digestStatesWrong : ChangeSpec := { name := "digestStates", fn := fun _ => fun
  | [d1, d2] => { results := [.lit (.bool false)], args := [d1, d2] }
  | _ => none }
def DigestStatesWrongFalsely : Prop := digestStatesRow.holds Tryz.pinned (OpenSpec.ofChange digestStatesWrong)

/-- 'redpencillaw16.DigestLooks': WHATEVER THE INPUT: true; the input reads as it did. -/
def digestLooksSpec : ChangeSpec := { name := "digestLooks", fn := fun _ => fun
  | [d1, d2] => { results := [.lit (.bool true)], args := [d1, d2] }
  | _ => none }
def digestLooksRow : OpenClaim := { program := "ytoacffbhciccnaagreat", sum := "d951324ad6e6eac6a79d3205cdf07337a435932c26dd9ed897c0234ac0193998", func := "redpencil/redpencillaw16.DigestLooks", spec := "digestLooks", unfollowed := true, recurses := true, apart := false }
def DigestLooksSaid : Prop := digestLooksRow.holds Tryz.pinned (OpenSpec.ofChange digestLooksSpec)

/-- ITS FALSE NEIGHBOUR: 'it returns false'. Refute it at one input. -/
def digestLooksWrong : ChangeSpec := { name := "digestLooks", fn := fun _ => fun
  | [d1, d2] => { results := [.lit (.bool false)], args := [d1, d2] }
  | _ => none }
def DigestLooksWrongFalsely : Prop := digestLooksRow.holds Tryz.pinned (OpenSpec.ofChange digestLooksWrong)

/-- 'redpencillaw16.DigestHolds': WHATEVER THE INPUT: true; the input reads as it did. -/
def digestHoldsSpec : ChangeSpec := { name := "digestHolds", fn := fun _ => fun
  | [d1, d2] => { results := [.lit (.bool true)], args := [d1, d2] }
  | _ => none }
def digestHoldsRow : OpenClaim := { program := "ytoacffbhciccnaagreat", sum := "d951324ad6e6eac6a79d3205cdf07337a435932c26dd9ed897c0234ac0193998", func := "redpencil/redpencillaw16.DigestHolds", spec := "digestHolds", unfollowed := true, recurses := true, apart := false }
def DigestHoldsSaid : Prop := digestHoldsRow.holds Tryz.pinned (OpenSpec.ofChange digestHoldsSpec)

/-- ITS FALSE NEIGHBOUR: 'it returns false'. Refute it at one input. -/
def digestHoldsWrong : ChangeSpec := { name := "digestHolds", fn := fun _ => fun
  | [d1, d2] => { results := [.lit (.bool false)], args := [d1, d2] }
  | _ => none }
def DigestHoldsWrongFalsely : Prop := digestHoldsRow.holds Tryz.pinned (OpenSpec.ofChange digestHoldsWrong)

/- THE SECOND FORM. 'bulk': how many values and letters a reading holds, each counted each time it is reached (what is shared counts as often as it is met; a slice's spare places count too). A statement '..UptoSaid' is the law's where the arguments, and the package variables that the reading takes, are together of bulk at most 1048576: NARROWER than '..Said'. Prove '..Said' where nothing that the law and all that it calls make is longer than what came in: it says more and counts as full. Else prove '..UptoSaid'. A law counts once. -/
mutual
def uptoBulk {H : Type} : DataW H → Nat
  | .lit (.string bytes) => bytes.length + 1
  | .lit _ => 1
  | .nil => 1
  | .ptr d => uptoBulk d + 1
  | .slice elems spare => uptoBulkAll elems + uptoBulkAll spare + 1
  | .agg parts => uptoBulkAll parts + 1
  | .iface _ d => uptoBulk d + 1
  | .map entries => uptoBulkEntries entries + 1
  | .held _ => 1
def uptoBulkAll {H : Type} : List (DataW H) → Nat
  | [] => 0
  | d :: r => uptoBulk d + uptoBulkAll r
def uptoBulkEntries {H : Type} : List (Lit × DataW H) → Nat
  | [] => 0
  | x :: r => uptoBulkEntry x + uptoBulkEntries r
def uptoBulkEntry {H : Type} : Lit × DataW H → Nat
  | (.string bytes, d) => bytes.length + uptoBulk d + 1
  | (_, d) => uptoBulk d + 1
 end
def uptoSmall : (H : Type) → List (DataW H) → Bool := fun _ ds => decide (uptoBulkAll ds ≤ 1048576)
def OpenSpec.upto (s : _root_.Go.ChangeSpec) : _root_.Go.OpenSpec := { _root_.Go.OpenSpec.ofChange s with cond := some uptoSmall }

/-- 'redpencillaw16.DigestOf', WHERE WHAT IT READS IS OF BULK AT MOST 1048576: true; the input reads as it did. -/
def digestOfUptoRow : OpenClaim := { program := "ytoacffbhciccnaagreat", sum := "d951324ad6e6eac6a79d3205cdf07337a435932c26dd9ed897c0234ac0193998", func := "redpencil/redpencillaw16.DigestOf", spec := "digestOf", unfollowed := true, recurses := true, apart := false, narrowed := true }
def DigestOfUptoSaid : Prop := digestOfUptoRow.holds Tryz.pinned (OpenSpec.upto digestOfSpec)

/-- 'redpencillaw16.DigestDiffs', WHERE WHAT IT READS IS OF BULK AT MOST 1048576: true; the input reads as it did. -/
def digestDiffsUptoRow : OpenClaim := { program := "ytoacffbhciccnaagreat", sum := "d951324ad6e6eac6a79d3205cdf07337a435932c26dd9ed897c0234ac0193998", func := "redpencil/redpencillaw16.DigestDiffs", spec := "digestDiffs", unfollowed := true, recurses := true, apart := false, narrowed := true }
def DigestDiffsUptoSaid : Prop := digestDiffsUptoRow.holds Tryz.pinned (OpenSpec.upto digestDiffsSpec)

/-- 'redpencillaw16.DigestStates', WHERE WHAT IT READS IS OF BULK AT MOST 1048576: true; the input reads as it did. -/
def digestStatesUptoRow : OpenClaim := { program := "ytoacffbhciccnaagreat", sum := "d951324ad6e6eac6a79d3205cdf07337a435932c26dd9ed897c0234ac0193998", func := "redpencil/redpencillaw16.DigestStates", spec := "digestStates", unfollowed := true, recurses := true, apart := false, narrowed := true }
def DigestStatesUptoSaid : Prop := digestStatesUptoRow.holds Tryz.pinned (OpenSpec.upto digestStatesSpec)

/-- 'redpencillaw16.DigestLooks', WHERE WHAT IT READS IS OF BULK AT MOST 1048576: true; the input reads as it did. -/
def digestLooksUptoRow : OpenClaim := { program := "ytoacffbhciccnaagreat", sum := "d951324ad6e6eac6a79d3205cdf07337a435932c26dd9ed897c0234ac0193998", func := "redpencil/redpencillaw16.DigestLooks", spec := "digestLooks", unfollowed := true, recurses := true, apart := false, narrowed := true }
def DigestLooksUptoSaid : Prop := digestLooksUptoRow.holds Tryz.pinned (OpenSpec.upto digestLooksSpec)

/-- 'redpencillaw16.DigestHolds', WHERE WHAT IT READS IS OF BULK AT MOST 1048576: true; the input reads as it did. -/
def digestHoldsUptoRow : OpenClaim := { program := "ytoacffbhciccnaagreat", sum := "d951324ad6e6eac6a79d3205cdf07337a435932c26dd9ed897c0234ac0193998", func := "redpencil/redpencillaw16.DigestHolds", spec := "digestHolds", unfollowed := true, recurses := true, apart := false, narrowed := true }
def DigestHoldsUptoSaid : Prop := digestHoldsUptoRow.holds Tryz.pinned (OpenSpec.upto digestHoldsSpec)

end Rows
end Go.Proofs.YtoacffbhciccnaaGreat
