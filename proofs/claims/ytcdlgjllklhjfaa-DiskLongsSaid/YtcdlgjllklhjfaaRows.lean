/-
  No cell of these rows narrows 'for every input' (looked for: loops, veiled, ifaces, maps, wideKeys, modest, calm, conditions, laid).
  DERIVED. THE GIVEN ROWS OF THIS SEAT. 5 by the template 'for every input the law returns true; each argument reads behind the call as it read before'; 0 by the template 'total and deterministic' (their statements: YtcdlgjllklhjfaaTotals.lean).
  GIVEN WITH THE SEED: the statements are not yours to turn. If you find one false, say at which input.
  Laid BY PROGRAM, IN A SANDBOX (cutbox-rows.mjs): the forced cells as the released guide's own fill.sh prints them over the translation 5ea20754546cc68d… (all of the seat's roots in one cut). By AI agents, Wed Nov 11 2026. No macro, syntax, notation, axiom, sorry.
-/
import Derived.Test.YtcdlgjllklhjfaaChecked
import GoSem.Claim
import GoSem.ClaimJoined
import GoSem.ClaimMapViews
import Derived.JoinedTies
import Derived.KernelRfl
namespace Go.Proofs.Ytcdlgjllklhjfaa
/- THE CELL 'sum', in the pinned program and in every row, IS THE sha256 OF THE DUMP (.gsa) THAT YtcdlgjllklhjfaaProg.lean LOADS. Nothing in Lean hashes anything: it is a label: what it is worth is what the hold of that sum in a sandbox is worth. -/
noncomputable def Try.pinned : Pinned := { name := "ytcdlgjllklhjfaa", sum := "5ea20754546cc68d6a6be1242d98c4ef5b15142ca16becc678c43a371145c653", checked := Try.checked }
namespace Rows
def none {H : Type} : Left H := { results := [], args := [] }

/-- 'redpencillaw20.DiskNew': WHATEVER THE INPUT: true; the input reads as it did. -/
def diskNewSpec : ChangeSpec := { name := "diskNew", fn := fun _ => fun
  | [d1, d2] => { results := [.lit (.bool true)], args := [d1, d2] }
  | _ => none }
def diskNewRow : OpenClaim := { program := "ytcdlgjllklhjfaa", sum := "5ea20754546cc68d6a6be1242d98c4ef5b15142ca16becc678c43a371145c653", func := "redpencil/redpencillaw20.DiskNew", spec := "diskNew", unfollowed := true, recurses := true, apart := false }
def DiskNewSaid : Prop := diskNewRow.holds Try.pinned (OpenSpec.ofChange diskNewSpec)

/-- ITS FALSE NEIGHBOUR: 'it returns false'. Refute it at one input. -/
def diskNewWrong : ChangeSpec := { name := "diskNew", fn := fun _ => fun
  | [d1, d2] => { results := [.lit (.bool false)], args := [d1, d2] }
  | _ => none }
def DiskNewWrongFalsely : Prop := diskNewRow.holds Try.pinned (OpenSpec.ofChange diskNewWrong)

/-- 'redpencillaw20.DiskLongs': WHATEVER THE INPUT: true; the input reads as it did. -/
def diskLongsSpec : ChangeSpec := { name := "diskLongs", fn := fun _ => fun
  | [d1, d2] => { results := [.lit (.bool true)], args := [d1, d2] }
  | _ => none }
def diskLongsRow : OpenClaim := { program := "ytcdlgjllklhjfaa", sum := "5ea20754546cc68d6a6be1242d98c4ef5b15142ca16becc678c43a371145c653", func := "redpencil/redpencillaw20.DiskLongs", spec := "diskLongs", unfollowed := true, recurses := true, apart := false }
def DiskLongsSaid : Prop := diskLongsRow.holds Try.pinned (OpenSpec.ofChange diskLongsSpec)

/-- ITS FALSE NEIGHBOUR: 'it returns false'. Refute it at one input. -/
def diskLongsWrong : ChangeSpec := { name := "diskLongs", fn := fun _ => fun
  | [d1, d2] => { results := [.lit (.bool false)], args := [d1, d2] }
  | _ => none }
def DiskLongsWrongFalsely : Prop := diskLongsRow.holds Try.pinned (OpenSpec.ofChange diskLongsWrong)

/-- 'redpencillaw20.DiskHolds': WHATEVER THE INPUT: true; the input reads as it did. -/
def diskHoldsSpec : ChangeSpec := { name := "diskHolds", fn := fun _ => fun
  | [d1, d2, d3, d4, d5, d6, d7] => { results := [.lit (.bool true)], args := [d1, d2, d3, d4, d5, d6, d7] }
  | _ => none }
def diskHoldsRow : OpenClaim := { program := "ytcdlgjllklhjfaa", sum := "5ea20754546cc68d6a6be1242d98c4ef5b15142ca16becc678c43a371145c653", func := "redpencil/redpencillaw20.DiskHolds", spec := "diskHolds", unfollowed := true, recurses := true, apart := false }
def DiskHoldsSaid : Prop := diskHoldsRow.holds Try.pinned (OpenSpec.ofChange diskHoldsSpec)

/-- ITS FALSE NEIGHBOUR: 'it returns false'. Refute it at one input. -/
def diskHoldsWrong : ChangeSpec := { name := "diskHolds", fn := fun _ => fun
  | [d1, d2, d3, d4, d5, d6, d7] => { results := [.lit (.bool false)], args := [d1, d2, d3, d4, d5, d6, d7] }
  | _ => none }
def DiskHoldsWrongFalsely : Prop := diskHoldsRow.holds Try.pinned (OpenSpec.ofChange diskHoldsWrong)

/-- 'redpencillaw20.DiskPlays': WHATEVER THE INPUT: true; the input reads as it did. -/
def diskPlaysSpec : ChangeSpec := { name := "diskPlays", fn := fun _ => fun
  | [d1, d2, d3] => { results := [.lit (.bool true)], args := [d1, d2, d3] }
  | _ => none }
def diskPlaysRow : OpenClaim := { program := "ytcdlgjllklhjfaa", sum := "5ea20754546cc68d6a6be1242d98c4ef5b15142ca16becc678c43a371145c653", func := "redpencil/redpencillaw20.DiskPlays", spec := "diskPlays", unfollowed := true, recurses := true, apart := false }
def DiskPlaysSaid : Prop := diskPlaysRow.holds Try.pinned (OpenSpec.ofChange diskPlaysSpec)

/-- ITS FALSE NEIGHBOUR: 'it returns false'. Refute it at one input. -/
def diskPlaysWrong : ChangeSpec := { name := "diskPlays", fn := fun _ => fun
  | [d1, d2, d3] => { results := [.lit (.bool false)], args := [d1, d2, d3] }
  | _ => none }
def DiskPlaysWrongFalsely : Prop := diskPlaysRow.holds Try.pinned (OpenSpec.ofChange diskPlaysWrong)

/-- 'redpencillaw20.DiskNil': WHATEVER THE INPUT: true; the input reads as it did. -/
def diskNilSpec : ChangeSpec := { name := "diskNil", fn := fun _ => fun
  | [d1, d2, d3] => { results := [.lit (.bool true)], args := [d1, d2, d3] }
  | _ => none }
def diskNilRow : OpenClaim := { program := "ytcdlgjllklhjfaa", sum := "5ea20754546cc68d6a6be1242d98c4ef5b15142ca16becc678c43a371145c653", func := "redpencil/redpencillaw20.DiskNil", spec := "diskNil", unfollowed := true, recurses := true, apart := false }
def DiskNilSaid : Prop := diskNilRow.holds Try.pinned (OpenSpec.ofChange diskNilSpec)

/-- ITS FALSE NEIGHBOUR: 'it returns false'. Refute it at one input. -/
def diskNilWrong : ChangeSpec := { name := "diskNil", fn := fun _ => fun
  | [d1, d2, d3] => { results := [.lit (.bool false)], args := [d1, d2, d3] }
  | _ => none }
def DiskNilWrongFalsely : Prop := diskNilRow.holds Try.pinned (OpenSpec.ofChange diskNilWrong)

/- THE SECOND FORM. 'bulk': how many values and letters a reading holds, each counted each time it is reached (what is shared counts as often as it is met; a slice's spare places count too). A statement '..UptoSaid' is the law's where the arguments, and the package variables that the reading takes, are together of bulk at most 1048576: NARROWER than '..Said'. Prove '..Said' where nothing that the law and all that it calls make is longer than what came in: it says more and counts as full. Else prove '..UptoSaid'. A law counts once. -/
mutual
def uptoBulk {H : Type} : DataW H → Nat
  | .lit (.string bytes) => bytes.length + 1
  | .lit _ => 1
  | .nil => 1
  | .ptr d => uptoBulk d + 1
  | .slice elems spare => uptoBulkAll elems + uptoBulkAll spare + 1
  | .agg parts => uptoBulkAll parts + 1
  | .iface _ d => uptoBulk d + 1
  | .map entries => uptoBulkEntries entries + 1
  | .held _ => 1
def uptoBulkAll {H : Type} : List (DataW H) → Nat
  | [] => 0
  | d :: r => uptoBulk d + uptoBulkAll r
def uptoBulkEntries {H : Type} : List (Lit × DataW H) → Nat
  | [] => 0
  | x :: r => uptoBulkEntry x + uptoBulkEntries r
def uptoBulkEntry {H : Type} : Lit × DataW H → Nat
  | (.string bytes, d) => bytes.length + uptoBulk d + 1
  | (_, d) => uptoBulk d + 1
 end
def uptoSmall : (H : Type) → List (DataW H) → Bool := fun _ ds => decide (uptoBulkAll ds ≤ 1048576)
def OpenSpec.upto (s : _root_.Go.ChangeSpec) : _root_.Go.OpenSpec := { _root_.Go.OpenSpec.ofChange s with cond := some uptoSmall }

/-- 'redpencillaw20.DiskNew', WHERE WHAT IT READS IS OF BULK AT MOST 1048576: true; the input reads as it did. -/
def diskNewUptoRow : OpenClaim := { program := "ytcdlgjllklhjfaa", sum := "5ea20754546cc68d6a6be1242d98c4ef5b15142ca16becc678c43a371145c653", func := "redpencil/redpencillaw20.DiskNew", spec := "diskNew", unfollowed := true, recurses := true, apart := false, narrowed := true }
def DiskNewUptoSaid : Prop := diskNewUptoRow.holds Try.pinned (OpenSpec.upto diskNewSpec)

/-- 'redpencillaw20.DiskLongs', WHERE WHAT IT READS IS OF BULK AT MOST 1048576: true; the input reads as it did. -/
def diskLongsUptoRow : OpenClaim := { program := "ytcdlgjllklhjfaa", sum := "5ea20754546cc68d6a6be1242d98c4ef5b15142ca16becc678c43a371145c653", func := "redpencil/redpencillaw20.DiskLongs", spec := "diskLongs", unfollowed := true, recurses := true, apart := false, narrowed := true }
def DiskLongsUptoSaid : Prop := diskLongsUptoRow.holds Try.pinned (OpenSpec.upto diskLongsSpec)

/-- 'redpencillaw20.DiskHolds', WHERE WHAT IT READS IS OF BULK AT MOST 1048576: true; the input reads as it did. -/
def diskHoldsUptoRow : OpenClaim := { program := "ytcdlgjllklhjfaa", sum := "5ea20754546cc68d6a6be1242d98c4ef5b15142ca16becc678c43a371145c653", func := "redpencil/redpencillaw20.DiskHolds", spec := "diskHolds", unfollowed := true, recurses := true, apart := false, narrowed := true }
def DiskHoldsUptoSaid : Prop := diskHoldsUptoRow.holds Try.pinned (OpenSpec.upto diskHoldsSpec)

/-- 'redpencillaw20.DiskPlays', WHERE WHAT IT READS IS OF BULK AT MOST 1048576: true; the input reads as it did. -/
def diskPlaysUptoRow : OpenClaim := { program := "ytcdlgjllklhjfaa", sum := "5ea20754546cc68d6a6be1242d98c4ef5b15142ca16becc678c43a371145c653", func := "redpencil/redpencillaw20.DiskPlays", spec := "diskPlays", unfollowed := true, recurses := true, apart := false, narrowed := true }
def DiskPlaysUptoSaid : Prop := diskPlaysUptoRow.holds Try.pinned (OpenSpec.upto diskPlaysSpec)

/-- 'redpencillaw20.DiskNil', WHERE WHAT IT READS IS OF BULK AT MOST 1048576: true; the input reads as it did. -/
def diskNilUptoRow : OpenClaim := { program := "ytcdlgjllklhjfaa", sum := "5ea20754546cc68d6a6be1242d98c4ef5b15142ca16becc678c43a371145c653", func := "redpencil/redpencillaw20.DiskNil", spec := "diskNil", unfollowed := true, recurses := true, apart := false, narrowed := true }
def DiskNilUptoSaid : Prop := diskNilUptoRow.holds Try.pinned (OpenSpec.upto diskNilSpec)

end Rows
end Go.Proofs.Ytcdlgjllklhjfaa
