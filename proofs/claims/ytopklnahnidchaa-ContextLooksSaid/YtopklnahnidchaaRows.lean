/-
  No cell of these rows narrows 'for every input' (looked for: loops, veiled, ifaces, maps, wideKeys, modest, calm, conditions, laid).
  DERIVED. THE GIVEN ROWS OF THIS SEAT. 5 by the template 'for every input the law returns true; each argument reads behind the call as it read before'; 0 by the template 'total and deterministic' (their statements: YtopklnahnidchaaTotals.lean).
  GIVEN WITH THE SEED: the statements are not yours to turn. If you find one false, say at which input.
  Laid BY PROGRAM, IN A SANDBOX (cutbox-rows.mjs): the forced cells as the released guide's own fill.sh prints them over the translation 9c35aa2c0a8816ad… (all of the seat's roots in one cut). By AI agents, Wed Nov 11 2026. No macro, syntax, notation, axiom, sorry.
-/
import Derived.Test.YtopklnahnidchaaChecked
import GoSem.Claim
import GoSem.ClaimJoined
import GoSem.ClaimMapViews
import Derived.JoinedTies
import Derived.KernelRfl
namespace Go.Proofs.Ytopklnahnidchaa
/- THE CELL 'sum', in the pinned program and in every row, IS THE sha256 OF THE DUMP (.gsa) THAT YtopklnahnidchaaProg.lean LOADS. Nothing in Lean hashes anything: it is a label: what it is worth is what the hold of that sum in a sandbox is worth. -/
noncomputable def Try.pinned : Pinned := { name := "ytopklnahnidchaa", sum := "9c35aa2c0a8816ad2cfd375fd1e6fb59ea2e56710ea8414f91e34aee72157748", checked := Try.checked }
namespace Rows
def none {H : Type} : Left H := { results := [], args := [] }

/-- 'redpencillaw06.ContextLooks': WHATEVER THE INPUT: true; the input reads as it did. -/
def contextLooksSpec : ChangeSpec := { name := "contextLooks", fn := fun _ => fun
  | [d1, d2] => { results := [.lit (.bool true)], args := [d1, d2] }
  | _ => none }
def contextLooksRow : OpenClaim := { program := "ytopklnahnidchaa", sum := "9c35aa2c0a8816ad2cfd375fd1e6fb59ea2e56710ea8414f91e34aee72157748", func := "redpencil/redpencillaw06.ContextLooks", spec := "contextLooks", unfollowed := true, recurses := true, apart := false }
def ContextLooksSaid : Prop := contextLooksRow.holds Try.pinned (OpenSpec.ofChange contextLooksSpec)

/-- ITS FALSE NEIGHBOUR: 'it returns false'. Refute it at one input. -/
def contextLooksWrong : ChangeSpec := { name := "contextLooks", fn := fun _ => fun
  | [d1, d2] => { results := [.lit (.bool false)], args := [d1, d2] }
  | _ => none }
def ContextLooksWrongFalsely : Prop := contextLooksRow.holds Try.pinned (OpenSpec.ofChange contextLooksWrong)

/-- 'redpencillaw06.ContextDots': WHATEVER THE INPUT: true; the input reads as it did. -/
def contextDotsSpec : ChangeSpec := { name := "contextDots", fn := fun _ => fun
  | [d1, d2, d3] => { results := [.lit (.bool true)], args := [d1, d2, d3] }
  | _ => none }
def contextDotsRow : OpenClaim := { program := "ytopklnahnidchaa", sum := "9c35aa2c0a8816ad2cfd375fd1e6fb59ea2e56710ea8414f91e34aee72157748", func := "redpencil/redpencillaw06.ContextDots", spec := "contextDots", unfollowed := true, recurses := true, apart := false }
def ContextDotsSaid : Prop := contextDotsRow.holds Try.pinned (OpenSpec.ofChange contextDotsSpec)

/-- ITS FALSE NEIGHBOUR: 'it returns false'. Refute it at one input. -/
def contextDotsWrong : ChangeSpec := { name := "contextDots", fn := fun _ => fun
  | [d1, d2, d3] => { results := [.lit (.bool false)], args := [d1, d2, d3] }
  | _ => none }
def ContextDotsWrongFalsely : Prop := contextDotsRow.holds Try.pinned (OpenSpec.ofChange contextDotsWrong)

/-- 'redpencillaw06.ContextMakes': WHATEVER THE INPUT: true; the input reads as it did. -/
def contextMakesSpec : ChangeSpec := { name := "contextMakes", fn := fun _ => fun
  | [d1, d2] => { results := [.lit (.bool true)], args := [d1, d2] }
  | _ => none }
def contextMakesRow : OpenClaim := { program := "ytopklnahnidchaa", sum := "9c35aa2c0a8816ad2cfd375fd1e6fb59ea2e56710ea8414f91e34aee72157748", func := "redpencil/redpencillaw06.ContextMakes", spec := "contextMakes", unfollowed := true, recurses := true, apart := false }
def ContextMakesSaid : Prop := contextMakesRow.holds Try.pinned (OpenSpec.ofChange contextMakesSpec)

/-- ITS FALSE NEIGHBOUR: 'it returns false'. Refute it at one input. -/
def contextMakesWrong : ChangeSpec := { name := "contextMakes", fn := fun _ => fun
  | [d1, d2] => { results := [.lit (.bool false)], args := [d1, d2] }
  | _ => none }
def ContextMakesWrongFalsely : Prop := contextMakesRow.holds Try.pinned (OpenSpec.ofChange contextMakesWrong)

/-- 'redpencillaw06.ContextOrders': WHATEVER THE INPUT: true; the input reads as it did. -/
def contextOrdersSpec : ChangeSpec := { name := "contextOrders", fn := fun _ => fun
  | [d1, d2, d3] => { results := [.lit (.bool true)], args := [d1, d2, d3] }
  | _ => none }
def contextOrdersRow : OpenClaim := { program := "ytopklnahnidchaa", sum := "9c35aa2c0a8816ad2cfd375fd1e6fb59ea2e56710ea8414f91e34aee72157748", func := "redpencil/redpencillaw06.ContextOrders", spec := "contextOrders", unfollowed := true, recurses := true, apart := false }
def ContextOrdersSaid : Prop := contextOrdersRow.holds Try.pinned (OpenSpec.ofChange contextOrdersSpec)

/-- ITS FALSE NEIGHBOUR: 'it returns false'. Refute it at one input. -/
def contextOrdersWrong : ChangeSpec := { name := "contextOrders", fn := fun _ => fun
  | [d1, d2, d3] => { results := [.lit (.bool false)], args := [d1, d2, d3] }
  | _ => none }
def ContextOrdersWrongFalsely : Prop := contextOrdersRow.holds Try.pinned (OpenSpec.ofChange contextOrdersWrong)

/-- 'redpencillaw06.ContextHolds': WHATEVER THE INPUT: true; the input reads as it did. -/
def contextHoldsSpec : ChangeSpec := { name := "contextHolds", fn := fun _ => fun
  | [d1, d2, d3, d4] => { results := [.lit (.bool true)], args := [d1, d2, d3, d4] }
  | _ => none }
def contextHoldsRow : OpenClaim := { program := "ytopklnahnidchaa", sum := "9c35aa2c0a8816ad2cfd375fd1e6fb59ea2e56710ea8414f91e34aee72157748", func := "redpencil/redpencillaw06.ContextHolds", spec := "contextHolds", unfollowed := true, recurses := true, apart := false }
def ContextHoldsSaid : Prop := contextHoldsRow.holds Try.pinned (OpenSpec.ofChange contextHoldsSpec)

/-- ITS FALSE NEIGHBOUR: 'it returns false'. Refute it at one input. -/
def contextHoldsWrong : ChangeSpec := { name := "contextHolds", fn := fun _ => fun
  | [d1, d2, d3, d4] => { results := [.lit (.bool false)], args := [d1, d2, d3, d4] }
  | _ => none }
def ContextHoldsWrongFalsely : Prop := contextHoldsRow.holds Try.pinned (OpenSpec.ofChange contextHoldsWrong)

/- THE SECOND FORM. 'bulk': how many values and letters a reading holds, each counted each time it is reached (what is shared counts as often as it is met; a slice's spare places count too). A statement '..UptoSaid' is the law's where the arguments, and the package variables that the reading takes, are together of bulk at most 1048576: NARROWER than '..Said'. Prove '..Said' where nothing that the law and all that it calls make is longer than what came in: it says more and counts as full. Else prove '..UptoSaid'. A law counts once. -/
mutual
def uptoBulk {H : Type} : DataW H → Nat
  | .lit (.string bytes) => bytes.length + 1
  | .lit _ => 1
  | .nil => 1
  | .ptr d => uptoBulk d + 1
  | .slice elems spare => uptoBulkAll elems + uptoBulkAll spare + 1
  | .agg parts => uptoBulkAll parts + 1
  | .iface _ d => uptoBulk d + 1
  | .map entries => uptoBulkEntries entries + 1
  | .held _ => 1
def uptoBulkAll {H : Type} : List (DataW H) → Nat
  | [] => 0
  | d :: r => uptoBulk d + uptoBulkAll r
def uptoBulkEntries {H : Type} : List (Lit × DataW H) → Nat
  | [] => 0
  | x :: r => uptoBulkEntry x + uptoBulkEntries r
def uptoBulkEntry {H : Type} : Lit × DataW H → Nat
  | (.string bytes, d) => bytes.length + uptoBulk d + 1
  | (_, d) => uptoBulk d + 1
 end
def uptoSmall : (H : Type) → List (DataW H) → Bool := fun _ ds => decide (uptoBulkAll ds ≤ 1048576)
def OpenSpec.upto (s : _root_.Go.ChangeSpec) : _root_.Go.OpenSpec := { _root_.Go.OpenSpec.ofChange s with cond := some uptoSmall }

/-- 'redpencillaw06.ContextLooks', WHERE WHAT IT READS IS OF BULK AT MOST 1048576: true; the input reads as it did. -/
def contextLooksUptoRow : OpenClaim := { program := "ytopklnahnidchaa", sum := "9c35aa2c0a8816ad2cfd375fd1e6fb59ea2e56710ea8414f91e34aee72157748", func := "redpencil/redpencillaw06.ContextLooks", spec := "contextLooks", unfollowed := true, recurses := true, apart := false, narrowed := true }
def ContextLooksUptoSaid : Prop := contextLooksUptoRow.holds Try.pinned (OpenSpec.upto contextLooksSpec)

/-- 'redpencillaw06.ContextDots', WHERE WHAT IT READS IS OF BULK AT MOST 1048576: true; the input reads as it did. -/
def contextDotsUptoRow : OpenClaim := { program := "ytopklnahnidchaa", sum := "9c35aa2c0a8816ad2cfd375fd1e6fb59ea2e56710ea8414f91e34aee72157748", func := "redpencil/redpencillaw06.ContextDots", spec := "contextDots", unfollowed := true, recurses := true, apart := false, narrowed := true }
def ContextDotsUptoSaid : Prop := contextDotsUptoRow.holds Try.pinned (OpenSpec.upto contextDotsSpec)

/-- 'redpencillaw06.ContextMakes', WHERE WHAT IT READS IS OF BULK AT MOST 1048576: true; the input reads as it did. -/
def contextMakesUptoRow : OpenClaim := { program := "ytopklnahnidchaa", sum := "9c35aa2c0a8816ad2cfd375fd1e6fb59ea2e56710ea8414f91e34aee72157748", func := "redpencil/redpencillaw06.ContextMakes", spec := "contextMakes", unfollowed := true, recurses := true, apart := false, narrowed := true }
def ContextMakesUptoSaid : Prop := contextMakesUptoRow.holds Try.pinned (OpenSpec.upto contextMakesSpec)

/-- 'redpencillaw06.ContextOrders', WHERE WHAT IT READS IS OF BULK AT MOST 1048576: true; the input reads as it did. -/
def contextOrdersUptoRow : OpenClaim := { program := "ytopklnahnidchaa", sum := "9c35aa2c0a8816ad2cfd375fd1e6fb59ea2e56710ea8414f91e34aee72157748", func := "redpencil/redpencillaw06.ContextOrders", spec := "contextOrders", unfollowed := true, recurses := true, apart := false, narrowed := true }
def ContextOrdersUptoSaid : Prop := contextOrdersUptoRow.holds Try.pinned (OpenSpec.upto contextOrdersSpec)

/-- 'redpencillaw06.ContextHolds', WHERE WHAT IT READS IS OF BULK AT MOST 1048576: true; the input reads as it did. -/
def contextHoldsUptoRow : OpenClaim := { program := "ytopklnahnidchaa", sum := "9c35aa2c0a8816ad2cfd375fd1e6fb59ea2e56710ea8414f91e34aee72157748", func := "redpencil/redpencillaw06.ContextHolds", spec := "contextHolds", unfollowed := true, recurses := true, apart := false, narrowed := true }
def ContextHoldsUptoSaid : Prop := contextHoldsUptoRow.holds Try.pinned (OpenSpec.upto contextHoldsSpec)

end Rows
end Go.Proofs.Ytopklnahnidchaa
