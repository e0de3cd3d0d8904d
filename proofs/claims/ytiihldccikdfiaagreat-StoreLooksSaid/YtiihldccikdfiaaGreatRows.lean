/-
  No cell of these rows narrows 'for every input' (looked for: loops, veiled, ifaces, maps, wideKeys, modest, calm, conditions, laid).
  DERIVED. THE GIVEN ROWS OF THIS SEAT. 6 by the template 'for every input the law returns true; each argument reads behind the call as it read before'; 0 by the template 'total and deterministic' (their statements: YtiihldccikdfiaaGreatTotals.lean).
  GIVEN WITH THE SEED: the statements are not yours to turn. If you find one false, say at which input.
  Laid BY PROGRAM, IN A SANDBOX (cutbox-rows.mjs): the forced cells as the released guide's own fill.sh prints them over the translation 79b7b8f337b8aa4e… (all of the seat's roots in one cut). By AI agents, Wed Nov 11 2026. No macro, syntax, notation, axiom, sorry.
-/
import Derived.Test.YtiihldccikdfiaaGreatChecked
import GoSem.Claim
import GoSem.ClaimJoined
import GoSem.ClaimMapViews
import Derived.JoinedTies
import Derived.KernelRfl
namespace Go.Proofs.YtiihldccikdfiaaGreat
/- THE CELL 'sum', in the pinned program and in every row, IS THE sha256 OF THE DUMP (.gsa) THAT YtiihldccikdfiaaGreatProg.lean LOADS. Nothing in Lean hashes anything: it is a label: what it is worth is what the hold of that sum in a sandbox is worth. -/
noncomputable def Tryz.pinned : Pinned := { name := "ytiihldccikdfiaagreat", sum := "79b7b8f337b8aa4e968b840132e36cd38288a3bd5ce41f5f24f4aebef7a610e9", checked := Tryz.checked }
namespace Rows
def none {H : Type} : Left H := { results := [], args := [] }

/-- 'redpencillaw10.StorePuts': WHATEVER THE INPUT: true; the input reads as it did. -/
def storePutsSpec : ChangeSpec := { name := "storePuts", fn := fun _ => fun
  | [d1, d2, d3] => { results := [.lit (.bool true)], args := [d1, d2, d3] }
  | _ => none }
def storePutsRow : OpenClaim := { program := "ytiihldccikdfiaagreat", sum := "79b7b8f337b8aa4e968b840132e36cd38288a3bd5ce41f5f24f4aebef7a610e9", func := "redpencil/redpencillaw10.StorePuts", spec := "storePuts", unfollowed := true, recurses := true, plainKeys := false, apart := false }
def StorePutsSaid : Prop := storePutsRow.holds Tryz.pinned (OpenSpec.ofChange storePutsSpec)

/-- ITS FALSE NEIGHBOUR: 'it returns false'. Refute it at one input. -/
def storePutsWrong : ChangeSpec := { name := "storePuts", fn := fun _ => fun
  | [d1, d2, d3] => { results := [.lit (.bool false)], args := [d1, d2, d3] }
  | _ => none }
def StorePutsWrongFalsely : Prop := storePutsRow.holds Tryz.pinned (OpenSpec.ofChange storePutsWrong)

/-- 'redpencillaw10.StoreKills': WHATEVER THE INPUT: true; the input reads as it did. -/
def storeKillsSpec : ChangeSpec := { name := "storeKills", fn := fun _ => fun
  | [d1, d2] => { results := [.lit (.bool true)], args := [d1, d2] }
  | _ => none }
def storeKillsRow : OpenClaim := { program := "ytiihldccikdfiaagreat", sum := "79b7b8f337b8aa4e968b840132e36cd38288a3bd5ce41f5f24f4aebef7a610e9", func := "redpencil/redpencillaw10.StoreKills", spec := "storeKills", unfollowed := true, recurses := true, plainKeys := false, apart := false }
def StoreKillsSaid : Prop := storeKillsRow.holds Tryz.pinned (OpenSpec.ofChange storeKillsSpec)

/-- ITS FALSE NEIGHBOUR: 'it returns false'. Refute it at one input. -/
def storeKillsWrong : ChangeSpec := { name := "storeKills", fn := fun _ => fun
  | [d1, d2] => { results := [.lit (.bool false)], args := [d1, d2] }
  | _ => none }
def StoreKillsWrongFalsely : Prop := storeKillsRow.holds Tryz.pinned (OpenSpec.ofChange storeKillsWrong)

/-- 'redpencillaw10.StoreLooks': WHATEVER THE INPUT: true; the input reads as it did. -/
def storeLooksSpec : ChangeSpec := { name := "storeLooks", fn := fun _ => fun
  | [d] => { results := [.lit (.bool true)], args := [d] }
  | _ => none }
def storeLooksRow : OpenClaim := { program := "ytiihldccikdfiaagreat", sum := "79b7b8f337b8aa4e968b840132e36cd38288a3bd5ce41f5f24f4aebef7a610e9", func := "redpencil/redpencillaw10.StoreLooks", spec := "storeLooks", unfollowed := true, recurses := true, plainKeys := false, apart := false }
def StoreLooksSaid : Prop := storeLooksRow.holds Tryz.pinned (OpenSpec.ofChange storeLooksSpec)

/-- ITS FALSE NEIGHBOUR: 'it returns false'. Refute it at one input. -/
def storeLooksWrong : ChangeSpec := { name := "storeLooks", fn := fun _ => fun
  | [d] => { results := [.lit (.bool false)], args := [d] }
  | _ => none }
def StoreLooksWrongFalsely : Prop := storeLooksRow.holds Tryz.pinned (OpenSpec.ofChange storeLooksWrong)

/-- 'redpencillaw10.StoreOrders': WHATEVER THE INPUT: true; the input reads as it did. -/
def storeOrdersSpec : ChangeSpec := { name := "storeOrders", fn := fun _ => fun
  | [d1, d2] => { results := [.lit (.bool true)], args := [d1, d2] }
  | _ => none }
def storeOrdersRow : OpenClaim := { program := "ytiihldccikdfiaagreat", sum := "79b7b8f337b8aa4e968b840132e36cd38288a3bd5ce41f5f24f4aebef7a610e9", func := "redpencil/redpencillaw10.StoreOrders", spec := "storeOrders", unfollowed := true, recurses := true, plainKeys := false, apart := false }
def StoreOrdersSaid : Prop := storeOrdersRow.holds Tryz.pinned (OpenSpec.ofChange storeOrdersSpec)

/-- ITS FALSE NEIGHBOUR: 'it returns false'. Refute it at one input. -/
def storeOrdersWrong : ChangeSpec := { name := "storeOrders", fn := fun _ => fun
  | [d1, d2] => { results := [.lit (.bool false)], args := [d1, d2] }
  | _ => none }
def StoreOrdersWrongFalsely : Prop := storeOrdersRow.holds Tryz.pinned (OpenSpec.ofChange storeOrdersWrong)

/-- 'redpencillaw10.StoreValid': WHATEVER THE INPUT: true; the input reads as it did. -/
def storeValidSpec : ChangeSpec := { name := "storeValid", fn := fun _ => fun
  | [d1, d2] => { results := [.lit (.bool true)], args := [d1, d2] }
  | _ => none }
def storeValidRow : OpenClaim := { program := "ytiihldccikdfiaagreat", sum := "79b7b8f337b8aa4e968b840132e36cd38288a3bd5ce41f5f24f4aebef7a610e9", func := "redpencil/redpencillaw10.StoreValid", spec := "storeValid", unfollowed := true, recurses := true, plainKeys := false, apart := false }
def StoreValidSaid : Prop := storeValidRow.holds Tryz.pinned (OpenSpec.ofChange storeValidSpec)

/-- ITS FALSE NEIGHBOUR: 'it returns false'. Refute it at one input. -/
def storeValidWrong : ChangeSpec := { name := "storeValid", fn := fun _ => fun
  | [d1, d2] => { results := [.lit (.bool false)], args := [d1, d2] }
  | _ => none }
def StoreValidWrongFalsely : Prop := storeValidRow.holds Tryz.pinned (OpenSpec.ofChange storeValidWrong)

/-- 'redpencillaw10.StoreHolds': WHATEVER THE INPUT: true; the input reads as it did. -/
def storeHoldsSpec : ChangeSpec := { name := "storeHolds", fn := fun _ => fun
  | [d1, d2, d3] => { results := [.lit (.bool true)], args := [d1, d2, d3] }
  | _ => none }
def storeHoldsRow : OpenClaim := { program := "ytiihldccikdfiaagreat", sum := "79b7b8f337b8aa4e968b840132e36cd38288a3bd5ce41f5f24f4aebef7a610e9", func := "redpencil/redpencillaw10.StoreHolds", spec := "storeHolds", unfollowed := true, recurses := true, plainKeys := false, apart := false }
def StoreHoldsSaid : Prop := storeHoldsRow.holds Tryz.pinned (OpenSpec.ofChange storeHoldsSpec)

/-- ITS FALSE NEIGHBOUR: 'it returns false'. Refute it at one input. -/
def storeHoldsWrong : ChangeSpec := { name := "storeHolds", fn := fun _ => fun
  | [d1, d2, d3] => { results := [.lit (.bool false)], args := [d1, d2, d3] }
  | _ => none }
def StoreHoldsWrongFalsely : Prop := storeHoldsRow.holds Tryz.pinned (OpenSpec.ofChange storeHoldsWrong)

/- THE SECOND FORM. 'bulk': how many values and letters a reading holds, each counted each time it is reached (what is shared counts as often as it is met; a slice's spare places count too). A statement '..UptoSaid' is the law's where the arguments, and the package variables that the reading takes, are together of bulk at most 1048576: NARROWER than '..Said'. Prove '..Said' where nothing that the law and all that it calls make is longer than what came in: it says more and counts as full. Else prove '..UptoSaid'. A law counts once. -/
mutual
def uptoBulk {H : Type} : DataW H → Nat
  | .lit (.string bytes) => bytes.length + 1
  | .lit _ => 1
  | .nil => 1
  | .ptr d => uptoBulk d + 1
  | .slice elems spare => uptoBulkAll elems + uptoBulkAll spare + 1
  | .agg parts => uptoBulkAll parts + 1
  | .iface _ d => uptoBulk d + 1
  | .map entries => uptoBulkEntries entries + 1
  | .held _ => 1
def uptoBulkAll {H : Type} : List (DataW H) → Nat
  | [] => 0
  | d :: r => uptoBulk d + uptoBulkAll r
def uptoBulkEntries {H : Type} : List (Lit × DataW H) → Nat
  | [] => 0
  | x :: r => uptoBulkEntry x + uptoBulkEntries r
def uptoBulkEntry {H : Type} : Lit × DataW H → Nat
  | (.string bytes, d) => bytes.length + uptoBulk d + 1
  | (_, d) => uptoBulk d + 1
 end
def uptoSmall : (H : Type) → List (DataW H) → Bool := fun _ ds => decide (uptoBulkAll ds ≤ 1048576)
def OpenSpec.upto (s : _root_.Go.ChangeSpec) : _root_.Go.OpenSpec := { _root_.Go.OpenSpec.ofChange s with cond := some uptoSmall }

/-- 'redpencillaw10.StorePuts', WHERE WHAT IT READS IS OF BULK AT MOST 1048576: true; the input reads as it did. -/
def storePutsUptoRow : OpenClaim := { program := "ytiihldccikdfiaagreat", sum := "79b7b8f337b8aa4e968b840132e36cd38288a3bd5ce41f5f24f4aebef7a610e9", func := "redpencil/redpencillaw10.StorePuts", spec := "storePuts", unfollowed := true, recurses := true, plainKeys := false, apart := false, narrowed := true }
def StorePutsUptoSaid : Prop := storePutsUptoRow.holds Tryz.pinned (OpenSpec.upto storePutsSpec)

/-- 'redpencillaw10.StoreKills', WHERE WHAT IT READS IS OF BULK AT MOST 1048576: true; the input reads as it did. -/
def storeKillsUptoRow : OpenClaim := { program := "ytiihldccikdfiaagreat", sum := "79b7b8f337b8aa4e968b840132e36cd38288a3bd5ce41f5f24f4aebef7a610e9", func := "redpencil/redpencillaw10.StoreKills", spec := "storeKills", unfollowed := true, recurses := true, plainKeys := false, apart := false, narrowed := true }
def StoreKillsUptoSaid : Prop := storeKillsUptoRow.holds Tryz.pinned (OpenSpec.upto storeKillsSpec)

/-- 'redpencillaw10.StoreLooks', WHERE WHAT IT READS IS OF BULK AT MOST 1048576: true; the input reads as it did. -/
def storeLooksUptoRow : OpenClaim := { program := "ytiihldccikdfiaagreat", sum := "79b7b8f337b8aa4e968b840132e36cd38288a3bd5ce41f5f24f4aebef7a610e9", func := "redpencil/redpencillaw10.StoreLooks", spec := "storeLooks", unfollowed := true, recurses := true, plainKeys := false, apart := false, narrowed := true }
def StoreLooksUptoSaid : Prop := storeLooksUptoRow.holds Tryz.pinned (OpenSpec.upto storeLooksSpec)

/-- 'redpencillaw10.StoreOrders', WHERE WHAT IT READS IS OF BULK AT MOST 1048576: true; the input reads as it did. -/
def storeOrdersUptoRow : OpenClaim := { program := "ytiihldccikdfiaagreat", sum := "79b7b8f337b8aa4e968b840132e36cd38288a3bd5ce41f5f24f4aebef7a610e9", func := "redpencil/redpencillaw10.StoreOrders", spec := "storeOrders", unfollowed := true, recurses := true, plainKeys := false, apart := false, narrowed := true }
def StoreOrdersUptoSaid : Prop := storeOrdersUptoRow.holds Tryz.pinned (OpenSpec.upto storeOrdersSpec)

/-- 'redpencillaw10.StoreValid', WHERE WHAT IT READS IS OF BULK AT MOST 1048576: true; the input reads as it did. -/
def storeValidUptoRow : OpenClaim := { program := "ytiihldccikdfiaagreat", sum := "79b7b8f337b8aa4e968b840132e36cd38288a3bd5ce41f5f24f4aebef7a610e9", func := "redpencil/redpencillaw10.StoreValid", spec := "storeValid", unfollowed := true, recurses := true, plainKeys := false, apart := false, narrowed := true }
def StoreValidUptoSaid : Prop := storeValidUptoRow.holds Tryz.pinned (OpenSpec.upto storeValidSpec)

/-- 'redpencillaw10.StoreHolds', WHERE WHAT IT READS IS OF BULK AT MOST 1048576: true; the input reads as it did. -/
def storeHoldsUptoRow : OpenClaim := { program := "ytiihldccikdfiaagreat", sum := "79b7b8f337b8aa4e968b840132e36cd38288a3bd5ce41f5f24f4aebef7a610e9", func := "redpencil/redpencillaw10.StoreHolds", spec := "storeHolds", unfollowed := true, recurses := true, plainKeys := false, apart := false, narrowed := true }
def StoreHoldsUptoSaid : Prop := storeHoldsUptoRow.holds Tryz.pinned (OpenSpec.upto storeHoldsSpec)

end Rows
end Go.Proofs.YtiihldccikdfiaaGreat
