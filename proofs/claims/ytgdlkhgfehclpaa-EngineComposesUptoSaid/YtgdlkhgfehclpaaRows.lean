/-
  No cell of these rows narrows 'for every input' (looked for: loops, veiled, ifaces, maps, wideKeys, modest, calm, conditions, laid).
  DERIVED. THE GIVEN ROWS OF THIS SEAT. 9 by the template 'for every input the law returns true; each argument reads behind the call as it read before'; 0 by the template 'total and deterministic' (their statements: YtgdlkhgfehclpaaTotals.lean).
  GIVEN WITH THE SEED: the statements are not yours to turn. If you find one false, say at which input.
  Laid BY PROGRAM, IN A SANDBOX (cutbox-rows.mjs): the forced cells as the released guide's own fill.sh prints them over the translation 5f626e5d207cdc65… (all of the seat's roots in one cut). By AI agents, Wed Nov 11 2026. No macro, syntax, notation, axiom, sorry.
-/
import Derived.Test.YtgdlkhgfehclpaaChecked
import GoSem.Claim
import GoSem.ClaimJoined
import GoSem.ClaimMapViews
import Derived.JoinedTies
import Derived.KernelRfl
namespace Go.Proofs.Ytgdlkhgfehclpaa
/- THE CELL 'sum', in the pinned program and in every row, IS THE sha256 OF THE DUMP (.gsa) THAT YtgdlkhgfehclpaaProg.lean LOADS. Nothing in Lean hashes anything: it is a label: what it is worth is what the hold of that sum in a sandbox is worth. -/
noncomputable def Try.pinned : Pinned := { name := "ytgdlkhgfehclpaa", sum := "5f626e5d207cdc65ab2dabc91ba1ab29ff646fcf362aa70d316a58d69d7d68c2", checked := Try.checked }
namespace Rows
def none {H : Type} : Left H := { results := [], args := [] }

/-- 'slopelaw17.EngineComposes': WHATEVER THE INPUT: true; the input reads as it did. -/
def engineComposesSpec : ChangeSpec := { name := "engineComposes", fn := fun _ => fun
  | [d1, d2] => { results := [.lit (.bool true)], args := [d1, d2] }
  | _ => none }
def engineComposesRow : OpenClaim := { program := "ytgdlkhgfehclpaa", sum := "5f626e5d207cdc65ab2dabc91ba1ab29ff646fcf362aa70d316a58d69d7d68c2", func := "slope/slopelaw17.EngineComposes", spec := "engineComposes", unfollowed := true, recurses := true, named := ["math/bits.overflowError"], apart := false }
def EngineComposesSaid : Prop := engineComposesRow.holds Try.pinned (OpenSpec.ofChange engineComposesSpec)

/-- ITS FALSE NEIGHBOUR: 'it returns false'. Refute it at one input. -/
def engineComposesWrong : ChangeSpec := { name := "engineComposes", fn := fun _ => fun
  | [d1, d2] => { results := [.lit (.bool false)], args := [d1, d2] }
  | _ => none }
def EngineComposesWrongFalsely : Prop := engineComposesRow.holds Try.pinned (OpenSpec.ofChange engineComposesWrong)

/-- 'slopelaw11.OrderOrders': WHATEVER THE INPUT: true; the input reads as it did. -/
def orderOrdersSpec : ChangeSpec := { name := "orderOrders", fn := fun _ => fun
  | [d1, d2, d3] => { results := [.lit (.bool true)], args := [d1, d2, d3] }
  | _ => none }
def orderOrdersRow : OpenClaim := { program := "ytgdlkhgfehclpaa", sum := "5f626e5d207cdc65ab2dabc91ba1ab29ff646fcf362aa70d316a58d69d7d68c2", func := "slope/slopelaw11.OrderOrders", spec := "orderOrders", unfollowed := true, recurses := true, apart := false }
def OrderOrdersSaid : Prop := orderOrdersRow.holds Try.pinned (OpenSpec.ofChange orderOrdersSpec)

/-- ITS FALSE NEIGHBOUR: 'it returns false'. Refute it at one input. -/
def orderOrdersWrong : ChangeSpec := { name := "orderOrders", fn := fun _ => fun
  | [d1, d2, d3] => { results := [.lit (.bool false)], args := [d1, d2, d3] }
  | _ => none }
def OrderOrdersWrongFalsely : Prop := orderOrdersRow.holds Try.pinned (OpenSpec.ofChange orderOrdersWrong)

/-- 'slopelaw11.OrderCores': WHATEVER THE INPUT: true; the input reads as it did. -/
def orderCoresSpec : ChangeSpec := { name := "orderCores", fn := fun _ => fun
  | [d] => { results := [.lit (.bool true)], args := [d] }
  | _ => none }
def orderCoresRow : OpenClaim := { program := "ytgdlkhgfehclpaa", sum := "5f626e5d207cdc65ab2dabc91ba1ab29ff646fcf362aa70d316a58d69d7d68c2", func := "slope/slopelaw11.OrderCores", spec := "orderCores", unfollowed := true, recurses := true, apart := false }
def OrderCoresSaid : Prop := orderCoresRow.holds Try.pinned (OpenSpec.ofChange orderCoresSpec)

/-- ITS FALSE NEIGHBOUR: 'it returns false'. Refute it at one input. -/
def orderCoresWrong : ChangeSpec := { name := "orderCores", fn := fun _ => fun
  | [d] => { results := [.lit (.bool false)], args := [d] }
  | _ => none }
def OrderCoresWrongFalsely : Prop := orderCoresRow.holds Try.pinned (OpenSpec.ofChange orderCoresWrong)

/-- 'slopelaw11.OrderSets': WHATEVER THE INPUT: true; the input reads as it did. -/
def orderSetsSpec : ChangeSpec := { name := "orderSets", fn := fun _ => fun
  | [d1, d2, d3] => { results := [.lit (.bool true)], args := [d1, d2, d3] }
  | _ => none }
def orderSetsRow : OpenClaim := { program := "ytgdlkhgfehclpaa", sum := "5f626e5d207cdc65ab2dabc91ba1ab29ff646fcf362aa70d316a58d69d7d68c2", func := "slope/slopelaw11.OrderSets", spec := "orderSets", unfollowed := true, recurses := true, apart := false }
def OrderSetsSaid : Prop := orderSetsRow.holds Try.pinned (OpenSpec.ofChange orderSetsSpec)

/-- ITS FALSE NEIGHBOUR: 'it returns false'. Refute it at one input. -/
def orderSetsWrong : ChangeSpec := { name := "orderSets", fn := fun _ => fun
  | [d1, d2, d3] => { results := [.lit (.bool false)], args := [d1, d2, d3] }
  | _ => none }
def OrderSetsWrongFalsely : Prop := orderSetsRow.holds Try.pinned (OpenSpec.ofChange orderSetsWrong)

/-- 'slopelaw11.OrderKinds': WHATEVER THE INPUT: true; the input reads as it did. -/
def orderKindsSpec : ChangeSpec := { name := "orderKinds", fn := fun _ => fun
  | [d] => { results := [.lit (.bool true)], args := [d] }
  | _ => none }
def orderKindsRow : OpenClaim := { program := "ytgdlkhgfehclpaa", sum := "5f626e5d207cdc65ab2dabc91ba1ab29ff646fcf362aa70d316a58d69d7d68c2", func := "slope/slopelaw11.OrderKinds", spec := "orderKinds", unfollowed := true, recurses := true, apart := false }
def OrderKindsSaid : Prop := orderKindsRow.holds Try.pinned (OpenSpec.ofChange orderKindsSpec)

/-- ITS FALSE NEIGHBOUR: 'it returns false'. Refute it at one input. -/
def orderKindsWrong : ChangeSpec := { name := "orderKinds", fn := fun _ => fun
  | [d] => { results := [.lit (.bool false)], args := [d] }
  | _ => none }
def OrderKindsWrongFalsely : Prop := orderKindsRow.holds Try.pinned (OpenSpec.ofChange orderKindsWrong)

/-- 'slopelaw11.OrderChecks': WHATEVER THE INPUT: true; the input reads as it did. -/
def orderChecksSpec : ChangeSpec := { name := "orderChecks", fn := fun _ => fun
  | [d1, d2] => { results := [.lit (.bool true)], args := [d1, d2] }
  | _ => none }
def orderChecksRow : OpenClaim := { program := "ytgdlkhgfehclpaa", sum := "5f626e5d207cdc65ab2dabc91ba1ab29ff646fcf362aa70d316a58d69d7d68c2", func := "slope/slopelaw11.OrderChecks", spec := "orderChecks", unfollowed := true, recurses := true, apart := false }
def OrderChecksSaid : Prop := orderChecksRow.holds Try.pinned (OpenSpec.ofChange orderChecksSpec)

/-- ITS FALSE NEIGHBOUR: 'it returns false'. Refute it at one input. -/
def orderChecksWrong : ChangeSpec := { name := "orderChecks", fn := fun _ => fun
  | [d1, d2] => { results := [.lit (.bool false)], args := [d1, d2] }
  | _ => none }
def OrderChecksWrongFalsely : Prop := orderChecksRow.holds Try.pinned (OpenSpec.ofChange orderChecksWrong)

/-- 'slopelaw11.OrderBacks': WHATEVER THE INPUT: true; the input reads as it did. -/
def orderBacksSpec : ChangeSpec := { name := "orderBacks", fn := fun _ => fun
  | [d1, d2] => { results := [.lit (.bool true)], args := [d1, d2] }
  | _ => none }
def orderBacksRow : OpenClaim := { program := "ytgdlkhgfehclpaa", sum := "5f626e5d207cdc65ab2dabc91ba1ab29ff646fcf362aa70d316a58d69d7d68c2", func := "slope/slopelaw11.OrderBacks", spec := "orderBacks", unfollowed := true, recurses := true, apart := false }
def OrderBacksSaid : Prop := orderBacksRow.holds Try.pinned (OpenSpec.ofChange orderBacksSpec)

/-- ITS FALSE NEIGHBOUR: 'it returns false'. Refute it at one input. -/
def orderBacksWrong : ChangeSpec := { name := "orderBacks", fn := fun _ => fun
  | [d1, d2] => { results := [.lit (.bool false)], args := [d1, d2] }
  | _ => none }
def OrderBacksWrongFalsely : Prop := orderBacksRow.holds Try.pinned (OpenSpec.ofChange orderBacksWrong)

/-- 'slopelaw11.OrderWorth': WHATEVER THE INPUT: true; the input reads as it did. -/
def orderWorthSpec : ChangeSpec := { name := "orderWorth", fn := fun _ => fun
  | [d1, d2] => { results := [.lit (.bool true)], args := [d1, d2] }
  | _ => none }
def orderWorthRow : OpenClaim := { program := "ytgdlkhgfehclpaa", sum := "5f626e5d207cdc65ab2dabc91ba1ab29ff646fcf362aa70d316a58d69d7d68c2", func := "slope/slopelaw11.OrderWorth", spec := "orderWorth", unfollowed := true, recurses := true, apart := false }
def OrderWorthSaid : Prop := orderWorthRow.holds Try.pinned (OpenSpec.ofChange orderWorthSpec)

/-- ITS FALSE NEIGHBOUR: 'it returns false'. Refute it at one input. -/
def orderWorthWrong : ChangeSpec := { name := "orderWorth", fn := fun _ => fun
  | [d1, d2] => { results := [.lit (.bool false)], args := [d1, d2] }
  | _ => none }
def OrderWorthWrongFalsely : Prop := orderWorthRow.holds Try.pinned (OpenSpec.ofChange orderWorthWrong)

/-- 'slopelaw11.OrderNames': WHATEVER THE INPUT: true; the input reads as it did. -/
def orderNamesSpec : ChangeSpec := { name := "orderNames", fn := fun _ => fun
  | [d1, d2, d3] => { results := [.lit (.bool true)], args := [d1, d2, d3] }
  | _ => none }
def orderNamesRow : OpenClaim := { program := "ytgdlkhgfehclpaa", sum := "5f626e5d207cdc65ab2dabc91ba1ab29ff646fcf362aa70d316a58d69d7d68c2", func := "slope/slopelaw11.OrderNames", spec := "orderNames", unfollowed := true, recurses := true, apart := false }
def OrderNamesSaid : Prop := orderNamesRow.holds Try.pinned (OpenSpec.ofChange orderNamesSpec)

/-- ITS FALSE NEIGHBOUR: 'it returns false'. Refute it at one input. -/
def orderNamesWrong : ChangeSpec := { name := "orderNames", fn := fun _ => fun
  | [d1, d2, d3] => { results := [.lit (.bool false)], args := [d1, d2, d3] }
  | _ => none }
def OrderNamesWrongFalsely : Prop := orderNamesRow.holds Try.pinned (OpenSpec.ofChange orderNamesWrong)

/- THE SECOND FORM. 'bulk': how many values and letters a reading holds, each counted each time it is reached (what is shared counts as often as it is met; a slice's spare places count too). A statement '..UptoSaid' is the law's where the arguments, and the package variables that the reading takes, are together of bulk at most 1048576: NARROWER than '..Said'. Prove '..Said' where nothing that the law and all that it calls make is longer than what came in: it says more and counts as full. Else prove '..UptoSaid'. A law counts once. -/
mutual
def uptoBulk {H : Type} : DataW H → Nat
  | .lit (.string bytes) => bytes.length + 1
  | .lit _ => 1
  | .nil => 1
  | .ptr d => uptoBulk d + 1
  | .slice elems spare => uptoBulkAll elems + uptoBulkAll spare + 1
  | .agg parts => uptoBulkAll parts + 1
  | .iface _ d => uptoBulk d + 1
  | .map entries => uptoBulkEntries entries + 1
  | .held _ => 1
def uptoBulkAll {H : Type} : List (DataW H) → Nat
  | [] => 0
  | d :: r => uptoBulk d + uptoBulkAll r
def uptoBulkEntries {H : Type} : List (Lit × DataW H) → Nat
  | [] => 0
  | x :: r => uptoBulkEntry x + uptoBulkEntries r
def uptoBulkEntry {H : Type} : Lit × DataW H → Nat
  | (.string bytes, d) => bytes.length + uptoBulk d + 1
  | (_, d) => uptoBulk d + 1
 end
def uptoSmall : (H : Type) → List (DataW H) → Bool := fun _ ds => decide (uptoBulkAll ds ≤ 1048576)
def OpenSpec.upto (s : _root_.Go.ChangeSpec) : _root_.Go.OpenSpec := { _root_.Go.OpenSpec.ofChange s with cond := some uptoSmall }

/-- 'slopelaw17.EngineComposes', WHERE WHAT IT READS IS OF BULK AT MOST 1048576: true; the input reads as it did. -/
def engineComposesUptoRow : OpenClaim := { program := "ytgdlkhgfehclpaa", sum := "5f626e5d207cdc65ab2dabc91ba1ab29ff646fcf362aa70d316a58d69d7d68c2", func := "slope/slopelaw17.EngineComposes", spec := "engineComposes", unfollowed := true, recurses := true, named := ["math/bits.overflowError"], apart := false, narrowed := true }
def EngineComposesUptoSaid : Prop := engineComposesUptoRow.holds Try.pinned (OpenSpec.upto engineComposesSpec)

/-- 'slopelaw11.OrderOrders', WHERE WHAT IT READS IS OF BULK AT MOST 1048576: true; the input reads as it did. -/
def orderOrdersUptoRow : OpenClaim := { program := "ytgdlkhgfehclpaa", sum := "5f626e5d207cdc65ab2dabc91ba1ab29ff646fcf362aa70d316a58d69d7d68c2", func := "slope/slopelaw11.OrderOrders", spec := "orderOrders", unfollowed := true, recurses := true, apart := false, narrowed := true }
def OrderOrdersUptoSaid : Prop := orderOrdersUptoRow.holds Try.pinned (OpenSpec.upto orderOrdersSpec)

/-- 'slopelaw11.OrderCores', WHERE WHAT IT READS IS OF BULK AT MOST 1048576: true; the input reads as it did. -/
def orderCoresUptoRow : OpenClaim := { program := "ytgdlkhgfehclpaa", sum := "5f626e5d207cdc65ab2dabc91ba1ab29ff646fcf362aa70d316a58d69d7d68c2", func := "slope/slopelaw11.OrderCores", spec := "orderCores", unfollowed := true, recurses := true, apart := false, narrowed := true }
def OrderCoresUptoSaid : Prop := orderCoresUptoRow.holds Try.pinned (OpenSpec.upto orderCoresSpec)

/-- 'slopelaw11.OrderSets', WHERE WHAT IT READS IS OF BULK AT MOST 1048576: true; the input reads as it did. -/
def orderSetsUptoRow : OpenClaim := { program := "ytgdlkhgfehclpaa", sum := "5f626e5d207cdc65ab2dabc91ba1ab29ff646fcf362aa70d316a58d69d7d68c2", func := "slope/slopelaw11.OrderSets", spec := "orderSets", unfollowed := true, recurses := true, apart := false, narrowed := true }
def OrderSetsUptoSaid : Prop := orderSetsUptoRow.holds Try.pinned (OpenSpec.upto orderSetsSpec)

/-- 'slopelaw11.OrderKinds', WHERE WHAT IT READS IS OF BULK AT MOST 1048576: true; the input reads as it did. -/
def orderKindsUptoRow : OpenClaim := { program := "ytgdlkhgfehclpaa", sum := "5f626e5d207cdc65ab2dabc91ba1ab29ff646fcf362aa70d316a58d69d7d68c2", func := "slope/slopelaw11.OrderKinds", spec := "orderKinds", unfollowed := true, recurses := true, apart := false, narrowed := true }
def OrderKindsUptoSaid : Prop := orderKindsUptoRow.holds Try.pinned (OpenSpec.upto orderKindsSpec)

/-- 'slopelaw11.OrderChecks', WHERE WHAT IT READS IS OF BULK AT MOST 1048576: true; the input reads as it did. -/
def orderChecksUptoRow : OpenClaim := { program := "ytgdlkhgfehclpaa", sum := "5f626e5d207cdc65ab2dabc91ba1ab29ff646fcf362aa70d316a58d69d7d68c2", func := "slope/slopelaw11.OrderChecks", spec := "orderChecks", unfollowed := true, recurses := true, apart := false, narrowed := true }
def OrderChecksUptoSaid : Prop := orderChecksUptoRow.holds Try.pinned (OpenSpec.upto orderChecksSpec)

/-- 'slopelaw11.OrderBacks', WHERE WHAT IT READS IS OF BULK AT MOST 1048576: true; the input reads as it did. -/
def orderBacksUptoRow : OpenClaim := { program := "ytgdlkhgfehclpaa", sum := "5f626e5d207cdc65ab2dabc91ba1ab29ff646fcf362aa70d316a58d69d7d68c2", func := "slope/slopelaw11.OrderBacks", spec := "orderBacks", unfollowed := true, recurses := true, apart := false, narrowed := true }
def OrderBacksUptoSaid : Prop := orderBacksUptoRow.holds Try.pinned (OpenSpec.upto orderBacksSpec)

/-- 'slopelaw11.OrderWorth', WHERE WHAT IT READS IS OF BULK AT MOST 1048576: true; the input reads as it did. -/
def orderWorthUptoRow : OpenClaim := { program := "ytgdlkhgfehclpaa", sum := "5f626e5d207cdc65ab2dabc91ba1ab29ff646fcf362aa70d316a58d69d7d68c2", func := "slope/slopelaw11.OrderWorth", spec := "orderWorth", unfollowed := true, recurses := true, apart := false, narrowed := true }
def OrderWorthUptoSaid : Prop := orderWorthUptoRow.holds Try.pinned (OpenSpec.upto orderWorthSpec)

/-- 'slopelaw11.OrderNames', WHERE WHAT IT READS IS OF BULK AT MOST 1048576: true; the input reads as it did. -/
def orderNamesUptoRow : OpenClaim := { program := "ytgdlkhgfehclpaa", sum := "5f626e5d207cdc65ab2dabc91ba1ab29ff646fcf362aa70d316a58d69d7d68c2", func := "slope/slopelaw11.OrderNames", spec := "orderNames", unfollowed := true, recurses := true, apart := false, narrowed := true }
def OrderNamesUptoSaid : Prop := orderNamesUptoRow.holds Try.pinned (OpenSpec.upto orderNamesSpec)

end Rows
end Go.Proofs.Ytgdlkhgfehclpaa
