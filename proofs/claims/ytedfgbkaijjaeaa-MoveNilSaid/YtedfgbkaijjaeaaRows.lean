/-
  No cell of these rows narrows 'for every input' (looked for: loops, veiled, ifaces, maps, wideKeys, modest, calm, conditions, laid).
  DERIVED. THE GIVEN ROWS OF THIS SEAT. 6 by the template 'for every input the law returns true; each argument reads behind the call as it read before'; 0 by the template 'total and deterministic' (their statements: YtedfgbkaijjaeaaTotals.lean).
  GIVEN WITH THE SEED: the statements are not yours to turn. If you find one false, say at which input.
  Laid BY PROGRAM, IN A SANDBOX (cutbox-rows.mjs): the forced cells as the released guide's own fill.sh prints them over the translation fa24f663f3b34dc7… (all of the seat's roots in one cut). By AI agents, Wed Nov 11 2026. No macro, syntax, notation, axiom, sorry.
-/
import Derived.Test.YtedfgbkaijjaeaaChecked
import GoSem.Claim
import GoSem.ClaimJoined
import GoSem.ClaimMapViews
import Derived.JoinedTies
import Derived.KernelRfl
namespace Go.Proofs.Ytedfgbkaijjaeaa
/- THE CELL 'sum', in the pinned program and in every row, IS THE sha256 OF THE DUMP (.gsa) THAT YtedfgbkaijjaeaaProg.lean LOADS. Nothing in Lean hashes anything: it is a label: what it is worth is what the hold of that sum in a sandbox is worth. -/
noncomputable def Try.pinned : Pinned := { name := "ytedfgbkaijjaeaa", sum := "fa24f663f3b34dc777c0a9fe53b8cbe95d6ab359b41ddf312a40c3ea249d2f32", checked := Try.checked }
namespace Rows
def none {H : Type} : Left H := { results := [], args := [] }

/-- 'arbourlaw13.MoveOrders': WHATEVER THE INPUT: true; the input reads as it did. -/
def moveOrdersSpec : ChangeSpec := { name := "moveOrders", fn := fun _ => fun
  | [d1, d2] => { results := [.lit (.bool true)], args := [d1, d2] }
  | _ => none }
def moveOrdersRow : OpenClaim := { program := "ytedfgbkaijjaeaa", sum := "fa24f663f3b34dc777c0a9fe53b8cbe95d6ab359b41ddf312a40c3ea249d2f32", func := "arbour/arbourlaw13.MoveOrders", spec := "moveOrders", inPlace := ["internal/bytealg.abigen_runtime_cmpstring", "slices.overlaps[uint64]", "slices.overlaps[arbour/move.done]"], unfollowed := true, recurses := true, apart := false }
def MoveOrdersSaid : Prop := moveOrdersRow.holds Try.pinned (OpenSpec.ofChange moveOrdersSpec)

/-- ITS FALSE NEIGHBOUR: 'it returns false'. Refute it at one input. -/
def moveOrdersWrong : ChangeSpec := { name := "moveOrders", fn := fun _ => fun
  | [d1, d2] => { results := [.lit (.bool false)], args := [d1, d2] }
  | _ => none }
def MoveOrdersWrongFalsely : Prop := moveOrdersRow.holds Try.pinned (OpenSpec.ofChange moveOrdersWrong)

/-- 'arbourlaw13.MoveTrash': WHATEVER THE INPUT: true; the input reads as it did. -/
def moveTrashSpec : ChangeSpec := { name := "moveTrash", fn := fun _ => fun
  | [d1, d2] => { results := [.lit (.bool true)], args := [d1, d2] }
  | _ => none }
def moveTrashRow : OpenClaim := { program := "ytedfgbkaijjaeaa", sum := "fa24f663f3b34dc777c0a9fe53b8cbe95d6ab359b41ddf312a40c3ea249d2f32", func := "arbour/arbourlaw13.MoveTrash", spec := "moveTrash", inPlace := ["internal/bytealg.abigen_runtime_cmpstring", "slices.overlaps[uint64]", "slices.overlaps[arbour/move.done]"], unfollowed := true, recurses := true, apart := false }
def MoveTrashSaid : Prop := moveTrashRow.holds Try.pinned (OpenSpec.ofChange moveTrashSpec)

/-- ITS FALSE NEIGHBOUR: 'it returns false'. Refute it at one input. -/
def moveTrashWrong : ChangeSpec := { name := "moveTrash", fn := fun _ => fun
  | [d1, d2] => { results := [.lit (.bool false)], args := [d1, d2] }
  | _ => none }
def MoveTrashWrongFalsely : Prop := moveTrashRow.holds Try.pinned (OpenSpec.ofChange moveTrashWrong)

/-- 'arbourlaw10.StoreRefuses': WHATEVER THE INPUT: true; the input reads as it did. -/
def storeRefusesSpec : ChangeSpec := { name := "storeRefuses", fn := fun _ => fun
  | [d1, d2] => { results := [.lit (.bool true)], args := [d1, d2] }
  | _ => none }
def storeRefusesRow : OpenClaim := { program := "ytedfgbkaijjaeaa", sum := "fa24f663f3b34dc777c0a9fe53b8cbe95d6ab359b41ddf312a40c3ea249d2f32", func := "arbour/arbourlaw10.StoreRefuses", spec := "storeRefuses", inPlace := ["internal/abi.NoEscape", "internal/bytealg.MakeNoZero"], unfollowed := true, recurses := true, apart := false }
def StoreRefusesSaid : Prop := storeRefusesRow.holds Try.pinned (OpenSpec.ofChange storeRefusesSpec)

/-- ITS FALSE NEIGHBOUR: 'it returns false'. Refute it at one input. -/
def storeRefusesWrong : ChangeSpec := { name := "storeRefuses", fn := fun _ => fun
  | [d1, d2] => { results := [.lit (.bool false)], args := [d1, d2] }
  | _ => none }
def StoreRefusesWrongFalsely : Prop := storeRefusesRow.holds Try.pinned (OpenSpec.ofChange storeRefusesWrong)

/-- 'arbourlaw13.MoveTurns': WHATEVER THE INPUT: true; the input reads as it did. -/
def moveTurnsSpec : ChangeSpec := { name := "moveTurns", fn := fun _ => fun
  | [d1, d2] => { results := [.lit (.bool true)], args := [d1, d2] }
  | _ => none }
def moveTurnsRow : OpenClaim := { program := "ytedfgbkaijjaeaa", sum := "fa24f663f3b34dc777c0a9fe53b8cbe95d6ab359b41ddf312a40c3ea249d2f32", func := "arbour/arbourlaw13.MoveTurns", spec := "moveTurns", inPlace := ["internal/bytealg.abigen_runtime_cmpstring", "slices.overlaps[uint64]", "slices.overlaps[arbour/move.done]"], unfollowed := true, recurses := true, apart := false }
def MoveTurnsSaid : Prop := moveTurnsRow.holds Try.pinned (OpenSpec.ofChange moveTurnsSpec)

/-- ITS FALSE NEIGHBOUR: 'it returns false'. Refute it at one input. -/
def moveTurnsWrong : ChangeSpec := { name := "moveTurns", fn := fun _ => fun
  | [d1, d2] => { results := [.lit (.bool false)], args := [d1, d2] }
  | _ => none }
def MoveTurnsWrongFalsely : Prop := moveTurnsRow.holds Try.pinned (OpenSpec.ofChange moveTurnsWrong)

/-- 'arbourlaw13.MoveNil': WHATEVER THE INPUT: true; the input reads as it did. -/
def moveNilSpec : ChangeSpec := { name := "moveNil", fn := fun _ => fun
  | [d1, d2] => { results := [.lit (.bool true)], args := [d1, d2] }
  | _ => none }
def moveNilRow : OpenClaim := { program := "ytedfgbkaijjaeaa", sum := "fa24f663f3b34dc777c0a9fe53b8cbe95d6ab359b41ddf312a40c3ea249d2f32", func := "arbour/arbourlaw13.MoveNil", spec := "moveNil", inPlace := ["internal/bytealg.abigen_runtime_cmpstring", "slices.overlaps[uint64]", "slices.overlaps[arbour/move.done]"], unfollowed := true, recurses := true, apart := false }
def MoveNilSaid : Prop := moveNilRow.holds Try.pinned (OpenSpec.ofChange moveNilSpec)

/-- ITS FALSE NEIGHBOUR: 'it returns false'. Refute it at one input. -/
def moveNilWrong : ChangeSpec := { name := "moveNil", fn := fun _ => fun
  | [d1, d2] => { results := [.lit (.bool false)], args := [d1, d2] }
  | _ => none }
def MoveNilWrongFalsely : Prop := moveNilRow.holds Try.pinned (OpenSpec.ofChange moveNilWrong)

/-- 'arbourlaw10.StoreNil': WHATEVER THE INPUT: true; the input reads as it did. -/
def storeNilSpec : ChangeSpec := { name := "storeNil", fn := fun _ => fun
  | [d] => { results := [.lit (.bool true)], args := [d] }
  | _ => none }
def storeNilRow : OpenClaim := { program := "ytedfgbkaijjaeaa", sum := "fa24f663f3b34dc777c0a9fe53b8cbe95d6ab359b41ddf312a40c3ea249d2f32", func := "arbour/arbourlaw10.StoreNil", spec := "storeNil", inPlace := ["internal/abi.NoEscape", "internal/bytealg.MakeNoZero"], unfollowed := true, recurses := true, apart := false }
def StoreNilSaid : Prop := storeNilRow.holds Try.pinned (OpenSpec.ofChange storeNilSpec)

/-- ITS FALSE NEIGHBOUR: 'it returns false'. Refute it at one input. -/
def storeNilWrong : ChangeSpec := { name := "storeNil", fn := fun _ => fun
  | [d] => { results := [.lit (.bool false)], args := [d] }
  | _ => none }
def StoreNilWrongFalsely : Prop := storeNilRow.holds Try.pinned (OpenSpec.ofChange storeNilWrong)

/- THE SECOND FORM. 'bulk': how many values and letters a reading holds, each counted each time it is reached (what is shared counts as often as it is met; a slice's spare places count too). A statement '..UptoSaid' is the law's where the arguments, and the package variables that the reading takes, are together of bulk at most 1048576: NARROWER than '..Said'. Prove '..Said' where nothing that the law and all that it calls make is longer than what came in: it says more and counts as full. Else prove '..UptoSaid'. A law counts once. -/
mutual
def uptoBulk {H : Type} : DataW H → Nat
  | .lit (.string bytes) => bytes.length + 1
  | .lit _ => 1
  | .nil => 1
  | .ptr d => uptoBulk d + 1
  | .slice elems spare => uptoBulkAll elems + uptoBulkAll spare + 1
  | .agg parts => uptoBulkAll parts + 1
  | .iface _ d => uptoBulk d + 1
  | .map entries => uptoBulkEntries entries + 1
  | .held _ => 1
def uptoBulkAll {H : Type} : List (DataW H) → Nat
  | [] => 0
  | d :: r => uptoBulk d + uptoBulkAll r
def uptoBulkEntries {H : Type} : List (Lit × DataW H) → Nat
  | [] => 0
  | x :: r => uptoBulkEntry x + uptoBulkEntries r
def uptoBulkEntry {H : Type} : Lit × DataW H → Nat
  | (.string bytes, d) => bytes.length + uptoBulk d + 1
  | (_, d) => uptoBulk d + 1
 end
def uptoSmall : (H : Type) → List (DataW H) → Bool := fun _ ds => decide (uptoBulkAll ds ≤ 1048576)
def OpenSpec.upto (s : _root_.Go.ChangeSpec) : _root_.Go.OpenSpec := { _root_.Go.OpenSpec.ofChange s with cond := some uptoSmall }

/-- 'arbourlaw13.MoveOrders', WHERE WHAT IT READS IS OF BULK AT MOST 1048576: true; the input reads as it did. -/
def moveOrdersUptoRow : OpenClaim := { program := "ytedfgbkaijjaeaa", sum := "fa24f663f3b34dc777c0a9fe53b8cbe95d6ab359b41ddf312a40c3ea249d2f32", func := "arbour/arbourlaw13.MoveOrders", spec := "moveOrders", inPlace := ["internal/bytealg.abigen_runtime_cmpstring", "slices.overlaps[uint64]", "slices.overlaps[arbour/move.done]"], unfollowed := true, recurses := true, apart := false, narrowed := true }
def MoveOrdersUptoSaid : Prop := moveOrdersUptoRow.holds Try.pinned (OpenSpec.upto moveOrdersSpec)

/-- 'arbourlaw13.MoveTrash', WHERE WHAT IT READS IS OF BULK AT MOST 1048576: true; the input reads as it did. -/
def moveTrashUptoRow : OpenClaim := { program := "ytedfgbkaijjaeaa", sum := "fa24f663f3b34dc777c0a9fe53b8cbe95d6ab359b41ddf312a40c3ea249d2f32", func := "arbour/arbourlaw13.MoveTrash", spec := "moveTrash", inPlace := ["internal/bytealg.abigen_runtime_cmpstring", "slices.overlaps[uint64]", "slices.overlaps[arbour/move.done]"], unfollowed := true, recurses := true, apart := false, narrowed := true }
def MoveTrashUptoSaid : Prop := moveTrashUptoRow.holds Try.pinned (OpenSpec.upto moveTrashSpec)

/-- 'arbourlaw10.StoreRefuses', WHERE WHAT IT READS IS OF BULK AT MOST 1048576: true; the input reads as it did. -/
def storeRefusesUptoRow : OpenClaim := { program := "ytedfgbkaijjaeaa", sum := "fa24f663f3b34dc777c0a9fe53b8cbe95d6ab359b41ddf312a40c3ea249d2f32", func := "arbour/arbourlaw10.StoreRefuses", spec := "storeRefuses", inPlace := ["internal/abi.NoEscape", "internal/bytealg.MakeNoZero"], unfollowed := true, recurses := true, apart := false, narrowed := true }
def StoreRefusesUptoSaid : Prop := storeRefusesUptoRow.holds Try.pinned (OpenSpec.upto storeRefusesSpec)

/-- 'arbourlaw13.MoveTurns', WHERE WHAT IT READS IS OF BULK AT MOST 1048576: true; the input reads as it did. -/
def moveTurnsUptoRow : OpenClaim := { program := "ytedfgbkaijjaeaa", sum := "fa24f663f3b34dc777c0a9fe53b8cbe95d6ab359b41ddf312a40c3ea249d2f32", func := "arbour/arbourlaw13.MoveTurns", spec := "moveTurns", inPlace := ["internal/bytealg.abigen_runtime_cmpstring", "slices.overlaps[uint64]", "slices.overlaps[arbour/move.done]"], unfollowed := true, recurses := true, apart := false, narrowed := true }
def MoveTurnsUptoSaid : Prop := moveTurnsUptoRow.holds Try.pinned (OpenSpec.upto moveTurnsSpec)

/-- 'arbourlaw13.MoveNil', WHERE WHAT IT READS IS OF BULK AT MOST 1048576: true; the input reads as it did. -/
def moveNilUptoRow : OpenClaim := { program := "ytedfgbkaijjaeaa", sum := "fa24f663f3b34dc777c0a9fe53b8cbe95d6ab359b41ddf312a40c3ea249d2f32", func := "arbour/arbourlaw13.MoveNil", spec := "moveNil", inPlace := ["internal/bytealg.abigen_runtime_cmpstring", "slices.overlaps[uint64]", "slices.overlaps[arbour/move.done]"], unfollowed := true, recurses := true, apart := false, narrowed := true }
def MoveNilUptoSaid : Prop := moveNilUptoRow.holds Try.pinned (OpenSpec.upto moveNilSpec)

/-- 'arbourlaw10.StoreNil', WHERE WHAT IT READS IS OF BULK AT MOST 1048576: true; the input reads as it did. -/
def storeNilUptoRow : OpenClaim := { program := "ytedfgbkaijjaeaa", sum := "fa24f663f3b34dc777c0a9fe53b8cbe95d6ab359b41ddf312a40c3ea249d2f32", func := "arbour/arbourlaw10.StoreNil", spec := "storeNil", inPlace := ["internal/abi.NoEscape", "internal/bytealg.MakeNoZero"], unfollowed := true, recurses := true, apart := false, narrowed := true }
def StoreNilUptoSaid : Prop := storeNilUptoRow.holds Try.pinned (OpenSpec.upto storeNilSpec)

end Rows
end Go.Proofs.Ytedfgbkaijjaeaa
