/-
  No cell of these rows narrows 'for every input' (looked for: loops, veiled, ifaces, maps, wideKeys, modest, calm, conditions, laid).
  DERIVED. THE GIVEN ROWS OF THIS SEAT. 8 by the template 'for every input the law returns true; each argument reads behind the call as it read before'; 0 by the template 'total and deterministic' (their statements: YtceopjolkapijaaTotals.lean).
  GIVEN WITH THE SEED: the statements are not yours to turn. If you find one false, say at which input.
  Laid BY PROGRAM, IN A SANDBOX (cutbox-rows.mjs): the forced cells as the released guide's own fill.sh prints them over the translation dbde1975f0dcf9d6… (all of the seat's roots in one cut). By AI agents, Wed Nov 11 2026. No macro, syntax, notation, axiom, sorry.
-/
import Derived.Test.YtceopjolkapijaaChecked
import GoSem.Claim
import GoSem.ClaimJoined
import GoSem.ClaimMapViews
import Derived.JoinedTies
import Derived.KernelRfl
namespace Go.Proofs.Ytceopjolkapijaa
/- THE CELL 'sum', in the pinned program and in every row, IS THE sha256 OF THE DUMP (.gsa) THAT YtceopjolkapijaaProg.lean LOADS. Nothing in Lean hashes anything: it is a label: what it is worth is what the hold of that sum in a sandbox is worth. -/
noncomputable def Try.pinned : Pinned := { name := "ytceopjolkapijaa", sum := "dbde1975f0dcf9d6159ccae2f343fe2676a79f9c32b20cfc4b37624e636e07e9", checked := Try.checked }
namespace Rows
def none {H : Type} : Left H := { results := [], args := [] }

/-- 'arbourlaw01.ShaMixes': WHATEVER THE INPUT: true; the input reads as it did. -/
def shaMixesSpec : ChangeSpec := { name := "shaMixes", fn := fun _ => fun
  | [d1, d2] => { results := [.lit (.bool true)], args := [d1, d2] }
  | _ => none }
def shaMixesRow : OpenClaim := { program := "ytceopjolkapijaa", sum := "dbde1975f0dcf9d6159ccae2f343fe2676a79f9c32b20cfc4b37624e636e07e9", func := "arbour/arbourlaw01.ShaMixes", spec := "shaMixes", inPlace := ["internal/abi.NoEscape", "internal/bytealg.MakeNoZero"], apart := false }
def ShaMixesSaid : Prop := shaMixesRow.holds Try.pinned (OpenSpec.ofChange shaMixesSpec)

/-- ITS FALSE NEIGHBOUR: 'it returns false'. Refute it at one input. -/
def shaMixesWrong : ChangeSpec := { name := "shaMixes", fn := fun _ => fun
  | [d1, d2] => { results := [.lit (.bool false)], args := [d1, d2] }
  | _ => none }
def ShaMixesWrongFalsely : Prop := shaMixesRow.holds Try.pinned (OpenSpec.ofChange shaMixesWrong)

/-- 'arbourlaw01.ShaWhole': WHATEVER THE INPUT: true; the input reads as it did. -/
def shaWholeSpec : ChangeSpec := { name := "shaWhole", fn := fun _ => fun
  | [d] => { results := [.lit (.bool true)], args := [d] }
  | _ => none }
def shaWholeRow : OpenClaim := { program := "ytceopjolkapijaa", sum := "dbde1975f0dcf9d6159ccae2f343fe2676a79f9c32b20cfc4b37624e636e07e9", func := "arbour/arbourlaw01.ShaWhole", spec := "shaWhole", inPlace := ["internal/abi.NoEscape", "internal/bytealg.MakeNoZero"], apart := false }
def ShaWholeSaid : Prop := shaWholeRow.holds Try.pinned (OpenSpec.ofChange shaWholeSpec)

/-- ITS FALSE NEIGHBOUR: 'it returns false'. Refute it at one input. -/
def shaWholeWrong : ChangeSpec := { name := "shaWhole", fn := fun _ => fun
  | [d] => { results := [.lit (.bool false)], args := [d] }
  | _ => none }
def ShaWholeWrongFalsely : Prop := shaWholeRow.holds Try.pinned (OpenSpec.ofChange shaWholeWrong)

/-- 'arbourlaw01.ShaCollides': WHATEVER THE INPUT: true; the input reads as it did. -/
def shaCollidesSpec : ChangeSpec := { name := "shaCollides", fn := fun _ => fun
  | [d1, d2] => { results := [.lit (.bool true)], args := [d1, d2] }
  | _ => none }
def shaCollidesRow : OpenClaim := { program := "ytceopjolkapijaa", sum := "dbde1975f0dcf9d6159ccae2f343fe2676a79f9c32b20cfc4b37624e636e07e9", func := "arbour/arbourlaw01.ShaCollides", spec := "shaCollides", inPlace := ["internal/abi.NoEscape", "internal/bytealg.MakeNoZero"], apart := false }
def ShaCollidesSaid : Prop := shaCollidesRow.holds Try.pinned (OpenSpec.ofChange shaCollidesSpec)

/-- ITS FALSE NEIGHBOUR: 'it returns false'. Refute it at one input. -/
def shaCollidesWrong : ChangeSpec := { name := "shaCollides", fn := fun _ => fun
  | [d1, d2] => { results := [.lit (.bool false)], args := [d1, d2] }
  | _ => none }
def ShaCollidesWrongFalsely : Prop := shaCollidesRow.holds Try.pinned (OpenSpec.ofChange shaCollidesWrong)

/-- 'arbourlaw01.ShaLists': WHATEVER THE INPUT: true; the input reads as it did. -/
def shaListsSpec : ChangeSpec := { name := "shaLists", fn := fun _ => fun
  | [d1, d2, d3] => { results := [.lit (.bool true)], args := [d1, d2, d3] }
  | _ => none }
def shaListsRow : OpenClaim := { program := "ytceopjolkapijaa", sum := "dbde1975f0dcf9d6159ccae2f343fe2676a79f9c32b20cfc4b37624e636e07e9", func := "arbour/arbourlaw01.ShaLists", spec := "shaLists", inPlace := ["internal/abi.NoEscape", "internal/bytealg.MakeNoZero"], apart := false }
def ShaListsSaid : Prop := shaListsRow.holds Try.pinned (OpenSpec.ofChange shaListsSpec)

/-- ITS FALSE NEIGHBOUR: 'it returns false'. Refute it at one input. -/
def shaListsWrong : ChangeSpec := { name := "shaLists", fn := fun _ => fun
  | [d1, d2, d3] => { results := [.lit (.bool false)], args := [d1, d2, d3] }
  | _ => none }
def ShaListsWrongFalsely : Prop := shaListsRow.holds Try.pinned (OpenSpec.ofChange shaListsWrong)

/-- 'arbourlaw02.MacOf': WHATEVER THE INPUT: true; the input reads as it did. -/
def macOfSpec : ChangeSpec := { name := "macOf", fn := fun _ => fun
  | [d1, d2] => { results := [.lit (.bool true)], args := [d1, d2] }
  | _ => none }
def macOfRow : OpenClaim := { program := "ytceopjolkapijaa", sum := "dbde1975f0dcf9d6159ccae2f343fe2676a79f9c32b20cfc4b37624e636e07e9", func := "arbour/arbourlaw02.MacOf", spec := "macOf", inPlace := ["internal/abi.NoEscape", "internal/bytealg.MakeNoZero"], apart := false }
def MacOfSaid : Prop := macOfRow.holds Try.pinned (OpenSpec.ofChange macOfSpec)

/-- ITS FALSE NEIGHBOUR: 'it returns false'. Refute it at one input. -/
def macOfWrong : ChangeSpec := { name := "macOf", fn := fun _ => fun
  | [d1, d2] => { results := [.lit (.bool false)], args := [d1, d2] }
  | _ => none }
def MacOfWrongFalsely : Prop := macOfRow.holds Try.pinned (OpenSpec.ofChange macOfWrong)

/-- 'arbourlaw02.MacKeys': WHATEVER THE INPUT: true; the input reads as it did. -/
def macKeysSpec : ChangeSpec := { name := "macKeys", fn := fun _ => fun
  | [d1, d2, d3] => { results := [.lit (.bool true)], args := [d1, d2, d3] }
  | _ => none }
def macKeysRow : OpenClaim := { program := "ytceopjolkapijaa", sum := "dbde1975f0dcf9d6159ccae2f343fe2676a79f9c32b20cfc4b37624e636e07e9", func := "arbour/arbourlaw02.MacKeys", spec := "macKeys", inPlace := ["internal/abi.NoEscape", "internal/bytealg.MakeNoZero"], apart := false }
def MacKeysSaid : Prop := macKeysRow.holds Try.pinned (OpenSpec.ofChange macKeysSpec)

/-- ITS FALSE NEIGHBOUR: 'it returns false'. Refute it at one input. -/
def macKeysWrong : ChangeSpec := { name := "macKeys", fn := fun _ => fun
  | [d1, d2, d3] => { results := [.lit (.bool false)], args := [d1, d2, d3] }
  | _ => none }
def MacKeysWrongFalsely : Prop := macKeysRow.holds Try.pinned (OpenSpec.ofChange macKeysWrong)

/-- 'arbourlaw02.MacChecks': WHATEVER THE INPUT: true; the input reads as it did. -/
def macChecksSpec : ChangeSpec := { name := "macChecks", fn := fun _ => fun
  | [d1, d2, d3] => { results := [.lit (.bool true)], args := [d1, d2, d3] }
  | _ => none }
def macChecksRow : OpenClaim := { program := "ytceopjolkapijaa", sum := "dbde1975f0dcf9d6159ccae2f343fe2676a79f9c32b20cfc4b37624e636e07e9", func := "arbour/arbourlaw02.MacChecks", spec := "macChecks", inPlace := ["internal/abi.NoEscape", "internal/bytealg.MakeNoZero"], apart := false }
def MacChecksSaid : Prop := macChecksRow.holds Try.pinned (OpenSpec.ofChange macChecksSpec)

/-- ITS FALSE NEIGHBOUR: 'it returns false'. Refute it at one input. -/
def macChecksWrong : ChangeSpec := { name := "macChecks", fn := fun _ => fun
  | [d1, d2, d3] => { results := [.lit (.bool false)], args := [d1, d2, d3] }
  | _ => none }
def MacChecksWrongFalsely : Prop := macChecksRow.holds Try.pinned (OpenSpec.ofChange macChecksWrong)

/-- 'arbourlaw02.MacTurned': WHATEVER THE INPUT: true; the input reads as it did. -/
def macTurnedSpec : ChangeSpec := { name := "macTurned", fn := fun _ => fun
  | [d1, d2, d3] => { results := [.lit (.bool true)], args := [d1, d2, d3] }
  | _ => none }
def macTurnedRow : OpenClaim := { program := "ytceopjolkapijaa", sum := "dbde1975f0dcf9d6159ccae2f343fe2676a79f9c32b20cfc4b37624e636e07e9", func := "arbour/arbourlaw02.MacTurned", spec := "macTurned", inPlace := ["internal/abi.NoEscape", "internal/bytealg.MakeNoZero"], apart := false }
def MacTurnedSaid : Prop := macTurnedRow.holds Try.pinned (OpenSpec.ofChange macTurnedSpec)

/-- ITS FALSE NEIGHBOUR: 'it returns false'. Refute it at one input. -/
def macTurnedWrong : ChangeSpec := { name := "macTurned", fn := fun _ => fun
  | [d1, d2, d3] => { results := [.lit (.bool false)], args := [d1, d2, d3] }
  | _ => none }
def MacTurnedWrongFalsely : Prop := macTurnedRow.holds Try.pinned (OpenSpec.ofChange macTurnedWrong)

/- THE SECOND FORM. 'bulk': how many values and letters a reading holds, each counted each time it is reached (what is shared counts as often as it is met; a slice's spare places count too). A statement '..UptoSaid' is the law's where the arguments, and the package variables that the reading takes, are together of bulk at most 1048576: NARROWER than '..Said'. Prove '..Said' where nothing that the law and all that it calls make is longer than what came in: it says more and counts as full. Else prove '..UptoSaid'. A law counts once. -/
mutual
def uptoBulk {H : Type} : DataW H → Nat
  | .lit (.string bytes) => bytes.length + 1
  | .lit _ => 1
  | .nil => 1
  | .ptr d => uptoBulk d + 1
  | .slice elems spare => uptoBulkAll elems + uptoBulkAll spare + 1
  | .agg parts => uptoBulkAll parts + 1
  | .iface _ d => uptoBulk d + 1
  | .map entries => uptoBulkEntries entries + 1
  | .held _ => 1
def uptoBulkAll {H : Type} : List (DataW H) → Nat
  | [] => 0
  | d :: r => uptoBulk d + uptoBulkAll r
def uptoBulkEntries {H : Type} : List (Lit × DataW H) → Nat
  | [] => 0
  | x :: r => uptoBulkEntry x + uptoBulkEntries r
def uptoBulkEntry {H : Type} : Lit × DataW H → Nat
  | (.string bytes, d) => bytes.length + uptoBulk d + 1
  | (_, d) => uptoBulk d + 1
 end
def uptoSmall : (H : Type) → List (DataW H) → Bool := fun _ ds => decide (uptoBulkAll ds ≤ 1048576)
def OpenSpec.upto (s : _root_.Go.ChangeSpec) : _root_.Go.OpenSpec := { _root_.Go.OpenSpec.ofChange s with cond := some uptoSmall }

/-- 'arbourlaw01.ShaMixes', WHERE WHAT IT READS IS OF BULK AT MOST 1048576: true; the input reads as it did. -/
def shaMixesUptoRow : OpenClaim := { program := "ytceopjolkapijaa", sum := "dbde1975f0dcf9d6159ccae2f343fe2676a79f9c32b20cfc4b37624e636e07e9", func := "arbour/arbourlaw01.ShaMixes", spec := "shaMixes", inPlace := ["internal/abi.NoEscape", "internal/bytealg.MakeNoZero"], apart := false, narrowed := true }
def ShaMixesUptoSaid : Prop := shaMixesUptoRow.holds Try.pinned (OpenSpec.upto shaMixesSpec)

/-- 'arbourlaw01.ShaWhole', WHERE WHAT IT READS IS OF BULK AT MOST 1048576: true; the input reads as it did. -/
def shaWholeUptoRow : OpenClaim := { program := "ytceopjolkapijaa", sum := "dbde1975f0dcf9d6159ccae2f343fe2676a79f9c32b20cfc4b37624e636e07e9", func := "arbour/arbourlaw01.ShaWhole", spec := "shaWhole", inPlace := ["internal/abi.NoEscape", "internal/bytealg.MakeNoZero"], apart := false, narrowed := true }
def ShaWholeUptoSaid : Prop := shaWholeUptoRow.holds Try.pinned (OpenSpec.upto shaWholeSpec)

/-- 'arbourlaw01.ShaCollides', WHERE WHAT IT READS IS OF BULK AT MOST 1048576: true; the input reads as it did. -/
def shaCollidesUptoRow : OpenClaim := { program := "ytceopjolkapijaa", sum := "dbde1975f0dcf9d6159ccae2f343fe2676a79f9c32b20cfc4b37624e636e07e9", func := "arbour/arbourlaw01.ShaCollides", spec := "shaCollides", inPlace := ["internal/abi.NoEscape", "internal/bytealg.MakeNoZero"], apart := false, narrowed := true }
def ShaCollidesUptoSaid : Prop := shaCollidesUptoRow.holds Try.pinned (OpenSpec.upto shaCollidesSpec)

/-- 'arbourlaw01.ShaLists', WHERE WHAT IT READS IS OF BULK AT MOST 1048576: true; the input reads as it did. -/
def shaListsUptoRow : OpenClaim := { program := "ytceopjolkapijaa", sum := "dbde1975f0dcf9d6159ccae2f343fe2676a79f9c32b20cfc4b37624e636e07e9", func := "arbour/arbourlaw01.ShaLists", spec := "shaLists", inPlace := ["internal/abi.NoEscape", "internal/bytealg.MakeNoZero"], apart := false, narrowed := true }
def ShaListsUptoSaid : Prop := shaListsUptoRow.holds Try.pinned (OpenSpec.upto shaListsSpec)

/-- 'arbourlaw02.MacOf', WHERE WHAT IT READS IS OF BULK AT MOST 1048576: true; the input reads as it did. -/
def macOfUptoRow : OpenClaim := { program := "ytceopjolkapijaa", sum := "dbde1975f0dcf9d6159ccae2f343fe2676a79f9c32b20cfc4b37624e636e07e9", func := "arbour/arbourlaw02.MacOf", spec := "macOf", inPlace := ["internal/abi.NoEscape", "internal/bytealg.MakeNoZero"], apart := false, narrowed := true }
def MacOfUptoSaid : Prop := macOfUptoRow.holds Try.pinned (OpenSpec.upto macOfSpec)

/-- 'arbourlaw02.MacKeys', WHERE WHAT IT READS IS OF BULK AT MOST 1048576: true; the input reads as it did. -/
def macKeysUptoRow : OpenClaim := { program := "ytceopjolkapijaa", sum := "dbde1975f0dcf9d6159ccae2f343fe2676a79f9c32b20cfc4b37624e636e07e9", func := "arbour/arbourlaw02.MacKeys", spec := "macKeys", inPlace := ["internal/abi.NoEscape", "internal/bytealg.MakeNoZero"], apart := false, narrowed := true }
def MacKeysUptoSaid : Prop := macKeysUptoRow.holds Try.pinned (OpenSpec.upto macKeysSpec)

/-- 'arbourlaw02.MacChecks', WHERE WHAT IT READS IS OF BULK AT MOST 1048576: true; the input reads as it did. -/
def macChecksUptoRow : OpenClaim := { program := "ytceopjolkapijaa", sum := "dbde1975f0dcf9d6159ccae2f343fe2676a79f9c32b20cfc4b37624e636e07e9", func := "arbour/arbourlaw02.MacChecks", spec := "macChecks", inPlace := ["internal/abi.NoEscape", "internal/bytealg.MakeNoZero"], apart := false, narrowed := true }
def MacChecksUptoSaid : Prop := macChecksUptoRow.holds Try.pinned (OpenSpec.upto macChecksSpec)

/-- 'arbourlaw02.MacTurned', WHERE WHAT IT READS IS OF BULK AT MOST 1048576: true; the input reads as it did. -/
def macTurnedUptoRow : OpenClaim := { program := "ytceopjolkapijaa", sum := "dbde1975f0dcf9d6159ccae2f343fe2676a79f9c32b20cfc4b37624e636e07e9", func := "arbour/arbourlaw02.MacTurned", spec := "macTurned", inPlace := ["internal/abi.NoEscape", "internal/bytealg.MakeNoZero"], apart := false, narrowed := true }
def MacTurnedUptoSaid : Prop := macTurnedUptoRow.holds Try.pinned (OpenSpec.upto macTurnedSpec)

end Rows
end Go.Proofs.Ytceopjolkapijaa
