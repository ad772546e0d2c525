/-
  No cell of these rows narrows 'for every input' (looked for: loops, veiled, ifaces, maps, wideKeys, modest, calm, conditions, laid).
  DERIVED. THE GIVEN ROWS OF THIS SEAT. 12 by the template 'for every input the law returns true; each argument reads behind the call as it read before'; 0 by the template 'total and deterministic' (their statements: YtlefmnoaejpllaaTotals.lean).
  GIVEN WITH THE SEED: the statements are not yours to turn. If you find one false, say at which input.
  Laid BY PROGRAM, IN A SANDBOX (cutbox-rows.mjs): the forced cells as the released guide's own fill.sh prints them over the translation bf7c9471d6520a49… (all of the seat's roots in one cut). By AI agents, Wed Nov 11 2026. No macro, syntax, notation, axiom, sorry.
-/
import Derived.Test.YtlefmnoaejpllaaChecked
import GoSem.Claim
import GoSem.ClaimJoined
import GoSem.ClaimMapViews
import Derived.JoinedTies
import Derived.KernelRfl
namespace Go.Proofs.Ytlefmnoaejpllaa
/- THE CELL 'sum', in the pinned program and in every row, IS THE sha256 OF THE DUMP (.gsa) THAT YtlefmnoaejpllaaProg.lean LOADS. Nothing in Lean hashes anything: it is a label: what it is worth is what the hold of that sum in a sandbox is worth. -/
noncomputable def Try.pinned : Pinned := { name := "ytlefmnoaejpllaa", sum := "bf7c9471d6520a490e69e2ef2d34dbe28a8e9c5d884610d9f1fcdc3f1c901dee", checked := Try.checked }
namespace Rows
def none {H : Type} : Left H := { results := [], args := [] }

/-- 'arbourlaw04.StampThings': WHATEVER THE INPUT: true; the input reads as it did. -/
def stampThingsSpec : ChangeSpec := { name := "stampThings", fn := fun _ => fun
  | [d] => { results := [.lit (.bool true)], args := [d] }
  | _ => none }
def stampThingsRow : OpenClaim := { program := "ytlefmnoaejpllaa", sum := "bf7c9471d6520a490e69e2ef2d34dbe28a8e9c5d884610d9f1fcdc3f1c901dee", func := "arbour/arbourlaw04.StampThings", spec := "stampThings", apart := false }
def StampThingsSaid : Prop := stampThingsRow.holds Try.pinned (OpenSpec.ofChange stampThingsSpec)

/-- ITS FALSE NEIGHBOUR: 'it returns false'. Refute it at one input. -/
def stampThingsWrong : ChangeSpec := { name := "stampThings", fn := fun _ => fun
  | [d] => { results := [.lit (.bool false)], args := [d] }
  | _ => none }
def StampThingsWrongFalsely : Prop := stampThingsRow.holds Try.pinned (OpenSpec.ofChange stampThingsWrong)

/-- 'arbourlaw04.StampClocks': WHATEVER THE INPUT: true; the input reads as it did. -/
def stampClocksSpec : ChangeSpec := { name := "stampClocks", fn := fun _ => fun
  | [d1, d2, d3] => { results := [.lit (.bool true)], args := [d1, d2, d3] }
  | _ => none }
def stampClocksRow : OpenClaim := { program := "ytlefmnoaejpllaa", sum := "bf7c9471d6520a490e69e2ef2d34dbe28a8e9c5d884610d9f1fcdc3f1c901dee", func := "arbour/arbourlaw04.StampClocks", spec := "stampClocks", apart := false }
def StampClocksSaid : Prop := stampClocksRow.holds Try.pinned (OpenSpec.ofChange stampClocksSpec)

/-- ITS FALSE NEIGHBOUR: 'it returns false'. Refute it at one input. -/
def stampClocksWrong : ChangeSpec := { name := "stampClocks", fn := fun _ => fun
  | [d1, d2, d3] => { results := [.lit (.bool false)], args := [d1, d2, d3] }
  | _ => none }
def StampClocksWrongFalsely : Prop := stampClocksRow.holds Try.pinned (OpenSpec.ofChange stampClocksWrong)

/-- 'arbourlaw04.StampRises': WHATEVER THE INPUT: true; the input reads as it did. -/
def stampRisesSpec : ChangeSpec := { name := "stampRises", fn := fun _ => fun
  | [d1, d2] => { results := [.lit (.bool true)], args := [d1, d2] }
  | _ => none }
def stampRisesRow : OpenClaim := { program := "ytlefmnoaejpllaa", sum := "bf7c9471d6520a490e69e2ef2d34dbe28a8e9c5d884610d9f1fcdc3f1c901dee", func := "arbour/arbourlaw04.StampRises", spec := "stampRises", apart := false }
def StampRisesSaid : Prop := stampRisesRow.holds Try.pinned (OpenSpec.ofChange stampRisesSpec)

/-- ITS FALSE NEIGHBOUR: 'it returns false'. Refute it at one input. -/
def stampRisesWrong : ChangeSpec := { name := "stampRises", fn := fun _ => fun
  | [d1, d2] => { results := [.lit (.bool false)], args := [d1, d2] }
  | _ => none }
def StampRisesWrongFalsely : Prop := stampRisesRow.holds Try.pinned (OpenSpec.ofChange stampRisesWrong)

/-- 'arbourlaw04.StampOrders': WHATEVER THE INPUT: true; the input reads as it did. -/
def stampOrdersSpec : ChangeSpec := { name := "stampOrders", fn := fun _ => fun
  | [d1, d2] => { results := [.lit (.bool true)], args := [d1, d2] }
  | _ => none }
def stampOrdersRow : OpenClaim := { program := "ytlefmnoaejpllaa", sum := "bf7c9471d6520a490e69e2ef2d34dbe28a8e9c5d884610d9f1fcdc3f1c901dee", func := "arbour/arbourlaw04.StampOrders", spec := "stampOrders", apart := false }
def StampOrdersSaid : Prop := stampOrdersRow.holds Try.pinned (OpenSpec.ofChange stampOrdersSpec)

/-- ITS FALSE NEIGHBOUR: 'it returns false'. Refute it at one input. -/
def stampOrdersWrong : ChangeSpec := { name := "stampOrders", fn := fun _ => fun
  | [d1, d2] => { results := [.lit (.bool false)], args := [d1, d2] }
  | _ => none }
def StampOrdersWrongFalsely : Prop := stampOrdersRow.holds Try.pinned (OpenSpec.ofChange stampOrdersWrong)

/-- 'arbourlaw03.WireLetters': WHATEVER THE INPUT: true; the input reads as it did. -/
def wireLettersSpec : ChangeSpec := { name := "wireLetters", fn := fun _ => fun
  | [d1, d2] => { results := [.lit (.bool true)], args := [d1, d2] }
  | _ => none }
def wireLettersRow : OpenClaim := { program := "ytlefmnoaejpllaa", sum := "bf7c9471d6520a490e69e2ef2d34dbe28a8e9c5d884610d9f1fcdc3f1c901dee", func := "arbour/arbourlaw03.WireLetters", spec := "wireLetters", inPlace := ["internal/bytealg.IndexByteString", "internal/abi.NoEscape"], apart := false }
def WireLettersSaid : Prop := wireLettersRow.holds Try.pinned (OpenSpec.ofChange wireLettersSpec)

/-- ITS FALSE NEIGHBOUR: 'it returns false'. Refute it at one input. -/
def wireLettersWrong : ChangeSpec := { name := "wireLetters", fn := fun _ => fun
  | [d1, d2] => { results := [.lit (.bool false)], args := [d1, d2] }
  | _ => none }
def WireLettersWrongFalsely : Prop := wireLettersRow.holds Try.pinned (OpenSpec.ofChange wireLettersWrong)

/-- 'arbourlaw03.WireChecks': WHATEVER THE INPUT: true; the input reads as it did. -/
def wireChecksSpec : ChangeSpec := { name := "wireChecks", fn := fun _ => fun
  | [d] => { results := [.lit (.bool true)], args := [d] }
  | _ => none }
def wireChecksRow : OpenClaim := { program := "ytlefmnoaejpllaa", sum := "bf7c9471d6520a490e69e2ef2d34dbe28a8e9c5d884610d9f1fcdc3f1c901dee", func := "arbour/arbourlaw03.WireChecks", spec := "wireChecks", inPlace := ["internal/abi.NoEscape", "internal/bytealg.IndexByteString"], apart := false }
def WireChecksSaid : Prop := wireChecksRow.holds Try.pinned (OpenSpec.ofChange wireChecksSpec)

/-- ITS FALSE NEIGHBOUR: 'it returns false'. Refute it at one input. -/
def wireChecksWrong : ChangeSpec := { name := "wireChecks", fn := fun _ => fun
  | [d] => { results := [.lit (.bool false)], args := [d] }
  | _ => none }
def WireChecksWrongFalsely : Prop := wireChecksRow.holds Try.pinned (OpenSpec.ofChange wireChecksWrong)

/-- 'arbourlaw03.WireMosts': WHATEVER THE INPUT: true; the input reads as it did. -/
def wireMostsSpec : ChangeSpec := { name := "wireMosts", fn := fun _ => fun
  | [d1, d2] => { results := [.lit (.bool true)], args := [d1, d2] }
  | _ => none }
def wireMostsRow : OpenClaim := { program := "ytlefmnoaejpllaa", sum := "bf7c9471d6520a490e69e2ef2d34dbe28a8e9c5d884610d9f1fcdc3f1c901dee", func := "arbour/arbourlaw03.WireMosts", spec := "wireMosts", inPlace := ["internal/bytealg.IndexByteString", "internal/abi.NoEscape"], apart := false }
def WireMostsSaid : Prop := wireMostsRow.holds Try.pinned (OpenSpec.ofChange wireMostsSpec)

/-- ITS FALSE NEIGHBOUR: 'it returns false'. Refute it at one input. -/
def wireMostsWrong : ChangeSpec := { name := "wireMosts", fn := fun _ => fun
  | [d1, d2] => { results := [.lit (.bool false)], args := [d1, d2] }
  | _ => none }
def WireMostsWrongFalsely : Prop := wireMostsRow.holds Try.pinned (OpenSpec.ofChange wireMostsWrong)

/-- 'arbourlaw03.WireGets': WHATEVER THE INPUT: true; the input reads as it did. -/
def wireGetsSpec : ChangeSpec := { name := "wireGets", fn := fun _ => fun
  | [d1, d2] => { results := [.lit (.bool true)], args := [d1, d2] }
  | _ => none }
def wireGetsRow : OpenClaim := { program := "ytlefmnoaejpllaa", sum := "bf7c9471d6520a490e69e2ef2d34dbe28a8e9c5d884610d9f1fcdc3f1c901dee", func := "arbour/arbourlaw03.WireGets", spec := "wireGets", inPlace := ["internal/bytealg.IndexByteString", "internal/abi.NoEscape"], apart := false }
def WireGetsSaid : Prop := wireGetsRow.holds Try.pinned (OpenSpec.ofChange wireGetsSpec)

/-- ITS FALSE NEIGHBOUR: 'it returns false'. Refute it at one input. -/
def wireGetsWrong : ChangeSpec := { name := "wireGets", fn := fun _ => fun
  | [d1, d2] => { results := [.lit (.bool false)], args := [d1, d2] }
  | _ => none }
def WireGetsWrongFalsely : Prop := wireGetsRow.holds Try.pinned (OpenSpec.ofChange wireGetsWrong)

/-- 'arbourlaw03.WireFraming': WHATEVER THE INPUT: true; the input reads as it did. -/
def wireFramingSpec : ChangeSpec := { name := "wireFraming", fn := fun _ => fun
  | [d1, d2, d3] => { results := [.lit (.bool true)], args := [d1, d2, d3] }
  | _ => none }
def wireFramingRow : OpenClaim := { program := "ytlefmnoaejpllaa", sum := "bf7c9471d6520a490e69e2ef2d34dbe28a8e9c5d884610d9f1fcdc3f1c901dee", func := "arbour/arbourlaw03.WireFraming", spec := "wireFraming", inPlace := ["internal/abi.NoEscape", "internal/bytealg.IndexByteString"], apart := false }
def WireFramingSaid : Prop := wireFramingRow.holds Try.pinned (OpenSpec.ofChange wireFramingSpec)

/-- ITS FALSE NEIGHBOUR: 'it returns false'. Refute it at one input. -/
def wireFramingWrong : ChangeSpec := { name := "wireFraming", fn := fun _ => fun
  | [d1, d2, d3] => { results := [.lit (.bool false)], args := [d1, d2, d3] }
  | _ => none }
def WireFramingWrongFalsely : Prop := wireFramingRow.holds Try.pinned (OpenSpec.ofChange wireFramingWrong)

/-- 'arbourlaw04.StampBytes': WHATEVER THE INPUT: true; the input reads as it did. -/
def stampBytesSpec : ChangeSpec := { name := "stampBytes", fn := fun _ => fun
  | [d1, d2] => { results := [.lit (.bool true)], args := [d1, d2] }
  | _ => none }
def stampBytesRow : OpenClaim := { program := "ytlefmnoaejpllaa", sum := "bf7c9471d6520a490e69e2ef2d34dbe28a8e9c5d884610d9f1fcdc3f1c901dee", func := "arbour/arbourlaw04.StampBytes", spec := "stampBytes", inPlace := ["internal/bytealg.IndexByteString", "internal/abi.NoEscape"], apart := false }
def StampBytesSaid : Prop := stampBytesRow.holds Try.pinned (OpenSpec.ofChange stampBytesSpec)

/-- ITS FALSE NEIGHBOUR: 'it returns false'. Refute it at one input. -/
def stampBytesWrong : ChangeSpec := { name := "stampBytes", fn := fun _ => fun
  | [d1, d2] => { results := [.lit (.bool false)], args := [d1, d2] }
  | _ => none }
def StampBytesWrongFalsely : Prop := stampBytesRow.holds Try.pinned (OpenSpec.ofChange stampBytesWrong)

/-- 'arbourlaw03.WireGives': WHATEVER THE INPUT: true; the input reads as it did. -/
def wireGivesSpec : ChangeSpec := { name := "wireGives", fn := fun _ => fun
  | [d] => { results := [.lit (.bool true)], args := [d] }
  | _ => none }
def wireGivesRow : OpenClaim := { program := "ytlefmnoaejpllaa", sum := "bf7c9471d6520a490e69e2ef2d34dbe28a8e9c5d884610d9f1fcdc3f1c901dee", func := "arbour/arbourlaw03.WireGives", spec := "wireGives", inPlace := ["internal/abi.NoEscape", "internal/bytealg.MakeNoZero", "internal/bytealg.IndexByteString"], apart := false }
def WireGivesSaid : Prop := wireGivesRow.holds Try.pinned (OpenSpec.ofChange wireGivesSpec)

/-- ITS FALSE NEIGHBOUR: 'it returns false'. Refute it at one input. -/
def wireGivesWrong : ChangeSpec := { name := "wireGives", fn := fun _ => fun
  | [d] => { results := [.lit (.bool false)], args := [d] }
  | _ => none }
def WireGivesWrongFalsely : Prop := wireGivesRow.holds Try.pinned (OpenSpec.ofChange wireGivesWrong)

/-- 'arbourlaw03.WireNobody': WHATEVER THE INPUT: true; the input reads as it did. -/
def wireNobodySpec : ChangeSpec := { name := "wireNobody", fn := fun _ => fun
  | [d1, d2] => { results := [.lit (.bool true)], args := [d1, d2] }
  | _ => none }
def wireNobodyRow : OpenClaim := { program := "ytlefmnoaejpllaa", sum := "bf7c9471d6520a490e69e2ef2d34dbe28a8e9c5d884610d9f1fcdc3f1c901dee", func := "arbour/arbourlaw03.WireNobody", spec := "wireNobody", inPlace := ["internal/abi.NoEscape", "internal/bytealg.MakeNoZero", "internal/bytealg.IndexByteString"], apart := false }
def WireNobodySaid : Prop := wireNobodyRow.holds Try.pinned (OpenSpec.ofChange wireNobodySpec)

/-- ITS FALSE NEIGHBOUR: 'it returns false'. Refute it at one input. -/
def wireNobodyWrong : ChangeSpec := { name := "wireNobody", fn := fun _ => fun
  | [d1, d2] => { results := [.lit (.bool false)], args := [d1, d2] }
  | _ => none }
def WireNobodyWrongFalsely : Prop := wireNobodyRow.holds Try.pinned (OpenSpec.ofChange wireNobodyWrong)

/- THE SECOND FORM. 'bulk': how many values and letters a reading holds, each counted each time it is reached (what is shared counts as often as it is met; a slice's spare places count too). A statement '..UptoSaid' is the law's where the arguments, and the package variables that the reading takes, are together of bulk at most 1048576: NARROWER than '..Said'. Prove '..Said' where nothing that the law and all that it calls make is longer than what came in: it says more and counts as full. Else prove '..UptoSaid'. A law counts once. -/
mutual
def uptoBulk {H : Type} : DataW H → Nat
  | .lit (.string bytes) => bytes.length + 1
  | .lit _ => 1
  | .nil => 1
  | .ptr d => uptoBulk d + 1
  | .slice elems spare => uptoBulkAll elems + uptoBulkAll spare + 1
  | .agg parts => uptoBulkAll parts + 1
  | .iface _ d => uptoBulk d + 1
  | .map entries => uptoBulkEntries entries + 1
  | .held _ => 1
def uptoBulkAll {H : Type} : List (DataW H) → Nat
  | [] => 0
  | d :: r => uptoBulk d + uptoBulkAll r
def uptoBulkEntries {H : Type} : List (Lit × DataW H) → Nat
  | [] => 0
  | x :: r => uptoBulkEntry x + uptoBulkEntries r
def uptoBulkEntry {H : Type} : Lit × DataW H → Nat
  | (.string bytes, d) => bytes.length + uptoBulk d + 1
  | (_, d) => uptoBulk d + 1
 end
def uptoSmall : (H : Type) → List (DataW H) → Bool := fun _ ds => decide (uptoBulkAll ds ≤ 1048576)
def OpenSpec.upto (s : _root_.Go.ChangeSpec) : _root_.Go.OpenSpec := { _root_.Go.OpenSpec.ofChange s with cond := some uptoSmall }

/-- 'arbourlaw04.StampThings', WHERE WHAT IT READS IS OF BULK AT MOST 1048576: true; the input reads as it did. -/
def stampThingsUptoRow : OpenClaim := { program := "ytlefmnoaejpllaa", sum := "bf7c9471d6520a490e69e2ef2d34dbe28a8e9c5d884610d9f1fcdc3f1c901dee", func := "arbour/arbourlaw04.StampThings", spec := "stampThings", apart := false, narrowed := true }
def StampThingsUptoSaid : Prop := stampThingsUptoRow.holds Try.pinned (OpenSpec.upto stampThingsSpec)

/-- 'arbourlaw04.StampClocks', WHERE WHAT IT READS IS OF BULK AT MOST 1048576: true; the input reads as it did. -/
def stampClocksUptoRow : OpenClaim := { program := "ytlefmnoaejpllaa", sum := "bf7c9471d6520a490e69e2ef2d34dbe28a8e9c5d884610d9f1fcdc3f1c901dee", func := "arbour/arbourlaw04.StampClocks", spec := "stampClocks", apart := false, narrowed := true }
def StampClocksUptoSaid : Prop := stampClocksUptoRow.holds Try.pinned (OpenSpec.upto stampClocksSpec)

/-- 'arbourlaw04.StampRises', WHERE WHAT IT READS IS OF BULK AT MOST 1048576: true; the input reads as it did. -/
def stampRisesUptoRow : OpenClaim := { program := "ytlefmnoaejpllaa", sum := "bf7c9471d6520a490e69e2ef2d34dbe28a8e9c5d884610d9f1fcdc3f1c901dee", func := "arbour/arbourlaw04.StampRises", spec := "stampRises", apart := false, narrowed := true }
def StampRisesUptoSaid : Prop := stampRisesUptoRow.holds Try.pinned (OpenSpec.upto stampRisesSpec)

/-- 'arbourlaw04.StampOrders', WHERE WHAT IT READS IS OF BULK AT MOST 1048576: true; the input reads as it did. -/
def stampOrdersUptoRow : OpenClaim := { program := "ytlefmnoaejpllaa", sum := "bf7c9471d6520a490e69e2ef2d34dbe28a8e9c5d884610d9f1fcdc3f1c901dee", func := "arbour/arbourlaw04.StampOrders", spec := "stampOrders", apart := false, narrowed := true }
def StampOrdersUptoSaid : Prop := stampOrdersUptoRow.holds Try.pinned (OpenSpec.upto stampOrdersSpec)

/-- 'arbourlaw03.WireLetters', WHERE WHAT IT READS IS OF BULK AT MOST 1048576: true; the input reads as it did. -/
def wireLettersUptoRow : OpenClaim := { program := "ytlefmnoaejpllaa", sum := "bf7c9471d6520a490e69e2ef2d34dbe28a8e9c5d884610d9f1fcdc3f1c901dee", func := "arbour/arbourlaw03.WireLetters", spec := "wireLetters", inPlace := ["internal/bytealg.IndexByteString", "internal/abi.NoEscape"], apart := false, narrowed := true }
def WireLettersUptoSaid : Prop := wireLettersUptoRow.holds Try.pinned (OpenSpec.upto wireLettersSpec)

/-- 'arbourlaw03.WireChecks', WHERE WHAT IT READS IS OF BULK AT MOST 1048576: true; the input reads as it did. -/
def wireChecksUptoRow : OpenClaim := { program := "ytlefmnoaejpllaa", sum := "bf7c9471d6520a490e69e2ef2d34dbe28a8e9c5d884610d9f1fcdc3f1c901dee", func := "arbour/arbourlaw03.WireChecks", spec := "wireChecks", inPlace := ["internal/abi.NoEscape", "internal/bytealg.IndexByteString"], apart := false, narrowed := true }
def WireChecksUptoSaid : Prop := wireChecksUptoRow.holds Try.pinned (OpenSpec.upto wireChecksSpec)

/-- 'arbourlaw03.WireMosts', WHERE WHAT IT READS IS OF BULK AT MOST 1048576: true; the input reads as it did. -/
def wireMostsUptoRow : OpenClaim := { program := "ytlefmnoaejpllaa", sum := "bf7c9471d6520a490e69e2ef2d34dbe28a8e9c5d884610d9f1fcdc3f1c901dee", func := "arbour/arbourlaw03.WireMosts", spec := "wireMosts", inPlace := ["internal/bytealg.IndexByteString", "internal/abi.NoEscape"], apart := false, narrowed := true }
def WireMostsUptoSaid : Prop := wireMostsUptoRow.holds Try.pinned (OpenSpec.upto wireMostsSpec)

/-- 'arbourlaw03.WireGets', WHERE WHAT IT READS IS OF BULK AT MOST 1048576: true; the input reads as it did. -/
def wireGetsUptoRow : OpenClaim := { program := "ytlefmnoaejpllaa", sum := "bf7c9471d6520a490e69e2ef2d34dbe28a8e9c5d884610d9f1fcdc3f1c901dee", func := "arbour/arbourlaw03.WireGets", spec := "wireGets", inPlace := ["internal/bytealg.IndexByteString", "internal/abi.NoEscape"], apart := false, narrowed := true }
def WireGetsUptoSaid : Prop := wireGetsUptoRow.holds Try.pinned (OpenSpec.upto wireGetsSpec)

/-- 'arbourlaw03.WireFraming', WHERE WHAT IT READS IS OF BULK AT MOST 1048576: true; the input reads as it did. -/
def wireFramingUptoRow : OpenClaim := { program := "ytlefmnoaejpllaa", sum := "bf7c9471d6520a490e69e2ef2d34dbe28a8e9c5d884610d9f1fcdc3f1c901dee", func := "arbour/arbourlaw03.WireFraming", spec := "wireFraming", inPlace := ["internal/abi.NoEscape", "internal/bytealg.IndexByteString"], apart := false, narrowed := true }
def WireFramingUptoSaid : Prop := wireFramingUptoRow.holds Try.pinned (OpenSpec.upto wireFramingSpec)

/-- 'arbourlaw04.StampBytes', WHERE WHAT IT READS IS OF BULK AT MOST 1048576: true; the input reads as it did. -/
def stampBytesUptoRow : OpenClaim := { program := "ytlefmnoaejpllaa", sum := "bf7c9471d6520a490e69e2ef2d34dbe28a8e9c5d884610d9f1fcdc3f1c901dee", func := "arbour/arbourlaw04.StampBytes", spec := "stampBytes", inPlace := ["internal/bytealg.IndexByteString", "internal/abi.NoEscape"], apart := false, narrowed := true }
def StampBytesUptoSaid : Prop := stampBytesUptoRow.holds Try.pinned (OpenSpec.upto stampBytesSpec)

/-- 'arbourlaw03.WireGives', WHERE WHAT IT READS IS OF BULK AT MOST 1048576: true; the input reads as it did. -/
def wireGivesUptoRow : OpenClaim := { program := "ytlefmnoaejpllaa", sum := "bf7c9471d6520a490e69e2ef2d34dbe28a8e9c5d884610d9f1fcdc3f1c901dee", func := "arbour/arbourlaw03.WireGives", spec := "wireGives", inPlace := ["internal/abi.NoEscape", "internal/bytealg.MakeNoZero", "internal/bytealg.IndexByteString"], apart := false, narrowed := true }
def WireGivesUptoSaid : Prop := wireGivesUptoRow.holds Try.pinned (OpenSpec.upto wireGivesSpec)

/-- 'arbourlaw03.WireNobody', WHERE WHAT IT READS IS OF BULK AT MOST 1048576: true; the input reads as it did. -/
def wireNobodyUptoRow : OpenClaim := { program := "ytlefmnoaejpllaa", sum := "bf7c9471d6520a490e69e2ef2d34dbe28a8e9c5d884610d9f1fcdc3f1c901dee", func := "arbour/arbourlaw03.WireNobody", spec := "wireNobody", inPlace := ["internal/abi.NoEscape", "internal/bytealg.MakeNoZero", "internal/bytealg.IndexByteString"], apart := false, narrowed := true }
def WireNobodyUptoSaid : Prop := wireNobodyUptoRow.holds Try.pinned (OpenSpec.upto wireNobodySpec)

end Rows
end Go.Proofs.Ytlefmnoaejpllaa
