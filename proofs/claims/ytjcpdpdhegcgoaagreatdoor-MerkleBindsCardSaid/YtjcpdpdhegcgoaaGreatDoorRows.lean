/-
  NARROWER THAN 'FOR EVERY INPUT', by the rows' own cells (each row's printed sentence says how): MerkleBinds: laid · MerkleFiles: laid · MerkleShows: laid · MerkleReads: laid · MerkleBytes: laid.
  DERIVED. THE GIVEN ROWS OF THIS SEAT. 5 by the template 'for every input the law returns true; each argument reads behind the call as it read before'; 0 by the template 'total and deterministic' (their statements: YtjcpdpdhegcgoaaGreatDoorTotals.lean).
  GIVEN WITH THE SEED: the statements are not yours to turn. If you find one false, say at which input.
  Laid BY PROGRAM, IN A SANDBOX (cutbox-rows.mjs): the forced cells as the released guide's own fill.sh prints them over the translation 352bb3633dae8fa4… (all of the seat's roots in one cut). By AI agents, Wed Nov 11 2026. No macro, syntax, notation, axiom, sorry.
-/
import Derived.Test.YtjcpdpdhegcgoaaGreatDoorChecked
import GoSem.Claim
import GoSem.ClaimJoined
import GoSem.ClaimMapViews
import Derived.JoinedTies
import Derived.KernelRfl
namespace Go.Proofs.YtjcpdpdhegcgoaaGreatDoor
/- THE CELL 'sum', in the pinned program and in every row, IS THE sha256 OF THE DUMP (.gsa) THAT YtjcpdpdhegcgoaaGreatDoorProg.lean LOADS. Nothing in Lean hashes anything: it is a label: what it is worth is what the hold of that sum in a sandbox is worth. -/
noncomputable def Tryz.pinned : Pinned := { name := "ytjcpdpdhegcgoaagreatdoor", sum := "352bb3633dae8fa43296ed85ed93318634e72ef7b41a822709c3a699d9d93453", checked := Tryz.checked }
namespace Rows
def none {H : Type} : Left H := { results := [], args := [] }

/- WHAT THE LISTED PACKAGE-LEVEL VARIABLES READ AS WHEN THE CALL BEGINS. Each datum BY PROGRAM (the guide's laid-datum.mjs) off the statement by which the dump's own 'gosem.cut.vars' lays the variable. In a bare row this is a premise. The card (YtjcpdpdhegcgoaaGreatDoorCards.lean) ties it to the program's text. -/
def laid_errors_errorType {H : Type} : DataW H := .iface "internal/reflectlite.rtype" (.agg [.ptr (.lit (.string [101, 114, 114, 111, 114]))])

/-- 'arbourlaw09.MerkleBinds': WHATEVER THE INPUT: true; the input reads as it did. -/
def merkleBindsSpec : ChangeSpec := { name := "merkleBinds", fn := fun _ => fun
  | [d1, d2, d3] => { results := [.lit (.bool true)], args := [d1, d2, d3] }
  | _ => none }
def merkleBindsRow : OpenClaim := { program := "ytjcpdpdhegcgoaagreatdoor", sum := "352bb3633dae8fa43296ed85ed93318634e72ef7b41a822709c3a699d9d93453", func := "arbour/arbourlaw09.MerkleBinds", spec := "merkleBinds", inPlace := ["internal/abi.NoEscape", "internal/bytealg.MakeNoZero", "internal/reflectlite.TypeOf", "internal/reflectlite.ValueOf", "(internal/reflectlite.Value).Type", "(internal/reflectlite.Value).IsNil", "(internal/reflectlite.Value).Elem", "(internal/reflectlite.Value).Set"], unfollowed := true, recurses := true, named := ["errors.errorType"], apart := false, laid := [("errors.errorType", laid_errors_errorType)] }
def MerkleBindsSaid : Prop := merkleBindsRow.holds Tryz.pinned (OpenSpec.ofChange merkleBindsSpec)

/-- ITS FALSE NEIGHBOUR: 'it returns false'. Refute it at one input. -/
def merkleBindsWrong : ChangeSpec := { name := "merkleBinds", fn := fun _ => fun
  | [d1, d2, d3] => { results := [.lit (.bool false)], args := [d1, d2, d3] }
  | _ => none }
def MerkleBindsWrongFalsely : Prop := merkleBindsRow.holds Tryz.pinned (OpenSpec.ofChange merkleBindsWrong)

/-- 'arbourlaw09.MerkleFiles': WHATEVER THE INPUT: true; the input reads as it did. -/
def merkleFilesSpec : ChangeSpec := { name := "merkleFiles", fn := fun _ => fun
  | [d1, d2, d3] => { results := [.lit (.bool true)], args := [d1, d2, d3] }
  | _ => none }
def merkleFilesRow : OpenClaim := { program := "ytjcpdpdhegcgoaagreatdoor", sum := "352bb3633dae8fa43296ed85ed93318634e72ef7b41a822709c3a699d9d93453", func := "arbour/arbourlaw09.MerkleFiles", spec := "merkleFiles", inPlace := ["internal/abi.NoEscape", "internal/bytealg.MakeNoZero", "internal/reflectlite.TypeOf", "internal/reflectlite.ValueOf", "(internal/reflectlite.Value).Type", "(internal/reflectlite.Value).IsNil", "(internal/reflectlite.Value).Elem", "(internal/reflectlite.Value).Set"], unfollowed := true, recurses := true, named := ["errors.errorType"], apart := false, laid := [("errors.errorType", laid_errors_errorType)] }
def MerkleFilesSaid : Prop := merkleFilesRow.holds Tryz.pinned (OpenSpec.ofChange merkleFilesSpec)

/-- ITS FALSE NEIGHBOUR: 'it returns false'. Refute it at one input. -/
def merkleFilesWrong : ChangeSpec := { name := "merkleFiles", fn := fun _ => fun
  | [d1, d2, d3] => { results := [.lit (.bool false)], args := [d1, d2, d3] }
  | _ => none }
def MerkleFilesWrongFalsely : Prop := merkleFilesRow.holds Tryz.pinned (OpenSpec.ofChange merkleFilesWrong)

/-- 'arbourlaw09.MerkleShows': WHATEVER THE INPUT: true; the input reads as it did. -/
def merkleShowsSpec : ChangeSpec := { name := "merkleShows", fn := fun _ => fun
  | [d1, d2, d3] => { results := [.lit (.bool true)], args := [d1, d2, d3] }
  | _ => none }
def merkleShowsRow : OpenClaim := { program := "ytjcpdpdhegcgoaagreatdoor", sum := "352bb3633dae8fa43296ed85ed93318634e72ef7b41a822709c3a699d9d93453", func := "arbour/arbourlaw09.MerkleShows", spec := "merkleShows", inPlace := ["internal/abi.NoEscape", "internal/bytealg.MakeNoZero", "internal/reflectlite.TypeOf", "internal/reflectlite.ValueOf", "(internal/reflectlite.Value).Type", "(internal/reflectlite.Value).IsNil", "(internal/reflectlite.Value).Elem", "(internal/reflectlite.Value).Set", "internal/bytealg.IndexByteString"], unfollowed := true, recurses := true, named := ["errors.errorType"], apart := false, laid := [("errors.errorType", laid_errors_errorType)] }
def MerkleShowsSaid : Prop := merkleShowsRow.holds Tryz.pinned (OpenSpec.ofChange merkleShowsSpec)

/-- ITS FALSE NEIGHBOUR: 'it returns false'. Refute it at one input. -/
def merkleShowsWrong : ChangeSpec := { name := "merkleShows", fn := fun _ => fun
  | [d1, d2, d3] => { results := [.lit (.bool false)], args := [d1, d2, d3] }
  | _ => none }
def MerkleShowsWrongFalsely : Prop := merkleShowsRow.holds Tryz.pinned (OpenSpec.ofChange merkleShowsWrong)

/-- 'arbourlaw09.MerkleReads': WHATEVER THE INPUT: true; the input reads as it did. -/
def merkleReadsSpec : ChangeSpec := { name := "merkleReads", fn := fun _ => fun
  | [d] => { results := [.lit (.bool true)], args := [d] }
  | _ => none }
def merkleReadsRow : OpenClaim := { program := "ytjcpdpdhegcgoaagreatdoor", sum := "352bb3633dae8fa43296ed85ed93318634e72ef7b41a822709c3a699d9d93453", func := "arbour/arbourlaw09.MerkleReads", spec := "merkleReads", inPlace := ["internal/bytealg.IndexByteString", "internal/abi.NoEscape", "internal/bytealg.MakeNoZero", "internal/reflectlite.TypeOf", "internal/reflectlite.ValueOf", "(internal/reflectlite.Value).Type", "(internal/reflectlite.Value).IsNil", "(internal/reflectlite.Value).Elem", "(internal/reflectlite.Value).Set"], unfollowed := true, recurses := true, named := ["errors.errorType"], apart := false, laid := [("errors.errorType", laid_errors_errorType)] }
def MerkleReadsSaid : Prop := merkleReadsRow.holds Tryz.pinned (OpenSpec.ofChange merkleReadsSpec)

/-- ITS FALSE NEIGHBOUR: 'it returns false'. Refute it at one input. -/
def merkleReadsWrong : ChangeSpec := { name := "merkleReads", fn := fun _ => fun
  | [d] => { results := [.lit (.bool false)], args := [d] }
  | _ => none }
def MerkleReadsWrongFalsely : Prop := merkleReadsRow.holds Tryz.pinned (OpenSpec.ofChange merkleReadsWrong)

/-- 'arbourlaw09.MerkleBytes': WHATEVER THE INPUT: true; the input reads as it did. -/
def merkleBytesSpec : ChangeSpec := { name := "merkleBytes", fn := fun _ => fun
  | [d1, d2] => { results := [.lit (.bool true)], args := [d1, d2] }
  | _ => none }
def merkleBytesRow : OpenClaim := { program := "ytjcpdpdhegcgoaagreatdoor", sum := "352bb3633dae8fa43296ed85ed93318634e72ef7b41a822709c3a699d9d93453", func := "arbour/arbourlaw09.MerkleBytes", spec := "merkleBytes", inPlace := ["internal/abi.NoEscape", "internal/bytealg.MakeNoZero", "internal/reflectlite.TypeOf", "internal/reflectlite.ValueOf", "(internal/reflectlite.Value).Type", "(internal/reflectlite.Value).IsNil", "(internal/reflectlite.Value).Elem", "(internal/reflectlite.Value).Set", "internal/bytealg.IndexByteString"], unfollowed := true, recurses := true, named := ["errors.errorType"], apart := false, laid := [("errors.errorType", laid_errors_errorType)] }
def MerkleBytesSaid : Prop := merkleBytesRow.holds Tryz.pinned (OpenSpec.ofChange merkleBytesSpec)

/-- ITS FALSE NEIGHBOUR: 'it returns false'. Refute it at one input. -/
def merkleBytesWrong : ChangeSpec := { name := "merkleBytes", fn := fun _ => fun
  | [d1, d2] => { results := [.lit (.bool false)], args := [d1, d2] }
  | _ => none }
def MerkleBytesWrongFalsely : Prop := merkleBytesRow.holds Tryz.pinned (OpenSpec.ofChange merkleBytesWrong)

/- THE SECOND FORM. 'bulk': how many values and letters a reading holds, each counted each time it is reached (what is shared counts as often as it is met; a slice's spare places count too). A statement '..UptoSaid' is the law's where the arguments, and the package variables that the reading takes, are together of bulk at most 1048576: NARROWER than '..Said'. Prove '..Said' where nothing that the law and all that it calls make is longer than what came in: it says more and counts as full. Else prove '..UptoSaid'. A law counts once. -/
mutual
def uptoBulk {H : Type} : DataW H → Nat
  | .lit (.string bytes) => bytes.length + 1
  | .lit _ => 1
  | .nil => 1
  | .ptr d => uptoBulk d + 1
  | .slice elems spare => uptoBulkAll elems + uptoBulkAll spare + 1
  | .agg parts => uptoBulkAll parts + 1
  | .iface _ d => uptoBulk d + 1
  | .map entries => uptoBulkEntries entries + 1
  | .held _ => 1
def uptoBulkAll {H : Type} : List (DataW H) → Nat
  | [] => 0
  | d :: r => uptoBulk d + uptoBulkAll r
def uptoBulkEntries {H : Type} : List (Lit × DataW H) → Nat
  | [] => 0
  | x :: r => uptoBulkEntry x + uptoBulkEntries r
def uptoBulkEntry {H : Type} : Lit × DataW H → Nat
  | (.string bytes, d) => bytes.length + uptoBulk d + 1
  | (_, d) => uptoBulk d + 1
 end
def uptoSmall : (H : Type) → List (DataW H) → Bool := fun _ ds => decide (uptoBulkAll ds ≤ 1048576)
def OpenSpec.upto (s : _root_.Go.ChangeSpec) : _root_.Go.OpenSpec := { _root_.Go.OpenSpec.ofChange s with cond := some uptoSmall }

/-- 'arbourlaw09.MerkleBinds', WHERE WHAT IT READS IS OF BULK AT MOST 1048576: true; the input reads as it did. -/
def merkleBindsUptoRow : OpenClaim := { program := "ytjcpdpdhegcgoaagreatdoor", sum := "352bb3633dae8fa43296ed85ed93318634e72ef7b41a822709c3a699d9d93453", func := "arbour/arbourlaw09.MerkleBinds", spec := "merkleBinds", inPlace := ["internal/abi.NoEscape", "internal/bytealg.MakeNoZero", "internal/reflectlite.TypeOf", "internal/reflectlite.ValueOf", "(internal/reflectlite.Value).Type", "(internal/reflectlite.Value).IsNil", "(internal/reflectlite.Value).Elem", "(internal/reflectlite.Value).Set"], unfollowed := true, recurses := true, named := ["errors.errorType"], apart := false, laid := [("errors.errorType", laid_errors_errorType)], narrowed := true }
def MerkleBindsUptoSaid : Prop := merkleBindsUptoRow.holds Tryz.pinned (OpenSpec.upto merkleBindsSpec)

/-- 'arbourlaw09.MerkleFiles', WHERE WHAT IT READS IS OF BULK AT MOST 1048576: true; the input reads as it did. -/
def merkleFilesUptoRow : OpenClaim := { program := "ytjcpdpdhegcgoaagreatdoor", sum := "352bb3633dae8fa43296ed85ed93318634e72ef7b41a822709c3a699d9d93453", func := "arbour/arbourlaw09.MerkleFiles", spec := "merkleFiles", inPlace := ["internal/abi.NoEscape", "internal/bytealg.MakeNoZero", "internal/reflectlite.TypeOf", "internal/reflectlite.ValueOf", "(internal/reflectlite.Value).Type", "(internal/reflectlite.Value).IsNil", "(internal/reflectlite.Value).Elem", "(internal/reflectlite.Value).Set"], unfollowed := true, recurses := true, named := ["errors.errorType"], apart := false, laid := [("errors.errorType", laid_errors_errorType)], narrowed := true }
def MerkleFilesUptoSaid : Prop := merkleFilesUptoRow.holds Tryz.pinned (OpenSpec.upto merkleFilesSpec)

/-- 'arbourlaw09.MerkleShows', WHERE WHAT IT READS IS OF BULK AT MOST 1048576: true; the input reads as it did. -/
def merkleShowsUptoRow : OpenClaim := { program := "ytjcpdpdhegcgoaagreatdoor", sum := "352bb3633dae8fa43296ed85ed93318634e72ef7b41a822709c3a699d9d93453", func := "arbour/arbourlaw09.MerkleShows", spec := "merkleShows", inPlace := ["internal/abi.NoEscape", "internal/bytealg.MakeNoZero", "internal/reflectlite.TypeOf", "internal/reflectlite.ValueOf", "(internal/reflectlite.Value).Type", "(internal/reflectlite.Value).IsNil", "(internal/reflectlite.Value).Elem", "(internal/reflectlite.Value).Set", "internal/bytealg.IndexByteString"], unfollowed := true, recurses := true, named := ["errors.errorType"], apart := false, laid := [("errors.errorType", laid_errors_errorType)], narrowed := true }
def MerkleShowsUptoSaid : Prop := merkleShowsUptoRow.holds Tryz.pinned (OpenSpec.upto merkleShowsSpec)

/-- 'arbourlaw09.MerkleReads', WHERE WHAT IT READS IS OF BULK AT MOST 1048576: true; the input reads as it did. -/
def merkleReadsUptoRow : OpenClaim := { program := "ytjcpdpdhegcgoaagreatdoor", sum := "352bb3633dae8fa43296ed85ed93318634e72ef7b41a822709c3a699d9d93453", func := "arbour/arbourlaw09.MerkleReads", spec := "merkleReads", inPlace := ["internal/bytealg.IndexByteString", "internal/abi.NoEscape", "internal/bytealg.MakeNoZero", "internal/reflectlite.TypeOf", "internal/reflectlite.ValueOf", "(internal/reflectlite.Value).Type", "(internal/reflectlite.Value).IsNil", "(internal/reflectlite.Value).Elem", "(internal/reflectlite.Value).Set"], unfollowed := true, recurses := true, named := ["errors.errorType"], apart := false, laid := [("errors.errorType", laid_errors_errorType)], narrowed := true }
def MerkleReadsUptoSaid : Prop := merkleReadsUptoRow.holds Tryz.pinned (OpenSpec.upto merkleReadsSpec)

/-- 'arbourlaw09.MerkleBytes', WHERE WHAT IT READS IS OF BULK AT MOST 1048576: true; the input reads as it did. -/
def merkleBytesUptoRow : OpenClaim := { program := "ytjcpdpdhegcgoaagreatdoor", sum := "352bb3633dae8fa43296ed85ed93318634e72ef7b41a822709c3a699d9d93453", func := "arbour/arbourlaw09.MerkleBytes", spec := "merkleBytes", inPlace := ["internal/abi.NoEscape", "internal/bytealg.MakeNoZero", "internal/reflectlite.TypeOf", "internal/reflectlite.ValueOf", "(internal/reflectlite.Value).Type", "(internal/reflectlite.Value).IsNil", "(internal/reflectlite.Value).Elem", "(internal/reflectlite.Value).Set", "internal/bytealg.IndexByteString"], unfollowed := true, recurses := true, named := ["errors.errorType"], apart := false, laid := [("errors.errorType", laid_errors_errorType)], narrowed := true }
def MerkleBytesUptoSaid : Prop := merkleBytesUptoRow.holds Tryz.pinned (OpenSpec.upto merkleBytesSpec)

end Rows
end Go.Proofs.YtjcpdpdhegcgoaaGreatDoor
