/-
  DERIVED. GIVEN WITH THE SEED: THE CARDS: each row of YtjcpdpdhegcgoaaGreatDoorRows.lean that lists a variable, with what it lists TIED to the program's text (the seventh form; the later family's looks); each row that meets fmt, with fmt's text TOLD by the authors' own Lean function (tested against real Go, not proved from fmt's source: count such statements apart). THE CARD IS WHAT COUNTS. Prove the row's statement (the work); the ties are given (YtjcpdpdhegcgoaaGreatDoorTie.lean); close each card by the builder's one call (the guide's Derived/Test/ToyasCard.lean, 'card_holds'). Laid BY PROGRAM, IN A SANDBOX (cutbox-door.mjs). By AI agents, Wed Nov 11 2026. No macro, syntax, notation, axiom, sorry.
-/
import Derived.Test.YtjcpdpdhegcgoaaGreatDoorRows
import GoSem.ClaimSeven
namespace Go.Proofs.YtjcpdpdhegcgoaaGreatDoor
namespace Rows

/-- THE TIED CARD OF 'arbourlaw09.MerkleBinds'. -/
def merkleBindsCard : Claim7 := { stood := { row := merkleBindsRow, standIns := [], harness := (true, "c307f0145c82781c4b17dc3bb9e434b58542681abe1d681498953c34386e7960"), looks := true }, kinds := [], alts := [], laidByText := true, laidKinds := [.handle], laidTests := true, laidLooks := .later }
def MerkleBindsCardSaid : Prop := Claim7.holds Tryz.pinned (.plain (OpenSpec.ofChange merkleBindsSpec)) merkleBindsCard

/-- THE TIED CARD OF 'arbourlaw09.MerkleFiles'. -/
def merkleFilesCard : Claim7 := { stood := { row := merkleFilesRow, standIns := [], harness := (true, "c307f0145c82781c4b17dc3bb9e434b58542681abe1d681498953c34386e7960"), looks := true }, kinds := [], alts := [], laidByText := true, laidKinds := [.handle], laidTests := true, laidLooks := .later }
def MerkleFilesCardSaid : Prop := Claim7.holds Tryz.pinned (.plain (OpenSpec.ofChange merkleFilesSpec)) merkleFilesCard

/-- THE TIED CARD OF 'arbourlaw09.MerkleShows'. -/
def merkleShowsCard : Claim7 := { stood := { row := merkleShowsRow, standIns := [], harness := (true, "c307f0145c82781c4b17dc3bb9e434b58542681abe1d681498953c34386e7960"), looks := true }, kinds := [], alts := [], laidByText := true, laidKinds := [.handle], laidTests := true, laidLooks := .later }
def MerkleShowsCardSaid : Prop := Claim7.holds Tryz.pinned (.plain (OpenSpec.ofChange merkleShowsSpec)) merkleShowsCard

/-- THE TIED CARD OF 'arbourlaw09.MerkleReads'. -/
def merkleReadsCard : Claim7 := { stood := { row := merkleReadsRow, standIns := [], harness := (true, "c307f0145c82781c4b17dc3bb9e434b58542681abe1d681498953c34386e7960"), looks := true }, kinds := [], alts := [], laidByText := true, laidKinds := [.handle], laidTests := true, laidLooks := .later }
def MerkleReadsCardSaid : Prop := Claim7.holds Tryz.pinned (.plain (OpenSpec.ofChange merkleReadsSpec)) merkleReadsCard

/-- THE TIED CARD OF 'arbourlaw09.MerkleBytes'. -/
def merkleBytesCard : Claim7 := { stood := { row := merkleBytesRow, standIns := [], harness := (true, "c307f0145c82781c4b17dc3bb9e434b58542681abe1d681498953c34386e7960"), looks := true }, kinds := [], alts := [], laidByText := true, laidKinds := [.handle], laidTests := true, laidLooks := .later }
def MerkleBytesCardSaid : Prop := Claim7.holds Tryz.pinned (.plain (OpenSpec.ofChange merkleBytesSpec)) merkleBytesCard

/-- THE SECOND FORM's CARD OF 'arbourlaw09.MerkleBinds'. -/
def merkleBindsUptoCard : Claim7 := { stood := { row := merkleBindsUptoRow, standIns := [], harness := (true, "c307f0145c82781c4b17dc3bb9e434b58542681abe1d681498953c34386e7960"), looks := true }, kinds := [], alts := [], laidByText := true, laidKinds := [.handle], laidTests := true, laidLooks := .later }
def MerkleBindsUptoCardSaid : Prop := Claim7.holds Tryz.pinned (.plain (OpenSpec.upto merkleBindsSpec)) merkleBindsUptoCard

/-- THE SECOND FORM's CARD OF 'arbourlaw09.MerkleFiles'. -/
def merkleFilesUptoCard : Claim7 := { stood := { row := merkleFilesUptoRow, standIns := [], harness := (true, "c307f0145c82781c4b17dc3bb9e434b58542681abe1d681498953c34386e7960"), looks := true }, kinds := [], alts := [], laidByText := true, laidKinds := [.handle], laidTests := true, laidLooks := .later }
def MerkleFilesUptoCardSaid : Prop := Claim7.holds Tryz.pinned (.plain (OpenSpec.upto merkleFilesSpec)) merkleFilesUptoCard

/-- THE SECOND FORM's CARD OF 'arbourlaw09.MerkleShows'. -/
def merkleShowsUptoCard : Claim7 := { stood := { row := merkleShowsUptoRow, standIns := [], harness := (true, "c307f0145c82781c4b17dc3bb9e434b58542681abe1d681498953c34386e7960"), looks := true }, kinds := [], alts := [], laidByText := true, laidKinds := [.handle], laidTests := true, laidLooks := .later }
def MerkleShowsUptoCardSaid : Prop := Claim7.holds Tryz.pinned (.plain (OpenSpec.upto merkleShowsSpec)) merkleShowsUptoCard

/-- THE SECOND FORM's CARD OF 'arbourlaw09.MerkleReads'. -/
def merkleReadsUptoCard : Claim7 := { stood := { row := merkleReadsUptoRow, standIns := [], harness := (true, "c307f0145c82781c4b17dc3bb9e434b58542681abe1d681498953c34386e7960"), looks := true }, kinds := [], alts := [], laidByText := true, laidKinds := [.handle], laidTests := true, laidLooks := .later }
def MerkleReadsUptoCardSaid : Prop := Claim7.holds Tryz.pinned (.plain (OpenSpec.upto merkleReadsSpec)) merkleReadsUptoCard

/-- THE SECOND FORM's CARD OF 'arbourlaw09.MerkleBytes'. -/
def merkleBytesUptoCard : Claim7 := { stood := { row := merkleBytesUptoRow, standIns := [], harness := (true, "c307f0145c82781c4b17dc3bb9e434b58542681abe1d681498953c34386e7960"), looks := true }, kinds := [], alts := [], laidByText := true, laidKinds := [.handle], laidTests := true, laidLooks := .later }
def MerkleBytesUptoCardSaid : Prop := Claim7.holds Tryz.pinned (.plain (OpenSpec.upto merkleBytesSpec)) merkleBytesUptoCard
end Rows
end Go.Proofs.YtjcpdpdhegcgoaaGreatDoor
