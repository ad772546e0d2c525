/-
  DERIVED. GIVEN WITH THE SEED: THE CARDS: each row of YtjcpdpdhegcgoaaDoorRows.lean that lists a variable, with what it lists TIED to the program's text (the seventh form; the later family's looks); each row that meets fmt, with fmt's text TOLD by the authors' own Lean function (tested against real Go, not proved from fmt's source: count such statements apart). THE CARD IS WHAT COUNTS. Prove the row's statement (the work); the ties are given (YtjcpdpdhegcgoaaDoorTie.lean); close each card by the builder's one call (the guide's Derived/Test/ToyasCard.lean, 'card_holds'). Laid BY PROGRAM, IN A SANDBOX (cutbox-door.mjs). By AI agents, Wed Nov 11 2026. No macro, syntax, notation, axiom, sorry.
-/
import Derived.Test.YtjcpdpdhegcgoaaDoorRows
import GoSem.ClaimSeven
namespace Go.Proofs.YtjcpdpdhegcgoaaDoor
namespace Rows

/-- THE TIED CARD OF 'arbourlaw09.MerkleVerifies'. -/
def merkleVerifiesCard : Claim7 := { stood := { row := merkleVerifiesRow, standIns := [], harness := (true, "71b657fb9a8316d0c93cff8b95e05429e3ffaa17ef15b8af80c42be38b322fd8"), looks := true }, kinds := [], alts := [], laidByText := true, laidKinds := [.handle], laidTests := true, laidLooks := .later }
def MerkleVerifiesCardSaid : Prop := Claim7.holds Tryd.pinned (.plain (OpenSpec.ofChange merkleVerifiesSpec)) merkleVerifiesCard

/-- THE TIED CARD OF 'arbourlaw09.MerkleRoots'. -/
def merkleRootsCard : Claim7 := { stood := { row := merkleRootsRow, standIns := [], harness := (true, "71b657fb9a8316d0c93cff8b95e05429e3ffaa17ef15b8af80c42be38b322fd8"), looks := true }, kinds := [], alts := [], laidByText := true, laidKinds := [.handle], laidTests := true, laidLooks := .later }
def MerkleRootsCardSaid : Prop := Claim7.holds Tryd.pinned (.plain (OpenSpec.ofChange merkleRootsSpec)) merkleRootsCard

/-- THE TIED CARD OF 'arbourlaw09.MerkleNumbers'. -/
def merkleNumbersCard : Claim7 := { stood := { row := merkleNumbersRow, standIns := [], harness := (true, "71b657fb9a8316d0c93cff8b95e05429e3ffaa17ef15b8af80c42be38b322fd8"), looks := true }, kinds := [], alts := [], laidByText := true, laidKinds := [.handle], laidTests := true, laidLooks := .later }
def MerkleNumbersCardSaid : Prop := Claim7.holds Tryd.pinned (.plain (OpenSpec.ofChange merkleNumbersSpec)) merkleNumbersCard

/-- THE SECOND FORM's CARD OF 'arbourlaw09.MerkleVerifies'. -/
def merkleVerifiesUptoCard : Claim7 := { stood := { row := merkleVerifiesUptoRow, standIns := [], harness := (true, "71b657fb9a8316d0c93cff8b95e05429e3ffaa17ef15b8af80c42be38b322fd8"), looks := true }, kinds := [], alts := [], laidByText := true, laidKinds := [.handle], laidTests := true, laidLooks := .later }
def MerkleVerifiesUptoCardSaid : Prop := Claim7.holds Tryd.pinned (.plain (OpenSpec.upto merkleVerifiesSpec)) merkleVerifiesUptoCard

/-- THE SECOND FORM's CARD OF 'arbourlaw09.MerkleRoots'. -/
def merkleRootsUptoCard : Claim7 := { stood := { row := merkleRootsUptoRow, standIns := [], harness := (true, "71b657fb9a8316d0c93cff8b95e05429e3ffaa17ef15b8af80c42be38b322fd8"), looks := true }, kinds := [], alts := [], laidByText := true, laidKinds := [.handle], laidTests := true, laidLooks := .later }
def MerkleRootsUptoCardSaid : Prop := Claim7.holds Tryd.pinned (.plain (OpenSpec.upto merkleRootsSpec)) merkleRootsUptoCard

/-- THE SECOND FORM's CARD OF 'arbourlaw09.MerkleNumbers'. -/
def merkleNumbersUptoCard : Claim7 := { stood := { row := merkleNumbersUptoRow, standIns := [], harness := (true, "71b657fb9a8316d0c93cff8b95e05429e3ffaa17ef15b8af80c42be38b322fd8"), looks := true }, kinds := [], alts := [], laidByText := true, laidKinds := [.handle], laidTests := true, laidLooks := .later }
def MerkleNumbersUptoCardSaid : Prop := Claim7.holds Tryd.pinned (.plain (OpenSpec.upto merkleNumbersSpec)) merkleNumbersUptoCard
end Rows
end Go.Proofs.YtjcpdpdhegcgoaaDoor
