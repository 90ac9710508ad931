/-
  DERIVED. GIVEN WITH THE SEED: THE CARDS: each row of YtamlmlihfpkjaaaDoorRows.lean that lists a variable, with what it lists TIED to the program's text (the seventh form; the later family's looks); each row that meets fmt, with fmt's text TOLD by the authors' own Lean function (tested against real Go, not proved from fmt's source: count such statements apart). THE CARD IS WHAT COUNTS. Prove the row's statement (the work); the ties are given (YtamlmlihfpkjaaaDoorTie.lean); close each card by the builder's one call (the guide's Derived/Test/ToyasCard.lean, 'card_holds'). Laid BY PROGRAM, IN A SANDBOX (cutbox-door.mjs). By AI agents, Wed Nov 11 2026. No macro, syntax, notation, axiom, sorry.
-/
import Derived.Test.YtamlmlihfpkjaaaDoorRows
import GoSem.ClaimSeven
namespace Go.Proofs.YtamlmlihfpkjaaaDoor
namespace Rows

/-- THE TIED CARD OF 'wapentakelaw03.MerkleRoots'. -/
def merkleRootsCard : Claim7 := { stood := { row := merkleRootsRow, standIns := [], harness := (true, "72ccbd9af3a7e7840fdc8449797ff0dc5455db65bfb61ffb5a6b0a1b753e1680"), looks := false }, kinds := [], alts := [], laidByText := true, laidKinds := [.data], laidTests := true, laidLooks := .later }
def MerkleRootsCardSaid : Prop := Claim7.holds Tryd.pinned (.plain (OpenSpec.ofChange merkleRootsSpec)) merkleRootsCard

/-- THE TIED CARD OF 'wapentakelaw03.MerkleVerifies'. -/
def merkleVerifiesCard : Claim7 := { stood := { row := merkleVerifiesRow, standIns := [], harness := (true, "72ccbd9af3a7e7840fdc8449797ff0dc5455db65bfb61ffb5a6b0a1b753e1680"), looks := false }, kinds := [], alts := [], laidByText := true, laidKinds := [.data], laidTests := true, laidLooks := .later }
def MerkleVerifiesCardSaid : Prop := Claim7.holds Tryd.pinned (.plain (OpenSpec.ofChange merkleVerifiesSpec)) merkleVerifiesCard

/-- THE TIED CARD OF 'wapentakelaw03.MerkleComplete'. -/
def merkleCompleteCard : Claim7 := { stood := { row := merkleCompleteRow, standIns := [], harness := (true, "72ccbd9af3a7e7840fdc8449797ff0dc5455db65bfb61ffb5a6b0a1b753e1680"), looks := false }, kinds := [], alts := [], laidByText := true, laidKinds := [.data], laidTests := true, laidLooks := .later }
def MerkleCompleteCardSaid : Prop := Claim7.holds Tryd.pinned (.plain (OpenSpec.ofChange merkleCompleteSpec)) merkleCompleteCard

/-- THE TIED CARD OF 'wapentakelaw03.MerkleSound'. -/
def merkleSoundCard : Claim7 := { stood := { row := merkleSoundRow, standIns := [], harness := (true, "72ccbd9af3a7e7840fdc8449797ff0dc5455db65bfb61ffb5a6b0a1b753e1680"), looks := false }, kinds := [], alts := [], laidByText := true, laidKinds := [.data], laidTests := true, laidLooks := .later }
def MerkleSoundCardSaid : Prop := Claim7.holds Tryd.pinned (.plain (OpenSpec.ofChange merkleSoundSpec)) merkleSoundCard

/-- THE TIED CARD OF 'wapentakelaw03.MerkleClash'. -/
def merkleClashCard : Claim7 := { stood := { row := merkleClashRow, standIns := [], harness := (true, "72ccbd9af3a7e7840fdc8449797ff0dc5455db65bfb61ffb5a6b0a1b753e1680"), looks := false }, kinds := [], alts := [], laidByText := true, laidKinds := [.data], laidTests := true, laidLooks := .later }
def MerkleClashCardSaid : Prop := Claim7.holds Tryd.pinned (.plain (OpenSpec.ofChange merkleClashSpec)) merkleClashCard

/-- THE TIED CARD OF 'wapentakelaw03.MerkleBinds'. -/
def merkleBindsCard : Claim7 := { stood := { row := merkleBindsRow, standIns := [], harness := (true, "72ccbd9af3a7e7840fdc8449797ff0dc5455db65bfb61ffb5a6b0a1b753e1680"), looks := false }, kinds := [], alts := [], laidByText := true, laidKinds := [.data], laidTests := true, laidLooks := .later }
def MerkleBindsCardSaid : Prop := Claim7.holds Tryd.pinned (.plain (OpenSpec.ofChange merkleBindsSpec)) merkleBindsCard

/-- THE SECOND FORM's CARD OF 'wapentakelaw03.MerkleRoots'. -/
def merkleRootsUptoCard : Claim7 := { stood := { row := merkleRootsUptoRow, standIns := [], harness := (true, "72ccbd9af3a7e7840fdc8449797ff0dc5455db65bfb61ffb5a6b0a1b753e1680"), looks := false }, kinds := [], alts := [], laidByText := true, laidKinds := [.data], laidTests := true, laidLooks := .later }
def MerkleRootsUptoCardSaid : Prop := Claim7.holds Tryd.pinned (.plain (OpenSpec.upto merkleRootsSpec)) merkleRootsUptoCard

/-- THE SECOND FORM's CARD OF 'wapentakelaw03.MerkleVerifies'. -/
def merkleVerifiesUptoCard : Claim7 := { stood := { row := merkleVerifiesUptoRow, standIns := [], harness := (true, "72ccbd9af3a7e7840fdc8449797ff0dc5455db65bfb61ffb5a6b0a1b753e1680"), looks := false }, kinds := [], alts := [], laidByText := true, laidKinds := [.data], laidTests := true, laidLooks := .later }
def MerkleVerifiesUptoCardSaid : Prop := Claim7.holds Tryd.pinned (.plain (OpenSpec.upto merkleVerifiesSpec)) merkleVerifiesUptoCard

/-- THE SECOND FORM's CARD OF 'wapentakelaw03.MerkleComplete'. -/
def merkleCompleteUptoCard : Claim7 := { stood := { row := merkleCompleteUptoRow, standIns := [], harness := (true, "72ccbd9af3a7e7840fdc8449797ff0dc5455db65bfb61ffb5a6b0a1b753e1680"), looks := false }, kinds := [], alts := [], laidByText := true, laidKinds := [.data], laidTests := true, laidLooks := .later }
def MerkleCompleteUptoCardSaid : Prop := Claim7.holds Tryd.pinned (.plain (OpenSpec.upto merkleCompleteSpec)) merkleCompleteUptoCard

/-- THE SECOND FORM's CARD OF 'wapentakelaw03.MerkleSound'. -/
def merkleSoundUptoCard : Claim7 := { stood := { row := merkleSoundUptoRow, standIns := [], harness := (true, "72ccbd9af3a7e7840fdc8449797ff0dc5455db65bfb61ffb5a6b0a1b753e1680"), looks := false }, kinds := [], alts := [], laidByText := true, laidKinds := [.data], laidTests := true, laidLooks := .later }
def MerkleSoundUptoCardSaid : Prop := Claim7.holds Tryd.pinned (.plain (OpenSpec.upto merkleSoundSpec)) merkleSoundUptoCard

/-- THE SECOND FORM's CARD OF 'wapentakelaw03.MerkleClash'. -/
def merkleClashUptoCard : Claim7 := { stood := { row := merkleClashUptoRow, standIns := [], harness := (true, "72ccbd9af3a7e7840fdc8449797ff0dc5455db65bfb61ffb5a6b0a1b753e1680"), looks := false }, kinds := [], alts := [], laidByText := true, laidKinds := [.data], laidTests := true, laidLooks := .later }
def MerkleClashUptoCardSaid : Prop := Claim7.holds Tryd.pinned (.plain (OpenSpec.upto merkleClashSpec)) merkleClashUptoCard

/-- THE SECOND FORM's CARD OF 'wapentakelaw03.MerkleBinds'. -/
def merkleBindsUptoCard : Claim7 := { stood := { row := merkleBindsUptoRow, standIns := [], harness := (true, "72ccbd9af3a7e7840fdc8449797ff0dc5455db65bfb61ffb5a6b0a1b753e1680"), looks := false }, kinds := [], alts := [], laidByText := true, laidKinds := [.data], laidTests := true, laidLooks := .later }
def MerkleBindsUptoCardSaid : Prop := Claim7.holds Tryd.pinned (.plain (OpenSpec.upto merkleBindsSpec)) merkleBindsUptoCard
end Rows
end Go.Proofs.YtamlmlihfpkjaaaDoor
