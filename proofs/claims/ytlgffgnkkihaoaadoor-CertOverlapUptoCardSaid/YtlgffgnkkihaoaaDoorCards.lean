/-
  DERIVED. GIVEN WITH THE SEED: THE CARDS: each row of YtlgffgnkkihaoaaDoorRows.lean that lists a variable, with what it lists TIED to the program's text (the seventh form; the later family's looks); each row that meets fmt, with fmt's text TOLD by the authors' own Lean function (tested against real Go, not proved from fmt's source: count such statements apart). THE CARD IS WHAT COUNTS. Prove the row's statement (the work); the ties are given (YtlgffgnkkihaoaaDoorTie.lean); close each card by the builder's one call (the guide's Derived/Test/ToyasCard.lean, 'card_holds'). Laid BY PROGRAM, IN A SANDBOX (cutbox-door.mjs). By AI agents, Wed Nov 11 2026. No macro, syntax, notation, axiom, sorry.
-/
import Derived.Test.YtlgffgnkkihaoaaDoorRows
import GoSem.ClaimSeven
namespace Go.Proofs.YtlgffgnkkihaoaaDoor
namespace Rows

/-- THE TIED CARD OF 'wapentakelaw06.CertQCs'. -/
def certQCsCard : Claim7 := { stood := { row := certQCsRow, standIns := [], harness := (true, "fc87c83ab81cb180d00bd1e9120de69ad6ed8fcb2ba6654298c69a04f34eeec8"), looks := false }, kinds := [], alts := [], laidByText := true, laidKinds := [.data], laidTests := true, laidLooks := .later }
def CertQCsCardSaid : Prop := Claim7.holds Tryd.pinned (.plain (OpenSpec.ofChange certQCsSpec)) certQCsCard

/-- THE TIED CARD OF 'wapentakelaw06.CertMakes'. -/
def certMakesCard : Claim7 := { stood := { row := certMakesRow, standIns := [], harness := (true, "fc87c83ab81cb180d00bd1e9120de69ad6ed8fcb2ba6654298c69a04f34eeec8"), looks := false }, kinds := [], alts := [], laidByText := true, laidKinds := [.data], laidTests := true, laidLooks := .later }
def CertMakesCardSaid : Prop := Claim7.holds Tryd.pinned (.plain (OpenSpec.ofChange certMakesSpec)) certMakesCard

/-- THE TIED CARD OF 'wapentakelaw06.CertMade'. -/
def certMadeCard : Claim7 := { stood := { row := certMadeRow, standIns := [], harness := (true, "fc87c83ab81cb180d00bd1e9120de69ad6ed8fcb2ba6654298c69a04f34eeec8"), looks := false }, kinds := [], alts := [], laidByText := true, laidKinds := [.data], laidTests := true, laidLooks := .later }
def CertMadeCardSaid : Prop := Claim7.holds Tryd.pinned (.plain (OpenSpec.ofChange certMadeSpec)) certMadeCard

/-- THE TIED CARD OF 'wapentakelaw06.CertOverlap'. -/
def certOverlapCard : Claim7 := { stood := { row := certOverlapRow, standIns := [], harness := (true, "fc87c83ab81cb180d00bd1e9120de69ad6ed8fcb2ba6654298c69a04f34eeec8"), looks := false }, kinds := [], alts := [], laidByText := true, laidKinds := [.data], laidTests := true, laidLooks := .later }
def CertOverlapCardSaid : Prop := Claim7.holds Tryd.pinned (.plain (OpenSpec.ofChange certOverlapSpec)) certOverlapCard

/-- THE TIED CARD OF 'wapentakelaw06.CertFewer'. -/
def certFewerCard : Claim7 := { stood := { row := certFewerRow, standIns := [], harness := (true, "fc87c83ab81cb180d00bd1e9120de69ad6ed8fcb2ba6654298c69a04f34eeec8"), looks := false }, kinds := [], alts := [], laidByText := true, laidKinds := [.data], laidTests := true, laidLooks := .later }
def CertFewerCardSaid : Prop := Claim7.holds Tryd.pinned (.plain (OpenSpec.ofChange certFewerSpec)) certFewerCard

/-- THE TIED CARD OF 'wapentakelaw06.CertVotes'. -/
def certVotesCard : Claim7 := { stood := { row := certVotesRow, standIns := [], harness := (true, "fc87c83ab81cb180d00bd1e9120de69ad6ed8fcb2ba6654298c69a04f34eeec8"), looks := false }, kinds := [], alts := [], laidByText := true, laidKinds := [.data], laidTests := true, laidLooks := .later }
def CertVotesCardSaid : Prop := Claim7.holds Tryd.pinned (.plain (OpenSpec.ofChange certVotesSpec)) certVotesCard

/-- THE SECOND FORM's CARD OF 'wapentakelaw06.CertQCs'. -/
def certQCsUptoCard : Claim7 := { stood := { row := certQCsUptoRow, standIns := [], harness := (true, "fc87c83ab81cb180d00bd1e9120de69ad6ed8fcb2ba6654298c69a04f34eeec8"), looks := false }, kinds := [], alts := [], laidByText := true, laidKinds := [.data], laidTests := true, laidLooks := .later }
def CertQCsUptoCardSaid : Prop := Claim7.holds Tryd.pinned (.plain (OpenSpec.upto certQCsSpec)) certQCsUptoCard

/-- THE SECOND FORM's CARD OF 'wapentakelaw06.CertMakes'. -/
def certMakesUptoCard : Claim7 := { stood := { row := certMakesUptoRow, standIns := [], harness := (true, "fc87c83ab81cb180d00bd1e9120de69ad6ed8fcb2ba6654298c69a04f34eeec8"), looks := false }, kinds := [], alts := [], laidByText := true, laidKinds := [.data], laidTests := true, laidLooks := .later }
def CertMakesUptoCardSaid : Prop := Claim7.holds Tryd.pinned (.plain (OpenSpec.upto certMakesSpec)) certMakesUptoCard

/-- THE SECOND FORM's CARD OF 'wapentakelaw06.CertMade'. -/
def certMadeUptoCard : Claim7 := { stood := { row := certMadeUptoRow, standIns := [], harness := (true, "fc87c83ab81cb180d00bd1e9120de69ad6ed8fcb2ba6654298c69a04f34eeec8"), looks := false }, kinds := [], alts := [], laidByText := true, laidKinds := [.data], laidTests := true, laidLooks := .later }
def CertMadeUptoCardSaid : Prop := Claim7.holds Tryd.pinned (.plain (OpenSpec.upto certMadeSpec)) certMadeUptoCard

/-- THE SECOND FORM's CARD OF 'wapentakelaw06.CertOverlap'. -/
def certOverlapUptoCard : Claim7 := { stood := { row := certOverlapUptoRow, standIns := [], harness := (true, "fc87c83ab81cb180d00bd1e9120de69ad6ed8fcb2ba6654298c69a04f34eeec8"), looks := false }, kinds := [], alts := [], laidByText := true, laidKinds := [.data], laidTests := true, laidLooks := .later }
def CertOverlapUptoCardSaid : Prop := Claim7.holds Tryd.pinned (.plain (OpenSpec.upto certOverlapSpec)) certOverlapUptoCard

/-- THE SECOND FORM's CARD OF 'wapentakelaw06.CertFewer'. -/
def certFewerUptoCard : Claim7 := { stood := { row := certFewerUptoRow, standIns := [], harness := (true, "fc87c83ab81cb180d00bd1e9120de69ad6ed8fcb2ba6654298c69a04f34eeec8"), looks := false }, kinds := [], alts := [], laidByText := true, laidKinds := [.data], laidTests := true, laidLooks := .later }
def CertFewerUptoCardSaid : Prop := Claim7.holds Tryd.pinned (.plain (OpenSpec.upto certFewerSpec)) certFewerUptoCard

/-- THE SECOND FORM's CARD OF 'wapentakelaw06.CertVotes'. -/
def certVotesUptoCard : Claim7 := { stood := { row := certVotesUptoRow, standIns := [], harness := (true, "fc87c83ab81cb180d00bd1e9120de69ad6ed8fcb2ba6654298c69a04f34eeec8"), looks := false }, kinds := [], alts := [], laidByText := true, laidKinds := [.data], laidTests := true, laidLooks := .later }
def CertVotesUptoCardSaid : Prop := Claim7.holds Tryd.pinned (.plain (OpenSpec.upto certVotesSpec)) certVotesUptoCard
end Rows
end Go.Proofs.YtlgffgnkkihaoaaDoor
