/-
  DERIVED. GIVEN WITH THE SEED: THE CARDS: each row of YtjcghjgennddaaaDoorRows.lean that lists a variable, with what it lists TIED to the program's text (the seventh form; the later family's looks); each row that meets fmt, with fmt's text TOLD by the authors' own Lean function (tested against real Go, not proved from fmt's source: count such statements apart). THE CARD IS WHAT COUNTS. Prove the row's statement (the work); the ties are given (YtjcghjgennddaaaDoorTie.lean); close each card by the builder's one call (the guide's Derived/Test/ToyasCard.lean, 'card_holds'). Laid BY PROGRAM, IN A SANDBOX (cutbox-door.mjs). By AI agents, Wed Nov 11 2026. No macro, syntax, notation, axiom, sorry.
-/
import Derived.Test.YtjcghjgennddaaaDoorRows
import GoSem.ClaimSeven
namespace Go.Proofs.YtjcghjgennddaaaDoor
namespace Rows

/-- THE TIED CARD OF 'wapentakelaw01.ShaSums'. -/
def shaSumsCard : Claim7 := { stood := { row := shaSumsRow, standIns := [], harness := (true, "ba90a73004fb08bad03fd7779bd128d7965c3844de10c82ed3775359921acd13"), looks := false }, kinds := [], alts := [], laidByText := true, laidKinds := [.data], laidTests := true, laidLooks := .later }
def ShaSumsCardSaid : Prop := Claim7.holds Tryd.pinned (.plain (OpenSpec.ofChange shaSumsSpec)) shaSumsCard

/-- THE TIED CARD OF 'wapentakelaw01.ShaJoins'. -/
def shaJoinsCard : Claim7 := { stood := { row := shaJoinsRow, standIns := [], harness := (true, "ba90a73004fb08bad03fd7779bd128d7965c3844de10c82ed3775359921acd13"), looks := false }, kinds := [], alts := [], laidByText := true, laidKinds := [.data], laidTests := true, laidLooks := .later }
def ShaJoinsCardSaid : Prop := Claim7.holds Tryd.pinned (.plain (OpenSpec.ofChange shaJoinsSpec)) shaJoinsCard

/-- THE TIED CARD OF 'wapentakelaw01.ShaPieces'. -/
def shaPiecesCard : Claim7 := { stood := { row := shaPiecesRow, standIns := [], harness := (true, "ba90a73004fb08bad03fd7779bd128d7965c3844de10c82ed3775359921acd13"), looks := false }, kinds := [], alts := [], laidByText := true, laidKinds := [.data], laidTests := true, laidLooks := .later }
def ShaPiecesCardSaid : Prop := Claim7.holds Tryd.pinned (.plain (OpenSpec.ofChange shaPiecesSpec)) shaPiecesCard

/-- THE TIED CARD OF 'wapentakelaw01.ShaBack'. -/
def shaBackCard : Claim7 := { stood := { row := shaBackRow, standIns := [], harness := (true, "ba90a73004fb08bad03fd7779bd128d7965c3844de10c82ed3775359921acd13"), looks := false }, kinds := [], alts := [], laidByText := true, laidKinds := [.data], laidTests := true, laidLooks := .later }
def ShaBackCardSaid : Prop := Claim7.holds Tryd.pinned (.plain (OpenSpec.ofChange shaBackSpec)) shaBackCard

/-- THE TIED CARD OF 'wapentakelaw05.SignRight'. -/
def signRightCard : Claim7 := { stood := { row := signRightRow, standIns := [], harness := (true, "ba90a73004fb08bad03fd7779bd128d7965c3844de10c82ed3775359921acd13"), looks := false }, kinds := [], alts := [], laidByText := true, laidKinds := [.data], laidTests := true, laidLooks := .later }
def SignRightCardSaid : Prop := Claim7.holds Tryd.pinned (.plain (OpenSpec.ofChange signRightSpec)) signRightCard

/-- THE TIED CARD OF 'wapentakelaw05.SignApart'. -/
def signApartCard : Claim7 := { stood := { row := signApartRow, standIns := [], harness := (true, "ba90a73004fb08bad03fd7779bd128d7965c3844de10c82ed3775359921acd13"), looks := false }, kinds := [], alts := [], laidByText := true, laidKinds := [.data], laidTests := true, laidLooks := .later }
def SignApartCardSaid : Prop := Claim7.holds Tryd.pinned (.plain (OpenSpec.ofChange signApartSpec)) signApartCard

/-- THE TIED CARD OF 'wapentakelaw05.SignBudget'. -/
def signBudgetCard : Claim7 := { stood := { row := signBudgetRow, standIns := [], harness := (true, "ba90a73004fb08bad03fd7779bd128d7965c3844de10c82ed3775359921acd13"), looks := false }, kinds := [], alts := [], laidByText := true, laidKinds := [.data], laidTests := true, laidLooks := .later }
def SignBudgetCardSaid : Prop := Claim7.holds Tryd.pinned (.plain (OpenSpec.ofChange signBudgetSpec)) signBudgetCard

/-- THE TIED CARD OF 'wapentakelaw05.SignDoes'. -/
def signDoesCard : Claim7 := { stood := { row := signDoesRow, standIns := [], harness := (true, "ba90a73004fb08bad03fd7779bd128d7965c3844de10c82ed3775359921acd13"), looks := false }, kinds := [], alts := [], laidByText := true, laidKinds := [.data], laidTests := true, laidLooks := .later }
def SignDoesCardSaid : Prop := Claim7.holds Tryd.pinned (.plain (OpenSpec.ofChange signDoesSpec)) signDoesCard

/-- THE TIED CARD OF 'wapentakelaw05.SignOnce'. -/
def signOnceCard : Claim7 := { stood := { row := signOnceRow, standIns := [], harness := (true, "ba90a73004fb08bad03fd7779bd128d7965c3844de10c82ed3775359921acd13"), looks := false }, kinds := [], alts := [], laidByText := true, laidKinds := [.data], laidTests := true, laidLooks := .later }
def SignOnceCardSaid : Prop := Claim7.holds Tryd.pinned (.plain (OpenSpec.ofChange signOnceSpec)) signOnceCard

/-- THE TIED CARD OF 'wapentakelaw05.SignReuse'. -/
def signReuseCard : Claim7 := { stood := { row := signReuseRow, standIns := [], harness := (true, "ba90a73004fb08bad03fd7779bd128d7965c3844de10c82ed3775359921acd13"), looks := false }, kinds := [], alts := [], laidByText := true, laidKinds := [.data], laidTests := true, laidLooks := .later }
def SignReuseCardSaid : Prop := Claim7.holds Tryd.pinned (.plain (OpenSpec.ofChange signReuseSpec)) signReuseCard

/-- THE SECOND FORM's CARD OF 'wapentakelaw01.ShaSums'. -/
def shaSumsUptoCard : Claim7 := { stood := { row := shaSumsUptoRow, standIns := [], harness := (true, "ba90a73004fb08bad03fd7779bd128d7965c3844de10c82ed3775359921acd13"), looks := false }, kinds := [], alts := [], laidByText := true, laidKinds := [.data], laidTests := true, laidLooks := .later }
def ShaSumsUptoCardSaid : Prop := Claim7.holds Tryd.pinned (.plain (OpenSpec.upto shaSumsSpec)) shaSumsUptoCard

/-- THE SECOND FORM's CARD OF 'wapentakelaw01.ShaJoins'. -/
def shaJoinsUptoCard : Claim7 := { stood := { row := shaJoinsUptoRow, standIns := [], harness := (true, "ba90a73004fb08bad03fd7779bd128d7965c3844de10c82ed3775359921acd13"), looks := false }, kinds := [], alts := [], laidByText := true, laidKinds := [.data], laidTests := true, laidLooks := .later }
def ShaJoinsUptoCardSaid : Prop := Claim7.holds Tryd.pinned (.plain (OpenSpec.upto shaJoinsSpec)) shaJoinsUptoCard

/-- THE SECOND FORM's CARD OF 'wapentakelaw01.ShaPieces'. -/
def shaPiecesUptoCard : Claim7 := { stood := { row := shaPiecesUptoRow, standIns := [], harness := (true, "ba90a73004fb08bad03fd7779bd128d7965c3844de10c82ed3775359921acd13"), looks := false }, kinds := [], alts := [], laidByText := true, laidKinds := [.data], laidTests := true, laidLooks := .later }
def ShaPiecesUptoCardSaid : Prop := Claim7.holds Tryd.pinned (.plain (OpenSpec.upto shaPiecesSpec)) shaPiecesUptoCard

/-- THE SECOND FORM's CARD OF 'wapentakelaw01.ShaBack'. -/
def shaBackUptoCard : Claim7 := { stood := { row := shaBackUptoRow, standIns := [], harness := (true, "ba90a73004fb08bad03fd7779bd128d7965c3844de10c82ed3775359921acd13"), looks := false }, kinds := [], alts := [], laidByText := true, laidKinds := [.data], laidTests := true, laidLooks := .later }
def ShaBackUptoCardSaid : Prop := Claim7.holds Tryd.pinned (.plain (OpenSpec.upto shaBackSpec)) shaBackUptoCard

/-- THE SECOND FORM's CARD OF 'wapentakelaw05.SignRight'. -/
def signRightUptoCard : Claim7 := { stood := { row := signRightUptoRow, standIns := [], harness := (true, "ba90a73004fb08bad03fd7779bd128d7965c3844de10c82ed3775359921acd13"), looks := false }, kinds := [], alts := [], laidByText := true, laidKinds := [.data], laidTests := true, laidLooks := .later }
def SignRightUptoCardSaid : Prop := Claim7.holds Tryd.pinned (.plain (OpenSpec.upto signRightSpec)) signRightUptoCard

/-- THE SECOND FORM's CARD OF 'wapentakelaw05.SignApart'. -/
def signApartUptoCard : Claim7 := { stood := { row := signApartUptoRow, standIns := [], harness := (true, "ba90a73004fb08bad03fd7779bd128d7965c3844de10c82ed3775359921acd13"), looks := false }, kinds := [], alts := [], laidByText := true, laidKinds := [.data], laidTests := true, laidLooks := .later }
def SignApartUptoCardSaid : Prop := Claim7.holds Tryd.pinned (.plain (OpenSpec.upto signApartSpec)) signApartUptoCard

/-- THE SECOND FORM's CARD OF 'wapentakelaw05.SignBudget'. -/
def signBudgetUptoCard : Claim7 := { stood := { row := signBudgetUptoRow, standIns := [], harness := (true, "ba90a73004fb08bad03fd7779bd128d7965c3844de10c82ed3775359921acd13"), looks := false }, kinds := [], alts := [], laidByText := true, laidKinds := [.data], laidTests := true, laidLooks := .later }
def SignBudgetUptoCardSaid : Prop := Claim7.holds Tryd.pinned (.plain (OpenSpec.upto signBudgetSpec)) signBudgetUptoCard

/-- THE SECOND FORM's CARD OF 'wapentakelaw05.SignDoes'. -/
def signDoesUptoCard : Claim7 := { stood := { row := signDoesUptoRow, standIns := [], harness := (true, "ba90a73004fb08bad03fd7779bd128d7965c3844de10c82ed3775359921acd13"), looks := false }, kinds := [], alts := [], laidByText := true, laidKinds := [.data], laidTests := true, laidLooks := .later }
def SignDoesUptoCardSaid : Prop := Claim7.holds Tryd.pinned (.plain (OpenSpec.upto signDoesSpec)) signDoesUptoCard

/-- THE SECOND FORM's CARD OF 'wapentakelaw05.SignOnce'. -/
def signOnceUptoCard : Claim7 := { stood := { row := signOnceUptoRow, standIns := [], harness := (true, "ba90a73004fb08bad03fd7779bd128d7965c3844de10c82ed3775359921acd13"), looks := false }, kinds := [], alts := [], laidByText := true, laidKinds := [.data], laidTests := true, laidLooks := .later }
def SignOnceUptoCardSaid : Prop := Claim7.holds Tryd.pinned (.plain (OpenSpec.upto signOnceSpec)) signOnceUptoCard

/-- THE SECOND FORM's CARD OF 'wapentakelaw05.SignReuse'. -/
def signReuseUptoCard : Claim7 := { stood := { row := signReuseUptoRow, standIns := [], harness := (true, "ba90a73004fb08bad03fd7779bd128d7965c3844de10c82ed3775359921acd13"), looks := false }, kinds := [], alts := [], laidByText := true, laidKinds := [.data], laidTests := true, laidLooks := .later }
def SignReuseUptoCardSaid : Prop := Claim7.holds Tryd.pinned (.plain (OpenSpec.upto signReuseSpec)) signReuseUptoCard
end Rows
end Go.Proofs.YtjcghjgennddaaaDoor
