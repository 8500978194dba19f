/-
  DERIVED. GIVEN WITH THE SEED: THE CARDS: each row of YtbbnfljaojfmaaaDoorRows.lean that lists a variable, with what it lists TIED to the program's text (the seventh form; the later family's looks); each row that meets fmt, with fmt's text TOLD by the authors' own Lean function (tested against real Go, not proved from fmt's source: count such statements apart). THE CARD IS WHAT COUNTS. Prove the row's statement (the work); the ties are given (YtbbnfljaojfmaaaDoorTie.lean); close each card by the builder's one call (the guide's Derived/Test/ToyasCard.lean, 'card_holds'). Laid BY PROGRAM, IN A SANDBOX (cutbox-door.mjs). By AI agents, Wed Nov 11 2026. No macro, syntax, notation, axiom, sorry.
-/
import Derived.Test.YtbbnfljaojfmaaaDoorRows
import GoSem.ClaimSeven
namespace Go.Proofs.YtbbnfljaojfmaaaDoor
namespace Rows

/-- THE TIED CARD OF 'laws.FnExactFormatPoly'. -/
def fnExactFormatPolyCard : Claim7 := { stood := { row := fnExactFormatPolyRow, standIns := [], harness := (true, "172ad0680a6b95b9c78fac248318ec4ca10e7875a7b76847ab1a9aec068ee97a"), looks := false }, kinds := [], alts := [], laidByText := true, laidKinds := [.data, .data, .data], laidTests := true, laidLooks := .later }
def FnExactFormatPolyCardSaid : Prop := Claim7.holds Tryd.pinned (.plain (OpenSpec.ofChange fnExactFormatPolySpec)) fnExactFormatPolyCard

/-- THE TIED CARD OF 'laws.FnPolynomials'. -/
def fnPolynomialsCard : Claim7 := { stood := { row := fnPolynomialsRow, standIns := [], harness := (true, "172ad0680a6b95b9c78fac248318ec4ca10e7875a7b76847ab1a9aec068ee97a"), looks := false }, kinds := [], alts := [], laidByText := true, laidKinds := [.data, .data, .data], laidTests := true, laidLooks := .later }
def FnPolynomialsCardSaid : Prop := Claim7.holds Tryd.pinned (.plain (OpenSpec.ofChange fnPolynomialsSpec)) fnPolynomialsCard

/-- THE SECOND FORM's CARD OF 'laws.FnExactFormatPoly'. -/
def fnExactFormatPolyUptoCard : Claim7 := { stood := { row := fnExactFormatPolyUptoRow, standIns := [], harness := (true, "172ad0680a6b95b9c78fac248318ec4ca10e7875a7b76847ab1a9aec068ee97a"), looks := false }, kinds := [], alts := [], laidByText := true, laidKinds := [.data, .data, .data], laidTests := true, laidLooks := .later }
def FnExactFormatPolyUptoCardSaid : Prop := Claim7.holds Tryd.pinned (.plain (OpenSpec.upto fnExactFormatPolySpec)) fnExactFormatPolyUptoCard

/-- THE SECOND FORM's CARD OF 'laws.FnPolynomials'. -/
def fnPolynomialsUptoCard : Claim7 := { stood := { row := fnPolynomialsUptoRow, standIns := [], harness := (true, "172ad0680a6b95b9c78fac248318ec4ca10e7875a7b76847ab1a9aec068ee97a"), looks := false }, kinds := [], alts := [], laidByText := true, laidKinds := [.data, .data, .data], laidTests := true, laidLooks := .later }
def FnPolynomialsUptoCardSaid : Prop := Claim7.holds Tryd.pinned (.plain (OpenSpec.upto fnPolynomialsSpec)) fnPolynomialsUptoCard
end Rows
end Go.Proofs.YtbbnfljaojfmaaaDoor
