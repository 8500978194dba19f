/-
  DERIVED. GIVEN WITH THE SEED: THE CARDS: each row of YtaghdbbcadhjdaaGreatDoorRows.lean that lists a variable, with what it lists TIED to the program's text (the seventh form; the later family's looks); each row that meets fmt, with fmt's text TOLD by the authors' own Lean function (tested against real Go, not proved from fmt's source: count such statements apart). THE CARD IS WHAT COUNTS. Prove the row's statement (the work); the ties are given (YtaghdbbcadhjdaaGreatDoorTie.lean); close each card by the builder's one call (the guide's Derived/Test/ToyasCard.lean, 'card_holds'). Laid BY PROGRAM, IN A SANDBOX (cutbox-door.mjs). By AI agents, Wed Nov 11 2026. No macro, syntax, notation, axiom, sorry.
-/
import Derived.Test.YtaghdbbcadhjdaaGreatDoorRows
import GoSem.ClaimSeven
namespace Go.Proofs.YtaghdbbcadhjdaaGreatDoor
namespace Rows

/-- THE TIED CARD OF 'laws.FnExactLeftTable'. -/
def fnExactLeftTableCard : Claim7 := { stood := { row := fnExactLeftTableRow, standIns := [], harness := (true, "443641165c959ad9f3d8e32626d4915ce738a37b8355d601d242426d32410f1c"), looks := false }, kinds := [], alts := [], laidByText := true, laidKinds := [.data, .pinned], laidTests := true, laidLooks := .later }
def FnExactLeftTableCardSaid : Prop := Claim7.holds Tryz.pinned (.plain (OpenSpec.ofChange fnExactLeftTableSpec)) fnExactLeftTableCard

/-- THE TIED CARD OF 'laws.FnExactCosetLeaders'. -/
def fnExactCosetLeadersCard : Claim7 := { stood := { row := fnExactCosetLeadersRow, standIns := [], harness := (true, "443641165c959ad9f3d8e32626d4915ce738a37b8355d601d242426d32410f1c"), looks := false }, kinds := [], alts := [], laidByText := true, laidKinds := [.data, .pinned], laidTests := true, laidLooks := .later }
def FnExactCosetLeadersCardSaid : Prop := Claim7.holds Tryz.pinned (.plain (OpenSpec.ofChange fnExactCosetLeadersSpec)) fnExactCosetLeadersCard

/-- THE TIED CARD OF 'laws.FnExactCentralElements'. -/
def fnExactCentralElementsCard : Claim7 := { stood := { row := fnExactCentralElementsRow, standIns := [], harness := (true, "443641165c959ad9f3d8e32626d4915ce738a37b8355d601d242426d32410f1c"), looks := false }, kinds := [], alts := [], laidByText := true, laidKinds := [.data, .pinned], laidTests := true, laidLooks := .later }
def FnExactCentralElementsCardSaid : Prop := Claim7.holds Tryz.pinned (.plain (OpenSpec.ofChange fnExactCentralElementsSpec)) fnExactCentralElementsCard

/-- THE TIED CARD OF 'laws.FnExactOrderCounts'. -/
def fnExactOrderCountsCard : Claim7 := { stood := { row := fnExactOrderCountsRow, standIns := [], harness := (true, "443641165c959ad9f3d8e32626d4915ce738a37b8355d601d242426d32410f1c"), looks := false }, kinds := [], alts := [], laidByText := true, laidKinds := [.data, .pinned], laidTests := true, laidLooks := .later }
def FnExactOrderCountsCardSaid : Prop := Claim7.holds Tryz.pinned (.plain (OpenSpec.ofChange fnExactOrderCountsSpec)) fnExactOrderCountsCard

/-- THE TIED CARD OF 'laws.FnExactConjugacyClasses'. -/
def fnExactConjugacyClassesCard : Claim7 := { stood := { row := fnExactConjugacyClassesRow, standIns := [], harness := (true, "443641165c959ad9f3d8e32626d4915ce738a37b8355d601d242426d32410f1c"), looks := false }, kinds := [], alts := [], laidByText := true, laidKinds := [.data, .pinned], laidTests := true, laidLooks := .later }
def FnExactConjugacyClassesCardSaid : Prop := Claim7.holds Tryz.pinned (.plain (OpenSpec.ofChange fnExactConjugacyClassesSpec)) fnExactConjugacyClassesCard

/-- THE TIED CARD OF 'laws.FnExactAreConjugate'. -/
def fnExactAreConjugateCard : Claim7 := { stood := { row := fnExactAreConjugateRow, standIns := [], harness := (true, "443641165c959ad9f3d8e32626d4915ce738a37b8355d601d242426d32410f1c"), looks := false }, kinds := [], alts := [], laidByText := true, laidKinds := [.data, .pinned], laidTests := true, laidLooks := .later }
def FnExactAreConjugateCardSaid : Prop := Claim7.holds Tryz.pinned (.plain (OpenSpec.ofChange fnExactAreConjugateSpec)) fnExactAreConjugateCard

/-- THE SECOND FORM's CARD OF 'laws.FnExactLeftTable'. -/
def fnExactLeftTableUptoCard : Claim7 := { stood := { row := fnExactLeftTableUptoRow, standIns := [], harness := (true, "443641165c959ad9f3d8e32626d4915ce738a37b8355d601d242426d32410f1c"), looks := false }, kinds := [], alts := [], laidByText := true, laidKinds := [.data, .pinned], laidTests := true, laidLooks := .later }
def FnExactLeftTableUptoCardSaid : Prop := Claim7.holds Tryz.pinned (.plain (OpenSpec.upto fnExactLeftTableSpec)) fnExactLeftTableUptoCard

/-- THE SECOND FORM's CARD OF 'laws.FnExactCosetLeaders'. -/
def fnExactCosetLeadersUptoCard : Claim7 := { stood := { row := fnExactCosetLeadersUptoRow, standIns := [], harness := (true, "443641165c959ad9f3d8e32626d4915ce738a37b8355d601d242426d32410f1c"), looks := false }, kinds := [], alts := [], laidByText := true, laidKinds := [.data, .pinned], laidTests := true, laidLooks := .later }
def FnExactCosetLeadersUptoCardSaid : Prop := Claim7.holds Tryz.pinned (.plain (OpenSpec.upto fnExactCosetLeadersSpec)) fnExactCosetLeadersUptoCard

/-- THE SECOND FORM's CARD OF 'laws.FnExactCentralElements'. -/
def fnExactCentralElementsUptoCard : Claim7 := { stood := { row := fnExactCentralElementsUptoRow, standIns := [], harness := (true, "443641165c959ad9f3d8e32626d4915ce738a37b8355d601d242426d32410f1c"), looks := false }, kinds := [], alts := [], laidByText := true, laidKinds := [.data, .pinned], laidTests := true, laidLooks := .later }
def FnExactCentralElementsUptoCardSaid : Prop := Claim7.holds Tryz.pinned (.plain (OpenSpec.upto fnExactCentralElementsSpec)) fnExactCentralElementsUptoCard

/-- THE SECOND FORM's CARD OF 'laws.FnExactOrderCounts'. -/
def fnExactOrderCountsUptoCard : Claim7 := { stood := { row := fnExactOrderCountsUptoRow, standIns := [], harness := (true, "443641165c959ad9f3d8e32626d4915ce738a37b8355d601d242426d32410f1c"), looks := false }, kinds := [], alts := [], laidByText := true, laidKinds := [.data, .pinned], laidTests := true, laidLooks := .later }
def FnExactOrderCountsUptoCardSaid : Prop := Claim7.holds Tryz.pinned (.plain (OpenSpec.upto fnExactOrderCountsSpec)) fnExactOrderCountsUptoCard

/-- THE SECOND FORM's CARD OF 'laws.FnExactConjugacyClasses'. -/
def fnExactConjugacyClassesUptoCard : Claim7 := { stood := { row := fnExactConjugacyClassesUptoRow, standIns := [], harness := (true, "443641165c959ad9f3d8e32626d4915ce738a37b8355d601d242426d32410f1c"), looks := false }, kinds := [], alts := [], laidByText := true, laidKinds := [.data, .pinned], laidTests := true, laidLooks := .later }
def FnExactConjugacyClassesUptoCardSaid : Prop := Claim7.holds Tryz.pinned (.plain (OpenSpec.upto fnExactConjugacyClassesSpec)) fnExactConjugacyClassesUptoCard

/-- THE SECOND FORM's CARD OF 'laws.FnExactAreConjugate'. -/
def fnExactAreConjugateUptoCard : Claim7 := { stood := { row := fnExactAreConjugateUptoRow, standIns := [], harness := (true, "443641165c959ad9f3d8e32626d4915ce738a37b8355d601d242426d32410f1c"), looks := false }, kinds := [], alts := [], laidByText := true, laidKinds := [.data, .pinned], laidTests := true, laidLooks := .later }
def FnExactAreConjugateUptoCardSaid : Prop := Claim7.holds Tryz.pinned (.plain (OpenSpec.upto fnExactAreConjugateSpec)) fnExactAreConjugateUptoCard
end Rows
end Go.Proofs.YtaghdbbcadhjdaaGreatDoor
