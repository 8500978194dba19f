/-
  DERIVED. GIVEN WITH THE SEED: THE CARDS: each row of YtcinngodeoidnaaGreatDoorRows.lean that lists a variable, with what it lists TIED to the program's text (the seventh form; the later family's looks); each row that meets fmt, with fmt's text TOLD by the authors' own Lean function (tested against real Go, not proved from fmt's source: count such statements apart). THE CARD IS WHAT COUNTS. Prove the row's statement (the work); the ties are given (YtcinngodeoidnaaGreatDoorTie.lean); close each card by the builder's one call (the guide's Derived/Test/ToyasCard.lean, 'card_holds'). Laid BY PROGRAM, IN A SANDBOX (cutbox-door.mjs). By AI agents, Wed Nov 11 2026. No macro, syntax, notation, axiom, sorry.
-/
import Derived.Test.YtcinngodeoidnaaGreatDoorRows
import GoSem.ClaimSeven
namespace Go.Proofs.YtcinngodeoidnaaGreatDoor
namespace Rows

/-- THE TIED CARD OF 'laws.FnParabolic'. -/
def fnParabolicCard : Claim7 := { stood := { row := fnParabolicRow, standIns := [], harness := (true, "2beebd9f74725f38a29d9bc5bc39d00234c9661a135da96f99e0fa95e06911c4"), looks := false }, kinds := [], alts := [], laidByText := true, laidKinds := [.data, .pinned], laidTests := true, laidLooks := .later }
def FnParabolicCardSaid : Prop := Claim7.holds Tryz.pinned (.plain (OpenSpec.ofChange fnParabolicSpec)) fnParabolicCard

/-- THE TIED CARD OF 'laws.FnClasses'. -/
def fnClassesCard : Claim7 := { stood := { row := fnClassesRow, standIns := [], harness := (true, "2beebd9f74725f38a29d9bc5bc39d00234c9661a135da96f99e0fa95e06911c4"), looks := false }, kinds := [], alts := [], laidByText := true, laidKinds := [.data, .pinned], laidTests := true, laidLooks := .later }
def FnClassesCardSaid : Prop := Claim7.holds Tryz.pinned (.plain (OpenSpec.ofChange fnClassesSpec)) fnClassesCard

/-- THE SECOND FORM's CARD OF 'laws.FnParabolic'. -/
def fnParabolicUptoCard : Claim7 := { stood := { row := fnParabolicUptoRow, standIns := [], harness := (true, "2beebd9f74725f38a29d9bc5bc39d00234c9661a135da96f99e0fa95e06911c4"), looks := false }, kinds := [], alts := [], laidByText := true, laidKinds := [.data, .pinned], laidTests := true, laidLooks := .later }
def FnParabolicUptoCardSaid : Prop := Claim7.holds Tryz.pinned (.plain (OpenSpec.upto fnParabolicSpec)) fnParabolicUptoCard

/-- THE SECOND FORM's CARD OF 'laws.FnClasses'. -/
def fnClassesUptoCard : Claim7 := { stood := { row := fnClassesUptoRow, standIns := [], harness := (true, "2beebd9f74725f38a29d9bc5bc39d00234c9661a135da96f99e0fa95e06911c4"), looks := false }, kinds := [], alts := [], laidByText := true, laidKinds := [.data, .pinned], laidTests := true, laidLooks := .later }
def FnClassesUptoCardSaid : Prop := Claim7.holds Tryz.pinned (.plain (OpenSpec.upto fnClassesSpec)) fnClassesUptoCard
end Rows
end Go.Proofs.YtcinngodeoidnaaGreatDoor
