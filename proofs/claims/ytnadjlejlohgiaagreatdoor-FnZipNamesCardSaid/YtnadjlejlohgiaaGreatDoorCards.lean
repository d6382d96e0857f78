/-
  DERIVED. GIVEN WITH THE SEED: THE CARDS: each row of YtnadjlejlohgiaaGreatDoorRows.lean that lists a variable, with what it lists TIED to the program's text (the seventh form; the later family's looks); each row that meets fmt, with fmt's text TOLD by the authors' own Lean function (tested against real Go, not proved from fmt's source: count such statements apart). THE CARD IS WHAT COUNTS. Prove the row's statement (the work); the ties are given (YtnadjlejlohgiaaGreatDoorTie.lean); close each card by the builder's one call (the guide's Derived/Test/ToyasCard.lean, 'card_holds'). Laid BY PROGRAM, IN A SANDBOX (cutbox-door.mjs). By AI agents, Wed Nov 11 2026. No macro, syntax, notation, axiom, sorry.
-/
import Derived.Test.YtnadjlejlohgiaaGreatDoorRows
import GoSem.ClaimSeven
namespace Go.Proofs.YtnadjlejlohgiaaGreatDoor
namespace Rows

/-- THE TIED CARD OF 'laws.FnExactZipGet'. -/
def fnExactZipGetCard : Claim7 := { stood := { row := fnExactZipGetRow, standIns := [], harness := (true, "affb4e8d111960be00a578977fc332ac10354a99905930a09b0142a8246680d7"), looks := false }, kinds := [], alts := [], laidByText := true, laidKinds := [.data, .widerDeep, .pinned], laidTests := true, laidLooks := .later }
def FnExactZipGetCardSaid : Prop := Claim7.holds Tryz.pinned (.plain (OpenSpec.ofChange fnExactZipGetSpec)) fnExactZipGetCard

/-- THE TIED CARD OF 'laws.FnZipFind'. -/
def fnZipFindCard : Claim7 := { stood := { row := fnZipFindRow, standIns := [], harness := (true, "affb4e8d111960be00a578977fc332ac10354a99905930a09b0142a8246680d7"), looks := false }, kinds := [], alts := [], laidByText := true, laidKinds := [.data, .widerDeep, .pinned], laidTests := true, laidLooks := .later }
def FnZipFindCardSaid : Prop := Claim7.holds Tryz.pinned (.plain (OpenSpec.ofChange fnZipFindSpec)) fnZipFindCard

/-- THE TIED CARD OF 'laws.FnZipNames'. -/
def fnZipNamesCard : Claim7 := { stood := { row := fnZipNamesRow, standIns := [], harness := (true, "affb4e8d111960be00a578977fc332ac10354a99905930a09b0142a8246680d7"), looks := false }, kinds := [], alts := [], laidByText := true, laidKinds := [.data, .widerDeep, .pinned], laidTests := true, laidLooks := .later }
def FnZipNamesCardSaid : Prop := Claim7.holds Tryz.pinned (.plain (OpenSpec.ofChange fnZipNamesSpec)) fnZipNamesCard

/-- THE TIED CARD OF 'laws.FnLocalShort'. -/
def fnLocalShortCard : Claim7 := { stood := { row := fnLocalShortRow, standIns := [], harness := (true, "affb4e8d111960be00a578977fc332ac10354a99905930a09b0142a8246680d7"), looks := false }, kinds := [], alts := [], laidByText := true, laidKinds := [.data, .widerDeep, .pinned], laidTests := true, laidLooks := .later }
def FnLocalShortCardSaid : Prop := Claim7.holds Tryz.pinned (.plain (OpenSpec.ofChange fnLocalShortSpec)) fnLocalShortCard

/-- THE TIED CARD OF 'laws.FnExactZipFind'. -/
def fnExactZipFindCard : Claim7 := { stood := { row := fnExactZipFindRow, standIns := [], harness := (true, "affb4e8d111960be00a578977fc332ac10354a99905930a09b0142a8246680d7"), looks := false }, kinds := [], alts := [], laidByText := true, laidKinds := [.data, .widerDeep, .pinned], laidTests := true, laidLooks := .later }
def FnExactZipFindCardSaid : Prop := Claim7.holds Tryz.pinned (.plain (OpenSpec.ofChange fnExactZipFindSpec)) fnExactZipFindCard

/-- THE TIED CARD OF 'laws.FnExactZipNames'. -/
def fnExactZipNamesCard : Claim7 := { stood := { row := fnExactZipNamesRow, standIns := [], harness := (true, "affb4e8d111960be00a578977fc332ac10354a99905930a09b0142a8246680d7"), looks := false }, kinds := [], alts := [], laidByText := true, laidKinds := [.data, .widerDeep, .pinned], laidTests := true, laidLooks := .later }
def FnExactZipNamesCardSaid : Prop := Claim7.holds Tryz.pinned (.plain (OpenSpec.ofChange fnExactZipNamesSpec)) fnExactZipNamesCard

/-- THE SECOND FORM's CARD OF 'laws.FnExactZipGet'. -/
def fnExactZipGetUptoCard : Claim7 := { stood := { row := fnExactZipGetUptoRow, standIns := [], harness := (true, "affb4e8d111960be00a578977fc332ac10354a99905930a09b0142a8246680d7"), looks := false }, kinds := [], alts := [], laidByText := true, laidKinds := [.data, .widerDeep, .pinned], laidTests := true, laidLooks := .later }
def FnExactZipGetUptoCardSaid : Prop := Claim7.holds Tryz.pinned (.plain (OpenSpec.upto fnExactZipGetSpec)) fnExactZipGetUptoCard

/-- THE SECOND FORM's CARD OF 'laws.FnZipFind'. -/
def fnZipFindUptoCard : Claim7 := { stood := { row := fnZipFindUptoRow, standIns := [], harness := (true, "affb4e8d111960be00a578977fc332ac10354a99905930a09b0142a8246680d7"), looks := false }, kinds := [], alts := [], laidByText := true, laidKinds := [.data, .widerDeep, .pinned], laidTests := true, laidLooks := .later }
def FnZipFindUptoCardSaid : Prop := Claim7.holds Tryz.pinned (.plain (OpenSpec.upto fnZipFindSpec)) fnZipFindUptoCard

/-- THE SECOND FORM's CARD OF 'laws.FnZipNames'. -/
def fnZipNamesUptoCard : Claim7 := { stood := { row := fnZipNamesUptoRow, standIns := [], harness := (true, "affb4e8d111960be00a578977fc332ac10354a99905930a09b0142a8246680d7"), looks := false }, kinds := [], alts := [], laidByText := true, laidKinds := [.data, .widerDeep, .pinned], laidTests := true, laidLooks := .later }
def FnZipNamesUptoCardSaid : Prop := Claim7.holds Tryz.pinned (.plain (OpenSpec.upto fnZipNamesSpec)) fnZipNamesUptoCard

/-- THE SECOND FORM's CARD OF 'laws.FnLocalShort'. -/
def fnLocalShortUptoCard : Claim7 := { stood := { row := fnLocalShortUptoRow, standIns := [], harness := (true, "affb4e8d111960be00a578977fc332ac10354a99905930a09b0142a8246680d7"), looks := false }, kinds := [], alts := [], laidByText := true, laidKinds := [.data, .widerDeep, .pinned], laidTests := true, laidLooks := .later }
def FnLocalShortUptoCardSaid : Prop := Claim7.holds Tryz.pinned (.plain (OpenSpec.upto fnLocalShortSpec)) fnLocalShortUptoCard

/-- THE SECOND FORM's CARD OF 'laws.FnExactZipFind'. -/
def fnExactZipFindUptoCard : Claim7 := { stood := { row := fnExactZipFindUptoRow, standIns := [], harness := (true, "affb4e8d111960be00a578977fc332ac10354a99905930a09b0142a8246680d7"), looks := false }, kinds := [], alts := [], laidByText := true, laidKinds := [.data, .widerDeep, .pinned], laidTests := true, laidLooks := .later }
def FnExactZipFindUptoCardSaid : Prop := Claim7.holds Tryz.pinned (.plain (OpenSpec.upto fnExactZipFindSpec)) fnExactZipFindUptoCard

/-- THE SECOND FORM's CARD OF 'laws.FnExactZipNames'. -/
def fnExactZipNamesUptoCard : Claim7 := { stood := { row := fnExactZipNamesUptoRow, standIns := [], harness := (true, "affb4e8d111960be00a578977fc332ac10354a99905930a09b0142a8246680d7"), looks := false }, kinds := [], alts := [], laidByText := true, laidKinds := [.data, .widerDeep, .pinned], laidTests := true, laidLooks := .later }
def FnExactZipNamesUptoCardSaid : Prop := Claim7.holds Tryz.pinned (.plain (OpenSpec.upto fnExactZipNamesSpec)) fnExactZipNamesUptoCard
end Rows
end Go.Proofs.YtnadjlejlohgiaaGreatDoor
