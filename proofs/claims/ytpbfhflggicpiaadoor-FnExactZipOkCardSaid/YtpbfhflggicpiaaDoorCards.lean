/-
  DERIVED. GIVEN WITH THE SEED: THE CARDS: each row of YtpbfhflggicpiaaDoorRows.lean that lists a variable, with what it lists TIED to the program's text (the seventh form; the later family's looks); each row that meets fmt, with fmt's text TOLD by the authors' own Lean function (tested against real Go, not proved from fmt's source: count such statements apart). THE CARD IS WHAT COUNTS. Prove the row's statement (the work); the ties are given (YtpbfhflggicpiaaDoorTie.lean); close each card by the builder's one call (the guide's Derived/Test/ToyasCard.lean, 'card_holds'). Laid BY PROGRAM, IN A SANDBOX (cutbox-door.mjs). By AI agents, Wed Nov 11 2026. No macro, syntax, notation, axiom, sorry.
-/
import Derived.Test.YtpbfhflggicpiaaDoorRows
import GoSem.ClaimSeven
namespace Go.Proofs.YtpbfhflggicpiaaDoor
namespace Rows

/-- THE TIED CARD OF 'laws.FnExactNameOk'. -/
def fnExactNameOkCard : Claim7 := { stood := { row := fnExactNameOkRow, standIns := [], harness := (true, "e4475aa92aa2aef2828c1ece2bb691e16cd403210b5614d95f8f9088b2461af8"), looks := false }, kinds := [], alts := [], laidByText := true, laidKinds := [.data, .pinned], laidTests := true, laidLooks := .later }
def FnExactNameOkCardSaid : Prop := Claim7.holds Tryd.pinned (.plain (OpenSpec.ofChange fnExactNameOkSpec)) fnExactNameOkCard

/-- THE TIED CARD OF 'laws.FnName'. -/
def fnNameCard : Claim7 := { stood := { row := fnNameRow, standIns := [], harness := (true, "e4475aa92aa2aef2828c1ece2bb691e16cd403210b5614d95f8f9088b2461af8"), looks := false }, kinds := [], alts := [], laidByText := true, laidKinds := [.data, .pinned], laidTests := true, laidLooks := .later }
def FnNameCardSaid : Prop := Claim7.holds Tryd.pinned (.plain (OpenSpec.ofChange fnNameSpec)) fnNameCard

/-- THE TIED CARD OF 'laws.FnNameParts'. -/
def fnNamePartsCard : Claim7 := { stood := { row := fnNamePartsRow, standIns := [], harness := (true, "e4475aa92aa2aef2828c1ece2bb691e16cd403210b5614d95f8f9088b2461af8"), looks := false }, kinds := [], alts := [], laidByText := true, laidKinds := [.data, .pinned], laidTests := true, laidLooks := .later }
def FnNamePartsCardSaid : Prop := Claim7.holds Tryd.pinned (.plain (OpenSpec.ofChange fnNamePartsSpec)) fnNamePartsCard

/-- THE TIED CARD OF 'laws.FnExactEntryOk'. -/
def fnExactEntryOkCard : Claim7 := { stood := { row := fnExactEntryOkRow, standIns := [], harness := (true, "e4475aa92aa2aef2828c1ece2bb691e16cd403210b5614d95f8f9088b2461af8"), looks := false }, kinds := [], alts := [], laidByText := true, laidKinds := [.data, .pinned], laidTests := true, laidLooks := .later }
def FnExactEntryOkCardSaid : Prop := Claim7.holds Tryd.pinned (.plain (OpenSpec.ofChange fnExactEntryOkSpec)) fnExactEntryOkCard

/-- THE TIED CARD OF 'laws.FnEntryLess'. -/
def fnEntryLessCard : Claim7 := { stood := { row := fnEntryLessRow, standIns := [], harness := (true, "e4475aa92aa2aef2828c1ece2bb691e16cd403210b5614d95f8f9088b2461af8"), looks := false }, kinds := [], alts := [], laidByText := true, laidKinds := [.data, .pinned], laidTests := true, laidLooks := .later }
def FnEntryLessCardSaid : Prop := Claim7.holds Tryd.pinned (.plain (OpenSpec.ofChange fnEntryLessSpec)) fnEntryLessCard

/-- THE TIED CARD OF 'laws.FnExactZipOk'. -/
def fnExactZipOkCard : Claim7 := { stood := { row := fnExactZipOkRow, standIns := [], harness := (true, "e4475aa92aa2aef2828c1ece2bb691e16cd403210b5614d95f8f9088b2461af8"), looks := false }, kinds := [], alts := [], laidByText := true, laidKinds := [.data, .pinned], laidTests := true, laidLooks := .later }
def FnExactZipOkCardSaid : Prop := Claim7.holds Tryd.pinned (.plain (OpenSpec.ofChange fnExactZipOkSpec)) fnExactZipOkCard

/-- THE SECOND FORM's CARD OF 'laws.FnExactNameOk'. -/
def fnExactNameOkUptoCard : Claim7 := { stood := { row := fnExactNameOkUptoRow, standIns := [], harness := (true, "e4475aa92aa2aef2828c1ece2bb691e16cd403210b5614d95f8f9088b2461af8"), looks := false }, kinds := [], alts := [], laidByText := true, laidKinds := [.data, .pinned], laidTests := true, laidLooks := .later }
def FnExactNameOkUptoCardSaid : Prop := Claim7.holds Tryd.pinned (.plain (OpenSpec.upto fnExactNameOkSpec)) fnExactNameOkUptoCard

/-- THE SECOND FORM's CARD OF 'laws.FnName'. -/
def fnNameUptoCard : Claim7 := { stood := { row := fnNameUptoRow, standIns := [], harness := (true, "e4475aa92aa2aef2828c1ece2bb691e16cd403210b5614d95f8f9088b2461af8"), looks := false }, kinds := [], alts := [], laidByText := true, laidKinds := [.data, .pinned], laidTests := true, laidLooks := .later }
def FnNameUptoCardSaid : Prop := Claim7.holds Tryd.pinned (.plain (OpenSpec.upto fnNameSpec)) fnNameUptoCard

/-- THE SECOND FORM's CARD OF 'laws.FnNameParts'. -/
def fnNamePartsUptoCard : Claim7 := { stood := { row := fnNamePartsUptoRow, standIns := [], harness := (true, "e4475aa92aa2aef2828c1ece2bb691e16cd403210b5614d95f8f9088b2461af8"), looks := false }, kinds := [], alts := [], laidByText := true, laidKinds := [.data, .pinned], laidTests := true, laidLooks := .later }
def FnNamePartsUptoCardSaid : Prop := Claim7.holds Tryd.pinned (.plain (OpenSpec.upto fnNamePartsSpec)) fnNamePartsUptoCard

/-- THE SECOND FORM's CARD OF 'laws.FnExactEntryOk'. -/
def fnExactEntryOkUptoCard : Claim7 := { stood := { row := fnExactEntryOkUptoRow, standIns := [], harness := (true, "e4475aa92aa2aef2828c1ece2bb691e16cd403210b5614d95f8f9088b2461af8"), looks := false }, kinds := [], alts := [], laidByText := true, laidKinds := [.data, .pinned], laidTests := true, laidLooks := .later }
def FnExactEntryOkUptoCardSaid : Prop := Claim7.holds Tryd.pinned (.plain (OpenSpec.upto fnExactEntryOkSpec)) fnExactEntryOkUptoCard

/-- THE SECOND FORM's CARD OF 'laws.FnEntryLess'. -/
def fnEntryLessUptoCard : Claim7 := { stood := { row := fnEntryLessUptoRow, standIns := [], harness := (true, "e4475aa92aa2aef2828c1ece2bb691e16cd403210b5614d95f8f9088b2461af8"), looks := false }, kinds := [], alts := [], laidByText := true, laidKinds := [.data, .pinned], laidTests := true, laidLooks := .later }
def FnEntryLessUptoCardSaid : Prop := Claim7.holds Tryd.pinned (.plain (OpenSpec.upto fnEntryLessSpec)) fnEntryLessUptoCard

/-- THE SECOND FORM's CARD OF 'laws.FnExactZipOk'. -/
def fnExactZipOkUptoCard : Claim7 := { stood := { row := fnExactZipOkUptoRow, standIns := [], harness := (true, "e4475aa92aa2aef2828c1ece2bb691e16cd403210b5614d95f8f9088b2461af8"), looks := false }, kinds := [], alts := [], laidByText := true, laidKinds := [.data, .pinned], laidTests := true, laidLooks := .later }
def FnExactZipOkUptoCardSaid : Prop := Claim7.holds Tryd.pinned (.plain (OpenSpec.upto fnExactZipOkSpec)) fnExactZipOkUptoCard
end Rows
end Go.Proofs.YtpbfhflggicpiaaDoor
