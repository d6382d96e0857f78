/-
  DERIVED. GIVEN WITH THE SEED: THE CARDS: each row of YtncidljdfipigaaDoorRows.lean that lists a variable, with what it lists TIED to the program's text (the seventh form; the later family's looks); each row that meets fmt, with fmt's text TOLD by the authors' own Lean function (tested against real Go, not proved from fmt's source: count such statements apart). THE CARD IS WHAT COUNTS. Prove the row's statement (the work); the ties are given (YtncidljdfipigaaDoorTie.lean); close each card by the builder's one call (the guide's Derived/Test/ToyasCard.lean, 'card_holds'). Laid BY PROGRAM, IN A SANDBOX (cutbox-door.mjs). By AI agents, Wed Nov 11 2026. No macro, syntax, notation, axiom, sorry.
-/
import Derived.Test.YtncidljdfipigaaDoorRows
import GoSem.ClaimSeven
namespace Go.Proofs.YtncidljdfipigaaDoor
namespace Rows

/-- THE TIED CARD OF 'laws.FnStoreBad'. -/
def fnStoreBadCard : Claim7 := { stood := { row := fnStoreBadRow, standIns := [], harness := (true, "9499a2aa31b6cc3abe59bf68d71ac79ef09febaaba40f7192b703e7048055941"), looks := false }, kinds := [], alts := [], laidByText := true, laidKinds := [.widerDeep], laidTests := true, laidLooks := .later }
def FnStoreBadCardSaid : Prop := Claim7.holds Tryd.pinned (.plain (OpenSpec.ofChange fnStoreBadSpec)) fnStoreBadCard

/-- THE TIED CARD OF 'laws.FnStore'. -/
def fnStoreCard : Claim7 := { stood := { row := fnStoreRow, standIns := [], harness := (true, "9499a2aa31b6cc3abe59bf68d71ac79ef09febaaba40f7192b703e7048055941"), looks := false }, kinds := [], alts := [], laidByText := true, laidKinds := [.widerDeep], laidTests := true, laidLooks := .later }
def FnStoreCardSaid : Prop := Claim7.holds Tryd.pinned (.plain (OpenSpec.ofChange fnStoreSpec)) fnStoreCard

/-- THE TIED CARD OF 'laws.FnStoreTwo'. -/
def fnStoreTwoCard : Claim7 := { stood := { row := fnStoreTwoRow, standIns := [], harness := (true, "9499a2aa31b6cc3abe59bf68d71ac79ef09febaaba40f7192b703e7048055941"), looks := false }, kinds := [], alts := [], laidByText := true, laidKinds := [.widerDeep], laidTests := true, laidLooks := .later }
def FnStoreTwoCardSaid : Prop := Claim7.holds Tryd.pinned (.plain (OpenSpec.ofChange fnStoreTwoSpec)) fnStoreTwoCard

/-- THE TIED CARD OF 'laws.FnExactOwnPut'. -/
def fnExactOwnPutCard : Claim7 := { stood := { row := fnExactOwnPutRow, standIns := [], harness := (true, "9499a2aa31b6cc3abe59bf68d71ac79ef09febaaba40f7192b703e7048055941"), looks := false }, kinds := [], alts := [], laidByText := true, laidKinds := [.widerDeep], laidTests := true, laidLooks := .later }
def FnExactOwnPutCardSaid : Prop := Claim7.holds Tryd.pinned (.plain (OpenSpec.ofChange fnExactOwnPutSpec)) fnExactOwnPutCard

/-- THE TIED CARD OF 'laws.FnExactFlateGet'. -/
def fnExactFlateGetCard : Claim7 := { stood := { row := fnExactFlateGetRow, standIns := [], harness := (true, "9499a2aa31b6cc3abe59bf68d71ac79ef09febaaba40f7192b703e7048055941"), looks := false }, kinds := [], alts := [], laidByText := true, laidKinds := [.widerDeep], laidTests := true, laidLooks := .later }
def FnExactFlateGetCardSaid : Prop := Claim7.holds Tryd.pinned (.plain (OpenSpec.ofChange fnExactFlateGetSpec)) fnExactFlateGetCard

/-- THE TIED CARD OF 'laws.FnExactFlateKind'. -/
def fnExactFlateKindCard : Claim7 := { stood := { row := fnExactFlateKindRow, standIns := [], harness := (true, "9499a2aa31b6cc3abe59bf68d71ac79ef09febaaba40f7192b703e7048055941"), looks := false }, kinds := [], alts := [], laidByText := true, laidKinds := [.widerDeep], laidTests := true, laidLooks := .later }
def FnExactFlateKindCardSaid : Prop := Claim7.holds Tryd.pinned (.plain (OpenSpec.ofChange fnExactFlateKindSpec)) fnExactFlateKindCard

/-- THE TIED CARD OF 'laws.FnFixed'. -/
def fnFixedCard : Claim7 := { stood := { row := fnFixedRow, standIns := [], harness := (true, "9499a2aa31b6cc3abe59bf68d71ac79ef09febaaba40f7192b703e7048055941"), looks := false }, kinds := [], alts := [], laidByText := true, laidKinds := [.widerDeep], laidTests := true, laidLooks := .later }
def FnFixedCardSaid : Prop := Claim7.holds Tryd.pinned (.plain (OpenSpec.ofChange fnFixedSpec)) fnFixedCard

/-- THE TIED CARD OF 'laws.FnExactFlatePut'. -/
def fnExactFlatePutCard : Claim7 := { stood := { row := fnExactFlatePutRow, standIns := [], harness := (true, "9499a2aa31b6cc3abe59bf68d71ac79ef09febaaba40f7192b703e7048055941"), looks := false }, kinds := [], alts := [], laidByText := true, laidKinds := [.widerDeep], laidTests := true, laidLooks := .later }
def FnExactFlatePutCardSaid : Prop := Claim7.holds Tryd.pinned (.plain (OpenSpec.ofChange fnExactFlatePutSpec)) fnExactFlatePutCard

/-- THE TIED CARD OF 'laws.FnFlateShort'. -/
def fnFlateShortCard : Claim7 := { stood := { row := fnFlateShortRow, standIns := [], harness := (true, "9499a2aa31b6cc3abe59bf68d71ac79ef09febaaba40f7192b703e7048055941"), looks := false }, kinds := [], alts := [], laidByText := true, laidKinds := [.widerDeep], laidTests := true, laidLooks := .later }
def FnFlateShortCardSaid : Prop := Claim7.holds Tryd.pinned (.plain (OpenSpec.ofChange fnFlateShortSpec)) fnFlateShortCard

/-- THE TIED CARD OF 'laws.FnOwn'. -/
def fnOwnCard : Claim7 := { stood := { row := fnOwnRow, standIns := [], harness := (true, "9499a2aa31b6cc3abe59bf68d71ac79ef09febaaba40f7192b703e7048055941"), looks := false }, kinds := [], alts := [], laidByText := true, laidKinds := [.widerDeep], laidTests := true, laidLooks := .later }
def FnOwnCardSaid : Prop := Claim7.holds Tryd.pinned (.plain (OpenSpec.ofChange fnOwnSpec)) fnOwnCard

/-- THE TIED CARD OF 'laws.FnFlateMany'. -/
def fnFlateManyCard : Claim7 := { stood := { row := fnFlateManyRow, standIns := [], harness := (true, "9499a2aa31b6cc3abe59bf68d71ac79ef09febaaba40f7192b703e7048055941"), looks := false }, kinds := [], alts := [], laidByText := true, laidKinds := [.widerDeep], laidTests := true, laidLooks := .later }
def FnFlateManyCardSaid : Prop := Claim7.holds Tryd.pinned (.plain (OpenSpec.ofChange fnFlateManySpec)) fnFlateManyCard

/-- THE TIED CARD OF 'laws.FnFlateGet'. -/
def fnFlateGetCard : Claim7 := { stood := { row := fnFlateGetRow, standIns := [], harness := (true, "9499a2aa31b6cc3abe59bf68d71ac79ef09febaaba40f7192b703e7048055941"), looks := false }, kinds := [], alts := [], laidByText := true, laidKinds := [.widerDeep], laidTests := true, laidLooks := .later }
def FnFlateGetCardSaid : Prop := Claim7.holds Tryd.pinned (.plain (OpenSpec.ofChange fnFlateGetSpec)) fnFlateGetCard

/-- THE TIED CARD OF 'laws.FnFlate'. -/
def fnFlateCard : Claim7 := { stood := { row := fnFlateRow, standIns := [], harness := (true, "9499a2aa31b6cc3abe59bf68d71ac79ef09febaaba40f7192b703e7048055941"), looks := false }, kinds := [], alts := [], laidByText := true, laidKinds := [.widerDeep], laidTests := true, laidLooks := .later }
def FnFlateCardSaid : Prop := Claim7.holds Tryd.pinned (.plain (OpenSpec.ofChange fnFlateSpec)) fnFlateCard

/-- THE TIED CARD OF 'laws.FnFlateTwo'. -/
def fnFlateTwoCard : Claim7 := { stood := { row := fnFlateTwoRow, standIns := [], harness := (true, "9499a2aa31b6cc3abe59bf68d71ac79ef09febaaba40f7192b703e7048055941"), looks := false }, kinds := [], alts := [], laidByText := true, laidKinds := [.widerDeep], laidTests := true, laidLooks := .later }
def FnFlateTwoCardSaid : Prop := Claim7.holds Tryd.pinned (.plain (OpenSpec.ofChange fnFlateTwoSpec)) fnFlateTwoCard

/-- THE TIED CARD OF 'laws.FnFlateBad'. -/
def fnFlateBadCard : Claim7 := { stood := { row := fnFlateBadRow, standIns := [], harness := (true, "9499a2aa31b6cc3abe59bf68d71ac79ef09febaaba40f7192b703e7048055941"), looks := false }, kinds := [], alts := [], laidByText := true, laidKinds := [.widerDeep], laidTests := true, laidLooks := .later }
def FnFlateBadCardSaid : Prop := Claim7.holds Tryd.pinned (.plain (OpenSpec.ofChange fnFlateBadSpec)) fnFlateBadCard

/-- THE TIED CARD OF 'laws.FnFlateKinds'. -/
def fnFlateKindsCard : Claim7 := { stood := { row := fnFlateKindsRow, standIns := [], harness := (true, "9499a2aa31b6cc3abe59bf68d71ac79ef09febaaba40f7192b703e7048055941"), looks := false }, kinds := [], alts := [], laidByText := true, laidKinds := [.widerDeep], laidTests := true, laidLooks := .later }
def FnFlateKindsCardSaid : Prop := Claim7.holds Tryd.pinned (.plain (OpenSpec.ofChange fnFlateKindsSpec)) fnFlateKindsCard

/-- THE TIED CARD OF 'laws.FnExactLocalGet'. -/
def fnExactLocalGetCard : Claim7 := { stood := { row := fnExactLocalGetRow, standIns := [], harness := (true, "9499a2aa31b6cc3abe59bf68d71ac79ef09febaaba40f7192b703e7048055941"), looks := false }, kinds := [], alts := [], laidByText := true, laidKinds := [.data, .widerDeep, .pinned], laidTests := true, laidLooks := .later }
def FnExactLocalGetCardSaid : Prop := Claim7.holds Tryd.pinned (.plain (OpenSpec.ofChange fnExactLocalGetSpec)) fnExactLocalGetCard

/-- THE TIED CARD OF 'laws.FnExactLocalPut'. -/
def fnExactLocalPutCard : Claim7 := { stood := { row := fnExactLocalPutRow, standIns := [], harness := (true, "9499a2aa31b6cc3abe59bf68d71ac79ef09febaaba40f7192b703e7048055941"), looks := false }, kinds := [], alts := [], laidByText := true, laidKinds := [.data, .widerDeep, .pinned], laidTests := true, laidLooks := .later }
def FnExactLocalPutCardSaid : Prop := Claim7.holds Tryd.pinned (.plain (OpenSpec.ofChange fnExactLocalPutSpec)) fnExactLocalPutCard

/-- THE SECOND FORM's CARD OF 'laws.FnStoreBad'. -/
def fnStoreBadUptoCard : Claim7 := { stood := { row := fnStoreBadUptoRow, standIns := [], harness := (true, "9499a2aa31b6cc3abe59bf68d71ac79ef09febaaba40f7192b703e7048055941"), looks := false }, kinds := [], alts := [], laidByText := true, laidKinds := [.widerDeep], laidTests := true, laidLooks := .later }
def FnStoreBadUptoCardSaid : Prop := Claim7.holds Tryd.pinned (.plain (OpenSpec.upto fnStoreBadSpec)) fnStoreBadUptoCard

/-- THE SECOND FORM's CARD OF 'laws.FnStore'. -/
def fnStoreUptoCard : Claim7 := { stood := { row := fnStoreUptoRow, standIns := [], harness := (true, "9499a2aa31b6cc3abe59bf68d71ac79ef09febaaba40f7192b703e7048055941"), looks := false }, kinds := [], alts := [], laidByText := true, laidKinds := [.widerDeep], laidTests := true, laidLooks := .later }
def FnStoreUptoCardSaid : Prop := Claim7.holds Tryd.pinned (.plain (OpenSpec.upto fnStoreSpec)) fnStoreUptoCard

/-- THE SECOND FORM's CARD OF 'laws.FnStoreTwo'. -/
def fnStoreTwoUptoCard : Claim7 := { stood := { row := fnStoreTwoUptoRow, standIns := [], harness := (true, "9499a2aa31b6cc3abe59bf68d71ac79ef09febaaba40f7192b703e7048055941"), looks := false }, kinds := [], alts := [], laidByText := true, laidKinds := [.widerDeep], laidTests := true, laidLooks := .later }
def FnStoreTwoUptoCardSaid : Prop := Claim7.holds Tryd.pinned (.plain (OpenSpec.upto fnStoreTwoSpec)) fnStoreTwoUptoCard

/-- THE SECOND FORM's CARD OF 'laws.FnExactOwnPut'. -/
def fnExactOwnPutUptoCard : Claim7 := { stood := { row := fnExactOwnPutUptoRow, standIns := [], harness := (true, "9499a2aa31b6cc3abe59bf68d71ac79ef09febaaba40f7192b703e7048055941"), looks := false }, kinds := [], alts := [], laidByText := true, laidKinds := [.widerDeep], laidTests := true, laidLooks := .later }
def FnExactOwnPutUptoCardSaid : Prop := Claim7.holds Tryd.pinned (.plain (OpenSpec.upto fnExactOwnPutSpec)) fnExactOwnPutUptoCard

/-- THE SECOND FORM's CARD OF 'laws.FnExactFlateGet'. -/
def fnExactFlateGetUptoCard : Claim7 := { stood := { row := fnExactFlateGetUptoRow, standIns := [], harness := (true, "9499a2aa31b6cc3abe59bf68d71ac79ef09febaaba40f7192b703e7048055941"), looks := false }, kinds := [], alts := [], laidByText := true, laidKinds := [.widerDeep], laidTests := true, laidLooks := .later }
def FnExactFlateGetUptoCardSaid : Prop := Claim7.holds Tryd.pinned (.plain (OpenSpec.upto fnExactFlateGetSpec)) fnExactFlateGetUptoCard

/-- THE SECOND FORM's CARD OF 'laws.FnExactFlateKind'. -/
def fnExactFlateKindUptoCard : Claim7 := { stood := { row := fnExactFlateKindUptoRow, standIns := [], harness := (true, "9499a2aa31b6cc3abe59bf68d71ac79ef09febaaba40f7192b703e7048055941"), looks := false }, kinds := [], alts := [], laidByText := true, laidKinds := [.widerDeep], laidTests := true, laidLooks := .later }
def FnExactFlateKindUptoCardSaid : Prop := Claim7.holds Tryd.pinned (.plain (OpenSpec.upto fnExactFlateKindSpec)) fnExactFlateKindUptoCard

/-- THE SECOND FORM's CARD OF 'laws.FnFixed'. -/
def fnFixedUptoCard : Claim7 := { stood := { row := fnFixedUptoRow, standIns := [], harness := (true, "9499a2aa31b6cc3abe59bf68d71ac79ef09febaaba40f7192b703e7048055941"), looks := false }, kinds := [], alts := [], laidByText := true, laidKinds := [.widerDeep], laidTests := true, laidLooks := .later }
def FnFixedUptoCardSaid : Prop := Claim7.holds Tryd.pinned (.plain (OpenSpec.upto fnFixedSpec)) fnFixedUptoCard

/-- THE SECOND FORM's CARD OF 'laws.FnExactFlatePut'. -/
def fnExactFlatePutUptoCard : Claim7 := { stood := { row := fnExactFlatePutUptoRow, standIns := [], harness := (true, "9499a2aa31b6cc3abe59bf68d71ac79ef09febaaba40f7192b703e7048055941"), looks := false }, kinds := [], alts := [], laidByText := true, laidKinds := [.widerDeep], laidTests := true, laidLooks := .later }
def FnExactFlatePutUptoCardSaid : Prop := Claim7.holds Tryd.pinned (.plain (OpenSpec.upto fnExactFlatePutSpec)) fnExactFlatePutUptoCard

/-- THE SECOND FORM's CARD OF 'laws.FnFlateShort'. -/
def fnFlateShortUptoCard : Claim7 := { stood := { row := fnFlateShortUptoRow, standIns := [], harness := (true, "9499a2aa31b6cc3abe59bf68d71ac79ef09febaaba40f7192b703e7048055941"), looks := false }, kinds := [], alts := [], laidByText := true, laidKinds := [.widerDeep], laidTests := true, laidLooks := .later }
def FnFlateShortUptoCardSaid : Prop := Claim7.holds Tryd.pinned (.plain (OpenSpec.upto fnFlateShortSpec)) fnFlateShortUptoCard

/-- THE SECOND FORM's CARD OF 'laws.FnOwn'. -/
def fnOwnUptoCard : Claim7 := { stood := { row := fnOwnUptoRow, standIns := [], harness := (true, "9499a2aa31b6cc3abe59bf68d71ac79ef09febaaba40f7192b703e7048055941"), looks := false }, kinds := [], alts := [], laidByText := true, laidKinds := [.widerDeep], laidTests := true, laidLooks := .later }
def FnOwnUptoCardSaid : Prop := Claim7.holds Tryd.pinned (.plain (OpenSpec.upto fnOwnSpec)) fnOwnUptoCard

/-- THE SECOND FORM's CARD OF 'laws.FnFlateMany'. -/
def fnFlateManyUptoCard : Claim7 := { stood := { row := fnFlateManyUptoRow, standIns := [], harness := (true, "9499a2aa31b6cc3abe59bf68d71ac79ef09febaaba40f7192b703e7048055941"), looks := false }, kinds := [], alts := [], laidByText := true, laidKinds := [.widerDeep], laidTests := true, laidLooks := .later }
def FnFlateManyUptoCardSaid : Prop := Claim7.holds Tryd.pinned (.plain (OpenSpec.upto fnFlateManySpec)) fnFlateManyUptoCard

/-- THE SECOND FORM's CARD OF 'laws.FnFlateGet'. -/
def fnFlateGetUptoCard : Claim7 := { stood := { row := fnFlateGetUptoRow, standIns := [], harness := (true, "9499a2aa31b6cc3abe59bf68d71ac79ef09febaaba40f7192b703e7048055941"), looks := false }, kinds := [], alts := [], laidByText := true, laidKinds := [.widerDeep], laidTests := true, laidLooks := .later }
def FnFlateGetUptoCardSaid : Prop := Claim7.holds Tryd.pinned (.plain (OpenSpec.upto fnFlateGetSpec)) fnFlateGetUptoCard

/-- THE SECOND FORM's CARD OF 'laws.FnFlate'. -/
def fnFlateUptoCard : Claim7 := { stood := { row := fnFlateUptoRow, standIns := [], harness := (true, "9499a2aa31b6cc3abe59bf68d71ac79ef09febaaba40f7192b703e7048055941"), looks := false }, kinds := [], alts := [], laidByText := true, laidKinds := [.widerDeep], laidTests := true, laidLooks := .later }
def FnFlateUptoCardSaid : Prop := Claim7.holds Tryd.pinned (.plain (OpenSpec.upto fnFlateSpec)) fnFlateUptoCard

/-- THE SECOND FORM's CARD OF 'laws.FnFlateTwo'. -/
def fnFlateTwoUptoCard : Claim7 := { stood := { row := fnFlateTwoUptoRow, standIns := [], harness := (true, "9499a2aa31b6cc3abe59bf68d71ac79ef09febaaba40f7192b703e7048055941"), looks := false }, kinds := [], alts := [], laidByText := true, laidKinds := [.widerDeep], laidTests := true, laidLooks := .later }
def FnFlateTwoUptoCardSaid : Prop := Claim7.holds Tryd.pinned (.plain (OpenSpec.upto fnFlateTwoSpec)) fnFlateTwoUptoCard

/-- THE SECOND FORM's CARD OF 'laws.FnFlateBad'. -/
def fnFlateBadUptoCard : Claim7 := { stood := { row := fnFlateBadUptoRow, standIns := [], harness := (true, "9499a2aa31b6cc3abe59bf68d71ac79ef09febaaba40f7192b703e7048055941"), looks := false }, kinds := [], alts := [], laidByText := true, laidKinds := [.widerDeep], laidTests := true, laidLooks := .later }
def FnFlateBadUptoCardSaid : Prop := Claim7.holds Tryd.pinned (.plain (OpenSpec.upto fnFlateBadSpec)) fnFlateBadUptoCard

/-- THE SECOND FORM's CARD OF 'laws.FnFlateKinds'. -/
def fnFlateKindsUptoCard : Claim7 := { stood := { row := fnFlateKindsUptoRow, standIns := [], harness := (true, "9499a2aa31b6cc3abe59bf68d71ac79ef09febaaba40f7192b703e7048055941"), looks := false }, kinds := [], alts := [], laidByText := true, laidKinds := [.widerDeep], laidTests := true, laidLooks := .later }
def FnFlateKindsUptoCardSaid : Prop := Claim7.holds Tryd.pinned (.plain (OpenSpec.upto fnFlateKindsSpec)) fnFlateKindsUptoCard

/-- THE SECOND FORM's CARD OF 'laws.FnExactLocalGet'. -/
def fnExactLocalGetUptoCard : Claim7 := { stood := { row := fnExactLocalGetUptoRow, standIns := [], harness := (true, "9499a2aa31b6cc3abe59bf68d71ac79ef09febaaba40f7192b703e7048055941"), looks := false }, kinds := [], alts := [], laidByText := true, laidKinds := [.data, .widerDeep, .pinned], laidTests := true, laidLooks := .later }
def FnExactLocalGetUptoCardSaid : Prop := Claim7.holds Tryd.pinned (.plain (OpenSpec.upto fnExactLocalGetSpec)) fnExactLocalGetUptoCard

/-- THE SECOND FORM's CARD OF 'laws.FnExactLocalPut'. -/
def fnExactLocalPutUptoCard : Claim7 := { stood := { row := fnExactLocalPutUptoRow, standIns := [], harness := (true, "9499a2aa31b6cc3abe59bf68d71ac79ef09febaaba40f7192b703e7048055941"), looks := false }, kinds := [], alts := [], laidByText := true, laidKinds := [.data, .widerDeep, .pinned], laidTests := true, laidLooks := .later }
def FnExactLocalPutUptoCardSaid : Prop := Claim7.holds Tryd.pinned (.plain (OpenSpec.upto fnExactLocalPutSpec)) fnExactLocalPutUptoCard
end Rows
end Go.Proofs.YtncidljdfipigaaDoor
