/-
  DERIVED. GIVEN WITH THE SEED: THE CARDS: each row of YtibidlgikecelaaDoorRows.lean that lists a variable, with what it lists TIED to the program's text (the seventh form; the later family's looks); each row that meets fmt, with fmt's text TOLD by the authors' own Lean function (tested against real Go, not proved from fmt's source: count such statements apart). THE CARD IS WHAT COUNTS. Prove the row's statement (the work); the ties are given (YtibidlgikecelaaDoorTie.lean); close each card by the builder's one call (the guide's Derived/Test/ToyasCard.lean, 'card_holds'). Laid BY PROGRAM, IN A SANDBOX (cutbox-door.mjs). By AI agents, Wed Nov 11 2026. No macro, syntax, notation, axiom, sorry.
-/
import Derived.Test.YtibidlgikecelaaDoorRows
import GoSem.ClaimSeven
namespace Go.Proofs.YtibidlgikecelaaDoor
namespace Rows

/-- THE TIED CARD OF 'amphoralaw02.MatrixBrackets'. -/
def matrixBracketsCard : Claim7 := { stood := { row := matrixBracketsRow, standIns := [], harness := (true, "f4a7266ae5e4e3e0d1d66533f5f0ee5b43716b4f8008313f28e9aa1afa5fa7a2"), looks := false }, kinds := [], alts := [], laidByText := true, laidKinds := [.data], laidTests := true, laidLooks := .later }
def MatrixBracketsCardSaid : Prop := Claim7.holds Tryd.pinned (.plain (OpenSpec.ofChange matrixBracketsSpec)) matrixBracketsCard

/-- THE TIED CARD OF 'amphoralaw02.MatrixSingular'. -/
def matrixSingularCard : Claim7 := { stood := { row := matrixSingularRow, standIns := [], harness := (true, "f4a7266ae5e4e3e0d1d66533f5f0ee5b43716b4f8008313f28e9aa1afa5fa7a2"), looks := false }, kinds := [], alts := [], laidByText := true, laidKinds := [.data], laidTests := true, laidLooks := .later }
def MatrixSingularCardSaid : Prop := Claim7.holds Tryd.pinned (.plain (OpenSpec.ofChange matrixSingularSpec)) matrixSingularCard

/-- THE TIED CARD OF 'amphoralaw02.MatrixPicks'. -/
def matrixPicksCard : Claim7 := { stood := { row := matrixPicksRow, standIns := [], harness := (true, "f4a7266ae5e4e3e0d1d66533f5f0ee5b43716b4f8008313f28e9aa1afa5fa7a2"), looks := false }, kinds := [], alts := [], laidByText := true, laidKinds := [.data], laidTests := true, laidLooks := .later }
def MatrixPicksCardSaid : Prop := Claim7.holds Tryd.pinned (.plain (OpenSpec.ofChange matrixPicksSpec)) matrixPicksCard

/-- THE TIED CARD OF 'amphoralaw03.ReedPlaces'. -/
def reedPlacesCard : Claim7 := { stood := { row := reedPlacesRow, standIns := [], harness := (true, "f4a7266ae5e4e3e0d1d66533f5f0ee5b43716b4f8008313f28e9aa1afa5fa7a2"), looks := false }, kinds := [], alts := [], laidByText := true, laidKinds := [.data], laidTests := true, laidLooks := .later }
def ReedPlacesCardSaid : Prop := Claim7.holds Tryd.pinned (.plain (OpenSpec.ofChange reedPlacesSpec)) reedPlacesCard

/-- THE TIED CARD OF 'amphoralaw02.MatrixAny'. -/
def matrixAnyCard : Claim7 := { stood := { row := matrixAnyRow, standIns := [], harness := (true, "f4a7266ae5e4e3e0d1d66533f5f0ee5b43716b4f8008313f28e9aa1afa5fa7a2"), looks := false }, kinds := [], alts := [], laidByText := true, laidKinds := [.data], laidTests := true, laidLooks := .later }
def MatrixAnyCardSaid : Prop := Claim7.holds Tryd.pinned (.plain (OpenSpec.ofChange matrixAnySpec)) matrixAnyCard

/-- THE TIED CARD OF 'amphoralaw03.ReedEncodes'. -/
def reedEncodesCard : Claim7 := { stood := { row := reedEncodesRow, standIns := [], harness := (true, "f4a7266ae5e4e3e0d1d66533f5f0ee5b43716b4f8008313f28e9aa1afa5fa7a2"), looks := false }, kinds := [], alts := [], laidByText := true, laidKinds := [.data], laidTests := true, laidLooks := .later }
def ReedEncodesCardSaid : Prop := Claim7.holds Tryd.pinned (.plain (OpenSpec.ofChange reedEncodesSpec)) reedEncodesCard

/-- THE TIED CARD OF 'amphoralaw04.StripeUnits'. -/
def stripeUnitsCard : Claim7 := { stood := { row := stripeUnitsRow, standIns := [], harness := (true, "f4a7266ae5e4e3e0d1d66533f5f0ee5b43716b4f8008313f28e9aa1afa5fa7a2"), looks := false }, kinds := [], alts := [], laidByText := true, laidKinds := [.data], laidTests := true, laidLooks := .later }
def StripeUnitsCardSaid : Prop := Claim7.holds Tryd.pinned (.plain (OpenSpec.ofChange stripeUnitsSpec)) stripeUnitsCard

/-- THE TIED CARD OF 'amphoralaw02.MatrixInverse'. -/
def matrixInverseCard : Claim7 := { stood := { row := matrixInverseRow, standIns := [], harness := (true, "f4a7266ae5e4e3e0d1d66533f5f0ee5b43716b4f8008313f28e9aa1afa5fa7a2"), looks := false }, kinds := [], alts := [], laidByText := true, laidKinds := [.data], laidTests := true, laidLooks := .later }
def MatrixInverseCardSaid : Prop := Claim7.holds Tryd.pinned (.plain (OpenSpec.ofChange matrixInverseSpec)) matrixInverseCard

/-- THE TIED CARD OF 'amphoralaw02.MatrixMakes'. -/
def matrixMakesCard : Claim7 := { stood := { row := matrixMakesRow, standIns := [], harness := (true, "f4a7266ae5e4e3e0d1d66533f5f0ee5b43716b4f8008313f28e9aa1afa5fa7a2"), looks := false }, kinds := [], alts := [], laidByText := true, laidKinds := [.data], laidTests := true, laidLooks := .later }
def MatrixMakesCardSaid : Prop := Claim7.holds Tryd.pinned (.plain (OpenSpec.ofChange matrixMakesSpec)) matrixMakesCard

/-- THE TIED CARD OF 'amphoralaw03.ReedTurned'. -/
def reedTurnedCard : Claim7 := { stood := { row := reedTurnedRow, standIns := [], harness := (true, "f4a7266ae5e4e3e0d1d66533f5f0ee5b43716b4f8008313f28e9aa1afa5fa7a2"), looks := false }, kinds := [], alts := [], laidByText := true, laidKinds := [.data], laidTests := true, laidLooks := .later }
def ReedTurnedCardSaid : Prop := Claim7.holds Tryd.pinned (.plain (OpenSpec.ofChange reedTurnedSpec)) reedTurnedCard

/-- THE TIED CARD OF 'amphoralaw03.ReedLinear'. -/
def reedLinearCard : Claim7 := { stood := { row := reedLinearRow, standIns := [], harness := (true, "f4a7266ae5e4e3e0d1d66533f5f0ee5b43716b4f8008313f28e9aa1afa5fa7a2"), looks := false }, kinds := [], alts := [], laidByText := true, laidKinds := [.data], laidTests := true, laidLooks := .later }
def ReedLinearCardSaid : Prop := Claim7.holds Tryd.pinned (.plain (OpenSpec.ofChange reedLinearSpec)) reedLinearCard

/-- THE TIED CARD OF 'amphoralaw02.MatrixTells'. -/
def matrixTellsCard : Claim7 := { stood := { row := matrixTellsRow, standIns := [], harness := (true, "f4a7266ae5e4e3e0d1d66533f5f0ee5b43716b4f8008313f28e9aa1afa5fa7a2"), looks := false }, kinds := [], alts := [], laidByText := true, laidKinds := [.data], laidTests := true, laidLooks := .later }
def MatrixTellsCardSaid : Prop := Claim7.holds Tryd.pinned (.plain (OpenSpec.ofChange matrixTellsSpec)) matrixTellsCard

/-- THE TIED CARD OF 'amphoralaw04.StripeCuts'. -/
def stripeCutsCard : Claim7 := { stood := { row := stripeCutsRow, standIns := [], harness := (true, "f4a7266ae5e4e3e0d1d66533f5f0ee5b43716b4f8008313f28e9aa1afa5fa7a2"), looks := false }, kinds := [], alts := [], laidByText := true, laidKinds := [.data], laidTests := true, laidLooks := .later }
def StripeCutsCardSaid : Prop := Claim7.holds Tryd.pinned (.plain (OpenSpec.ofChange stripeCutsSpec)) stripeCutsCard

/-- THE TIED CARD OF 'amphoralaw04.StripeApart'. -/
def stripeApartCard : Claim7 := { stood := { row := stripeApartRow, standIns := [], harness := (true, "f4a7266ae5e4e3e0d1d66533f5f0ee5b43716b4f8008313f28e9aa1afa5fa7a2"), looks := false }, kinds := [], alts := [], laidByText := true, laidKinds := [.data], laidTests := true, laidLooks := .later }
def StripeApartCardSaid : Prop := Claim7.holds Tryd.pinned (.plain (OpenSpec.ofChange stripeApartSpec)) stripeApartCard

/-- THE TIED CARD OF 'amphoralaw03.ReedRepairs'. -/
def reedRepairsCard : Claim7 := { stood := { row := reedRepairsRow, standIns := [], harness := (true, "f4a7266ae5e4e3e0d1d66533f5f0ee5b43716b4f8008313f28e9aa1afa5fa7a2"), looks := false }, kinds := [], alts := [], laidByText := true, laidKinds := [.data], laidTests := true, laidLooks := .later }
def ReedRepairsCardSaid : Prop := Claim7.holds Tryd.pinned (.plain (OpenSpec.ofChange reedRepairsSpec)) reedRepairsCard

/-- THE TIED CARD OF 'amphoralaw03.ReedAny'. -/
def reedAnyCard : Claim7 := { stood := { row := reedAnyRow, standIns := [], harness := (true, "f4a7266ae5e4e3e0d1d66533f5f0ee5b43716b4f8008313f28e9aa1afa5fa7a2"), looks := false }, kinds := [], alts := [], laidByText := true, laidKinds := [.data], laidTests := true, laidLooks := .later }
def ReedAnyCardSaid : Prop := Claim7.holds Tryd.pinned (.plain (OpenSpec.ofChange reedAnySpec)) reedAnyCard

/-- THE TIED CARD OF 'amphoralaw03.ReedFew'. -/
def reedFewCard : Claim7 := { stood := { row := reedFewRow, standIns := [], harness := (true, "f4a7266ae5e4e3e0d1d66533f5f0ee5b43716b4f8008313f28e9aa1afa5fa7a2"), looks := false }, kinds := [], alts := [], laidByText := true, laidKinds := [.data], laidTests := true, laidLooks := .later }
def ReedFewCardSaid : Prop := Claim7.holds Tryd.pinned (.plain (OpenSpec.ofChange reedFewSpec)) reedFewCard

/-- THE TIED CARD OF 'amphoralaw03.ReedDecodes'. -/
def reedDecodesCard : Claim7 := { stood := { row := reedDecodesRow, standIns := [], harness := (true, "f4a7266ae5e4e3e0d1d66533f5f0ee5b43716b4f8008313f28e9aa1afa5fa7a2"), looks := false }, kinds := [], alts := [], laidByText := true, laidKinds := [.data], laidTests := true, laidLooks := .later }
def ReedDecodesCardSaid : Prop := Claim7.holds Tryd.pinned (.plain (OpenSpec.ofChange reedDecodesSpec)) reedDecodesCard

/-- THE TIED CARD OF 'amphoralaw04.StripeJoins'. -/
def stripeJoinsCard : Claim7 := { stood := { row := stripeJoinsRow, standIns := [], harness := (true, "f4a7266ae5e4e3e0d1d66533f5f0ee5b43716b4f8008313f28e9aa1afa5fa7a2"), looks := false }, kinds := [], alts := [], laidByText := true, laidKinds := [.data], laidTests := true, laidLooks := .later }
def StripeJoinsCardSaid : Prop := Claim7.holds Tryd.pinned (.plain (OpenSpec.ofChange stripeJoinsSpec)) stripeJoinsCard

/-- THE TIED CARD OF 'amphoralaw04.StripeBack'. -/
def stripeBackCard : Claim7 := { stood := { row := stripeBackRow, standIns := [], harness := (true, "f4a7266ae5e4e3e0d1d66533f5f0ee5b43716b4f8008313f28e9aa1afa5fa7a2"), looks := false }, kinds := [], alts := [], laidByText := true, laidKinds := [.data], laidTests := true, laidLooks := .later }
def StripeBackCardSaid : Prop := Claim7.holds Tryd.pinned (.plain (OpenSpec.ofChange stripeBackSpec)) stripeBackCard

/-- THE SECOND FORM's CARD OF 'amphoralaw02.MatrixBrackets'. -/
def matrixBracketsUptoCard : Claim7 := { stood := { row := matrixBracketsUptoRow, standIns := [], harness := (true, "f4a7266ae5e4e3e0d1d66533f5f0ee5b43716b4f8008313f28e9aa1afa5fa7a2"), looks := false }, kinds := [], alts := [], laidByText := true, laidKinds := [.data], laidTests := true, laidLooks := .later }
def MatrixBracketsUptoCardSaid : Prop := Claim7.holds Tryd.pinned (.plain (OpenSpec.upto matrixBracketsSpec)) matrixBracketsUptoCard

/-- THE SECOND FORM's CARD OF 'amphoralaw02.MatrixSingular'. -/
def matrixSingularUptoCard : Claim7 := { stood := { row := matrixSingularUptoRow, standIns := [], harness := (true, "f4a7266ae5e4e3e0d1d66533f5f0ee5b43716b4f8008313f28e9aa1afa5fa7a2"), looks := false }, kinds := [], alts := [], laidByText := true, laidKinds := [.data], laidTests := true, laidLooks := .later }
def MatrixSingularUptoCardSaid : Prop := Claim7.holds Tryd.pinned (.plain (OpenSpec.upto matrixSingularSpec)) matrixSingularUptoCard

/-- THE SECOND FORM's CARD OF 'amphoralaw02.MatrixPicks'. -/
def matrixPicksUptoCard : Claim7 := { stood := { row := matrixPicksUptoRow, standIns := [], harness := (true, "f4a7266ae5e4e3e0d1d66533f5f0ee5b43716b4f8008313f28e9aa1afa5fa7a2"), looks := false }, kinds := [], alts := [], laidByText := true, laidKinds := [.data], laidTests := true, laidLooks := .later }
def MatrixPicksUptoCardSaid : Prop := Claim7.holds Tryd.pinned (.plain (OpenSpec.upto matrixPicksSpec)) matrixPicksUptoCard

/-- THE SECOND FORM's CARD OF 'amphoralaw03.ReedPlaces'. -/
def reedPlacesUptoCard : Claim7 := { stood := { row := reedPlacesUptoRow, standIns := [], harness := (true, "f4a7266ae5e4e3e0d1d66533f5f0ee5b43716b4f8008313f28e9aa1afa5fa7a2"), looks := false }, kinds := [], alts := [], laidByText := true, laidKinds := [.data], laidTests := true, laidLooks := .later }
def ReedPlacesUptoCardSaid : Prop := Claim7.holds Tryd.pinned (.plain (OpenSpec.upto reedPlacesSpec)) reedPlacesUptoCard

/-- THE SECOND FORM's CARD OF 'amphoralaw02.MatrixAny'. -/
def matrixAnyUptoCard : Claim7 := { stood := { row := matrixAnyUptoRow, standIns := [], harness := (true, "f4a7266ae5e4e3e0d1d66533f5f0ee5b43716b4f8008313f28e9aa1afa5fa7a2"), looks := false }, kinds := [], alts := [], laidByText := true, laidKinds := [.data], laidTests := true, laidLooks := .later }
def MatrixAnyUptoCardSaid : Prop := Claim7.holds Tryd.pinned (.plain (OpenSpec.upto matrixAnySpec)) matrixAnyUptoCard

/-- THE SECOND FORM's CARD OF 'amphoralaw03.ReedEncodes'. -/
def reedEncodesUptoCard : Claim7 := { stood := { row := reedEncodesUptoRow, standIns := [], harness := (true, "f4a7266ae5e4e3e0d1d66533f5f0ee5b43716b4f8008313f28e9aa1afa5fa7a2"), looks := false }, kinds := [], alts := [], laidByText := true, laidKinds := [.data], laidTests := true, laidLooks := .later }
def ReedEncodesUptoCardSaid : Prop := Claim7.holds Tryd.pinned (.plain (OpenSpec.upto reedEncodesSpec)) reedEncodesUptoCard

/-- THE SECOND FORM's CARD OF 'amphoralaw04.StripeUnits'. -/
def stripeUnitsUptoCard : Claim7 := { stood := { row := stripeUnitsUptoRow, standIns := [], harness := (true, "f4a7266ae5e4e3e0d1d66533f5f0ee5b43716b4f8008313f28e9aa1afa5fa7a2"), looks := false }, kinds := [], alts := [], laidByText := true, laidKinds := [.data], laidTests := true, laidLooks := .later }
def StripeUnitsUptoCardSaid : Prop := Claim7.holds Tryd.pinned (.plain (OpenSpec.upto stripeUnitsSpec)) stripeUnitsUptoCard

/-- THE SECOND FORM's CARD OF 'amphoralaw02.MatrixInverse'. -/
def matrixInverseUptoCard : Claim7 := { stood := { row := matrixInverseUptoRow, standIns := [], harness := (true, "f4a7266ae5e4e3e0d1d66533f5f0ee5b43716b4f8008313f28e9aa1afa5fa7a2"), looks := false }, kinds := [], alts := [], laidByText := true, laidKinds := [.data], laidTests := true, laidLooks := .later }
def MatrixInverseUptoCardSaid : Prop := Claim7.holds Tryd.pinned (.plain (OpenSpec.upto matrixInverseSpec)) matrixInverseUptoCard

/-- THE SECOND FORM's CARD OF 'amphoralaw02.MatrixMakes'. -/
def matrixMakesUptoCard : Claim7 := { stood := { row := matrixMakesUptoRow, standIns := [], harness := (true, "f4a7266ae5e4e3e0d1d66533f5f0ee5b43716b4f8008313f28e9aa1afa5fa7a2"), looks := false }, kinds := [], alts := [], laidByText := true, laidKinds := [.data], laidTests := true, laidLooks := .later }
def MatrixMakesUptoCardSaid : Prop := Claim7.holds Tryd.pinned (.plain (OpenSpec.upto matrixMakesSpec)) matrixMakesUptoCard

/-- THE SECOND FORM's CARD OF 'amphoralaw03.ReedTurned'. -/
def reedTurnedUptoCard : Claim7 := { stood := { row := reedTurnedUptoRow, standIns := [], harness := (true, "f4a7266ae5e4e3e0d1d66533f5f0ee5b43716b4f8008313f28e9aa1afa5fa7a2"), looks := false }, kinds := [], alts := [], laidByText := true, laidKinds := [.data], laidTests := true, laidLooks := .later }
def ReedTurnedUptoCardSaid : Prop := Claim7.holds Tryd.pinned (.plain (OpenSpec.upto reedTurnedSpec)) reedTurnedUptoCard

/-- THE SECOND FORM's CARD OF 'amphoralaw03.ReedLinear'. -/
def reedLinearUptoCard : Claim7 := { stood := { row := reedLinearUptoRow, standIns := [], harness := (true, "f4a7266ae5e4e3e0d1d66533f5f0ee5b43716b4f8008313f28e9aa1afa5fa7a2"), looks := false }, kinds := [], alts := [], laidByText := true, laidKinds := [.data], laidTests := true, laidLooks := .later }
def ReedLinearUptoCardSaid : Prop := Claim7.holds Tryd.pinned (.plain (OpenSpec.upto reedLinearSpec)) reedLinearUptoCard

/-- THE SECOND FORM's CARD OF 'amphoralaw02.MatrixTells'. -/
def matrixTellsUptoCard : Claim7 := { stood := { row := matrixTellsUptoRow, standIns := [], harness := (true, "f4a7266ae5e4e3e0d1d66533f5f0ee5b43716b4f8008313f28e9aa1afa5fa7a2"), looks := false }, kinds := [], alts := [], laidByText := true, laidKinds := [.data], laidTests := true, laidLooks := .later }
def MatrixTellsUptoCardSaid : Prop := Claim7.holds Tryd.pinned (.plain (OpenSpec.upto matrixTellsSpec)) matrixTellsUptoCard

/-- THE SECOND FORM's CARD OF 'amphoralaw04.StripeCuts'. -/
def stripeCutsUptoCard : Claim7 := { stood := { row := stripeCutsUptoRow, standIns := [], harness := (true, "f4a7266ae5e4e3e0d1d66533f5f0ee5b43716b4f8008313f28e9aa1afa5fa7a2"), looks := false }, kinds := [], alts := [], laidByText := true, laidKinds := [.data], laidTests := true, laidLooks := .later }
def StripeCutsUptoCardSaid : Prop := Claim7.holds Tryd.pinned (.plain (OpenSpec.upto stripeCutsSpec)) stripeCutsUptoCard

/-- THE SECOND FORM's CARD OF 'amphoralaw04.StripeApart'. -/
def stripeApartUptoCard : Claim7 := { stood := { row := stripeApartUptoRow, standIns := [], harness := (true, "f4a7266ae5e4e3e0d1d66533f5f0ee5b43716b4f8008313f28e9aa1afa5fa7a2"), looks := false }, kinds := [], alts := [], laidByText := true, laidKinds := [.data], laidTests := true, laidLooks := .later }
def StripeApartUptoCardSaid : Prop := Claim7.holds Tryd.pinned (.plain (OpenSpec.upto stripeApartSpec)) stripeApartUptoCard

/-- THE SECOND FORM's CARD OF 'amphoralaw03.ReedRepairs'. -/
def reedRepairsUptoCard : Claim7 := { stood := { row := reedRepairsUptoRow, standIns := [], harness := (true, "f4a7266ae5e4e3e0d1d66533f5f0ee5b43716b4f8008313f28e9aa1afa5fa7a2"), looks := false }, kinds := [], alts := [], laidByText := true, laidKinds := [.data], laidTests := true, laidLooks := .later }
def ReedRepairsUptoCardSaid : Prop := Claim7.holds Tryd.pinned (.plain (OpenSpec.upto reedRepairsSpec)) reedRepairsUptoCard

/-- THE SECOND FORM's CARD OF 'amphoralaw03.ReedAny'. -/
def reedAnyUptoCard : Claim7 := { stood := { row := reedAnyUptoRow, standIns := [], harness := (true, "f4a7266ae5e4e3e0d1d66533f5f0ee5b43716b4f8008313f28e9aa1afa5fa7a2"), looks := false }, kinds := [], alts := [], laidByText := true, laidKinds := [.data], laidTests := true, laidLooks := .later }
def ReedAnyUptoCardSaid : Prop := Claim7.holds Tryd.pinned (.plain (OpenSpec.upto reedAnySpec)) reedAnyUptoCard

/-- THE SECOND FORM's CARD OF 'amphoralaw03.ReedFew'. -/
def reedFewUptoCard : Claim7 := { stood := { row := reedFewUptoRow, standIns := [], harness := (true, "f4a7266ae5e4e3e0d1d66533f5f0ee5b43716b4f8008313f28e9aa1afa5fa7a2"), looks := false }, kinds := [], alts := [], laidByText := true, laidKinds := [.data], laidTests := true, laidLooks := .later }
def ReedFewUptoCardSaid : Prop := Claim7.holds Tryd.pinned (.plain (OpenSpec.upto reedFewSpec)) reedFewUptoCard

/-- THE SECOND FORM's CARD OF 'amphoralaw03.ReedDecodes'. -/
def reedDecodesUptoCard : Claim7 := { stood := { row := reedDecodesUptoRow, standIns := [], harness := (true, "f4a7266ae5e4e3e0d1d66533f5f0ee5b43716b4f8008313f28e9aa1afa5fa7a2"), looks := false }, kinds := [], alts := [], laidByText := true, laidKinds := [.data], laidTests := true, laidLooks := .later }
def ReedDecodesUptoCardSaid : Prop := Claim7.holds Tryd.pinned (.plain (OpenSpec.upto reedDecodesSpec)) reedDecodesUptoCard

/-- THE SECOND FORM's CARD OF 'amphoralaw04.StripeJoins'. -/
def stripeJoinsUptoCard : Claim7 := { stood := { row := stripeJoinsUptoRow, standIns := [], harness := (true, "f4a7266ae5e4e3e0d1d66533f5f0ee5b43716b4f8008313f28e9aa1afa5fa7a2"), looks := false }, kinds := [], alts := [], laidByText := true, laidKinds := [.data], laidTests := true, laidLooks := .later }
def StripeJoinsUptoCardSaid : Prop := Claim7.holds Tryd.pinned (.plain (OpenSpec.upto stripeJoinsSpec)) stripeJoinsUptoCard

/-- THE SECOND FORM's CARD OF 'amphoralaw04.StripeBack'. -/
def stripeBackUptoCard : Claim7 := { stood := { row := stripeBackUptoRow, standIns := [], harness := (true, "f4a7266ae5e4e3e0d1d66533f5f0ee5b43716b4f8008313f28e9aa1afa5fa7a2"), looks := false }, kinds := [], alts := [], laidByText := true, laidKinds := [.data], laidTests := true, laidLooks := .later }
def StripeBackUptoCardSaid : Prop := Claim7.holds Tryd.pinned (.plain (OpenSpec.upto stripeBackSpec)) stripeBackUptoCard
end Rows
end Go.Proofs.YtibidlgikecelaaDoor
