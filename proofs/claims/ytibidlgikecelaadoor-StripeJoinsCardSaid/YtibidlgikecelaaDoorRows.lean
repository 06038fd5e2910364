/-
  NARROWER THAN 'FOR EVERY INPUT', by the rows' own cells (each row's printed sentence says how): MatrixBrackets: laid · MatrixSingular: laid · MatrixPicks: laid · ReedPlaces: laid · MatrixAny: laid · ReedEncodes: laid · StripeUnits: laid · MatrixInverse: laid · MatrixMakes: laid · ReedTurned: laid · ReedLinear: laid · MatrixTells: laid · StripeCuts: laid · StripeApart: laid · ReedRepairs: laid · ReedAny: laid · ReedFew: laid · ReedDecodes: laid · StripeJoins: laid · StripeBack: laid.
  DERIVED. THE GIVEN ROWS OF THIS SEAT. 20 by the template 'for every input the law returns true; each argument reads behind the call as it read before'; 0 by the template 'total and deterministic' (their statements: YtibidlgikecelaaDoorTotals.lean).
  GIVEN WITH THE SEED: the statements are not yours to turn. If you find one false, say at which input.
  Laid BY PROGRAM, IN A SANDBOX (cutbox-rows.mjs): the forced cells as the released guide's own fill.sh prints them over the translation c856de1dc619184b… (all of the seat's roots in one cut). By AI agents, Wed Nov 11 2026. No macro, syntax, notation, axiom, sorry.
-/
import Derived.Test.YtibidlgikecelaaDoorChecked
import GoSem.Claim
import GoSem.ClaimJoined
import GoSem.ClaimMapViews
import Derived.JoinedTies
import Derived.KernelRfl
namespace Go.Proofs.YtibidlgikecelaaDoor
/- THE CELL 'sum', in the pinned program and in every row, IS THE sha256 OF THE DUMP (.gsa) THAT YtibidlgikecelaaDoorProg.lean LOADS. Nothing in Lean hashes anything: it is a label: what it is worth is what the hold of that sum in a sandbox is worth. -/
noncomputable def Tryd.pinned : Pinned := { name := "ytibidlgikecelaadoor", sum := "c856de1dc619184bba5ebaefeeae718a52c690518e8c1990e46b36a24912c6ad", checked := Tryd.checked }
namespace Rows
def none {H : Type} : Left H := { results := [], args := [] }

/- WHAT THE LISTED PACKAGE-LEVEL VARIABLES READ AS WHEN THE CALL BEGINS. Each datum BY PROGRAM (the guide's laid-datum.mjs) off the statement by which the dump's own 'gosem.cut.vars' lays the variable. In a bare row this is a premise. The card (YtibidlgikecelaaDoorCards.lean) ties it to the program's text. -/
def laid_amphora_galois_fold {H : Type} : DataW H := .agg [.lit (.int .u8 0), .lit (.int .u8 29), .lit (.int .u8 58), .lit (.int .u8 39), .lit (.int .u8 116), .lit (.int .u8 105), .lit (.int .u8 78), .lit (.int .u8 83), .lit (.int .u8 232), .lit (.int .u8 245), .lit (.int .u8 210), .lit (.int .u8 207), .lit (.int .u8 156), .lit (.int .u8 129), .lit (.int .u8 166), .lit (.int .u8 187)]

/-- 'amphoralaw02.MatrixBrackets': WHATEVER THE INPUT: true; the input reads as it did. -/
def matrixBracketsSpec : ChangeSpec := { name := "matrixBrackets", fn := fun _ => fun
  | [d1, d2, d3, d4] => { results := [.lit (.bool true)], args := [d1, d2, d3, d4] }
  | _ => none }
def matrixBracketsRow : OpenClaim := { program := "ytibidlgikecelaadoor", sum := "c856de1dc619184bba5ebaefeeae718a52c690518e8c1990e46b36a24912c6ad", func := "amphora/amphoralaw02.MatrixBrackets", spec := "matrixBrackets", unfollowed := true, recurses := true, named := ["amphora/galois.fold"], apart := false, laid := [("amphora/galois.fold", laid_amphora_galois_fold)] }
def MatrixBracketsSaid : Prop := matrixBracketsRow.holds Tryd.pinned (OpenSpec.ofChange matrixBracketsSpec)

/-- ITS FALSE NEIGHBOUR: 'it returns false'. Refute it at one input. -/
def matrixBracketsWrong : ChangeSpec := { name := "matrixBrackets", fn := fun _ => fun
  | [d1, d2, d3, d4] => { results := [.lit (.bool false)], args := [d1, d2, d3, d4] }
  | _ => none }
def MatrixBracketsWrongFalsely : Prop := matrixBracketsRow.holds Tryd.pinned (OpenSpec.ofChange matrixBracketsWrong)

/-- 'amphoralaw02.MatrixSingular': WHATEVER THE INPUT: true; the input reads as it did. -/
def matrixSingularSpec : ChangeSpec := { name := "matrixSingular", fn := fun _ => fun
  | [d1, d2, d3] => { results := [.lit (.bool true)], args := [d1, d2, d3] }
  | _ => none }
def matrixSingularRow : OpenClaim := { program := "ytibidlgikecelaadoor", sum := "c856de1dc619184bba5ebaefeeae718a52c690518e8c1990e46b36a24912c6ad", func := "amphora/amphoralaw02.MatrixSingular", spec := "matrixSingular", unfollowed := true, recurses := true, named := ["amphora/galois.fold"], apart := false, laid := [("amphora/galois.fold", laid_amphora_galois_fold)] }
def MatrixSingularSaid : Prop := matrixSingularRow.holds Tryd.pinned (OpenSpec.ofChange matrixSingularSpec)

/-- ITS FALSE NEIGHBOUR: 'it returns false'. Refute it at one input. -/
def matrixSingularWrong : ChangeSpec := { name := "matrixSingular", fn := fun _ => fun
  | [d1, d2, d3] => { results := [.lit (.bool false)], args := [d1, d2, d3] }
  | _ => none }
def MatrixSingularWrongFalsely : Prop := matrixSingularRow.holds Tryd.pinned (OpenSpec.ofChange matrixSingularWrong)

/-- 'amphoralaw02.MatrixPicks': WHATEVER THE INPUT: true; the input reads as it did. -/
def matrixPicksSpec : ChangeSpec := { name := "matrixPicks", fn := fun _ => fun
  | [d1, d2, d3] => { results := [.lit (.bool true)], args := [d1, d2, d3] }
  | _ => none }
def matrixPicksRow : OpenClaim := { program := "ytibidlgikecelaadoor", sum := "c856de1dc619184bba5ebaefeeae718a52c690518e8c1990e46b36a24912c6ad", func := "amphora/amphoralaw02.MatrixPicks", spec := "matrixPicks", unfollowed := true, recurses := true, named := ["amphora/galois.fold"], apart := false, laid := [("amphora/galois.fold", laid_amphora_galois_fold)] }
def MatrixPicksSaid : Prop := matrixPicksRow.holds Tryd.pinned (OpenSpec.ofChange matrixPicksSpec)

/-- ITS FALSE NEIGHBOUR: 'it returns false'. Refute it at one input. -/
def matrixPicksWrong : ChangeSpec := { name := "matrixPicks", fn := fun _ => fun
  | [d1, d2, d3] => { results := [.lit (.bool false)], args := [d1, d2, d3] }
  | _ => none }
def MatrixPicksWrongFalsely : Prop := matrixPicksRow.holds Tryd.pinned (OpenSpec.ofChange matrixPicksWrong)

/-- 'amphoralaw03.ReedPlaces': WHATEVER THE INPUT: true; the input reads as it did. -/
def reedPlacesSpec : ChangeSpec := { name := "reedPlaces", fn := fun _ => fun
  | [d1, d2, d3, d4, d5] => { results := [.lit (.bool true)], args := [d1, d2, d3, d4, d5] }
  | _ => none }
def reedPlacesRow : OpenClaim := { program := "ytibidlgikecelaadoor", sum := "c856de1dc619184bba5ebaefeeae718a52c690518e8c1990e46b36a24912c6ad", func := "amphora/amphoralaw03.ReedPlaces", spec := "reedPlaces", unfollowed := true, recurses := true, named := ["amphora/galois.fold"], apart := false, laid := [("amphora/galois.fold", laid_amphora_galois_fold)] }
def ReedPlacesSaid : Prop := reedPlacesRow.holds Tryd.pinned (OpenSpec.ofChange reedPlacesSpec)

/-- ITS FALSE NEIGHBOUR: 'it returns false'. Refute it at one input. -/
def reedPlacesWrong : ChangeSpec := { name := "reedPlaces", fn := fun _ => fun
  | [d1, d2, d3, d4, d5] => { results := [.lit (.bool false)], args := [d1, d2, d3, d4, d5] }
  | _ => none }
def ReedPlacesWrongFalsely : Prop := reedPlacesRow.holds Tryd.pinned (OpenSpec.ofChange reedPlacesWrong)

/-- 'amphoralaw02.MatrixAny': WHATEVER THE INPUT: true; the input reads as it did. -/
def matrixAnySpec : ChangeSpec := { name := "matrixAny", fn := fun _ => fun
  | [d1, d2, d3] => { results := [.lit (.bool true)], args := [d1, d2, d3] }
  | _ => none }
def matrixAnyRow : OpenClaim := { program := "ytibidlgikecelaadoor", sum := "c856de1dc619184bba5ebaefeeae718a52c690518e8c1990e46b36a24912c6ad", func := "amphora/amphoralaw02.MatrixAny", spec := "matrixAny", unfollowed := true, recurses := true, named := ["amphora/galois.fold"], apart := false, laid := [("amphora/galois.fold", laid_amphora_galois_fold)] }
def MatrixAnySaid : Prop := matrixAnyRow.holds Tryd.pinned (OpenSpec.ofChange matrixAnySpec)

/-- ITS FALSE NEIGHBOUR: 'it returns false'. Refute it at one input. -/
def matrixAnyWrong : ChangeSpec := { name := "matrixAny", fn := fun _ => fun
  | [d1, d2, d3] => { results := [.lit (.bool false)], args := [d1, d2, d3] }
  | _ => none }
def MatrixAnyWrongFalsely : Prop := matrixAnyRow.holds Tryd.pinned (OpenSpec.ofChange matrixAnyWrong)

/-- 'amphoralaw03.ReedEncodes': WHATEVER THE INPUT: true; the input reads as it did. -/
def reedEncodesSpec : ChangeSpec := { name := "reedEncodes", fn := fun _ => fun
  | [d1, d2] => { results := [.lit (.bool true)], args := [d1, d2] }
  | _ => none }
def reedEncodesRow : OpenClaim := { program := "ytibidlgikecelaadoor", sum := "c856de1dc619184bba5ebaefeeae718a52c690518e8c1990e46b36a24912c6ad", func := "amphora/amphoralaw03.ReedEncodes", spec := "reedEncodes", unfollowed := true, recurses := true, named := ["amphora/galois.fold"], apart := false, laid := [("amphora/galois.fold", laid_amphora_galois_fold)] }
def ReedEncodesSaid : Prop := reedEncodesRow.holds Tryd.pinned (OpenSpec.ofChange reedEncodesSpec)

/-- ITS FALSE NEIGHBOUR: 'it returns false'. Refute it at one input. -/
def reedEncodesWrong : ChangeSpec := { name := "reedEncodes", fn := fun _ => fun
  | [d1, d2] => { results := [.lit (.bool false)], args := [d1, d2] }
  | _ => none }
def ReedEncodesWrongFalsely : Prop := reedEncodesRow.holds Tryd.pinned (OpenSpec.ofChange reedEncodesWrong)

/-- 'amphoralaw04.StripeUnits': WHATEVER THE INPUT: true; the input reads as it did. -/
def stripeUnitsSpec : ChangeSpec := { name := "stripeUnits", fn := fun _ => fun
  | [d1, d2, d3] => { results := [.lit (.bool true)], args := [d1, d2, d3] }
  | _ => none }
def stripeUnitsRow : OpenClaim := { program := "ytibidlgikecelaadoor", sum := "c856de1dc619184bba5ebaefeeae718a52c690518e8c1990e46b36a24912c6ad", func := "amphora/amphoralaw04.StripeUnits", spec := "stripeUnits", unfollowed := true, recurses := true, named := ["amphora/galois.fold"], apart := false, laid := [("amphora/galois.fold", laid_amphora_galois_fold)] }
def StripeUnitsSaid : Prop := stripeUnitsRow.holds Tryd.pinned (OpenSpec.ofChange stripeUnitsSpec)

/-- ITS FALSE NEIGHBOUR: 'it returns false'. Refute it at one input. -/
def stripeUnitsWrong : ChangeSpec := { name := "stripeUnits", fn := fun _ => fun
  | [d1, d2, d3] => { results := [.lit (.bool false)], args := [d1, d2, d3] }
  | _ => none }
def StripeUnitsWrongFalsely : Prop := stripeUnitsRow.holds Tryd.pinned (OpenSpec.ofChange stripeUnitsWrong)

/-- 'amphoralaw02.MatrixInverse': WHATEVER THE INPUT: true; the input reads as it did. -/
def matrixInverseSpec : ChangeSpec := { name := "matrixInverse", fn := fun _ => fun
  | [d1, d2] => { results := [.lit (.bool true)], args := [d1, d2] }
  | _ => none }
def matrixInverseRow : OpenClaim := { program := "ytibidlgikecelaadoor", sum := "c856de1dc619184bba5ebaefeeae718a52c690518e8c1990e46b36a24912c6ad", func := "amphora/amphoralaw02.MatrixInverse", spec := "matrixInverse", unfollowed := true, recurses := true, named := ["amphora/galois.fold"], apart := false, laid := [("amphora/galois.fold", laid_amphora_galois_fold)] }
def MatrixInverseSaid : Prop := matrixInverseRow.holds Tryd.pinned (OpenSpec.ofChange matrixInverseSpec)

/-- ITS FALSE NEIGHBOUR: 'it returns false'. Refute it at one input. -/
def matrixInverseWrong : ChangeSpec := { name := "matrixInverse", fn := fun _ => fun
  | [d1, d2] => { results := [.lit (.bool false)], args := [d1, d2] }
  | _ => none }
def MatrixInverseWrongFalsely : Prop := matrixInverseRow.holds Tryd.pinned (OpenSpec.ofChange matrixInverseWrong)

/-- 'amphoralaw02.MatrixMakes': WHATEVER THE INPUT: true; the input reads as it did. -/
def matrixMakesSpec : ChangeSpec := { name := "matrixMakes", fn := fun _ => fun
  | [d1, d2] => { results := [.lit (.bool true)], args := [d1, d2] }
  | _ => none }
def matrixMakesRow : OpenClaim := { program := "ytibidlgikecelaadoor", sum := "c856de1dc619184bba5ebaefeeae718a52c690518e8c1990e46b36a24912c6ad", func := "amphora/amphoralaw02.MatrixMakes", spec := "matrixMakes", unfollowed := true, recurses := true, named := ["amphora/galois.fold"], apart := false, laid := [("amphora/galois.fold", laid_amphora_galois_fold)] }
def MatrixMakesSaid : Prop := matrixMakesRow.holds Tryd.pinned (OpenSpec.ofChange matrixMakesSpec)

/-- ITS FALSE NEIGHBOUR: 'it returns false'. Refute it at one input. -/
def matrixMakesWrong : ChangeSpec := { name := "matrixMakes", fn := fun _ => fun
  | [d1, d2] => { results := [.lit (.bool false)], args := [d1, d2] }
  | _ => none }
def MatrixMakesWrongFalsely : Prop := matrixMakesRow.holds Tryd.pinned (OpenSpec.ofChange matrixMakesWrong)

/-- 'amphoralaw03.ReedTurned': WHATEVER THE INPUT: true; the input reads as it did. -/
def reedTurnedSpec : ChangeSpec := { name := "reedTurned", fn := fun _ => fun
  | [d1, d2, d3, d4, d5, d6, d7] => { results := [.lit (.bool true)], args := [d1, d2, d3, d4, d5, d6, d7] }
  | _ => none }
def reedTurnedRow : OpenClaim := { program := "ytibidlgikecelaadoor", sum := "c856de1dc619184bba5ebaefeeae718a52c690518e8c1990e46b36a24912c6ad", func := "amphora/amphoralaw03.ReedTurned", spec := "reedTurned", unfollowed := true, recurses := true, named := ["amphora/galois.fold"], apart := false, laid := [("amphora/galois.fold", laid_amphora_galois_fold)] }
def ReedTurnedSaid : Prop := reedTurnedRow.holds Tryd.pinned (OpenSpec.ofChange reedTurnedSpec)

/-- ITS FALSE NEIGHBOUR: 'it returns false'. Refute it at one input. -/
def reedTurnedWrong : ChangeSpec := { name := "reedTurned", fn := fun _ => fun
  | [d1, d2, d3, d4, d5, d6, d7] => { results := [.lit (.bool false)], args := [d1, d2, d3, d4, d5, d6, d7] }
  | _ => none }
def ReedTurnedWrongFalsely : Prop := reedTurnedRow.holds Tryd.pinned (OpenSpec.ofChange reedTurnedWrong)

/-- 'amphoralaw03.ReedLinear': WHATEVER THE INPUT: true; the input reads as it did. -/
def reedLinearSpec : ChangeSpec := { name := "reedLinear", fn := fun _ => fun
  | [d1, d2, d3, d4, d5] => { results := [.lit (.bool true)], args := [d1, d2, d3, d4, d5] }
  | _ => none }
def reedLinearRow : OpenClaim := { program := "ytibidlgikecelaadoor", sum := "c856de1dc619184bba5ebaefeeae718a52c690518e8c1990e46b36a24912c6ad", func := "amphora/amphoralaw03.ReedLinear", spec := "reedLinear", unfollowed := true, recurses := true, named := ["amphora/galois.fold"], apart := false, laid := [("amphora/galois.fold", laid_amphora_galois_fold)] }
def ReedLinearSaid : Prop := reedLinearRow.holds Tryd.pinned (OpenSpec.ofChange reedLinearSpec)

/-- ITS FALSE NEIGHBOUR: 'it returns false'. Refute it at one input. -/
def reedLinearWrong : ChangeSpec := { name := "reedLinear", fn := fun _ => fun
  | [d1, d2, d3, d4, d5] => { results := [.lit (.bool false)], args := [d1, d2, d3, d4, d5] }
  | _ => none }
def ReedLinearWrongFalsely : Prop := reedLinearRow.holds Tryd.pinned (OpenSpec.ofChange reedLinearWrong)

/-- 'amphoralaw02.MatrixTells': WHATEVER THE INPUT: true; the input reads as it did. -/
def matrixTellsSpec : ChangeSpec := { name := "matrixTells", fn := fun _ => fun
  | [d1, d2, d3] => { results := [.lit (.bool true)], args := [d1, d2, d3] }
  | _ => none }
def matrixTellsRow : OpenClaim := { program := "ytibidlgikecelaadoor", sum := "c856de1dc619184bba5ebaefeeae718a52c690518e8c1990e46b36a24912c6ad", func := "amphora/amphoralaw02.MatrixTells", spec := "matrixTells", unfollowed := true, recurses := true, named := ["amphora/galois.fold"], apart := false, laid := [("amphora/galois.fold", laid_amphora_galois_fold)] }
def MatrixTellsSaid : Prop := matrixTellsRow.holds Tryd.pinned (OpenSpec.ofChange matrixTellsSpec)

/-- ITS FALSE NEIGHBOUR: 'it returns false'. Refute it at one input. -/
def matrixTellsWrong : ChangeSpec := { name := "matrixTells", fn := fun _ => fun
  | [d1, d2, d3] => { results := [.lit (.bool false)], args := [d1, d2, d3] }
  | _ => none }
def MatrixTellsWrongFalsely : Prop := matrixTellsRow.holds Tryd.pinned (OpenSpec.ofChange matrixTellsWrong)

/-- 'amphoralaw04.StripeCuts': WHATEVER THE INPUT: true; the input reads as it did. -/
def stripeCutsSpec : ChangeSpec := { name := "stripeCuts", fn := fun _ => fun
  | [d1, d2, d3] => { results := [.lit (.bool true)], args := [d1, d2, d3] }
  | _ => none }
def stripeCutsRow : OpenClaim := { program := "ytibidlgikecelaadoor", sum := "c856de1dc619184bba5ebaefeeae718a52c690518e8c1990e46b36a24912c6ad", func := "amphora/amphoralaw04.StripeCuts", spec := "stripeCuts", unfollowed := true, recurses := true, named := ["amphora/galois.fold"], apart := false, laid := [("amphora/galois.fold", laid_amphora_galois_fold)] }
def StripeCutsSaid : Prop := stripeCutsRow.holds Tryd.pinned (OpenSpec.ofChange stripeCutsSpec)

/-- ITS FALSE NEIGHBOUR: 'it returns false'. Refute it at one input. -/
def stripeCutsWrong : ChangeSpec := { name := "stripeCuts", fn := fun _ => fun
  | [d1, d2, d3] => { results := [.lit (.bool false)], args := [d1, d2, d3] }
  | _ => none }
def StripeCutsWrongFalsely : Prop := stripeCutsRow.holds Tryd.pinned (OpenSpec.ofChange stripeCutsWrong)

/-- 'amphoralaw04.StripeApart': WHATEVER THE INPUT: true; the input reads as it did. -/
def stripeApartSpec : ChangeSpec := { name := "stripeApart", fn := fun _ => fun
  | [d1, d2, d3, d4, d5] => { results := [.lit (.bool true)], args := [d1, d2, d3, d4, d5] }
  | _ => none }
def stripeApartRow : OpenClaim := { program := "ytibidlgikecelaadoor", sum := "c856de1dc619184bba5ebaefeeae718a52c690518e8c1990e46b36a24912c6ad", func := "amphora/amphoralaw04.StripeApart", spec := "stripeApart", unfollowed := true, recurses := true, named := ["amphora/galois.fold"], apart := false, laid := [("amphora/galois.fold", laid_amphora_galois_fold)] }
def StripeApartSaid : Prop := stripeApartRow.holds Tryd.pinned (OpenSpec.ofChange stripeApartSpec)

/-- ITS FALSE NEIGHBOUR: 'it returns false'. Refute it at one input. -/
def stripeApartWrong : ChangeSpec := { name := "stripeApart", fn := fun _ => fun
  | [d1, d2, d3, d4, d5] => { results := [.lit (.bool false)], args := [d1, d2, d3, d4, d5] }
  | _ => none }
def StripeApartWrongFalsely : Prop := stripeApartRow.holds Tryd.pinned (OpenSpec.ofChange stripeApartWrong)

/-- 'amphoralaw03.ReedRepairs': WHATEVER THE INPUT: true; the input reads as it did. -/
def reedRepairsSpec : ChangeSpec := { name := "reedRepairs", fn := fun _ => fun
  | [d1, d2, d3, d4, d5] => { results := [.lit (.bool true)], args := [d1, d2, d3, d4, d5] }
  | _ => none }
def reedRepairsRow : OpenClaim := { program := "ytibidlgikecelaadoor", sum := "c856de1dc619184bba5ebaefeeae718a52c690518e8c1990e46b36a24912c6ad", func := "amphora/amphoralaw03.ReedRepairs", spec := "reedRepairs", unfollowed := true, recurses := true, named := ["amphora/galois.fold"], apart := false, laid := [("amphora/galois.fold", laid_amphora_galois_fold)] }
def ReedRepairsSaid : Prop := reedRepairsRow.holds Tryd.pinned (OpenSpec.ofChange reedRepairsSpec)

/-- ITS FALSE NEIGHBOUR: 'it returns false'. Refute it at one input. -/
def reedRepairsWrong : ChangeSpec := { name := "reedRepairs", fn := fun _ => fun
  | [d1, d2, d3, d4, d5] => { results := [.lit (.bool false)], args := [d1, d2, d3, d4, d5] }
  | _ => none }
def ReedRepairsWrongFalsely : Prop := reedRepairsRow.holds Tryd.pinned (OpenSpec.ofChange reedRepairsWrong)

/-- 'amphoralaw03.ReedAny': WHATEVER THE INPUT: true; the input reads as it did. -/
def reedAnySpec : ChangeSpec := { name := "reedAny", fn := fun _ => fun
  | [d1, d2, d3, d4, d5] => { results := [.lit (.bool true)], args := [d1, d2, d3, d4, d5] }
  | _ => none }
def reedAnyRow : OpenClaim := { program := "ytibidlgikecelaadoor", sum := "c856de1dc619184bba5ebaefeeae718a52c690518e8c1990e46b36a24912c6ad", func := "amphora/amphoralaw03.ReedAny", spec := "reedAny", unfollowed := true, recurses := true, named := ["amphora/galois.fold"], apart := false, laid := [("amphora/galois.fold", laid_amphora_galois_fold)] }
def ReedAnySaid : Prop := reedAnyRow.holds Tryd.pinned (OpenSpec.ofChange reedAnySpec)

/-- ITS FALSE NEIGHBOUR: 'it returns false'. Refute it at one input. -/
def reedAnyWrong : ChangeSpec := { name := "reedAny", fn := fun _ => fun
  | [d1, d2, d3, d4, d5] => { results := [.lit (.bool false)], args := [d1, d2, d3, d4, d5] }
  | _ => none }
def ReedAnyWrongFalsely : Prop := reedAnyRow.holds Tryd.pinned (OpenSpec.ofChange reedAnyWrong)

/-- 'amphoralaw03.ReedFew': WHATEVER THE INPUT: true; the input reads as it did. -/
def reedFewSpec : ChangeSpec := { name := "reedFew", fn := fun _ => fun
  | [d1, d2, d3, d4, d5] => { results := [.lit (.bool true)], args := [d1, d2, d3, d4, d5] }
  | _ => none }
def reedFewRow : OpenClaim := { program := "ytibidlgikecelaadoor", sum := "c856de1dc619184bba5ebaefeeae718a52c690518e8c1990e46b36a24912c6ad", func := "amphora/amphoralaw03.ReedFew", spec := "reedFew", unfollowed := true, recurses := true, named := ["amphora/galois.fold"], apart := false, laid := [("amphora/galois.fold", laid_amphora_galois_fold)] }
def ReedFewSaid : Prop := reedFewRow.holds Tryd.pinned (OpenSpec.ofChange reedFewSpec)

/-- ITS FALSE NEIGHBOUR: 'it returns false'. Refute it at one input. -/
def reedFewWrong : ChangeSpec := { name := "reedFew", fn := fun _ => fun
  | [d1, d2, d3, d4, d5] => { results := [.lit (.bool false)], args := [d1, d2, d3, d4, d5] }
  | _ => none }
def ReedFewWrongFalsely : Prop := reedFewRow.holds Tryd.pinned (OpenSpec.ofChange reedFewWrong)

/-- 'amphoralaw03.ReedDecodes': WHATEVER THE INPUT: true; the input reads as it did. -/
def reedDecodesSpec : ChangeSpec := { name := "reedDecodes", fn := fun _ => fun
  | [d1, d2, d3] => { results := [.lit (.bool true)], args := [d1, d2, d3] }
  | _ => none }
def reedDecodesRow : OpenClaim := { program := "ytibidlgikecelaadoor", sum := "c856de1dc619184bba5ebaefeeae718a52c690518e8c1990e46b36a24912c6ad", func := "amphora/amphoralaw03.ReedDecodes", spec := "reedDecodes", unfollowed := true, recurses := true, named := ["amphora/galois.fold"], apart := false, laid := [("amphora/galois.fold", laid_amphora_galois_fold)] }
def ReedDecodesSaid : Prop := reedDecodesRow.holds Tryd.pinned (OpenSpec.ofChange reedDecodesSpec)

/-- ITS FALSE NEIGHBOUR: 'it returns false'. Refute it at one input. -/
def reedDecodesWrong : ChangeSpec := { name := "reedDecodes", fn := fun _ => fun
  | [d1, d2, d3] => { results := [.lit (.bool false)], args := [d1, d2, d3] }
  | _ => none }
def ReedDecodesWrongFalsely : Prop := reedDecodesRow.holds Tryd.pinned (OpenSpec.ofChange reedDecodesWrong)

/-- 'amphoralaw04.StripeJoins': WHATEVER THE INPUT: true; the input reads as it did. -/
def stripeJoinsSpec : ChangeSpec := { name := "stripeJoins", fn := fun _ => fun
  | [d1, d2, d3] => { results := [.lit (.bool true)], args := [d1, d2, d3] }
  | _ => none }
def stripeJoinsRow : OpenClaim := { program := "ytibidlgikecelaadoor", sum := "c856de1dc619184bba5ebaefeeae718a52c690518e8c1990e46b36a24912c6ad", func := "amphora/amphoralaw04.StripeJoins", spec := "stripeJoins", unfollowed := true, recurses := true, named := ["amphora/galois.fold"], apart := false, laid := [("amphora/galois.fold", laid_amphora_galois_fold)] }
def StripeJoinsSaid : Prop := stripeJoinsRow.holds Tryd.pinned (OpenSpec.ofChange stripeJoinsSpec)

/-- ITS FALSE NEIGHBOUR: 'it returns false'. Refute it at one input. -/
def stripeJoinsWrong : ChangeSpec := { name := "stripeJoins", fn := fun _ => fun
  | [d1, d2, d3] => { results := [.lit (.bool false)], args := [d1, d2, d3] }
  | _ => none }
def StripeJoinsWrongFalsely : Prop := stripeJoinsRow.holds Tryd.pinned (OpenSpec.ofChange stripeJoinsWrong)

/-- 'amphoralaw04.StripeBack': WHATEVER THE INPUT: true; the input reads as it did. -/
def stripeBackSpec : ChangeSpec := { name := "stripeBack", fn := fun _ => fun
  | [d1, d2, d3, d4] => { results := [.lit (.bool true)], args := [d1, d2, d3, d4] }
  | _ => none }
def stripeBackRow : OpenClaim := { program := "ytibidlgikecelaadoor", sum := "c856de1dc619184bba5ebaefeeae718a52c690518e8c1990e46b36a24912c6ad", func := "amphora/amphoralaw04.StripeBack", spec := "stripeBack", unfollowed := true, recurses := true, named := ["amphora/galois.fold"], apart := false, laid := [("amphora/galois.fold", laid_amphora_galois_fold)] }
def StripeBackSaid : Prop := stripeBackRow.holds Tryd.pinned (OpenSpec.ofChange stripeBackSpec)

/-- ITS FALSE NEIGHBOUR: 'it returns false'. Refute it at one input. -/
def stripeBackWrong : ChangeSpec := { name := "stripeBack", fn := fun _ => fun
  | [d1, d2, d3, d4] => { results := [.lit (.bool false)], args := [d1, d2, d3, d4] }
  | _ => none }
def StripeBackWrongFalsely : Prop := stripeBackRow.holds Tryd.pinned (OpenSpec.ofChange stripeBackWrong)

/- THE SECOND FORM. 'bulk': how many values and letters a reading holds, each counted each time it is reached (what is shared counts as often as it is met; a slice's spare places count too). A statement '..UptoSaid' is the law's where the arguments, and the package variables that the reading takes, are together of bulk at most 1048576: NARROWER than '..Said'. Prove '..Said' where nothing that the law and all that it calls make is longer than what came in: it says more and counts as full. Else prove '..UptoSaid'. A law counts once. -/
mutual
def uptoBulk {H : Type} : DataW H → Nat
  | .lit (.string bytes) => bytes.length + 1
  | .lit _ => 1
  | .nil => 1
  | .ptr d => uptoBulk d + 1
  | .slice elems spare => uptoBulkAll elems + uptoBulkAll spare + 1
  | .agg parts => uptoBulkAll parts + 1
  | .iface _ d => uptoBulk d + 1
  | .map entries => uptoBulkEntries entries + 1
  | .held _ => 1
def uptoBulkAll {H : Type} : List (DataW H) → Nat
  | [] => 0
  | d :: r => uptoBulk d + uptoBulkAll r
def uptoBulkEntries {H : Type} : List (Lit × DataW H) → Nat
  | [] => 0
  | x :: r => uptoBulkEntry x + uptoBulkEntries r
def uptoBulkEntry {H : Type} : Lit × DataW H → Nat
  | (.string bytes, d) => bytes.length + uptoBulk d + 1
  | (_, d) => uptoBulk d + 1
 end
def uptoSmall : (H : Type) → List (DataW H) → Bool := fun _ ds => decide (uptoBulkAll ds ≤ 1048576)
def OpenSpec.upto (s : _root_.Go.ChangeSpec) : _root_.Go.OpenSpec := { _root_.Go.OpenSpec.ofChange s with cond := some uptoSmall }

/-- 'amphoralaw02.MatrixBrackets', WHERE WHAT IT READS IS OF BULK AT MOST 1048576: true; the input reads as it did. -/
def matrixBracketsUptoRow : OpenClaim := { program := "ytibidlgikecelaadoor", sum := "c856de1dc619184bba5ebaefeeae718a52c690518e8c1990e46b36a24912c6ad", func := "amphora/amphoralaw02.MatrixBrackets", spec := "matrixBrackets", unfollowed := true, recurses := true, named := ["amphora/galois.fold"], apart := false, laid := [("amphora/galois.fold", laid_amphora_galois_fold)], narrowed := true }
def MatrixBracketsUptoSaid : Prop := matrixBracketsUptoRow.holds Tryd.pinned (OpenSpec.upto matrixBracketsSpec)

/-- 'amphoralaw02.MatrixSingular', WHERE WHAT IT READS IS OF BULK AT MOST 1048576: true; the input reads as it did. -/
def matrixSingularUptoRow : OpenClaim := { program := "ytibidlgikecelaadoor", sum := "c856de1dc619184bba5ebaefeeae718a52c690518e8c1990e46b36a24912c6ad", func := "amphora/amphoralaw02.MatrixSingular", spec := "matrixSingular", unfollowed := true, recurses := true, named := ["amphora/galois.fold"], apart := false, laid := [("amphora/galois.fold", laid_amphora_galois_fold)], narrowed := true }
def MatrixSingularUptoSaid : Prop := matrixSingularUptoRow.holds Tryd.pinned (OpenSpec.upto matrixSingularSpec)

/-- 'amphoralaw02.MatrixPicks', WHERE WHAT IT READS IS OF BULK AT MOST 1048576: true; the input reads as it did. -/
def matrixPicksUptoRow : OpenClaim := { program := "ytibidlgikecelaadoor", sum := "c856de1dc619184bba5ebaefeeae718a52c690518e8c1990e46b36a24912c6ad", func := "amphora/amphoralaw02.MatrixPicks", spec := "matrixPicks", unfollowed := true, recurses := true, named := ["amphora/galois.fold"], apart := false, laid := [("amphora/galois.fold", laid_amphora_galois_fold)], narrowed := true }
def MatrixPicksUptoSaid : Prop := matrixPicksUptoRow.holds Tryd.pinned (OpenSpec.upto matrixPicksSpec)

/-- 'amphoralaw03.ReedPlaces', WHERE WHAT IT READS IS OF BULK AT MOST 1048576: true; the input reads as it did. -/
def reedPlacesUptoRow : OpenClaim := { program := "ytibidlgikecelaadoor", sum := "c856de1dc619184bba5ebaefeeae718a52c690518e8c1990e46b36a24912c6ad", func := "amphora/amphoralaw03.ReedPlaces", spec := "reedPlaces", unfollowed := true, recurses := true, named := ["amphora/galois.fold"], apart := false, laid := [("amphora/galois.fold", laid_amphora_galois_fold)], narrowed := true }
def ReedPlacesUptoSaid : Prop := reedPlacesUptoRow.holds Tryd.pinned (OpenSpec.upto reedPlacesSpec)

/-- 'amphoralaw02.MatrixAny', WHERE WHAT IT READS IS OF BULK AT MOST 1048576: true; the input reads as it did. -/
def matrixAnyUptoRow : OpenClaim := { program := "ytibidlgikecelaadoor", sum := "c856de1dc619184bba5ebaefeeae718a52c690518e8c1990e46b36a24912c6ad", func := "amphora/amphoralaw02.MatrixAny", spec := "matrixAny", unfollowed := true, recurses := true, named := ["amphora/galois.fold"], apart := false, laid := [("amphora/galois.fold", laid_amphora_galois_fold)], narrowed := true }
def MatrixAnyUptoSaid : Prop := matrixAnyUptoRow.holds Tryd.pinned (OpenSpec.upto matrixAnySpec)

/-- 'amphoralaw03.ReedEncodes', WHERE WHAT IT READS IS OF BULK AT MOST 1048576: true; the input reads as it did. -/
def reedEncodesUptoRow : OpenClaim := { program := "ytibidlgikecelaadoor", sum := "c856de1dc619184bba5ebaefeeae718a52c690518e8c1990e46b36a24912c6ad", func := "amphora/amphoralaw03.ReedEncodes", spec := "reedEncodes", unfollowed := true, recurses := true, named := ["amphora/galois.fold"], apart := false, laid := [("amphora/galois.fold", laid_amphora_galois_fold)], narrowed := true }
def ReedEncodesUptoSaid : Prop := reedEncodesUptoRow.holds Tryd.pinned (OpenSpec.upto reedEncodesSpec)

/-- 'amphoralaw04.StripeUnits', WHERE WHAT IT READS IS OF BULK AT MOST 1048576: true; the input reads as it did. -/
def stripeUnitsUptoRow : OpenClaim := { program := "ytibidlgikecelaadoor", sum := "c856de1dc619184bba5ebaefeeae718a52c690518e8c1990e46b36a24912c6ad", func := "amphora/amphoralaw04.StripeUnits", spec := "stripeUnits", unfollowed := true, recurses := true, named := ["amphora/galois.fold"], apart := false, laid := [("amphora/galois.fold", laid_amphora_galois_fold)], narrowed := true }
def StripeUnitsUptoSaid : Prop := stripeUnitsUptoRow.holds Tryd.pinned (OpenSpec.upto stripeUnitsSpec)

/-- 'amphoralaw02.MatrixInverse', WHERE WHAT IT READS IS OF BULK AT MOST 1048576: true; the input reads as it did. -/
def matrixInverseUptoRow : OpenClaim := { program := "ytibidlgikecelaadoor", sum := "c856de1dc619184bba5ebaefeeae718a52c690518e8c1990e46b36a24912c6ad", func := "amphora/amphoralaw02.MatrixInverse", spec := "matrixInverse", unfollowed := true, recurses := true, named := ["amphora/galois.fold"], apart := false, laid := [("amphora/galois.fold", laid_amphora_galois_fold)], narrowed := true }
def MatrixInverseUptoSaid : Prop := matrixInverseUptoRow.holds Tryd.pinned (OpenSpec.upto matrixInverseSpec)

/-- 'amphoralaw02.MatrixMakes', WHERE WHAT IT READS IS OF BULK AT MOST 1048576: true; the input reads as it did. -/
def matrixMakesUptoRow : OpenClaim := { program := "ytibidlgikecelaadoor", sum := "c856de1dc619184bba5ebaefeeae718a52c690518e8c1990e46b36a24912c6ad", func := "amphora/amphoralaw02.MatrixMakes", spec := "matrixMakes", unfollowed := true, recurses := true, named := ["amphora/galois.fold"], apart := false, laid := [("amphora/galois.fold", laid_amphora_galois_fold)], narrowed := true }
def MatrixMakesUptoSaid : Prop := matrixMakesUptoRow.holds Tryd.pinned (OpenSpec.upto matrixMakesSpec)

/-- 'amphoralaw03.ReedTurned', WHERE WHAT IT READS IS OF BULK AT MOST 1048576: true; the input reads as it did. -/
def reedTurnedUptoRow : OpenClaim := { program := "ytibidlgikecelaadoor", sum := "c856de1dc619184bba5ebaefeeae718a52c690518e8c1990e46b36a24912c6ad", func := "amphora/amphoralaw03.ReedTurned", spec := "reedTurned", unfollowed := true, recurses := true, named := ["amphora/galois.fold"], apart := false, laid := [("amphora/galois.fold", laid_amphora_galois_fold)], narrowed := true }
def ReedTurnedUptoSaid : Prop := reedTurnedUptoRow.holds Tryd.pinned (OpenSpec.upto reedTurnedSpec)

/-- 'amphoralaw03.ReedLinear', WHERE WHAT IT READS IS OF BULK AT MOST 1048576: true; the input reads as it did. -/
def reedLinearUptoRow : OpenClaim := { program := "ytibidlgikecelaadoor", sum := "c856de1dc619184bba5ebaefeeae718a52c690518e8c1990e46b36a24912c6ad", func := "amphora/amphoralaw03.ReedLinear", spec := "reedLinear", unfollowed := true, recurses := true, named := ["amphora/galois.fold"], apart := false, laid := [("amphora/galois.fold", laid_amphora_galois_fold)], narrowed := true }
def ReedLinearUptoSaid : Prop := reedLinearUptoRow.holds Tryd.pinned (OpenSpec.upto reedLinearSpec)

/-- 'amphoralaw02.MatrixTells', WHERE WHAT IT READS IS OF BULK AT MOST 1048576: true; the input reads as it did. -/
def matrixTellsUptoRow : OpenClaim := { program := "ytibidlgikecelaadoor", sum := "c856de1dc619184bba5ebaefeeae718a52c690518e8c1990e46b36a24912c6ad", func := "amphora/amphoralaw02.MatrixTells", spec := "matrixTells", unfollowed := true, recurses := true, named := ["amphora/galois.fold"], apart := false, laid := [("amphora/galois.fold", laid_amphora_galois_fold)], narrowed := true }
def MatrixTellsUptoSaid : Prop := matrixTellsUptoRow.holds Tryd.pinned (OpenSpec.upto matrixTellsSpec)

/-- 'amphoralaw04.StripeCuts', WHERE WHAT IT READS IS OF BULK AT MOST 1048576: true; the input reads as it did. -/
def stripeCutsUptoRow : OpenClaim := { program := "ytibidlgikecelaadoor", sum := "c856de1dc619184bba5ebaefeeae718a52c690518e8c1990e46b36a24912c6ad", func := "amphora/amphoralaw04.StripeCuts", spec := "stripeCuts", unfollowed := true, recurses := true, named := ["amphora/galois.fold"], apart := false, laid := [("amphora/galois.fold", laid_amphora_galois_fold)], narrowed := true }
def StripeCutsUptoSaid : Prop := stripeCutsUptoRow.holds Tryd.pinned (OpenSpec.upto stripeCutsSpec)

/-- 'amphoralaw04.StripeApart', WHERE WHAT IT READS IS OF BULK AT MOST 1048576: true; the input reads as it did. -/
def stripeApartUptoRow : OpenClaim := { program := "ytibidlgikecelaadoor", sum := "c856de1dc619184bba5ebaefeeae718a52c690518e8c1990e46b36a24912c6ad", func := "amphora/amphoralaw04.StripeApart", spec := "stripeApart", unfollowed := true, recurses := true, named := ["amphora/galois.fold"], apart := false, laid := [("amphora/galois.fold", laid_amphora_galois_fold)], narrowed := true }
def StripeApartUptoSaid : Prop := stripeApartUptoRow.holds Tryd.pinned (OpenSpec.upto stripeApartSpec)

/-- 'amphoralaw03.ReedRepairs', WHERE WHAT IT READS IS OF BULK AT MOST 1048576: true; the input reads as it did. -/
def reedRepairsUptoRow : OpenClaim := { program := "ytibidlgikecelaadoor", sum := "c856de1dc619184bba5ebaefeeae718a52c690518e8c1990e46b36a24912c6ad", func := "amphora/amphoralaw03.ReedRepairs", spec := "reedRepairs", unfollowed := true, recurses := true, named := ["amphora/galois.fold"], apart := false, laid := [("amphora/galois.fold", laid_amphora_galois_fold)], narrowed := true }
def ReedRepairsUptoSaid : Prop := reedRepairsUptoRow.holds Tryd.pinned (OpenSpec.upto reedRepairsSpec)

/-- 'amphoralaw03.ReedAny', WHERE WHAT IT READS IS OF BULK AT MOST 1048576: true; the input reads as it did. -/
def reedAnyUptoRow : OpenClaim := { program := "ytibidlgikecelaadoor", sum := "c856de1dc619184bba5ebaefeeae718a52c690518e8c1990e46b36a24912c6ad", func := "amphora/amphoralaw03.ReedAny", spec := "reedAny", unfollowed := true, recurses := true, named := ["amphora/galois.fold"], apart := false, laid := [("amphora/galois.fold", laid_amphora_galois_fold)], narrowed := true }
def ReedAnyUptoSaid : Prop := reedAnyUptoRow.holds Tryd.pinned (OpenSpec.upto reedAnySpec)

/-- 'amphoralaw03.ReedFew', WHERE WHAT IT READS IS OF BULK AT MOST 1048576: true; the input reads as it did. -/
def reedFewUptoRow : OpenClaim := { program := "ytibidlgikecelaadoor", sum := "c856de1dc619184bba5ebaefeeae718a52c690518e8c1990e46b36a24912c6ad", func := "amphora/amphoralaw03.ReedFew", spec := "reedFew", unfollowed := true, recurses := true, named := ["amphora/galois.fold"], apart := false, laid := [("amphora/galois.fold", laid_amphora_galois_fold)], narrowed := true }
def ReedFewUptoSaid : Prop := reedFewUptoRow.holds Tryd.pinned (OpenSpec.upto reedFewSpec)

/-- 'amphoralaw03.ReedDecodes', WHERE WHAT IT READS IS OF BULK AT MOST 1048576: true; the input reads as it did. -/
def reedDecodesUptoRow : OpenClaim := { program := "ytibidlgikecelaadoor", sum := "c856de1dc619184bba5ebaefeeae718a52c690518e8c1990e46b36a24912c6ad", func := "amphora/amphoralaw03.ReedDecodes", spec := "reedDecodes", unfollowed := true, recurses := true, named := ["amphora/galois.fold"], apart := false, laid := [("amphora/galois.fold", laid_amphora_galois_fold)], narrowed := true }
def ReedDecodesUptoSaid : Prop := reedDecodesUptoRow.holds Tryd.pinned (OpenSpec.upto reedDecodesSpec)

/-- 'amphoralaw04.StripeJoins', WHERE WHAT IT READS IS OF BULK AT MOST 1048576: true; the input reads as it did. -/
def stripeJoinsUptoRow : OpenClaim := { program := "ytibidlgikecelaadoor", sum := "c856de1dc619184bba5ebaefeeae718a52c690518e8c1990e46b36a24912c6ad", func := "amphora/amphoralaw04.StripeJoins", spec := "stripeJoins", unfollowed := true, recurses := true, named := ["amphora/galois.fold"], apart := false, laid := [("amphora/galois.fold", laid_amphora_galois_fold)], narrowed := true }
def StripeJoinsUptoSaid : Prop := stripeJoinsUptoRow.holds Tryd.pinned (OpenSpec.upto stripeJoinsSpec)

/-- 'amphoralaw04.StripeBack', WHERE WHAT IT READS IS OF BULK AT MOST 1048576: true; the input reads as it did. -/
def stripeBackUptoRow : OpenClaim := { program := "ytibidlgikecelaadoor", sum := "c856de1dc619184bba5ebaefeeae718a52c690518e8c1990e46b36a24912c6ad", func := "amphora/amphoralaw04.StripeBack", spec := "stripeBack", unfollowed := true, recurses := true, named := ["amphora/galois.fold"], apart := false, laid := [("amphora/galois.fold", laid_amphora_galois_fold)], narrowed := true }
def StripeBackUptoSaid : Prop := stripeBackUptoRow.holds Tryd.pinned (OpenSpec.upto stripeBackSpec)

end Rows
end Go.Proofs.YtibidlgikecelaaDoor
