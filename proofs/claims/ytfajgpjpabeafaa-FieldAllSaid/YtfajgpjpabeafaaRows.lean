/-
  No cell of these rows narrows 'for every input' (looked for: loops, veiled, ifaces, maps, wideKeys, modest, calm, conditions, laid).
  DERIVED. THE GIVEN ROWS OF THIS SEAT. 23 by the template 'for every input the law returns true; each argument reads behind the call as it read before'; 0 by the template 'total and deterministic' (their statements: YtfajgpjpabeafaaTotals.lean).
  GIVEN WITH THE SEED: the statements are not yours to turn. If you find one false, say at which input.
  Laid BY PROGRAM, IN A SANDBOX (cutbox-rows.mjs): the forced cells as the released guide's own fill.sh prints them over the translation f0d0a614c768eeea… (all of the seat's roots in one cut). By AI agents, Wed Nov 11 2026. No macro, syntax, notation, axiom, sorry.
-/
import Derived.Test.YtfajgpjpabeafaaChecked
import GoSem.Claim
import GoSem.ClaimJoined
import GoSem.ClaimMapViews
import Derived.JoinedTies
import Derived.KernelRfl
namespace Go.Proofs.Ytfajgpjpabeafaa
/- THE CELL 'sum', in the pinned program and in every row, IS THE sha256 OF THE DUMP (.gsa) THAT YtfajgpjpabeafaaProg.lean LOADS. Nothing in Lean hashes anything: it is a label: what it is worth is what the hold of that sum in a sandbox is worth. -/
noncomputable def Try.pinned : Pinned := { name := "ytfajgpjpabeafaa", sum := "f0d0a614c768eeeac41109b4910881f85b72242a7bbc6bf2e862888bd611750d", checked := Try.checked }
namespace Rows
def none {H : Type} : Left H := { results := [], args := [] }

/-- 'pawllaw02.CurveClamps': WHATEVER THE INPUT: true; the input reads as it did. -/
def curveClampsSpec : ChangeSpec := { name := "curveClamps", fn := fun _ => fun
  | [d] => { results := [.lit (.bool true)], args := [d] }
  | _ => none }
def curveClampsRow : OpenClaim := { program := "ytfajgpjpabeafaa", sum := "f0d0a614c768eeeac41109b4910881f85b72242a7bbc6bf2e862888bd611750d", func := "pawl/pawllaw02.CurveClamps", spec := "curveClamps", apart := false }
def CurveClampsSaid : Prop := curveClampsRow.holds Try.pinned (OpenSpec.ofChange curveClampsSpec)

/-- ITS FALSE NEIGHBOUR: 'it returns false'. Refute it at one input. -/
def curveClampsWrong : ChangeSpec := { name := "curveClamps", fn := fun _ => fun
  | [d] => { results := [.lit (.bool false)], args := [d] }
  | _ => none }
def CurveClampsWrongFalsely : Prop := curveClampsRow.holds Try.pinned (OpenSpec.ofChange curveClampsWrong)

/-- 'pawllaw01.FieldForms': WHATEVER THE INPUT: true; the input reads as it did. -/
def fieldFormsSpec : ChangeSpec := { name := "fieldForms", fn := fun _ => fun
  | [d] => { results := [.lit (.bool true)], args := [d] }
  | _ => none }
def fieldFormsRow : OpenClaim := { program := "ytfajgpjpabeafaa", sum := "f0d0a614c768eeeac41109b4910881f85b72242a7bbc6bf2e862888bd611750d", func := "pawl/pawllaw01.FieldForms", spec := "fieldForms", inPlace := ["math/bits.Sub64"], apart := false }
def FieldFormsSaid : Prop := fieldFormsRow.holds Try.pinned (OpenSpec.ofChange fieldFormsSpec)

/-- ITS FALSE NEIGHBOUR: 'it returns false'. Refute it at one input. -/
def fieldFormsWrong : ChangeSpec := { name := "fieldForms", fn := fun _ => fun
  | [d] => { results := [.lit (.bool false)], args := [d] }
  | _ => none }
def FieldFormsWrongFalsely : Prop := fieldFormsRow.holds Try.pinned (OpenSpec.ofChange fieldFormsWrong)

/-- 'pawllaw01.FieldSmalls': WHATEVER THE INPUT: true; the input reads as it did. -/
def fieldSmallsSpec : ChangeSpec := { name := "fieldSmalls", fn := fun _ => fun
  | [d1, d2] => { results := [.lit (.bool true)], args := [d1, d2] }
  | _ => none }
def fieldSmallsRow : OpenClaim := { program := "ytfajgpjpabeafaa", sum := "f0d0a614c768eeeac41109b4910881f85b72242a7bbc6bf2e862888bd611750d", func := "pawl/pawllaw01.FieldSmalls", spec := "fieldSmalls", inPlace := ["math/bits.Add64", "math/bits.Sub64"], apart := false }
def FieldSmallsSaid : Prop := fieldSmallsRow.holds Try.pinned (OpenSpec.ofChange fieldSmallsSpec)

/-- ITS FALSE NEIGHBOUR: 'it returns false'. Refute it at one input. -/
def fieldSmallsWrong : ChangeSpec := { name := "fieldSmalls", fn := fun _ => fun
  | [d1, d2] => { results := [.lit (.bool false)], args := [d1, d2] }
  | _ => none }
def FieldSmallsWrongFalsely : Prop := fieldSmallsRow.holds Try.pinned (OpenSpec.ofChange fieldSmallsWrong)

/-- 'pawllaw01.FieldForm': WHATEVER THE INPUT: true; the input reads as it did. -/
def fieldFormSpec : ChangeSpec := { name := "fieldForm", fn := fun _ => fun
  | [d1, d2] => { results := [.lit (.bool true)], args := [d1, d2] }
  | _ => none }
def fieldFormRow : OpenClaim := { program := "ytfajgpjpabeafaa", sum := "f0d0a614c768eeeac41109b4910881f85b72242a7bbc6bf2e862888bd611750d", func := "pawl/pawllaw01.FieldForm", spec := "fieldForm", inPlace := ["math/bits.Add64"], apart := false }
def FieldFormSaid : Prop := fieldFormRow.holds Try.pinned (OpenSpec.ofChange fieldFormSpec)

/-- ITS FALSE NEIGHBOUR: 'it returns false'. Refute it at one input. -/
def fieldFormWrong : ChangeSpec := { name := "fieldForm", fn := fun _ => fun
  | [d1, d2] => { results := [.lit (.bool false)], args := [d1, d2] }
  | _ => none }
def FieldFormWrongFalsely : Prop := fieldFormRow.holds Try.pinned (OpenSpec.ofChange fieldFormWrong)

/-- 'pawllaw01.FieldRing': WHATEVER THE INPUT: true; the input reads as it did. -/
def fieldRingSpec : ChangeSpec := { name := "fieldRing", fn := fun _ => fun
  | [d1, d2, d3] => { results := [.lit (.bool true)], args := [d1, d2, d3] }
  | _ => none }
def fieldRingRow : OpenClaim := { program := "ytfajgpjpabeafaa", sum := "f0d0a614c768eeeac41109b4910881f85b72242a7bbc6bf2e862888bd611750d", func := "pawl/pawllaw01.FieldRing", spec := "fieldRing", inPlace := ["math/bits.Add64"], apart := false }
def FieldRingSaid : Prop := fieldRingRow.holds Try.pinned (OpenSpec.ofChange fieldRingSpec)

/-- ITS FALSE NEIGHBOUR: 'it returns false'. Refute it at one input. -/
def fieldRingWrong : ChangeSpec := { name := "fieldRing", fn := fun _ => fun
  | [d1, d2, d3] => { results := [.lit (.bool false)], args := [d1, d2, d3] }
  | _ => none }
def FieldRingWrongFalsely : Prop := fieldRingRow.holds Try.pinned (OpenSpec.ofChange fieldRingWrong)

/-- 'pawllaw01.FieldPowers': WHATEVER THE INPUT: true; the input reads as it did. -/
def fieldPowersSpec : ChangeSpec := { name := "fieldPowers", fn := fun _ => fun
  | [d1, d2] => { results := [.lit (.bool true)], args := [d1, d2] }
  | _ => none }
def fieldPowersRow : OpenClaim := { program := "ytfajgpjpabeafaa", sum := "f0d0a614c768eeeac41109b4910881f85b72242a7bbc6bf2e862888bd611750d", func := "pawl/pawllaw01.FieldPowers", spec := "fieldPowers", inPlace := ["math/bits.Add64", "math/bits.Sub64"], apart := false }
def FieldPowersSaid : Prop := fieldPowersRow.holds Try.pinned (OpenSpec.ofChange fieldPowersSpec)

/-- ITS FALSE NEIGHBOUR: 'it returns false'. Refute it at one input. -/
def fieldPowersWrong : ChangeSpec := { name := "fieldPowers", fn := fun _ => fun
  | [d1, d2] => { results := [.lit (.bool false)], args := [d1, d2] }
  | _ => none }
def FieldPowersWrongFalsely : Prop := fieldPowersRow.holds Try.pinned (OpenSpec.ofChange fieldPowersWrong)

/-- 'pawllaw01.FieldPairs': WHATEVER THE INPUT: true; the input reads as it did. -/
def fieldPairsSpec : ChangeSpec := { name := "fieldPairs", fn := fun _ => fun
  | [d1, d2, d3] => { results := [.lit (.bool true)], args := [d1, d2, d3] }
  | _ => none }
def fieldPairsRow : OpenClaim := { program := "ytfajgpjpabeafaa", sum := "f0d0a614c768eeeac41109b4910881f85b72242a7bbc6bf2e862888bd611750d", func := "pawl/pawllaw01.FieldPairs", spec := "fieldPairs", inPlace := ["math/bits.Sub64", "math/bits.Add64"], apart := false }
def FieldPairsSaid : Prop := fieldPairsRow.holds Try.pinned (OpenSpec.ofChange fieldPairsSpec)

/-- ITS FALSE NEIGHBOUR: 'it returns false'. Refute it at one input. -/
def fieldPairsWrong : ChangeSpec := { name := "fieldPairs", fn := fun _ => fun
  | [d1, d2, d3] => { results := [.lit (.bool false)], args := [d1, d2, d3] }
  | _ => none }
def FieldPairsWrongFalsely : Prop := fieldPairsRow.holds Try.pinned (OpenSpec.ofChange fieldPairsWrong)

/-- 'pawllaw01.FieldInverse': WHATEVER THE INPUT: true; the input reads as it did. -/
def fieldInverseSpec : ChangeSpec := { name := "fieldInverse", fn := fun _ => fun
  | [d1, d2] => { results := [.lit (.bool true)], args := [d1, d2] }
  | _ => none }
def fieldInverseRow : OpenClaim := { program := "ytfajgpjpabeafaa", sum := "f0d0a614c768eeeac41109b4910881f85b72242a7bbc6bf2e862888bd611750d", func := "pawl/pawllaw01.FieldInverse", spec := "fieldInverse", inPlace := ["math/bits.Add64"], apart := false }
def FieldInverseSaid : Prop := fieldInverseRow.holds Try.pinned (OpenSpec.ofChange fieldInverseSpec)

/-- ITS FALSE NEIGHBOUR: 'it returns false'. Refute it at one input. -/
def fieldInverseWrong : ChangeSpec := { name := "fieldInverse", fn := fun _ => fun
  | [d1, d2] => { results := [.lit (.bool false)], args := [d1, d2] }
  | _ => none }
def FieldInverseWrongFalsely : Prop := fieldInverseRow.holds Try.pinned (OpenSpec.ofChange fieldInverseWrong)

/-- 'pawllaw01.FieldRoots': WHATEVER THE INPUT: true; the input reads as it did. -/
def fieldRootsSpec : ChangeSpec := { name := "fieldRoots", fn := fun _ => fun
  | [d] => { results := [.lit (.bool true)], args := [d] }
  | _ => none }
def fieldRootsRow : OpenClaim := { program := "ytfajgpjpabeafaa", sum := "f0d0a614c768eeeac41109b4910881f85b72242a7bbc6bf2e862888bd611750d", func := "pawl/pawllaw01.FieldRoots", spec := "fieldRoots", inPlace := ["math/bits.Sub64", "math/bits.Add64"], apart := false }
def FieldRootsSaid : Prop := fieldRootsRow.holds Try.pinned (OpenSpec.ofChange fieldRootsSpec)

/-- ITS FALSE NEIGHBOUR: 'it returns false'. Refute it at one input. -/
def fieldRootsWrong : ChangeSpec := { name := "fieldRoots", fn := fun _ => fun
  | [d] => { results := [.lit (.bool false)], args := [d] }
  | _ => none }
def FieldRootsWrongFalsely : Prop := fieldRootsRow.holds Try.pinned (OpenSpec.ofChange fieldRootsWrong)

/-- 'pawllaw01.FieldSquares': WHATEVER THE INPUT: true; the input reads as it did. -/
def fieldSquaresSpec : ChangeSpec := { name := "fieldSquares", fn := fun _ => fun
  | [d1, d2] => { results := [.lit (.bool true)], args := [d1, d2] }
  | _ => none }
def fieldSquaresRow : OpenClaim := { program := "ytfajgpjpabeafaa", sum := "f0d0a614c768eeeac41109b4910881f85b72242a7bbc6bf2e862888bd611750d", func := "pawl/pawllaw01.FieldSquares", spec := "fieldSquares", inPlace := ["math/bits.Add64"], apart := false }
def FieldSquaresSaid : Prop := fieldSquaresRow.holds Try.pinned (OpenSpec.ofChange fieldSquaresSpec)

/-- ITS FALSE NEIGHBOUR: 'it returns false'. Refute it at one input. -/
def fieldSquaresWrong : ChangeSpec := { name := "fieldSquares", fn := fun _ => fun
  | [d1, d2] => { results := [.lit (.bool false)], args := [d1, d2] }
  | _ => none }
def FieldSquaresWrongFalsely : Prop := fieldSquaresRow.holds Try.pinned (OpenSpec.ofChange fieldSquaresWrong)

/-- 'pawllaw02.CurveOns': WHATEVER THE INPUT: true; the input reads as it did. -/
def curveOnsSpec : ChangeSpec := { name := "curveOns", fn := fun _ => fun
  | [d] => { results := [.lit (.bool true)], args := [d] }
  | _ => none }
def curveOnsRow : OpenClaim := { program := "ytfajgpjpabeafaa", sum := "f0d0a614c768eeeac41109b4910881f85b72242a7bbc6bf2e862888bd611750d", func := "pawl/pawllaw02.CurveOns", spec := "curveOns", inPlace := ["math/bits.Add64", "math/bits.Sub64"], apart := false }
def CurveOnsSaid : Prop := curveOnsRow.holds Try.pinned (OpenSpec.ofChange curveOnsSpec)

/-- ITS FALSE NEIGHBOUR: 'it returns false'. Refute it at one input. -/
def curveOnsWrong : ChangeSpec := { name := "curveOns", fn := fun _ => fun
  | [d] => { results := [.lit (.bool false)], args := [d] }
  | _ => none }
def CurveOnsWrongFalsely : Prop := curveOnsRow.holds Try.pinned (OpenSpec.ofChange curveOnsWrong)

/-- 'pawllaw02.CurveVectors': WHATEVER THE INPUT: true; the input reads as it did. -/
def curveVectorsSpec : ChangeSpec := { name := "curveVectors", fn := fun _ => fun
  | [] => { results := [.lit (.bool true)], args := [] }
  | _ => none }
def curveVectorsRow : OpenClaim := { program := "ytfajgpjpabeafaa", sum := "f0d0a614c768eeeac41109b4910881f85b72242a7bbc6bf2e862888bd611750d", func := "pawl/pawllaw02.CurveVectors", spec := "curveVectors", inPlace := ["math/bits.Add64"], unfollowed := true, recurses := true, apart := false }
def CurveVectorsSaid : Prop := curveVectorsRow.holds Try.pinned (OpenSpec.ofChange curveVectorsSpec)

/-- ITS FALSE NEIGHBOUR: 'it returns false'. Refute it at one input. -/
def curveVectorsWrong : ChangeSpec := { name := "curveVectors", fn := fun _ => fun
  | [] => { results := [.lit (.bool false)], args := [] }
  | _ => none }
def CurveVectorsWrongFalsely : Prop := curveVectorsRow.holds Try.pinned (OpenSpec.ofChange curveVectorsWrong)

/-- 'pawllaw02.CurveTurns': WHATEVER THE INPUT: true; the input reads as it did. -/
def curveTurnsSpec : ChangeSpec := { name := "curveTurns", fn := fun _ => fun
  | [d1, d2, d3] => { results := [.lit (.bool true)], args := [d1, d2, d3] }
  | _ => none }
def curveTurnsRow : OpenClaim := { program := "ytfajgpjpabeafaa", sum := "f0d0a614c768eeeac41109b4910881f85b72242a7bbc6bf2e862888bd611750d", func := "pawl/pawllaw02.CurveTurns", spec := "curveTurns", inPlace := ["math/bits.Add64"], unfollowed := true, recurses := true, apart := false }
def CurveTurnsSaid : Prop := curveTurnsRow.holds Try.pinned (OpenSpec.ofChange curveTurnsSpec)

/-- ITS FALSE NEIGHBOUR: 'it returns false'. Refute it at one input. -/
def curveTurnsWrong : ChangeSpec := { name := "curveTurns", fn := fun _ => fun
  | [d1, d2, d3] => { results := [.lit (.bool false)], args := [d1, d2, d3] }
  | _ => none }
def CurveTurnsWrongFalsely : Prop := curveTurnsRow.holds Try.pinned (OpenSpec.ofChange curveTurnsWrong)

/-- 'pawllaw02.CurveForms': WHATEVER THE INPUT: true; the input reads as it did. -/
def curveFormsSpec : ChangeSpec := { name := "curveForms", fn := fun _ => fun
  | [d1, d2] => { results := [.lit (.bool true)], args := [d1, d2] }
  | _ => none }
def curveFormsRow : OpenClaim := { program := "ytfajgpjpabeafaa", sum := "f0d0a614c768eeeac41109b4910881f85b72242a7bbc6bf2e862888bd611750d", func := "pawl/pawllaw02.CurveForms", spec := "curveForms", inPlace := ["math/bits.Add64"], unfollowed := true, recurses := true, apart := false }
def CurveFormsSaid : Prop := curveFormsRow.holds Try.pinned (OpenSpec.ofChange curveFormsSpec)

/-- ITS FALSE NEIGHBOUR: 'it returns false'. Refute it at one input. -/
def curveFormsWrong : ChangeSpec := { name := "curveForms", fn := fun _ => fun
  | [d1, d2] => { results := [.lit (.bool false)], args := [d1, d2] }
  | _ => none }
def CurveFormsWrongFalsely : Prop := curveFormsRow.holds Try.pinned (OpenSpec.ofChange curveFormsWrong)

/-- 'pawllaw01.FieldAll': WHATEVER THE INPUT: true; the input reads as it did. -/
def fieldAllSpec : ChangeSpec := { name := "fieldAll", fn := fun _ => fun
  | [d] => { results := [.lit (.bool true)], args := [d] }
  | _ => none }
def fieldAllRow : OpenClaim := { program := "ytfajgpjpabeafaa", sum := "f0d0a614c768eeeac41109b4910881f85b72242a7bbc6bf2e862888bd611750d", func := "pawl/pawllaw01.FieldAll", spec := "fieldAll", inPlace := ["math/bits.Add64", "math/bits.Sub64"], apart := false }
def FieldAllSaid : Prop := fieldAllRow.holds Try.pinned (OpenSpec.ofChange fieldAllSpec)

/-- ITS FALSE NEIGHBOUR: 'it returns false'. Refute it at one input. -/
def fieldAllWrong : ChangeSpec := { name := "fieldAll", fn := fun _ => fun
  | [d] => { results := [.lit (.bool false)], args := [d] }
  | _ => none }
def FieldAllWrongFalsely : Prop := fieldAllRow.holds Try.pinned (OpenSpec.ofChange fieldAllWrong)

/-- 'pawllaw02.CurveScales': WHATEVER THE INPUT: true; the input reads as it did. -/
def curveScalesSpec : ChangeSpec := { name := "curveScales", fn := fun _ => fun
  | [d1, d2] => { results := [.lit (.bool true)], args := [d1, d2] }
  | _ => none }
def curveScalesRow : OpenClaim := { program := "ytfajgpjpabeafaa", sum := "f0d0a614c768eeeac41109b4910881f85b72242a7bbc6bf2e862888bd611750d", func := "pawl/pawllaw02.CurveScales", spec := "curveScales", inPlace := ["math/bits.Add64", "math/bits.Sub64"], unfollowed := true, recurses := true, apart := false }
def CurveScalesSaid : Prop := curveScalesRow.holds Try.pinned (OpenSpec.ofChange curveScalesSpec)

/-- ITS FALSE NEIGHBOUR: 'it returns false'. Refute it at one input. -/
def curveScalesWrong : ChangeSpec := { name := "curveScales", fn := fun _ => fun
  | [d1, d2] => { results := [.lit (.bool false)], args := [d1, d2] }
  | _ => none }
def CurveScalesWrongFalsely : Prop := curveScalesRow.holds Try.pinned (OpenSpec.ofChange curveScalesWrong)

/-- 'pawllaw02.CurveMultiples': WHATEVER THE INPUT: true; the input reads as it did. -/
def curveMultiplesSpec : ChangeSpec := { name := "curveMultiples", fn := fun _ => fun
  | [d1, d2] => { results := [.lit (.bool true)], args := [d1, d2] }
  | _ => none }
def curveMultiplesRow : OpenClaim := { program := "ytfajgpjpabeafaa", sum := "f0d0a614c768eeeac41109b4910881f85b72242a7bbc6bf2e862888bd611750d", func := "pawl/pawllaw02.CurveMultiples", spec := "curveMultiples", inPlace := ["math/bits.Sub64", "math/bits.Add64"], unfollowed := true, recurses := true, apart := false }
def CurveMultiplesSaid : Prop := curveMultiplesRow.holds Try.pinned (OpenSpec.ofChange curveMultiplesSpec)

/-- ITS FALSE NEIGHBOUR: 'it returns false'. Refute it at one input. -/
def curveMultiplesWrong : ChangeSpec := { name := "curveMultiples", fn := fun _ => fun
  | [d1, d2] => { results := [.lit (.bool false)], args := [d1, d2] }
  | _ => none }
def CurveMultiplesWrongFalsely : Prop := curveMultiplesRow.holds Try.pinned (OpenSpec.ofChange curveMultiplesWrong)

/-- 'pawllaw02.CurvePublics': WHATEVER THE INPUT: true; the input reads as it did. -/
def curvePublicsSpec : ChangeSpec := { name := "curvePublics", fn := fun _ => fun
  | [d] => { results := [.lit (.bool true)], args := [d] }
  | _ => none }
def curvePublicsRow : OpenClaim := { program := "ytfajgpjpabeafaa", sum := "f0d0a614c768eeeac41109b4910881f85b72242a7bbc6bf2e862888bd611750d", func := "pawl/pawllaw02.CurvePublics", spec := "curvePublics", inPlace := ["math/bits.Add64", "math/bits.Sub64"], unfollowed := true, recurses := true, apart := false }
def CurvePublicsSaid : Prop := curvePublicsRow.holds Try.pinned (OpenSpec.ofChange curvePublicsSpec)

/-- ITS FALSE NEIGHBOUR: 'it returns false'. Refute it at one input. -/
def curvePublicsWrong : ChangeSpec := { name := "curvePublics", fn := fun _ => fun
  | [d] => { results := [.lit (.bool false)], args := [d] }
  | _ => none }
def CurvePublicsWrongFalsely : Prop := curvePublicsRow.holds Try.pinned (OpenSpec.ofChange curvePublicsWrong)

/-- 'pawllaw02.CurveShareds': WHATEVER THE INPUT: true; the input reads as it did. -/
def curveSharedsSpec : ChangeSpec := { name := "curveShareds", fn := fun _ => fun
  | [d1, d2] => { results := [.lit (.bool true)], args := [d1, d2] }
  | _ => none }
def curveSharedsRow : OpenClaim := { program := "ytfajgpjpabeafaa", sum := "f0d0a614c768eeeac41109b4910881f85b72242a7bbc6bf2e862888bd611750d", func := "pawl/pawllaw02.CurveShareds", spec := "curveShareds", inPlace := ["math/bits.Add64", "math/bits.Sub64"], unfollowed := true, recurses := true, apart := false }
def CurveSharedsSaid : Prop := curveSharedsRow.holds Try.pinned (OpenSpec.ofChange curveSharedsSpec)

/-- ITS FALSE NEIGHBOUR: 'it returns false'. Refute it at one input. -/
def curveSharedsWrong : ChangeSpec := { name := "curveShareds", fn := fun _ => fun
  | [d1, d2] => { results := [.lit (.bool false)], args := [d1, d2] }
  | _ => none }
def CurveSharedsWrongFalsely : Prop := curveSharedsRow.holds Try.pinned (OpenSpec.ofChange curveSharedsWrong)

/-- 'pawllaw02.CurvePairs': WHATEVER THE INPUT: true; the input reads as it did. -/
def curvePairsSpec : ChangeSpec := { name := "curvePairs", fn := fun _ => fun
  | [d] => { results := [.lit (.bool true)], args := [d] }
  | _ => none }
def curvePairsRow : OpenClaim := { program := "ytfajgpjpabeafaa", sum := "f0d0a614c768eeeac41109b4910881f85b72242a7bbc6bf2e862888bd611750d", func := "pawl/pawllaw02.CurvePairs", spec := "curvePairs", inPlace := ["math/bits.Add64", "math/bits.Sub64"], unfollowed := true, recurses := true, apart := false }
def CurvePairsSaid : Prop := curvePairsRow.holds Try.pinned (OpenSpec.ofChange curvePairsSpec)

/-- ITS FALSE NEIGHBOUR: 'it returns false'. Refute it at one input. -/
def curvePairsWrong : ChangeSpec := { name := "curvePairs", fn := fun _ => fun
  | [d] => { results := [.lit (.bool false)], args := [d] }
  | _ => none }
def CurvePairsWrongFalsely : Prop := curvePairsRow.holds Try.pinned (OpenSpec.ofChange curvePairsWrong)

/-- 'pawllaw02.CurveWeak': WHATEVER THE INPUT: true; the input reads as it did. -/
def curveWeakSpec : ChangeSpec := { name := "curveWeak", fn := fun _ => fun
  | [d1, d2] => { results := [.lit (.bool true)], args := [d1, d2] }
  | _ => none }
def curveWeakRow : OpenClaim := { program := "ytfajgpjpabeafaa", sum := "f0d0a614c768eeeac41109b4910881f85b72242a7bbc6bf2e862888bd611750d", func := "pawl/pawllaw02.CurveWeak", spec := "curveWeak", inPlace := ["math/bits.Add64", "math/bits.Sub64"], unfollowed := true, recurses := true, apart := false }
def CurveWeakSaid : Prop := curveWeakRow.holds Try.pinned (OpenSpec.ofChange curveWeakSpec)

/-- ITS FALSE NEIGHBOUR: 'it returns false'. Refute it at one input. -/
def curveWeakWrong : ChangeSpec := { name := "curveWeak", fn := fun _ => fun
  | [d1, d2] => { results := [.lit (.bool false)], args := [d1, d2] }
  | _ => none }
def CurveWeakWrongFalsely : Prop := curveWeakRow.holds Try.pinned (OpenSpec.ofChange curveWeakWrong)

/-- 'pawllaw02.CurveAgrees': WHATEVER THE INPUT: true; the input reads as it did. -/
def curveAgreesSpec : ChangeSpec := { name := "curveAgrees", fn := fun _ => fun
  | [d1, d2] => { results := [.lit (.bool true)], args := [d1, d2] }
  | _ => none }
def curveAgreesRow : OpenClaim := { program := "ytfajgpjpabeafaa", sum := "f0d0a614c768eeeac41109b4910881f85b72242a7bbc6bf2e862888bd611750d", func := "pawl/pawllaw02.CurveAgrees", spec := "curveAgrees", inPlace := ["math/bits.Add64"], unfollowed := true, recurses := true, apart := false }
def CurveAgreesSaid : Prop := curveAgreesRow.holds Try.pinned (OpenSpec.ofChange curveAgreesSpec)

/-- ITS FALSE NEIGHBOUR: 'it returns false'. Refute it at one input. -/
def curveAgreesWrong : ChangeSpec := { name := "curveAgrees", fn := fun _ => fun
  | [d1, d2] => { results := [.lit (.bool false)], args := [d1, d2] }
  | _ => none }
def CurveAgreesWrongFalsely : Prop := curveAgreesRow.holds Try.pinned (OpenSpec.ofChange curveAgreesWrong)

/-- 'pawllaw02.CurveSides': WHATEVER THE INPUT: true; the input reads as it did. -/
def curveSidesSpec : ChangeSpec := { name := "curveSides", fn := fun _ => fun
  | [d1, d2] => { results := [.lit (.bool true)], args := [d1, d2] }
  | _ => none }
def curveSidesRow : OpenClaim := { program := "ytfajgpjpabeafaa", sum := "f0d0a614c768eeeac41109b4910881f85b72242a7bbc6bf2e862888bd611750d", func := "pawl/pawllaw02.CurveSides", spec := "curveSides", inPlace := ["math/bits.Add64"], unfollowed := true, recurses := true, apart := false }
def CurveSidesSaid : Prop := curveSidesRow.holds Try.pinned (OpenSpec.ofChange curveSidesSpec)

/-- ITS FALSE NEIGHBOUR: 'it returns false'. Refute it at one input. -/
def curveSidesWrong : ChangeSpec := { name := "curveSides", fn := fun _ => fun
  | [d1, d2] => { results := [.lit (.bool false)], args := [d1, d2] }
  | _ => none }
def CurveSidesWrongFalsely : Prop := curveSidesRow.holds Try.pinned (OpenSpec.ofChange curveSidesWrong)

/- THE SECOND FORM. 'bulk': how many values and letters a reading holds, each counted each time it is reached (what is shared counts as often as it is met; a slice's spare places count too). A statement '..UptoSaid' is the law's where the arguments, and the package variables that the reading takes, are together of bulk at most 1048576: NARROWER than '..Said'. Prove '..Said' where nothing that the law and all that it calls make is longer than what came in: it says more and counts as full. Else prove '..UptoSaid'. A law counts once. -/
mutual
def uptoBulk {H : Type} : DataW H → Nat
  | .lit (.string bytes) => bytes.length + 1
  | .lit _ => 1
  | .nil => 1
  | .ptr d => uptoBulk d + 1
  | .slice elems spare => uptoBulkAll elems + uptoBulkAll spare + 1
  | .agg parts => uptoBulkAll parts + 1
  | .iface _ d => uptoBulk d + 1
  | .map entries => uptoBulkEntries entries + 1
  | .held _ => 1
def uptoBulkAll {H : Type} : List (DataW H) → Nat
  | [] => 0
  | d :: r => uptoBulk d + uptoBulkAll r
def uptoBulkEntries {H : Type} : List (Lit × DataW H) → Nat
  | [] => 0
  | x :: r => uptoBulkEntry x + uptoBulkEntries r
def uptoBulkEntry {H : Type} : Lit × DataW H → Nat
  | (.string bytes, d) => bytes.length + uptoBulk d + 1
  | (_, d) => uptoBulk d + 1
 end
def uptoSmall : (H : Type) → List (DataW H) → Bool := fun _ ds => decide (uptoBulkAll ds ≤ 1048576)
def OpenSpec.upto (s : _root_.Go.ChangeSpec) : _root_.Go.OpenSpec := { _root_.Go.OpenSpec.ofChange s with cond := some uptoSmall }

/-- 'pawllaw02.CurveClamps', WHERE WHAT IT READS IS OF BULK AT MOST 1048576: true; the input reads as it did. -/
def curveClampsUptoRow : OpenClaim := { program := "ytfajgpjpabeafaa", sum := "f0d0a614c768eeeac41109b4910881f85b72242a7bbc6bf2e862888bd611750d", func := "pawl/pawllaw02.CurveClamps", spec := "curveClamps", apart := false, narrowed := true }
def CurveClampsUptoSaid : Prop := curveClampsUptoRow.holds Try.pinned (OpenSpec.upto curveClampsSpec)

/-- 'pawllaw01.FieldForms', WHERE WHAT IT READS IS OF BULK AT MOST 1048576: true; the input reads as it did. -/
def fieldFormsUptoRow : OpenClaim := { program := "ytfajgpjpabeafaa", sum := "f0d0a614c768eeeac41109b4910881f85b72242a7bbc6bf2e862888bd611750d", func := "pawl/pawllaw01.FieldForms", spec := "fieldForms", inPlace := ["math/bits.Sub64"], apart := false, narrowed := true }
def FieldFormsUptoSaid : Prop := fieldFormsUptoRow.holds Try.pinned (OpenSpec.upto fieldFormsSpec)

/-- 'pawllaw01.FieldSmalls', WHERE WHAT IT READS IS OF BULK AT MOST 1048576: true; the input reads as it did. -/
def fieldSmallsUptoRow : OpenClaim := { program := "ytfajgpjpabeafaa", sum := "f0d0a614c768eeeac41109b4910881f85b72242a7bbc6bf2e862888bd611750d", func := "pawl/pawllaw01.FieldSmalls", spec := "fieldSmalls", inPlace := ["math/bits.Add64", "math/bits.Sub64"], apart := false, narrowed := true }
def FieldSmallsUptoSaid : Prop := fieldSmallsUptoRow.holds Try.pinned (OpenSpec.upto fieldSmallsSpec)

/-- 'pawllaw01.FieldForm', WHERE WHAT IT READS IS OF BULK AT MOST 1048576: true; the input reads as it did. -/
def fieldFormUptoRow : OpenClaim := { program := "ytfajgpjpabeafaa", sum := "f0d0a614c768eeeac41109b4910881f85b72242a7bbc6bf2e862888bd611750d", func := "pawl/pawllaw01.FieldForm", spec := "fieldForm", inPlace := ["math/bits.Add64"], apart := false, narrowed := true }
def FieldFormUptoSaid : Prop := fieldFormUptoRow.holds Try.pinned (OpenSpec.upto fieldFormSpec)

/-- 'pawllaw01.FieldRing', WHERE WHAT IT READS IS OF BULK AT MOST 1048576: true; the input reads as it did. -/
def fieldRingUptoRow : OpenClaim := { program := "ytfajgpjpabeafaa", sum := "f0d0a614c768eeeac41109b4910881f85b72242a7bbc6bf2e862888bd611750d", func := "pawl/pawllaw01.FieldRing", spec := "fieldRing", inPlace := ["math/bits.Add64"], apart := false, narrowed := true }
def FieldRingUptoSaid : Prop := fieldRingUptoRow.holds Try.pinned (OpenSpec.upto fieldRingSpec)

/-- 'pawllaw01.FieldPowers', WHERE WHAT IT READS IS OF BULK AT MOST 1048576: true; the input reads as it did. -/
def fieldPowersUptoRow : OpenClaim := { program := "ytfajgpjpabeafaa", sum := "f0d0a614c768eeeac41109b4910881f85b72242a7bbc6bf2e862888bd611750d", func := "pawl/pawllaw01.FieldPowers", spec := "fieldPowers", inPlace := ["math/bits.Add64", "math/bits.Sub64"], apart := false, narrowed := true }
def FieldPowersUptoSaid : Prop := fieldPowersUptoRow.holds Try.pinned (OpenSpec.upto fieldPowersSpec)

/-- 'pawllaw01.FieldPairs', WHERE WHAT IT READS IS OF BULK AT MOST 1048576: true; the input reads as it did. -/
def fieldPairsUptoRow : OpenClaim := { program := "ytfajgpjpabeafaa", sum := "f0d0a614c768eeeac41109b4910881f85b72242a7bbc6bf2e862888bd611750d", func := "pawl/pawllaw01.FieldPairs", spec := "fieldPairs", inPlace := ["math/bits.Sub64", "math/bits.Add64"], apart := false, narrowed := true }
def FieldPairsUptoSaid : Prop := fieldPairsUptoRow.holds Try.pinned (OpenSpec.upto fieldPairsSpec)

/-- 'pawllaw01.FieldInverse', WHERE WHAT IT READS IS OF BULK AT MOST 1048576: true; the input reads as it did. -/
def fieldInverseUptoRow : OpenClaim := { program := "ytfajgpjpabeafaa", sum := "f0d0a614c768eeeac41109b4910881f85b72242a7bbc6bf2e862888bd611750d", func := "pawl/pawllaw01.FieldInverse", spec := "fieldInverse", inPlace := ["math/bits.Add64"], apart := false, narrowed := true }
def FieldInverseUptoSaid : Prop := fieldInverseUptoRow.holds Try.pinned (OpenSpec.upto fieldInverseSpec)

/-- 'pawllaw01.FieldRoots', WHERE WHAT IT READS IS OF BULK AT MOST 1048576: true; the input reads as it did. -/
def fieldRootsUptoRow : OpenClaim := { program := "ytfajgpjpabeafaa", sum := "f0d0a614c768eeeac41109b4910881f85b72242a7bbc6bf2e862888bd611750d", func := "pawl/pawllaw01.FieldRoots", spec := "fieldRoots", inPlace := ["math/bits.Sub64", "math/bits.Add64"], apart := false, narrowed := true }
def FieldRootsUptoSaid : Prop := fieldRootsUptoRow.holds Try.pinned (OpenSpec.upto fieldRootsSpec)

/-- 'pawllaw01.FieldSquares', WHERE WHAT IT READS IS OF BULK AT MOST 1048576: true; the input reads as it did. -/
def fieldSquaresUptoRow : OpenClaim := { program := "ytfajgpjpabeafaa", sum := "f0d0a614c768eeeac41109b4910881f85b72242a7bbc6bf2e862888bd611750d", func := "pawl/pawllaw01.FieldSquares", spec := "fieldSquares", inPlace := ["math/bits.Add64"], apart := false, narrowed := true }
def FieldSquaresUptoSaid : Prop := fieldSquaresUptoRow.holds Try.pinned (OpenSpec.upto fieldSquaresSpec)

/-- 'pawllaw02.CurveOns', WHERE WHAT IT READS IS OF BULK AT MOST 1048576: true; the input reads as it did. -/
def curveOnsUptoRow : OpenClaim := { program := "ytfajgpjpabeafaa", sum := "f0d0a614c768eeeac41109b4910881f85b72242a7bbc6bf2e862888bd611750d", func := "pawl/pawllaw02.CurveOns", spec := "curveOns", inPlace := ["math/bits.Add64", "math/bits.Sub64"], apart := false, narrowed := true }
def CurveOnsUptoSaid : Prop := curveOnsUptoRow.holds Try.pinned (OpenSpec.upto curveOnsSpec)

/-- 'pawllaw02.CurveVectors', WHERE WHAT IT READS IS OF BULK AT MOST 1048576: true; the input reads as it did. -/
def curveVectorsUptoRow : OpenClaim := { program := "ytfajgpjpabeafaa", sum := "f0d0a614c768eeeac41109b4910881f85b72242a7bbc6bf2e862888bd611750d", func := "pawl/pawllaw02.CurveVectors", spec := "curveVectors", inPlace := ["math/bits.Add64"], unfollowed := true, recurses := true, apart := false, narrowed := true }
def CurveVectorsUptoSaid : Prop := curveVectorsUptoRow.holds Try.pinned (OpenSpec.upto curveVectorsSpec)

/-- 'pawllaw02.CurveTurns', WHERE WHAT IT READS IS OF BULK AT MOST 1048576: true; the input reads as it did. -/
def curveTurnsUptoRow : OpenClaim := { program := "ytfajgpjpabeafaa", sum := "f0d0a614c768eeeac41109b4910881f85b72242a7bbc6bf2e862888bd611750d", func := "pawl/pawllaw02.CurveTurns", spec := "curveTurns", inPlace := ["math/bits.Add64"], unfollowed := true, recurses := true, apart := false, narrowed := true }
def CurveTurnsUptoSaid : Prop := curveTurnsUptoRow.holds Try.pinned (OpenSpec.upto curveTurnsSpec)

/-- 'pawllaw02.CurveForms', WHERE WHAT IT READS IS OF BULK AT MOST 1048576: true; the input reads as it did. -/
def curveFormsUptoRow : OpenClaim := { program := "ytfajgpjpabeafaa", sum := "f0d0a614c768eeeac41109b4910881f85b72242a7bbc6bf2e862888bd611750d", func := "pawl/pawllaw02.CurveForms", spec := "curveForms", inPlace := ["math/bits.Add64"], unfollowed := true, recurses := true, apart := false, narrowed := true }
def CurveFormsUptoSaid : Prop := curveFormsUptoRow.holds Try.pinned (OpenSpec.upto curveFormsSpec)

/-- 'pawllaw01.FieldAll', WHERE WHAT IT READS IS OF BULK AT MOST 1048576: true; the input reads as it did. -/
def fieldAllUptoRow : OpenClaim := { program := "ytfajgpjpabeafaa", sum := "f0d0a614c768eeeac41109b4910881f85b72242a7bbc6bf2e862888bd611750d", func := "pawl/pawllaw01.FieldAll", spec := "fieldAll", inPlace := ["math/bits.Add64", "math/bits.Sub64"], apart := false, narrowed := true }
def FieldAllUptoSaid : Prop := fieldAllUptoRow.holds Try.pinned (OpenSpec.upto fieldAllSpec)

/-- 'pawllaw02.CurveScales', WHERE WHAT IT READS IS OF BULK AT MOST 1048576: true; the input reads as it did. -/
def curveScalesUptoRow : OpenClaim := { program := "ytfajgpjpabeafaa", sum := "f0d0a614c768eeeac41109b4910881f85b72242a7bbc6bf2e862888bd611750d", func := "pawl/pawllaw02.CurveScales", spec := "curveScales", inPlace := ["math/bits.Add64", "math/bits.Sub64"], unfollowed := true, recurses := true, apart := false, narrowed := true }
def CurveScalesUptoSaid : Prop := curveScalesUptoRow.holds Try.pinned (OpenSpec.upto curveScalesSpec)

/-- 'pawllaw02.CurveMultiples', WHERE WHAT IT READS IS OF BULK AT MOST 1048576: true; the input reads as it did. -/
def curveMultiplesUptoRow : OpenClaim := { program := "ytfajgpjpabeafaa", sum := "f0d0a614c768eeeac41109b4910881f85b72242a7bbc6bf2e862888bd611750d", func := "pawl/pawllaw02.CurveMultiples", spec := "curveMultiples", inPlace := ["math/bits.Sub64", "math/bits.Add64"], unfollowed := true, recurses := true, apart := false, narrowed := true }
def CurveMultiplesUptoSaid : Prop := curveMultiplesUptoRow.holds Try.pinned (OpenSpec.upto curveMultiplesSpec)

/-- 'pawllaw02.CurvePublics', WHERE WHAT IT READS IS OF BULK AT MOST 1048576: true; the input reads as it did. -/
def curvePublicsUptoRow : OpenClaim := { program := "ytfajgpjpabeafaa", sum := "f0d0a614c768eeeac41109b4910881f85b72242a7bbc6bf2e862888bd611750d", func := "pawl/pawllaw02.CurvePublics", spec := "curvePublics", inPlace := ["math/bits.Add64", "math/bits.Sub64"], unfollowed := true, recurses := true, apart := false, narrowed := true }
def CurvePublicsUptoSaid : Prop := curvePublicsUptoRow.holds Try.pinned (OpenSpec.upto curvePublicsSpec)

/-- 'pawllaw02.CurveShareds', WHERE WHAT IT READS IS OF BULK AT MOST 1048576: true; the input reads as it did. -/
def curveSharedsUptoRow : OpenClaim := { program := "ytfajgpjpabeafaa", sum := "f0d0a614c768eeeac41109b4910881f85b72242a7bbc6bf2e862888bd611750d", func := "pawl/pawllaw02.CurveShareds", spec := "curveShareds", inPlace := ["math/bits.Add64", "math/bits.Sub64"], unfollowed := true, recurses := true, apart := false, narrowed := true }
def CurveSharedsUptoSaid : Prop := curveSharedsUptoRow.holds Try.pinned (OpenSpec.upto curveSharedsSpec)

/-- 'pawllaw02.CurvePairs', WHERE WHAT IT READS IS OF BULK AT MOST 1048576: true; the input reads as it did. -/
def curvePairsUptoRow : OpenClaim := { program := "ytfajgpjpabeafaa", sum := "f0d0a614c768eeeac41109b4910881f85b72242a7bbc6bf2e862888bd611750d", func := "pawl/pawllaw02.CurvePairs", spec := "curvePairs", inPlace := ["math/bits.Add64", "math/bits.Sub64"], unfollowed := true, recurses := true, apart := false, narrowed := true }
def CurvePairsUptoSaid : Prop := curvePairsUptoRow.holds Try.pinned (OpenSpec.upto curvePairsSpec)

/-- 'pawllaw02.CurveWeak', WHERE WHAT IT READS IS OF BULK AT MOST 1048576: true; the input reads as it did. -/
def curveWeakUptoRow : OpenClaim := { program := "ytfajgpjpabeafaa", sum := "f0d0a614c768eeeac41109b4910881f85b72242a7bbc6bf2e862888bd611750d", func := "pawl/pawllaw02.CurveWeak", spec := "curveWeak", inPlace := ["math/bits.Add64", "math/bits.Sub64"], unfollowed := true, recurses := true, apart := false, narrowed := true }
def CurveWeakUptoSaid : Prop := curveWeakUptoRow.holds Try.pinned (OpenSpec.upto curveWeakSpec)

/-- 'pawllaw02.CurveAgrees', WHERE WHAT IT READS IS OF BULK AT MOST 1048576: true; the input reads as it did. -/
def curveAgreesUptoRow : OpenClaim := { program := "ytfajgpjpabeafaa", sum := "f0d0a614c768eeeac41109b4910881f85b72242a7bbc6bf2e862888bd611750d", func := "pawl/pawllaw02.CurveAgrees", spec := "curveAgrees", inPlace := ["math/bits.Add64"], unfollowed := true, recurses := true, apart := false, narrowed := true }
def CurveAgreesUptoSaid : Prop := curveAgreesUptoRow.holds Try.pinned (OpenSpec.upto curveAgreesSpec)

/-- 'pawllaw02.CurveSides', WHERE WHAT IT READS IS OF BULK AT MOST 1048576: true; the input reads as it did. -/
def curveSidesUptoRow : OpenClaim := { program := "ytfajgpjpabeafaa", sum := "f0d0a614c768eeeac41109b4910881f85b72242a7bbc6bf2e862888bd611750d", func := "pawl/pawllaw02.CurveSides", spec := "curveSides", inPlace := ["math/bits.Add64"], unfollowed := true, recurses := true, apart := false, narrowed := true }
def CurveSidesUptoSaid : Prop := curveSidesUptoRow.holds Try.pinned (OpenSpec.upto curveSidesSpec)

end Rows
end Go.Proofs.Ytfajgpjpabeafaa
