/-
  No cell of these rows narrows 'for every input' (looked for: loops, veiled, ifaces, maps, wideKeys, modest, calm, conditions, laid).
  DERIVED. THE GIVEN ROWS OF THIS SEAT. 17 by the template 'for every input the law returns true; each argument reads behind the call as it read before'; 0 by the template 'total and deterministic' (their statements: YtnnjaijokiknkaaTotals.lean).
  GIVEN WITH THE SEED: the statements are not yours to turn. If you find one false, say at which input.
  Laid BY PROGRAM, IN A SANDBOX (cutbox-rows.mjs): the forced cells as the released guide's own fill.sh prints them over the translation 12efacd83b981af1… (all of the seat's roots in one cut). By AI agents, Wed Nov 11 2026. No macro, syntax, notation, axiom, sorry.
-/
import Derived.Test.YtnnjaijokiknkaaChecked
import GoSem.Claim
import GoSem.ClaimJoined
import GoSem.ClaimMapViews
import Derived.JoinedTies
import Derived.KernelRfl
namespace Go.Proofs.Ytnnjaijokiknkaa
/- THE CELL 'sum', in the pinned program and in every row, IS THE sha256 OF THE DUMP (.gsa) THAT YtnnjaijokiknkaaProg.lean LOADS. Nothing in Lean hashes anything: it is a label: what it is worth is what the hold of that sum in a sandbox is worth. -/
noncomputable def Try.pinned : Pinned := { name := "ytnnjaijokiknkaa", sum := "12efacd83b981af1e42f3b5314ad6516fef47a75bc1893d3c60aaa35a04baaa2", checked := Try.checked }
namespace Rows
def none {H : Type} : Left H := { results := [], args := [] }

/-- 'pawllaw20.SignDresses': WHATEVER THE INPUT: true; the input reads as it did. -/
def signDressesSpec : ChangeSpec := { name := "signDresses", fn := fun _ => fun
  | [d1, d2, d3] => { results := [.lit (.bool true)], args := [d1, d2, d3] }
  | _ => none }
def signDressesRow : OpenClaim := { program := "ytnnjaijokiknkaa", sum := "12efacd83b981af1e42f3b5314ad6516fef47a75bc1893d3c60aaa35a04baaa2", func := "pawl/pawllaw20.SignDresses", spec := "signDresses", inPlace := ["math/bits.Add64", "math/bits.Sub64"], apart := false }
def SignDressesSaid : Prop := signDressesRow.holds Try.pinned (OpenSpec.ofChange signDressesSpec)

/-- ITS FALSE NEIGHBOUR: 'it returns false'. Refute it at one input. -/
def signDressesWrong : ChangeSpec := { name := "signDresses", fn := fun _ => fun
  | [d1, d2, d3] => { results := [.lit (.bool false)], args := [d1, d2, d3] }
  | _ => none }
def SignDressesWrongFalsely : Prop := signDressesRow.holds Try.pinned (OpenSpec.ofChange signDressesWrong)

/-- 'pawllaw19.EdwardsScalars': WHATEVER THE INPUT: true; the input reads as it did. -/
def edwardsScalarsSpec : ChangeSpec := { name := "edwardsScalars", fn := fun _ => fun
  | [d1, d2, d3] => { results := [.lit (.bool true)], args := [d1, d2, d3] }
  | _ => none }
def edwardsScalarsRow : OpenClaim := { program := "ytnnjaijokiknkaa", sum := "12efacd83b981af1e42f3b5314ad6516fef47a75bc1893d3c60aaa35a04baaa2", func := "pawl/pawllaw19.EdwardsScalars", spec := "edwardsScalars", inPlace := ["math/bits.Add64", "math/bits.Sub64"], apart := false }
def EdwardsScalarsSaid : Prop := edwardsScalarsRow.holds Try.pinned (OpenSpec.ofChange edwardsScalarsSpec)

/-- ITS FALSE NEIGHBOUR: 'it returns false'. Refute it at one input. -/
def edwardsScalarsWrong : ChangeSpec := { name := "edwardsScalars", fn := fun _ => fun
  | [d1, d2, d3] => { results := [.lit (.bool false)], args := [d1, d2, d3] }
  | _ => none }
def EdwardsScalarsWrongFalsely : Prop := edwardsScalarsRow.holds Try.pinned (OpenSpec.ofChange edwardsScalarsWrong)

/-- 'pawllaw19.EdwardsNumbers': WHATEVER THE INPUT: true; the input reads as it did. -/
def edwardsNumbersSpec : ChangeSpec := { name := "edwardsNumbers", fn := fun _ => fun
  | [d1, d2, d3] => { results := [.lit (.bool true)], args := [d1, d2, d3] }
  | _ => none }
def edwardsNumbersRow : OpenClaim := { program := "ytnnjaijokiknkaa", sum := "12efacd83b981af1e42f3b5314ad6516fef47a75bc1893d3c60aaa35a04baaa2", func := "pawl/pawllaw19.EdwardsNumbers", spec := "edwardsNumbers", inPlace := ["math/bits.Add64", "math/bits.Sub64"], apart := false }
def EdwardsNumbersSaid : Prop := edwardsNumbersRow.holds Try.pinned (OpenSpec.ofChange edwardsNumbersSpec)

/-- ITS FALSE NEIGHBOUR: 'it returns false'. Refute it at one input. -/
def edwardsNumbersWrong : ChangeSpec := { name := "edwardsNumbers", fn := fun _ => fun
  | [d1, d2, d3] => { results := [.lit (.bool false)], args := [d1, d2, d3] }
  | _ => none }
def EdwardsNumbersWrongFalsely : Prop := edwardsNumbersRow.holds Try.pinned (OpenSpec.ofChange edwardsNumbersWrong)

/-- 'pawllaw20.SignLent': WHATEVER THE INPUT: true; the input reads as it did. -/
def signLentSpec : ChangeSpec := { name := "signLent", fn := fun _ => fun
  | [d1, d2, d3] => { results := [.lit (.bool true)], args := [d1, d2, d3] }
  | _ => none }
def signLentRow : OpenClaim := { program := "ytnnjaijokiknkaa", sum := "12efacd83b981af1e42f3b5314ad6516fef47a75bc1893d3c60aaa35a04baaa2", func := "pawl/pawllaw20.SignLent", spec := "signLent", inPlace := ["math/bits.Add64", "math/bits.Sub64"], unfollowed := true, recurses := true, apart := false }
def SignLentSaid : Prop := signLentRow.holds Try.pinned (OpenSpec.ofChange signLentSpec)

/-- ITS FALSE NEIGHBOUR: 'it returns false'. Refute it at one input. -/
def signLentWrong : ChangeSpec := { name := "signLent", fn := fun _ => fun
  | [d1, d2, d3] => { results := [.lit (.bool false)], args := [d1, d2, d3] }
  | _ => none }
def SignLentWrongFalsely : Prop := signLentRow.holds Try.pinned (OpenSpec.ofChange signLentWrong)

/-- 'pawllaw19.EdwardsParses': WHATEVER THE INPUT: true; the input reads as it did. -/
def edwardsParsesSpec : ChangeSpec := { name := "edwardsParses", fn := fun _ => fun
  | [d1, d2] => { results := [.lit (.bool true)], args := [d1, d2] }
  | _ => none }
def edwardsParsesRow : OpenClaim := { program := "ytnnjaijokiknkaa", sum := "12efacd83b981af1e42f3b5314ad6516fef47a75bc1893d3c60aaa35a04baaa2", func := "pawl/pawllaw19.EdwardsParses", spec := "edwardsParses", inPlace := ["math/bits.Add64", "math/bits.Sub64"], apart := false }
def EdwardsParsesSaid : Prop := edwardsParsesRow.holds Try.pinned (OpenSpec.ofChange edwardsParsesSpec)

/-- ITS FALSE NEIGHBOUR: 'it returns false'. Refute it at one input. -/
def edwardsParsesWrong : ChangeSpec := { name := "edwardsParses", fn := fun _ => fun
  | [d1, d2] => { results := [.lit (.bool false)], args := [d1, d2] }
  | _ => none }
def EdwardsParsesWrongFalsely : Prop := edwardsParsesRow.holds Try.pinned (OpenSpec.ofChange edwardsParsesWrong)

/-- 'pawllaw19.EdwardsPoints': WHATEVER THE INPUT: true; the input reads as it did. -/
def edwardsPointsSpec : ChangeSpec := { name := "edwardsPoints", fn := fun _ => fun
  | [d] => { results := [.lit (.bool true)], args := [d] }
  | _ => none }
def edwardsPointsRow : OpenClaim := { program := "ytnnjaijokiknkaa", sum := "12efacd83b981af1e42f3b5314ad6516fef47a75bc1893d3c60aaa35a04baaa2", func := "pawl/pawllaw19.EdwardsPoints", spec := "edwardsPoints", inPlace := ["math/bits.Add64"], apart := false }
def EdwardsPointsSaid : Prop := edwardsPointsRow.holds Try.pinned (OpenSpec.ofChange edwardsPointsSpec)

/-- ITS FALSE NEIGHBOUR: 'it returns false'. Refute it at one input. -/
def edwardsPointsWrong : ChangeSpec := { name := "edwardsPoints", fn := fun _ => fun
  | [d] => { results := [.lit (.bool false)], args := [d] }
  | _ => none }
def EdwardsPointsWrongFalsely : Prop := edwardsPointsRow.holds Try.pinned (OpenSpec.ofChange edwardsPointsWrong)

/-- 'pawllaw19.EdwardsGroup': WHATEVER THE INPUT: true; the input reads as it did. -/
def edwardsGroupSpec : ChangeSpec := { name := "edwardsGroup", fn := fun _ => fun
  | [d1, d2, d3] => { results := [.lit (.bool true)], args := [d1, d2, d3] }
  | _ => none }
def edwardsGroupRow : OpenClaim := { program := "ytnnjaijokiknkaa", sum := "12efacd83b981af1e42f3b5314ad6516fef47a75bc1893d3c60aaa35a04baaa2", func := "pawl/pawllaw19.EdwardsGroup", spec := "edwardsGroup", inPlace := ["math/bits.Add64"], apart := false }
def EdwardsGroupSaid : Prop := edwardsGroupRow.holds Try.pinned (OpenSpec.ofChange edwardsGroupSpec)

/-- ITS FALSE NEIGHBOUR: 'it returns false'. Refute it at one input. -/
def edwardsGroupWrong : ChangeSpec := { name := "edwardsGroup", fn := fun _ => fun
  | [d1, d2, d3] => { results := [.lit (.bool false)], args := [d1, d2, d3] }
  | _ => none }
def EdwardsGroupWrongFalsely : Prop := edwardsGroupRow.holds Try.pinned (OpenSpec.ofChange edwardsGroupWrong)

/-- 'pawllaw19.EdwardsScales': WHATEVER THE INPUT: true; the input reads as it did. -/
def edwardsScalesSpec : ChangeSpec := { name := "edwardsScales", fn := fun _ => fun
  | [d1, d2] => { results := [.lit (.bool true)], args := [d1, d2] }
  | _ => none }
def edwardsScalesRow : OpenClaim := { program := "ytnnjaijokiknkaa", sum := "12efacd83b981af1e42f3b5314ad6516fef47a75bc1893d3c60aaa35a04baaa2", func := "pawl/pawllaw19.EdwardsScales", spec := "edwardsScales", inPlace := ["math/bits.Add64", "math/bits.Sub64"], apart := false }
def EdwardsScalesSaid : Prop := edwardsScalesRow.holds Try.pinned (OpenSpec.ofChange edwardsScalesSpec)

/-- ITS FALSE NEIGHBOUR: 'it returns false'. Refute it at one input. -/
def edwardsScalesWrong : ChangeSpec := { name := "edwardsScales", fn := fun _ => fun
  | [d1, d2] => { results := [.lit (.bool false)], args := [d1, d2] }
  | _ => none }
def EdwardsScalesWrongFalsely : Prop := edwardsScalesRow.holds Try.pinned (OpenSpec.ofChange edwardsScalesWrong)

/-- 'pawllaw19.EdwardsForm': WHATEVER THE INPUT: true; the input reads as it did. -/
def edwardsFormSpec : ChangeSpec := { name := "edwardsForm", fn := fun _ => fun
  | [d1, d2, d3] => { results := [.lit (.bool true)], args := [d1, d2, d3] }
  | _ => none }
def edwardsFormRow : OpenClaim := { program := "ytnnjaijokiknkaa", sum := "12efacd83b981af1e42f3b5314ad6516fef47a75bc1893d3c60aaa35a04baaa2", func := "pawl/pawllaw19.EdwardsForm", spec := "edwardsForm", inPlace := ["math/bits.Add64"], apart := false }
def EdwardsFormSaid : Prop := edwardsFormRow.holds Try.pinned (OpenSpec.ofChange edwardsFormSpec)

/-- ITS FALSE NEIGHBOUR: 'it returns false'. Refute it at one input. -/
def edwardsFormWrong : ChangeSpec := { name := "edwardsForm", fn := fun _ => fun
  | [d1, d2, d3] => { results := [.lit (.bool false)], args := [d1, d2, d3] }
  | _ => none }
def EdwardsFormWrongFalsely : Prop := edwardsFormRow.holds Try.pinned (OpenSpec.ofChange edwardsFormWrong)

/-- 'pawllaw19.EdwardsDresses': WHATEVER THE INPUT: true; the input reads as it did. -/
def edwardsDressesSpec : ChangeSpec := { name := "edwardsDresses", fn := fun _ => fun
  | [d1, d2, d3] => { results := [.lit (.bool true)], args := [d1, d2, d3] }
  | _ => none }
def edwardsDressesRow : OpenClaim := { program := "ytnnjaijokiknkaa", sum := "12efacd83b981af1e42f3b5314ad6516fef47a75bc1893d3c60aaa35a04baaa2", func := "pawl/pawllaw19.EdwardsDresses", spec := "edwardsDresses", inPlace := ["math/bits.Add64"], unfollowed := true, recurses := true, apart := false }
def EdwardsDressesSaid : Prop := edwardsDressesRow.holds Try.pinned (OpenSpec.ofChange edwardsDressesSpec)

/-- ITS FALSE NEIGHBOUR: 'it returns false'. Refute it at one input. -/
def edwardsDressesWrong : ChangeSpec := { name := "edwardsDresses", fn := fun _ => fun
  | [d1, d2, d3] => { results := [.lit (.bool false)], args := [d1, d2, d3] }
  | _ => none }
def EdwardsDressesWrongFalsely : Prop := edwardsDressesRow.holds Try.pinned (OpenSpec.ofChange edwardsDressesWrong)

/-- 'pawllaw20.SignPublics': WHATEVER THE INPUT: true; the input reads as it did. -/
def signPublicsSpec : ChangeSpec := { name := "signPublics", fn := fun _ => fun
  | [d] => { results := [.lit (.bool true)], args := [d] }
  | _ => none }
def signPublicsRow : OpenClaim := { program := "ytnnjaijokiknkaa", sum := "12efacd83b981af1e42f3b5314ad6516fef47a75bc1893d3c60aaa35a04baaa2", func := "pawl/pawllaw20.SignPublics", spec := "signPublics", inPlace := ["math/bits.Add64", "math/bits.Sub64"], apart := false }
def SignPublicsSaid : Prop := signPublicsRow.holds Try.pinned (OpenSpec.ofChange signPublicsSpec)

/-- ITS FALSE NEIGHBOUR: 'it returns false'. Refute it at one input. -/
def signPublicsWrong : ChangeSpec := { name := "signPublics", fn := fun _ => fun
  | [d] => { results := [.lit (.bool false)], args := [d] }
  | _ => none }
def SignPublicsWrongFalsely : Prop := signPublicsRow.holds Try.pinned (OpenSpec.ofChange signPublicsWrong)

/-- 'pawllaw19.EdwardsMultiples': WHATEVER THE INPUT: true; the input reads as it did. -/
def edwardsMultiplesSpec : ChangeSpec := { name := "edwardsMultiples", fn := fun _ => fun
  | [d1, d2, d3] => { results := [.lit (.bool true)], args := [d1, d2, d3] }
  | _ => none }
def edwardsMultiplesRow : OpenClaim := { program := "ytnnjaijokiknkaa", sum := "12efacd83b981af1e42f3b5314ad6516fef47a75bc1893d3c60aaa35a04baaa2", func := "pawl/pawllaw19.EdwardsMultiples", spec := "edwardsMultiples", inPlace := ["math/bits.Add64", "math/bits.Sub64"], apart := false }
def EdwardsMultiplesSaid : Prop := edwardsMultiplesRow.holds Try.pinned (OpenSpec.ofChange edwardsMultiplesSpec)

/-- ITS FALSE NEIGHBOUR: 'it returns false'. Refute it at one input. -/
def edwardsMultiplesWrong : ChangeSpec := { name := "edwardsMultiples", fn := fun _ => fun
  | [d1, d2, d3] => { results := [.lit (.bool false)], args := [d1, d2, d3] }
  | _ => none }
def EdwardsMultiplesWrongFalsely : Prop := edwardsMultiplesRow.holds Try.pinned (OpenSpec.ofChange edwardsMultiplesWrong)

/-- 'pawllaw20.SignVectors': WHATEVER THE INPUT: true; the input reads as it did. -/
def signVectorsSpec : ChangeSpec := { name := "signVectors", fn := fun _ => fun
  | [] => { results := [.lit (.bool true)], args := [] }
  | _ => none }
def signVectorsRow : OpenClaim := { program := "ytnnjaijokiknkaa", sum := "12efacd83b981af1e42f3b5314ad6516fef47a75bc1893d3c60aaa35a04baaa2", func := "pawl/pawllaw20.SignVectors", spec := "signVectors", inPlace := ["math/bits.Add64", "math/bits.Sub64"], apart := false }
def SignVectorsSaid : Prop := signVectorsRow.holds Try.pinned (OpenSpec.ofChange signVectorsSpec)

/-- ITS FALSE NEIGHBOUR: 'it returns false'. Refute it at one input. -/
def signVectorsWrong : ChangeSpec := { name := "signVectors", fn := fun _ => fun
  | [] => { results := [.lit (.bool false)], args := [] }
  | _ => none }
def SignVectorsWrongFalsely : Prop := signVectorsRow.holds Try.pinned (OpenSpec.ofChange signVectorsWrong)

/-- 'pawllaw20.SignRight': WHATEVER THE INPUT: true; the input reads as it did. -/
def signRightSpec : ChangeSpec := { name := "signRight", fn := fun _ => fun
  | [d1, d2] => { results := [.lit (.bool true)], args := [d1, d2] }
  | _ => none }
def signRightRow : OpenClaim := { program := "ytnnjaijokiknkaa", sum := "12efacd83b981af1e42f3b5314ad6516fef47a75bc1893d3c60aaa35a04baaa2", func := "pawl/pawllaw20.SignRight", spec := "signRight", inPlace := ["math/bits.Add64", "math/bits.Sub64"], apart := false }
def SignRightSaid : Prop := signRightRow.holds Try.pinned (OpenSpec.ofChange signRightSpec)

/-- ITS FALSE NEIGHBOUR: 'it returns false'. Refute it at one input. -/
def signRightWrong : ChangeSpec := { name := "signRight", fn := fun _ => fun
  | [d1, d2] => { results := [.lit (.bool false)], args := [d1, d2] }
  | _ => none }
def SignRightWrongFalsely : Prop := signRightRow.holds Try.pinned (OpenSpec.ofChange signRightWrong)

/-- 'pawllaw20.SignOnce': WHATEVER THE INPUT: true; the input reads as it did. -/
def signOnceSpec : ChangeSpec := { name := "signOnce", fn := fun _ => fun
  | [d1, d2, d3] => { results := [.lit (.bool true)], args := [d1, d2, d3] }
  | _ => none }
def signOnceRow : OpenClaim := { program := "ytnnjaijokiknkaa", sum := "12efacd83b981af1e42f3b5314ad6516fef47a75bc1893d3c60aaa35a04baaa2", func := "pawl/pawllaw20.SignOnce", spec := "signOnce", inPlace := ["math/bits.Add64", "math/bits.Sub64"], apart := false }
def SignOnceSaid : Prop := signOnceRow.holds Try.pinned (OpenSpec.ofChange signOnceSpec)

/-- ITS FALSE NEIGHBOUR: 'it returns false'. Refute it at one input. -/
def signOnceWrong : ChangeSpec := { name := "signOnce", fn := fun _ => fun
  | [d1, d2, d3] => { results := [.lit (.bool false)], args := [d1, d2, d3] }
  | _ => none }
def SignOnceWrongFalsely : Prop := signOnceRow.holds Try.pinned (OpenSpec.ofChange signOnceWrong)

/-- 'pawllaw20.SignParts': WHATEVER THE INPUT: true; the input reads as it did. -/
def signPartsSpec : ChangeSpec := { name := "signParts", fn := fun _ => fun
  | [d1, d2] => { results := [.lit (.bool true)], args := [d1, d2] }
  | _ => none }
def signPartsRow : OpenClaim := { program := "ytnnjaijokiknkaa", sum := "12efacd83b981af1e42f3b5314ad6516fef47a75bc1893d3c60aaa35a04baaa2", func := "pawl/pawllaw20.SignParts", spec := "signParts", inPlace := ["math/bits.Add64", "math/bits.Sub64"], apart := false }
def SignPartsSaid : Prop := signPartsRow.holds Try.pinned (OpenSpec.ofChange signPartsSpec)

/-- ITS FALSE NEIGHBOUR: 'it returns false'. Refute it at one input. -/
def signPartsWrong : ChangeSpec := { name := "signParts", fn := fun _ => fun
  | [d1, d2] => { results := [.lit (.bool false)], args := [d1, d2] }
  | _ => none }
def SignPartsWrongFalsely : Prop := signPartsRow.holds Try.pinned (OpenSpec.ofChange signPartsWrong)

/-- 'pawllaw20.SignSpoilt': WHATEVER THE INPUT: true; the input reads as it did. -/
def signSpoiltSpec : ChangeSpec := { name := "signSpoilt", fn := fun _ => fun
  | [d1, d2, d3] => { results := [.lit (.bool true)], args := [d1, d2, d3] }
  | _ => none }
def signSpoiltRow : OpenClaim := { program := "ytnnjaijokiknkaa", sum := "12efacd83b981af1e42f3b5314ad6516fef47a75bc1893d3c60aaa35a04baaa2", func := "pawl/pawllaw20.SignSpoilt", spec := "signSpoilt", inPlace := ["math/bits.Add64", "math/bits.Sub64"], apart := false }
def SignSpoiltSaid : Prop := signSpoiltRow.holds Try.pinned (OpenSpec.ofChange signSpoiltSpec)

/-- ITS FALSE NEIGHBOUR: 'it returns false'. Refute it at one input. -/
def signSpoiltWrong : ChangeSpec := { name := "signSpoilt", fn := fun _ => fun
  | [d1, d2, d3] => { results := [.lit (.bool false)], args := [d1, d2, d3] }
  | _ => none }
def SignSpoiltWrongFalsely : Prop := signSpoiltRow.holds Try.pinned (OpenSpec.ofChange signSpoiltWrong)

/- THE SECOND FORM. 'bulk': how many values and letters a reading holds, each counted each time it is reached (what is shared counts as often as it is met; a slice's spare places count too). A statement '..UptoSaid' is the law's where the arguments, and the package variables that the reading takes, are together of bulk at most 1048576: NARROWER than '..Said'. Prove '..Said' where nothing that the law and all that it calls make is longer than what came in: it says more and counts as full. Else prove '..UptoSaid'. A law counts once. -/
mutual
def uptoBulk {H : Type} : DataW H → Nat
  | .lit (.string bytes) => bytes.length + 1
  | .lit _ => 1
  | .nil => 1
  | .ptr d => uptoBulk d + 1
  | .slice elems spare => uptoBulkAll elems + uptoBulkAll spare + 1
  | .agg parts => uptoBulkAll parts + 1
  | .iface _ d => uptoBulk d + 1
  | .map entries => uptoBulkEntries entries + 1
  | .held _ => 1
def uptoBulkAll {H : Type} : List (DataW H) → Nat
  | [] => 0
  | d :: r => uptoBulk d + uptoBulkAll r
def uptoBulkEntries {H : Type} : List (Lit × DataW H) → Nat
  | [] => 0
  | x :: r => uptoBulkEntry x + uptoBulkEntries r
def uptoBulkEntry {H : Type} : Lit × DataW H → Nat
  | (.string bytes, d) => bytes.length + uptoBulk d + 1
  | (_, d) => uptoBulk d + 1
 end
def uptoSmall : (H : Type) → List (DataW H) → Bool := fun _ ds => decide (uptoBulkAll ds ≤ 1048576)
def OpenSpec.upto (s : _root_.Go.ChangeSpec) : _root_.Go.OpenSpec := { _root_.Go.OpenSpec.ofChange s with cond := some uptoSmall }

/-- 'pawllaw20.SignDresses', WHERE WHAT IT READS IS OF BULK AT MOST 1048576: true; the input reads as it did. -/
def signDressesUptoRow : OpenClaim := { program := "ytnnjaijokiknkaa", sum := "12efacd83b981af1e42f3b5314ad6516fef47a75bc1893d3c60aaa35a04baaa2", func := "pawl/pawllaw20.SignDresses", spec := "signDresses", inPlace := ["math/bits.Add64", "math/bits.Sub64"], apart := false, narrowed := true }
def SignDressesUptoSaid : Prop := signDressesUptoRow.holds Try.pinned (OpenSpec.upto signDressesSpec)

/-- 'pawllaw19.EdwardsScalars', WHERE WHAT IT READS IS OF BULK AT MOST 1048576: true; the input reads as it did. -/
def edwardsScalarsUptoRow : OpenClaim := { program := "ytnnjaijokiknkaa", sum := "12efacd83b981af1e42f3b5314ad6516fef47a75bc1893d3c60aaa35a04baaa2", func := "pawl/pawllaw19.EdwardsScalars", spec := "edwardsScalars", inPlace := ["math/bits.Add64", "math/bits.Sub64"], apart := false, narrowed := true }
def EdwardsScalarsUptoSaid : Prop := edwardsScalarsUptoRow.holds Try.pinned (OpenSpec.upto edwardsScalarsSpec)

/-- 'pawllaw19.EdwardsNumbers', WHERE WHAT IT READS IS OF BULK AT MOST 1048576: true; the input reads as it did. -/
def edwardsNumbersUptoRow : OpenClaim := { program := "ytnnjaijokiknkaa", sum := "12efacd83b981af1e42f3b5314ad6516fef47a75bc1893d3c60aaa35a04baaa2", func := "pawl/pawllaw19.EdwardsNumbers", spec := "edwardsNumbers", inPlace := ["math/bits.Add64", "math/bits.Sub64"], apart := false, narrowed := true }
def EdwardsNumbersUptoSaid : Prop := edwardsNumbersUptoRow.holds Try.pinned (OpenSpec.upto edwardsNumbersSpec)

/-- 'pawllaw20.SignLent', WHERE WHAT IT READS IS OF BULK AT MOST 1048576: true; the input reads as it did. -/
def signLentUptoRow : OpenClaim := { program := "ytnnjaijokiknkaa", sum := "12efacd83b981af1e42f3b5314ad6516fef47a75bc1893d3c60aaa35a04baaa2", func := "pawl/pawllaw20.SignLent", spec := "signLent", inPlace := ["math/bits.Add64", "math/bits.Sub64"], unfollowed := true, recurses := true, apart := false, narrowed := true }
def SignLentUptoSaid : Prop := signLentUptoRow.holds Try.pinned (OpenSpec.upto signLentSpec)

/-- 'pawllaw19.EdwardsParses', WHERE WHAT IT READS IS OF BULK AT MOST 1048576: true; the input reads as it did. -/
def edwardsParsesUptoRow : OpenClaim := { program := "ytnnjaijokiknkaa", sum := "12efacd83b981af1e42f3b5314ad6516fef47a75bc1893d3c60aaa35a04baaa2", func := "pawl/pawllaw19.EdwardsParses", spec := "edwardsParses", inPlace := ["math/bits.Add64", "math/bits.Sub64"], apart := false, narrowed := true }
def EdwardsParsesUptoSaid : Prop := edwardsParsesUptoRow.holds Try.pinned (OpenSpec.upto edwardsParsesSpec)

/-- 'pawllaw19.EdwardsPoints', WHERE WHAT IT READS IS OF BULK AT MOST 1048576: true; the input reads as it did. -/
def edwardsPointsUptoRow : OpenClaim := { program := "ytnnjaijokiknkaa", sum := "12efacd83b981af1e42f3b5314ad6516fef47a75bc1893d3c60aaa35a04baaa2", func := "pawl/pawllaw19.EdwardsPoints", spec := "edwardsPoints", inPlace := ["math/bits.Add64"], apart := false, narrowed := true }
def EdwardsPointsUptoSaid : Prop := edwardsPointsUptoRow.holds Try.pinned (OpenSpec.upto edwardsPointsSpec)

/-- 'pawllaw19.EdwardsGroup', WHERE WHAT IT READS IS OF BULK AT MOST 1048576: true; the input reads as it did. -/
def edwardsGroupUptoRow : OpenClaim := { program := "ytnnjaijokiknkaa", sum := "12efacd83b981af1e42f3b5314ad6516fef47a75bc1893d3c60aaa35a04baaa2", func := "pawl/pawllaw19.EdwardsGroup", spec := "edwardsGroup", inPlace := ["math/bits.Add64"], apart := false, narrowed := true }
def EdwardsGroupUptoSaid : Prop := edwardsGroupUptoRow.holds Try.pinned (OpenSpec.upto edwardsGroupSpec)

/-- 'pawllaw19.EdwardsScales', WHERE WHAT IT READS IS OF BULK AT MOST 1048576: true; the input reads as it did. -/
def edwardsScalesUptoRow : OpenClaim := { program := "ytnnjaijokiknkaa", sum := "12efacd83b981af1e42f3b5314ad6516fef47a75bc1893d3c60aaa35a04baaa2", func := "pawl/pawllaw19.EdwardsScales", spec := "edwardsScales", inPlace := ["math/bits.Add64", "math/bits.Sub64"], apart := false, narrowed := true }
def EdwardsScalesUptoSaid : Prop := edwardsScalesUptoRow.holds Try.pinned (OpenSpec.upto edwardsScalesSpec)

/-- 'pawllaw19.EdwardsForm', WHERE WHAT IT READS IS OF BULK AT MOST 1048576: true; the input reads as it did. -/
def edwardsFormUptoRow : OpenClaim := { program := "ytnnjaijokiknkaa", sum := "12efacd83b981af1e42f3b5314ad6516fef47a75bc1893d3c60aaa35a04baaa2", func := "pawl/pawllaw19.EdwardsForm", spec := "edwardsForm", inPlace := ["math/bits.Add64"], apart := false, narrowed := true }
def EdwardsFormUptoSaid : Prop := edwardsFormUptoRow.holds Try.pinned (OpenSpec.upto edwardsFormSpec)

/-- 'pawllaw19.EdwardsDresses', WHERE WHAT IT READS IS OF BULK AT MOST 1048576: true; the input reads as it did. -/
def edwardsDressesUptoRow : OpenClaim := { program := "ytnnjaijokiknkaa", sum := "12efacd83b981af1e42f3b5314ad6516fef47a75bc1893d3c60aaa35a04baaa2", func := "pawl/pawllaw19.EdwardsDresses", spec := "edwardsDresses", inPlace := ["math/bits.Add64"], unfollowed := true, recurses := true, apart := false, narrowed := true }
def EdwardsDressesUptoSaid : Prop := edwardsDressesUptoRow.holds Try.pinned (OpenSpec.upto edwardsDressesSpec)

/-- 'pawllaw20.SignPublics', WHERE WHAT IT READS IS OF BULK AT MOST 1048576: true; the input reads as it did. -/
def signPublicsUptoRow : OpenClaim := { program := "ytnnjaijokiknkaa", sum := "12efacd83b981af1e42f3b5314ad6516fef47a75bc1893d3c60aaa35a04baaa2", func := "pawl/pawllaw20.SignPublics", spec := "signPublics", inPlace := ["math/bits.Add64", "math/bits.Sub64"], apart := false, narrowed := true }
def SignPublicsUptoSaid : Prop := signPublicsUptoRow.holds Try.pinned (OpenSpec.upto signPublicsSpec)

/-- 'pawllaw19.EdwardsMultiples', WHERE WHAT IT READS IS OF BULK AT MOST 1048576: true; the input reads as it did. -/
def edwardsMultiplesUptoRow : OpenClaim := { program := "ytnnjaijokiknkaa", sum := "12efacd83b981af1e42f3b5314ad6516fef47a75bc1893d3c60aaa35a04baaa2", func := "pawl/pawllaw19.EdwardsMultiples", spec := "edwardsMultiples", inPlace := ["math/bits.Add64", "math/bits.Sub64"], apart := false, narrowed := true }
def EdwardsMultiplesUptoSaid : Prop := edwardsMultiplesUptoRow.holds Try.pinned (OpenSpec.upto edwardsMultiplesSpec)

/-- 'pawllaw20.SignVectors', WHERE WHAT IT READS IS OF BULK AT MOST 1048576: true; the input reads as it did. -/
def signVectorsUptoRow : OpenClaim := { program := "ytnnjaijokiknkaa", sum := "12efacd83b981af1e42f3b5314ad6516fef47a75bc1893d3c60aaa35a04baaa2", func := "pawl/pawllaw20.SignVectors", spec := "signVectors", inPlace := ["math/bits.Add64", "math/bits.Sub64"], apart := false, narrowed := true }
def SignVectorsUptoSaid : Prop := signVectorsUptoRow.holds Try.pinned (OpenSpec.upto signVectorsSpec)

/-- 'pawllaw20.SignRight', WHERE WHAT IT READS IS OF BULK AT MOST 1048576: true; the input reads as it did. -/
def signRightUptoRow : OpenClaim := { program := "ytnnjaijokiknkaa", sum := "12efacd83b981af1e42f3b5314ad6516fef47a75bc1893d3c60aaa35a04baaa2", func := "pawl/pawllaw20.SignRight", spec := "signRight", inPlace := ["math/bits.Add64", "math/bits.Sub64"], apart := false, narrowed := true }
def SignRightUptoSaid : Prop := signRightUptoRow.holds Try.pinned (OpenSpec.upto signRightSpec)

/-- 'pawllaw20.SignOnce', WHERE WHAT IT READS IS OF BULK AT MOST 1048576: true; the input reads as it did. -/
def signOnceUptoRow : OpenClaim := { program := "ytnnjaijokiknkaa", sum := "12efacd83b981af1e42f3b5314ad6516fef47a75bc1893d3c60aaa35a04baaa2", func := "pawl/pawllaw20.SignOnce", spec := "signOnce", inPlace := ["math/bits.Add64", "math/bits.Sub64"], apart := false, narrowed := true }
def SignOnceUptoSaid : Prop := signOnceUptoRow.holds Try.pinned (OpenSpec.upto signOnceSpec)

/-- 'pawllaw20.SignParts', WHERE WHAT IT READS IS OF BULK AT MOST 1048576: true; the input reads as it did. -/
def signPartsUptoRow : OpenClaim := { program := "ytnnjaijokiknkaa", sum := "12efacd83b981af1e42f3b5314ad6516fef47a75bc1893d3c60aaa35a04baaa2", func := "pawl/pawllaw20.SignParts", spec := "signParts", inPlace := ["math/bits.Add64", "math/bits.Sub64"], apart := false, narrowed := true }
def SignPartsUptoSaid : Prop := signPartsUptoRow.holds Try.pinned (OpenSpec.upto signPartsSpec)

/-- 'pawllaw20.SignSpoilt', WHERE WHAT IT READS IS OF BULK AT MOST 1048576: true; the input reads as it did. -/
def signSpoiltUptoRow : OpenClaim := { program := "ytnnjaijokiknkaa", sum := "12efacd83b981af1e42f3b5314ad6516fef47a75bc1893d3c60aaa35a04baaa2", func := "pawl/pawllaw20.SignSpoilt", spec := "signSpoilt", inPlace := ["math/bits.Add64", "math/bits.Sub64"], apart := false, narrowed := true }
def SignSpoiltUptoSaid : Prop := signSpoiltUptoRow.holds Try.pinned (OpenSpec.upto signSpoiltSpec)

end Rows
end Go.Proofs.Ytnnjaijokiknkaa
