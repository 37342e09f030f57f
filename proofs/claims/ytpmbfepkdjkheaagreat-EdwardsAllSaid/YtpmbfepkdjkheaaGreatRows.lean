/-
  No cell of these rows narrows 'for every input' (looked for: loops, veiled, ifaces, maps, wideKeys, modest, calm, conditions, laid).
  DERIVED. THE GIVEN ROWS OF THIS SEAT. 5 by the template 'for every input the law returns true; each argument reads behind the call as it read before'; 0 by the template 'total and deterministic' (their statements: YtpmbfepkdjkheaaGreatTotals.lean).
  GIVEN WITH THE SEED: the statements are not yours to turn. If you find one false, say at which input.
  Laid BY PROGRAM, IN A SANDBOX (cutbox-rows.mjs): the forced cells as the released guide's own fill.sh prints them over the translation 48af8dc1ffb3c80e… (all of the seat's roots in one cut). By AI agents, Wed Nov 11 2026. No macro, syntax, notation, axiom, sorry.
-/
import Derived.Test.YtpmbfepkdjkheaaGreatChecked
import GoSem.Claim
import GoSem.ClaimJoined
import GoSem.ClaimMapViews
import Derived.JoinedTies
import Derived.KernelRfl
namespace Go.Proofs.YtpmbfepkdjkheaaGreat
/- THE CELL 'sum', in the pinned program and in every row, IS THE sha256 OF THE DUMP (.gsa) THAT YtpmbfepkdjkheaaGreatProg.lean LOADS. Nothing in Lean hashes anything: it is a label: what it is worth is what the hold of that sum in a sandbox is worth. -/
noncomputable def Tryz.pinned : Pinned := { name := "ytpmbfepkdjkheaagreat", sum := "48af8dc1ffb3c80e7a8e05b4510ac5fdc48492ba4472fde7c56f6b1f4257a5c8", checked := Tryz.checked }
namespace Rows
def none {H : Type} : Left H := { results := [], args := [] }

/-- 'pawllaw19.EdwardsAll': WHATEVER THE INPUT: true; the input reads as it did. -/
def edwardsAllSpec : ChangeSpec := { name := "edwardsAll", fn := fun _ => fun
  | [d] => { results := [.lit (.bool true)], args := [d] }
  | _ => none }
def edwardsAllRow : OpenClaim := { program := "ytpmbfepkdjkheaagreat", sum := "48af8dc1ffb3c80e7a8e05b4510ac5fdc48492ba4472fde7c56f6b1f4257a5c8", func := "pawl/pawllaw19.EdwardsAll", spec := "edwardsAll", inPlace := ["math/bits.Add64", "math/bits.Sub64"], apart := false }
def EdwardsAllSaid : Prop := edwardsAllRow.holds Tryz.pinned (OpenSpec.ofChange edwardsAllSpec)

/-- ITS FALSE NEIGHBOUR: 'it returns false'. Refute it at one input. -/
def edwardsAllWrong : ChangeSpec := { name := "edwardsAll", fn := fun _ => fun
  | [d] => { results := [.lit (.bool false)], args := [d] }
  | _ => none }
def EdwardsAllWrongFalsely : Prop := edwardsAllRow.holds Tryz.pinned (OpenSpec.ofChange edwardsAllWrong)

/-- 'pawllaw20.SignSigns': WHATEVER THE INPUT: true; the input reads as it did. -/
def signSignsSpec : ChangeSpec := { name := "signSigns", fn := fun _ => fun
  | [d1, d2] => { results := [.lit (.bool true)], args := [d1, d2] }
  | _ => none }
def signSignsRow : OpenClaim := { program := "ytpmbfepkdjkheaagreat", sum := "48af8dc1ffb3c80e7a8e05b4510ac5fdc48492ba4472fde7c56f6b1f4257a5c8", func := "pawl/pawllaw20.SignSigns", spec := "signSigns", inPlace := ["math/bits.Add64", "math/bits.Sub64"], apart := false }
def SignSignsSaid : Prop := signSignsRow.holds Tryz.pinned (OpenSpec.ofChange signSignsSpec)

/-- ITS FALSE NEIGHBOUR: 'it returns false'. Refute it at one input. -/
def signSignsWrong : ChangeSpec := { name := "signSigns", fn := fun _ => fun
  | [d1, d2] => { results := [.lit (.bool false)], args := [d1, d2] }
  | _ => none }
def SignSignsWrongFalsely : Prop := signSignsRow.holds Tryz.pinned (OpenSpec.ofChange signSignsWrong)

/-- 'pawllaw20.SignLends': WHATEVER THE INPUT: true; the input reads as it did. -/
def signLendsSpec : ChangeSpec := { name := "signLends", fn := fun _ => fun
  | [d1, d2, d3] => { results := [.lit (.bool true)], args := [d1, d2, d3] }
  | _ => none }
def signLendsRow : OpenClaim := { program := "ytpmbfepkdjkheaagreat", sum := "48af8dc1ffb3c80e7a8e05b4510ac5fdc48492ba4472fde7c56f6b1f4257a5c8", func := "pawl/pawllaw20.SignLends", spec := "signLends", inPlace := ["math/bits.Add64", "math/bits.Sub64"], apart := false }
def SignLendsSaid : Prop := signLendsRow.holds Tryz.pinned (OpenSpec.ofChange signLendsSpec)

/-- ITS FALSE NEIGHBOUR: 'it returns false'. Refute it at one input. -/
def signLendsWrong : ChangeSpec := { name := "signLends", fn := fun _ => fun
  | [d1, d2, d3] => { results := [.lit (.bool false)], args := [d1, d2, d3] }
  | _ => none }
def SignLendsWrongFalsely : Prop := signLendsRow.holds Tryz.pinned (OpenSpec.ofChange signLendsWrong)

/-- 'pawllaw20.SignHonours': WHATEVER THE INPUT: true; the input reads as it did. -/
def signHonoursSpec : ChangeSpec := { name := "signHonours", fn := fun _ => fun
  | [d1, d2, d3] => { results := [.lit (.bool true)], args := [d1, d2, d3] }
  | _ => none }
def signHonoursRow : OpenClaim := { program := "ytpmbfepkdjkheaagreat", sum := "48af8dc1ffb3c80e7a8e05b4510ac5fdc48492ba4472fde7c56f6b1f4257a5c8", func := "pawl/pawllaw20.SignHonours", spec := "signHonours", inPlace := ["math/bits.Add64", "math/bits.Sub64"], apart := false }
def SignHonoursSaid : Prop := signHonoursRow.holds Tryz.pinned (OpenSpec.ofChange signHonoursSpec)

/-- ITS FALSE NEIGHBOUR: 'it returns false'. Refute it at one input. -/
def signHonoursWrong : ChangeSpec := { name := "signHonours", fn := fun _ => fun
  | [d1, d2, d3] => { results := [.lit (.bool false)], args := [d1, d2, d3] }
  | _ => none }
def SignHonoursWrongFalsely : Prop := signHonoursRow.holds Tryz.pinned (OpenSpec.ofChange signHonoursWrong)

/-- 'pawllaw20.SignChecks': WHATEVER THE INPUT: true; the input reads as it did. -/
def signChecksSpec : ChangeSpec := { name := "signChecks", fn := fun _ => fun
  | [d1, d2, d3] => { results := [.lit (.bool true)], args := [d1, d2, d3] }
  | _ => none }
def signChecksRow : OpenClaim := { program := "ytpmbfepkdjkheaagreat", sum := "48af8dc1ffb3c80e7a8e05b4510ac5fdc48492ba4472fde7c56f6b1f4257a5c8", func := "pawl/pawllaw20.SignChecks", spec := "signChecks", inPlace := ["math/bits.Add64", "math/bits.Sub64"], apart := false }
def SignChecksSaid : Prop := signChecksRow.holds Tryz.pinned (OpenSpec.ofChange signChecksSpec)

/-- ITS FALSE NEIGHBOUR: 'it returns false'. Refute it at one input. -/
def signChecksWrong : ChangeSpec := { name := "signChecks", fn := fun _ => fun
  | [d1, d2, d3] => { results := [.lit (.bool false)], args := [d1, d2, d3] }
  | _ => none }
def SignChecksWrongFalsely : Prop := signChecksRow.holds Tryz.pinned (OpenSpec.ofChange signChecksWrong)

/- THE SECOND FORM. 'bulk': how many values and letters a reading holds, each counted each time it is reached (what is shared counts as often as it is met; a slice's spare places count too). A statement '..UptoSaid' is the law's where the arguments, and the package variables that the reading takes, are together of bulk at most 1048576: NARROWER than '..Said'. Prove '..Said' where nothing that the law and all that it calls make is longer than what came in: it says more and counts as full. Else prove '..UptoSaid'. A law counts once. -/
mutual
def uptoBulk {H : Type} : DataW H → Nat
  | .lit (.string bytes) => bytes.length + 1
  | .lit _ => 1
  | .nil => 1
  | .ptr d => uptoBulk d + 1
  | .slice elems spare => uptoBulkAll elems + uptoBulkAll spare + 1
  | .agg parts => uptoBulkAll parts + 1
  | .iface _ d => uptoBulk d + 1
  | .map entries => uptoBulkEntries entries + 1
  | .held _ => 1
def uptoBulkAll {H : Type} : List (DataW H) → Nat
  | [] => 0
  | d :: r => uptoBulk d + uptoBulkAll r
def uptoBulkEntries {H : Type} : List (Lit × DataW H) → Nat
  | [] => 0
  | x :: r => uptoBulkEntry x + uptoBulkEntries r
def uptoBulkEntry {H : Type} : Lit × DataW H → Nat
  | (.string bytes, d) => bytes.length + uptoBulk d + 1
  | (_, d) => uptoBulk d + 1
 end
def uptoSmall : (H : Type) → List (DataW H) → Bool := fun _ ds => decide (uptoBulkAll ds ≤ 1048576)
def OpenSpec.upto (s : _root_.Go.ChangeSpec) : _root_.Go.OpenSpec := { _root_.Go.OpenSpec.ofChange s with cond := some uptoSmall }

/-- 'pawllaw19.EdwardsAll', WHERE WHAT IT READS IS OF BULK AT MOST 1048576: true; the input reads as it did. -/
def edwardsAllUptoRow : OpenClaim := { program := "ytpmbfepkdjkheaagreat", sum := "48af8dc1ffb3c80e7a8e05b4510ac5fdc48492ba4472fde7c56f6b1f4257a5c8", func := "pawl/pawllaw19.EdwardsAll", spec := "edwardsAll", inPlace := ["math/bits.Add64", "math/bits.Sub64"], apart := false, narrowed := true }
def EdwardsAllUptoSaid : Prop := edwardsAllUptoRow.holds Tryz.pinned (OpenSpec.upto edwardsAllSpec)

/-- 'pawllaw20.SignSigns', WHERE WHAT IT READS IS OF BULK AT MOST 1048576: true; the input reads as it did. -/
def signSignsUptoRow : OpenClaim := { program := "ytpmbfepkdjkheaagreat", sum := "48af8dc1ffb3c80e7a8e05b4510ac5fdc48492ba4472fde7c56f6b1f4257a5c8", func := "pawl/pawllaw20.SignSigns", spec := "signSigns", inPlace := ["math/bits.Add64", "math/bits.Sub64"], apart := false, narrowed := true }
def SignSignsUptoSaid : Prop := signSignsUptoRow.holds Tryz.pinned (OpenSpec.upto signSignsSpec)

/-- 'pawllaw20.SignLends', WHERE WHAT IT READS IS OF BULK AT MOST 1048576: true; the input reads as it did. -/
def signLendsUptoRow : OpenClaim := { program := "ytpmbfepkdjkheaagreat", sum := "48af8dc1ffb3c80e7a8e05b4510ac5fdc48492ba4472fde7c56f6b1f4257a5c8", func := "pawl/pawllaw20.SignLends", spec := "signLends", inPlace := ["math/bits.Add64", "math/bits.Sub64"], apart := false, narrowed := true }
def SignLendsUptoSaid : Prop := signLendsUptoRow.holds Tryz.pinned (OpenSpec.upto signLendsSpec)

/-- 'pawllaw20.SignHonours', WHERE WHAT IT READS IS OF BULK AT MOST 1048576: true; the input reads as it did. -/
def signHonoursUptoRow : OpenClaim := { program := "ytpmbfepkdjkheaagreat", sum := "48af8dc1ffb3c80e7a8e05b4510ac5fdc48492ba4472fde7c56f6b1f4257a5c8", func := "pawl/pawllaw20.SignHonours", spec := "signHonours", inPlace := ["math/bits.Add64", "math/bits.Sub64"], apart := false, narrowed := true }
def SignHonoursUptoSaid : Prop := signHonoursUptoRow.holds Tryz.pinned (OpenSpec.upto signHonoursSpec)

/-- 'pawllaw20.SignChecks', WHERE WHAT IT READS IS OF BULK AT MOST 1048576: true; the input reads as it did. -/
def signChecksUptoRow : OpenClaim := { program := "ytpmbfepkdjkheaagreat", sum := "48af8dc1ffb3c80e7a8e05b4510ac5fdc48492ba4472fde7c56f6b1f4257a5c8", func := "pawl/pawllaw20.SignChecks", spec := "signChecks", inPlace := ["math/bits.Add64", "math/bits.Sub64"], apart := false, narrowed := true }
def SignChecksUptoSaid : Prop := signChecksUptoRow.holds Tryz.pinned (OpenSpec.upto signChecksSpec)

end Rows
end Go.Proofs.YtpmbfepkdjkheaaGreat
