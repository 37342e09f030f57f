/-
  No cell of these rows narrows 'for every input' (looked for: loops, veiled, ifaces, maps, wideKeys, modest, calm, conditions, laid).
  DERIVED. THE GIVEN ROWS OF THIS SEAT. 8 by the template 'for every input the law returns true; each argument reads behind the call as it read before'; 0 by the template 'total and deterministic' (their statements: YtmhbhpmfbalbeaaTotals.lean).
  GIVEN WITH THE SEED: the statements are not yours to turn. If you find one false, say at which input.
  Laid BY PROGRAM, IN A SANDBOX (cutbox-rows.mjs): the forced cells as the released guide's own fill.sh prints them over the translation a2da423bfd57d3dd… (all of the seat's roots in one cut). By AI agents, Wed Nov 11 2026. No macro, syntax, notation, axiom, sorry.
-/
import Derived.Test.YtmhbhpmfbalbeaaChecked
import GoSem.Claim
import GoSem.ClaimJoined
import GoSem.ClaimMapViews
import Derived.JoinedTies
import Derived.KernelRfl
namespace Go.Proofs.Ytmhbhpmfbalbeaa
/- THE CELL 'sum', in the pinned program and in every row, IS THE sha256 OF THE DUMP (.gsa) THAT YtmhbhpmfbalbeaaProg.lean LOADS. Nothing in Lean hashes anything: it is a label: what it is worth is what the hold of that sum in a sandbox is worth. -/
noncomputable def Try.pinned : Pinned := { name := "ytmhbhpmfbalbeaa", sum := "a2da423bfd57d3dd5b7d484bfe88d9fae26415d140a56e608443e1dacd065648", checked := Try.checked }
namespace Rows
def none {H : Type} : Left H := { results := [], args := [] }

/-- 'pawllaw18.WidePads': WHATEVER THE INPUT: true; the input reads as it did. -/
def widePadsSpec : ChangeSpec := { name := "widePads", fn := fun _ => fun
  | [d] => { results := [.lit (.bool true)], args := [d] }
  | _ => none }
def widePadsRow : OpenClaim := { program := "ytmhbhpmfbalbeaa", sum := "a2da423bfd57d3dd5b7d484bfe88d9fae26415d140a56e608443e1dacd065648", func := "pawl/pawllaw18.WidePads", spec := "widePads", apart := false }
def WidePadsSaid : Prop := widePadsRow.holds Try.pinned (OpenSpec.ofChange widePadsSpec)

/-- ITS FALSE NEIGHBOUR: 'it returns false'. Refute it at one input. -/
def widePadsWrong : ChangeSpec := { name := "widePads", fn := fun _ => fun
  | [d] => { results := [.lit (.bool false)], args := [d] }
  | _ => none }
def WidePadsWrongFalsely : Prop := widePadsRow.holds Try.pinned (OpenSpec.ofChange widePadsWrong)

/-- 'pawllaw18.WidePaddings': WHATEVER THE INPUT: true; the input reads as it did. -/
def widePaddingsSpec : ChangeSpec := { name := "widePaddings", fn := fun _ => fun
  | [d] => { results := [.lit (.bool true)], args := [d] }
  | _ => none }
def widePaddingsRow : OpenClaim := { program := "ytmhbhpmfbalbeaa", sum := "a2da423bfd57d3dd5b7d484bfe88d9fae26415d140a56e608443e1dacd065648", func := "pawl/pawllaw18.WidePaddings", spec := "widePaddings", apart := false }
def WidePaddingsSaid : Prop := widePaddingsRow.holds Try.pinned (OpenSpec.ofChange widePaddingsSpec)

/-- ITS FALSE NEIGHBOUR: 'it returns false'. Refute it at one input. -/
def widePaddingsWrong : ChangeSpec := { name := "widePaddings", fn := fun _ => fun
  | [d] => { results := [.lit (.bool false)], args := [d] }
  | _ => none }
def WidePaddingsWrongFalsely : Prop := widePaddingsRow.holds Try.pinned (OpenSpec.ofChange widePaddingsWrong)

/-- 'pawllaw18.WideBlocks': WHATEVER THE INPUT: true; the input reads as it did. -/
def wideBlocksSpec : ChangeSpec := { name := "wideBlocks", fn := fun _ => fun
  | [d1, d2] => { results := [.lit (.bool true)], args := [d1, d2] }
  | _ => none }
def wideBlocksRow : OpenClaim := { program := "ytmhbhpmfbalbeaa", sum := "a2da423bfd57d3dd5b7d484bfe88d9fae26415d140a56e608443e1dacd065648", func := "pawl/pawllaw18.WideBlocks", spec := "wideBlocks", apart := false }
def WideBlocksSaid : Prop := wideBlocksRow.holds Try.pinned (OpenSpec.ofChange wideBlocksSpec)

/-- ITS FALSE NEIGHBOUR: 'it returns false'. Refute it at one input. -/
def wideBlocksWrong : ChangeSpec := { name := "wideBlocks", fn := fun _ => fun
  | [d1, d2] => { results := [.lit (.bool false)], args := [d1, d2] }
  | _ => none }
def WideBlocksWrongFalsely : Prop := wideBlocksRow.holds Try.pinned (OpenSpec.ofChange wideBlocksWrong)

/-- 'pawllaw18.WideAll': WHATEVER THE INPUT: true; the input reads as it did. -/
def wideAllSpec : ChangeSpec := { name := "wideAll", fn := fun _ => fun
  | [d] => { results := [.lit (.bool true)], args := [d] }
  | _ => none }
def wideAllRow : OpenClaim := { program := "ytmhbhpmfbalbeaa", sum := "a2da423bfd57d3dd5b7d484bfe88d9fae26415d140a56e608443e1dacd065648", func := "pawl/pawllaw18.WideAll", spec := "wideAll", apart := false }
def WideAllSaid : Prop := wideAllRow.holds Try.pinned (OpenSpec.ofChange wideAllSpec)

/-- ITS FALSE NEIGHBOUR: 'it returns false'. Refute it at one input. -/
def wideAllWrong : ChangeSpec := { name := "wideAll", fn := fun _ => fun
  | [d] => { results := [.lit (.bool false)], args := [d] }
  | _ => none }
def WideAllWrongFalsely : Prop := wideAllRow.holds Try.pinned (OpenSpec.ofChange wideAllWrong)

/-- 'pawllaw18.WideSums': WHATEVER THE INPUT: true; the input reads as it did. -/
def wideSumsSpec : ChangeSpec := { name := "wideSums", fn := fun _ => fun
  | [d1, d2] => { results := [.lit (.bool true)], args := [d1, d2] }
  | _ => none }
def wideSumsRow : OpenClaim := { program := "ytmhbhpmfbalbeaa", sum := "a2da423bfd57d3dd5b7d484bfe88d9fae26415d140a56e608443e1dacd065648", func := "pawl/pawllaw18.WideSums", spec := "wideSums", apart := false }
def WideSumsSaid : Prop := wideSumsRow.holds Try.pinned (OpenSpec.ofChange wideSumsSpec)

/-- ITS FALSE NEIGHBOUR: 'it returns false'. Refute it at one input. -/
def wideSumsWrong : ChangeSpec := { name := "wideSums", fn := fun _ => fun
  | [d1, d2] => { results := [.lit (.bool false)], args := [d1, d2] }
  | _ => none }
def WideSumsWrongFalsely : Prop := wideSumsRow.holds Try.pinned (OpenSpec.ofChange wideSumsWrong)

/-- 'pawllaw18.WideFolds': WHATEVER THE INPUT: true; the input reads as it did. -/
def wideFoldsSpec : ChangeSpec := { name := "wideFolds", fn := fun _ => fun
  | [d1, d2] => { results := [.lit (.bool true)], args := [d1, d2] }
  | _ => none }
def wideFoldsRow : OpenClaim := { program := "ytmhbhpmfbalbeaa", sum := "a2da423bfd57d3dd5b7d484bfe88d9fae26415d140a56e608443e1dacd065648", func := "pawl/pawllaw18.WideFolds", spec := "wideFolds", apart := false }
def WideFoldsSaid : Prop := wideFoldsRow.holds Try.pinned (OpenSpec.ofChange wideFoldsSpec)

/-- ITS FALSE NEIGHBOUR: 'it returns false'. Refute it at one input. -/
def wideFoldsWrong : ChangeSpec := { name := "wideFolds", fn := fun _ => fun
  | [d1, d2] => { results := [.lit (.bool false)], args := [d1, d2] }
  | _ => none }
def WideFoldsWrongFalsely : Prop := wideFoldsRow.holds Try.pinned (OpenSpec.ofChange wideFoldsWrong)

/-- 'pawllaw18.WideVectors': WHATEVER THE INPUT: true; the input reads as it did. -/
def wideVectorsSpec : ChangeSpec := { name := "wideVectors", fn := fun _ => fun
  | [] => { results := [.lit (.bool true)], args := [] }
  | _ => none }
def wideVectorsRow : OpenClaim := { program := "ytmhbhpmfbalbeaa", sum := "a2da423bfd57d3dd5b7d484bfe88d9fae26415d140a56e608443e1dacd065648", func := "pawl/pawllaw18.WideVectors", spec := "wideVectors", apart := false }
def WideVectorsSaid : Prop := wideVectorsRow.holds Try.pinned (OpenSpec.ofChange wideVectorsSpec)

/-- ITS FALSE NEIGHBOUR: 'it returns false'. Refute it at one input. -/
def wideVectorsWrong : ChangeSpec := { name := "wideVectors", fn := fun _ => fun
  | [] => { results := [.lit (.bool false)], args := [] }
  | _ => none }
def WideVectorsWrongFalsely : Prop := wideVectorsRow.holds Try.pinned (OpenSpec.ofChange wideVectorsWrong)

/-- 'pawllaw18.WidePieces': WHATEVER THE INPUT: true; the input reads as it did. -/
def widePiecesSpec : ChangeSpec := { name := "widePieces", fn := fun _ => fun
  | [d1, d2] => { results := [.lit (.bool true)], args := [d1, d2] }
  | _ => none }
def widePiecesRow : OpenClaim := { program := "ytmhbhpmfbalbeaa", sum := "a2da423bfd57d3dd5b7d484bfe88d9fae26415d140a56e608443e1dacd065648", func := "pawl/pawllaw18.WidePieces", spec := "widePieces", apart := false }
def WidePiecesSaid : Prop := widePiecesRow.holds Try.pinned (OpenSpec.ofChange widePiecesSpec)

/-- ITS FALSE NEIGHBOUR: 'it returns false'. Refute it at one input. -/
def widePiecesWrong : ChangeSpec := { name := "widePieces", fn := fun _ => fun
  | [d1, d2] => { results := [.lit (.bool false)], args := [d1, d2] }
  | _ => none }
def WidePiecesWrongFalsely : Prop := widePiecesRow.holds Try.pinned (OpenSpec.ofChange widePiecesWrong)

/- THE SECOND FORM. 'bulk': how many values and letters a reading holds, each counted each time it is reached (what is shared counts as often as it is met; a slice's spare places count too). A statement '..UptoSaid' is the law's where the arguments, and the package variables that the reading takes, are together of bulk at most 1048576: NARROWER than '..Said'. Prove '..Said' where nothing that the law and all that it calls make is longer than what came in: it says more and counts as full. Else prove '..UptoSaid'. A law counts once. -/
mutual
def uptoBulk {H : Type} : DataW H → Nat
  | .lit (.string bytes) => bytes.length + 1
  | .lit _ => 1
  | .nil => 1
  | .ptr d => uptoBulk d + 1
  | .slice elems spare => uptoBulkAll elems + uptoBulkAll spare + 1
  | .agg parts => uptoBulkAll parts + 1
  | .iface _ d => uptoBulk d + 1
  | .map entries => uptoBulkEntries entries + 1
  | .held _ => 1
def uptoBulkAll {H : Type} : List (DataW H) → Nat
  | [] => 0
  | d :: r => uptoBulk d + uptoBulkAll r
def uptoBulkEntries {H : Type} : List (Lit × DataW H) → Nat
  | [] => 0
  | x :: r => uptoBulkEntry x + uptoBulkEntries r
def uptoBulkEntry {H : Type} : Lit × DataW H → Nat
  | (.string bytes, d) => bytes.length + uptoBulk d + 1
  | (_, d) => uptoBulk d + 1
 end
def uptoSmall : (H : Type) → List (DataW H) → Bool := fun _ ds => decide (uptoBulkAll ds ≤ 1048576)
def OpenSpec.upto (s : _root_.Go.ChangeSpec) : _root_.Go.OpenSpec := { _root_.Go.OpenSpec.ofChange s with cond := some uptoSmall }

/-- 'pawllaw18.WidePads', WHERE WHAT IT READS IS OF BULK AT MOST 1048576: true; the input reads as it did. -/
def widePadsUptoRow : OpenClaim := { program := "ytmhbhpmfbalbeaa", sum := "a2da423bfd57d3dd5b7d484bfe88d9fae26415d140a56e608443e1dacd065648", func := "pawl/pawllaw18.WidePads", spec := "widePads", apart := false, narrowed := true }
def WidePadsUptoSaid : Prop := widePadsUptoRow.holds Try.pinned (OpenSpec.upto widePadsSpec)

/-- 'pawllaw18.WidePaddings', WHERE WHAT IT READS IS OF BULK AT MOST 1048576: true; the input reads as it did. -/
def widePaddingsUptoRow : OpenClaim := { program := "ytmhbhpmfbalbeaa", sum := "a2da423bfd57d3dd5b7d484bfe88d9fae26415d140a56e608443e1dacd065648", func := "pawl/pawllaw18.WidePaddings", spec := "widePaddings", apart := false, narrowed := true }
def WidePaddingsUptoSaid : Prop := widePaddingsUptoRow.holds Try.pinned (OpenSpec.upto widePaddingsSpec)

/-- 'pawllaw18.WideBlocks', WHERE WHAT IT READS IS OF BULK AT MOST 1048576: true; the input reads as it did. -/
def wideBlocksUptoRow : OpenClaim := { program := "ytmhbhpmfbalbeaa", sum := "a2da423bfd57d3dd5b7d484bfe88d9fae26415d140a56e608443e1dacd065648", func := "pawl/pawllaw18.WideBlocks", spec := "wideBlocks", apart := false, narrowed := true }
def WideBlocksUptoSaid : Prop := wideBlocksUptoRow.holds Try.pinned (OpenSpec.upto wideBlocksSpec)

/-- 'pawllaw18.WideAll', WHERE WHAT IT READS IS OF BULK AT MOST 1048576: true; the input reads as it did. -/
def wideAllUptoRow : OpenClaim := { program := "ytmhbhpmfbalbeaa", sum := "a2da423bfd57d3dd5b7d484bfe88d9fae26415d140a56e608443e1dacd065648", func := "pawl/pawllaw18.WideAll", spec := "wideAll", apart := false, narrowed := true }
def WideAllUptoSaid : Prop := wideAllUptoRow.holds Try.pinned (OpenSpec.upto wideAllSpec)

/-- 'pawllaw18.WideSums', WHERE WHAT IT READS IS OF BULK AT MOST 1048576: true; the input reads as it did. -/
def wideSumsUptoRow : OpenClaim := { program := "ytmhbhpmfbalbeaa", sum := "a2da423bfd57d3dd5b7d484bfe88d9fae26415d140a56e608443e1dacd065648", func := "pawl/pawllaw18.WideSums", spec := "wideSums", apart := false, narrowed := true }
def WideSumsUptoSaid : Prop := wideSumsUptoRow.holds Try.pinned (OpenSpec.upto wideSumsSpec)

/-- 'pawllaw18.WideFolds', WHERE WHAT IT READS IS OF BULK AT MOST 1048576: true; the input reads as it did. -/
def wideFoldsUptoRow : OpenClaim := { program := "ytmhbhpmfbalbeaa", sum := "a2da423bfd57d3dd5b7d484bfe88d9fae26415d140a56e608443e1dacd065648", func := "pawl/pawllaw18.WideFolds", spec := "wideFolds", apart := false, narrowed := true }
def WideFoldsUptoSaid : Prop := wideFoldsUptoRow.holds Try.pinned (OpenSpec.upto wideFoldsSpec)

/-- 'pawllaw18.WideVectors', WHERE WHAT IT READS IS OF BULK AT MOST 1048576: true; the input reads as it did. -/
def wideVectorsUptoRow : OpenClaim := { program := "ytmhbhpmfbalbeaa", sum := "a2da423bfd57d3dd5b7d484bfe88d9fae26415d140a56e608443e1dacd065648", func := "pawl/pawllaw18.WideVectors", spec := "wideVectors", apart := false, narrowed := true }
def WideVectorsUptoSaid : Prop := wideVectorsUptoRow.holds Try.pinned (OpenSpec.upto wideVectorsSpec)

/-- 'pawllaw18.WidePieces', WHERE WHAT IT READS IS OF BULK AT MOST 1048576: true; the input reads as it did. -/
def widePiecesUptoRow : OpenClaim := { program := "ytmhbhpmfbalbeaa", sum := "a2da423bfd57d3dd5b7d484bfe88d9fae26415d140a56e608443e1dacd065648", func := "pawl/pawllaw18.WidePieces", spec := "widePieces", apart := false, narrowed := true }
def WidePiecesUptoSaid : Prop := widePiecesUptoRow.holds Try.pinned (OpenSpec.upto widePiecesSpec)

end Rows
end Go.Proofs.Ytmhbhpmfbalbeaa
