/- SHA-512: the two Blocks as variables. -/
import Derived.Test.YtmhbhpmfbalbeaaWc
import Derived.Test.YtmhbhpmfbalbeaaPwMg
namespace Go.Proofs.Ytmhbhpmfbalbeaa
open Go Pw Go.RowKit
structure SOps where
  bP : List Nat → List Nat → List Nat
  bR : List Nat → List Nat → List Nat
def concS : SOps := ⟨blockP, blockR⟩
def gg_bP (o : SOps) : List AV → Option AV
  | [x, y] => (match w8? x, b128? y with
    | some h, some b => some (w8V (o.bP h b))
    | _, _ => none)
  | _ => none
def gg_bR (o : SOps) : List AV → Option AV
  | [x, y] => (match w8? x, b128? y with
    | some h, some b => some (w8V (o.bR h b))
    | _, _ => none)
  | _ => none
theorem gg_bP_at : QuietAt Try.prog 15 (val (gg_bP concS)) := blockP_at
theorem gg_bR_at : QuietAt Try.prog 16 (val (gg_bR concS)) := blockR_at
def XS (o : SOps) : Cx := { X_startR with O := addQ (addQ X_startR.O 15 (val (gg_bP o))) 16 (val (gg_bR o)) }
theorem XS_ok : CxOK Try.prog (XS concS) := { X_startR_ok with quiet := addQ_ok (addQ_ok X_startR_ok.quiet gg_bP_at) gg_bR_at }
end Go.Proofs.Ytmhbhpmfbalbeaa

