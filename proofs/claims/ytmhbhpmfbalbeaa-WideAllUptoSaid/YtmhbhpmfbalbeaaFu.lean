/- What the bound of an Upto row says of the lengths of the slices that are read. -/
import Derived.Test.YtmhbhpmfbalbeaaPwMk
import Derived.Test.YtmhbhpmfbalbeaaRows
namespace Go.Proofs.Ytmhbhpmfbalbeaa
open Go Pw
theorem up_all {H : Type} (l : List (DataW H)) : l.length ≤ Rows.uptoBulkAll l := by
  induction l with
  | nil => simp
  | cons x r ih =>
    have : 1 ≤ Rows.uptoBulk x := by
      cases x with
      | lit l => cases l <;> simp [Rows.uptoBulk]
      | _ => simp [Rows.uptoBulk]
    simp only [Rows.uptoBulkAll, List.length_cons]; omega
theorem up_one {H : Type} (d : DataW H) : dLen d ≤ Rows.uptoBulk d := by
  cases d with
  | slice e sp => have := up_all e; simp only [dLen, Rows.uptoBulk]; omega
  | _ => exact Nat.zero_le _
theorem up_sum {H : Type} (l : List (DataW H)) : (l.map dLen).sum ≤ Rows.uptoBulkAll l := by
  induction l with
  | nil => simp
  | cons x r ih =>
    have := up_one x
    simp only [Rows.uptoBulkAll, List.map_cons, List.sum_cons]; omega
theorem up_le {H : Type} {l : List (DataW H)} (hk : Rows.uptoSmall H l = true) : (l.map dLen).sum ≤ 1048576 := by
  have h : Rows.uptoBulkAll l ≤ 1048576 := of_decide_eq_true hk
  have := up_sum l
  omega
end Go.Proofs.Ytmhbhpmfbalbeaa

