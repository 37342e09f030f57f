/- raised: a power of a list that is lent. -/
import Derived.Test.YtfajgpjpabeafaaFi
namespace Go.Proofs.Ytfajgpjpabeafaa
open Go Pw Go.RowKit
def raisedT (b : List Nat) : List Nat := List.take b.length b
def raisedR (o : FOps) (a : L5) (b : List Nat) : Option (AV × Option Blk) :=
  bif decide ((0 : Int) ≤ 0 ∧ 0 ≤ w64 ((b.length : Int) + 32) ∧ w64 ((b.length : Int) + 32) ≤ 281474976710656) then (bif decide (0 + b.length ≤ b.length) then (bif decide (0 + (raisedT b).length ≤ maxRoom) then
   (bif decide ((0 : Int) = 0 ∧ 0 + (raisedT b).length = (raisedT b).length ∧ 0 + (raisedT b).length + 32 ≤ maxRoom) then (bif decide ((0 : Int) ≤ (b.length : Int) ∧ (b.length : Int) ≤ ((0 + (raisedT b).length + 32 : Nat) : Int)) then
    (bif decide (0 + ((b.length : Int).toNat - 0) ≤ (raisedT b ++ marks 32).length) then (bif decide (0 + (0 + (raisedT b).length + 32) ≤ (raisedT b ++ marks 32).length) then (bif decide (0 + b.length ≤ b.length) then
     (bif keptOk (List.take (0 + (raisedT b).length + 32) (raisedT b ++ marks 32)) (raisedT b) then some (.tup [numV (powL o a (List.take ((b.length : Int).toNat - 0) (raisedT b ++ marks 32))), .bool true], none) else none) else none) else none) else none) else none) else none) else none) else none) else none
theorem raisedR_eq (o : FOps) (a : L5) (b : List Nat) (h : b.length + 32 ≤ 175921860444160) : raisedR o a b = some (.tup [numV (powL o a b), .bool true], none) := by
  have hT : raisedT b = b := List.take_length
  have hm : (b ++ marks 32).length = b.length + 32 := by rw [List.length_append, marks_len]
  have hw : w64 ((b.length : Int) + 32) = (b.length : Int) + 32 := w64_id (by omega) (by omega)
  have h1 : List.take (0 + b.length + 32) (b ++ marks 32) = b ++ marks 32 := by rw [Nat.zero_add, ← hm, List.take_length]
  have h2 : List.take ((b.length : Int).toNat - 0) (b ++ marks 32) = b := by
    rw [Nat.sub_zero, Int.toNat_natCast, List.take_left]
  have h3 : keptOk (b ++ marks 32) b = true := decide_eq_true ⟨rfl, by rw [hm]; omega⟩
  unfold raisedR maxRoom
  rw [hT, hw, h1, h2, h3, hm, decide_eq_true (by omega), cond_true, decide_eq_true (by omega), cond_true, decide_eq_true (by omega), cond_true, decide_eq_true (by omega), cond_true, decide_eq_true (by omega), cond_true, decide_eq_true (by omega), cond_true, decide_eq_true (by omega), cond_true, cond_true, cond_true]
theorem raisedL_run (o : FOps) (a : L5) (b : List Nat) : runNL (X_ln o) [] [0,1,2,4,5,6,7,8] 200 Try.f46 (bodyOf Try.f46) (laArgs [.v (numV a), .l b] 0) (laLists [.v (numV a), .l b]) = raisedR o a b := by
  kernel_rfl
def u_raisedL (o : FOps) (args : List LA) : Option (AV × Option Blk) := match args with
  | [.v x0, .l b] => (match num? x0 with
    | some a => some (.tup [numV (powL o a b), .bool true], none)
    | _ => none)
  | _ => none
def c_raisedL (args : List LA) : Bool := match args with
  | [.v x0, .l b] => (match num? x0 with
    | some _ => decide (b.length + 32 ≤ 175921860444160)
    | _ => false)
  | _ => false
def g_raisedL (o : FOps) (args : List LA) : Option (AV × Option Blk) := bif c_raisedL args then u_raisedL o args else none
theorem raisedL_at : QuietAt Try.prog 46 (lav (g_raisedL concFOps)) := by
  refine quietAt_of_runA X_ln_ok (L := []) (keep := [0,1,2,4,5,6,7,8]) Try.func46 (c := bodyOf Try.f46) (by kernel_rfl) (by kernel_rfl) (LoopsOK.nil) fun args v h hw => ⟨200, ?_⟩
  unfold g_raisedL at h
  have hg := (bif_some h).1
  replace h := (bif_some h).2
  unfold u_raisedL at h
  split at h
  · rename_i x0 b
    split at h
    · rename_i a hh0
      have ehh0 := num?_some hh0
      subst ehh0
      replace hg : (decide (b.length + 32 ≤ 175921860444160)) = true := hg
      rw [← h]
      refine (raisedL_run concFOps a b).trans ?_
      exact raisedR_eq concFOps a b (of_decide_eq_true hg)
    · cases h
  · cases h
noncomputable def X_raisedL (o : FOps) : Cx := { X_ln o with O := addQ (X_ln o).O 46 (lavG c_raisedL (u_raisedL o)) }
theorem X_raisedL_ok : CxOK Try.prog (X_raisedL concFOps) := { X_ln_ok with quiet := addQ_ok X_ln_ok.quiet (lavG_at raisedL_at) }
end Go.Proofs.Ytfajgpjpabeafaa

