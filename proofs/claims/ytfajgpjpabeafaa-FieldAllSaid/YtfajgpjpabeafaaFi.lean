/- The list that is lent: 32 bytes more behind it. Printed by wip/tools/genfi.py. -/
import Derived.Test.YtfajgpjpabeafaaFh
namespace Go.Proofs.Ytfajgpjpabeafaa
open Go Pw Go.RowKit
noncomputable abbrev lnL : Func := Try.f89
def lnE (v : AV) (i m : Nat) : Env := [(0, v), (4, .slice (4 + 2 * i) 0 m true), (5, .n (i : Int))]
def lnG : Nat → Nat → List Nat → List Blk
  | _, 0, l => [⟨.bytes l, true⟩]
  | j, k + 1, l => Pw.dead :: ⟨.bytes [(171 + j) % 256], true⟩ :: lnG (j + 1) k l
def lnM (B0 B1 B2 B3 : Blk) (i : Nat) (l : List Nat) : Mem := B0 :: B1 :: B2 :: B3 :: lnG 0 i l
def lnStep (o : FOps) (i : Nat) : Prop := ∀ (v : AV) (B0 B1 B2 B3 : Blk) (l : List Nat) (m : Nat), codeK (X_keptL o) [] lnL.ntmps [0,2,3,4,5,14] 60 (loopB (bodyOf lnL) 4) (lnE v i m) (lnM B0 B1 B2 B3 i l) (outK [0, 4, 5]) =
  bif decide (0 + m ≤ l.length) then (bif decide (m + 1 ≤ maxRoom) then some (.normal, lnE v (i + 1) (m + 1), lnM B0 B1 B2 B3 (i + 1) (l.take m ++ [(171 + i) % 256])) else none) else none
theorem ln_step0 (o : FOps) (v : AV) (B0 B1 B2 B3 : Blk) (l : List Nat) (m : Nat) : codeK (X_keptL o) [] lnL.ntmps [0,2,3,4,5,14] 60 (loopB (bodyOf lnL) 4) (lnE v 0 m) (lnM B0 B1 B2 B3 0 l) (outK [0, 4, 5]) =
  bif decide (0 + m ≤ l.length) then (bif decide (m + 1 ≤ maxRoom) then some (.normal, lnE v 1 (m + 1), lnM B0 B1 B2 B3 1 (l.take m ++ [(171 + 0) % 256])) else none) else none := by kernel_rfl
theorem ln_step1 (o : FOps) (v : AV) (B0 B1 B2 B3 : Blk) (l : List Nat) (m : Nat) : codeK (X_keptL o) [] lnL.ntmps [0,2,3,4,5,14] 60 (loopB (bodyOf lnL) 4) (lnE v 1 m) (lnM B0 B1 B2 B3 1 l) (outK [0, 4, 5]) =
  bif decide (0 + m ≤ l.length) then (bif decide (m + 1 ≤ maxRoom) then some (.normal, lnE v 2 (m + 1), lnM B0 B1 B2 B3 2 (l.take m ++ [(171 + 1) % 256])) else none) else none := by kernel_rfl
theorem ln_step2 (o : FOps) (v : AV) (B0 B1 B2 B3 : Blk) (l : List Nat) (m : Nat) : codeK (X_keptL o) [] lnL.ntmps [0,2,3,4,5,14] 60 (loopB (bodyOf lnL) 4) (lnE v 2 m) (lnM B0 B1 B2 B3 2 l) (outK [0, 4, 5]) =
  bif decide (0 + m ≤ l.length) then (bif decide (m + 1 ≤ maxRoom) then some (.normal, lnE v 3 (m + 1), lnM B0 B1 B2 B3 3 (l.take m ++ [(171 + 2) % 256])) else none) else none := by kernel_rfl
theorem ln_step3 (o : FOps) (v : AV) (B0 B1 B2 B3 : Blk) (l : List Nat) (m : Nat) : codeK (X_keptL o) [] lnL.ntmps [0,2,3,4,5,14] 60 (loopB (bodyOf lnL) 4) (lnE v 3 m) (lnM B0 B1 B2 B3 3 l) (outK [0, 4, 5]) =
  bif decide (0 + m ≤ l.length) then (bif decide (m + 1 ≤ maxRoom) then some (.normal, lnE v 4 (m + 1), lnM B0 B1 B2 B3 4 (l.take m ++ [(171 + 3) % 256])) else none) else none := by kernel_rfl
theorem ln_step4 (o : FOps) (v : AV) (B0 B1 B2 B3 : Blk) (l : List Nat) (m : Nat) : codeK (X_keptL o) [] lnL.ntmps [0,2,3,4,5,14] 60 (loopB (bodyOf lnL) 4) (lnE v 4 m) (lnM B0 B1 B2 B3 4 l) (outK [0, 4, 5]) =
  bif decide (0 + m ≤ l.length) then (bif decide (m + 1 ≤ maxRoom) then some (.normal, lnE v 5 (m + 1), lnM B0 B1 B2 B3 5 (l.take m ++ [(171 + 4) % 256])) else none) else none := by kernel_rfl
theorem ln_step5 (o : FOps) (v : AV) (B0 B1 B2 B3 : Blk) (l : List Nat) (m : Nat) : codeK (X_keptL o) [] lnL.ntmps [0,2,3,4,5,14] 60 (loopB (bodyOf lnL) 4) (lnE v 5 m) (lnM B0 B1 B2 B3 5 l) (outK [0, 4, 5]) =
  bif decide (0 + m ≤ l.length) then (bif decide (m + 1 ≤ maxRoom) then some (.normal, lnE v 6 (m + 1), lnM B0 B1 B2 B3 6 (l.take m ++ [(171 + 5) % 256])) else none) else none := by kernel_rfl
theorem ln_step6 (o : FOps) (v : AV) (B0 B1 B2 B3 : Blk) (l : List Nat) (m : Nat) : codeK (X_keptL o) [] lnL.ntmps [0,2,3,4,5,14] 60 (loopB (bodyOf lnL) 4) (lnE v 6 m) (lnM B0 B1 B2 B3 6 l) (outK [0, 4, 5]) =
  bif decide (0 + m ≤ l.length) then (bif decide (m + 1 ≤ maxRoom) then some (.normal, lnE v 7 (m + 1), lnM B0 B1 B2 B3 7 (l.take m ++ [(171 + 6) % 256])) else none) else none := by kernel_rfl
theorem ln_step7 (o : FOps) (v : AV) (B0 B1 B2 B3 : Blk) (l : List Nat) (m : Nat) : codeK (X_keptL o) [] lnL.ntmps [0,2,3,4,5,14] 60 (loopB (bodyOf lnL) 4) (lnE v 7 m) (lnM B0 B1 B2 B3 7 l) (outK [0, 4, 5]) =
  bif decide (0 + m ≤ l.length) then (bif decide (m + 1 ≤ maxRoom) then some (.normal, lnE v 8 (m + 1), lnM B0 B1 B2 B3 8 (l.take m ++ [(171 + 7) % 256])) else none) else none := by kernel_rfl
theorem ln_step8 (o : FOps) (v : AV) (B0 B1 B2 B3 : Blk) (l : List Nat) (m : Nat) : codeK (X_keptL o) [] lnL.ntmps [0,2,3,4,5,14] 60 (loopB (bodyOf lnL) 4) (lnE v 8 m) (lnM B0 B1 B2 B3 8 l) (outK [0, 4, 5]) =
  bif decide (0 + m ≤ l.length) then (bif decide (m + 1 ≤ maxRoom) then some (.normal, lnE v 9 (m + 1), lnM B0 B1 B2 B3 9 (l.take m ++ [(171 + 8) % 256])) else none) else none := by kernel_rfl
theorem ln_step9 (o : FOps) (v : AV) (B0 B1 B2 B3 : Blk) (l : List Nat) (m : Nat) : codeK (X_keptL o) [] lnL.ntmps [0,2,3,4,5,14] 60 (loopB (bodyOf lnL) 4) (lnE v 9 m) (lnM B0 B1 B2 B3 9 l) (outK [0, 4, 5]) =
  bif decide (0 + m ≤ l.length) then (bif decide (m + 1 ≤ maxRoom) then some (.normal, lnE v 10 (m + 1), lnM B0 B1 B2 B3 10 (l.take m ++ [(171 + 9) % 256])) else none) else none := by kernel_rfl
theorem ln_step10 (o : FOps) (v : AV) (B0 B1 B2 B3 : Blk) (l : List Nat) (m : Nat) : codeK (X_keptL o) [] lnL.ntmps [0,2,3,4,5,14] 60 (loopB (bodyOf lnL) 4) (lnE v 10 m) (lnM B0 B1 B2 B3 10 l) (outK [0, 4, 5]) =
  bif decide (0 + m ≤ l.length) then (bif decide (m + 1 ≤ maxRoom) then some (.normal, lnE v 11 (m + 1), lnM B0 B1 B2 B3 11 (l.take m ++ [(171 + 10) % 256])) else none) else none := by kernel_rfl
theorem ln_step11 (o : FOps) (v : AV) (B0 B1 B2 B3 : Blk) (l : List Nat) (m : Nat) : codeK (X_keptL o) [] lnL.ntmps [0,2,3,4,5,14] 60 (loopB (bodyOf lnL) 4) (lnE v 11 m) (lnM B0 B1 B2 B3 11 l) (outK [0, 4, 5]) =
  bif decide (0 + m ≤ l.length) then (bif decide (m + 1 ≤ maxRoom) then some (.normal, lnE v 12 (m + 1), lnM B0 B1 B2 B3 12 (l.take m ++ [(171 + 11) % 256])) else none) else none := by kernel_rfl
theorem ln_step12 (o : FOps) (v : AV) (B0 B1 B2 B3 : Blk) (l : List Nat) (m : Nat) : codeK (X_keptL o) [] lnL.ntmps [0,2,3,4,5,14] 60 (loopB (bodyOf lnL) 4) (lnE v 12 m) (lnM B0 B1 B2 B3 12 l) (outK [0, 4, 5]) =
  bif decide (0 + m ≤ l.length) then (bif decide (m + 1 ≤ maxRoom) then some (.normal, lnE v 13 (m + 1), lnM B0 B1 B2 B3 13 (l.take m ++ [(171 + 12) % 256])) else none) else none := by kernel_rfl
theorem ln_step13 (o : FOps) (v : AV) (B0 B1 B2 B3 : Blk) (l : List Nat) (m : Nat) : codeK (X_keptL o) [] lnL.ntmps [0,2,3,4,5,14] 60 (loopB (bodyOf lnL) 4) (lnE v 13 m) (lnM B0 B1 B2 B3 13 l) (outK [0, 4, 5]) =
  bif decide (0 + m ≤ l.length) then (bif decide (m + 1 ≤ maxRoom) then some (.normal, lnE v 14 (m + 1), lnM B0 B1 B2 B3 14 (l.take m ++ [(171 + 13) % 256])) else none) else none := by kernel_rfl
theorem ln_step14 (o : FOps) (v : AV) (B0 B1 B2 B3 : Blk) (l : List Nat) (m : Nat) : codeK (X_keptL o) [] lnL.ntmps [0,2,3,4,5,14] 60 (loopB (bodyOf lnL) 4) (lnE v 14 m) (lnM B0 B1 B2 B3 14 l) (outK [0, 4, 5]) =
  bif decide (0 + m ≤ l.length) then (bif decide (m + 1 ≤ maxRoom) then some (.normal, lnE v 15 (m + 1), lnM B0 B1 B2 B3 15 (l.take m ++ [(171 + 14) % 256])) else none) else none := by kernel_rfl
theorem ln_step15 (o : FOps) (v : AV) (B0 B1 B2 B3 : Blk) (l : List Nat) (m : Nat) : codeK (X_keptL o) [] lnL.ntmps [0,2,3,4,5,14] 60 (loopB (bodyOf lnL) 4) (lnE v 15 m) (lnM B0 B1 B2 B3 15 l) (outK [0, 4, 5]) =
  bif decide (0 + m ≤ l.length) then (bif decide (m + 1 ≤ maxRoom) then some (.normal, lnE v 16 (m + 1), lnM B0 B1 B2 B3 16 (l.take m ++ [(171 + 15) % 256])) else none) else none := by kernel_rfl
theorem ln_step16 (o : FOps) (v : AV) (B0 B1 B2 B3 : Blk) (l : List Nat) (m : Nat) : codeK (X_keptL o) [] lnL.ntmps [0,2,3,4,5,14] 60 (loopB (bodyOf lnL) 4) (lnE v 16 m) (lnM B0 B1 B2 B3 16 l) (outK [0, 4, 5]) =
  bif decide (0 + m ≤ l.length) then (bif decide (m + 1 ≤ maxRoom) then some (.normal, lnE v 17 (m + 1), lnM B0 B1 B2 B3 17 (l.take m ++ [(171 + 16) % 256])) else none) else none := by kernel_rfl
theorem ln_step17 (o : FOps) (v : AV) (B0 B1 B2 B3 : Blk) (l : List Nat) (m : Nat) : codeK (X_keptL o) [] lnL.ntmps [0,2,3,4,5,14] 60 (loopB (bodyOf lnL) 4) (lnE v 17 m) (lnM B0 B1 B2 B3 17 l) (outK [0, 4, 5]) =
  bif decide (0 + m ≤ l.length) then (bif decide (m + 1 ≤ maxRoom) then some (.normal, lnE v 18 (m + 1), lnM B0 B1 B2 B3 18 (l.take m ++ [(171 + 17) % 256])) else none) else none := by kernel_rfl
theorem ln_step18 (o : FOps) (v : AV) (B0 B1 B2 B3 : Blk) (l : List Nat) (m : Nat) : codeK (X_keptL o) [] lnL.ntmps [0,2,3,4,5,14] 60 (loopB (bodyOf lnL) 4) (lnE v 18 m) (lnM B0 B1 B2 B3 18 l) (outK [0, 4, 5]) =
  bif decide (0 + m ≤ l.length) then (bif decide (m + 1 ≤ maxRoom) then some (.normal, lnE v 19 (m + 1), lnM B0 B1 B2 B3 19 (l.take m ++ [(171 + 18) % 256])) else none) else none := by kernel_rfl
theorem ln_step19 (o : FOps) (v : AV) (B0 B1 B2 B3 : Blk) (l : List Nat) (m : Nat) : codeK (X_keptL o) [] lnL.ntmps [0,2,3,4,5,14] 60 (loopB (bodyOf lnL) 4) (lnE v 19 m) (lnM B0 B1 B2 B3 19 l) (outK [0, 4, 5]) =
  bif decide (0 + m ≤ l.length) then (bif decide (m + 1 ≤ maxRoom) then some (.normal, lnE v 20 (m + 1), lnM B0 B1 B2 B3 20 (l.take m ++ [(171 + 19) % 256])) else none) else none := by kernel_rfl
theorem ln_step20 (o : FOps) (v : AV) (B0 B1 B2 B3 : Blk) (l : List Nat) (m : Nat) : codeK (X_keptL o) [] lnL.ntmps [0,2,3,4,5,14] 60 (loopB (bodyOf lnL) 4) (lnE v 20 m) (lnM B0 B1 B2 B3 20 l) (outK [0, 4, 5]) =
  bif decide (0 + m ≤ l.length) then (bif decide (m + 1 ≤ maxRoom) then some (.normal, lnE v 21 (m + 1), lnM B0 B1 B2 B3 21 (l.take m ++ [(171 + 20) % 256])) else none) else none := by kernel_rfl
theorem ln_step21 (o : FOps) (v : AV) (B0 B1 B2 B3 : Blk) (l : List Nat) (m : Nat) : codeK (X_keptL o) [] lnL.ntmps [0,2,3,4,5,14] 60 (loopB (bodyOf lnL) 4) (lnE v 21 m) (lnM B0 B1 B2 B3 21 l) (outK [0, 4, 5]) =
  bif decide (0 + m ≤ l.length) then (bif decide (m + 1 ≤ maxRoom) then some (.normal, lnE v 22 (m + 1), lnM B0 B1 B2 B3 22 (l.take m ++ [(171 + 21) % 256])) else none) else none := by kernel_rfl
theorem ln_step22 (o : FOps) (v : AV) (B0 B1 B2 B3 : Blk) (l : List Nat) (m : Nat) : codeK (X_keptL o) [] lnL.ntmps [0,2,3,4,5,14] 60 (loopB (bodyOf lnL) 4) (lnE v 22 m) (lnM B0 B1 B2 B3 22 l) (outK [0, 4, 5]) =
  bif decide (0 + m ≤ l.length) then (bif decide (m + 1 ≤ maxRoom) then some (.normal, lnE v 23 (m + 1), lnM B0 B1 B2 B3 23 (l.take m ++ [(171 + 22) % 256])) else none) else none := by kernel_rfl
theorem ln_step23 (o : FOps) (v : AV) (B0 B1 B2 B3 : Blk) (l : List Nat) (m : Nat) : codeK (X_keptL o) [] lnL.ntmps [0,2,3,4,5,14] 60 (loopB (bodyOf lnL) 4) (lnE v 23 m) (lnM B0 B1 B2 B3 23 l) (outK [0, 4, 5]) =
  bif decide (0 + m ≤ l.length) then (bif decide (m + 1 ≤ maxRoom) then some (.normal, lnE v 24 (m + 1), lnM B0 B1 B2 B3 24 (l.take m ++ [(171 + 23) % 256])) else none) else none := by kernel_rfl
theorem ln_step24 (o : FOps) (v : AV) (B0 B1 B2 B3 : Blk) (l : List Nat) (m : Nat) : codeK (X_keptL o) [] lnL.ntmps [0,2,3,4,5,14] 60 (loopB (bodyOf lnL) 4) (lnE v 24 m) (lnM B0 B1 B2 B3 24 l) (outK [0, 4, 5]) =
  bif decide (0 + m ≤ l.length) then (bif decide (m + 1 ≤ maxRoom) then some (.normal, lnE v 25 (m + 1), lnM B0 B1 B2 B3 25 (l.take m ++ [(171 + 24) % 256])) else none) else none := by kernel_rfl
theorem ln_step25 (o : FOps) (v : AV) (B0 B1 B2 B3 : Blk) (l : List Nat) (m : Nat) : codeK (X_keptL o) [] lnL.ntmps [0,2,3,4,5,14] 60 (loopB (bodyOf lnL) 4) (lnE v 25 m) (lnM B0 B1 B2 B3 25 l) (outK [0, 4, 5]) =
  bif decide (0 + m ≤ l.length) then (bif decide (m + 1 ≤ maxRoom) then some (.normal, lnE v 26 (m + 1), lnM B0 B1 B2 B3 26 (l.take m ++ [(171 + 25) % 256])) else none) else none := by kernel_rfl
theorem ln_step26 (o : FOps) (v : AV) (B0 B1 B2 B3 : Blk) (l : List Nat) (m : Nat) : codeK (X_keptL o) [] lnL.ntmps [0,2,3,4,5,14] 60 (loopB (bodyOf lnL) 4) (lnE v 26 m) (lnM B0 B1 B2 B3 26 l) (outK [0, 4, 5]) =
  bif decide (0 + m ≤ l.length) then (bif decide (m + 1 ≤ maxRoom) then some (.normal, lnE v 27 (m + 1), lnM B0 B1 B2 B3 27 (l.take m ++ [(171 + 26) % 256])) else none) else none := by kernel_rfl
theorem ln_step27 (o : FOps) (v : AV) (B0 B1 B2 B3 : Blk) (l : List Nat) (m : Nat) : codeK (X_keptL o) [] lnL.ntmps [0,2,3,4,5,14] 60 (loopB (bodyOf lnL) 4) (lnE v 27 m) (lnM B0 B1 B2 B3 27 l) (outK [0, 4, 5]) =
  bif decide (0 + m ≤ l.length) then (bif decide (m + 1 ≤ maxRoom) then some (.normal, lnE v 28 (m + 1), lnM B0 B1 B2 B3 28 (l.take m ++ [(171 + 27) % 256])) else none) else none := by kernel_rfl
theorem ln_step28 (o : FOps) (v : AV) (B0 B1 B2 B3 : Blk) (l : List Nat) (m : Nat) : codeK (X_keptL o) [] lnL.ntmps [0,2,3,4,5,14] 60 (loopB (bodyOf lnL) 4) (lnE v 28 m) (lnM B0 B1 B2 B3 28 l) (outK [0, 4, 5]) =
  bif decide (0 + m ≤ l.length) then (bif decide (m + 1 ≤ maxRoom) then some (.normal, lnE v 29 (m + 1), lnM B0 B1 B2 B3 29 (l.take m ++ [(171 + 28) % 256])) else none) else none := by kernel_rfl
theorem ln_step29 (o : FOps) (v : AV) (B0 B1 B2 B3 : Blk) (l : List Nat) (m : Nat) : codeK (X_keptL o) [] lnL.ntmps [0,2,3,4,5,14] 60 (loopB (bodyOf lnL) 4) (lnE v 29 m) (lnM B0 B1 B2 B3 29 l) (outK [0, 4, 5]) =
  bif decide (0 + m ≤ l.length) then (bif decide (m + 1 ≤ maxRoom) then some (.normal, lnE v 30 (m + 1), lnM B0 B1 B2 B3 30 (l.take m ++ [(171 + 29) % 256])) else none) else none := by kernel_rfl
theorem ln_step30 (o : FOps) (v : AV) (B0 B1 B2 B3 : Blk) (l : List Nat) (m : Nat) : codeK (X_keptL o) [] lnL.ntmps [0,2,3,4,5,14] 60 (loopB (bodyOf lnL) 4) (lnE v 30 m) (lnM B0 B1 B2 B3 30 l) (outK [0, 4, 5]) =
  bif decide (0 + m ≤ l.length) then (bif decide (m + 1 ≤ maxRoom) then some (.normal, lnE v 31 (m + 1), lnM B0 B1 B2 B3 31 (l.take m ++ [(171 + 30) % 256])) else none) else none := by kernel_rfl
theorem ln_step31 (o : FOps) (v : AV) (B0 B1 B2 B3 : Blk) (l : List Nat) (m : Nat) : codeK (X_keptL o) [] lnL.ntmps [0,2,3,4,5,14] 60 (loopB (bodyOf lnL) 4) (lnE v 31 m) (lnM B0 B1 B2 B3 31 l) (outK [0, 4, 5]) =
  bif decide (0 + m ≤ l.length) then (bif decide (m + 1 ≤ maxRoom) then some (.normal, lnE v 32 (m + 1), lnM B0 B1 B2 B3 32 (l.take m ++ [(171 + 31) % 256])) else none) else none := by kernel_rfl
theorem ln_step (o : FOps) : ∀ i, i < 32 → lnStep o i
  | 0, _ => ln_step0 o
  | 1, _ => ln_step1 o
  | 2, _ => ln_step2 o
  | 3, _ => ln_step3 o
  | 4, _ => ln_step4 o
  | 5, _ => ln_step5 o
  | 6, _ => ln_step6 o
  | 7, _ => ln_step7 o
  | 8, _ => ln_step8 o
  | 9, _ => ln_step9 o
  | 10, _ => ln_step10 o
  | 11, _ => ln_step11 o
  | 12, _ => ln_step12 o
  | 13, _ => ln_step13 o
  | 14, _ => ln_step14 o
  | 15, _ => ln_step15 o
  | 16, _ => ln_step16 o
  | 17, _ => ln_step17 o
  | 18, _ => ln_step18 o
  | 19, _ => ln_step19 o
  | 20, _ => ln_step20 o
  | 21, _ => ln_step21 o
  | 22, _ => ln_step22 o
  | 23, _ => ln_step23 o
  | 24, _ => ln_step24 o
  | 25, _ => ln_step25 o
  | 26, _ => ln_step26 o
  | 27, _ => ln_step27 o
  | 28, _ => ln_step28 o
  | 29, _ => ln_step29 o
  | 30, _ => ln_step30 o
  | 31, _ => ln_step31 o
  | i + 32, h => absurd h (by omega)
theorem ln_end (o : FOps) (v : AV) (B0 B1 B2 B3 : Blk) (l : List Nat) (m : Nat) : codeK (X_keptL o) [] lnL.ntmps [0,2,3,4,5,14] 60 (loopB (bodyOf lnL) 4) (lnE v 32 m) (lnM B0 B1 B2 B3 32 l) (outK [0, 4, 5]) =
  some (.exit 0, lnE v 32 m, lnM B0 B1 B2 B3 32 l) := by kernel_rfl
def gLn : LoopFn := fun env mem _ K => match live [0, 4, 5] env, mem with
  | [v, .slice 4 0 m true, x], [B0, B1, B2, B3, ⟨.bytes l, true⟩] => (match int? x with
    | some i => bif decide (i = 0 ∧ m = l.length ∧ m + 32 ≤ maxRoom) then K (.exit 0) (lnE v 32 (m + 32)) (lnM B0 B1 B2 B3 32 (l ++ marks 32)) else none
    | none => none)
  | _, _ => none
theorem marks_succ (i : Nat) : marks (i + 1) = marks i ++ [(171 + i) % 256] := by
  unfold marks; rw [List.range_succ, List.map_append]; rfl
theorem marks_len (i : Nat) : (marks i).length = i := by unfold marks; simp
theorem gLn_at : LoopAt Try.prog lnL.ntmps (loopB (bodyOf lnL) 4) gLn := by
  refine loopAt_of_steps (keep := [0,2,3,4,5,14]) X_keptL_ok LoopsOK.nil fun env mem ρ K r hg => ?_
  unfold gLn at hg
  split at hg
  · rename_i v m x B0 B1 B2 B3 l hl
    split at hg
    · rename_i i hi
      have hi := int?_some hi
      subst hi
      have hc := of_decide_eq_true (bif_some hg).1
      replace hg := (bif_some hg).2
      obtain ⟨h1, h2, h3⟩ := hc
      subst h1
      subst h2
      refine ⟨[0, 4, 5], 32, fun i => lnE v i (l.length + i), fun i => lnM B0 B1 B2 B3 i (l ++ marks i), .exit 0, _, _, ?_, ?_, (by simp), hg, fun i hi => ⟨60, [0, 4, 5], ?_⟩, 60, [0, 4, 5], ln_end concFOps _ _ _ _ _ _ _⟩
      · rw [prune_live, hl]; rfl
      · show _ = lnM B0 B1 B2 B3 0 (l ++ [])
        rw [List.append_nil]; rfl
      · refine (ln_step concFOps i hi v B0 B1 B2 B3 _ _).trans ?_
        have hlen : (l ++ marks i).length = l.length + i := by rw [List.length_append, marks_len]
        rw [decide_eq_true (by rw [hlen]; omega), cond_true, decide_eq_true (by omega), cond_true, ← hlen, List.take_length]
        show _ = some (Ex.normal, lnE v (i + 1) (l.length + (i + 1)), lnM B0 B1 B2 B3 (i + 1) (l ++ marks (i + 1)))
        rw [marks_succ, ← List.append_assoc, hlen]
        rfl
    · cases hg
  · cases hg
theorem ln_loops : LoopsOK Try.prog lnL.ntmps [(4, gLn)] (bodyOf lnL) := loopsOK_cons LoopsOK.nil (by kernel_rfl) gLn_at
noncomputable def mLn (o : FOps) : List AV → Mem → ∀ {ρ : Type}, (AV → Mem → Option ρ) → Option ρ := fun args mem _ K => runKL (X_keptL o) [(4, gLn)] [0,2,3,4,5,14] 600 lnL (bodyOf lnL) args mem K
theorem mLn_at : LoudAt Try.prog 89 (mLn concFOps) := loudAt_of_run X_keptL_ok Try.func89 (by kernel_rfl) (by kernel_rfl) ln_loops
noncomputable def X_ln (o : FOps) : Cx := { X_keptL o with M := addM (X_keptL o).M 89 (mLn o) }
theorem X_ln_ok : CxOK Try.prog (X_ln concFOps) := { X_keptL_ok with loud := addM_ok X_keptL_ok.loud mLn_at }
end Go.Proofs.Ytfajgpjpabeafaa

