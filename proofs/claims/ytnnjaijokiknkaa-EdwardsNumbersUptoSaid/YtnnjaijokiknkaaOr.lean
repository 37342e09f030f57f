/- Layer 19: the order, as bytes. -/
import Derived.Test.YtnnjaijokiknkaaNd
import Derived.Test.YtnnjaijokiknkaaPh
namespace Go.Proofs.Ytnnjaijokiknkaa
open Go Pw Go.RowKit
def ordL : List Nat := [237, 211, 245, 92, 26, 99, 18, 88, 214, 156, 247, 162, 222, 249, 222, 20, 0, 0, 0, 0, 0, 0, 0, 0, 0, 0, 0, 0, 0, 0, 0, 16]
theorem ordL_val : leB ordL = LN := by decide +kernel
theorem dOrderB_run (o : NOps)  : runNL (X_dIsZero o) [] [0,1,2] 400 Try.f41 (bodyOf Try.f41) (laArgs [] 0) (laLists []) = some (.slice 0 0 32 false, some (⟨.cells (ordL.map (AV.u .u8)), true⟩)) := by
  kernel_rfl
def g_dOrderB (_ : NOps) (args : List LA) : Option (AV × Option Blk) := match args with
  | [] => some (.slice 0 0 32 false, some (⟨.cells (ordL.map (AV.u .u8)), true⟩))
  | _ => none
theorem dOrderB_at : QuietAt Try.prog 41 (lav (g_dOrderB concNOps)) := by
  refine quietAt_of_runA X_dIsZero_ok (L := []) (keep := [0,1,2]) Try.func41 (c := bodyOf Try.f41) (by kernel_rfl) (by kernel_rfl) (LoopsOK.nil) fun args v h hw => ⟨400, ?_⟩
  unfold g_dOrderB at h
  split at h
  · skip
    rw [← h]
    refine (dOrderB_run concNOps ).trans ?_
    rfl
  · cases h
noncomputable def X_dOrderB (o : NOps) : Cx := { X_dIsZero o with O := addQ (X_dIsZero o).O 41 (lav (g_dOrderB o)) }
theorem X_dOrderB_ok : CxOK Try.prog (X_dOrderB concNOps) := { X_dIsZero_ok with quiet := addQ_ok X_dIsZero_ok.quiet dOrderB_at }
noncomputable def XOr (e : EOps) : Cx := { X_same19 e with O := addQ (X_same19 e).O 41 (lav (g_dOrderB concNOps)) }
theorem XOr_ok : CxOK Try.prog (XOr concE) := { X_same19_ok with quiet := addQ_ok X_same19_ok.quiet dOrderB_at }
end Go.Proofs.Ytnnjaijokiknkaa

