/- The laws of layer 1 that need no powers. -/
import Derived.Test.YtfajgpjpabeafaaFb
import Derived.Test.YtfajgpjpabeafaaPwMe
namespace Go.Proofs.Ytfajgpjpabeafaa
open Go Pw Go.RowKit

theorem belowL_run  (k : K32) : runQ X_swapR [0,1,2,3,4,5,14,19,20,21,22,27,28,29,30] 100 Try.f40 (bodyOf Try.f40) [keyV k] = bigT (some (keyV (lowOf k))) (some (keyV (lessOf k))) k.b0 (highs k) := by
  kernel_rfl
def g_belowL (args : List AV) : Option AV := match args with
  | [x0] => match key? x0 with
    | some k => some (keyV (belowS k))
    | _ => none
  | _ => none
theorem belowL_at : QuietAt Try.prog 40 (val g_belowL) := by
  refine quietAt_of_run X_swapR_ok (keep := [0,1,2,3,4,5,14,19,20,21,22,27,28,29,30]) Try.func40 (c := bodyOf Try.f40) (by kernel_rfl) (by kernel_rfl) fun args v h hw => ⟨100, ?_⟩
  unfold g_belowL at h
  split at h
  · rename_i x0
    split at h
    · rename_i k h0
      have eh0 := key?_some h0
      subst eh0
      rw [belowL_run]
      rw [bigT_map (fun k => some (keyV k))]; exact h
    · cases h
  · cases h
def X_belowL : Cx := { X_swapR with O := addQ X_swapR.O 40 (val g_belowL) }
theorem X_belowL_ok : CxOK Try.prog X_belowL := { X_swapR_ok with quiet := addQ_ok X_swapR_ok.quiet belowL_at }
theorem sameL_run  (x : L5) (y : L5) : runQ X_belowL [0,1,2,3,4,11,12,13] 100 Try.f39 (bodyOf Try.f39) [numV x, numV y] = bif keyEq (bytesS x) (bytesS y) then some (.bool (equalS x y)) else some (.bool false) := by
  kernel_rfl
def g_sameL (args : List AV) : Option AV := match args with
  | [x0, x1] => match num? x0, num? x1 with
    | some x, some y => some (.bool (sameS x y))
    | _, _ => none
  | _ => none
theorem sameL_at : QuietAt Try.prog 39 (val g_sameL) := by
  refine quietAt_of_run X_belowL_ok (keep := [0,1,2,3,4,11,12,13]) Try.func39 (c := bodyOf Try.f39) (by kernel_rfl) (by kernel_rfl) fun args v h hw => ⟨100, ?_⟩
  unfold g_sameL at h
  split at h
  · rename_i x0 x1
    split at h
    · rename_i x y h0 h1
      have eh0 := num?_some h0
      subst eh0
      have eh1 := num?_some h1
      subst eh1
      rw [sameL_run]
      rw [bif_b]; exact h
    · cases h
  · cases h
def X_sameL : Cx := { X_belowL with O := addQ X_belowL.O 39 (val g_sameL) }
theorem X_sameL_ok : CxOK Try.prog X_sameL := { X_belowL_ok with quiet := addQ_ok X_belowL_ok.quiet sameL_at }
theorem livesL_run  (p : K32) : runQ X_sameL [0,1,2,3,4,14,15,16,17,20,21,22,25,26,27,28] 100 Try.f38 (bodyOf Try.f38) [keyV p] = andR (Pw.livesL p) := by
  kernel_rfl
def g_livesL (args : List AV) : Option AV := match args with
  | [x0] => match key? x0 with
    | some p => some (.bool (livesS p))
    | _ => none
  | _ => none
theorem livesL_at : QuietAt Try.prog 38 (val g_livesL) := by
  refine quietAt_of_run X_sameL_ok (keep := [0,1,2,3,4,14,15,16,17,20,21,22,25,26,27,28]) Try.func38 (c := bodyOf Try.f38) (by kernel_rfl) (by kernel_rfl) fun args v h hw => ⟨100, ?_⟩
  unfold g_livesL at h
  split at h
  · rename_i x0
    split at h
    · rename_i p h0
      have eh0 := key?_some h0
      subst eh0
      rw [livesL_run]
      rw [andR_eq]; exact h
    · cases h
  · cases h
def X_livesL : Cx := { X_sameL with O := addQ X_sameL.O 38 (val g_livesL) }
theorem X_livesL_ok : CxOK Try.prog X_livesL := { X_sameL_ok with quiet := addQ_ok X_sameL_ok.quiet livesL_at }
theorem askedL_run  (x : L5) (y : L5) (v : L4) (w : L4) : runQ X_livesL [0,1,2,3,4,5,6,7,8,17,18,19,20,21,24,25,26,27,28,29,36,37,38,39,40] 100 Try.f55 (bodyOf Try.f55) [numV x, numV y, rnumV v, rnumV w] = orF (askedN x y v w) (some (.bool false)) (andR (Pw.askedL x y v w)) := by
  kernel_rfl
def g_askedL (args : List AV) : Option AV := match args with
  | [x0, x1, x2, x3] => match num? x0, num? x1, rnum? x2, rnum? x3 with
    | some x, some y, some v, some w => some (.bool (askedS x y v w))
    | _, _, _, _ => none
  | _ => none
theorem askedL_at : QuietAt Try.prog 55 (val g_askedL) := by
  refine quietAt_of_run X_livesL_ok (keep := [0,1,2,3,4,5,6,7,8,17,18,19,20,21,24,25,26,27,28,29,36,37,38,39,40]) Try.func55 (c := bodyOf Try.f55) (by kernel_rfl) (by kernel_rfl) fun args v h hw => ⟨100, ?_⟩
  unfold g_askedL at h
  split at h
  · rename_i x0 x1 x2 x3
    split at h
    · rename_i x y v w h0 h1 h2 h3
      have eh0 := num?_some h0
      subst eh0
      have eh1 := num?_some h1
      subst eh1
      have eh2 := rnum?_some h2
      subst eh2
      have eh3 := rnum?_some h3
      subst eh3
      rw [askedL_run]
      rw [andR_eq, orF_eq]; exact h
    · cases h
  · cases h
def X_askedL : Cx := { X_livesL with O := addQ X_livesL.O 55 (val g_askedL) }
theorem X_askedL_ok : CxOK Try.prog X_askedL := { X_livesL_ok with quiet := addQ_ok X_livesL_ok.quiet askedL_at }
end Go.Proofs.Ytfajgpjpabeafaa

