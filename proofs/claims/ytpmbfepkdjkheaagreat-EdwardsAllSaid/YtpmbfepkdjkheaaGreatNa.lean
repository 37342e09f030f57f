/- Contracts of the numbers modulo the order, of the program (1). -/
import Derived.Test.YtpmbfepkdjkheaaGreatFb
import Derived.Test.YtpmbfepkdjkheaaGreatPwMh
namespace Go.Proofs.YtpmbfepkdjkheaaGreat
open Go Pw Go.RowKit
theorem limAdd_run  (x : L4) (y : L4) : runQ X_sub64 [0,1,2,3,4,5,6,7,8,9] 100 Tryz.f124 (bodyOf Tryz.f124) [rnumV x, rnumV y] = bif decide (addC0 x y ≤ 1) then bif decide (addC1 x y ≤ 1) then bif decide (addC2 x y ≤ 1) then some (.tup [rnumV (addL x y), .u .u64 (addLc x y)]) else none else none else none := by
  kernel_rfl
def g_limAdd (args : List AV) : Option AV := match args with
  | [x0, x1] => match rnum? x0, rnum? x1 with
    | some x, some y => some (.tup [rnumV (addL x y), .u .u64 (addLc x y)])
    | _, _ => none
  | _ => none
theorem limAdd_at : QuietAt Tryz.prog 124 (val g_limAdd) := by
  refine quietAt_of_run X_sub64_ok (keep := [0,1,2,3,4,5,6,7,8,9]) Tryz.func124 (c := bodyOf Tryz.f124) (by kernel_rfl) (by kernel_rfl) fun args v h hw => ⟨100, ?_⟩
  unfold g_limAdd at h
  split at h
  · rename_i x0 x1
    split at h
    · rename_i x y h0 h1
      have eh0 := rnum?_some h0
      subst eh0
      have eh1 := rnum?_some h1
      subst eh1
      rw [limAdd_run]
      rw [decide_eq_true (addC_le hw).1, decide_eq_true (addC_le hw).2.1, decide_eq_true (addC_le hw).2.2]; exact h
    · cases h
  · cases h
def X_limAdd : Cx := { X_sub64 with O := addQ X_sub64.O 124 (val g_limAdd) }
theorem X_limAdd_ok : CxOK Tryz.prog X_limAdd := { X_sub64_ok with quiet := addQ_ok X_sub64_ok.quiet limAdd_at }
theorem limSub_run  (x : L4) (y : L4) : runQ X_limAdd [0,1,2,3,4,5,6,7,8,9] 100 Tryz.f126 (bodyOf Tryz.f126) [rnumV x, rnumV y] = bif decide (minB0 x y ≤ 1) then bif decide (minB1 x y ≤ 1) then bif decide (minB2 x y ≤ 1) then some (minV x y) else none else none else none := by
  kernel_rfl
def g_limSub (args : List AV) : Option AV := match args with
  | [x0, x1] => match rnum? x0, rnum? x1 with
    | some x, some y => some (minV x y)
    | _, _ => none
  | _ => none
theorem limSub_at : QuietAt Tryz.prog 126 (val g_limSub) := by
  refine quietAt_of_run X_limAdd_ok (keep := [0,1,2,3,4,5,6,7,8,9]) Tryz.func126 (c := bodyOf Tryz.f126) (by kernel_rfl) (by kernel_rfl) fun args v h hw => ⟨100, ?_⟩
  unfold g_limSub at h
  split at h
  · rename_i x0 x1
    split at h
    · rename_i x y h0 h1
      have eh0 := rnum?_some h0
      subst eh0
      have eh1 := rnum?_some h1
      subst eh1
      rw [limSub_run]
      rw [show decide (minB0 x y ≤ 1) = true from bb_guard _ _ _, show decide (minB1 x y ≤ 1) = true from bb_guard _ _ _, show decide (minB2 x y ≤ 1) = true from bb_guard _ _ _]; exact h
    · cases h
  · cases h
def X_limSub : Cx := { X_limAdd with O := addQ X_limAdd.O 126 (val g_limSub) }
theorem X_limSub_ok : CxOK Tryz.prog X_limSub := { X_limAdd_ok with quiet := addQ_ok X_limAdd_ok.quiet limSub_at }
theorem limOrd_run   : runQ X_limSub [0] 100 Tryz.f123 (bodyOf Tryz.f123) [] = some (rnumV ordL) := by
  kernel_rfl
def g_limOrd (args : List AV) : Option AV := match args with
  | [] => some (rnumV ordL)
  | _ => none
theorem limOrd_at : QuietAt Tryz.prog 123 (val g_limOrd) := by
  refine quietAt_of_run X_limSub_ok (keep := [0]) Tryz.func123 (c := bodyOf Tryz.f123) (by kernel_rfl) (by kernel_rfl) fun args v h hw => ⟨100, ?_⟩
  unfold g_limOrd at h
  split at h
  · rw [limOrd_run]; exact h
  · cases h
def X_limOrd : Cx := { X_limSub with O := addQ X_limSub.O 123 (val g_limOrd) }
theorem X_limOrd_ok : CxOK Tryz.prog X_limOrd := { X_limSub_ok with quiet := addQ_ok X_limSub_ok.quiet limOrd_at }
theorem whole_run  (k : K32) : runQ X_limOrd [0,1,2,3,4,5,6,7,8] 100 Tryz.f121 (bodyOf Tryz.f121) [keyV k] = some (rnumV (wholeL k)) := by
  kernel_rfl
def g_whole (args : List AV) : Option AV := match args with
  | [x0] => match key? x0 with
    | some k => some (rnumV (wholeL k))
    | _ => none
  | _ => none
theorem whole_at : QuietAt Tryz.prog 121 (val g_whole) := by
  refine quietAt_of_run X_limOrd_ok (keep := [0,1,2,3,4,5,6,7,8]) Tryz.func121 (c := bodyOf Tryz.f121) (by kernel_rfl) (by kernel_rfl) fun args v h hw => ⟨100, ?_⟩
  unfold g_whole at h
  split at h
  · rename_i x0
    split at h
    · rename_i k h0
      have eh0 := key?_some h0
      subst eh0
      rw [whole_run]
      exact h
    · cases h
  · cases h
def X_whole : Cx := { X_limOrd with O := addQ X_limOrd.O 121 (val g_whole) }
theorem X_whole_ok : CxOK Tryz.prog X_whole := { X_limOrd_ok with quiet := addQ_ok X_limOrd_ok.quiet whole_at }
theorem scal_run  (x : L4) : runQ X_whole [0,1,2,3,4,5,6] 100 Tryz.f119 (bodyOf Tryz.f119) [rnumV x] = some (keyV (bytesR4 x)) := by
  kernel_rfl
def g_scal (args : List AV) : Option AV := match args with
  | [x0] => match rnum? x0 with
    | some x => some (keyV (bytesR4 x))
    | _ => none
  | _ => none
theorem scal_at : QuietAt Tryz.prog 119 (val g_scal) := by
  refine quietAt_of_run X_whole_ok (keep := [0,1,2,3,4,5,6]) Tryz.func119 (c := bodyOf Tryz.f119) (by kernel_rfl) (by kernel_rfl) fun args v h hw => ⟨100, ?_⟩
  unfold g_scal at h
  split at h
  · rename_i x0
    split at h
    · rename_i x h0
      have eh0 := rnum?_some h0
      subst eh0
      rw [scal_run]
      exact h
    · cases h
  · cases h
def X_scal : Cx := { X_whole with O := addQ X_whole.O 119 (val g_scal) }
theorem X_scal_ok : CxOK Tryz.prog X_scal := { X_whole_ok with quiet := addQ_ok X_whole_ok.quiet scal_at }
structure NOps where
  ladd : L4 → L4 → (L4 × Nat)
  lsub : L4 → L4 → (L4 × Nat)
  mul2 : Nat → Nat → (Nat × Nat)
  whole : K32 → L4
  scal : L4 → K32
def concNOps : NOps where
  ladd := fun x y => (addL x y, addLc x y)
  lsub := fun x y => (minD x y, minB x y)
  mul2 := fun x y => (mulHi x y, mul64 x y)
  whole := wholeL
  scal := bytesR4
def gg_ladd (o : NOps) (args : List AV) : Option AV := match args with
  | [x0, x1] => match rnum? x0, rnum? x1 with
    | some x, some y => some (rncV (o.ladd x y))
    | _, _ => none
  | _ => none
theorem gg_ladd_at : QuietAt Tryz.prog 124 (val (gg_ladd concNOps)) := by
  rw [show gg_ladd concNOps = g_limAdd by kernel_rfl]
  exact limAdd_at
def gg_lsub (o : NOps) (args : List AV) : Option AV := match args with
  | [x0, x1] => match rnum? x0, rnum? x1 with
    | some x, some y => some (rncV (o.lsub x y))
    | _, _ => none
  | _ => none
theorem gg_lsub_at : QuietAt Tryz.prog 126 (val (gg_lsub concNOps)) := by
  rw [show gg_lsub concNOps = g_limSub by kernel_rfl]
  exact limSub_at
def gg_mul2 (o : NOps) (args : List AV) : Option AV := match args with
  | [x0, x1] => match u64? x0, u64? x1 with
    | some x, some y => some (u2V (o.mul2 x y))
    | _, _ => none
  | _ => none
theorem gg_mul2_at : QuietAt Tryz.prog 157 (val (gg_mul2 concNOps)) := by
  rw [show gg_mul2 concNOps = g_mul2 by kernel_rfl]
  exact mul2_at
def gg_whole (o : NOps) (args : List AV) : Option AV := match args with
  | [x0] => match key? x0 with
    | some k => some (rnumV (o.whole k))
    | _ => none
  | _ => none
theorem gg_whole_at : QuietAt Tryz.prog 121 (val (gg_whole concNOps)) := by
  rw [show gg_whole concNOps = g_whole by kernel_rfl]
  exact whole_at
def gg_scal (o : NOps) (args : List AV) : Option AV := match args with
  | [x0] => match rnum? x0 with
    | some x => some (keyV (o.scal x))
    | _ => none
  | _ => none
theorem gg_scal_at : QuietAt Tryz.prog 119 (val (gg_scal concNOps)) := by
  rw [show gg_scal concNOps = g_scal by kernel_rfl]
  exact scal_at
def XNOps (o : NOps) : Cx := ⟨T, addQ (addQ (addQ (addQ (addQ (X_scal.O) 124 (val (gg_ladd o))) 126 (val (gg_lsub o))) 157 (val (gg_mul2 o))) 121 (val (gg_whole o))) 119 (val (gg_scal o)), noM⟩
abbrev XNOpsc : Cx := XNOps concNOps
theorem XNOps_ok : CxOK Tryz.prog (XNOps concNOps) := ⟨mix, T_ok, addQ_ok (addQ_ok (addQ_ok (addQ_ok (addQ_ok (X_scal_ok.quiet) gg_ladd_at) gg_lsub_at) gg_mul2_at) gg_whole_at) gg_scal_at, noM_ok⟩
theorem XNOpsc_ok : CxOK Tryz.prog XNOpsc := ⟨mix, T_ok, addQ_ok (addQ_ok (addQ_ok (addQ_ok (addQ_ok (X_scal_ok.quiet) gg_ladd_at) gg_lsub_at) gg_mul2_at) gg_whole_at) gg_scal_at, noM_ok⟩
end Go.Proofs.YtpmbfepkdjkheaaGreat

