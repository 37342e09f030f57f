/- The functions of layer 1 as variables: a context in which nothing is reckoned, and the real one. -/
import Derived.Test.YtpmbfepkdjkheaaGreatFc
namespace Go.Proofs.YtpmbfepkdjkheaaGreat
open Go Pw Go.RowKit

/- X_base: what needs no variables -/
def XB : Cx := ⟨T, noQ, noM⟩
theorem XB_ok : CxOK Tryz.prog XB := ⟨mix, T_ok, noQ_ok, noM_ok⟩
structure FOps where
  frm : K32 → L5
  bytes : L5 → K32
  small : Nat → L5
  add : L5 → L5 → L5
  sub : L5 → L5 → L5
  neg : L5 → L5
  mul : L5 → L5 → L5
  sq : L5 → L5
  times : L5 → Nat → L5
  equal : L5 → L5 → Bool
  isZero : L5 → Bool
  odd : L5 → Bool
  rfrm : K32 → L4
  rbytes : L4 → K32
  rsmall : Nat → L4
  radd : L4 → L4 → L4
  rsub : L4 → L4 → L4
  rneg : L4 → L4
  rmul : L4 → L4 → L4
  rsq : L4 → L4
  rtimes : L4 → Nat → L4
  requal : L4 → L4 → Bool
  risZero : L4 → Bool
  rodd : L4 → Bool
  below : K32 → K32
  same : L5 → L5 → Bool
  lives : K32 → Bool
  asked : L5 → L5 → L4 → L4 → Bool
def concFOps : FOps where
  frm := fromS
  bytes := bytesS
  small := smallS
  add := addS
  sub := subS
  neg := negS
  mul := mulS
  sq := sqS
  times := timesS
  equal := equalS
  isZero := isZeroS
  odd := oddS
  rfrm := fromR
  rbytes := bytesR4
  rsmall := smallR
  radd := addR
  rsub := subR
  rneg := negR
  rmul := mulR
  rsq := fun x => mulR x x
  rtimes := timesR
  requal := equalR
  risZero := isZeroR
  rodd := oddR
  below := belowS
  same := sameS
  lives := livesS
  asked := askedS
def gg_frm (o : FOps) (args : List AV) : Option AV := match args with
  | [x0] => match key? x0 with
    | some k => some (numV (o.frm k))
    | _ => none
  | _ => none
theorem gg_frm_at : QuietAt Tryz.prog 101 (val (gg_frm concFOps)) := by
  rw [show gg_frm concFOps = g_fromF by kernel_rfl]
  exact fromF_at
def gg_bytes (o : FOps) (args : List AV) : Option AV := match args with
  | [x0] => match num? x0 with
    | some x => some (keyV (o.bytes x))
    | _ => none
  | _ => none
theorem gg_bytes_at : QuietAt Tryz.prog 71 (val (gg_bytes concFOps)) := by
  rw [show gg_bytes concFOps = g_bytesF by kernel_rfl]
  exact bytesF_at
def gg_small (o : FOps) (args : List AV) : Option AV := match args with
  | [x0] => match u64? x0 with
    | some n => some (numV (o.small n))
    | _ => none
  | _ => none
theorem gg_small_at : QuietAt Tryz.prog 77 (val (gg_small concFOps)) := by
  rw [show gg_small concFOps = g_smallF by kernel_rfl]
  exact smallF_at
def gg_add (o : FOps) (args : List AV) : Option AV := match args with
  | [x0, x1] => match num? x0, num? x1 with
    | some x, some y => some (numV (o.add x y))
    | _, _ => none
  | _ => none
theorem gg_add_at : QuietAt Tryz.prog 78 (val (gg_add concFOps)) := by
  rw [show gg_add concFOps = g_addF by kernel_rfl]
  exact addF_at
def gg_sub (o : FOps) (args : List AV) : Option AV := match args with
  | [x0, x1] => match num? x0, num? x1 with
    | some x, some y => some (numV (o.sub x y))
    | _, _ => none
  | _ => none
theorem gg_sub_at : QuietAt Tryz.prog 80 (val (gg_sub concFOps)) := by
  rw [show gg_sub concFOps = g_subF by kernel_rfl]
  exact subF_at
def gg_neg (o : FOps) (args : List AV) : Option AV := match args with
  | [x0] => match num? x0 with
    | some x => some (numV (o.neg x))
    | _ => none
  | _ => none
theorem gg_neg_at : QuietAt Tryz.prog 113 (val (gg_neg concFOps)) := by
  rw [show gg_neg concFOps = g_negF by kernel_rfl]
  exact negF_at
def gg_mul (o : FOps) (args : List AV) : Option AV := match args with
  | [x0, x1] => match num? x0, num? x1 with
    | some x, some y => some (numV (o.mul x y))
    | _, _ => none
  | _ => none
theorem gg_mul_at : QuietAt Tryz.prog 79 (val (gg_mul concFOps)) := by
  rw [show gg_mul concFOps = g_mulF by kernel_rfl]
  exact mulF_at
def gg_sq (o : FOps) (args : List AV) : Option AV := match args with
  | [x0] => match num? x0 with
    | some x => some (numV (o.sq x))
    | _ => none
  | _ => none
theorem gg_sq_at : QuietAt Tryz.prog 150 (val (gg_sq concFOps)) := by
  rw [show gg_sq concFOps = g_sqF by kernel_rfl]
  exact sqF_at
def gg_times (o : FOps) (args : List AV) : Option AV := match args with
  | [x0, x1] => match num? x0, u32? x1 with
    | some x, some n => some (numV (o.times x n))
    | _, _ => none
  | _ => none
theorem gg_times_at : QuietAt Tryz.prog 110 (val (gg_times concFOps)) := by
  rw [show gg_times concFOps = g_timesF by kernel_rfl]
  exact timesF_at
def gg_equal (o : FOps) (args : List AV) : Option AV := match args with
  | [x0, x1] => match num? x0, num? x1 with
    | some x, some y => some (.bool (o.equal x y))
    | _, _ => none
  | _ => none
theorem gg_equal_at : QuietAt Tryz.prog 85 (val (gg_equal concFOps)) := by
  rw [show gg_equal concFOps = g_equalF by kernel_rfl]
  exact equalF_at
def gg_isZero (o : FOps) (args : List AV) : Option AV := match args with
  | [x0] => match num? x0 with
    | some x => some (.bool (o.isZero x))
    | _ => none
  | _ => none
theorem gg_isZero_at : QuietAt Tryz.prog 106 (val (gg_isZero concFOps)) := by
  rw [show gg_isZero concFOps = g_isZeroF by kernel_rfl]
  exact isZeroF_at
def gg_odd (o : FOps) (args : List AV) : Option AV := match args with
  | [x0] => match num? x0 with
    | some x => some (.bool (o.odd x))
    | _ => none
  | _ => none
theorem gg_odd_at : QuietAt Tryz.prog 72 (val (gg_odd concFOps)) := by
  rw [show gg_odd concFOps = g_oddF by kernel_rfl]
  exact oddF_at
def gg_rfrm (o : FOps) (args : List AV) : Option AV := match args with
  | [x0] => match key? x0 with
    | some k => some (rnumV (o.rfrm k))
    | _ => none
  | _ => none
theorem gg_rfrm_at : QuietAt Tryz.prog 89 (val (gg_rfrm concFOps)) := by
  rw [show gg_rfrm concFOps = g_fromR by kernel_rfl]
  exact fromR_at
def gg_rbytes (o : FOps) (args : List AV) : Option AV := match args with
  | [x0] => match rnum? x0 with
    | some x => some (keyV (o.rbytes x))
    | _ => none
  | _ => none
theorem gg_rbytes_at : QuietAt Tryz.prog 75 (val (gg_rbytes concFOps)) := by
  rw [show gg_rbytes concFOps = g_bytesR by kernel_rfl]
  exact bytesR_at
def gg_rsmall (o : FOps) (args : List AV) : Option AV := match args with
  | [x0] => match u64? x0 with
    | some n => some (rnumV (o.rsmall n))
    | _ => none
  | _ => none
theorem gg_rsmall_at : QuietAt Tryz.prog 39 (val (gg_rsmall concFOps)) := by
  rw [show gg_rsmall concFOps = g_smallR by kernel_rfl]
  exact smallR_at
def gg_radd (o : FOps) (args : List AV) : Option AV := match args with
  | [x0, x1] => match rnum? x0, rnum? x1 with
    | some x, some y => some (rnumV (o.radd x y))
    | _, _ => none
  | _ => none
theorem gg_radd_at : QuietAt Tryz.prog 82 (val (gg_radd concFOps)) := by
  rw [show gg_radd concFOps = g_addR by kernel_rfl]
  exact addR_at
def gg_rsub (o : FOps) (args : List AV) : Option AV := match args with
  | [x0, x1] => match rnum? x0, rnum? x1 with
    | some x, some y => some (rnumV (o.rsub x y))
    | _, _ => none
  | _ => none
theorem gg_rsub_at : QuietAt Tryz.prog 83 (val (gg_rsub concFOps)) := by
  rw [show gg_rsub concFOps = g_subR by kernel_rfl]
  exact subR_at
def gg_rneg (o : FOps) (args : List AV) : Option AV := match args with
  | [x0] => match rnum? x0 with
    | some x => some (rnumV (o.rneg x))
    | _ => none
  | _ => none
theorem gg_rneg_at : QuietAt Tryz.prog 114 (val (gg_rneg concFOps)) := by
  rw [show gg_rneg concFOps = g_negR by kernel_rfl]
  exact negR_at
def gg_rmul (o : FOps) (args : List AV) : Option AV := match args with
  | [x0, x1] => match rnum? x0, rnum? x1 with
    | some x, some y => some (rnumV (o.rmul x y))
    | _, _ => none
  | _ => none
theorem gg_rmul_at : QuietAt Tryz.prog 74 (val (gg_rmul concFOps)) := by
  rw [show gg_rmul concFOps = g_mulR by kernel_rfl]
  exact mulR_at
def gg_rsq (o : FOps) (args : List AV) : Option AV := match args with
  | [x0] => match rnum? x0 with
    | some x => some (rnumV (o.rsq x))
    | _ => none
  | _ => none
theorem gg_rsq_at : QuietAt Tryz.prog 111 (val (gg_rsq concFOps)) := by
  rw [show gg_rsq concFOps = g_sqR by kernel_rfl]
  exact sqR_at
def gg_requal (o : FOps) (args : List AV) : Option AV := match args with
  | [x0, x1] => match rnum? x0, rnum? x1 with
    | some x, some y => some (.bool (o.requal x y))
    | _, _ => none
  | _ => none
theorem gg_requal_at : QuietAt Tryz.prog 86 (val (gg_requal concFOps)) := by
  rw [show gg_requal concFOps = g_equalR by kernel_rfl]
  exact equalR_at
def gg_risZero (o : FOps) (args : List AV) : Option AV := match args with
  | [x0] => match rnum? x0 with
    | some x => some (.bool (o.risZero x))
    | _ => none
  | _ => none
theorem gg_risZero_at : QuietAt Tryz.prog 107 (val (gg_risZero concFOps)) := by
  rw [show gg_risZero concFOps = g_isZeroR by kernel_rfl]
  exact isZeroR_at
def gg_rodd (o : FOps) (args : List AV) : Option AV := match args with
  | [x0] => match rnum? x0 with
    | some x => some (.bool (o.rodd x))
    | _ => none
  | _ => none
theorem gg_rodd_at : QuietAt Tryz.prog 76 (val (gg_rodd concFOps)) := by
  rw [show gg_rodd concFOps = g_oddR by kernel_rfl]
  exact oddR_at
def XFOps (o : FOps) : Cx := ⟨T, addQ (addQ (addQ (addQ (addQ (addQ (addQ (addQ (addQ (addQ (addQ (addQ (addQ (addQ (addQ (addQ (addQ (addQ (addQ (addQ (addQ (addQ (addQ (XB.O) 101 (val (gg_frm o))) 71 (val (gg_bytes o))) 77 (val (gg_small o))) 78 (val (gg_add o))) 80 (val (gg_sub o))) 113 (val (gg_neg o))) 79 (val (gg_mul o))) 150 (val (gg_sq o))) 110 (val (gg_times o))) 85 (val (gg_equal o))) 106 (val (gg_isZero o))) 72 (val (gg_odd o))) 89 (val (gg_rfrm o))) 75 (val (gg_rbytes o))) 39 (val (gg_rsmall o))) 82 (val (gg_radd o))) 83 (val (gg_rsub o))) 114 (val (gg_rneg o))) 74 (val (gg_rmul o))) 111 (val (gg_rsq o))) 86 (val (gg_requal o))) 107 (val (gg_risZero o))) 76 (val (gg_rodd o)), noM⟩
abbrev XFOpsc : Cx := XFOps concFOps
theorem XFOps_ok : CxOK Tryz.prog (XFOps concFOps) := ⟨mix, T_ok, addQ_ok (addQ_ok (addQ_ok (addQ_ok (addQ_ok (addQ_ok (addQ_ok (addQ_ok (addQ_ok (addQ_ok (addQ_ok (addQ_ok (addQ_ok (addQ_ok (addQ_ok (addQ_ok (addQ_ok (addQ_ok (addQ_ok (addQ_ok (addQ_ok (addQ_ok (addQ_ok (XB_ok.quiet) gg_frm_at) gg_bytes_at) gg_small_at) gg_add_at) gg_sub_at) gg_neg_at) gg_mul_at) gg_sq_at) gg_times_at) gg_equal_at) gg_isZero_at) gg_odd_at) gg_rfrm_at) gg_rbytes_at) gg_rsmall_at) gg_radd_at) gg_rsub_at) gg_rneg_at) gg_rmul_at) gg_rsq_at) gg_requal_at) gg_risZero_at) gg_rodd_at, noM_ok⟩
theorem XFOpsc_ok : CxOK Tryz.prog XFOpsc := ⟨mix, T_ok, addQ_ok (addQ_ok (addQ_ok (addQ_ok (addQ_ok (addQ_ok (addQ_ok (addQ_ok (addQ_ok (addQ_ok (addQ_ok (addQ_ok (addQ_ok (addQ_ok (addQ_ok (addQ_ok (addQ_ok (addQ_ok (addQ_ok (addQ_ok (addQ_ok (addQ_ok (addQ_ok (XB_ok.quiet) gg_frm_at) gg_bytes_at) gg_small_at) gg_add_at) gg_sub_at) gg_neg_at) gg_mul_at) gg_sq_at) gg_times_at) gg_equal_at) gg_isZero_at) gg_odd_at) gg_rfrm_at) gg_rbytes_at) gg_rsmall_at) gg_radd_at) gg_rsub_at) gg_rneg_at) gg_rmul_at) gg_rsq_at) gg_requal_at) gg_risZero_at) gg_rodd_at, noM_ok⟩
end Go.Proofs.YtpmbfepkdjkheaaGreat

