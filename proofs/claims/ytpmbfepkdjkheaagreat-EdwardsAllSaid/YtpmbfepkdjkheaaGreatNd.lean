/- Contracts of the numbers modulo the order, of the document (1). -/
import Derived.Test.YtpmbfepkdjkheaaGreatNc
namespace Go.Proofs.YtpmbfepkdjkheaaGreat
open Go Pw Go.RowKit
theorem dOrder_run (o : NOps)  : runNL (X_sMul o) [] [0] 200 Tryz.f131 (bodyOf Tryz.f131) (laArgs [] 0) (laLists []) = some (d16V ordD, none) := by
  kernel_rfl
def g_dOrder (_ : NOps) (args : List LA) : Option (AV × Option Blk) := match args with
  | [] => some (d16V ordD, none)
  | _ => none
theorem dOrder_at : QuietAt Tryz.prog 131 (lav (g_dOrder concNOps)) := by
  refine quietAt_of_runA X_sMul_ok (L := []) (keep := [0]) Tryz.func131 (c := bodyOf Tryz.f131) (by kernel_rfl) (by kernel_rfl) (LoopsOK.nil) fun args v h hw => ⟨200, ?_⟩
  unfold g_dOrder at h
  split at h
  · skip
    rw [← h]
    refine (dOrder_run concNOps ).trans ?_
    rfl
  · cases h
noncomputable def X_dOrder (o : NOps) : Cx := { X_sMul o with O := addQ (X_sMul o).O 131 (lav (g_dOrder o)) }
theorem X_dOrder_ok : CxOK Tryz.prog (X_dOrder concNOps) := { X_sMul_ok with quiet := addQ_ok X_sMul_ok.quiet dOrder_at }
theorem dOne_run (o : NOps)  : runNL (X_dOrder o) [] [0,1] 200 Tryz.f120 (bodyOf Tryz.f120) (laArgs [] 0) (laLists []) = some (d16V oneD, none) := by
  kernel_rfl
def g_dOne (_ : NOps) (args : List LA) : Option (AV × Option Blk) := match args with
  | [] => some (d16V oneD, none)
  | _ => none
theorem dOne_at : QuietAt Tryz.prog 120 (lav (g_dOne concNOps)) := by
  refine quietAt_of_runA X_dOrder_ok (L := []) (keep := [0,1]) Tryz.func120 (c := bodyOf Tryz.f120) (by kernel_rfl) (by kernel_rfl) (LoopsOK.nil) fun args v h hw => ⟨200, ?_⟩
  unfold g_dOne at h
  split at h
  · skip
    rw [← h]
    refine (dOne_run concNOps ).trans ?_
    rfl
  · cases h
noncomputable def X_dOne (o : NOps) : Cx := { X_dOrder o with O := addQ (X_dOrder o).O 120 (lav (g_dOne o)) }
theorem X_dOne_ok : CxOK Tryz.prog (X_dOne concNOps) := { X_dOrder_ok with quiet := addQ_ok X_dOrder_ok.quiet dOne_at }
theorem dBelow_run (o : NOps) (a : List Nat) (b : List Nat) : runNL (X_dOne o) [] [0,1,2,3,4,5,7,16] 200 Tryz.f156 (bodyOf Tryz.f156) (laArgs [.v (d16V a), .v (d16V b)] 0) (laLists [.v (d16V a), .v (d16V b)]) = ltR a b 16 := by
  kernel_rfl
def g_dBelow (_ : NOps) (args : List LA) : Option (AV × Option Blk) := match args with
  | [.v x0, .v x1] => (match d16? x0, d16? x1 with
    | some a, some b => some (.bool (ltD a b 16), none)
    | _, _ => none)
  | _ => none
theorem dBelow_at : QuietAt Tryz.prog 156 (lav (g_dBelow concNOps)) := by
  refine quietAt_of_runA X_dOne_ok (L := []) (keep := [0,1,2,3,4,5,7,16]) Tryz.func156 (c := bodyOf Tryz.f156) (by kernel_rfl) (by kernel_rfl) (LoopsOK.nil) fun args v h hw => ⟨200, ?_⟩
  unfold g_dBelow at h
  split at h
  · rename_i x0 x1
    split at h
    · rename_i a b hh0 hh1
      have ehh0 := d16?_some hh0
      subst ehh0
      have ehh1 := d16?_some hh1
      subst ehh1
      rw [← h]
      refine (dBelow_run concNOps a b).trans ?_
      exact ltR_eq _ _ _
    · cases h
  · cases h
noncomputable def X_dBelow (o : NOps) : Cx := { X_dOne o with O := addQ (X_dOne o).O 156 (lav (g_dBelow o)) }
theorem X_dBelow_ok : CxOK Tryz.prog (X_dBelow concNOps) := { X_dOne_ok with quiet := addQ_ok X_dOne_ok.quiet dBelow_at }
theorem dBytes_run (o : NOps) (a : List Nat) : runNL (X_dBelow o) [] [0,1,2,3,4,6] 200 Tryz.f23 (bodyOf Tryz.f23) (laArgs [.v (d16V a)] 0) (laLists [.v (d16V a)]) = some (keyV (bytD a), none) := by
  kernel_rfl
def g_dBytes (_ : NOps) (args : List LA) : Option (AV × Option Blk) := match args with
  | [.v x0] => (match d16? x0 with
    | some a => some (keyV (bytD a), none)
    | _ => none)
  | _ => none
theorem dBytes_at : QuietAt Tryz.prog 23 (lav (g_dBytes concNOps)) := by
  refine quietAt_of_runA X_dBelow_ok (L := []) (keep := [0,1,2,3,4,6]) Tryz.func23 (c := bodyOf Tryz.f23) (by kernel_rfl) (by kernel_rfl) (LoopsOK.nil) fun args v h hw => ⟨200, ?_⟩
  unfold g_dBytes at h
  split at h
  · rename_i x0
    split at h
    · rename_i a hh0
      have ehh0 := d16?_some hh0
      subst ehh0
      rw [← h]
      refine (dBytes_run concNOps a).trans ?_
      rfl
    · cases h
  · cases h
noncomputable def X_dBytes (o : NOps) : Cx := { X_dBelow o with O := addQ (X_dBelow o).O 23 (lav (g_dBytes o)) }
theorem X_dBytes_ok : CxOK Tryz.prog (X_dBytes concNOps) := { X_dBelow_ok with quiet := addQ_ok X_dBelow_ok.quiet dBytes_at }
theorem dIsZero_run (o : NOps) (a : List Nat) : runNL (X_dBytes o) [] [0,1,2,3,5,12] 200 Tryz.f25 (bodyOf Tryz.f25) (laArgs [.v (d16V a)] 0) (laLists [.v (d16V a)]) = isZR a 16 16 := by
  kernel_rfl
def g_dIsZero (_ : NOps) (args : List LA) : Option (AV × Option Blk) := match args with
  | [.v x0] => (match d16? x0 with
    | some a => some (.bool (isZU a 16 16), none)
    | _ => none)
  | _ => none
theorem dIsZero_at : QuietAt Tryz.prog 25 (lav (g_dIsZero concNOps)) := by
  refine quietAt_of_runA X_dBytes_ok (L := []) (keep := [0,1,2,3,5,12]) Tryz.func25 (c := bodyOf Tryz.f25) (by kernel_rfl) (by kernel_rfl) (LoopsOK.nil) fun args v h hw => ⟨200, ?_⟩
  unfold g_dIsZero at h
  split at h
  · rename_i x0
    split at h
    · rename_i a hh0
      have ehh0 := d16?_some hh0
      subst ehh0
      rw [← h]
      refine (dIsZero_run concNOps a).trans ?_
      exact isZR_eq _ _ _
    · cases h
  · cases h
noncomputable def X_dIsZero (o : NOps) : Cx := { X_dBytes o with O := addQ (X_dBytes o).O 25 (lav (g_dIsZero o)) }
theorem X_dIsZero_ok : CxOK Tryz.prog (X_dIsZero concNOps) := { X_dBytes_ok with quiet := addQ_ok X_dBytes_ok.quiet dIsZero_at }
noncomputable abbrev XD (_ : DOps) : Cx := X_dIsZero concNOps
theorem XD_ok : CxOK Tryz.prog (XD concD) := X_dIsZero_ok
def gv_ord (d : DOps) (args : List LA) : Option (AV × Option Blk) := match args with
  | [] => some (d16V (d.ord), none)
  | _ => none
theorem gv_ord_at : QuietAt Tryz.prog 131 (lav (gv_ord concD)) := by
  rw [show gv_ord concD = g_dOrder concNOps by kernel_rfl]
  exact dOrder_at
noncomputable def X_vord (d : DOps) : Cx := { XD d with O := addQ (XD d).O 131 (lav (gv_ord d)) }
theorem X_vord_ok : CxOK Tryz.prog (X_vord concD) := { XD_ok with quiet := addQ_ok XD_ok.quiet gv_ord_at }
def gv_lt (d : DOps) (args : List LA) : Option (AV × Option Blk) := match args with
  | [.v x0, .v x1] => (match d16? x0, d16? x1 with
    | some a, some b => some (.bool (d.lt a b), none)
    | _, _ => none)
  | _ => none
theorem gv_lt_at : QuietAt Tryz.prog 156 (lav (gv_lt concD)) := by
  rw [show gv_lt concD = g_dBelow concNOps by kernel_rfl]
  exact dBelow_at
noncomputable def X_vlt (d : DOps) : Cx := { X_vord d with O := addQ (X_vord d).O 156 (lav (gv_lt d)) }
theorem X_vlt_ok : CxOK Tryz.prog (X_vlt concD) := { X_vord_ok with quiet := addQ_ok X_vord_ok.quiet gv_lt_at }
def gv_isz (d : DOps) (args : List LA) : Option (AV × Option Blk) := match args with
  | [.v x0] => (match d16? x0 with
    | some a => some (.bool (d.isz a), none)
    | _ => none)
  | _ => none
theorem gv_isz_at : QuietAt Tryz.prog 25 (lav (gv_isz concD)) := by
  rw [show gv_isz concD = g_dIsZero concNOps by kernel_rfl]
  exact dIsZero_at
noncomputable def X_visz (d : DOps) : Cx := { X_vlt d with O := addQ (X_vlt d).O 25 (lav (gv_isz d)) }
theorem X_visz_ok : CxOK Tryz.prog (X_visz concD) := { X_vlt_ok with quiet := addQ_ok X_vlt_ok.quiet gv_isz_at }
theorem dOnce_run (d : DOps) (a : List Nat) : runNL (X_visz d) [] [0,1,2,3,4,5,6,10,14] 200 Tryz.f127 (bodyOf Tryz.f127) (laArgs [.v (d16V a)] 0) (laLists [.v (d16V a)]) = brn (d.lt (resp 16 a) (resp 16 d.ord)) (some (d16V a, none)) (some (d16E (minuD a d.ord), none)) := by
  kernel_rfl
def g_dOnce (d : DOps) (args : List LA) : Option (AV × Option Blk) := match args with
  | [.v x0] => (match d16? x0 with
    | some a => some (d16V (bif d.lt (resp 16 a) (resp 16 d.ord) then a else minuD a d.ord), none)
    | _ => none)
  | _ => none
theorem dOnce_at : QuietAt Tryz.prog 127 (lav (g_dOnce concD)) := by
  refine quietAt_of_runA X_visz_ok (L := []) (keep := [0,1,2,3,4,5,6,10,14]) Tryz.func127 (c := bodyOf Tryz.f127) (by kernel_rfl) (by kernel_rfl) (LoopsOK.nil) fun args v h hw => ⟨200, ?_⟩
  unfold g_dOnce at h
  split at h
  · rename_i x0
    split at h
    · rename_i a hh0
      have ehh0 := d16?_some hh0
      subst ehh0
      rw [← h]
      refine (dOnce_run concD a).trans ?_
      exact brn_d16 _ _ _ rfl
    · cases h
  · cases h
noncomputable def X_dOnce (d : DOps) : Cx := { X_visz d with O := addQ (X_visz d).O 127 (lav (g_dOnce d)) }
theorem X_dOnce_ok : CxOK Tryz.prog (X_dOnce concD) := { X_visz_ok with quiet := addQ_ok X_visz_ok.quiet dOnce_at }
def gv_once (d : DOps) (args : List LA) : Option (AV × Option Blk) := match args with
  | [.v x0] => (match d16? x0 with
    | some a => some (d16V (d.once a), none)
    | _ => none)
  | _ => none
theorem gv_once_at : QuietAt Tryz.prog 127 (lav (gv_once concD)) := by
  rw [show gv_once concD = g_dOnce concD by kernel_rfl]
  exact dOnce_at
noncomputable def X_vonce (d : DOps) : Cx := { X_dOnce d with O := addQ (X_dOnce d).O 127 (lav (gv_once d)) }
theorem X_vonce_ok : CxOK Tryz.prog (X_vonce concD) := { X_dOnce_ok with quiet := addQ_ok X_dOnce_ok.quiet gv_once_at }
theorem dAdd_run (d : DOps) (a : List Nat) (b : List Nat) : runNL (X_vonce d) [] [0,1,2,3,4,5,6,7,8,10] 200 Tryz.f63 (bodyOf Tryz.f63) (laArgs [.v (d16V a), .v (d16V b)] 0) (laLists [.v (d16V a), .v (d16V b)]) = some (d16V (d.once (sumD a b)), none) := by
  kernel_rfl
def g_dAdd (d : DOps) (args : List LA) : Option (AV × Option Blk) := match args with
  | [.v x0, .v x1] => (match d16? x0, d16? x1 with
    | some a, some b => some (d16V (d.once (sumD a b)), none)
    | _, _ => none)
  | _ => none
theorem dAdd_at : QuietAt Tryz.prog 63 (lav (g_dAdd concD)) := by
  refine quietAt_of_runA X_vonce_ok (L := []) (keep := [0,1,2,3,4,5,6,7,8,10]) Tryz.func63 (c := bodyOf Tryz.f63) (by kernel_rfl) (by kernel_rfl) (LoopsOK.nil) fun args v h hw => ⟨200, ?_⟩
  unfold g_dAdd at h
  split at h
  · rename_i x0 x1
    split at h
    · rename_i a b hh0 hh1
      have ehh0 := d16?_some hh0
      subst ehh0
      have ehh1 := d16?_some hh1
      subst ehh1
      rw [← h]
      refine (dAdd_run concD a b).trans ?_
      rfl
    · cases h
  · cases h
noncomputable def X_dAdd (d : DOps) : Cx := { X_vonce d with O := addQ (X_vonce d).O 63 (lav (g_dAdd d)) }
theorem X_dAdd_ok : CxOK Tryz.prog (X_dAdd concD) := { X_vonce_ok with quiet := addQ_ok X_vonce_ok.quiet dAdd_at }
def gv_add (d : DOps) (args : List LA) : Option (AV × Option Blk) := match args with
  | [.v x0, .v x1] => (match d16? x0, d16? x1 with
    | some a, some b => some (d16V (d.add a b), none)
    | _, _ => none)
  | _ => none
theorem gv_add_at : QuietAt Tryz.prog 63 (lav (gv_add concD)) := by
  rw [show gv_add concD = g_dAdd concD by kernel_rfl]
  exact dAdd_at
noncomputable def X_vadd (d : DOps) : Cx := { X_dAdd d with O := addQ (X_dAdd d).O 63 (lav (gv_add d)) }
theorem X_vadd_ok : CxOK Tryz.prog (X_vadd concD) := { X_dAdd_ok with quiet := addQ_ok X_dAdd_ok.quiet gv_add_at }
theorem dNeg_run (d : DOps) (a : List Nat) : runNL (X_vadd d) [] [0,1,2,3,4,5,6,7,9,13] 200 Tryz.f69 (bodyOf Tryz.f69) (laArgs [.v (d16V a)] 0) (laLists [.v (d16V a)]) = brn (d.isz (resp 16 a)) (some (d16V a, none)) (some (d16E (minuD d.ord a), none)) := by
  kernel_rfl
def g_dNeg (d : DOps) (args : List LA) : Option (AV × Option Blk) := match args with
  | [.v x0] => (match d16? x0 with
    | some a => some (d16V (bif d.isz (resp 16 a) then a else minuD d.ord a), none)
    | _ => none)
  | _ => none
theorem dNeg_at : QuietAt Tryz.prog 69 (lav (g_dNeg concD)) := by
  refine quietAt_of_runA X_vadd_ok (L := []) (keep := [0,1,2,3,4,5,6,7,9,13]) Tryz.func69 (c := bodyOf Tryz.f69) (by kernel_rfl) (by kernel_rfl) (LoopsOK.nil) fun args v h hw => ⟨200, ?_⟩
  unfold g_dNeg at h
  split at h
  · rename_i x0
    split at h
    · rename_i a hh0
      have ehh0 := d16?_some hh0
      subst ehh0
      rw [← h]
      refine (dNeg_run concD a).trans ?_
      exact brn_d16 _ _ _ rfl
    · cases h
  · cases h
noncomputable def X_dNeg (d : DOps) : Cx := { X_vadd d with O := addQ (X_vadd d).O 69 (lav (g_dNeg d)) }
theorem X_dNeg_ok : CxOK Tryz.prog (X_dNeg concD) := { X_vadd_ok with quiet := addQ_ok X_vadd_ok.quiet dNeg_at }
def gv_neg (d : DOps) (args : List LA) : Option (AV × Option Blk) := match args with
  | [.v x0] => (match d16? x0 with
    | some a => some (d16V (d.neg a), none)
    | _ => none)
  | _ => none
theorem gv_neg_at : QuietAt Tryz.prog 69 (lav (gv_neg concD)) := by
  rw [show gv_neg concD = g_dNeg concD by kernel_rfl]
  exact dNeg_at
noncomputable def X_vneg (d : DOps) : Cx := { X_dNeg d with O := addQ (X_dNeg d).O 69 (lav (gv_neg d)) }
theorem X_vneg_ok : CxOK Tryz.prog (X_vneg concD) := { X_dNeg_ok with quiet := addQ_ok X_dNeg_ok.quiet gv_neg_at }
theorem dSub_run (d : DOps) (a : List Nat) (b : List Nat) : runNL (X_vneg d) [] [0,1,2,3,4] 200 Tryz.f65 (bodyOf Tryz.f65) (laArgs [.v (d16V a), .v (d16V b)] 0) (laLists [.v (d16V a), .v (d16V b)]) = some (d16V (d.add (resp 16 a) (resp 16 (d.neg (resp 16 b)))), none) := by
  kernel_rfl
def g_dSub (d : DOps) (args : List LA) : Option (AV × Option Blk) := match args with
  | [.v x0, .v x1] => (match d16? x0, d16? x1 with
    | some a, some b => some (d16V (d.add (resp 16 a) (resp 16 (d.neg (resp 16 b)))), none)
    | _, _ => none)
  | _ => none
theorem dSub_at : QuietAt Tryz.prog 65 (lav (g_dSub concD)) := by
  refine quietAt_of_runA X_vneg_ok (L := []) (keep := [0,1,2,3,4]) Tryz.func65 (c := bodyOf Tryz.f65) (by kernel_rfl) (by kernel_rfl) (LoopsOK.nil) fun args v h hw => ⟨200, ?_⟩
  unfold g_dSub at h
  split at h
  · rename_i x0 x1
    split at h
    · rename_i a b hh0 hh1
      have ehh0 := d16?_some hh0
      subst ehh0
      have ehh1 := d16?_some hh1
      subst ehh1
      rw [← h]
      refine (dSub_run concD a b).trans ?_
      rfl
    · cases h
  · cases h
noncomputable def X_dSub (d : DOps) : Cx := { X_vneg d with O := addQ (X_vneg d).O 65 (lav (g_dSub d)) }
theorem X_dSub_ok : CxOK Tryz.prog (X_dSub concD) := { X_vneg_ok with quiet := addQ_ok X_vneg_ok.quiet dSub_at }
end Go.Proofs.YtpmbfepkdjkheaaGreat

