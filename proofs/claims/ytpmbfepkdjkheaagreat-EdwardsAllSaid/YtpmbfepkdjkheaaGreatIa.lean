/- EdwardsAll: points and numbers of layer 19, of the program and of the document, as variables. -/
import Derived.Test.YtpmbfepkdjkheaaGreatLw
import Derived.Test.YtpmbfepkdjkheaaGreatNf
namespace Go.Proofs.YtpmbfepkdjkheaaGreat
open Go Pw Go.RowKit
structure AOps where
  e : EOps
  rred : List Nat → List Nat
  rwhole : K32 → List Nat × Int
  rby : List Nat → K32
  riz : List Nat → Bool
  rsadd : List Nat → List Nat → List Nat
  rssub : List Nat → List Nat → List Nat
  rsmul : List Nat → List Nat → List Nat
  rsneg : List Nat → List Nat
def concA : AOps where
  e := concE
  rred b := redD concD oneD zeroD b
  rwhole k := (bif wholeC concD k then redD concD oneD zeroD k.toList else zeroD, bif wholeC concD k then 0 else 191)
  rby := bytD
  riz a := isZU a 16 16
  rsadd a b := concD.once (sumD a b)
  rssub a b := concD.add (resp 16 a) (resp 16 (concD.neg (resp 16 b)))
  rsmul a b := redD concD (resp 16 (resp 16 a)) (resp 16 zeroD) (bytD (resp 16 b)).toList
  rsneg a := bif concD.isz (resp 16 a) then a else minuD concD.ord a
noncomputable abbrev XA0 (a : AOps) : Cx := X_lent a.e
theorem XA0_ok : CxOK Tryz.prog (XA0 concA) := X_lent_ok
def gv_rred (a : AOps) (args : List LA) : Option (AV × Option Blk) := match args with
  | [.l b] => some (d16V (a.rred b), none)
  | _ => none
theorem gv_rred_at : QuietAt Tryz.prog 59 (lav fun args => bif c_dReduce args then gv_rred concA args else none) := by
  rw [show (fun args => bif c_dReduce args then gv_rred concA args else none) = g_dReduce concD by kernel_rfl]
  exact dReduce_at
noncomputable def X_vrred (a : AOps) : Cx := { XA0 a with O := addQ (XA0 a).O 59 (lavG c_dReduce (gv_rred a)) }
theorem X_vrred_ok : CxOK Tryz.prog (X_vrred concA) := { XA0_ok with quiet := addQ_ok XA0_ok.quiet (lavG_at gv_rred_at) }
def gv_rwhole (a : AOps) (args : List LA) : Option (AV × Option Blk) := match args with
  | [.v x0] => (match key? x0 with
    | some k => some (.tup [d16V ((a.rwhole k)).1, .n ((a.rwhole k)).2], none)
    | _ => none)
  | _ => none
theorem gv_rwhole_at : QuietAt Tryz.prog 61 (lav (gv_rwhole concA)) := by
  rw [show gv_rwhole concA = g_dWhole concD by kernel_rfl]
  exact dWhole_at
noncomputable def X_vrwhole (a : AOps) : Cx := { X_vrred a with O := addQ (X_vrred a).O 61 (lav (gv_rwhole a)) }
theorem X_vrwhole_ok : CxOK Tryz.prog (X_vrwhole concA) := { X_vrred_ok with quiet := addQ_ok X_vrred_ok.quiet gv_rwhole_at }
def gv_rby (a : AOps) (args : List LA) : Option (AV × Option Blk) := match args with
  | [.v x0] => (match d16? x0 with
    | some x => some (keyV (a.rby x), none)
    | _ => none)
  | _ => none
theorem gv_rby_at : QuietAt Tryz.prog 23 (lav (gv_rby concA)) := by
  rw [show gv_rby concA = g_dBytes concNOps by kernel_rfl]
  exact dBytes_at
noncomputable def X_vrby (a : AOps) : Cx := { X_vrwhole a with O := addQ (X_vrwhole a).O 23 (lav (gv_rby a)) }
theorem X_vrby_ok : CxOK Tryz.prog (X_vrby concA) := { X_vrwhole_ok with quiet := addQ_ok X_vrwhole_ok.quiet gv_rby_at }
def gv_riz (a : AOps) (args : List LA) : Option (AV × Option Blk) := match args with
  | [.v x0] => (match d16? x0 with
    | some x => some (.bool (a.riz x), none)
    | _ => none)
  | _ => none
theorem gv_riz_at : QuietAt Tryz.prog 25 (lav (gv_riz concA)) := by
  rw [show gv_riz concA = g_dIsZero concNOps by kernel_rfl]
  exact dIsZero_at
noncomputable def X_vriz (a : AOps) : Cx := { X_vrby a with O := addQ (X_vrby a).O 25 (lav (gv_riz a)) }
theorem X_vriz_ok : CxOK Tryz.prog (X_vriz concA) := { X_vrby_ok with quiet := addQ_ok X_vrby_ok.quiet gv_riz_at }
def gv_rsadd (a : AOps) (args : List LA) : Option (AV × Option Blk) := match args with
  | [.v x0, .v x1] => (match d16? x0, d16? x1 with
    | some x, some y => some (d16V (a.rsadd x y), none)
    | _, _ => none)
  | _ => none
theorem gv_rsadd_at : QuietAt Tryz.prog 63 (lav (gv_rsadd concA)) := by
  rw [show gv_rsadd concA = g_dAdd concD by kernel_rfl]
  exact dAdd_at
noncomputable def X_vrsadd (a : AOps) : Cx := { X_vriz a with O := addQ (X_vriz a).O 63 (lav (gv_rsadd a)) }
theorem X_vrsadd_ok : CxOK Tryz.prog (X_vrsadd concA) := { X_vriz_ok with quiet := addQ_ok X_vriz_ok.quiet gv_rsadd_at }
def gv_rssub (a : AOps) (args : List LA) : Option (AV × Option Blk) := match args with
  | [.v x0, .v x1] => (match d16? x0, d16? x1 with
    | some x, some y => some (d16V (a.rssub x y), none)
    | _, _ => none)
  | _ => none
theorem gv_rssub_at : QuietAt Tryz.prog 65 (lav (gv_rssub concA)) := by
  rw [show gv_rssub concA = g_dSub concD by kernel_rfl]
  exact dSub_at
noncomputable def X_vrssub (a : AOps) : Cx := { X_vrsadd a with O := addQ (X_vrsadd a).O 65 (lav (gv_rssub a)) }
theorem X_vrssub_ok : CxOK Tryz.prog (X_vrssub concA) := { X_vrsadd_ok with quiet := addQ_ok X_vrsadd_ok.quiet gv_rssub_at }
def gv_rsmul (a : AOps) (args : List LA) : Option (AV × Option Blk) := match args with
  | [.v x0, .v x1] => (match d16? x0, d16? x1 with
    | some x, some y => some (d16V (a.rsmul x y), none)
    | _, _ => none)
  | _ => none
theorem gv_rsmul_at : QuietAt Tryz.prog 67 (lav (gv_rsmul concA)) := by
  rw [show gv_rsmul concA = g_dMul concD by kernel_rfl]
  exact dMul_at
noncomputable def X_vrsmul (a : AOps) : Cx := { X_vrssub a with O := addQ (X_vrssub a).O 67 (lav (gv_rsmul a)) }
theorem X_vrsmul_ok : CxOK Tryz.prog (X_vrsmul concA) := { X_vrssub_ok with quiet := addQ_ok X_vrssub_ok.quiet gv_rsmul_at }
def gv_rsneg (a : AOps) (args : List LA) : Option (AV × Option Blk) := match args with
  | [.v x0] => (match d16? x0 with
    | some x => some (d16V (a.rsneg x), none)
    | _ => none)
  | _ => none
theorem gv_rsneg_at : QuietAt Tryz.prog 69 (lav (gv_rsneg concA)) := by
  rw [show gv_rsneg concA = g_dNeg concD by kernel_rfl]
  exact dNeg_at
noncomputable def X_vrsneg (a : AOps) : Cx := { X_vrsmul a with O := addQ (X_vrsmul a).O 69 (lav (gv_rsneg a)) }
theorem X_vrsneg_ok : CxOK Tryz.prog (X_vrsneg concA) := { X_vrsmul_ok with quiet := addQ_ok X_vrsmul_ok.quiet gv_rsneg_at }
theorem neuR_run (a : AOps)  : runNL (X_vrsneg a) [] [0] 200 Tryz.f8 (bodyOf Tryz.f8) (laArgs [] 0) (laLists []) = some (pt3V ⟨⟨0, 0, 0, 0⟩, a.e.fo.rsmall 1, a.e.fo.rsmall 1⟩, none) := by
  kernel_rfl
def g_neuR (a : AOps) (args : List LA) : Option (AV × Option Blk) := match args with
  | [] => some (pt3V ⟨⟨0, 0, 0, 0⟩, a.e.fo.rsmall 1, a.e.fo.rsmall 1⟩, none)
  | _ => none
theorem neuR_at : QuietAt Tryz.prog 8 (lav (g_neuR concA)) := by
  refine quietAt_of_runA X_vrsneg_ok (L := []) (keep := [0]) Tryz.func8 (c := bodyOf Tryz.f8) (by kernel_rfl) (by kernel_rfl) (LoopsOK.nil) fun args v h hw => ⟨200, ?_⟩
  unfold g_neuR at h
  split at h
  · skip
    rw [← h]
    refine (neuR_run concA ).trans ?_
    rfl
  · cases h
noncomputable def X_neuR (a : AOps) : Cx := { X_vrsneg a with O := addQ (X_vrsneg a).O 8 (lav (g_neuR a)) }
theorem X_neuR_ok : CxOK Tryz.prog (X_neuR concA) := { X_vrsneg_ok with quiet := addQ_ok X_vrsneg_ok.quiet neuR_at }
theorem timesR3_run (a : AOps) (p : Pt3) (s : List Nat) : runNL (X_neuR a) [] [0,1,2,3,4,5] 300 Tryz.f57 (bodyOf Tryz.f57) (laArgs [.v (pt3V p), .v (d16V s)] 0) (laLists [.v (pt3V p), .v (d16V s)]) = some (pt3V (a.e.rscale p (a.rby (resp 16 s)).toList), none) := by
  kernel_rfl
def g_timesR3 (a : AOps) (args : List LA) : Option (AV × Option Blk) := match args with
  | [.v x0, .v x1] => (match pt3? x0, d16? x1 with
    | some p, some s => some (pt3V (a.e.rscale p (a.rby (resp 16 s)).toList), none)
    | _, _ => none)
  | _ => none
theorem timesR3_at : QuietAt Tryz.prog 57 (lav (g_timesR3 concA)) := by
  refine quietAt_of_runA X_neuR_ok (L := []) (keep := [0,1,2,3,4,5]) Tryz.func57 (c := bodyOf Tryz.f57) (by kernel_rfl) (by kernel_rfl) (LoopsOK.nil) fun args v h hw => ⟨300, ?_⟩
  unfold g_timesR3 at h
  split at h
  · rename_i x0 x1
    split at h
    · rename_i p s hh0 hh1
      have ehh0 := pt3?_some hh0
      subst ehh0
      have ehh1 := d16?_some hh1
      subst ehh1
      rw [← h]
      refine (timesR3_run concA p s).trans ?_
      rfl
    · cases h
  · cases h
noncomputable def X_timesR3 (a : AOps) : Cx := { X_neuR a with O := addQ (X_neuR a).O 57 (lav (g_timesR3 a)) }
theorem X_timesR3_ok : CxOK Tryz.prog (X_timesR3 concA) := { X_neuR_ok with quiet := addQ_ok X_neuR_ok.quiet timesR3_at }
end Go.Proofs.YtpmbfepkdjkheaaGreat

