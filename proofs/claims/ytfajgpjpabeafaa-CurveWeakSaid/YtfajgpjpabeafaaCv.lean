/- The ladders of layer 2 and what stands on them, walked. -/
import Derived.Test.YtfajgpjpabeafaaCu
namespace Go.Proofs.Ytfajgpjpabeafaa
open Go Pw Go.RowKit
/-- the ladder after some rounds, from bit 254 down -/
def ladP (o : FOps) (k : K32) (x : L5) (r : Rungs) (b : Bool) : Nat → Rungs × Bool
  | 0 => (r, b)
  | i + 1 => (stepRg o (swapRg (ladP o k x r b i).1 (!(kbit k (254 - i) == (ladP o k x r b i).2))) x, kbit k (254 - i))
def gSc (o : FOps) : LoopFn := d_scO.fn (fun s => decide (s.t = 254)) (.exit 0) (fun s => { s with t := -1, before := (ladP o s.k s.x s.r s.before 255).2, r := (ladP o s.k s.x s.r s.before 255).1 })
theorem scO_at : LoopAt Try.prog scP.ntmps (loopB (bodyOf scP) 8) (gSc concFOps) := by
  refine d_scO.loop (keep := [0,1,2,3,4,5,6,7,8,9,10,11,23]) X_loud_ok LoopsOK.nil (by simp) fun s hg => ⟨255, fun i => { s with t := 254 - (i : Int), before := (ladP concFOps s.k s.x s.r s.before i).2, r := (ladP concFOps s.k s.x s.r s.before i).1 }, ?_, fun i hi => ⟨80, ?_⟩, 80, ?_⟩
  · have := of_decide_eq_true hg
    cases s; simp_all [ladP]
  · have h := scO_step concFOps { s with before := (ladP concFOps s.k s.x s.r s.before i).2, r := (ladP concFOps s.k s.x s.r s.before i).1 } (254 - i) (by omega)
    rw [show (((254 - i : Nat) : Nat) : Int) = 254 - (i : Int) by omega] at h
    dsimp only at h ⊢
    rw [show 254 - ((i + 1 : Nat) : Int) = 254 - (i : Int) - 1 by omega, show ladP concFOps s.k s.x s.r s.before (i + 1) = (stepRg concFOps (swapRg (ladP concFOps s.k s.x s.r s.before i).1 (!(kbit s.k (254 - i) == (ladP concFOps s.k s.x s.r s.before i).2))) s.x, kbit s.k (254 - i)) from rfl]
    exact h
  · exact scO_exit concFOps { s with before := (ladP concFOps s.k s.x s.r s.before 255).2, r := (ladP concFOps s.k s.x s.r s.before 255).1 }
theorem sc_loops : LoopsOK Try.prog scP.ntmps [(8, gSc concFOps)] (bodyOf scP) := loopsOK_cons LoopsOK.nil (by kernel_rfl) scO_at
def ladEnd (o : FOps) (k : K32) (x : L5) : Rungs := swapRg (ladP o k x ⟨o.small 1, zero5, x, o.small 1⟩ false 255).1 (ladP o k x ⟨o.small 1, zero5, x, o.small 1⟩ false 255).2
def scaleO (o : FOps) (k u : K32) : K32 := o.bytes (o.mul (ladEnd o (clampS k) (o.frm u)).a (invO o (ladEnd o (clampS k) (o.frm u)).b))
theorem scaleP_run (o : FOps) (k : K32) (u : K32) : runNL (X_loud o) [(8, gSc o)] [0,1,2,3,4,5,6,7,8,9,10,11,23] 300 Try.f66 (bodyOf Try.f66) (laArgs [.v (keyV k), .v (keyV u)] 0) (laLists [.v (keyV k), .v (keyV u)]) = some (keyV (scaleO o k u), none) := by
  kernel_rfl
def g_scaleP (o : FOps) (args : List LA) : Option (AV × Option Blk) := match args with
  | [.v x0, .v x1] => (match key? x0, key? x1 with
    | some k, some u => some (keyV (scaleO o k u), none)
    | _, _ => none)
  | _ => none
theorem scaleP_at : QuietAt Try.prog 66 (lav (g_scaleP concFOps)) := by
  refine quietAt_of_runA X_loud_ok (L := [(8, gSc concFOps)]) (keep := [0,1,2,3,4,5,6,7,8,9,10,11,23]) Try.func66 (c := bodyOf Try.f66) (by kernel_rfl) (by kernel_rfl) (sc_loops) fun args v h hw => ⟨300, ?_⟩
  unfold g_scaleP at h
  split at h
  · rename_i x0 x1
    split at h
    · rename_i k u hh0 hh1
      have ehh0 := key?_some hh0
      subst ehh0
      have ehh1 := key?_some hh1
      subst ehh1
      rw [← h]
      refine (scaleP_run concFOps k u).trans ?_
      rfl
    · cases h
  · cases h
noncomputable def X_scaleP (o : FOps) : Cx := { X_loud o with O := addQ (X_loud o).O 66 (lav (g_scaleP o)) }
theorem X_scaleP_ok : CxOK Try.prog (X_scaleP concFOps) := { X_loud_ok with quiet := addQ_ok X_loud_ok.quiet scaleP_at }

/-! ### the document's ladder -/
noncomputable abbrev scD : Func := Try.f71
structure S_scR where
  v4 : AV
  t : Int
  B0 : Blk
  B1 : Blk
  B2 : Blk
  k : K32
  x : L4
  r : RRungs
def d_scR : LoopDef S_scR where
  ts := [4, 5, 6, 7, 8]
  E := fun s => [(4, s.v4), (5, .ptr 3 0), (6, .ptr 4 0), (7, .ptr 5 0), (8, .n s.t)]
  M := fun s => [s.B0, s.B1, s.B2, bk (keyV s.k), bk (rnumV s.x), bk (rrungsV s.r)]
  dec := fun vs mem => match vs, mem with
    | [v4, .ptr 3 0, .ptr 4 0, .ptr 5 0, x8], [B0, B1, B2, B3, B4, B5] => (match int? x8, key? (unbk B3), rnum? (unbk B4), rrungs? (unbk B5) with
      | some t, some k, some x, some r => some ⟨v4, t, B0, B1, B2, k, x, r⟩
      | _, _, _, _ => none)
    | _, _ => none
  ok := fun vs mem s h => by
    split at h
    · split at h
      · rename_i t k x r hh0 hh1 hh2 hh3
        have ehh0 := int?_some hh0
        subst ehh0
        have ehh1 := unbk_some (key?_some hh1)
        subst ehh1
        have ehh2 := unbk_some (rnum?_some hh2)
        subst ehh2
        have ehh3 := unbk_some (rrungs?_some hh3)
        subst ehh3
        cases h; exact ⟨rfl, rfl⟩
      · cases h
    · cases h
def rround (o : FOps) (k : K32) (x : L4) (t : Nat) (r : RRungs) : RRungs := bif rkbit k t then turnRg (rstepRg o x (turnRg r)) else rstepRg o x r
def scRs (s : S_scR) (r : RRungs) : Option (Ex × Env × Mem) := some (.normal, d_scR.E { s with t := w64 (s.t - 1), r := r }, d_scR.M { s with t := w64 (s.t - 1), r := r })
theorem scR_step (o : FOps) (s : S_scR) : codeK (X_scaleP o) [] scD.ntmps [0,1,2,3,4,5,6,7,8,9,20,26,32] 80 (loopB (bodyOf scD) 5) (d_scR.E s) (d_scR.M s) (outK d_scR.ts) =
    bif decide (0 ≤ s.t) then (bif decide (0 ≤ s.t ∧ s.t < 256) then
      (bif rkbit s.k s.t.toNat then (bif rkbit s.k s.t.toNat then scRs s (turnRg (rstepRg o s.x (turnRg s.r))) else scRs s (rstepRg o s.x (turnRg s.r))) else (bif rkbit s.k s.t.toNat then scRs s (turnRg (rstepRg o s.x s.r)) else scRs s (rstepRg o s.x s.r))) else none)
    else some (.exit 0, d_scR.E s, d_scR.M s) := by kernel_rfl
def ladD (o : FOps) (k : K32) (x : L4) (r : RRungs) : Nat → RRungs
  | 0 => r
  | i + 1 => rround o k x (254 - i) (ladD o k x r i)
def gScR (o : FOps) : LoopFn := d_scR.fn (fun s => decide (s.t = 254)) (.exit 0) (fun s => { s with t := -1, r := ladD o s.k s.x s.r 255 })
theorem scR_at : LoopAt Try.prog scD.ntmps (loopB (bodyOf scD) 5) (gScR concFOps) := by
  refine d_scR.loop (keep := [0,1,2,3,4,5,6,7,8,9,20,26,32]) X_scaleP_ok LoopsOK.nil (by simp) fun s hg => ⟨255, fun i => { s with t := 254 - (i : Int), r := ladD concFOps s.k s.x s.r i }, ?_, fun i hi => ⟨80, ?_⟩, 80, ?_⟩
  · have := of_decide_eq_true hg
    cases s; simp_all [ladD]
  · refine (scR_step concFOps _).trans ?_
    rw [decide_eq_true (show (0 : Int) ≤ 254 - (i : Int) by omega), cond_true, decide_eq_true (show (0 : Int) ≤ 254 - (i : Int) ∧ 254 - (i : Int) < 256 by omega), cond_true, show (254 - (i : Int)).toNat = 254 - i by omega]
    dsimp only
    rw [show ladD concFOps s.k s.x s.r (i + 1) = bif rkbit s.k (254 - i) then turnRg (rstepRg concFOps s.x (turnRg (ladD concFOps s.k s.x s.r i))) else rstepRg concFOps s.x (ladD concFOps s.k s.x s.r i) from rfl]
    unfold scRs
    dsimp only
    rw [w64_id (by omega) (by omega), show 254 - ((i + 1 : Nat) : Int) = 254 - (i : Int) - 1 by omega]
    generalize rkbit s.k (254 - i) = c
    cases c
    · rw [cond_false, cond_false, cond_false]
    · rw [cond_true, cond_true, cond_true]
  · refine (scR_step concFOps _).trans ?_
    rw [decide_eq_false (show ¬ (0 : Int) ≤ 254 - ((255 : Nat) : Int) by omega), cond_false]
    rfl
theorem scR_loops : LoopsOK Try.prog scD.ntmps [(5, gScR concFOps)] (bodyOf scD) := loopsOK_cons LoopsOK.nil (by kernel_rfl) scR_at
def rladEnd (o : FOps) (k : K32) (x : L4) : RRungs := ladD o k x ⟨o.rsmall 1, o.rsmall 0, x, o.rsmall 1⟩ 255
def rscaleO (o : FOps) (k u : K32) : K32 := o.rbytes (o.rmul (rladEnd o (clampR k) (o.rfrm u)).a (rinvO o (rladEnd o (clampR k) (o.rfrm u)).b))
theorem scaleD_run (o : FOps) (k : K32) (u : K32) : runNL (X_scaleP o) [(5, gScR o)] [0,1,2,3,4,5,6,7,8,9,20,26,32] 300 Try.f71 (bodyOf Try.f71) (laArgs [.v (keyV k), .v (keyV u)] 0) (laLists [.v (keyV k), .v (keyV u)]) = some (keyV (rscaleO o k u), none) := by
  kernel_rfl
def g_scaleD (o : FOps) (args : List LA) : Option (AV × Option Blk) := match args with
  | [.v x0, .v x1] => (match key? x0, key? x1 with
    | some k, some u => some (keyV (rscaleO o k u), none)
    | _, _ => none)
  | _ => none
theorem scaleD_at : QuietAt Try.prog 71 (lav (g_scaleD concFOps)) := by
  refine quietAt_of_runA X_scaleP_ok (L := [(5, gScR concFOps)]) (keep := [0,1,2,3,4,5,6,7,8,9,20,26,32]) Try.func71 (c := bodyOf Try.f71) (by kernel_rfl) (by kernel_rfl) (scR_loops) fun args v h hw => ⟨300, ?_⟩
  unfold g_scaleD at h
  split at h
  · rename_i x0 x1
    split at h
    · rename_i k u hh0 hh1
      have ehh0 := key?_some hh0
      subst ehh0
      have ehh1 := key?_some hh1
      subst ehh1
      rw [← h]
      refine (scaleD_run concFOps k u).trans ?_
      rfl
    · cases h
  · cases h
noncomputable def X_scaleD (o : FOps) : Cx := { X_scaleP o with O := addQ (X_scaleP o).O 71 (lav (g_scaleD o)) }
theorem X_scaleD_ok : CxOK Try.prog (X_scaleD concFOps) := { X_scaleP_ok with quiet := addQ_ok X_scaleP_ok.quiet scaleD_at }
def nineK : K32 := { zeroK with b0 := 9 }
theorem publicP_run (o : FOps) (k : K32) : runNL (X_scaleD o) [] [0,1,2] 200 Try.f67 (bodyOf Try.f67) (laArgs [.v (keyV k)] 0) (laLists [.v (keyV k)]) = some (keyV (scaleO o k nineK), none) := by
  kernel_rfl
def g_publicP (o : FOps) (args : List LA) : Option (AV × Option Blk) := match args with
  | [.v x0] => (match key? x0 with
    | some k => some (keyV (scaleO o k nineK), none)
    | _ => none)
  | _ => none
theorem publicP_at : QuietAt Try.prog 67 (lav (g_publicP concFOps)) := by
  refine quietAt_of_runA X_scaleD_ok (L := []) (keep := [0,1,2]) Try.func67 (c := bodyOf Try.f67) (by kernel_rfl) (by kernel_rfl) (LoopsOK.nil) fun args v h hw => ⟨200, ?_⟩
  unfold g_publicP at h
  split at h
  · rename_i x0
    split at h
    · rename_i k hh0
      have ehh0 := key?_some hh0
      subst ehh0
      rw [← h]
      refine (publicP_run concFOps k).trans ?_
      rfl
    · cases h
  · cases h
noncomputable def X_publicP (o : FOps) : Cx := { X_scaleD o with O := addQ (X_scaleD o).O 67 (lav (g_publicP o)) }
theorem X_publicP_ok : CxOK Try.prog (X_publicP concFOps) := { X_scaleD_ok with quiet := addQ_ok X_scaleD_ok.quiet publicP_at }
theorem nineD_run (o : FOps)  : runNL (X_publicP o) [] [0,1] 200 Try.f114 (bodyOf Try.f114) (laArgs [] 0) (laLists []) = some (keyV nineK, none) := by
  kernel_rfl
def g_nineD (_ : FOps) (args : List LA) : Option (AV × Option Blk) := match args with
  | [] => some (keyV nineK, none)
  | _ => none
theorem nineD_at : QuietAt Try.prog 114 (lav (g_nineD concFOps)) := by
  refine quietAt_of_runA X_publicP_ok (L := []) (keep := [0,1]) Try.func114 (c := bodyOf Try.f114) (by kernel_rfl) (by kernel_rfl) (LoopsOK.nil) fun args v h hw => ⟨200, ?_⟩
  unfold g_nineD at h
  split at h
  · skip
    rw [← h]
    refine (nineD_run concFOps ).trans ?_
    rfl
  · cases h
noncomputable def X_nineD (o : FOps) : Cx := { X_publicP o with O := addQ (X_publicP o).O 114 (lav (g_nineD o)) }
theorem X_nineD_ok : CxOK Try.prog (X_nineD concFOps) := { X_publicP_ok with quiet := addQ_ok X_publicP_ok.quiet nineD_at }
theorem publicD_run (o : FOps) (k : K32) : runNL (X_nineD o) [] [0,1,2] 200 Try.f75 (bodyOf Try.f75) (laArgs [.v (keyV k)] 0) (laLists [.v (keyV k)]) = some (keyV (rscaleO o k nineK), none) := by
  kernel_rfl
def g_publicD (o : FOps) (args : List LA) : Option (AV × Option Blk) := match args with
  | [.v x0] => (match key? x0 with
    | some k => some (keyV (rscaleO o k nineK), none)
    | _ => none)
  | _ => none
theorem publicD_at : QuietAt Try.prog 75 (lav (g_publicD concFOps)) := by
  refine quietAt_of_runA X_nineD_ok (L := []) (keep := [0,1,2]) Try.func75 (c := bodyOf Try.f75) (by kernel_rfl) (by kernel_rfl) (LoopsOK.nil) fun args v h hw => ⟨200, ?_⟩
  unfold g_publicD at h
  split at h
  · rename_i x0
    split at h
    · rename_i k hh0
      have ehh0 := key?_some hh0
      subst ehh0
      rw [← h]
      refine (publicD_run concFOps k).trans ?_
      rfl
    · cases h
  · cases h
noncomputable def X_publicD (o : FOps) : Cx := { X_nineD o with O := addQ (X_nineD o).O 75 (lav (g_publicD o)) }
theorem X_publicD_ok : CxOK Try.prog (X_publicD concFOps) := { X_nineD_ok with quiet := addQ_ok X_nineD_ok.quiet publicD_at }
theorem sharedP_run (o : FOps) (k : K32) (u : K32) : runNL (X_publicD o) [] [0,1,2,3,4,5,6,12] 200 Try.f76 (bodyOf Try.f76) (laArgs [.v (keyV k), .v (keyV u)] 0) (laLists [.v (keyV k), .v (keyV u)]) = bif keyEq (scaleO o k u) zeroK then some (.tup [keyV (scaleO o k u), .n 20], none) else some (.tup [keyV (scaleO o k u), .n 0], none) := by
  kernel_rfl
def g_sharedP (o : FOps) (args : List LA) : Option (AV × Option Blk) := match args with
  | [.v x0, .v x1] => (match key? x0, key? x1 with
    | some k, some u => some (.tup [keyV (scaleO o k u), .n (bif keyEq (scaleO o k u) zeroK then 20 else 0)], none)
    | _, _ => none)
  | _ => none
theorem sharedP_at : QuietAt Try.prog 76 (lav (g_sharedP concFOps)) := by
  refine quietAt_of_runA X_publicD_ok (L := []) (keep := [0,1,2,3,4,5,6,12]) Try.func76 (c := bodyOf Try.f76) (by kernel_rfl) (by kernel_rfl) (LoopsOK.nil) fun args v h hw => ⟨200, ?_⟩
  unfold g_sharedP at h
  split at h
  · rename_i x0 x1
    split at h
    · rename_i k u hh0 hh1
      have ehh0 := key?_some hh0
      subst ehh0
      have ehh1 := key?_some hh1
      subst ehh1
      rw [← h]
      refine (sharedP_run concFOps k u).trans ?_
      cases keyEq (scaleO concFOps k u) zeroK <;> rfl
    · cases h
  · cases h
noncomputable def X_sharedP (o : FOps) : Cx := { X_publicD o with O := addQ (X_publicD o).O 76 (lav (g_sharedP o)) }
theorem X_sharedP_ok : CxOK Try.prog (X_sharedP concFOps) := { X_publicD_ok with quiet := addQ_ok X_publicD_ok.quiet sharedP_at }
theorem sharedD_run (o : FOps) (k : K32) (u : K32) : runNL (X_sharedP o) [] [0,1,2,3,4,5,6,12] 200 Try.f77 (bodyOf Try.f77) (laArgs [.v (keyV k), .v (keyV u)] 0) (laLists [.v (keyV k), .v (keyV u)]) = bif keyEq (rscaleO o k u) zeroK then some (.tup [keyV zeroK, .n 20], none) else some (.tup [keyV (rscaleO o k u), .n 0], none) := by
  kernel_rfl
def g_sharedD (o : FOps) (args : List LA) : Option (AV × Option Blk) := match args with
  | [.v x0, .v x1] => (match key? x0, key? x1 with
    | some k, some u => some (.tup [keyV (bif keyEq (rscaleO o k u) zeroK then zeroK else rscaleO o k u), .n (bif keyEq (rscaleO o k u) zeroK then 20 else 0)], none)
    | _, _ => none)
  | _ => none
theorem sharedD_at : QuietAt Try.prog 77 (lav (g_sharedD concFOps)) := by
  refine quietAt_of_runA X_sharedP_ok (L := []) (keep := [0,1,2,3,4,5,6,12]) Try.func77 (c := bodyOf Try.f77) (by kernel_rfl) (by kernel_rfl) (LoopsOK.nil) fun args v h hw => ⟨200, ?_⟩
  unfold g_sharedD at h
  split at h
  · rename_i x0 x1
    split at h
    · rename_i k u hh0 hh1
      have ehh0 := key?_some hh0
      subst ehh0
      have ehh1 := key?_some hh1
      subst ehh1
      rw [← h]
      refine (sharedD_run concFOps k u).trans ?_
      cases keyEq (rscaleO concFOps k u) zeroK <;> rfl
    · cases h
  · cases h
noncomputable def X_sharedD (o : FOps) : Cx := { X_sharedP o with O := addQ (X_sharedP o).O 77 (lav (g_sharedD o)) }
theorem X_sharedD_ok : CxOK Try.prog (X_sharedD concFOps) := { X_sharedP_ok with quiet := addQ_ok X_sharedP_ok.quiet sharedD_at }
def onX (o : FOps) (x : L5) : L5 := o.add (o.add (o.mul (o.sq x) x) (o.times (o.sq x) 486662)) x
theorem onP_run (o : FOps) (u : K32) : runNL (X_sharedD o) [] [0,1,2,3,4,6] 200 Try.f63 (bodyOf Try.f63) (laArgs [.v (keyV u)] 0) (laLists [.v (keyV u)]) = some (.bool (rootB o (onX o (o.frm u))), none) := by
  kernel_rfl
def g_onP (o : FOps) (args : List LA) : Option (AV × Option Blk) := match args with
  | [.v x0] => (match key? x0 with
    | some u => some (.bool (rootB o (onX o (o.frm u))), none)
    | _ => none)
  | _ => none
theorem onP_at : QuietAt Try.prog 63 (lav (g_onP concFOps)) := by
  refine quietAt_of_runA X_sharedD_ok (L := []) (keep := [0,1,2,3,4,6]) Try.func63 (c := bodyOf Try.f63) (by kernel_rfl) (by kernel_rfl) (LoopsOK.nil) fun args v h hw => ⟨200, ?_⟩
  unfold g_onP at h
  split at h
  · rename_i x0
    split at h
    · rename_i u hh0
      have ehh0 := key?_some hh0
      subst ehh0
      rw [← h]
      refine (onP_run concFOps u).trans ?_
      rfl
    · cases h
  · cases h
noncomputable def X_onP (o : FOps) : Cx := { X_sharedD o with O := addQ (X_sharedD o).O 63 (lav (g_onP o)) }
theorem X_onP_ok : CxOK Try.prog (X_onP concFOps) := { X_sharedD_ok with quiet := addQ_ok X_sharedD_ok.quiet onP_at }
def curveX (o : FOps) (x : L4) : L4 := o.rmul x (o.radd (o.radd (o.rsq x) (o.rmul (o.rsmall 486662) x)) (o.rsmall 1))
theorem curveD_run (o : FOps) (x : L4) : runNL (X_onP o) [] [0,1,2] 200 Try.f103 (bodyOf Try.f103) (laArgs [.v (rnumV x)] 0) (laLists [.v (rnumV x)]) = some (rnumV (curveX o x), none) := by
  kernel_rfl
def g_curveD (o : FOps) (args : List LA) : Option (AV × Option Blk) := match args with
  | [.v x0] => (match rnum? x0 with
    | some x => some (rnumV (curveX o x), none)
    | _ => none)
  | _ => none
theorem curveD_at : QuietAt Try.prog 103 (lav (g_curveD concFOps)) := by
  refine quietAt_of_runA X_onP_ok (L := []) (keep := [0,1,2]) Try.func103 (c := bodyOf Try.f103) (by kernel_rfl) (by kernel_rfl) (LoopsOK.nil) fun args v h hw => ⟨200, ?_⟩
  unfold g_curveD at h
  split at h
  · rename_i x0
    split at h
    · rename_i x hh0
      have ehh0 := rnum?_some hh0
      subst ehh0
      rw [← h]
      refine (curveD_run concFOps x).trans ?_
      rfl
    · cases h
  · cases h
noncomputable def X_curveD (o : FOps) : Cx := { X_onP o with O := addQ (X_onP o).O 103 (lav (g_curveD o)) }
theorem X_curveD_ok : CxOK Try.prog (X_curveD concFOps) := { X_onP_ok with quiet := addQ_ok X_onP_ok.quiet curveD_at }
theorem onD_run (o : FOps) (u : K32) : runNL (X_curveD o) [] [0,1,2,4] 200 Try.f64 (bodyOf Try.f64) (laArgs [.v (keyV u)] 0) (laLists [.v (keyV u)]) = some (.bool (rrootB o (curveX o (o.rfrm u))), none) := by
  kernel_rfl
def g_onD (o : FOps) (args : List LA) : Option (AV × Option Blk) := match args with
  | [.v x0] => (match key? x0 with
    | some u => some (.bool (rrootB o (curveX o (o.rfrm u))), none)
    | _ => none)
  | _ => none
theorem onD_at : QuietAt Try.prog 64 (lav (g_onD concFOps)) := by
  refine quietAt_of_runA X_curveD_ok (L := []) (keep := [0,1,2,4]) Try.func64 (c := bodyOf Try.f64) (by kernel_rfl) (by kernel_rfl) (LoopsOK.nil) fun args v h hw => ⟨200, ?_⟩
  unfold g_onD at h
  split at h
  · rename_i x0
    split at h
    · rename_i u hh0
      have ehh0 := key?_some hh0
      subst ehh0
      rw [← h]
      refine (onD_run concFOps u).trans ?_
      rfl
    · cases h
  · cases h
noncomputable def X_onD (o : FOps) : Cx := { X_curveD o with O := addQ (X_curveD o).O 64 (lav (g_onD o)) }
theorem X_onD_ok : CxOK Try.prog (X_onD concFOps) := { X_curveD_ok with quiet := addQ_ok X_curveD_ok.quiet onD_at }
end Go.Proofs.Ytfajgpjpabeafaa

