/- The points of layer 19, of the document, walked (1). -/
import Derived.Test.YtpmbfepkdjkheaaGreatPa
import Derived.Test.YtpmbfepkdjkheaaGreatPwMd
namespace Go.Proofs.YtpmbfepkdjkheaaGreat
open Go Pw Go.RowKit
def dR (o : FOps) : L4 := o.rfrm dKey
def neuR (o : FOps) : Pt3 := ⟨zeroR, o.rsmall 1, o.rsmall 1⟩
theorem rD_run (o : FOps)  : runNL (X_ptSmall o) [] [0] 200 Tryz.f112 (bodyOf Tryz.f112) (laArgs [] 0) (laLists []) = some (rnumV (dR o), none) := by
  kernel_rfl
def g_rD (o : FOps) (args : List LA) : Option (AV × Option Blk) := match args with
  | [] => some (rnumV (dR o), none)
  | _ => none
theorem rD_at : QuietAt Tryz.prog 112 (lav (g_rD concFOps)) := by
  refine quietAt_of_runA X_ptSmall_ok (L := []) (keep := [0]) Tryz.func112 (c := bodyOf Tryz.f112) (by kernel_rfl) (by kernel_rfl) (LoopsOK.nil) fun args v h hw => ⟨200, ?_⟩
  unfold g_rD at h
  split at h
  · skip
    rw [← h]
    refine (rD_run concFOps ).trans ?_
    rfl
  · cases h
noncomputable def X_rD (o : FOps) : Cx := { X_ptSmall o with O := addQ (X_ptSmall o).O 112 (lav (g_rD o)) }
theorem X_rD_ok : CxOK Tryz.prog (X_rD concFOps) := { X_ptSmall_ok with quiet := addQ_ok X_ptSmall_ok.quiet rD_at }
theorem rNeu_run (o : FOps)  : runNL (X_rD o) [] [0] 200 Tryz.f8 (bodyOf Tryz.f8) (laArgs [] 0) (laLists []) = some (pt3V (neuR o), none) := by
  kernel_rfl
def g_rNeu (o : FOps) (args : List LA) : Option (AV × Option Blk) := match args with
  | [] => some (pt3V (neuR o), none)
  | _ => none
theorem rNeu_at : QuietAt Tryz.prog 8 (lav (g_rNeu concFOps)) := by
  refine quietAt_of_runA X_rD_ok (L := []) (keep := [0]) Tryz.func8 (c := bodyOf Tryz.f8) (by kernel_rfl) (by kernel_rfl) (LoopsOK.nil) fun args v h hw => ⟨200, ?_⟩
  unfold g_rNeu at h
  split at h
  · skip
    rw [← h]
    refine (rNeu_run concFOps ).trans ?_
    rfl
  · cases h
noncomputable def X_rNeu (o : FOps) : Cx := { X_rD o with O := addQ (X_rD o).O 8 (lav (g_rNeu o)) }
theorem X_rNeu_ok : CxOK Tryz.prog (X_rNeu concFOps) := { X_rD_ok with quiet := addQ_ok X_rD_ok.quiet rNeu_at }
def xwR (o : FOps) (y : L4) : L4 := o.rmul (o.rsub (o.rsq y) (o.rsmall 1)) (rinvO o (o.radd (o.rmul (dR o) (o.rsq y)) (o.rsmall 1)))
def rtR (o : FOps) (y : L4) : L4 := rrootO o (xwR o y)
def okR (o : FOps) (y : L4) : Bool := rrootB o (xwR o y)
noncomputable def oxE (o : FOps) (y : L4) (odd : Bool) : Option (AV × Option Blk) := brn (!(o.rodd (rtR o y) == odd)) (some (.tup [rnumV (o.rneg (rtR o y)), .bool true], none)) (some (.tup [rnumV (rtR o y), .bool true], none))
def oxF : Option (AV × Option Blk) := some (.tup [rnumV zeroR, .bool false], none)
noncomputable def oxT (o : FOps) (y : L4) (odd : Bool) : Option (AV × Option Blk) := brn (!okR o y) oxF (brn (o.risZero (rtR o y)) (brn odd oxF (oxE o y odd)) (oxE o y odd))
def onB (o : FOps) (y : L4) (odd : Bool) : Bool := okR o y && !(odd && o.risZero (rtR o y))
def onV (o : FOps) (y : L4) (odd : Bool) : L4 := bif onB o y odd then (bif o.rodd (rtR o y) == odd then rtR o y else o.rneg (rtR o y)) else zeroR
theorem oxT_eq (o : FOps) (y : L4) (odd : Bool) : oxT o y odd = some (.tup [rnumV (onV o y odd), .bool (onB o y odd)], none) := by
  unfold oxT oxE onV onB
  generalize okR o y = c
  generalize o.risZero (rtR o y) = z
  generalize (o.rodd (rtR o y) == odd) = e
  cases c <;> cases odd <;> cases z <;> cases e <;> rfl
theorem rOnX_run (o : FOps) (y : L4) (odd : Bool) : runNL (X_rNeu o) [] [0,1,2,4,5,6,7,8,9,30,31,32,33,34,35,40] 200 Tryz.f105 (bodyOf Tryz.f105) (laArgs [.v (rnumV y), .v (.bool odd)] 0) (laLists [.v (rnumV y), .v (.bool odd)]) = oxT o y odd := by
  kernel_rfl
def g_rOnX (o : FOps) (args : List LA) : Option (AV × Option Blk) := match args with
  | [.v x0, .v x1] => (match rnum? x0, bool? x1 with
    | some y, some odd => some (.tup [rnumV (onV o y odd), .bool (onB o y odd)], none)
    | _, _ => none)
  | _ => none
theorem rOnX_at : QuietAt Tryz.prog 105 (lav (g_rOnX concFOps)) := by
  refine quietAt_of_runA X_rNeu_ok (L := []) (keep := [0,1,2,4,5,6,7,8,9,30,31,32,33,34,35,40]) Tryz.func105 (c := bodyOf Tryz.f105) (by kernel_rfl) (by kernel_rfl) (LoopsOK.nil) fun args v h hw => ⟨200, ?_⟩
  unfold g_rOnX at h
  split at h
  · rename_i x0 x1
    split at h
    · rename_i y odd hh0 hh1
      have ehh0 := rnum?_some hh0
      subst ehh0
      have ehh1 := bool?_some hh1
      subst ehh1
      rw [← h]
      refine (rOnX_run concFOps y odd).trans ?_
      exact oxT_eq concFOps y odd
    · cases h
  · cases h
noncomputable def X_rOnX (o : FOps) : Cx := { X_rNeu o with O := addQ (X_rNeu o).O 105 (lav (g_rOnX o)) }
theorem X_rOnX_ok : CxOK Tryz.prog (X_rOnX concFOps) := { X_rNeu_ok with quiet := addQ_ok X_rNeu_ok.quiet rOnX_at }
theorem rBase_run (o : FOps)  : runNL (X_rOnX o) [] [0,1,2,3,6] 400 Tryz.f27 (bodyOf Tryz.f27) (laArgs [] 0) (laLists []) = some (pt3V ⟨o.rfrm bxKey, o.rfrm byKey, o.rsmall 1⟩, none) := by
  kernel_rfl
def g_rBase (o : FOps) (args : List LA) : Option (AV × Option Blk) := match args with
  | [] => some (pt3V ⟨o.rfrm bxKey, o.rfrm byKey, o.rsmall 1⟩, none)
  | _ => none
theorem rBase_at : QuietAt Tryz.prog 27 (lav (g_rBase concFOps)) := by
  refine quietAt_of_runA X_rOnX_ok (L := []) (keep := [0,1,2,3,6]) Tryz.func27 (c := bodyOf Tryz.f27) (by kernel_rfl) (by kernel_rfl) (LoopsOK.nil) fun args v h hw => ⟨400, ?_⟩
  unfold g_rBase at h
  split at h
  · skip
    rw [← h]
    refine (rBase_run concFOps ).trans ?_
    rfl
  · cases h
noncomputable def X_rBase (o : FOps) : Cx := { X_rOnX o with O := addQ (X_rOnX o).O 27 (lav (g_rBase o)) }
theorem X_rBase_ok : CxOK Tryz.prog (X_rBase concFOps) := { X_rOnX_ok with quiet := addQ_ok X_rOnX_ok.quiet rBase_at }
def mask2 (k : K32) : K32 := { k with b31 := k.b31 % 128 }
def hi2 (k : K32) : Bool := decide (128 ≤ k.b31)
def pyR (o : FOps) (k : K32) : L4 := o.rfrm (mask2 k)
def rparseB (o : FOps) (k : K32) : Bool := keyEq (o.rbytes (pyR o k)) (mask2 k) && onB o (pyR o k) (hi2 k)
def rparseV (o : FOps) (k : K32) : Pt3 := bif rparseB o k then ⟨onV o (pyR o k) (hi2 k), pyR o k, o.rsmall 1⟩ else neuR o
def rtF (o : FOps) (n : Int) : Option (AV × Option Blk) := some (.tup [pt3V (neuR o), .n n], none)
noncomputable def rpaT (o : FOps) (k : K32) : Option (AV × Option Blk) := brn (!keyEq (o.rbytes (pyR o k)) (mask2 k)) (rtF o 190) (brn (!onB o (pyR o k) (hi2 k)) (rtF o 190) (some (.tup [pt3V ⟨onV o (pyR o k) (hi2 k), pyR o k, o.rsmall 1⟩, .n 0], none)))
theorem rpaT_eq (o : FOps) (k : K32) : rpaT o k = some (.tup [pt3V (rparseV o k), .n (bif rparseB o k then 0 else 190)], none) := by
  unfold rpaT rparseV rparseB
  cases keyEq (o.rbytes (pyR o k)) (mask2 k) <;> cases onB o (pyR o k) (hi2 k) <;> rfl
theorem rParse_run (o : FOps) (k : K32) : runNL (X_rBase o) [] [0,1,2,3,4,5,6,7,20,29] 200 Tryz.f41 (bodyOf Tryz.f41) (laArgs [.v (keyV k)] 0) (laLists [.v (keyV k)]) = rpaT o k := by
  kernel_rfl
def g_rParse (o : FOps) (args : List LA) : Option (AV × Option Blk) := match args with
  | [.v x0] => (match key? x0 with
    | some k => some (.tup [pt3V (rparseV o k), .n (bif rparseB o k then 0 else 190)], none)
    | _ => none)
  | _ => none
theorem rParse_at : QuietAt Tryz.prog 41 (lav (g_rParse concFOps)) := by
  refine quietAt_of_runA X_rBase_ok (L := []) (keep := [0,1,2,3,4,5,6,7,20,29]) Tryz.func41 (c := bodyOf Tryz.f41) (by kernel_rfl) (by kernel_rfl) (LoopsOK.nil) fun args v h hw => ⟨200, ?_⟩
  unfold g_rParse at h
  split at h
  · rename_i x0
    split at h
    · rename_i k hh0
      have ehh0 := key?_some hh0
      subst ehh0
      rw [← h]
      refine (rParse_run concFOps k).trans ?_
      exact rpaT_eq concFOps k
    · cases h
  · cases h
noncomputable def X_rParse (o : FOps) : Cx := { X_rBase o with O := addQ (X_rBase o).O 41 (lav (g_rParse o)) }
theorem X_rParse_ok : CxOK Tryz.prog (X_rParse concFOps) := { X_rBase_ok with quiet := addQ_ok X_rBase_ok.quiet rParse_at }
def lwR (o : FOps) (u : K32) : L4 := o.radd (o.rfrm u) (o.rsmall 1)
def lyR (o : FOps) (u : K32) : L4 := o.rmul (o.rsub (o.rfrm u) (o.rsmall 1)) (rinvO o (lwR o u))
def rliftB (o : FOps) (u : K32) (odd : Bool) : Bool := !o.risZero (lwR o u) && onB o (lyR o u) odd
def rliftV (o : FOps) (u : K32) (odd : Bool) : Pt3 := bif rliftB o u odd then ⟨onV o (lyR o u) odd, lyR o u, o.rsmall 1⟩ else neuR o
noncomputable def rliT (o : FOps) (u : K32) (odd : Bool) : Option (AV × Option Blk) := brn (o.risZero (lwR o u)) (rtF o 190) (brn (!onB o (lyR o u) odd) (rtF o 190) (some (.tup [pt3V ⟨onV o (lyR o u) odd, lyR o u, o.rsmall 1⟩, .n 0], none)))
theorem rliT_eq (o : FOps) (u : K32) (odd : Bool) : rliT o u odd = some (.tup [pt3V (rliftV o u odd), .n (bif rliftB o u odd then 0 else 190)], none) := by
  unfold rliT rliftV rliftB
  cases o.risZero (lwR o u) <;> cases onB o (lyR o u) odd <;> rfl
theorem rLift_run (o : FOps) (u : K32) (odd : Bool) : runNL (X_rParse o) [] [0,1,2,4,5,6,7,8,9,10,17,32] 200 Tryz.f43 (bodyOf Tryz.f43) (laArgs [.v (keyV u), .v (.bool odd)] 0) (laLists [.v (keyV u), .v (.bool odd)]) = rliT o u odd := by
  kernel_rfl
def g_rLift (o : FOps) (args : List LA) : Option (AV × Option Blk) := match args with
  | [.v x0, .v x1] => (match key? x0, bool? x1 with
    | some u, some odd => some (.tup [pt3V (rliftV o u odd), .n (bif rliftB o u odd then 0 else 190)], none)
    | _, _ => none)
  | _ => none
theorem rLift_at : QuietAt Tryz.prog 43 (lav (g_rLift concFOps)) := by
  refine quietAt_of_runA X_rParse_ok (L := []) (keep := [0,1,2,4,5,6,7,8,9,10,17,32]) Tryz.func43 (c := bodyOf Tryz.f43) (by kernel_rfl) (by kernel_rfl) (LoopsOK.nil) fun args v h hw => ⟨200, ?_⟩
  unfold g_rLift at h
  split at h
  · rename_i x0 x1
    split at h
    · rename_i u odd hh0 hh1
      have ehh0 := key?_some hh0
      subst ehh0
      have ehh1 := bool?_some hh1
      subst ehh1
      rw [← h]
      refine (rLift_run concFOps u odd).trans ?_
      exact rliT_eq concFOps u odd
    · cases h
  · cases h
noncomputable def X_rLift (o : FOps) : Cx := { X_rParse o with O := addQ (X_rParse o).O 43 (lav (g_rLift o)) }
theorem X_rLift_ok : CxOK Tryz.prog (X_rLift concFOps) := { X_rParse_ok with quiet := addQ_ok X_rParse_ok.quiet rLift_at }
def setHi2 (k : K32) : K32 := { k with b31 := (k.b31 + 128) % 2 ^ 8 }
def rplX (o : FOps) (p : Pt3) : L4 := o.rmul p.a (rinvO o p.c)
def rplY (o : FOps) (p : Pt3) : L4 := o.rmul p.b (rinvO o p.c)
def rbytO (o : FOps) (p : Pt3) : K32 := bif o.rodd (rplX o p) then setHi2 (o.rbytes (rplY o p)) else o.rbytes (rplY o p)
theorem rBytes_run (o : FOps) (p : Pt3) : runNL (X_rLift o) [] [0,1,2,3,4,17] 200 Tryz.f13 (bodyOf Tryz.f13) (laArgs [.v (pt3V p)] 0) (laLists [.v (pt3V p)]) = brn (o.rodd (rplX o p)) (some (keyV (setHi2 (o.rbytes (rplY o p))), none)) (some (keyV (o.rbytes (rplY o p)), none)) := by
  kernel_rfl
def g_rBytes (o : FOps) (args : List LA) : Option (AV × Option Blk) := match args with
  | [.v x0] => (match pt3? x0 with
    | some p => some (keyV (rbytO o p), none)
    | _ => none)
  | _ => none
theorem rBytes_at : QuietAt Tryz.prog 13 (lav (g_rBytes concFOps)) := by
  refine quietAt_of_runA X_rLift_ok (L := []) (keep := [0,1,2,3,4,17]) Tryz.func13 (c := bodyOf Tryz.f13) (by kernel_rfl) (by kernel_rfl) (LoopsOK.nil) fun args v h hw => ⟨200, ?_⟩
  unfold g_rBytes at h
  split at h
  · rename_i x0
    split at h
    · rename_i p hh0
      have ehh0 := pt3?_some hh0
      subst ehh0
      rw [← h]
      refine (rBytes_run concFOps p).trans ?_
      unfold rbytO
      cases concFOps.rodd (rplX concFOps p) <;> rfl
    · cases h
  · cases h
noncomputable def X_rBytes (o : FOps) : Cx := { X_rLift o with O := addQ (X_rLift o).O 13 (lav (g_rBytes o)) }
theorem X_rBytes_ok : CxOK Tryz.prog (X_rBytes concFOps) := { X_rLift_ok with quiet := addQ_ok X_rLift_ok.quiet rBytes_at }
def ruO (o : FOps) (p : Pt3) : K32 := o.rbytes (o.rmul (o.radd p.c p.b) (rinvO o (o.rsub p.c p.b)))
theorem rU_run (o : FOps) (p : Pt3) : runNL (X_rBytes o) [] [0,1,2] 200 Tryz.f15 (bodyOf Tryz.f15) (laArgs [.v (pt3V p)] 0) (laLists [.v (pt3V p)]) = some (keyV (ruO o p), none) := by
  kernel_rfl
def g_rU (o : FOps) (args : List LA) : Option (AV × Option Blk) := match args with
  | [.v x0] => (match pt3? x0 with
    | some p => some (keyV (ruO o p), none)
    | _ => none)
  | _ => none
theorem rU_at : QuietAt Tryz.prog 15 (lav (g_rU concFOps)) := by
  refine quietAt_of_runA X_rBytes_ok (L := []) (keep := [0,1,2]) Tryz.func15 (c := bodyOf Tryz.f15) (by kernel_rfl) (by kernel_rfl) (LoopsOK.nil) fun args v h hw => ⟨200, ?_⟩
  unfold g_rU at h
  split at h
  · rename_i x0
    split at h
    · rename_i p hh0
      have ehh0 := pt3?_some hh0
      subst ehh0
      rw [← h]
      refine (rU_run concFOps p).trans ?_
      rfl
    · cases h
  · cases h
noncomputable def X_rU (o : FOps) : Cx := { X_rBytes o with O := addQ (X_rBytes o).O 15 (lav (g_rU o)) }
theorem X_rU_ok : CxOK Tryz.prog (X_rU concFOps) := { X_rBytes_ok with quiet := addQ_ok X_rBytes_ok.quiet rU_at }
def raA (o : FOps) (p q : Pt3) : L4 := o.rmul p.c q.c
def raC (o : FOps) (p q : Pt3) : L4 := o.rmul p.a q.a
def raD (o : FOps) (p q : Pt3) : L4 := o.rmul p.b q.b
def raE (o : FOps) (p q : Pt3) (d : L4) : L4 := o.rmul (o.rmul d (raC o p q)) (raD o p q)
def raF (o : FOps) (p q : Pt3) (d : L4) : L4 := o.rsub (o.rsq (raA o p q)) (raE o p q d)
def raG (o : FOps) (p q : Pt3) (d : L4) : L4 := o.radd (o.rsq (raA o p q)) (raE o p q d)
def raX (o : FOps) (p q : Pt3) : L4 := o.radd (o.rmul p.a q.b) (o.rmul p.b q.a)
def raddO (o : FOps) (p q : Pt3) (d : L4) : Pt3 := ⟨o.rmul (o.rmul (raA o p q) (raF o p q d)) (raX o p q), o.rmul (o.rmul (raA o p q) (raG o p q d)) (o.radd (raD o p q) (raC o p q)), o.rmul (raF o p q d) (raG o p q d)⟩
theorem rAdd_run (o : FOps) (p : Pt3) (q : Pt3) : runNL (X_rU o) [] [0,1,2,3,4,5,6,7,8,9,10,11,12] 200 Tryz.f45 (bodyOf Tryz.f45) (laArgs [.v (pt3V p), .v (pt3V q)] 0) (laLists [.v (pt3V p), .v (pt3V q)]) = some (pt3V (raddO o p q (dR o)), none) := by
  kernel_rfl
def g_rAdd (o : FOps) (args : List LA) : Option (AV × Option Blk) := match args with
  | [.v x0, .v x1] => (match pt3? x0, pt3? x1 with
    | some p, some q => some (pt3V (raddO o p q (dR o)), none)
    | _, _ => none)
  | _ => none
theorem rAdd_at : QuietAt Tryz.prog 45 (lav (g_rAdd concFOps)) := by
  refine quietAt_of_runA X_rU_ok (L := []) (keep := [0,1,2,3,4,5,6,7,8,9,10,11,12]) Tryz.func45 (c := bodyOf Tryz.f45) (by kernel_rfl) (by kernel_rfl) (LoopsOK.nil) fun args v h hw => ⟨200, ?_⟩
  unfold g_rAdd at h
  split at h
  · rename_i x0 x1
    split at h
    · rename_i p q hh0 hh1
      have ehh0 := pt3?_some hh0
      subst ehh0
      have ehh1 := pt3?_some hh1
      subst ehh1
      rw [← h]
      refine (rAdd_run concFOps p q).trans ?_
      rfl
    · cases h
  · cases h
noncomputable def X_rAdd (o : FOps) : Cx := { X_rU o with O := addQ (X_rU o).O 45 (lav (g_rAdd o)) }
theorem X_rAdd_ok : CxOK Tryz.prog (X_rAdd concFOps) := { X_rU_ok with quiet := addQ_ok X_rU_ok.quiet rAdd_at }
theorem rAdd1_run (o : FOps) (p : Pt3) (q : Pt3) (d : L4) : runNL (X_rAdd o) [] [0,1,2,3,4,5,6,7,8,9,10,11,12,13,14] 200 Tryz.f117 (bodyOf Tryz.f117) (laArgs [.v (pt3V p), .v (pt3V q), .v (rnumV d)] 0) (laLists [.v (pt3V p), .v (pt3V q), .v (rnumV d)]) = some (pt3V (raddO o p q d), none) := by
  kernel_rfl
def g_rAdd1 (o : FOps) (args : List LA) : Option (AV × Option Blk) := match args with
  | [.v x0, .v x1, .v x2] => (match pt3? x0, pt3? x1, rnum? x2 with
    | some p, some q, some d => some (pt3V (raddO o p q d), none)
    | _, _, _ => none)
  | _ => none
theorem rAdd1_at : QuietAt Tryz.prog 117 (lav (g_rAdd1 concFOps)) := by
  refine quietAt_of_runA X_rAdd_ok (L := []) (keep := [0,1,2,3,4,5,6,7,8,9,10,11,12,13,14]) Tryz.func117 (c := bodyOf Tryz.f117) (by kernel_rfl) (by kernel_rfl) (LoopsOK.nil) fun args v h hw => ⟨200, ?_⟩
  unfold g_rAdd1 at h
  split at h
  · rename_i x0 x1 x2
    split at h
    · rename_i p q d hh0 hh1 hh2
      have ehh0 := pt3?_some hh0
      subst ehh0
      have ehh1 := pt3?_some hh1
      subst ehh1
      have ehh2 := rnum?_some hh2
      subst ehh2
      rw [← h]
      refine (rAdd1_run concFOps p q d).trans ?_
      rfl
    · cases h
  · cases h
noncomputable def X_rAdd1 (o : FOps) : Cx := { X_rAdd o with O := addQ (X_rAdd o).O 117 (lav (g_rAdd1 o)) }
theorem X_rAdd1_ok : CxOK Tryz.prog (X_rAdd1 concFOps) := { X_rAdd_ok with quiet := addQ_ok X_rAdd_ok.quiet rAdd1_at }
def rwF (o : FOps) (p : Pt3) : L4 := o.rsub (o.rsq p.b) (o.rsq p.a)
def rwG (o : FOps) (p : Pt3) : L4 := o.rsub (o.radd (o.rsq p.c) (o.rsq p.c)) (rwF o p)
def rwO (o : FOps) (p : Pt3) : Pt3 := ⟨o.rmul (o.radd (o.rmul p.a p.b) (o.rmul p.a p.b)) (rwG o p), o.rmul (o.radd (o.rsq p.b) (o.rsq p.a)) (rwF o p), o.rmul (rwF o p) (rwG o p)⟩
theorem rTwice_run (o : FOps) (p : Pt3) : runNL (X_rAdd1 o) [] [0,1,2,3,4,5,6,7,8] 200 Tryz.f116 (bodyOf Tryz.f116) (laArgs [.v (pt3V p)] 0) (laLists [.v (pt3V p)]) = some (pt3V (rwO o p), none) := by
  kernel_rfl
def g_rTwice (o : FOps) (args : List LA) : Option (AV × Option Blk) := match args with
  | [.v x0] => (match pt3? x0 with
    | some p => some (pt3V (rwO o p), none)
    | _ => none)
  | _ => none
theorem rTwice_at : QuietAt Tryz.prog 116 (lav (g_rTwice concFOps)) := by
  refine quietAt_of_runA X_rAdd1_ok (L := []) (keep := [0,1,2,3,4,5,6,7,8]) Tryz.func116 (c := bodyOf Tryz.f116) (by kernel_rfl) (by kernel_rfl) (LoopsOK.nil) fun args v h hw => ⟨200, ?_⟩
  unfold g_rTwice at h
  split at h
  · rename_i x0
    split at h
    · rename_i p hh0
      have ehh0 := pt3?_some hh0
      subst ehh0
      rw [← h]
      refine (rTwice_run concFOps p).trans ?_
      rfl
    · cases h
  · cases h
noncomputable def X_rTwice (o : FOps) : Cx := { X_rAdd1 o with O := addQ (X_rAdd1 o).O 116 (lav (g_rTwice o)) }
theorem X_rTwice_ok : CxOK Tryz.prog (X_rTwice concFOps) := { X_rAdd1_ok with quiet := addQ_ok X_rAdd1_ok.quiet rTwice_at }
def rnegO (o : FOps) (p : Pt3) : Pt3 := ⟨o.rneg p.a, p.b, p.c⟩
theorem rNeg_run (o : FOps) (p : Pt3) : runNL (X_rTwice o) [] [0,1,2] 200 Tryz.f49 (bodyOf Tryz.f49) (laArgs [.v (pt3V p)] 0) (laLists [.v (pt3V p)]) = some (pt3V (rnegO o p), none) := by
  kernel_rfl
def g_rNeg (o : FOps) (args : List LA) : Option (AV × Option Blk) := match args with
  | [.v x0] => (match pt3? x0 with
    | some p => some (pt3V (rnegO o p), none)
    | _ => none)
  | _ => none
theorem rNeg_at : QuietAt Tryz.prog 49 (lav (g_rNeg concFOps)) := by
  refine quietAt_of_runA X_rTwice_ok (L := []) (keep := [0,1,2]) Tryz.func49 (c := bodyOf Tryz.f49) (by kernel_rfl) (by kernel_rfl) (LoopsOK.nil) fun args v h hw => ⟨200, ?_⟩
  unfold g_rNeg at h
  split at h
  · rename_i x0
    split at h
    · rename_i p hh0
      have ehh0 := pt3?_some hh0
      subst ehh0
      rw [← h]
      refine (rNeg_run concFOps p).trans ?_
      rfl
    · cases h
  · cases h
noncomputable def X_rNeg (o : FOps) : Cx := { X_rTwice o with O := addQ (X_rTwice o).O 49 (lav (g_rNeg o)) }
theorem X_rNeg_ok : CxOK Tryz.prog (X_rNeg concFOps) := { X_rTwice_ok with quiet := addQ_ok X_rTwice_ok.quiet rNeg_at }
theorem rSub_run (o : FOps) (p : Pt3) (q : Pt3) : runNL (X_rNeg o) [] [0,1,2,3,4] 200 Tryz.f47 (bodyOf Tryz.f47) (laArgs [.v (pt3V p), .v (pt3V q)] 0) (laLists [.v (pt3V p), .v (pt3V q)]) = some (pt3V (raddO o p (rnegO o q) (dR o)), none) := by
  kernel_rfl
def g_rSub (o : FOps) (args : List LA) : Option (AV × Option Blk) := match args with
  | [.v x0, .v x1] => (match pt3? x0, pt3? x1 with
    | some p, some q => some (pt3V (raddO o p (rnegO o q) (dR o)), none)
    | _, _ => none)
  | _ => none
theorem rSub_at : QuietAt Tryz.prog 47 (lav (g_rSub concFOps)) := by
  refine quietAt_of_runA X_rNeg_ok (L := []) (keep := [0,1,2,3,4]) Tryz.func47 (c := bodyOf Tryz.f47) (by kernel_rfl) (by kernel_rfl) (LoopsOK.nil) fun args v h hw => ⟨200, ?_⟩
  unfold g_rSub at h
  split at h
  · rename_i x0 x1
    split at h
    · rename_i p q hh0 hh1
      have ehh0 := pt3?_some hh0
      subst ehh0
      have ehh1 := pt3?_some hh1
      subst ehh1
      rw [← h]
      refine (rSub_run concFOps p q).trans ?_
      rfl
    · cases h
  · cases h
noncomputable def X_rSub (o : FOps) : Cx := { X_rNeg o with O := addQ (X_rNeg o).O 47 (lav (g_rSub o)) }
theorem X_rSub_ok : CxOK Tryz.prog (X_rSub concFOps) := { X_rNeg_ok with quiet := addQ_ok X_rNeg_ok.quiet rSub_at }
def rdblO (o : FOps) (p : Pt3) : Pt3 := raddO o p p (dR o)
theorem rDouble_run (o : FOps) (p : Pt3) : runNL (X_rSub o) [] [0,1,2] 200 Tryz.f51 (bodyOf Tryz.f51) (laArgs [.v (pt3V p)] 0) (laLists [.v (pt3V p)]) = some (pt3V (rdblO o p), none) := by
  kernel_rfl
def g_rDouble (o : FOps) (args : List LA) : Option (AV × Option Blk) := match args with
  | [.v x0] => (match pt3? x0 with
    | some p => some (pt3V (rdblO o p), none)
    | _ => none)
  | _ => none
theorem rDouble_at : QuietAt Tryz.prog 51 (lav (g_rDouble concFOps)) := by
  refine quietAt_of_runA X_rSub_ok (L := []) (keep := [0,1,2]) Tryz.func51 (c := bodyOf Tryz.f51) (by kernel_rfl) (by kernel_rfl) (LoopsOK.nil) fun args v h hw => ⟨200, ?_⟩
  unfold g_rDouble at h
  split at h
  · rename_i x0
    split at h
    · rename_i p hh0
      have ehh0 := pt3?_some hh0
      subst ehh0
      rw [← h]
      refine (rDouble_run concFOps p).trans ?_
      rfl
    · cases h
  · cases h
noncomputable def X_rDouble (o : FOps) : Cx := { X_rSub o with O := addQ (X_rSub o).O 51 (lav (g_rDouble o)) }
theorem X_rDouble_ok : CxOK Tryz.prog (X_rDouble concFOps) := { X_rSub_ok with quiet := addQ_ok X_rSub_ok.quiet rDouble_at }
def reqX (o : FOps) (p q : Pt3) : Bool := o.requal (o.rmul p.a q.c) (o.rmul q.a p.c)
def reqY (o : FOps) (p q : Pt3) : Bool := o.requal (o.rmul p.b q.c) (o.rmul q.b p.c)
theorem rEqual_run (o : FOps) (p : Pt3) (q : Pt3) : runNL (X_rDouble o) [] [0,1,2,3,4,17,18,19,20,21,22,23,24,25,26,27] 200 Tryz.f17 (bodyOf Tryz.f17) (laArgs [.v (pt3V p), .v (pt3V q)] 0) (laLists [.v (pt3V p), .v (pt3V q)]) = brn (reqX o p q) (some (.bool (reqY o p q), none)) (some (.bool false, none)) := by
  kernel_rfl
def g_rEqual (o : FOps) (args : List LA) : Option (AV × Option Blk) := match args with
  | [.v x0, .v x1] => (match pt3? x0, pt3? x1 with
    | some p, some q => some (.bool (reqX o p q && reqY o p q), none)
    | _, _ => none)
  | _ => none
theorem rEqual_at : QuietAt Tryz.prog 17 (lav (g_rEqual concFOps)) := by
  refine quietAt_of_runA X_rDouble_ok (L := []) (keep := [0,1,2,3,4,17,18,19,20,21,22,23,24,25,26,27]) Tryz.func17 (c := bodyOf Tryz.f17) (by kernel_rfl) (by kernel_rfl) (LoopsOK.nil) fun args v h hw => ⟨200, ?_⟩
  unfold g_rEqual at h
  split at h
  · rename_i x0 x1
    split at h
    · rename_i p q hh0 hh1
      have ehh0 := pt3?_some hh0
      subst ehh0
      have ehh1 := pt3?_some hh1
      subst ehh1
      rw [← h]
      refine (rEqual_run concFOps p q).trans ?_
      cases reqX concFOps p q <;> rfl
    · cases h
  · cases h
noncomputable def X_rEqual (o : FOps) : Cx := { X_rDouble o with O := addQ (X_rDouble o).O 17 (lav (g_rEqual o)) }
theorem X_rEqual_ok : CxOK Tryz.prog (X_rEqual concFOps) := { X_rDouble_ok with quiet := addQ_ok X_rDouble_ok.quiet rEqual_at }
def risnO (o : FOps) (p : Pt3) : Bool := reqX o p (neuR o) && reqY o p (neuR o)
theorem rIsN_run (o : FOps) (p : Pt3) : runNL (X_rEqual o) [] [0,1,2] 200 Tryz.f19 (bodyOf Tryz.f19) (laArgs [.v (pt3V p)] 0) (laLists [.v (pt3V p)]) = some (.bool (risnO o p), none) := by
  kernel_rfl
def g_rIsN (o : FOps) (args : List LA) : Option (AV × Option Blk) := match args with
  | [.v x0] => (match pt3? x0 with
    | some p => some (.bool (risnO o p), none)
    | _ => none)
  | _ => none
theorem rIsN_at : QuietAt Tryz.prog 19 (lav (g_rIsN concFOps)) := by
  refine quietAt_of_runA X_rEqual_ok (L := []) (keep := [0,1,2]) Tryz.func19 (c := bodyOf Tryz.f19) (by kernel_rfl) (by kernel_rfl) (LoopsOK.nil) fun args v h hw => ⟨200, ?_⟩
  unfold g_rIsN at h
  split at h
  · rename_i x0
    split at h
    · rename_i p hh0
      have ehh0 := pt3?_some hh0
      subst ehh0
      rw [← h]
      refine (rIsN_run concFOps p).trans ?_
      rfl
    · cases h
  · cases h
noncomputable def X_rIsN (o : FOps) : Cx := { X_rEqual o with O := addQ (X_rEqual o).O 19 (lav (g_rIsN o)) }
theorem X_rIsN_ok : CxOK Tryz.prog (X_rIsN concFOps) := { X_rEqual_ok with quiet := addQ_ok X_rEqual_ok.quiet rIsN_at }
theorem rSmall_run (o : FOps) (p : Pt3) : runNL (X_rIsN o) [] [0,1,2] 200 Tryz.f21 (bodyOf Tryz.f21) (laArgs [.v (pt3V p)] 0) (laLists [.v (pt3V p)]) = some (.bool (risnO o (rdblO o (rdblO o (rdblO o p)))), none) := by
  kernel_rfl
def g_rSmall (o : FOps) (args : List LA) : Option (AV × Option Blk) := match args with
  | [.v x0] => (match pt3? x0 with
    | some p => some (.bool (risnO o (rdblO o (rdblO o (rdblO o p)))), none)
    | _ => none)
  | _ => none
theorem rSmall_at : QuietAt Tryz.prog 21 (lav (g_rSmall concFOps)) := by
  refine quietAt_of_runA X_rIsN_ok (L := []) (keep := [0,1,2]) Tryz.func21 (c := bodyOf Tryz.f21) (by kernel_rfl) (by kernel_rfl) (LoopsOK.nil) fun args v h hw => ⟨200, ?_⟩
  unfold g_rSmall at h
  split at h
  · rename_i x0
    split at h
    · rename_i p hh0
      have ehh0 := pt3?_some hh0
      subst ehh0
      rw [← h]
      refine (rSmall_run concFOps p).trans ?_
      rfl
    · cases h
  · cases h
noncomputable def X_rSmall (o : FOps) : Cx := { X_rIsN o with O := addQ (X_rIsN o).O 21 (lav (g_rSmall o)) }
theorem X_rSmall_ok : CxOK Tryz.prog (X_rSmall concFOps) := { X_rIsN_ok with quiet := addQ_ok X_rIsN_ok.quiet rSmall_at }
end Go.Proofs.YtpmbfepkdjkheaaGreat

