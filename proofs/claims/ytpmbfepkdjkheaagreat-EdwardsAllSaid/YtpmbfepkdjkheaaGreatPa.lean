/- The points of layer 19, of the program, walked (1). -/
import Derived.Test.YtpmbfepkdjkheaaGreatFe
import Derived.Test.YtpmbfepkdjkheaaGreatPwMd
import Derived.Test.YtpmbfepkdjkheaaGreatPwMh
namespace Go.Proofs.YtpmbfepkdjkheaaGreat
open Go Pw Go.RowKit
def dKey : K32 := ⟨163, 120, 89, 19, 202, 77, 235, 117, 171, 216, 65, 65, 77, 10, 112, 0, 152, 232, 121, 119, 121, 64, 199, 140, 115, 254, 111, 43, 238, 108, 3, 82⟩
def bxKey : K32 := ⟨26, 213, 37, 143, 96, 45, 86, 201, 178, 167, 37, 149, 96, 199, 44, 105, 92, 220, 214, 253, 49, 226, 164, 192, 254, 83, 110, 205, 211, 54, 105, 33⟩
def byKey : K32 := ⟨88, 102, 102, 102, 102, 102, 102, 102, 102, 102, 102, 102, 102, 102, 102, 102, 102, 102, 102, 102, 102, 102, 102, 102, 102, 102, 102, 102, 102, 102, 102, 102⟩
def zeroP : Rungs := ⟨zero5, zero5, zero5, zero5⟩
noncomputable def m_numP (o : FOps) : List AV → Mem → ∀ {ρ : Type}, (AV → Mem → Option ρ) → Option ρ := fun args mem _ K => runKL (X_rootR o) [] [0,2,3] 100 Tryz.f88 (bodyOf Tryz.f88) args mem K
theorem m_numP_at : LoudAt Tryz.prog 88 (m_numP concFOps) := loudAt_of_run (L := []) X_rootR_ok Tryz.func88 (by kernel_rfl) (by kernel_rfl) (LoopsOK.nil)
noncomputable def X_numP (o : FOps) : Cx := { X_rootR o with M := addM (X_rootR o).M 88 (m_numP o) }
theorem X_numP_ok : CxOK Tryz.prog (X_numP concFOps) := { X_rootR_ok with loud := addM_ok X_rootR_ok.loud m_numP_at }
def dO (o : FOps) : L5 := o.frm dKey
theorem dP_run (o : FOps)  : runNL (X_numP o) [] [0] 200 Tryz.f109 (bodyOf Tryz.f109) (laArgs [] 0) (laLists []) = some (numV (dO o), none) := by
  kernel_rfl
def g_dP (o : FOps) (args : List LA) : Option (AV × Option Blk) := match args with
  | [] => some (numV (dO o), none)
  | _ => none
theorem dP_at : QuietAt Tryz.prog 109 (lav (g_dP concFOps)) := by
  refine quietAt_of_runA X_numP_ok (L := []) (keep := [0]) Tryz.func109 (c := bodyOf Tryz.f109) (by kernel_rfl) (by kernel_rfl) (LoopsOK.nil) fun args v h hw => ⟨200, ?_⟩
  unfold g_dP at h
  split at h
  · skip
    rw [← h]
    refine (dP_run concFOps ).trans ?_
    rfl
  · cases h
noncomputable def X_dP (o : FOps) : Cx := { X_numP o with O := addQ (X_numP o).O 109 (lav (g_dP o)) }
theorem X_dP_ok : CxOK Tryz.prog (X_dP concFOps) := { X_numP_ok with quiet := addQ_ok X_numP_ok.quiet dP_at }
def ptO (o : FOps) (x y : L5) : Rungs := ⟨x, y, o.small 1, o.mul x y⟩
theorem ofP_run (o : FOps) (x : L5) (y : L5) : runNL (X_dP o) [] [0,1,2,3,4] 200 Tryz.f87 (bodyOf Tryz.f87) (laArgs [.v (numV x), .v (numV y)] 0) (laLists [.v (numV x), .v (numV y)]) = some (rungsV (ptO o x y), none) := by
  kernel_rfl
def g_ofP (o : FOps) (args : List LA) : Option (AV × Option Blk) := match args with
  | [.v x0, .v x1] => (match num? x0, num? x1 with
    | some x, some y => some (rungsV (ptO o x y), none)
    | _, _ => none)
  | _ => none
theorem ofP_at : QuietAt Tryz.prog 87 (lav (g_ofP concFOps)) := by
  refine quietAt_of_runA X_dP_ok (L := []) (keep := [0,1,2,3,4]) Tryz.func87 (c := bodyOf Tryz.f87) (by kernel_rfl) (by kernel_rfl) (LoopsOK.nil) fun args v h hw => ⟨200, ?_⟩
  unfold g_ofP at h
  split at h
  · rename_i x0 x1
    split at h
    · rename_i x y hh0 hh1
      have ehh0 := num?_some hh0
      subst ehh0
      have ehh1 := num?_some hh1
      subst ehh1
      rw [← h]
      refine (ofP_run concFOps x y).trans ?_
      rfl
    · cases h
  · cases h
noncomputable def X_ofP (o : FOps) : Cx := { X_dP o with O := addQ (X_dP o).O 87 (lav (g_ofP o)) }
theorem X_ofP_ok : CxOK Tryz.prog (X_ofP concFOps) := { X_dP_ok with quiet := addQ_ok X_dP_ok.quiet ofP_at }
def hereO (o : FOps) (p : Rungs) : Rungs := bif o.isZero p.c then ptO o zero5 (o.small 1) else p
theorem hereP_run (o : FOps) (p : Rungs) : runNL (X_ofP o) [] [0,1,2,5] 200 Tryz.f84 (bodyOf Tryz.f84) (laArgs [.v (rungsV p)] 0) (laLists [.v (rungsV p)]) = brn (o.isZero p.c) (some (rungsV (ptO o zero5 (o.small 1)), none)) (some (rungsV p, none)) := by
  kernel_rfl
def g_hereP (o : FOps) (args : List LA) : Option (AV × Option Blk) := match args with
  | [.v x0] => (match rungs? x0 with
    | some p => some (rungsV (hereO o p), none)
    | _ => none)
  | _ => none
theorem hereP_at : QuietAt Tryz.prog 84 (lav (g_hereP concFOps)) := by
  refine quietAt_of_runA X_ofP_ok (L := []) (keep := [0,1,2,5]) Tryz.func84 (c := bodyOf Tryz.f84) (by kernel_rfl) (by kernel_rfl) (LoopsOK.nil) fun args v h hw => ⟨200, ?_⟩
  unfold g_hereP at h
  split at h
  · rename_i x0
    split at h
    · rename_i p hh0
      have ehh0 := rungs?_some hh0
      subst ehh0
      rw [← h]
      refine (hereP_run concFOps p).trans ?_
      unfold hereO
      cases concFOps.isZero p.c <;> rfl
    · cases h
  · cases h
noncomputable def X_hereP (o : FOps) : Cx := { X_ofP o with O := addQ (X_ofP o).O 84 (lav (g_hereP o)) }
theorem X_hereP_ok : CxOK Tryz.prog (X_hereP concFOps) := { X_ofP_ok with quiet := addQ_ok X_ofP_ok.quiet hereP_at }
def xwO (o : FOps) (y : L5) : L5 := o.mul (o.sub (o.sq y) (o.small 1)) (invO o (o.add (o.mul (dO o) (o.sq y)) (o.small 1)))
def rtO (o : FOps) (y : L5) : L5 := rootO o (xwO o y)
def okO (o : FOps) (y : L5) : Bool := rootB o (xwO o y)
noncomputable def fxE (o : FOps) (y : L5) (odd : Bool) : Option (AV × Option Blk) := brn (!(o.odd (rtO o y) == odd)) (some (.tup [rungsV (ptO o (o.neg (rtO o y)) y), .bool true], none)) (some (.tup [rungsV (ptO o (rtO o y) y), .bool true], none))
def fxF : Option (AV × Option Blk) := some (.tup [rungsV zeroP, .bool false], none)
noncomputable def fxT (o : FOps) (y : L5) (odd : Bool) : Option (AV × Option Blk) := brn (!okO o y) fxF (brn odd (brn (o.isZero (rtO o y)) fxF (fxE o y odd)) (fxE o y odd))
def foundB (o : FOps) (y : L5) (odd : Bool) : Bool := okO o y && !(odd && o.isZero (rtO o y))
def foundV (o : FOps) (y : L5) (odd : Bool) : Rungs := bif foundB o y odd then ptO o (bif o.odd (rtO o y) == odd then rtO o y else o.neg (rtO o y)) y else zeroP
theorem fxT_eq (o : FOps) (y : L5) (odd : Bool) : fxT o y odd = some (.tup [rungsV (foundV o y odd), .bool (foundB o y odd)], none) := by
  unfold fxT fxE foundV foundB
  generalize okO o y = c
  generalize o.isZero (rtO o y) = z
  generalize (o.odd (rtO o y) == odd) = e
  cases c <;> cases odd <;> cases z <;> cases e <;> rfl
theorem foundP_run (o : FOps) (y : L5) (odd : Bool) : runNL (X_hereP o) [] [0,1,2,4,5,6,7,8,9,30,31,32,33,34,35,40] 200 Tryz.f104 (bodyOf Tryz.f104) (laArgs [.v (numV y), .v (.bool odd)] 0) (laLists [.v (numV y), .v (.bool odd)]) = fxT o y odd := by
  kernel_rfl
def g_foundP (o : FOps) (args : List LA) : Option (AV × Option Blk) := match args with
  | [.v x0, .v x1] => (match num? x0, bool? x1 with
    | some y, some odd => some (.tup [rungsV (foundV o y odd), .bool (foundB o y odd)], none)
    | _, _ => none)
  | _ => none
theorem foundP_at : QuietAt Tryz.prog 104 (lav (g_foundP concFOps)) := by
  refine quietAt_of_runA X_hereP_ok (L := []) (keep := [0,1,2,4,5,6,7,8,9,30,31,32,33,34,35,40]) Tryz.func104 (c := bodyOf Tryz.f104) (by kernel_rfl) (by kernel_rfl) (LoopsOK.nil) fun args v h hw => ⟨200, ?_⟩
  unfold g_foundP at h
  split at h
  · rename_i x0 x1
    split at h
    · rename_i y odd hh0 hh1
      have ehh0 := num?_some hh0
      subst ehh0
      have ehh1 := bool?_some hh1
      subst ehh1
      rw [← h]
      refine (foundP_run concFOps y odd).trans ?_
      exact fxT_eq concFOps y odd
    · cases h
  · cases h
noncomputable def X_foundP (o : FOps) : Cx := { X_hereP o with O := addQ (X_hereP o).O 104 (lav (g_foundP o)) }
theorem X_foundP_ok : CxOK Tryz.prog (X_foundP concFOps) := { X_hereP_ok with quiet := addQ_ok X_hereP_ok.quiet foundP_at }
theorem baseP_run (o : FOps)  : runNL (X_foundP o) [] [0] 200 Tryz.f26 (bodyOf Tryz.f26) (laArgs [] 0) (laLists []) = some (rungsV (ptO o (o.frm bxKey) (o.frm byKey)), none) := by
  kernel_rfl
def g_baseP (o : FOps) (args : List LA) : Option (AV × Option Blk) := match args with
  | [] => some (rungsV (ptO o (o.frm bxKey) (o.frm byKey)), none)
  | _ => none
theorem baseP_at : QuietAt Tryz.prog 26 (lav (g_baseP concFOps)) := by
  refine quietAt_of_runA X_foundP_ok (L := []) (keep := [0]) Tryz.func26 (c := bodyOf Tryz.f26) (by kernel_rfl) (by kernel_rfl) (LoopsOK.nil) fun args v h hw => ⟨200, ?_⟩
  unfold g_baseP at h
  split at h
  · skip
    rw [← h]
    refine (baseP_run concFOps ).trans ?_
    rfl
  · cases h
noncomputable def X_baseP (o : FOps) : Cx := { X_foundP o with O := addQ (X_foundP o).O 26 (lav (g_baseP o)) }
theorem X_baseP_ok : CxOK Tryz.prog (X_baseP concFOps) := { X_foundP_ok with quiet := addQ_ok X_foundP_ok.quiet baseP_at }
def maskK (k : K32) : K32 := { k with b31 := k.b31 &&& 127 }
def hiK (k : K32) : Bool := decide (k.b31 / 2 ^ 7 = 1)
def pyO (o : FOps) (k : K32) : L5 := o.frm (maskK k)
def parseB (o : FOps) (k : K32) : Bool := keyEq (o.bytes (pyO o k)) (maskK k) && foundB o (pyO o k) (hiK k)
def parseV (o : FOps) (k : K32) : Rungs := bif parseB o k then foundV o (pyO o k) (hiK k) else zeroP
def ptF (n : Int) : Option (AV × Option Blk) := some (.tup [rungsV zeroP, .n n], none)
noncomputable def paT (o : FOps) (k : K32) : Option (AV × Option Blk) := brn (!keyEq (o.bytes (pyO o k)) (maskK k)) (ptF 190) (brn (!foundB o (pyO o k) (hiK k)) (ptF 190) (some (.tup [rungsV (foundV o (pyO o k) (hiK k)), .n 0], none)))
theorem paT_eq (o : FOps) (k : K32) : paT o k = some (.tup [rungsV (parseV o k), .n (bif parseB o k then 0 else 190)], none) := by
  unfold paT parseV parseB
  cases keyEq (o.bytes (pyO o k)) (maskK k) <;> cases foundB o (pyO o k) (hiK k) <;> rfl
theorem parseP_run (o : FOps) (k : K32) : runNL (X_baseP o) [] [0,1,2,3,4,5,6,7,21,30] 200 Tryz.f40 (bodyOf Tryz.f40) (laArgs [.v (keyV k)] 0) (laLists [.v (keyV k)]) = paT o k := by
  kernel_rfl
def g_parseP (o : FOps) (args : List LA) : Option (AV × Option Blk) := match args with
  | [.v x0] => (match key? x0 with
    | some k => some (.tup [rungsV (parseV o k), .n (bif parseB o k then 0 else 190)], none)
    | _ => none)
  | _ => none
theorem parseP_at : QuietAt Tryz.prog 40 (lav (g_parseP concFOps)) := by
  refine quietAt_of_runA X_baseP_ok (L := []) (keep := [0,1,2,3,4,5,6,7,21,30]) Tryz.func40 (c := bodyOf Tryz.f40) (by kernel_rfl) (by kernel_rfl) (LoopsOK.nil) fun args v h hw => ⟨200, ?_⟩
  unfold g_parseP at h
  split at h
  · rename_i x0
    split at h
    · rename_i k hh0
      have ehh0 := key?_some hh0
      subst ehh0
      rw [← h]
      refine (parseP_run concFOps k).trans ?_
      exact paT_eq concFOps k
    · cases h
  · cases h
noncomputable def X_parseP (o : FOps) : Cx := { X_baseP o with O := addQ (X_baseP o).O 40 (lav (g_parseP o)) }
theorem X_parseP_ok : CxOK Tryz.prog (X_parseP concFOps) := { X_baseP_ok with quiet := addQ_ok X_baseP_ok.quiet parseP_at }
def lwO (o : FOps) (u : K32) : L5 := o.add (o.frm u) (o.small 1)
def lyO (o : FOps) (u : K32) : L5 := o.mul (o.sub (o.frm u) (o.small 1)) (invO o (lwO o u))
def liftB (o : FOps) (u : K32) (odd : Bool) : Bool := !o.isZero (lwO o u) && foundB o (lyO o u) odd
def liftV (o : FOps) (u : K32) (odd : Bool) : Rungs := bif liftB o u odd then foundV o (lyO o u) odd else zeroP
noncomputable def liT (o : FOps) (u : K32) (odd : Bool) : Option (AV × Option Blk) := brn (o.isZero (lwO o u)) (ptF 190) (brn (!foundB o (lyO o u) odd) (ptF 190) (some (.tup [rungsV (foundV o (lyO o u) odd), .n 0], none)))
theorem liT_eq (o : FOps) (u : K32) (odd : Bool) : liT o u odd = some (.tup [rungsV (liftV o u odd), .n (bif liftB o u odd then 0 else 190)], none) := by
  unfold liT liftV liftB
  cases o.isZero (lwO o u) <;> cases foundB o (lyO o u) odd <;> rfl
theorem liftP_run (o : FOps) (u : K32) (odd : Bool) : runNL (X_parseP o) [] [0,1,2,4,5,6,7,8,9,10,18,32] 200 Tryz.f42 (bodyOf Tryz.f42) (laArgs [.v (keyV u), .v (.bool odd)] 0) (laLists [.v (keyV u), .v (.bool odd)]) = liT o u odd := by
  kernel_rfl
def g_liftP (o : FOps) (args : List LA) : Option (AV × Option Blk) := match args with
  | [.v x0, .v x1] => (match key? x0, bool? x1 with
    | some u, some odd => some (.tup [rungsV (liftV o u odd), .n (bif liftB o u odd then 0 else 190)], none)
    | _, _ => none)
  | _ => none
theorem liftP_at : QuietAt Tryz.prog 42 (lav (g_liftP concFOps)) := by
  refine quietAt_of_runA X_parseP_ok (L := []) (keep := [0,1,2,4,5,6,7,8,9,10,18,32]) Tryz.func42 (c := bodyOf Tryz.f42) (by kernel_rfl) (by kernel_rfl) (LoopsOK.nil) fun args v h hw => ⟨200, ?_⟩
  unfold g_liftP at h
  split at h
  · rename_i x0 x1
    split at h
    · rename_i u odd hh0 hh1
      have ehh0 := key?_some hh0
      subst ehh0
      have ehh1 := bool?_some hh1
      subst ehh1
      rw [← h]
      refine (liftP_run concFOps u odd).trans ?_
      exact liT_eq concFOps u odd
    · cases h
  · cases h
noncomputable def X_liftP (o : FOps) : Cx := { X_parseP o with O := addQ (X_parseP o).O 42 (lav (g_liftP o)) }
theorem X_liftP_ok : CxOK Tryz.prog (X_liftP concFOps) := { X_parseP_ok with quiet := addQ_ok X_parseP_ok.quiet liftP_at }
def plZ (o : FOps) (p : Rungs) : L5 := invO o (hereO o p).c
def plX (o : FOps) (p : Rungs) : L5 := o.mul (hereO o p).a (plZ o p)
def plY (o : FOps) (p : Rungs) : L5 := o.mul (hereO o p).b (plZ o p)
theorem plainP_run (o : FOps) (p : Rungs) : runNL (X_liftP o) [] [0,1,2,3,4] 200 Tryz.f70 (bodyOf Tryz.f70) (laArgs [.v (rungsV p)] 0) (laLists [.v (rungsV p)]) = some (.tup [numV (plX o p), numV (plY o p)], none) := by
  kernel_rfl
def g_plainP (o : FOps) (args : List LA) : Option (AV × Option Blk) := match args with
  | [.v x0] => (match rungs? x0 with
    | some p => some (.tup [numV (plX o p), numV (plY o p)], none)
    | _ => none)
  | _ => none
theorem plainP_at : QuietAt Tryz.prog 70 (lav (g_plainP concFOps)) := by
  refine quietAt_of_runA X_liftP_ok (L := []) (keep := [0,1,2,3,4]) Tryz.func70 (c := bodyOf Tryz.f70) (by kernel_rfl) (by kernel_rfl) (LoopsOK.nil) fun args v h hw => ⟨200, ?_⟩
  unfold g_plainP at h
  split at h
  · rename_i x0
    split at h
    · rename_i p hh0
      have ehh0 := rungs?_some hh0
      subst ehh0
      rw [← h]
      refine (plainP_run concFOps p).trans ?_
      rfl
    · cases h
  · cases h
noncomputable def X_plainP (o : FOps) : Cx := { X_liftP o with O := addQ (X_liftP o).O 70 (lav (g_plainP o)) }
theorem X_plainP_ok : CxOK Tryz.prog (X_plainP concFOps) := { X_liftP_ok with quiet := addQ_ok X_liftP_ok.quiet plainP_at }
def setHi (k : K32) : K32 := { k with b31 := k.b31 ||| 128 }
def bytO (o : FOps) (p : Rungs) : K32 := bif o.odd (plX o p) then setHi (o.bytes (plY o p)) else o.bytes (plY o p)
theorem ptBytes_run (o : FOps) (p : Rungs) : runNL (X_plainP o) [] [0,1,2,3,4,5,14] 200 Tryz.f12 (bodyOf Tryz.f12) (laArgs [.v (rungsV p)] 0) (laLists [.v (rungsV p)]) = brn (o.odd (plX o p)) (some (keyV (setHi (o.bytes (plY o p))), none)) (some (keyV (o.bytes (plY o p)), none)) := by
  kernel_rfl
def g_ptBytes (o : FOps) (args : List LA) : Option (AV × Option Blk) := match args with
  | [.v x0] => (match rungs? x0 with
    | some p => some (keyV (bytO o p), none)
    | _ => none)
  | _ => none
theorem ptBytes_at : QuietAt Tryz.prog 12 (lav (g_ptBytes concFOps)) := by
  refine quietAt_of_runA X_plainP_ok (L := []) (keep := [0,1,2,3,4,5,14]) Tryz.func12 (c := bodyOf Tryz.f12) (by kernel_rfl) (by kernel_rfl) (LoopsOK.nil) fun args v h hw => ⟨200, ?_⟩
  unfold g_ptBytes at h
  split at h
  · rename_i x0
    split at h
    · rename_i p hh0
      have ehh0 := rungs?_some hh0
      subst ehh0
      rw [← h]
      refine (ptBytes_run concFOps p).trans ?_
      unfold bytO
      cases concFOps.odd (plX concFOps p) <;> rfl
    · cases h
  · cases h
noncomputable def X_ptBytes (o : FOps) : Cx := { X_plainP o with O := addQ (X_plainP o).O 12 (lav (g_ptBytes o)) }
theorem X_ptBytes_ok : CxOK Tryz.prog (X_ptBytes concFOps) := { X_plainP_ok with quiet := addQ_ok X_plainP_ok.quiet ptBytes_at }
def uO (o : FOps) (p : Rungs) : K32 := o.bytes (o.mul (o.add (o.small 1) (plY o p)) (invO o (o.sub (o.small 1) (plY o p))))
theorem ptU_run (o : FOps) (p : Rungs) : runNL (X_ptBytes o) [] [0,1,2,4,5] 200 Tryz.f14 (bodyOf Tryz.f14) (laArgs [.v (rungsV p)] 0) (laLists [.v (rungsV p)]) = some (keyV (uO o p), none) := by
  kernel_rfl
def g_ptU (o : FOps) (args : List LA) : Option (AV × Option Blk) := match args with
  | [.v x0] => (match rungs? x0 with
    | some p => some (keyV (uO o p), none)
    | _ => none)
  | _ => none
theorem ptU_at : QuietAt Tryz.prog 14 (lav (g_ptU concFOps)) := by
  refine quietAt_of_runA X_ptBytes_ok (L := []) (keep := [0,1,2,4,5]) Tryz.func14 (c := bodyOf Tryz.f14) (by kernel_rfl) (by kernel_rfl) (LoopsOK.nil) fun args v h hw => ⟨200, ?_⟩
  unfold g_ptU at h
  split at h
  · rename_i x0
    split at h
    · rename_i p hh0
      have ehh0 := rungs?_some hh0
      subst ehh0
      rw [← h]
      refine (ptU_run concFOps p).trans ?_
      rfl
    · cases h
  · cases h
noncomputable def X_ptU (o : FOps) : Cx := { X_ptBytes o with O := addQ (X_ptBytes o).O 14 (lav (g_ptU o)) }
theorem X_ptU_ok : CxOK Tryz.prog (X_ptU concFOps) := { X_ptBytes_ok with quiet := addQ_ok X_ptBytes_ok.quiet ptU_at }
def smA (o : FOps) (p q : Rungs) : L5 := o.mul (o.sub p.b p.a) (o.sub q.b q.a)
def smB (o : FOps) (p q : Rungs) : L5 := o.mul (o.add p.b p.a) (o.add q.b q.a)
def smC (o : FOps) (p q : Rungs) (w : L5) : L5 := o.mul (o.mul p.d q.d) w
def smE (o : FOps) (p q : Rungs) : L5 := o.times (o.mul p.c q.c) 2
def sumO (o : FOps) (p q : Rungs) (w : L5) : Rungs := ⟨o.mul (o.sub (smB o p q) (smA o p q)) (o.sub (smE o p q) (smC o p q w)), o.mul (o.add (smE o p q) (smC o p q w)) (o.add (smB o p q) (smA o p q)),
  o.mul (o.sub (smE o p q) (smC o p q w)) (o.add (smE o p q) (smC o p q w)), o.mul (o.sub (smB o p q) (smA o p q)) (o.add (smB o p q) (smA o p q))⟩
theorem ptSumP_run (o : FOps) (p : Rungs) (q : Rungs) (w : L5) : runNL (X_ptU o) [] [0,1,2,3,4,5,6,7,8,9,10,11,12,13,14] 200 Tryz.f108 (bodyOf Tryz.f108) (laArgs [.v (rungsV p), .v (rungsV q), .v (numV w)] 0) (laLists [.v (rungsV p), .v (rungsV q), .v (numV w)]) = some (rungsV (sumO o p q w), none) := by
  kernel_rfl
def g_ptSumP (o : FOps) (args : List LA) : Option (AV × Option Blk) := match args with
  | [.v x0, .v x1, .v x2] => (match rungs? x0, rungs? x1, num? x2 with
    | some p, some q, some w => some (rungsV (sumO o p q w), none)
    | _, _, _ => none)
  | _ => none
theorem ptSumP_at : QuietAt Tryz.prog 108 (lav (g_ptSumP concFOps)) := by
  refine quietAt_of_runA X_ptU_ok (L := []) (keep := [0,1,2,3,4,5,6,7,8,9,10,11,12,13,14]) Tryz.func108 (c := bodyOf Tryz.f108) (by kernel_rfl) (by kernel_rfl) (LoopsOK.nil) fun args v h hw => ⟨200, ?_⟩
  unfold g_ptSumP at h
  split at h
  · rename_i x0 x1 x2
    split at h
    · rename_i p q w hh0 hh1 hh2
      have ehh0 := rungs?_some hh0
      subst ehh0
      have ehh1 := rungs?_some hh1
      subst ehh1
      have ehh2 := num?_some hh2
      subst ehh2
      rw [← h]
      refine (ptSumP_run concFOps p q w).trans ?_
      rfl
    · cases h
  · cases h
noncomputable def X_ptSumP (o : FOps) : Cx := { X_ptU o with O := addQ (X_ptU o).O 108 (lav (g_ptSumP o)) }
theorem X_ptSumP_ok : CxOK Tryz.prog (X_ptSumP concFOps) := { X_ptU_ok with quiet := addQ_ok X_ptU_ok.quiet ptSumP_at }
def d2O (o : FOps) : L5 := o.times (dO o) 2
def addO (o : FOps) (p q : Rungs) : Rungs := sumO o (hereO o p) (hereO o q) (d2O o)
theorem ptAdd_run (o : FOps) (p : Rungs) (q : Rungs) : runNL (X_ptSumP o) [] [0,1,2,3,4] 200 Tryz.f44 (bodyOf Tryz.f44) (laArgs [.v (rungsV p), .v (rungsV q)] 0) (laLists [.v (rungsV p), .v (rungsV q)]) = some (rungsV (addO o p q), none) := by
  kernel_rfl
def g_ptAdd (o : FOps) (args : List LA) : Option (AV × Option Blk) := match args with
  | [.v x0, .v x1] => (match rungs? x0, rungs? x1 with
    | some p, some q => some (rungsV (addO o p q), none)
    | _, _ => none)
  | _ => none
theorem ptAdd_at : QuietAt Tryz.prog 44 (lav (g_ptAdd concFOps)) := by
  refine quietAt_of_runA X_ptSumP_ok (L := []) (keep := [0,1,2,3,4]) Tryz.func44 (c := bodyOf Tryz.f44) (by kernel_rfl) (by kernel_rfl) (LoopsOK.nil) fun args v h hw => ⟨200, ?_⟩
  unfold g_ptAdd at h
  split at h
  · rename_i x0 x1
    split at h
    · rename_i p q hh0 hh1
      have ehh0 := rungs?_some hh0
      subst ehh0
      have ehh1 := rungs?_some hh1
      subst ehh1
      rw [← h]
      refine (ptAdd_run concFOps p q).trans ?_
      rfl
    · cases h
  · cases h
noncomputable def X_ptAdd (o : FOps) : Cx := { X_ptSumP o with O := addQ (X_ptSumP o).O 44 (lav (g_ptAdd o)) }
theorem X_ptAdd_ok : CxOK Tryz.prog (X_ptAdd concFOps) := { X_ptSumP_ok with quiet := addQ_ok X_ptSumP_ok.quiet ptAdd_at }
def negO (o : FOps) (p : Rungs) : Rungs := ⟨o.neg (hereO o p).a, (hereO o p).b, (hereO o p).c, o.neg (hereO o p).d⟩
theorem ptNeg_run (o : FOps) (p : Rungs) : runNL (X_ptAdd o) [] [0,1,2] 200 Tryz.f48 (bodyOf Tryz.f48) (laArgs [.v (rungsV p)] 0) (laLists [.v (rungsV p)]) = some (rungsV (negO o p), none) := by
  kernel_rfl
def g_ptNeg (o : FOps) (args : List LA) : Option (AV × Option Blk) := match args with
  | [.v x0] => (match rungs? x0 with
    | some p => some (rungsV (negO o p), none)
    | _ => none)
  | _ => none
theorem ptNeg_at : QuietAt Tryz.prog 48 (lav (g_ptNeg concFOps)) := by
  refine quietAt_of_runA X_ptAdd_ok (L := []) (keep := [0,1,2]) Tryz.func48 (c := bodyOf Tryz.f48) (by kernel_rfl) (by kernel_rfl) (LoopsOK.nil) fun args v h hw => ⟨200, ?_⟩
  unfold g_ptNeg at h
  split at h
  · rename_i x0
    split at h
    · rename_i p hh0
      have ehh0 := rungs?_some hh0
      subst ehh0
      rw [← h]
      refine (ptNeg_run concFOps p).trans ?_
      rfl
    · cases h
  · cases h
noncomputable def X_ptNeg (o : FOps) : Cx := { X_ptAdd o with O := addQ (X_ptAdd o).O 48 (lav (g_ptNeg o)) }
theorem X_ptNeg_ok : CxOK Tryz.prog (X_ptNeg concFOps) := { X_ptAdd_ok with quiet := addQ_ok X_ptAdd_ok.quiet ptNeg_at }
theorem ptSub_run (o : FOps) (p : Rungs) (q : Rungs) : runNL (X_ptNeg o) [] [0,1,2,3,4] 200 Tryz.f46 (bodyOf Tryz.f46) (laArgs [.v (rungsV p), .v (rungsV q)] 0) (laLists [.v (rungsV p), .v (rungsV q)]) = some (rungsV (addO o p (negO o q)), none) := by
  kernel_rfl
def g_ptSub (o : FOps) (args : List LA) : Option (AV × Option Blk) := match args with
  | [.v x0, .v x1] => (match rungs? x0, rungs? x1 with
    | some p, some q => some (rungsV (addO o p (negO o q)), none)
    | _, _ => none)
  | _ => none
theorem ptSub_at : QuietAt Tryz.prog 46 (lav (g_ptSub concFOps)) := by
  refine quietAt_of_runA X_ptNeg_ok (L := []) (keep := [0,1,2,3,4]) Tryz.func46 (c := bodyOf Tryz.f46) (by kernel_rfl) (by kernel_rfl) (LoopsOK.nil) fun args v h hw => ⟨200, ?_⟩
  unfold g_ptSub at h
  split at h
  · rename_i x0 x1
    split at h
    · rename_i p q hh0 hh1
      have ehh0 := rungs?_some hh0
      subst ehh0
      have ehh1 := rungs?_some hh1
      subst ehh1
      rw [← h]
      refine (ptSub_run concFOps p q).trans ?_
      rfl
    · cases h
  · cases h
noncomputable def X_ptSub (o : FOps) : Cx := { X_ptNeg o with O := addQ (X_ptNeg o).O 46 (lav (g_ptSub o)) }
theorem X_ptSub_ok : CxOK Tryz.prog (X_ptSub concFOps) := { X_ptNeg_ok with quiet := addQ_ok X_ptNeg_ok.quiet ptSub_at }
def twA (o : FOps) (p : Rungs) : L5 := o.add (o.sq p.a) (o.sq p.b)
def twE (o : FOps) (p : Rungs) : L5 := o.sub (o.sq (o.add p.a p.b)) (twA o p)
def twG (o : FOps) (p : Rungs) : L5 := o.sub (o.sq p.b) (o.sq p.a)
def twF (o : FOps) (p : Rungs) : L5 := o.sub (twG o p) (o.times (o.sq p.c) 2)
def twO (o : FOps) (p : Rungs) : Rungs := ⟨o.mul (twE o p) (twF o p), o.mul (twG o p) (o.neg (twA o p)), o.mul (twF o p) (twG o p), o.mul (twE o p) (o.neg (twA o p))⟩
theorem ptTwice_run (o : FOps) (p : Rungs) : runNL (X_ptSub o) [] [0,1,2,3,4,5,6,7,8,9,10] 200 Tryz.f115 (bodyOf Tryz.f115) (laArgs [.v (rungsV p)] 0) (laLists [.v (rungsV p)]) = some (rungsV (twO o p), none) := by
  kernel_rfl
def g_ptTwice (o : FOps) (args : List LA) : Option (AV × Option Blk) := match args with
  | [.v x0] => (match rungs? x0 with
    | some p => some (rungsV (twO o p), none)
    | _ => none)
  | _ => none
theorem ptTwice_at : QuietAt Tryz.prog 115 (lav (g_ptTwice concFOps)) := by
  refine quietAt_of_runA X_ptSub_ok (L := []) (keep := [0,1,2,3,4,5,6,7,8,9,10]) Tryz.func115 (c := bodyOf Tryz.f115) (by kernel_rfl) (by kernel_rfl) (LoopsOK.nil) fun args v h hw => ⟨200, ?_⟩
  unfold g_ptTwice at h
  split at h
  · rename_i x0
    split at h
    · rename_i p hh0
      have ehh0 := rungs?_some hh0
      subst ehh0
      rw [← h]
      refine (ptTwice_run concFOps p).trans ?_
      rfl
    · cases h
  · cases h
noncomputable def X_ptTwice (o : FOps) : Cx := { X_ptSub o with O := addQ (X_ptSub o).O 115 (lav (g_ptTwice o)) }
theorem X_ptTwice_ok : CxOK Tryz.prog (X_ptTwice concFOps) := { X_ptSub_ok with quiet := addQ_ok X_ptSub_ok.quiet ptTwice_at }
def dblO (o : FOps) (p : Rungs) : Rungs := twO o (hereO o p)
theorem ptDouble_run (o : FOps) (p : Rungs) : runNL (X_ptTwice o) [] [0,1,2] 200 Tryz.f50 (bodyOf Tryz.f50) (laArgs [.v (rungsV p)] 0) (laLists [.v (rungsV p)]) = some (rungsV (dblO o p), none) := by
  kernel_rfl
def g_ptDouble (o : FOps) (args : List LA) : Option (AV × Option Blk) := match args with
  | [.v x0] => (match rungs? x0 with
    | some p => some (rungsV (dblO o p), none)
    | _ => none)
  | _ => none
theorem ptDouble_at : QuietAt Tryz.prog 50 (lav (g_ptDouble concFOps)) := by
  refine quietAt_of_runA X_ptTwice_ok (L := []) (keep := [0,1,2]) Tryz.func50 (c := bodyOf Tryz.f50) (by kernel_rfl) (by kernel_rfl) (LoopsOK.nil) fun args v h hw => ⟨200, ?_⟩
  unfold g_ptDouble at h
  split at h
  · rename_i x0
    split at h
    · rename_i p hh0
      have ehh0 := rungs?_some hh0
      subst ehh0
      rw [← h]
      refine (ptDouble_run concFOps p).trans ?_
      rfl
    · cases h
  · cases h
noncomputable def X_ptDouble (o : FOps) : Cx := { X_ptTwice o with O := addQ (X_ptTwice o).O 50 (lav (g_ptDouble o)) }
theorem X_ptDouble_ok : CxOK Tryz.prog (X_ptDouble concFOps) := { X_ptTwice_ok with quiet := addQ_ok X_ptTwice_ok.quiet ptDouble_at }
def eqX (o : FOps) (p q : Rungs) : Bool := o.equal (o.mul (hereO o p).a (hereO o q).c) (o.mul (hereO o q).a (hereO o p).c)
def eqY (o : FOps) (p q : Rungs) : Bool := o.equal (o.mul (hereO o p).b (hereO o q).c) (o.mul (hereO o q).b (hereO o p).c)
theorem ptEqual_run (o : FOps) (p : Rungs) (q : Rungs) : runNL (X_ptDouble o) [] [0,1,2,3,4,21,22,23,24,25,26,27,28,29,30,31] 200 Tryz.f16 (bodyOf Tryz.f16) (laArgs [.v (rungsV p), .v (rungsV q)] 0) (laLists [.v (rungsV p), .v (rungsV q)]) = brn (eqX o p q) (some (.bool (eqY o p q), none)) (some (.bool false, none)) := by
  kernel_rfl
def g_ptEqual (o : FOps) (args : List LA) : Option (AV × Option Blk) := match args with
  | [.v x0, .v x1] => (match rungs? x0, rungs? x1 with
    | some p, some q => some (.bool (eqX o p q && eqY o p q), none)
    | _, _ => none)
  | _ => none
theorem ptEqual_at : QuietAt Tryz.prog 16 (lav (g_ptEqual concFOps)) := by
  refine quietAt_of_runA X_ptDouble_ok (L := []) (keep := [0,1,2,3,4,21,22,23,24,25,26,27,28,29,30,31]) Tryz.func16 (c := bodyOf Tryz.f16) (by kernel_rfl) (by kernel_rfl) (LoopsOK.nil) fun args v h hw => ⟨200, ?_⟩
  unfold g_ptEqual at h
  split at h
  · rename_i x0 x1
    split at h
    · rename_i p q hh0 hh1
      have ehh0 := rungs?_some hh0
      subst ehh0
      have ehh1 := rungs?_some hh1
      subst ehh1
      rw [← h]
      refine (ptEqual_run concFOps p q).trans ?_
      cases eqX concFOps p q <;> rfl
    · cases h
  · cases h
noncomputable def X_ptEqual (o : FOps) : Cx := { X_ptDouble o with O := addQ (X_ptDouble o).O 16 (lav (g_ptEqual o)) }
theorem X_ptEqual_ok : CxOK Tryz.prog (X_ptEqual concFOps) := { X_ptDouble_ok with quiet := addQ_ok X_ptDouble_ok.quiet ptEqual_at }
def isnO (o : FOps) (p : Rungs) : Bool := eqX o p zeroP && eqY o p zeroP
theorem ptIsN_run (o : FOps) (p : Rungs) : runNL (X_ptEqual o) [] [0,1,2] 200 Tryz.f18 (bodyOf Tryz.f18) (laArgs [.v (rungsV p)] 0) (laLists [.v (rungsV p)]) = some (.bool (isnO o p), none) := by
  kernel_rfl
def g_ptIsN (o : FOps) (args : List LA) : Option (AV × Option Blk) := match args with
  | [.v x0] => (match rungs? x0 with
    | some p => some (.bool (isnO o p), none)
    | _ => none)
  | _ => none
theorem ptIsN_at : QuietAt Tryz.prog 18 (lav (g_ptIsN concFOps)) := by
  refine quietAt_of_runA X_ptEqual_ok (L := []) (keep := [0,1,2]) Tryz.func18 (c := bodyOf Tryz.f18) (by kernel_rfl) (by kernel_rfl) (LoopsOK.nil) fun args v h hw => ⟨200, ?_⟩
  unfold g_ptIsN at h
  split at h
  · rename_i x0
    split at h
    · rename_i p hh0
      have ehh0 := rungs?_some hh0
      subst ehh0
      rw [← h]
      refine (ptIsN_run concFOps p).trans ?_
      rfl
    · cases h
  · cases h
noncomputable def X_ptIsN (o : FOps) : Cx := { X_ptEqual o with O := addQ (X_ptEqual o).O 18 (lav (g_ptIsN o)) }
theorem X_ptIsN_ok : CxOK Tryz.prog (X_ptIsN concFOps) := { X_ptEqual_ok with quiet := addQ_ok X_ptEqual_ok.quiet ptIsN_at }
theorem ptSmall_run (o : FOps) (p : Rungs) : runNL (X_ptIsN o) [] [0,1,2] 200 Tryz.f20 (bodyOf Tryz.f20) (laArgs [.v (rungsV p)] 0) (laLists [.v (rungsV p)]) = some (.bool (isnO o (dblO o (dblO o (dblO o p)))), none) := by
  kernel_rfl
def g_ptSmall (o : FOps) (args : List LA) : Option (AV × Option Blk) := match args with
  | [.v x0] => (match rungs? x0 with
    | some p => some (.bool (isnO o (dblO o (dblO o (dblO o p)))), none)
    | _ => none)
  | _ => none
theorem ptSmall_at : QuietAt Tryz.prog 20 (lav (g_ptSmall concFOps)) := by
  refine quietAt_of_runA X_ptIsN_ok (L := []) (keep := [0,1,2]) Tryz.func20 (c := bodyOf Tryz.f20) (by kernel_rfl) (by kernel_rfl) (LoopsOK.nil) fun args v h hw => ⟨200, ?_⟩
  unfold g_ptSmall at h
  split at h
  · rename_i x0
    split at h
    · rename_i p hh0
      have ehh0 := rungs?_some hh0
      subst ehh0
      rw [← h]
      refine (ptSmall_run concFOps p).trans ?_
      rfl
    · cases h
  · cases h
noncomputable def X_ptSmall (o : FOps) : Cx := { X_ptIsN o with O := addQ (X_ptIsN o).O 20 (lav (g_ptSmall o)) }
theorem X_ptSmall_ok : CxOK Tryz.prog (X_ptSmall concFOps) := { X_ptIsN_ok with quiet := addQ_ok X_ptIsN_ok.quiet ptSmall_at }
end Go.Proofs.YtpmbfepkdjkheaaGreat

