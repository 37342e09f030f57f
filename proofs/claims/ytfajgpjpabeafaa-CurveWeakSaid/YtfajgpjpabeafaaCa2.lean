/- The law of chord and tangent, walked: points with both coordinates. -/
import Derived.Test.YtfajgpjpabeafaaCv
import Derived.Test.YtfajgpjpabeafaaPwCpt
namespace Go.Proofs.Ytfajgpjpabeafaa
open Go Pw Go.RowKit
def midO (o : FOps) : L4 := o.rsmall 486662
theorem middleL_run (o : FOps)  : runNL (X_onD o) [] [0] 200 Try.f111 (bodyOf Try.f111) (laArgs [] 0) (laLists []) = some (rnumV (midO o), none) := by
  kernel_rfl
def g_middleL (o : FOps) (args : List LA) : Option (AV × Option Blk) := match args with
  | [] => some (rnumV (midO o), none)
  | _ => none
theorem middleL_at : QuietAt Try.prog 111 (lav (g_middleL concFOps)) := by
  refine quietAt_of_runA X_onD_ok (L := []) (keep := [0]) Try.func111 (c := bodyOf Try.f111) (by kernel_rfl) (by kernel_rfl) (LoopsOK.nil) fun args v h hw => ⟨200, ?_⟩
  unfold g_middleL at h
  split at h
  · skip
    rw [← h]
    refine (middleL_run concFOps ).trans ?_
    rfl
  · cases h
noncomputable def X_middleL (o : FOps) : Cx := { X_onD o with O := addQ (X_onD o).O 111 (lav (g_middleL o)) }
theorem X_middleL_ok : CxOK Try.prog (X_middleL concFOps) := { X_onD_ok with quiet := addQ_ok X_onD_ok.quiet middleL_at }
/-- top of the third point -/
def thT (o : FOps) (p : Cpt) (n d w s : L4) : L4 := o.rsub (o.rmul (o.rmul p.f (o.rsq n)) w) (o.rmul (o.rsq d) (o.radd (o.rmul (midO o) w) s))
def thirdO (o : FOps) (p : Cpt) (n d w s x y : L4) : Cpt :=
  ⟨p.f, o.rmul (thT o p n d w s) d, o.rsub (o.rmul n (o.rsub (o.rmul x (o.rsq d)) (thT o p n d w s))) (o.rmul y (o.rmul (o.rsq d) d)), o.rmul (o.rmul (o.rsq d) d) w, false⟩
theorem thirdL_run (o : FOps) (p : Cpt) (n : L4) (d : L4) (w : L4) (s : L4) (x : L4) (y : L4) : runNL (X_middleL o) [] [0,1,2,3,4,5,6,7,8,9,10,11,12,13,14,15,16,17] 300 Try.f113 (bodyOf Try.f113) (laArgs [.v (cptV p), .v (rnumV n), .v (rnumV d), .v (rnumV w), .v (rnumV s), .v (rnumV x), .v (rnumV y)] 0) (laLists [.v (cptV p), .v (rnumV n), .v (rnumV d), .v (rnumV w), .v (rnumV s), .v (rnumV x), .v (rnumV y)]) = some (cptV (thirdO o p n d w s x y), none) := by
  kernel_rfl
def g_thirdL (o : FOps) (args : List LA) : Option (AV × Option Blk) := match args with
  | [.v x0, .v x1, .v x2, .v x3, .v x4, .v x5, .v x6] => (match cpt? x0, rnum? x1, rnum? x2, rnum? x3, rnum? x4, rnum? x5, rnum? x6 with
    | some p, some n, some d, some w, some s, some x, some y => some (cptV (thirdO o p n d w s x y), none)
    | _, _, _, _, _, _, _ => none)
  | _ => none
theorem thirdL_at : QuietAt Try.prog 113 (lav (g_thirdL concFOps)) := by
  refine quietAt_of_runA X_middleL_ok (L := []) (keep := [0,1,2,3,4,5,6,7,8,9,10,11,12,13,14,15,16,17]) Try.func113 (c := bodyOf Try.f113) (by kernel_rfl) (by kernel_rfl) (LoopsOK.nil) fun args v h hw => ⟨300, ?_⟩
  unfold g_thirdL at h
  split at h
  · rename_i x0 x1 x2 x3 x4 x5 x6
    split at h
    · rename_i p n d w s x y hh0 hh1 hh2 hh3 hh4 hh5 hh6
      have ehh0 := cpt?_some hh0
      subst ehh0
      have ehh1 := rnum?_some hh1
      subst ehh1
      have ehh2 := rnum?_some hh2
      subst ehh2
      have ehh3 := rnum?_some hh3
      subst ehh3
      have ehh4 := rnum?_some hh4
      subst ehh4
      have ehh5 := rnum?_some hh5
      subst ehh5
      have ehh6 := rnum?_some hh6
      subst ehh6
      rw [← h]
      refine (thirdL_run concFOps p n d w s x y).trans ?_
      rfl
    · cases h
  · cases h
noncomputable def X_thirdL (o : FOps) : Cx := { X_middleL o with O := addQ (X_middleL o).O 113 (lav (g_thirdL o)) }
theorem X_thirdL_ok : CxOK Try.prog (X_thirdL concFOps) := { X_middleL_ok with quiet := addQ_ok X_middleL_ok.quiet thirdL_at }
def zero4 : L4 := ⟨0, 0, 0, 0⟩
def goneC (f : L4) : Cpt := ⟨f, zero4, zero4, zero4, true⟩
def dbN (o : FOps) (p : Cpt) : L4 := o.radd (o.radd (o.rmul (o.rsmall 3) (o.rsq p.x)) (o.rmul (o.rmul (o.rmul (o.rsmall 2) (midO o)) p.x) p.z)) (o.rsq p.z)
def dbD (o : FOps) (p : Cpt) : L4 := o.rmul (o.rmul (o.rmul (o.rsmall 2) p.f) p.y) p.z
def doubleO (o : FOps) (p : Cpt) : Cpt := bif o.risZero p.y then goneC p.f else thirdO o p (dbN o p) (dbD o p) p.z (o.radd p.x p.x) p.x p.y
noncomputable def brc {α : Type} (c : Bool) (t f : α) : α := @Bool.rec (fun _ => α) f t c
theorem brc_cptV {c : Bool} {p q : Cpt} : brc c (some (cptV p, Option.none (α := Blk))) (some (cptV q, Option.none)) = some (cptV (bif c then p else q), Option.none) := by cases c <;> rfl
theorem doubleL_run (o : FOps) (p : Cpt) : runNL (X_thirdL o) [] [0,1,2,3,4,5,8] 300 Try.f112 (bodyOf Try.f112) (laArgs [.v (cptV p)] 0) (laLists [.v (cptV p)]) = brc (o.risZero p.y) (some (cptV (goneC p.f), none)) (some (cptV (thirdO o p (dbN o p) (dbD o p) p.z (o.radd p.x p.x) p.x p.y), none)) := by
  kernel_rfl
def g_doubleL (o : FOps) (args : List LA) : Option (AV × Option Blk) := match args with
  | [.v x0] => (match cpt? x0 with
    | some p => some (cptV (doubleO o p), none)
    | _ => none)
  | _ => none
theorem doubleL_at : QuietAt Try.prog 112 (lav (g_doubleL concFOps)) := by
  refine quietAt_of_runA X_thirdL_ok (L := []) (keep := [0,1,2,3,4,5,8]) Try.func112 (c := bodyOf Try.f112) (by kernel_rfl) (by kernel_rfl) (LoopsOK.nil) fun args v h hw => ⟨300, ?_⟩
  unfold g_doubleL at h
  split at h
  · rename_i x0
    split at h
    · rename_i p hh0
      have ehh0 := cpt?_some hh0
      subst ehh0
      rw [← h]
      refine (doubleL_run concFOps p).trans ?_
      exact brc_cptV
    · cases h
  · cases h
noncomputable def X_doubleL (o : FOps) : Cx := { X_thirdL o with O := addQ (X_thirdL o).O 112 (lav (g_doubleL o)) }
theorem X_doubleL_ok : CxOK Try.prog (X_doubleL concFOps) := { X_thirdL_ok with quiet := addQ_ok X_thirdL_ok.quiet doubleL_at }
def plN (o : FOps) (p q : Cpt) : L4 := o.rsub (o.rmul q.y p.z) (o.rmul p.y q.z)
def plD (o : FOps) (p q : Cpt) : L4 := o.rsub (o.rmul q.x p.z) (o.rmul p.x q.z)
def plT (o : FOps) (p q : Cpt) : Cpt := thirdO o p (plN o p q) (plD o p q) (o.rmul p.z q.z) (o.radd (o.rmul p.x q.z) (o.rmul q.x p.z)) (o.rmul p.x q.z) (o.rmul p.y q.z)
def plusO (o : FOps) (p q : Cpt) : Cpt := bif p.none then q else bif q.none then p else bif o.risZero (plD o p q) then (bif o.risZero (plN o p q) then doubleO o p else goneC p.f) else plT o p q
noncomputable def cs (p : Cpt) : Option (AV × Option Blk) := some (cptV p, none)
noncomputable def plusT (o : FOps) (p q : Cpt) : Option (AV × Option Blk) := brc p.none (cs q) (brc q.none (cs p)
  (brc (o.risZero (plD o p q)) (brc (o.risZero (plN o p q)) (cs (doubleO o p)) (brc (o.risZero (plD o p q)) (cs (goneC p.f)) (cs (plT o p q)))) (brc (o.risZero (plD o p q)) (cs (goneC p.f)) (cs (plT o p q)))))
theorem plusT_eq (o : FOps) (p q : Cpt) : plusT o p q = cs (plusO o p q) := by
  unfold plusT plusO
  cases p.none <;> cases q.none <;> cases o.risZero (plD o p q) <;> cases o.risZero (plN o p q) <;> rfl
theorem plusL_run (o : FOps) (p : Cpt) (q : Cpt) : runNL (X_doubleL o) [] [0,1,2,3,4,5,6,8,11,38,39,40,44] 300 Try.f73 (bodyOf Try.f73) (laArgs [.v (cptV p), .v (cptV q)] 0) (laLists [.v (cptV p), .v (cptV q)]) = plusT o p q := by
  kernel_rfl
def g_plusL (o : FOps) (args : List LA) : Option (AV × Option Blk) := match args with
  | [.v x0, .v x1] => (match cpt? x0, cpt? x1 with
    | some p, some q => some (cptV (plusO o p q), none)
    | _, _ => none)
  | _ => none
theorem plusL_at : QuietAt Try.prog 73 (lav (g_plusL concFOps)) := by
  refine quietAt_of_runA X_doubleL_ok (L := []) (keep := [0,1,2,3,4,5,6,8,11,38,39,40,44]) Try.func73 (c := bodyOf Try.f73) (by kernel_rfl) (by kernel_rfl) (LoopsOK.nil) fun args v h hw => ⟨300, ?_⟩
  unfold g_plusL at h
  split at h
  · rename_i x0 x1
    split at h
    · rename_i p q hh0 hh1
      have ehh0 := cpt?_some hh0
      subst ehh0
      have ehh1 := cpt?_some hh1
      subst ehh1
      rw [← h]
      refine (plusL_run concFOps p q).trans ?_
      exact plusT_eq concFOps p q
    · cases h
  · cases h
noncomputable def X_plusL (o : FOps) : Cx := { X_doubleL o with O := addQ (X_doubleL o).O 73 (lav (g_plusL o)) }
theorem X_plusL_ok : CxOK Try.prog (X_plusL concFOps) := { X_doubleL_ok with quiet := addQ_ok X_doubleL_ok.quiet plusL_at }
def numO (o : FOps) (p : Cpt) : K32 := bif p.none then zeroK else o.rbytes (o.rmul p.x (rinvO o p.z))
theorem numL_run (o : FOps) (p : Cpt) : runNL (X_plusL o) [] [0,1,2,4] 200 Try.f74 (bodyOf Try.f74) (laArgs [.v (cptV p)] 0) (laLists [.v (cptV p)]) = brc p.none (some (keyV zeroK, none)) (some (keyV (o.rbytes (o.rmul p.x (rinvO o p.z))), none)) := by
  kernel_rfl
def g_numL (o : FOps) (args : List LA) : Option (AV × Option Blk) := match args with
  | [.v x0] => (match cpt? x0 with
    | some p => some (keyV (numO o p), none)
    | _ => none)
  | _ => none
theorem numL_at : QuietAt Try.prog 74 (lav (g_numL concFOps)) := by
  refine quietAt_of_runA X_plusL_ok (L := []) (keep := [0,1,2,4]) Try.func74 (c := bodyOf Try.f74) (by kernel_rfl) (by kernel_rfl) (LoopsOK.nil) fun args v h hw => ⟨200, ?_⟩
  unfold g_numL at h
  split at h
  · rename_i x0
    split at h
    · rename_i p hh0
      have ehh0 := cpt?_some hh0
      subst ehh0
      rw [← h]
      refine (numL_run concFOps p).trans ?_
      unfold numO; cases p.none <;> rfl
    · cases h
  · cases h
noncomputable def X_numL (o : FOps) : Cx := { X_plusL o with O := addQ (X_plusL o).O 74 (lav (g_numL o)) }
theorem X_numL_ok : CxOK Try.prog (X_numL concFOps) := { X_plusL_ok with quiet := addQ_ok X_plusL_ok.quiet numL_at }
def atW (o : FOps) (u : L4) : L4 := o.rmul u (o.radd (o.radd (o.rsq u) (o.rmul (midO o) u)) (o.rsmall 1))
def atO (o : FOps) (u : L4) : Cpt := bif rrootB o (atW o u) then ⟨o.rsmall 1, u, rrootO o (atW o u), o.rsmall 1, false⟩ else ⟨o.rsmall 2, u, rrootO o (o.rmul (atW o u) (rinvO o (o.rsmall 2))), o.rsmall 1, false⟩
theorem atL_run (o : FOps) (u : L4) : runNL (X_numL o) [] [0,1,2,3,4,5,6,24] 300 Try.f72 (bodyOf Try.f72) (laArgs [.v (rnumV u)] 0) (laLists [.v (rnumV u)]) = brc (!rrootB o (atW o u)) (cs ⟨o.rsmall 2, u, rrootO o (o.rmul (atW o u) (rinvO o (o.rsmall 2))), o.rsmall 1, false⟩) (cs ⟨o.rsmall 1, u, rrootO o (atW o u), o.rsmall 1, false⟩) := by
  kernel_rfl
def g_atL (o : FOps) (args : List LA) : Option (AV × Option Blk) := match args with
  | [.v x0] => (match rnum? x0 with
    | some u => some (cptV (atO o u), none)
    | _ => none)
  | _ => none
theorem atL_at : QuietAt Try.prog 72 (lav (g_atL concFOps)) := by
  refine quietAt_of_runA X_numL_ok (L := []) (keep := [0,1,2,3,4,5,6,24]) Try.func72 (c := bodyOf Try.f72) (by kernel_rfl) (by kernel_rfl) (LoopsOK.nil) fun args v h hw => ⟨300, ?_⟩
  unfold g_atL at h
  split at h
  · rename_i x0
    split at h
    · rename_i u hh0
      have ehh0 := rnum?_some hh0
      subst ehh0
      rw [← h]
      refine (atL_run concFOps u).trans ?_
      unfold atO; cases rrootB concFOps (atW concFOps u) <;> rfl
    · cases h
  · cases h
noncomputable def X_atL (o : FOps) : Cx := { X_numL o with O := addQ (X_numL o).O 72 (lav (g_atL o)) }
theorem X_atL_ok : CxOK Try.prog (X_atL concFOps) := { X_numL_ok with quiet := addQ_ok X_numL_ok.quiet atL_at }
end Go.Proofs.Ytfajgpjpabeafaa

