/- The functions of layer 2, walked: the program's and the document's. -/
import Derived.Test.YtfajgpjpabeafaaFe
import Derived.Test.YtfajgpjpabeafaaPwMd
namespace Go.Proofs.Ytfajgpjpabeafaa
open Go Pw Go.RowKit

def clampS (k : K32) : K32 := { k with b0 := k.b0 &&& 248, b31 := k.b31 &&& 127 ||| 64 }
def clampR (k : K32) : K32 := { k with b0 := k.b0 / 8 * 8 % 256, b31 := (k.b31 % 64 + 64) % 256 }
theorem clampP_run (o : FOps) (k : K32) : runNL (X_halfLaw o) [] [0,1,2] 200 Try.f26 (bodyOf Try.f26) (laArgs [.v (keyV k)] 0) (laLists [.v (keyV k)]) = some (keyV (clampS k), none) := by
  kernel_rfl
def g_clampP (_ : FOps) (args : List LA) : Option (AV × Option Blk) := match args with
  | [.v x0] => (match key? x0 with
    | some k => some (keyV (clampS k), none)
    | _ => none)
  | _ => none
theorem clampP_at : QuietAt Try.prog 26 (lav (g_clampP concFOps)) := by
  refine quietAt_of_runA X_halfLaw_ok (L := []) (keep := [0,1,2]) Try.func26 (c := bodyOf Try.f26) (by kernel_rfl) (by kernel_rfl) (LoopsOK.nil) fun args v h hw => ⟨200, ?_⟩
  unfold g_clampP at h
  split at h
  · rename_i x0
    split at h
    · rename_i k hh0
      have ehh0 := key?_some hh0
      subst ehh0
      rw [← h]
      refine (clampP_run concFOps k).trans ?_
      rfl
    · cases h
  · cases h
def X_clampP (o : FOps) : Cx := { X_halfLaw o with O := addQ (X_halfLaw o).O 26 (lav (g_clampP o)) }
theorem X_clampP_ok : CxOK Try.prog (X_clampP concFOps) := { X_halfLaw_ok with quiet := addQ_ok X_halfLaw_ok.quiet clampP_at }
theorem clampD_run (o : FOps) (k : K32) : runNL (X_clampP o) [] [0,1,2] 200 Try.f27 (bodyOf Try.f27) (laArgs [.v (keyV k)] 0) (laLists [.v (keyV k)]) = some (keyV (clampR k), none) := by
  kernel_rfl
def g_clampD (_ : FOps) (args : List LA) : Option (AV × Option Blk) := match args with
  | [.v x0] => (match key? x0 with
    | some k => some (keyV (clampR k), none)
    | _ => none)
  | _ => none
theorem clampD_at : QuietAt Try.prog 27 (lav (g_clampD concFOps)) := by
  refine quietAt_of_runA X_clampP_ok (L := []) (keep := [0,1,2]) Try.func27 (c := bodyOf Try.f27) (by kernel_rfl) (by kernel_rfl) (LoopsOK.nil) fun args v h hw => ⟨200, ?_⟩
  unfold g_clampD at h
  split at h
  · rename_i x0
    split at h
    · rename_i k hh0
      have ehh0 := key?_some hh0
      subst ehh0
      rw [← h]
      refine (clampD_run concFOps k).trans ?_
      rfl
    · cases h
  · cases h
def X_clampD (o : FOps) : Cx := { X_clampP o with O := addQ (X_clampP o).O 27 (lav (g_clampD o)) }
theorem X_clampD_ok : CxOK Try.prog (X_clampD concFOps) := { X_clampP_ok with quiet := addQ_ok X_clampP_ok.quiet clampD_at }
def swapRg (r : Rungs) (on : Bool) : Rungs := ⟨bif on then r.c else r.a, bif on then r.d else r.b, bif on then r.a else r.c, bif on then r.b else r.d⟩
theorem swapP_run (o : FOps) (r : Rungs) (on : Bool) : runNL (X_clampD o) [] [0,1,2,4] 200 Try.f106 (bodyOf Try.f106) (laArgs [.v (rungsV r), .v (.bool on)] 0) (laLists [.v (rungsV r), .v (.bool on)]) = some (rungsV (swapRg r on), none) := by
  kernel_rfl
def g_swapP (_ : FOps) (args : List LA) : Option (AV × Option Blk) := match args with
  | [.v x0, .v x1] => (match rungs? x0, bool? x1 with
    | some r, some on => some (rungsV (swapRg r on), none)
    | _, _ => none)
  | _ => none
theorem swapP_at : QuietAt Try.prog 106 (lav (g_swapP concFOps)) := by
  refine quietAt_of_runA X_clampD_ok (L := []) (keep := [0,1,2,4]) Try.func106 (c := bodyOf Try.f106) (by kernel_rfl) (by kernel_rfl) (LoopsOK.nil) fun args v h hw => ⟨200, ?_⟩
  unfold g_swapP at h
  split at h
  · rename_i x0 x1
    split at h
    · rename_i r on hh0 hh1
      have ehh0 := rungs?_some hh0
      subst ehh0
      have ehh1 := bool?_some hh1
      subst ehh1
      rw [← h]
      refine (swapP_run concFOps r on).trans ?_
      rfl
    · cases h
  · cases h
def X_swapP (o : FOps) : Cx := { X_clampD o with O := addQ (X_clampD o).O 106 (lav (g_swapP o)) }
theorem X_swapP_ok : CxOK Try.prog (X_swapP concFOps) := { X_clampD_ok with quiet := addQ_ok X_clampD_ok.quiet swapP_at }
def stepRg (o : FOps) (r : Rungs) (x : L5) : Rungs :=
  let e := o.add r.a r.b
  let f := o.sub r.a r.b
  let m := o.mul (o.sub r.c r.d) e
  let n := o.mul (o.add r.c r.d) f
  let y := o.sq e
  let z := o.sq f
  let diff := o.sub y z
  ⟨o.mul y z, o.mul diff (o.add y (o.times diff 121665)), o.sq (o.add m n), o.mul x (o.sq (o.sub m n))⟩
theorem stepP_run (o : FOps) (r : Rungs) (x : L5) : runNL (X_swapP o) [] [0,1,2,3,4,5,6,7,8,9,10,11] 200 Try.f107 (bodyOf Try.f107) (laArgs [.v (rungsV r), .v (numV x)] 0) (laLists [.v (rungsV r), .v (numV x)]) = some (rungsV (stepRg o r x), none) := by
  kernel_rfl
def g_stepP (o : FOps) (args : List LA) : Option (AV × Option Blk) := match args with
  | [.v x0, .v x1] => (match rungs? x0, num? x1 with
    | some r, some x => some (rungsV (stepRg o r x), none)
    | _, _ => none)
  | _ => none
theorem stepP_at : QuietAt Try.prog 107 (lav (g_stepP concFOps)) := by
  refine quietAt_of_runA X_swapP_ok (L := []) (keep := [0,1,2,3,4,5,6,7,8,9,10,11]) Try.func107 (c := bodyOf Try.f107) (by kernel_rfl) (by kernel_rfl) (LoopsOK.nil) fun args v h hw => ⟨200, ?_⟩
  unfold g_stepP at h
  split at h
  · rename_i x0 x1
    split at h
    · rename_i r x hh0 hh1
      have ehh0 := rungs?_some hh0
      subst ehh0
      have ehh1 := num?_some hh1
      subst ehh1
      rw [← h]
      refine (stepP_run concFOps r x).trans ?_
      rfl
    · cases h
  · cases h
def X_stepP (o : FOps) : Cx := { X_swapP o with O := addQ (X_swapP o).O 107 (lav (g_stepP o)) }
theorem X_stepP_ok : CxOK Try.prog (X_stepP concFOps) := { X_swapP_ok with quiet := addQ_ok X_swapP_ok.quiet stepP_at }
def turnRg (r : RRungs) : RRungs := ⟨r.c, r.d, r.a, r.b⟩
theorem turnD_run (o : FOps) (r : RRungs) : runNL (X_stepP o) [] [0,1,2] 200 Try.f109 (bodyOf Try.f109) (laArgs [.v (rrungsV r)] 0) (laLists [.v (rrungsV r)]) = some (rrungsV (turnRg r), none) := by
  kernel_rfl
def g_turnD (_ : FOps) (args : List LA) : Option (AV × Option Blk) := match args with
  | [.v x0] => (match rrungs? x0 with
    | some r => some (rrungsV (turnRg r), none)
    | _ => none)
  | _ => none
theorem turnD_at : QuietAt Try.prog 109 (lav (g_turnD concFOps)) := by
  refine quietAt_of_runA X_stepP_ok (L := []) (keep := [0,1,2]) Try.func109 (c := bodyOf Try.f109) (by kernel_rfl) (by kernel_rfl) (LoopsOK.nil) fun args v h hw => ⟨200, ?_⟩
  unfold g_turnD at h
  split at h
  · rename_i x0
    split at h
    · rename_i r hh0
      have ehh0 := rrungs?_some hh0
      subst ehh0
      rw [← h]
      refine (turnD_run concFOps r).trans ?_
      rfl
    · cases h
  · cases h
def X_turnD (o : FOps) : Cx := { X_stepP o with O := addQ (X_stepP o).O 109 (lav (g_turnD o)) }
theorem X_turnD_ok : CxOK Try.prog (X_turnD concFOps) := { X_stepP_ok with quiet := addQ_ok X_stepP_ok.quiet turnD_at }
def rstepRg (o : FOps) (x : L4) (r : RRungs) : RRungs :=
  let e := o.radd r.a r.b
  let f := o.rsub r.a r.b
  let g := o.radd r.c r.d
  let h := o.rsub r.c r.d
  let y := o.rsq e
  let z := o.rsq f
  let w := o.rsub y z
  let m := o.rmul h e
  let n := o.rmul g f
  ⟨o.rmul y z, o.rmul w (o.radd y (o.rmul (o.rsmall 121665) w)), o.rsq (o.radd m n), o.rmul x (o.rsq (o.rsub m n))⟩
theorem stepD_run (o : FOps) (x : L4) (r : RRungs) : runNL (X_turnD o) [] [0,1,2,3,4,5,6,7,8,9,10,11,12,13] 200 Try.f110 (bodyOf Try.f110) (laArgs [.v (rnumV x), .v (rrungsV r)] 0) (laLists [.v (rnumV x), .v (rrungsV r)]) = some (rrungsV (rstepRg o x r), none) := by
  kernel_rfl
def g_stepD (o : FOps) (args : List LA) : Option (AV × Option Blk) := match args with
  | [.v x0, .v x1] => (match rnum? x0, rrungs? x1 with
    | some x, some r => some (rrungsV (rstepRg o x r), none)
    | _, _ => none)
  | _ => none
theorem stepD_at : QuietAt Try.prog 110 (lav (g_stepD concFOps)) := by
  refine quietAt_of_runA X_turnD_ok (L := []) (keep := [0,1,2,3,4,5,6,7,8,9,10,11,12,13]) Try.func110 (c := bodyOf Try.f110) (by kernel_rfl) (by kernel_rfl) (LoopsOK.nil) fun args v h hw => ⟨200, ?_⟩
  unfold g_stepD at h
  split at h
  · rename_i x0 x1
    split at h
    · rename_i x r hh0 hh1
      have ehh0 := rnum?_some hh0
      subst ehh0
      have ehh1 := rrungs?_some hh1
      subst ehh1
      rw [← h]
      refine (stepD_run concFOps x r).trans ?_
      rfl
    · cases h
  · cases h
def X_stepD (o : FOps) : Cx := { X_turnD o with O := addQ (X_turnD o).O 110 (lav (g_stepD o)) }
theorem X_stepD_ok : CxOK Try.prog (X_stepD concFOps) := { X_turnD_ok with quiet := addQ_ok X_turnD_ok.quiet stepD_at }

/-! ### bits of a key -/
def kbit (k : K32) (t : Nat) : Bool := decide (byteAt k (t / 8) / 2 ^ (min (t % 8) 8) &&& 1 = 1)
def rkbit (k : K32) (t : Nat) : Bool := decide (byteAt k (t / 8) / 2 ^ (min (t % 8) 8) % 2 = 1)
theorem rbit_run_0 (o : FOps) (k : K32) : ∀ j : Nat, j < 8 → runNL (X_stepD o) [] [0,1,2,4] 60 Try.f108 (bodyOf Try.f108) (laArgs [.v (keyV k), .v (.n (((0 + j) : Nat) : Int))] 0) (laLists [.v (keyV k), .v (.n (((0 + j) : Nat) : Int))]) = some (.bool (rkbit k (0 + j)), none)
  | 0, _ => by kernel_rfl
  | 1, _ => by kernel_rfl
  | 2, _ => by kernel_rfl
  | 3, _ => by kernel_rfl
  | 4, _ => by kernel_rfl
  | 5, _ => by kernel_rfl
  | 6, _ => by kernel_rfl
  | 7, _ => by kernel_rfl
theorem rbit_run_1 (o : FOps) (k : K32) : ∀ j : Nat, j < 8 → runNL (X_stepD o) [] [0,1,2,4] 60 Try.f108 (bodyOf Try.f108) (laArgs [.v (keyV k), .v (.n (((8 + j) : Nat) : Int))] 0) (laLists [.v (keyV k), .v (.n (((8 + j) : Nat) : Int))]) = some (.bool (rkbit k (8 + j)), none)
  | 0, _ => by kernel_rfl
  | 1, _ => by kernel_rfl
  | 2, _ => by kernel_rfl
  | 3, _ => by kernel_rfl
  | 4, _ => by kernel_rfl
  | 5, _ => by kernel_rfl
  | 6, _ => by kernel_rfl
  | 7, _ => by kernel_rfl
theorem rbit_run_2 (o : FOps) (k : K32) : ∀ j : Nat, j < 8 → runNL (X_stepD o) [] [0,1,2,4] 60 Try.f108 (bodyOf Try.f108) (laArgs [.v (keyV k), .v (.n (((16 + j) : Nat) : Int))] 0) (laLists [.v (keyV k), .v (.n (((16 + j) : Nat) : Int))]) = some (.bool (rkbit k (16 + j)), none)
  | 0, _ => by kernel_rfl
  | 1, _ => by kernel_rfl
  | 2, _ => by kernel_rfl
  | 3, _ => by kernel_rfl
  | 4, _ => by kernel_rfl
  | 5, _ => by kernel_rfl
  | 6, _ => by kernel_rfl
  | 7, _ => by kernel_rfl
theorem rbit_run_3 (o : FOps) (k : K32) : ∀ j : Nat, j < 8 → runNL (X_stepD o) [] [0,1,2,4] 60 Try.f108 (bodyOf Try.f108) (laArgs [.v (keyV k), .v (.n (((24 + j) : Nat) : Int))] 0) (laLists [.v (keyV k), .v (.n (((24 + j) : Nat) : Int))]) = some (.bool (rkbit k (24 + j)), none)
  | 0, _ => by kernel_rfl
  | 1, _ => by kernel_rfl
  | 2, _ => by kernel_rfl
  | 3, _ => by kernel_rfl
  | 4, _ => by kernel_rfl
  | 5, _ => by kernel_rfl
  | 6, _ => by kernel_rfl
  | 7, _ => by kernel_rfl
theorem rbit_run_4 (o : FOps) (k : K32) : ∀ j : Nat, j < 8 → runNL (X_stepD o) [] [0,1,2,4] 60 Try.f108 (bodyOf Try.f108) (laArgs [.v (keyV k), .v (.n (((32 + j) : Nat) : Int))] 0) (laLists [.v (keyV k), .v (.n (((32 + j) : Nat) : Int))]) = some (.bool (rkbit k (32 + j)), none)
  | 0, _ => by kernel_rfl
  | 1, _ => by kernel_rfl
  | 2, _ => by kernel_rfl
  | 3, _ => by kernel_rfl
  | 4, _ => by kernel_rfl
  | 5, _ => by kernel_rfl
  | 6, _ => by kernel_rfl
  | 7, _ => by kernel_rfl
theorem rbit_run_5 (o : FOps) (k : K32) : ∀ j : Nat, j < 8 → runNL (X_stepD o) [] [0,1,2,4] 60 Try.f108 (bodyOf Try.f108) (laArgs [.v (keyV k), .v (.n (((40 + j) : Nat) : Int))] 0) (laLists [.v (keyV k), .v (.n (((40 + j) : Nat) : Int))]) = some (.bool (rkbit k (40 + j)), none)
  | 0, _ => by kernel_rfl
  | 1, _ => by kernel_rfl
  | 2, _ => by kernel_rfl
  | 3, _ => by kernel_rfl
  | 4, _ => by kernel_rfl
  | 5, _ => by kernel_rfl
  | 6, _ => by kernel_rfl
  | 7, _ => by kernel_rfl
theorem rbit_run_6 (o : FOps) (k : K32) : ∀ j : Nat, j < 8 → runNL (X_stepD o) [] [0,1,2,4] 60 Try.f108 (bodyOf Try.f108) (laArgs [.v (keyV k), .v (.n (((48 + j) : Nat) : Int))] 0) (laLists [.v (keyV k), .v (.n (((48 + j) : Nat) : Int))]) = some (.bool (rkbit k (48 + j)), none)
  | 0, _ => by kernel_rfl
  | 1, _ => by kernel_rfl
  | 2, _ => by kernel_rfl
  | 3, _ => by kernel_rfl
  | 4, _ => by kernel_rfl
  | 5, _ => by kernel_rfl
  | 6, _ => by kernel_rfl
  | 7, _ => by kernel_rfl
theorem rbit_run_7 (o : FOps) (k : K32) : ∀ j : Nat, j < 8 → runNL (X_stepD o) [] [0,1,2,4] 60 Try.f108 (bodyOf Try.f108) (laArgs [.v (keyV k), .v (.n (((56 + j) : Nat) : Int))] 0) (laLists [.v (keyV k), .v (.n (((56 + j) : Nat) : Int))]) = some (.bool (rkbit k (56 + j)), none)
  | 0, _ => by kernel_rfl
  | 1, _ => by kernel_rfl
  | 2, _ => by kernel_rfl
  | 3, _ => by kernel_rfl
  | 4, _ => by kernel_rfl
  | 5, _ => by kernel_rfl
  | 6, _ => by kernel_rfl
  | 7, _ => by kernel_rfl
theorem rbit_run_8 (o : FOps) (k : K32) : ∀ j : Nat, j < 8 → runNL (X_stepD o) [] [0,1,2,4] 60 Try.f108 (bodyOf Try.f108) (laArgs [.v (keyV k), .v (.n (((64 + j) : Nat) : Int))] 0) (laLists [.v (keyV k), .v (.n (((64 + j) : Nat) : Int))]) = some (.bool (rkbit k (64 + j)), none)
  | 0, _ => by kernel_rfl
  | 1, _ => by kernel_rfl
  | 2, _ => by kernel_rfl
  | 3, _ => by kernel_rfl
  | 4, _ => by kernel_rfl
  | 5, _ => by kernel_rfl
  | 6, _ => by kernel_rfl
  | 7, _ => by kernel_rfl
theorem rbit_run_9 (o : FOps) (k : K32) : ∀ j : Nat, j < 8 → runNL (X_stepD o) [] [0,1,2,4] 60 Try.f108 (bodyOf Try.f108) (laArgs [.v (keyV k), .v (.n (((72 + j) : Nat) : Int))] 0) (laLists [.v (keyV k), .v (.n (((72 + j) : Nat) : Int))]) = some (.bool (rkbit k (72 + j)), none)
  | 0, _ => by kernel_rfl
  | 1, _ => by kernel_rfl
  | 2, _ => by kernel_rfl
  | 3, _ => by kernel_rfl
  | 4, _ => by kernel_rfl
  | 5, _ => by kernel_rfl
  | 6, _ => by kernel_rfl
  | 7, _ => by kernel_rfl
theorem rbit_run_10 (o : FOps) (k : K32) : ∀ j : Nat, j < 8 → runNL (X_stepD o) [] [0,1,2,4] 60 Try.f108 (bodyOf Try.f108) (laArgs [.v (keyV k), .v (.n (((80 + j) : Nat) : Int))] 0) (laLists [.v (keyV k), .v (.n (((80 + j) : Nat) : Int))]) = some (.bool (rkbit k (80 + j)), none)
  | 0, _ => by kernel_rfl
  | 1, _ => by kernel_rfl
  | 2, _ => by kernel_rfl
  | 3, _ => by kernel_rfl
  | 4, _ => by kernel_rfl
  | 5, _ => by kernel_rfl
  | 6, _ => by kernel_rfl
  | 7, _ => by kernel_rfl
theorem rbit_run_11 (o : FOps) (k : K32) : ∀ j : Nat, j < 8 → runNL (X_stepD o) [] [0,1,2,4] 60 Try.f108 (bodyOf Try.f108) (laArgs [.v (keyV k), .v (.n (((88 + j) : Nat) : Int))] 0) (laLists [.v (keyV k), .v (.n (((88 + j) : Nat) : Int))]) = some (.bool (rkbit k (88 + j)), none)
  | 0, _ => by kernel_rfl
  | 1, _ => by kernel_rfl
  | 2, _ => by kernel_rfl
  | 3, _ => by kernel_rfl
  | 4, _ => by kernel_rfl
  | 5, _ => by kernel_rfl
  | 6, _ => by kernel_rfl
  | 7, _ => by kernel_rfl
theorem rbit_run_12 (o : FOps) (k : K32) : ∀ j : Nat, j < 8 → runNL (X_stepD o) [] [0,1,2,4] 60 Try.f108 (bodyOf Try.f108) (laArgs [.v (keyV k), .v (.n (((96 + j) : Nat) : Int))] 0) (laLists [.v (keyV k), .v (.n (((96 + j) : Nat) : Int))]) = some (.bool (rkbit k (96 + j)), none)
  | 0, _ => by kernel_rfl
  | 1, _ => by kernel_rfl
  | 2, _ => by kernel_rfl
  | 3, _ => by kernel_rfl
  | 4, _ => by kernel_rfl
  | 5, _ => by kernel_rfl
  | 6, _ => by kernel_rfl
  | 7, _ => by kernel_rfl
theorem rbit_run_13 (o : FOps) (k : K32) : ∀ j : Nat, j < 8 → runNL (X_stepD o) [] [0,1,2,4] 60 Try.f108 (bodyOf Try.f108) (laArgs [.v (keyV k), .v (.n (((104 + j) : Nat) : Int))] 0) (laLists [.v (keyV k), .v (.n (((104 + j) : Nat) : Int))]) = some (.bool (rkbit k (104 + j)), none)
  | 0, _ => by kernel_rfl
  | 1, _ => by kernel_rfl
  | 2, _ => by kernel_rfl
  | 3, _ => by kernel_rfl
  | 4, _ => by kernel_rfl
  | 5, _ => by kernel_rfl
  | 6, _ => by kernel_rfl
  | 7, _ => by kernel_rfl
theorem rbit_run_14 (o : FOps) (k : K32) : ∀ j : Nat, j < 8 → runNL (X_stepD o) [] [0,1,2,4] 60 Try.f108 (bodyOf Try.f108) (laArgs [.v (keyV k), .v (.n (((112 + j) : Nat) : Int))] 0) (laLists [.v (keyV k), .v (.n (((112 + j) : Nat) : Int))]) = some (.bool (rkbit k (112 + j)), none)
  | 0, _ => by kernel_rfl
  | 1, _ => by kernel_rfl
  | 2, _ => by kernel_rfl
  | 3, _ => by kernel_rfl
  | 4, _ => by kernel_rfl
  | 5, _ => by kernel_rfl
  | 6, _ => by kernel_rfl
  | 7, _ => by kernel_rfl
theorem rbit_run_15 (o : FOps) (k : K32) : ∀ j : Nat, j < 8 → runNL (X_stepD o) [] [0,1,2,4] 60 Try.f108 (bodyOf Try.f108) (laArgs [.v (keyV k), .v (.n (((120 + j) : Nat) : Int))] 0) (laLists [.v (keyV k), .v (.n (((120 + j) : Nat) : Int))]) = some (.bool (rkbit k (120 + j)), none)
  | 0, _ => by kernel_rfl
  | 1, _ => by kernel_rfl
  | 2, _ => by kernel_rfl
  | 3, _ => by kernel_rfl
  | 4, _ => by kernel_rfl
  | 5, _ => by kernel_rfl
  | 6, _ => by kernel_rfl
  | 7, _ => by kernel_rfl
theorem rbit_run_16 (o : FOps) (k : K32) : ∀ j : Nat, j < 8 → runNL (X_stepD o) [] [0,1,2,4] 60 Try.f108 (bodyOf Try.f108) (laArgs [.v (keyV k), .v (.n (((128 + j) : Nat) : Int))] 0) (laLists [.v (keyV k), .v (.n (((128 + j) : Nat) : Int))]) = some (.bool (rkbit k (128 + j)), none)
  | 0, _ => by kernel_rfl
  | 1, _ => by kernel_rfl
  | 2, _ => by kernel_rfl
  | 3, _ => by kernel_rfl
  | 4, _ => by kernel_rfl
  | 5, _ => by kernel_rfl
  | 6, _ => by kernel_rfl
  | 7, _ => by kernel_rfl
theorem rbit_run_17 (o : FOps) (k : K32) : ∀ j : Nat, j < 8 → runNL (X_stepD o) [] [0,1,2,4] 60 Try.f108 (bodyOf Try.f108) (laArgs [.v (keyV k), .v (.n (((136 + j) : Nat) : Int))] 0) (laLists [.v (keyV k), .v (.n (((136 + j) : Nat) : Int))]) = some (.bool (rkbit k (136 + j)), none)
  | 0, _ => by kernel_rfl
  | 1, _ => by kernel_rfl
  | 2, _ => by kernel_rfl
  | 3, _ => by kernel_rfl
  | 4, _ => by kernel_rfl
  | 5, _ => by kernel_rfl
  | 6, _ => by kernel_rfl
  | 7, _ => by kernel_rfl
theorem rbit_run_18 (o : FOps) (k : K32) : ∀ j : Nat, j < 8 → runNL (X_stepD o) [] [0,1,2,4] 60 Try.f108 (bodyOf Try.f108) (laArgs [.v (keyV k), .v (.n (((144 + j) : Nat) : Int))] 0) (laLists [.v (keyV k), .v (.n (((144 + j) : Nat) : Int))]) = some (.bool (rkbit k (144 + j)), none)
  | 0, _ => by kernel_rfl
  | 1, _ => by kernel_rfl
  | 2, _ => by kernel_rfl
  | 3, _ => by kernel_rfl
  | 4, _ => by kernel_rfl
  | 5, _ => by kernel_rfl
  | 6, _ => by kernel_rfl
  | 7, _ => by kernel_rfl
theorem rbit_run_19 (o : FOps) (k : K32) : ∀ j : Nat, j < 8 → runNL (X_stepD o) [] [0,1,2,4] 60 Try.f108 (bodyOf Try.f108) (laArgs [.v (keyV k), .v (.n (((152 + j) : Nat) : Int))] 0) (laLists [.v (keyV k), .v (.n (((152 + j) : Nat) : Int))]) = some (.bool (rkbit k (152 + j)), none)
  | 0, _ => by kernel_rfl
  | 1, _ => by kernel_rfl
  | 2, _ => by kernel_rfl
  | 3, _ => by kernel_rfl
  | 4, _ => by kernel_rfl
  | 5, _ => by kernel_rfl
  | 6, _ => by kernel_rfl
  | 7, _ => by kernel_rfl
theorem rbit_run_20 (o : FOps) (k : K32) : ∀ j : Nat, j < 8 → runNL (X_stepD o) [] [0,1,2,4] 60 Try.f108 (bodyOf Try.f108) (laArgs [.v (keyV k), .v (.n (((160 + j) : Nat) : Int))] 0) (laLists [.v (keyV k), .v (.n (((160 + j) : Nat) : Int))]) = some (.bool (rkbit k (160 + j)), none)
  | 0, _ => by kernel_rfl
  | 1, _ => by kernel_rfl
  | 2, _ => by kernel_rfl
  | 3, _ => by kernel_rfl
  | 4, _ => by kernel_rfl
  | 5, _ => by kernel_rfl
  | 6, _ => by kernel_rfl
  | 7, _ => by kernel_rfl
theorem rbit_run_21 (o : FOps) (k : K32) : ∀ j : Nat, j < 8 → runNL (X_stepD o) [] [0,1,2,4] 60 Try.f108 (bodyOf Try.f108) (laArgs [.v (keyV k), .v (.n (((168 + j) : Nat) : Int))] 0) (laLists [.v (keyV k), .v (.n (((168 + j) : Nat) : Int))]) = some (.bool (rkbit k (168 + j)), none)
  | 0, _ => by kernel_rfl
  | 1, _ => by kernel_rfl
  | 2, _ => by kernel_rfl
  | 3, _ => by kernel_rfl
  | 4, _ => by kernel_rfl
  | 5, _ => by kernel_rfl
  | 6, _ => by kernel_rfl
  | 7, _ => by kernel_rfl
theorem rbit_run_22 (o : FOps) (k : K32) : ∀ j : Nat, j < 8 → runNL (X_stepD o) [] [0,1,2,4] 60 Try.f108 (bodyOf Try.f108) (laArgs [.v (keyV k), .v (.n (((176 + j) : Nat) : Int))] 0) (laLists [.v (keyV k), .v (.n (((176 + j) : Nat) : Int))]) = some (.bool (rkbit k (176 + j)), none)
  | 0, _ => by kernel_rfl
  | 1, _ => by kernel_rfl
  | 2, _ => by kernel_rfl
  | 3, _ => by kernel_rfl
  | 4, _ => by kernel_rfl
  | 5, _ => by kernel_rfl
  | 6, _ => by kernel_rfl
  | 7, _ => by kernel_rfl
theorem rbit_run_23 (o : FOps) (k : K32) : ∀ j : Nat, j < 8 → runNL (X_stepD o) [] [0,1,2,4] 60 Try.f108 (bodyOf Try.f108) (laArgs [.v (keyV k), .v (.n (((184 + j) : Nat) : Int))] 0) (laLists [.v (keyV k), .v (.n (((184 + j) : Nat) : Int))]) = some (.bool (rkbit k (184 + j)), none)
  | 0, _ => by kernel_rfl
  | 1, _ => by kernel_rfl
  | 2, _ => by kernel_rfl
  | 3, _ => by kernel_rfl
  | 4, _ => by kernel_rfl
  | 5, _ => by kernel_rfl
  | 6, _ => by kernel_rfl
  | 7, _ => by kernel_rfl
theorem rbit_run_24 (o : FOps) (k : K32) : ∀ j : Nat, j < 8 → runNL (X_stepD o) [] [0,1,2,4] 60 Try.f108 (bodyOf Try.f108) (laArgs [.v (keyV k), .v (.n (((192 + j) : Nat) : Int))] 0) (laLists [.v (keyV k), .v (.n (((192 + j) : Nat) : Int))]) = some (.bool (rkbit k (192 + j)), none)
  | 0, _ => by kernel_rfl
  | 1, _ => by kernel_rfl
  | 2, _ => by kernel_rfl
  | 3, _ => by kernel_rfl
  | 4, _ => by kernel_rfl
  | 5, _ => by kernel_rfl
  | 6, _ => by kernel_rfl
  | 7, _ => by kernel_rfl
theorem rbit_run_25 (o : FOps) (k : K32) : ∀ j : Nat, j < 8 → runNL (X_stepD o) [] [0,1,2,4] 60 Try.f108 (bodyOf Try.f108) (laArgs [.v (keyV k), .v (.n (((200 + j) : Nat) : Int))] 0) (laLists [.v (keyV k), .v (.n (((200 + j) : Nat) : Int))]) = some (.bool (rkbit k (200 + j)), none)
  | 0, _ => by kernel_rfl
  | 1, _ => by kernel_rfl
  | 2, _ => by kernel_rfl
  | 3, _ => by kernel_rfl
  | 4, _ => by kernel_rfl
  | 5, _ => by kernel_rfl
  | 6, _ => by kernel_rfl
  | 7, _ => by kernel_rfl
theorem rbit_run_26 (o : FOps) (k : K32) : ∀ j : Nat, j < 8 → runNL (X_stepD o) [] [0,1,2,4] 60 Try.f108 (bodyOf Try.f108) (laArgs [.v (keyV k), .v (.n (((208 + j) : Nat) : Int))] 0) (laLists [.v (keyV k), .v (.n (((208 + j) : Nat) : Int))]) = some (.bool (rkbit k (208 + j)), none)
  | 0, _ => by kernel_rfl
  | 1, _ => by kernel_rfl
  | 2, _ => by kernel_rfl
  | 3, _ => by kernel_rfl
  | 4, _ => by kernel_rfl
  | 5, _ => by kernel_rfl
  | 6, _ => by kernel_rfl
  | 7, _ => by kernel_rfl
theorem rbit_run_27 (o : FOps) (k : K32) : ∀ j : Nat, j < 8 → runNL (X_stepD o) [] [0,1,2,4] 60 Try.f108 (bodyOf Try.f108) (laArgs [.v (keyV k), .v (.n (((216 + j) : Nat) : Int))] 0) (laLists [.v (keyV k), .v (.n (((216 + j) : Nat) : Int))]) = some (.bool (rkbit k (216 + j)), none)
  | 0, _ => by kernel_rfl
  | 1, _ => by kernel_rfl
  | 2, _ => by kernel_rfl
  | 3, _ => by kernel_rfl
  | 4, _ => by kernel_rfl
  | 5, _ => by kernel_rfl
  | 6, _ => by kernel_rfl
  | 7, _ => by kernel_rfl
theorem rbit_run_28 (o : FOps) (k : K32) : ∀ j : Nat, j < 8 → runNL (X_stepD o) [] [0,1,2,4] 60 Try.f108 (bodyOf Try.f108) (laArgs [.v (keyV k), .v (.n (((224 + j) : Nat) : Int))] 0) (laLists [.v (keyV k), .v (.n (((224 + j) : Nat) : Int))]) = some (.bool (rkbit k (224 + j)), none)
  | 0, _ => by kernel_rfl
  | 1, _ => by kernel_rfl
  | 2, _ => by kernel_rfl
  | 3, _ => by kernel_rfl
  | 4, _ => by kernel_rfl
  | 5, _ => by kernel_rfl
  | 6, _ => by kernel_rfl
  | 7, _ => by kernel_rfl
theorem rbit_run_29 (o : FOps) (k : K32) : ∀ j : Nat, j < 8 → runNL (X_stepD o) [] [0,1,2,4] 60 Try.f108 (bodyOf Try.f108) (laArgs [.v (keyV k), .v (.n (((232 + j) : Nat) : Int))] 0) (laLists [.v (keyV k), .v (.n (((232 + j) : Nat) : Int))]) = some (.bool (rkbit k (232 + j)), none)
  | 0, _ => by kernel_rfl
  | 1, _ => by kernel_rfl
  | 2, _ => by kernel_rfl
  | 3, _ => by kernel_rfl
  | 4, _ => by kernel_rfl
  | 5, _ => by kernel_rfl
  | 6, _ => by kernel_rfl
  | 7, _ => by kernel_rfl
theorem rbit_run_30 (o : FOps) (k : K32) : ∀ j : Nat, j < 8 → runNL (X_stepD o) [] [0,1,2,4] 60 Try.f108 (bodyOf Try.f108) (laArgs [.v (keyV k), .v (.n (((240 + j) : Nat) : Int))] 0) (laLists [.v (keyV k), .v (.n (((240 + j) : Nat) : Int))]) = some (.bool (rkbit k (240 + j)), none)
  | 0, _ => by kernel_rfl
  | 1, _ => by kernel_rfl
  | 2, _ => by kernel_rfl
  | 3, _ => by kernel_rfl
  | 4, _ => by kernel_rfl
  | 5, _ => by kernel_rfl
  | 6, _ => by kernel_rfl
  | 7, _ => by kernel_rfl
theorem rbit_run_31 (o : FOps) (k : K32) : ∀ j : Nat, j < 8 → runNL (X_stepD o) [] [0,1,2,4] 60 Try.f108 (bodyOf Try.f108) (laArgs [.v (keyV k), .v (.n (((248 + j) : Nat) : Int))] 0) (laLists [.v (keyV k), .v (.n (((248 + j) : Nat) : Int))]) = some (.bool (rkbit k (248 + j)), none)
  | 0, _ => by kernel_rfl
  | 1, _ => by kernel_rfl
  | 2, _ => by kernel_rfl
  | 3, _ => by kernel_rfl
  | 4, _ => by kernel_rfl
  | 5, _ => by kernel_rfl
  | 6, _ => by kernel_rfl
  | 7, _ => by kernel_rfl
theorem rbit_run (o : FOps) (k : K32) (t : Nat) (ht : t < 256) : runNL (X_stepD o) [] [0,1,2,4] 60 Try.f108 (bodyOf Try.f108) (laArgs [.v (keyV k), .v (.n ((t : Nat) : Int))] 0) (laLists [.v (keyV k), .v (.n ((t : Nat) : Int))]) = some (.bool (rkbit k t), none) := by
  by_cases h0 : t < 8
  · have := rbit_run_0 o k (t - 0) (by omega)
    rw [show 0 + (t - 0) = t by omega] at this
    exact this
  by_cases h1 : t < 16
  · have := rbit_run_1 o k (t - 8) (by omega)
    rw [show 8 + (t - 8) = t by omega] at this
    exact this
  by_cases h2 : t < 24
  · have := rbit_run_2 o k (t - 16) (by omega)
    rw [show 16 + (t - 16) = t by omega] at this
    exact this
  by_cases h3 : t < 32
  · have := rbit_run_3 o k (t - 24) (by omega)
    rw [show 24 + (t - 24) = t by omega] at this
    exact this
  by_cases h4 : t < 40
  · have := rbit_run_4 o k (t - 32) (by omega)
    rw [show 32 + (t - 32) = t by omega] at this
    exact this
  by_cases h5 : t < 48
  · have := rbit_run_5 o k (t - 40) (by omega)
    rw [show 40 + (t - 40) = t by omega] at this
    exact this
  by_cases h6 : t < 56
  · have := rbit_run_6 o k (t - 48) (by omega)
    rw [show 48 + (t - 48) = t by omega] at this
    exact this
  by_cases h7 : t < 64
  · have := rbit_run_7 o k (t - 56) (by omega)
    rw [show 56 + (t - 56) = t by omega] at this
    exact this
  by_cases h8 : t < 72
  · have := rbit_run_8 o k (t - 64) (by omega)
    rw [show 64 + (t - 64) = t by omega] at this
    exact this
  by_cases h9 : t < 80
  · have := rbit_run_9 o k (t - 72) (by omega)
    rw [show 72 + (t - 72) = t by omega] at this
    exact this
  by_cases h10 : t < 88
  · have := rbit_run_10 o k (t - 80) (by omega)
    rw [show 80 + (t - 80) = t by omega] at this
    exact this
  by_cases h11 : t < 96
  · have := rbit_run_11 o k (t - 88) (by omega)
    rw [show 88 + (t - 88) = t by omega] at this
    exact this
  by_cases h12 : t < 104
  · have := rbit_run_12 o k (t - 96) (by omega)
    rw [show 96 + (t - 96) = t by omega] at this
    exact this
  by_cases h13 : t < 112
  · have := rbit_run_13 o k (t - 104) (by omega)
    rw [show 104 + (t - 104) = t by omega] at this
    exact this
  by_cases h14 : t < 120
  · have := rbit_run_14 o k (t - 112) (by omega)
    rw [show 112 + (t - 112) = t by omega] at this
    exact this
  by_cases h15 : t < 128
  · have := rbit_run_15 o k (t - 120) (by omega)
    rw [show 120 + (t - 120) = t by omega] at this
    exact this
  by_cases h16 : t < 136
  · have := rbit_run_16 o k (t - 128) (by omega)
    rw [show 128 + (t - 128) = t by omega] at this
    exact this
  by_cases h17 : t < 144
  · have := rbit_run_17 o k (t - 136) (by omega)
    rw [show 136 + (t - 136) = t by omega] at this
    exact this
  by_cases h18 : t < 152
  · have := rbit_run_18 o k (t - 144) (by omega)
    rw [show 144 + (t - 144) = t by omega] at this
    exact this
  by_cases h19 : t < 160
  · have := rbit_run_19 o k (t - 152) (by omega)
    rw [show 152 + (t - 152) = t by omega] at this
    exact this
  by_cases h20 : t < 168
  · have := rbit_run_20 o k (t - 160) (by omega)
    rw [show 160 + (t - 160) = t by omega] at this
    exact this
  by_cases h21 : t < 176
  · have := rbit_run_21 o k (t - 168) (by omega)
    rw [show 168 + (t - 168) = t by omega] at this
    exact this
  by_cases h22 : t < 184
  · have := rbit_run_22 o k (t - 176) (by omega)
    rw [show 176 + (t - 176) = t by omega] at this
    exact this
  by_cases h23 : t < 192
  · have := rbit_run_23 o k (t - 184) (by omega)
    rw [show 184 + (t - 184) = t by omega] at this
    exact this
  by_cases h24 : t < 200
  · have := rbit_run_24 o k (t - 192) (by omega)
    rw [show 192 + (t - 192) = t by omega] at this
    exact this
  by_cases h25 : t < 208
  · have := rbit_run_25 o k (t - 200) (by omega)
    rw [show 200 + (t - 200) = t by omega] at this
    exact this
  by_cases h26 : t < 216
  · have := rbit_run_26 o k (t - 208) (by omega)
    rw [show 208 + (t - 208) = t by omega] at this
    exact this
  by_cases h27 : t < 224
  · have := rbit_run_27 o k (t - 216) (by omega)
    rw [show 216 + (t - 216) = t by omega] at this
    exact this
  by_cases h28 : t < 232
  · have := rbit_run_28 o k (t - 224) (by omega)
    rw [show 224 + (t - 224) = t by omega] at this
    exact this
  by_cases h29 : t < 240
  · have := rbit_run_29 o k (t - 232) (by omega)
    rw [show 232 + (t - 232) = t by omega] at this
    exact this
  by_cases h30 : t < 248
  · have := rbit_run_30 o k (t - 240) (by omega)
    rw [show 240 + (t - 240) = t by omega] at this
    exact this
  by_cases h31 : t < 256
  · have := rbit_run_31 o k (t - 248) (by omega)
    rw [show 248 + (t - 248) = t by omega] at this
    exact this
  omega
def u_bitD (_ : FOps) (args : List LA) : Option (AV × Option Blk) := match args with
  | [.v x0, .v x1] => (match key? x0, int? x1 with
    | some k, some t => some (.bool (rkbit k t.toNat), none)
    | _, _ => none)
  | _ => none
def c_bitD (args : List LA) : Bool := match args with
  | [.v x0, .v x1] => (match key? x0, int? x1 with
    | some _, some t => decide (0 ≤ t ∧ t < 256)
    | _, _ => false)
  | _ => false
def g_bitD (o : FOps) (args : List LA) : Option (AV × Option Blk) := bif c_bitD args then u_bitD o args else none
theorem bitD_at : QuietAt Try.prog 108 (lav (g_bitD concFOps)) := by
  refine quietAt_of_runA X_stepD_ok (L := []) (keep := [0,1,2,4]) Try.func108 (c := bodyOf Try.f108) (by kernel_rfl) (by kernel_rfl) (LoopsOK.nil) fun args v h hw => ⟨60, ?_⟩
  unfold g_bitD at h
  have hg := (bif_some h).1
  replace h := (bif_some h).2
  unfold u_bitD at h
  split at h
  · rename_i x0 x1
    split at h
    · rename_i k t hh0 hh1
      have ehh0 := key?_some hh0
      subst ehh0
      have ehh1 := int?_some hh1
      subst ehh1
      replace hg : (decide (0 ≤ t ∧ t < 256)) = true := hg
      rw [← h]
      obtain ⟨h0, h1⟩ := of_decide_eq_true hg
      have := rbit_run concFOps k t.toNat (by omega)
      rw [Int.toNat_of_nonneg h0] at this
      exact this
    · cases h
  · cases h
def X_bitD (o : FOps) : Cx := { X_stepD o with O := addQ (X_stepD o).O 108 (lavG c_bitD (u_bitD o)) }
theorem X_bitD_ok : CxOK Try.prog (X_bitD concFOps) := { X_stepD_ok with quiet := addQ_ok X_stepD_ok.quiet (lavG_at bitD_at) }
/-! ### the program's ladder -/
noncomputable abbrev scP : Func := Try.f66
noncomputable abbrev btP : Func := Try.f105
noncomputable def mBit (o : FOps) : List AV → Mem → ∀ {ρ : Type}, (AV → Mem → Option ρ) → Option ρ := fun args mem _ K => runKL (X_bitD o) [] [0,1,3] 60 btP (bodyOf btP) args mem K
theorem mBit_at : LoudAt Try.prog 105 (mBit concFOps) := loudAt_of_run X_bitD_ok Try.func105 (by kernel_rfl) (by kernel_rfl) LoopsOK.nil
noncomputable def X_loud (o : FOps) : Cx := { X_bitD o with M := addM noM 105 (mBit o) }
theorem X_loud_ok : CxOK Try.prog (X_loud concFOps) := { X_bitD_ok with loud := addM_ok noM_ok mBit_at }
structure S_scO where
  v4 : AV
  before : Bool
  t : Int
  k : K32
  B1 : Blk
  B2 : Blk
  x : L5
  B4 : Blk
  r : Rungs
def d_scO : LoopDef S_scO where
  ts := [2, 4, 5, 6, 8, 9, 10]
  E := fun s => [(2, .ptr 0 0), (4, s.v4), (5, .fn 105 [.ptr 0 0]), (6, .ptr 3 0), (8, .ptr 5 0), (9, .bool s.before), (10, .n s.t)]
  M := fun s => [bk (keyV s.k), s.B1, s.B2, bk (numV s.x), s.B4, bk (rungsV s.r)]
  dec := fun vs mem => match vs, mem with
    | [.ptr 0 0, v4, .fn 105 [.ptr 0 0], .ptr 3 0, .ptr 5 0, x9, x10], [B0, B1, B2, B3, B4, B5] => (match bool? x9, int? x10, key? (unbk B0), num? (unbk B3), rungs? (unbk B5) with
      | some before, some t, some k, some x, some r => some ⟨v4, before, t, k, B1, B2, x, B4, r⟩
      | _, _, _, _, _ => none)
    | _, _ => none
  ok := fun vs mem s h => by
    split at h
    · split at h
      · rename_i before t k x r hh0 hh1 hh2 hh3 hh4
        have ehh0 := bool?_some hh0
        subst ehh0
        have ehh1 := int?_some hh1
        subst ehh1
        have ehh2 := unbk_some (key?_some hh2)
        subst ehh2
        have ehh3 := unbk_some (num?_some hh3)
        subst ehh3
        have ehh4 := unbk_some (rungs?_some hh4)
        subst ehh4
        cases h; exact ⟨rfl, rfl⟩
      · cases h
    · cases h
theorem scO_step_0 (o : FOps) (s : S_scO) : ∀ j : Nat, j < 8 → codeK (X_loud o) [] scP.ntmps [0,1,2,3,4,5,6,7,8,9,10,11,23] 80 (loopB (bodyOf scP) 8) (d_scO.E { s with t := (((0 + j) : Nat) : Int) }) (d_scO.M { s with t := (((0 + j) : Nat) : Int) }) (outK d_scO.ts) = some (.normal, d_scO.E { s with t := (((0 + j) : Nat) : Int) - 1, before := kbit s.k (0 + j), r := stepRg o (swapRg s.r (!(kbit s.k (0 + j) == s.before))) s.x }, d_scO.M { s with t := (((0 + j) : Nat) : Int) - 1, before := kbit s.k (0 + j), r := stepRg o (swapRg s.r (!(kbit s.k (0 + j) == s.before))) s.x })
  | 0, _ => by kernel_rfl
  | 1, _ => by kernel_rfl
  | 2, _ => by kernel_rfl
  | 3, _ => by kernel_rfl
  | 4, _ => by kernel_rfl
  | 5, _ => by kernel_rfl
  | 6, _ => by kernel_rfl
  | 7, _ => by kernel_rfl
theorem scO_step_1 (o : FOps) (s : S_scO) : ∀ j : Nat, j < 8 → codeK (X_loud o) [] scP.ntmps [0,1,2,3,4,5,6,7,8,9,10,11,23] 80 (loopB (bodyOf scP) 8) (d_scO.E { s with t := (((8 + j) : Nat) : Int) }) (d_scO.M { s with t := (((8 + j) : Nat) : Int) }) (outK d_scO.ts) = some (.normal, d_scO.E { s with t := (((8 + j) : Nat) : Int) - 1, before := kbit s.k (8 + j), r := stepRg o (swapRg s.r (!(kbit s.k (8 + j) == s.before))) s.x }, d_scO.M { s with t := (((8 + j) : Nat) : Int) - 1, before := kbit s.k (8 + j), r := stepRg o (swapRg s.r (!(kbit s.k (8 + j) == s.before))) s.x })
  | 0, _ => by kernel_rfl
  | 1, _ => by kernel_rfl
  | 2, _ => by kernel_rfl
  | 3, _ => by kernel_rfl
  | 4, _ => by kernel_rfl
  | 5, _ => by kernel_rfl
  | 6, _ => by kernel_rfl
  | 7, _ => by kernel_rfl
theorem scO_step_2 (o : FOps) (s : S_scO) : ∀ j : Nat, j < 8 → codeK (X_loud o) [] scP.ntmps [0,1,2,3,4,5,6,7,8,9,10,11,23] 80 (loopB (bodyOf scP) 8) (d_scO.E { s with t := (((16 + j) : Nat) : Int) }) (d_scO.M { s with t := (((16 + j) : Nat) : Int) }) (outK d_scO.ts) = some (.normal, d_scO.E { s with t := (((16 + j) : Nat) : Int) - 1, before := kbit s.k (16 + j), r := stepRg o (swapRg s.r (!(kbit s.k (16 + j) == s.before))) s.x }, d_scO.M { s with t := (((16 + j) : Nat) : Int) - 1, before := kbit s.k (16 + j), r := stepRg o (swapRg s.r (!(kbit s.k (16 + j) == s.before))) s.x })
  | 0, _ => by kernel_rfl
  | 1, _ => by kernel_rfl
  | 2, _ => by kernel_rfl
  | 3, _ => by kernel_rfl
  | 4, _ => by kernel_rfl
  | 5, _ => by kernel_rfl
  | 6, _ => by kernel_rfl
  | 7, _ => by kernel_rfl
theorem scO_step_3 (o : FOps) (s : S_scO) : ∀ j : Nat, j < 8 → codeK (X_loud o) [] scP.ntmps [0,1,2,3,4,5,6,7,8,9,10,11,23] 80 (loopB (bodyOf scP) 8) (d_scO.E { s with t := (((24 + j) : Nat) : Int) }) (d_scO.M { s with t := (((24 + j) : Nat) : Int) }) (outK d_scO.ts) = some (.normal, d_scO.E { s with t := (((24 + j) : Nat) : Int) - 1, before := kbit s.k (24 + j), r := stepRg o (swapRg s.r (!(kbit s.k (24 + j) == s.before))) s.x }, d_scO.M { s with t := (((24 + j) : Nat) : Int) - 1, before := kbit s.k (24 + j), r := stepRg o (swapRg s.r (!(kbit s.k (24 + j) == s.before))) s.x })
  | 0, _ => by kernel_rfl
  | 1, _ => by kernel_rfl
  | 2, _ => by kernel_rfl
  | 3, _ => by kernel_rfl
  | 4, _ => by kernel_rfl
  | 5, _ => by kernel_rfl
  | 6, _ => by kernel_rfl
  | 7, _ => by kernel_rfl
theorem scO_step_4 (o : FOps) (s : S_scO) : ∀ j : Nat, j < 8 → codeK (X_loud o) [] scP.ntmps [0,1,2,3,4,5,6,7,8,9,10,11,23] 80 (loopB (bodyOf scP) 8) (d_scO.E { s with t := (((32 + j) : Nat) : Int) }) (d_scO.M { s with t := (((32 + j) : Nat) : Int) }) (outK d_scO.ts) = some (.normal, d_scO.E { s with t := (((32 + j) : Nat) : Int) - 1, before := kbit s.k (32 + j), r := stepRg o (swapRg s.r (!(kbit s.k (32 + j) == s.before))) s.x }, d_scO.M { s with t := (((32 + j) : Nat) : Int) - 1, before := kbit s.k (32 + j), r := stepRg o (swapRg s.r (!(kbit s.k (32 + j) == s.before))) s.x })
  | 0, _ => by kernel_rfl
  | 1, _ => by kernel_rfl
  | 2, _ => by kernel_rfl
  | 3, _ => by kernel_rfl
  | 4, _ => by kernel_rfl
  | 5, _ => by kernel_rfl
  | 6, _ => by kernel_rfl
  | 7, _ => by kernel_rfl
theorem scO_step_5 (o : FOps) (s : S_scO) : ∀ j : Nat, j < 8 → codeK (X_loud o) [] scP.ntmps [0,1,2,3,4,5,6,7,8,9,10,11,23] 80 (loopB (bodyOf scP) 8) (d_scO.E { s with t := (((40 + j) : Nat) : Int) }) (d_scO.M { s with t := (((40 + j) : Nat) : Int) }) (outK d_scO.ts) = some (.normal, d_scO.E { s with t := (((40 + j) : Nat) : Int) - 1, before := kbit s.k (40 + j), r := stepRg o (swapRg s.r (!(kbit s.k (40 + j) == s.before))) s.x }, d_scO.M { s with t := (((40 + j) : Nat) : Int) - 1, before := kbit s.k (40 + j), r := stepRg o (swapRg s.r (!(kbit s.k (40 + j) == s.before))) s.x })
  | 0, _ => by kernel_rfl
  | 1, _ => by kernel_rfl
  | 2, _ => by kernel_rfl
  | 3, _ => by kernel_rfl
  | 4, _ => by kernel_rfl
  | 5, _ => by kernel_rfl
  | 6, _ => by kernel_rfl
  | 7, _ => by kernel_rfl
theorem scO_step_6 (o : FOps) (s : S_scO) : ∀ j : Nat, j < 8 → codeK (X_loud o) [] scP.ntmps [0,1,2,3,4,5,6,7,8,9,10,11,23] 80 (loopB (bodyOf scP) 8) (d_scO.E { s with t := (((48 + j) : Nat) : Int) }) (d_scO.M { s with t := (((48 + j) : Nat) : Int) }) (outK d_scO.ts) = some (.normal, d_scO.E { s with t := (((48 + j) : Nat) : Int) - 1, before := kbit s.k (48 + j), r := stepRg o (swapRg s.r (!(kbit s.k (48 + j) == s.before))) s.x }, d_scO.M { s with t := (((48 + j) : Nat) : Int) - 1, before := kbit s.k (48 + j), r := stepRg o (swapRg s.r (!(kbit s.k (48 + j) == s.before))) s.x })
  | 0, _ => by kernel_rfl
  | 1, _ => by kernel_rfl
  | 2, _ => by kernel_rfl
  | 3, _ => by kernel_rfl
  | 4, _ => by kernel_rfl
  | 5, _ => by kernel_rfl
  | 6, _ => by kernel_rfl
  | 7, _ => by kernel_rfl
theorem scO_step_7 (o : FOps) (s : S_scO) : ∀ j : Nat, j < 8 → codeK (X_loud o) [] scP.ntmps [0,1,2,3,4,5,6,7,8,9,10,11,23] 80 (loopB (bodyOf scP) 8) (d_scO.E { s with t := (((56 + j) : Nat) : Int) }) (d_scO.M { s with t := (((56 + j) : Nat) : Int) }) (outK d_scO.ts) = some (.normal, d_scO.E { s with t := (((56 + j) : Nat) : Int) - 1, before := kbit s.k (56 + j), r := stepRg o (swapRg s.r (!(kbit s.k (56 + j) == s.before))) s.x }, d_scO.M { s with t := (((56 + j) : Nat) : Int) - 1, before := kbit s.k (56 + j), r := stepRg o (swapRg s.r (!(kbit s.k (56 + j) == s.before))) s.x })
  | 0, _ => by kernel_rfl
  | 1, _ => by kernel_rfl
  | 2, _ => by kernel_rfl
  | 3, _ => by kernel_rfl
  | 4, _ => by kernel_rfl
  | 5, _ => by kernel_rfl
  | 6, _ => by kernel_rfl
  | 7, _ => by kernel_rfl
theorem scO_step_8 (o : FOps) (s : S_scO) : ∀ j : Nat, j < 8 → codeK (X_loud o) [] scP.ntmps [0,1,2,3,4,5,6,7,8,9,10,11,23] 80 (loopB (bodyOf scP) 8) (d_scO.E { s with t := (((64 + j) : Nat) : Int) }) (d_scO.M { s with t := (((64 + j) : Nat) : Int) }) (outK d_scO.ts) = some (.normal, d_scO.E { s with t := (((64 + j) : Nat) : Int) - 1, before := kbit s.k (64 + j), r := stepRg o (swapRg s.r (!(kbit s.k (64 + j) == s.before))) s.x }, d_scO.M { s with t := (((64 + j) : Nat) : Int) - 1, before := kbit s.k (64 + j), r := stepRg o (swapRg s.r (!(kbit s.k (64 + j) == s.before))) s.x })
  | 0, _ => by kernel_rfl
  | 1, _ => by kernel_rfl
  | 2, _ => by kernel_rfl
  | 3, _ => by kernel_rfl
  | 4, _ => by kernel_rfl
  | 5, _ => by kernel_rfl
  | 6, _ => by kernel_rfl
  | 7, _ => by kernel_rfl
theorem scO_step_9 (o : FOps) (s : S_scO) : ∀ j : Nat, j < 8 → codeK (X_loud o) [] scP.ntmps [0,1,2,3,4,5,6,7,8,9,10,11,23] 80 (loopB (bodyOf scP) 8) (d_scO.E { s with t := (((72 + j) : Nat) : Int) }) (d_scO.M { s with t := (((72 + j) : Nat) : Int) }) (outK d_scO.ts) = some (.normal, d_scO.E { s with t := (((72 + j) : Nat) : Int) - 1, before := kbit s.k (72 + j), r := stepRg o (swapRg s.r (!(kbit s.k (72 + j) == s.before))) s.x }, d_scO.M { s with t := (((72 + j) : Nat) : Int) - 1, before := kbit s.k (72 + j), r := stepRg o (swapRg s.r (!(kbit s.k (72 + j) == s.before))) s.x })
  | 0, _ => by kernel_rfl
  | 1, _ => by kernel_rfl
  | 2, _ => by kernel_rfl
  | 3, _ => by kernel_rfl
  | 4, _ => by kernel_rfl
  | 5, _ => by kernel_rfl
  | 6, _ => by kernel_rfl
  | 7, _ => by kernel_rfl
theorem scO_step_10 (o : FOps) (s : S_scO) : ∀ j : Nat, j < 8 → codeK (X_loud o) [] scP.ntmps [0,1,2,3,4,5,6,7,8,9,10,11,23] 80 (loopB (bodyOf scP) 8) (d_scO.E { s with t := (((80 + j) : Nat) : Int) }) (d_scO.M { s with t := (((80 + j) : Nat) : Int) }) (outK d_scO.ts) = some (.normal, d_scO.E { s with t := (((80 + j) : Nat) : Int) - 1, before := kbit s.k (80 + j), r := stepRg o (swapRg s.r (!(kbit s.k (80 + j) == s.before))) s.x }, d_scO.M { s with t := (((80 + j) : Nat) : Int) - 1, before := kbit s.k (80 + j), r := stepRg o (swapRg s.r (!(kbit s.k (80 + j) == s.before))) s.x })
  | 0, _ => by kernel_rfl
  | 1, _ => by kernel_rfl
  | 2, _ => by kernel_rfl
  | 3, _ => by kernel_rfl
  | 4, _ => by kernel_rfl
  | 5, _ => by kernel_rfl
  | 6, _ => by kernel_rfl
  | 7, _ => by kernel_rfl
theorem scO_step_11 (o : FOps) (s : S_scO) : ∀ j : Nat, j < 8 → codeK (X_loud o) [] scP.ntmps [0,1,2,3,4,5,6,7,8,9,10,11,23] 80 (loopB (bodyOf scP) 8) (d_scO.E { s with t := (((88 + j) : Nat) : Int) }) (d_scO.M { s with t := (((88 + j) : Nat) : Int) }) (outK d_scO.ts) = some (.normal, d_scO.E { s with t := (((88 + j) : Nat) : Int) - 1, before := kbit s.k (88 + j), r := stepRg o (swapRg s.r (!(kbit s.k (88 + j) == s.before))) s.x }, d_scO.M { s with t := (((88 + j) : Nat) : Int) - 1, before := kbit s.k (88 + j), r := stepRg o (swapRg s.r (!(kbit s.k (88 + j) == s.before))) s.x })
  | 0, _ => by kernel_rfl
  | 1, _ => by kernel_rfl
  | 2, _ => by kernel_rfl
  | 3, _ => by kernel_rfl
  | 4, _ => by kernel_rfl
  | 5, _ => by kernel_rfl
  | 6, _ => by kernel_rfl
  | 7, _ => by kernel_rfl
theorem scO_step_12 (o : FOps) (s : S_scO) : ∀ j : Nat, j < 8 → codeK (X_loud o) [] scP.ntmps [0,1,2,3,4,5,6,7,8,9,10,11,23] 80 (loopB (bodyOf scP) 8) (d_scO.E { s with t := (((96 + j) : Nat) : Int) }) (d_scO.M { s with t := (((96 + j) : Nat) : Int) }) (outK d_scO.ts) = some (.normal, d_scO.E { s with t := (((96 + j) : Nat) : Int) - 1, before := kbit s.k (96 + j), r := stepRg o (swapRg s.r (!(kbit s.k (96 + j) == s.before))) s.x }, d_scO.M { s with t := (((96 + j) : Nat) : Int) - 1, before := kbit s.k (96 + j), r := stepRg o (swapRg s.r (!(kbit s.k (96 + j) == s.before))) s.x })
  | 0, _ => by kernel_rfl
  | 1, _ => by kernel_rfl
  | 2, _ => by kernel_rfl
  | 3, _ => by kernel_rfl
  | 4, _ => by kernel_rfl
  | 5, _ => by kernel_rfl
  | 6, _ => by kernel_rfl
  | 7, _ => by kernel_rfl
theorem scO_step_13 (o : FOps) (s : S_scO) : ∀ j : Nat, j < 8 → codeK (X_loud o) [] scP.ntmps [0,1,2,3,4,5,6,7,8,9,10,11,23] 80 (loopB (bodyOf scP) 8) (d_scO.E { s with t := (((104 + j) : Nat) : Int) }) (d_scO.M { s with t := (((104 + j) : Nat) : Int) }) (outK d_scO.ts) = some (.normal, d_scO.E { s with t := (((104 + j) : Nat) : Int) - 1, before := kbit s.k (104 + j), r := stepRg o (swapRg s.r (!(kbit s.k (104 + j) == s.before))) s.x }, d_scO.M { s with t := (((104 + j) : Nat) : Int) - 1, before := kbit s.k (104 + j), r := stepRg o (swapRg s.r (!(kbit s.k (104 + j) == s.before))) s.x })
  | 0, _ => by kernel_rfl
  | 1, _ => by kernel_rfl
  | 2, _ => by kernel_rfl
  | 3, _ => by kernel_rfl
  | 4, _ => by kernel_rfl
  | 5, _ => by kernel_rfl
  | 6, _ => by kernel_rfl
  | 7, _ => by kernel_rfl
theorem scO_step_14 (o : FOps) (s : S_scO) : ∀ j : Nat, j < 8 → codeK (X_loud o) [] scP.ntmps [0,1,2,3,4,5,6,7,8,9,10,11,23] 80 (loopB (bodyOf scP) 8) (d_scO.E { s with t := (((112 + j) : Nat) : Int) }) (d_scO.M { s with t := (((112 + j) : Nat) : Int) }) (outK d_scO.ts) = some (.normal, d_scO.E { s with t := (((112 + j) : Nat) : Int) - 1, before := kbit s.k (112 + j), r := stepRg o (swapRg s.r (!(kbit s.k (112 + j) == s.before))) s.x }, d_scO.M { s with t := (((112 + j) : Nat) : Int) - 1, before := kbit s.k (112 + j), r := stepRg o (swapRg s.r (!(kbit s.k (112 + j) == s.before))) s.x })
  | 0, _ => by kernel_rfl
  | 1, _ => by kernel_rfl
  | 2, _ => by kernel_rfl
  | 3, _ => by kernel_rfl
  | 4, _ => by kernel_rfl
  | 5, _ => by kernel_rfl
  | 6, _ => by kernel_rfl
  | 7, _ => by kernel_rfl
theorem scO_step_15 (o : FOps) (s : S_scO) : ∀ j : Nat, j < 8 → codeK (X_loud o) [] scP.ntmps [0,1,2,3,4,5,6,7,8,9,10,11,23] 80 (loopB (bodyOf scP) 8) (d_scO.E { s with t := (((120 + j) : Nat) : Int) }) (d_scO.M { s with t := (((120 + j) : Nat) : Int) }) (outK d_scO.ts) = some (.normal, d_scO.E { s with t := (((120 + j) : Nat) : Int) - 1, before := kbit s.k (120 + j), r := stepRg o (swapRg s.r (!(kbit s.k (120 + j) == s.before))) s.x }, d_scO.M { s with t := (((120 + j) : Nat) : Int) - 1, before := kbit s.k (120 + j), r := stepRg o (swapRg s.r (!(kbit s.k (120 + j) == s.before))) s.x })
  | 0, _ => by kernel_rfl
  | 1, _ => by kernel_rfl
  | 2, _ => by kernel_rfl
  | 3, _ => by kernel_rfl
  | 4, _ => by kernel_rfl
  | 5, _ => by kernel_rfl
  | 6, _ => by kernel_rfl
  | 7, _ => by kernel_rfl
theorem scO_step_16 (o : FOps) (s : S_scO) : ∀ j : Nat, j < 8 → codeK (X_loud o) [] scP.ntmps [0,1,2,3,4,5,6,7,8,9,10,11,23] 80 (loopB (bodyOf scP) 8) (d_scO.E { s with t := (((128 + j) : Nat) : Int) }) (d_scO.M { s with t := (((128 + j) : Nat) : Int) }) (outK d_scO.ts) = some (.normal, d_scO.E { s with t := (((128 + j) : Nat) : Int) - 1, before := kbit s.k (128 + j), r := stepRg o (swapRg s.r (!(kbit s.k (128 + j) == s.before))) s.x }, d_scO.M { s with t := (((128 + j) : Nat) : Int) - 1, before := kbit s.k (128 + j), r := stepRg o (swapRg s.r (!(kbit s.k (128 + j) == s.before))) s.x })
  | 0, _ => by kernel_rfl
  | 1, _ => by kernel_rfl
  | 2, _ => by kernel_rfl
  | 3, _ => by kernel_rfl
  | 4, _ => by kernel_rfl
  | 5, _ => by kernel_rfl
  | 6, _ => by kernel_rfl
  | 7, _ => by kernel_rfl
theorem scO_step_17 (o : FOps) (s : S_scO) : ∀ j : Nat, j < 8 → codeK (X_loud o) [] scP.ntmps [0,1,2,3,4,5,6,7,8,9,10,11,23] 80 (loopB (bodyOf scP) 8) (d_scO.E { s with t := (((136 + j) : Nat) : Int) }) (d_scO.M { s with t := (((136 + j) : Nat) : Int) }) (outK d_scO.ts) = some (.normal, d_scO.E { s with t := (((136 + j) : Nat) : Int) - 1, before := kbit s.k (136 + j), r := stepRg o (swapRg s.r (!(kbit s.k (136 + j) == s.before))) s.x }, d_scO.M { s with t := (((136 + j) : Nat) : Int) - 1, before := kbit s.k (136 + j), r := stepRg o (swapRg s.r (!(kbit s.k (136 + j) == s.before))) s.x })
  | 0, _ => by kernel_rfl
  | 1, _ => by kernel_rfl
  | 2, _ => by kernel_rfl
  | 3, _ => by kernel_rfl
  | 4, _ => by kernel_rfl
  | 5, _ => by kernel_rfl
  | 6, _ => by kernel_rfl
  | 7, _ => by kernel_rfl
theorem scO_step_18 (o : FOps) (s : S_scO) : ∀ j : Nat, j < 8 → codeK (X_loud o) [] scP.ntmps [0,1,2,3,4,5,6,7,8,9,10,11,23] 80 (loopB (bodyOf scP) 8) (d_scO.E { s with t := (((144 + j) : Nat) : Int) }) (d_scO.M { s with t := (((144 + j) : Nat) : Int) }) (outK d_scO.ts) = some (.normal, d_scO.E { s with t := (((144 + j) : Nat) : Int) - 1, before := kbit s.k (144 + j), r := stepRg o (swapRg s.r (!(kbit s.k (144 + j) == s.before))) s.x }, d_scO.M { s with t := (((144 + j) : Nat) : Int) - 1, before := kbit s.k (144 + j), r := stepRg o (swapRg s.r (!(kbit s.k (144 + j) == s.before))) s.x })
  | 0, _ => by kernel_rfl
  | 1, _ => by kernel_rfl
  | 2, _ => by kernel_rfl
  | 3, _ => by kernel_rfl
  | 4, _ => by kernel_rfl
  | 5, _ => by kernel_rfl
  | 6, _ => by kernel_rfl
  | 7, _ => by kernel_rfl
theorem scO_step_19 (o : FOps) (s : S_scO) : ∀ j : Nat, j < 8 → codeK (X_loud o) [] scP.ntmps [0,1,2,3,4,5,6,7,8,9,10,11,23] 80 (loopB (bodyOf scP) 8) (d_scO.E { s with t := (((152 + j) : Nat) : Int) }) (d_scO.M { s with t := (((152 + j) : Nat) : Int) }) (outK d_scO.ts) = some (.normal, d_scO.E { s with t := (((152 + j) : Nat) : Int) - 1, before := kbit s.k (152 + j), r := stepRg o (swapRg s.r (!(kbit s.k (152 + j) == s.before))) s.x }, d_scO.M { s with t := (((152 + j) : Nat) : Int) - 1, before := kbit s.k (152 + j), r := stepRg o (swapRg s.r (!(kbit s.k (152 + j) == s.before))) s.x })
  | 0, _ => by kernel_rfl
  | 1, _ => by kernel_rfl
  | 2, _ => by kernel_rfl
  | 3, _ => by kernel_rfl
  | 4, _ => by kernel_rfl
  | 5, _ => by kernel_rfl
  | 6, _ => by kernel_rfl
  | 7, _ => by kernel_rfl
theorem scO_step_20 (o : FOps) (s : S_scO) : ∀ j : Nat, j < 8 → codeK (X_loud o) [] scP.ntmps [0,1,2,3,4,5,6,7,8,9,10,11,23] 80 (loopB (bodyOf scP) 8) (d_scO.E { s with t := (((160 + j) : Nat) : Int) }) (d_scO.M { s with t := (((160 + j) : Nat) : Int) }) (outK d_scO.ts) = some (.normal, d_scO.E { s with t := (((160 + j) : Nat) : Int) - 1, before := kbit s.k (160 + j), r := stepRg o (swapRg s.r (!(kbit s.k (160 + j) == s.before))) s.x }, d_scO.M { s with t := (((160 + j) : Nat) : Int) - 1, before := kbit s.k (160 + j), r := stepRg o (swapRg s.r (!(kbit s.k (160 + j) == s.before))) s.x })
  | 0, _ => by kernel_rfl
  | 1, _ => by kernel_rfl
  | 2, _ => by kernel_rfl
  | 3, _ => by kernel_rfl
  | 4, _ => by kernel_rfl
  | 5, _ => by kernel_rfl
  | 6, _ => by kernel_rfl
  | 7, _ => by kernel_rfl
theorem scO_step_21 (o : FOps) (s : S_scO) : ∀ j : Nat, j < 8 → codeK (X_loud o) [] scP.ntmps [0,1,2,3,4,5,6,7,8,9,10,11,23] 80 (loopB (bodyOf scP) 8) (d_scO.E { s with t := (((168 + j) : Nat) : Int) }) (d_scO.M { s with t := (((168 + j) : Nat) : Int) }) (outK d_scO.ts) = some (.normal, d_scO.E { s with t := (((168 + j) : Nat) : Int) - 1, before := kbit s.k (168 + j), r := stepRg o (swapRg s.r (!(kbit s.k (168 + j) == s.before))) s.x }, d_scO.M { s with t := (((168 + j) : Nat) : Int) - 1, before := kbit s.k (168 + j), r := stepRg o (swapRg s.r (!(kbit s.k (168 + j) == s.before))) s.x })
  | 0, _ => by kernel_rfl
  | 1, _ => by kernel_rfl
  | 2, _ => by kernel_rfl
  | 3, _ => by kernel_rfl
  | 4, _ => by kernel_rfl
  | 5, _ => by kernel_rfl
  | 6, _ => by kernel_rfl
  | 7, _ => by kernel_rfl
theorem scO_step_22 (o : FOps) (s : S_scO) : ∀ j : Nat, j < 8 → codeK (X_loud o) [] scP.ntmps [0,1,2,3,4,5,6,7,8,9,10,11,23] 80 (loopB (bodyOf scP) 8) (d_scO.E { s with t := (((176 + j) : Nat) : Int) }) (d_scO.M { s with t := (((176 + j) : Nat) : Int) }) (outK d_scO.ts) = some (.normal, d_scO.E { s with t := (((176 + j) : Nat) : Int) - 1, before := kbit s.k (176 + j), r := stepRg o (swapRg s.r (!(kbit s.k (176 + j) == s.before))) s.x }, d_scO.M { s with t := (((176 + j) : Nat) : Int) - 1, before := kbit s.k (176 + j), r := stepRg o (swapRg s.r (!(kbit s.k (176 + j) == s.before))) s.x })
  | 0, _ => by kernel_rfl
  | 1, _ => by kernel_rfl
  | 2, _ => by kernel_rfl
  | 3, _ => by kernel_rfl
  | 4, _ => by kernel_rfl
  | 5, _ => by kernel_rfl
  | 6, _ => by kernel_rfl
  | 7, _ => by kernel_rfl
theorem scO_step_23 (o : FOps) (s : S_scO) : ∀ j : Nat, j < 8 → codeK (X_loud o) [] scP.ntmps [0,1,2,3,4,5,6,7,8,9,10,11,23] 80 (loopB (bodyOf scP) 8) (d_scO.E { s with t := (((184 + j) : Nat) : Int) }) (d_scO.M { s with t := (((184 + j) : Nat) : Int) }) (outK d_scO.ts) = some (.normal, d_scO.E { s with t := (((184 + j) : Nat) : Int) - 1, before := kbit s.k (184 + j), r := stepRg o (swapRg s.r (!(kbit s.k (184 + j) == s.before))) s.x }, d_scO.M { s with t := (((184 + j) : Nat) : Int) - 1, before := kbit s.k (184 + j), r := stepRg o (swapRg s.r (!(kbit s.k (184 + j) == s.before))) s.x })
  | 0, _ => by kernel_rfl
  | 1, _ => by kernel_rfl
  | 2, _ => by kernel_rfl
  | 3, _ => by kernel_rfl
  | 4, _ => by kernel_rfl
  | 5, _ => by kernel_rfl
  | 6, _ => by kernel_rfl
  | 7, _ => by kernel_rfl
theorem scO_step_24 (o : FOps) (s : S_scO) : ∀ j : Nat, j < 8 → codeK (X_loud o) [] scP.ntmps [0,1,2,3,4,5,6,7,8,9,10,11,23] 80 (loopB (bodyOf scP) 8) (d_scO.E { s with t := (((192 + j) : Nat) : Int) }) (d_scO.M { s with t := (((192 + j) : Nat) : Int) }) (outK d_scO.ts) = some (.normal, d_scO.E { s with t := (((192 + j) : Nat) : Int) - 1, before := kbit s.k (192 + j), r := stepRg o (swapRg s.r (!(kbit s.k (192 + j) == s.before))) s.x }, d_scO.M { s with t := (((192 + j) : Nat) : Int) - 1, before := kbit s.k (192 + j), r := stepRg o (swapRg s.r (!(kbit s.k (192 + j) == s.before))) s.x })
  | 0, _ => by kernel_rfl
  | 1, _ => by kernel_rfl
  | 2, _ => by kernel_rfl
  | 3, _ => by kernel_rfl
  | 4, _ => by kernel_rfl
  | 5, _ => by kernel_rfl
  | 6, _ => by kernel_rfl
  | 7, _ => by kernel_rfl
theorem scO_step_25 (o : FOps) (s : S_scO) : ∀ j : Nat, j < 8 → codeK (X_loud o) [] scP.ntmps [0,1,2,3,4,5,6,7,8,9,10,11,23] 80 (loopB (bodyOf scP) 8) (d_scO.E { s with t := (((200 + j) : Nat) : Int) }) (d_scO.M { s with t := (((200 + j) : Nat) : Int) }) (outK d_scO.ts) = some (.normal, d_scO.E { s with t := (((200 + j) : Nat) : Int) - 1, before := kbit s.k (200 + j), r := stepRg o (swapRg s.r (!(kbit s.k (200 + j) == s.before))) s.x }, d_scO.M { s with t := (((200 + j) : Nat) : Int) - 1, before := kbit s.k (200 + j), r := stepRg o (swapRg s.r (!(kbit s.k (200 + j) == s.before))) s.x })
  | 0, _ => by kernel_rfl
  | 1, _ => by kernel_rfl
  | 2, _ => by kernel_rfl
  | 3, _ => by kernel_rfl
  | 4, _ => by kernel_rfl
  | 5, _ => by kernel_rfl
  | 6, _ => by kernel_rfl
  | 7, _ => by kernel_rfl
theorem scO_step_26 (o : FOps) (s : S_scO) : ∀ j : Nat, j < 8 → codeK (X_loud o) [] scP.ntmps [0,1,2,3,4,5,6,7,8,9,10,11,23] 80 (loopB (bodyOf scP) 8) (d_scO.E { s with t := (((208 + j) : Nat) : Int) }) (d_scO.M { s with t := (((208 + j) : Nat) : Int) }) (outK d_scO.ts) = some (.normal, d_scO.E { s with t := (((208 + j) : Nat) : Int) - 1, before := kbit s.k (208 + j), r := stepRg o (swapRg s.r (!(kbit s.k (208 + j) == s.before))) s.x }, d_scO.M { s with t := (((208 + j) : Nat) : Int) - 1, before := kbit s.k (208 + j), r := stepRg o (swapRg s.r (!(kbit s.k (208 + j) == s.before))) s.x })
  | 0, _ => by kernel_rfl
  | 1, _ => by kernel_rfl
  | 2, _ => by kernel_rfl
  | 3, _ => by kernel_rfl
  | 4, _ => by kernel_rfl
  | 5, _ => by kernel_rfl
  | 6, _ => by kernel_rfl
  | 7, _ => by kernel_rfl
theorem scO_step_27 (o : FOps) (s : S_scO) : ∀ j : Nat, j < 8 → codeK (X_loud o) [] scP.ntmps [0,1,2,3,4,5,6,7,8,9,10,11,23] 80 (loopB (bodyOf scP) 8) (d_scO.E { s with t := (((216 + j) : Nat) : Int) }) (d_scO.M { s with t := (((216 + j) : Nat) : Int) }) (outK d_scO.ts) = some (.normal, d_scO.E { s with t := (((216 + j) : Nat) : Int) - 1, before := kbit s.k (216 + j), r := stepRg o (swapRg s.r (!(kbit s.k (216 + j) == s.before))) s.x }, d_scO.M { s with t := (((216 + j) : Nat) : Int) - 1, before := kbit s.k (216 + j), r := stepRg o (swapRg s.r (!(kbit s.k (216 + j) == s.before))) s.x })
  | 0, _ => by kernel_rfl
  | 1, _ => by kernel_rfl
  | 2, _ => by kernel_rfl
  | 3, _ => by kernel_rfl
  | 4, _ => by kernel_rfl
  | 5, _ => by kernel_rfl
  | 6, _ => by kernel_rfl
  | 7, _ => by kernel_rfl
theorem scO_step_28 (o : FOps) (s : S_scO) : ∀ j : Nat, j < 8 → codeK (X_loud o) [] scP.ntmps [0,1,2,3,4,5,6,7,8,9,10,11,23] 80 (loopB (bodyOf scP) 8) (d_scO.E { s with t := (((224 + j) : Nat) : Int) }) (d_scO.M { s with t := (((224 + j) : Nat) : Int) }) (outK d_scO.ts) = some (.normal, d_scO.E { s with t := (((224 + j) : Nat) : Int) - 1, before := kbit s.k (224 + j), r := stepRg o (swapRg s.r (!(kbit s.k (224 + j) == s.before))) s.x }, d_scO.M { s with t := (((224 + j) : Nat) : Int) - 1, before := kbit s.k (224 + j), r := stepRg o (swapRg s.r (!(kbit s.k (224 + j) == s.before))) s.x })
  | 0, _ => by kernel_rfl
  | 1, _ => by kernel_rfl
  | 2, _ => by kernel_rfl
  | 3, _ => by kernel_rfl
  | 4, _ => by kernel_rfl
  | 5, _ => by kernel_rfl
  | 6, _ => by kernel_rfl
  | 7, _ => by kernel_rfl
theorem scO_step_29 (o : FOps) (s : S_scO) : ∀ j : Nat, j < 8 → codeK (X_loud o) [] scP.ntmps [0,1,2,3,4,5,6,7,8,9,10,11,23] 80 (loopB (bodyOf scP) 8) (d_scO.E { s with t := (((232 + j) : Nat) : Int) }) (d_scO.M { s with t := (((232 + j) : Nat) : Int) }) (outK d_scO.ts) = some (.normal, d_scO.E { s with t := (((232 + j) : Nat) : Int) - 1, before := kbit s.k (232 + j), r := stepRg o (swapRg s.r (!(kbit s.k (232 + j) == s.before))) s.x }, d_scO.M { s with t := (((232 + j) : Nat) : Int) - 1, before := kbit s.k (232 + j), r := stepRg o (swapRg s.r (!(kbit s.k (232 + j) == s.before))) s.x })
  | 0, _ => by kernel_rfl
  | 1, _ => by kernel_rfl
  | 2, _ => by kernel_rfl
  | 3, _ => by kernel_rfl
  | 4, _ => by kernel_rfl
  | 5, _ => by kernel_rfl
  | 6, _ => by kernel_rfl
  | 7, _ => by kernel_rfl
theorem scO_step_30 (o : FOps) (s : S_scO) : ∀ j : Nat, j < 8 → codeK (X_loud o) [] scP.ntmps [0,1,2,3,4,5,6,7,8,9,10,11,23] 80 (loopB (bodyOf scP) 8) (d_scO.E { s with t := (((240 + j) : Nat) : Int) }) (d_scO.M { s with t := (((240 + j) : Nat) : Int) }) (outK d_scO.ts) = some (.normal, d_scO.E { s with t := (((240 + j) : Nat) : Int) - 1, before := kbit s.k (240 + j), r := stepRg o (swapRg s.r (!(kbit s.k (240 + j) == s.before))) s.x }, d_scO.M { s with t := (((240 + j) : Nat) : Int) - 1, before := kbit s.k (240 + j), r := stepRg o (swapRg s.r (!(kbit s.k (240 + j) == s.before))) s.x })
  | 0, _ => by kernel_rfl
  | 1, _ => by kernel_rfl
  | 2, _ => by kernel_rfl
  | 3, _ => by kernel_rfl
  | 4, _ => by kernel_rfl
  | 5, _ => by kernel_rfl
  | 6, _ => by kernel_rfl
  | 7, _ => by kernel_rfl
theorem scO_step_31 (o : FOps) (s : S_scO) : ∀ j : Nat, j < 7 → codeK (X_loud o) [] scP.ntmps [0,1,2,3,4,5,6,7,8,9,10,11,23] 80 (loopB (bodyOf scP) 8) (d_scO.E { s with t := (((248 + j) : Nat) : Int) }) (d_scO.M { s with t := (((248 + j) : Nat) : Int) }) (outK d_scO.ts) = some (.normal, d_scO.E { s with t := (((248 + j) : Nat) : Int) - 1, before := kbit s.k (248 + j), r := stepRg o (swapRg s.r (!(kbit s.k (248 + j) == s.before))) s.x }, d_scO.M { s with t := (((248 + j) : Nat) : Int) - 1, before := kbit s.k (248 + j), r := stepRg o (swapRg s.r (!(kbit s.k (248 + j) == s.before))) s.x })
  | 0, _ => by kernel_rfl
  | 1, _ => by kernel_rfl
  | 2, _ => by kernel_rfl
  | 3, _ => by kernel_rfl
  | 4, _ => by kernel_rfl
  | 5, _ => by kernel_rfl
  | 6, _ => by kernel_rfl
theorem scO_step (o : FOps) (s : S_scO) (t : Nat) (ht : t < 255) : codeK (X_loud o) [] scP.ntmps [0,1,2,3,4,5,6,7,8,9,10,11,23] 80 (loopB (bodyOf scP) 8) (d_scO.E { s with t := ((t : Nat) : Int) }) (d_scO.M { s with t := ((t : Nat) : Int) }) (outK d_scO.ts) = some (.normal, d_scO.E { s with t := ((t : Nat) : Int) - 1, before := kbit s.k t, r := stepRg o (swapRg s.r (!(kbit s.k t == s.before))) s.x }, d_scO.M { s with t := ((t : Nat) : Int) - 1, before := kbit s.k t, r := stepRg o (swapRg s.r (!(kbit s.k t == s.before))) s.x }) := by
  by_cases h0 : t < 8
  · have := scO_step_0 o s (t - 0) (by omega)
    rw [show 0 + (t - 0) = t by omega] at this
    exact this
  by_cases h1 : t < 16
  · have := scO_step_1 o s (t - 8) (by omega)
    rw [show 8 + (t - 8) = t by omega] at this
    exact this
  by_cases h2 : t < 24
  · have := scO_step_2 o s (t - 16) (by omega)
    rw [show 16 + (t - 16) = t by omega] at this
    exact this
  by_cases h3 : t < 32
  · have := scO_step_3 o s (t - 24) (by omega)
    rw [show 24 + (t - 24) = t by omega] at this
    exact this
  by_cases h4 : t < 40
  · have := scO_step_4 o s (t - 32) (by omega)
    rw [show 32 + (t - 32) = t by omega] at this
    exact this
  by_cases h5 : t < 48
  · have := scO_step_5 o s (t - 40) (by omega)
    rw [show 40 + (t - 40) = t by omega] at this
    exact this
  by_cases h6 : t < 56
  · have := scO_step_6 o s (t - 48) (by omega)
    rw [show 48 + (t - 48) = t by omega] at this
    exact this
  by_cases h7 : t < 64
  · have := scO_step_7 o s (t - 56) (by omega)
    rw [show 56 + (t - 56) = t by omega] at this
    exact this
  by_cases h8 : t < 72
  · have := scO_step_8 o s (t - 64) (by omega)
    rw [show 64 + (t - 64) = t by omega] at this
    exact this
  by_cases h9 : t < 80
  · have := scO_step_9 o s (t - 72) (by omega)
    rw [show 72 + (t - 72) = t by omega] at this
    exact this
  by_cases h10 : t < 88
  · have := scO_step_10 o s (t - 80) (by omega)
    rw [show 80 + (t - 80) = t by omega] at this
    exact this
  by_cases h11 : t < 96
  · have := scO_step_11 o s (t - 88) (by omega)
    rw [show 88 + (t - 88) = t by omega] at this
    exact this
  by_cases h12 : t < 104
  · have := scO_step_12 o s (t - 96) (by omega)
    rw [show 96 + (t - 96) = t by omega] at this
    exact this
  by_cases h13 : t < 112
  · have := scO_step_13 o s (t - 104) (by omega)
    rw [show 104 + (t - 104) = t by omega] at this
    exact this
  by_cases h14 : t < 120
  · have := scO_step_14 o s (t - 112) (by omega)
    rw [show 112 + (t - 112) = t by omega] at this
    exact this
  by_cases h15 : t < 128
  · have := scO_step_15 o s (t - 120) (by omega)
    rw [show 120 + (t - 120) = t by omega] at this
    exact this
  by_cases h16 : t < 136
  · have := scO_step_16 o s (t - 128) (by omega)
    rw [show 128 + (t - 128) = t by omega] at this
    exact this
  by_cases h17 : t < 144
  · have := scO_step_17 o s (t - 136) (by omega)
    rw [show 136 + (t - 136) = t by omega] at this
    exact this
  by_cases h18 : t < 152
  · have := scO_step_18 o s (t - 144) (by omega)
    rw [show 144 + (t - 144) = t by omega] at this
    exact this
  by_cases h19 : t < 160
  · have := scO_step_19 o s (t - 152) (by omega)
    rw [show 152 + (t - 152) = t by omega] at this
    exact this
  by_cases h20 : t < 168
  · have := scO_step_20 o s (t - 160) (by omega)
    rw [show 160 + (t - 160) = t by omega] at this
    exact this
  by_cases h21 : t < 176
  · have := scO_step_21 o s (t - 168) (by omega)
    rw [show 168 + (t - 168) = t by omega] at this
    exact this
  by_cases h22 : t < 184
  · have := scO_step_22 o s (t - 176) (by omega)
    rw [show 176 + (t - 176) = t by omega] at this
    exact this
  by_cases h23 : t < 192
  · have := scO_step_23 o s (t - 184) (by omega)
    rw [show 184 + (t - 184) = t by omega] at this
    exact this
  by_cases h24 : t < 200
  · have := scO_step_24 o s (t - 192) (by omega)
    rw [show 192 + (t - 192) = t by omega] at this
    exact this
  by_cases h25 : t < 208
  · have := scO_step_25 o s (t - 200) (by omega)
    rw [show 200 + (t - 200) = t by omega] at this
    exact this
  by_cases h26 : t < 216
  · have := scO_step_26 o s (t - 208) (by omega)
    rw [show 208 + (t - 208) = t by omega] at this
    exact this
  by_cases h27 : t < 224
  · have := scO_step_27 o s (t - 216) (by omega)
    rw [show 216 + (t - 216) = t by omega] at this
    exact this
  by_cases h28 : t < 232
  · have := scO_step_28 o s (t - 224) (by omega)
    rw [show 224 + (t - 224) = t by omega] at this
    exact this
  by_cases h29 : t < 240
  · have := scO_step_29 o s (t - 232) (by omega)
    rw [show 232 + (t - 232) = t by omega] at this
    exact this
  by_cases h30 : t < 248
  · have := scO_step_30 o s (t - 240) (by omega)
    rw [show 240 + (t - 240) = t by omega] at this
    exact this
  by_cases h31 : t < 255
  · have := scO_step_31 o s (t - 248) (by omega)
    rw [show 248 + (t - 248) = t by omega] at this
    exact this
  omega
theorem scO_exit (o : FOps) (s : S_scO) : codeK (X_loud o) [] scP.ntmps [0,1,2,3,4,5,6,7,8,9,10,11,23] 80 (loopB (bodyOf scP) 8) (d_scO.E { s with t := -1 }) (d_scO.M { s with t := -1 }) (outK d_scO.ts) =
    some (.exit 0, d_scO.E { s with t := -1 }, d_scO.M { s with t := -1 }) := by kernel_rfl
end Go.Proofs.Ytfajgpjpabeafaa

