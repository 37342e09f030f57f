/- FieldAll: one step, register by register. -/
import Derived.Test.YtfajgpjpabeafaaGb
namespace Go.Proofs.Ytfajgpjpabeafaa
open Go Pw Go.RowKit
theorem fa_X_000 (o : FOps) (m : OpR → L5 → L5 → L5) (m' : OpR → L4 → L4 → L4) (t : Int → N4) (len p : Nat) (i : Int) (q : OpR) (r : V4 L5) (d : V4 L4) : fa_X o m m' t len p i q r d .j0 .j0 .j0 := fun K => by kernel_rfl
theorem fa_X_001 (o : FOps) (m : OpR → L5 → L5 → L5) (m' : OpR → L4 → L4 → L4) (t : Int → N4) (len p : Nat) (i : Int) (q : OpR) (r : V4 L5) (d : V4 L4) : fa_X o m m' t len p i q r d .j0 .j0 .j1 := fun K => by kernel_rfl
theorem fa_X_002 (o : FOps) (m : OpR → L5 → L5 → L5) (m' : OpR → L4 → L4 → L4) (t : Int → N4) (len p : Nat) (i : Int) (q : OpR) (r : V4 L5) (d : V4 L4) : fa_X o m m' t len p i q r d .j0 .j0 .j2 := fun K => by kernel_rfl
theorem fa_X_003 (o : FOps) (m : OpR → L5 → L5 → L5) (m' : OpR → L4 → L4 → L4) (t : Int → N4) (len p : Nat) (i : Int) (q : OpR) (r : V4 L5) (d : V4 L4) : fa_X o m m' t len p i q r d .j0 .j0 .j3 := fun K => by kernel_rfl
theorem fa_X_010 (o : FOps) (m : OpR → L5 → L5 → L5) (m' : OpR → L4 → L4 → L4) (t : Int → N4) (len p : Nat) (i : Int) (q : OpR) (r : V4 L5) (d : V4 L4) : fa_X o m m' t len p i q r d .j0 .j1 .j0 := fun K => by kernel_rfl
theorem fa_X_011 (o : FOps) (m : OpR → L5 → L5 → L5) (m' : OpR → L4 → L4 → L4) (t : Int → N4) (len p : Nat) (i : Int) (q : OpR) (r : V4 L5) (d : V4 L4) : fa_X o m m' t len p i q r d .j0 .j1 .j1 := fun K => by kernel_rfl
theorem fa_X_012 (o : FOps) (m : OpR → L5 → L5 → L5) (m' : OpR → L4 → L4 → L4) (t : Int → N4) (len p : Nat) (i : Int) (q : OpR) (r : V4 L5) (d : V4 L4) : fa_X o m m' t len p i q r d .j0 .j1 .j2 := fun K => by kernel_rfl
theorem fa_X_013 (o : FOps) (m : OpR → L5 → L5 → L5) (m' : OpR → L4 → L4 → L4) (t : Int → N4) (len p : Nat) (i : Int) (q : OpR) (r : V4 L5) (d : V4 L4) : fa_X o m m' t len p i q r d .j0 .j1 .j3 := fun K => by kernel_rfl
theorem fa_X_020 (o : FOps) (m : OpR → L5 → L5 → L5) (m' : OpR → L4 → L4 → L4) (t : Int → N4) (len p : Nat) (i : Int) (q : OpR) (r : V4 L5) (d : V4 L4) : fa_X o m m' t len p i q r d .j0 .j2 .j0 := fun K => by kernel_rfl
theorem fa_X_021 (o : FOps) (m : OpR → L5 → L5 → L5) (m' : OpR → L4 → L4 → L4) (t : Int → N4) (len p : Nat) (i : Int) (q : OpR) (r : V4 L5) (d : V4 L4) : fa_X o m m' t len p i q r d .j0 .j2 .j1 := fun K => by kernel_rfl
theorem fa_X_022 (o : FOps) (m : OpR → L5 → L5 → L5) (m' : OpR → L4 → L4 → L4) (t : Int → N4) (len p : Nat) (i : Int) (q : OpR) (r : V4 L5) (d : V4 L4) : fa_X o m m' t len p i q r d .j0 .j2 .j2 := fun K => by kernel_rfl
theorem fa_X_023 (o : FOps) (m : OpR → L5 → L5 → L5) (m' : OpR → L4 → L4 → L4) (t : Int → N4) (len p : Nat) (i : Int) (q : OpR) (r : V4 L5) (d : V4 L4) : fa_X o m m' t len p i q r d .j0 .j2 .j3 := fun K => by kernel_rfl
theorem fa_X_030 (o : FOps) (m : OpR → L5 → L5 → L5) (m' : OpR → L4 → L4 → L4) (t : Int → N4) (len p : Nat) (i : Int) (q : OpR) (r : V4 L5) (d : V4 L4) : fa_X o m m' t len p i q r d .j0 .j3 .j0 := fun K => by kernel_rfl
theorem fa_X_031 (o : FOps) (m : OpR → L5 → L5 → L5) (m' : OpR → L4 → L4 → L4) (t : Int → N4) (len p : Nat) (i : Int) (q : OpR) (r : V4 L5) (d : V4 L4) : fa_X o m m' t len p i q r d .j0 .j3 .j1 := fun K => by kernel_rfl
theorem fa_X_032 (o : FOps) (m : OpR → L5 → L5 → L5) (m' : OpR → L4 → L4 → L4) (t : Int → N4) (len p : Nat) (i : Int) (q : OpR) (r : V4 L5) (d : V4 L4) : fa_X o m m' t len p i q r d .j0 .j3 .j2 := fun K => by kernel_rfl
theorem fa_X_033 (o : FOps) (m : OpR → L5 → L5 → L5) (m' : OpR → L4 → L4 → L4) (t : Int → N4) (len p : Nat) (i : Int) (q : OpR) (r : V4 L5) (d : V4 L4) : fa_X o m m' t len p i q r d .j0 .j3 .j3 := fun K => by kernel_rfl
theorem fa_X_100 (o : FOps) (m : OpR → L5 → L5 → L5) (m' : OpR → L4 → L4 → L4) (t : Int → N4) (len p : Nat) (i : Int) (q : OpR) (r : V4 L5) (d : V4 L4) : fa_X o m m' t len p i q r d .j1 .j0 .j0 := fun K => by kernel_rfl
theorem fa_X_101 (o : FOps) (m : OpR → L5 → L5 → L5) (m' : OpR → L4 → L4 → L4) (t : Int → N4) (len p : Nat) (i : Int) (q : OpR) (r : V4 L5) (d : V4 L4) : fa_X o m m' t len p i q r d .j1 .j0 .j1 := fun K => by kernel_rfl
theorem fa_X_102 (o : FOps) (m : OpR → L5 → L5 → L5) (m' : OpR → L4 → L4 → L4) (t : Int → N4) (len p : Nat) (i : Int) (q : OpR) (r : V4 L5) (d : V4 L4) : fa_X o m m' t len p i q r d .j1 .j0 .j2 := fun K => by kernel_rfl
theorem fa_X_103 (o : FOps) (m : OpR → L5 → L5 → L5) (m' : OpR → L4 → L4 → L4) (t : Int → N4) (len p : Nat) (i : Int) (q : OpR) (r : V4 L5) (d : V4 L4) : fa_X o m m' t len p i q r d .j1 .j0 .j3 := fun K => by kernel_rfl
theorem fa_X_110 (o : FOps) (m : OpR → L5 → L5 → L5) (m' : OpR → L4 → L4 → L4) (t : Int → N4) (len p : Nat) (i : Int) (q : OpR) (r : V4 L5) (d : V4 L4) : fa_X o m m' t len p i q r d .j1 .j1 .j0 := fun K => by kernel_rfl
theorem fa_X_111 (o : FOps) (m : OpR → L5 → L5 → L5) (m' : OpR → L4 → L4 → L4) (t : Int → N4) (len p : Nat) (i : Int) (q : OpR) (r : V4 L5) (d : V4 L4) : fa_X o m m' t len p i q r d .j1 .j1 .j1 := fun K => by kernel_rfl
theorem fa_X_112 (o : FOps) (m : OpR → L5 → L5 → L5) (m' : OpR → L4 → L4 → L4) (t : Int → N4) (len p : Nat) (i : Int) (q : OpR) (r : V4 L5) (d : V4 L4) : fa_X o m m' t len p i q r d .j1 .j1 .j2 := fun K => by kernel_rfl
theorem fa_X_113 (o : FOps) (m : OpR → L5 → L5 → L5) (m' : OpR → L4 → L4 → L4) (t : Int → N4) (len p : Nat) (i : Int) (q : OpR) (r : V4 L5) (d : V4 L4) : fa_X o m m' t len p i q r d .j1 .j1 .j3 := fun K => by kernel_rfl
theorem fa_X_120 (o : FOps) (m : OpR → L5 → L5 → L5) (m' : OpR → L4 → L4 → L4) (t : Int → N4) (len p : Nat) (i : Int) (q : OpR) (r : V4 L5) (d : V4 L4) : fa_X o m m' t len p i q r d .j1 .j2 .j0 := fun K => by kernel_rfl
theorem fa_X_121 (o : FOps) (m : OpR → L5 → L5 → L5) (m' : OpR → L4 → L4 → L4) (t : Int → N4) (len p : Nat) (i : Int) (q : OpR) (r : V4 L5) (d : V4 L4) : fa_X o m m' t len p i q r d .j1 .j2 .j1 := fun K => by kernel_rfl
theorem fa_X_122 (o : FOps) (m : OpR → L5 → L5 → L5) (m' : OpR → L4 → L4 → L4) (t : Int → N4) (len p : Nat) (i : Int) (q : OpR) (r : V4 L5) (d : V4 L4) : fa_X o m m' t len p i q r d .j1 .j2 .j2 := fun K => by kernel_rfl
theorem fa_X_123 (o : FOps) (m : OpR → L5 → L5 → L5) (m' : OpR → L4 → L4 → L4) (t : Int → N4) (len p : Nat) (i : Int) (q : OpR) (r : V4 L5) (d : V4 L4) : fa_X o m m' t len p i q r d .j1 .j2 .j3 := fun K => by kernel_rfl
theorem fa_X_130 (o : FOps) (m : OpR → L5 → L5 → L5) (m' : OpR → L4 → L4 → L4) (t : Int → N4) (len p : Nat) (i : Int) (q : OpR) (r : V4 L5) (d : V4 L4) : fa_X o m m' t len p i q r d .j1 .j3 .j0 := fun K => by kernel_rfl
theorem fa_X_131 (o : FOps) (m : OpR → L5 → L5 → L5) (m' : OpR → L4 → L4 → L4) (t : Int → N4) (len p : Nat) (i : Int) (q : OpR) (r : V4 L5) (d : V4 L4) : fa_X o m m' t len p i q r d .j1 .j3 .j1 := fun K => by kernel_rfl
theorem fa_X_132 (o : FOps) (m : OpR → L5 → L5 → L5) (m' : OpR → L4 → L4 → L4) (t : Int → N4) (len p : Nat) (i : Int) (q : OpR) (r : V4 L5) (d : V4 L4) : fa_X o m m' t len p i q r d .j1 .j3 .j2 := fun K => by kernel_rfl
theorem fa_X_133 (o : FOps) (m : OpR → L5 → L5 → L5) (m' : OpR → L4 → L4 → L4) (t : Int → N4) (len p : Nat) (i : Int) (q : OpR) (r : V4 L5) (d : V4 L4) : fa_X o m m' t len p i q r d .j1 .j3 .j3 := fun K => by kernel_rfl
end Go.Proofs.Ytfajgpjpabeafaa

