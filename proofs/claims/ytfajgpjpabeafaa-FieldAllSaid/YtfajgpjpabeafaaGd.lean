/- FieldAll: one step, register by register. -/
import Derived.Test.YtfajgpjpabeafaaGc
namespace Go.Proofs.Ytfajgpjpabeafaa
open Go Pw Go.RowKit
theorem fa_X_200 (o : FOps) (m : OpR → L5 → L5 → L5) (m' : OpR → L4 → L4 → L4) (t : Int → N4) (len p : Nat) (i : Int) (q : OpR) (r : V4 L5) (d : V4 L4) : fa_X o m m' t len p i q r d .j2 .j0 .j0 := fun K => by kernel_rfl
theorem fa_X_201 (o : FOps) (m : OpR → L5 → L5 → L5) (m' : OpR → L4 → L4 → L4) (t : Int → N4) (len p : Nat) (i : Int) (q : OpR) (r : V4 L5) (d : V4 L4) : fa_X o m m' t len p i q r d .j2 .j0 .j1 := fun K => by kernel_rfl
theorem fa_X_202 (o : FOps) (m : OpR → L5 → L5 → L5) (m' : OpR → L4 → L4 → L4) (t : Int → N4) (len p : Nat) (i : Int) (q : OpR) (r : V4 L5) (d : V4 L4) : fa_X o m m' t len p i q r d .j2 .j0 .j2 := fun K => by kernel_rfl
theorem fa_X_203 (o : FOps) (m : OpR → L5 → L5 → L5) (m' : OpR → L4 → L4 → L4) (t : Int → N4) (len p : Nat) (i : Int) (q : OpR) (r : V4 L5) (d : V4 L4) : fa_X o m m' t len p i q r d .j2 .j0 .j3 := fun K => by kernel_rfl
theorem fa_X_210 (o : FOps) (m : OpR → L5 → L5 → L5) (m' : OpR → L4 → L4 → L4) (t : Int → N4) (len p : Nat) (i : Int) (q : OpR) (r : V4 L5) (d : V4 L4) : fa_X o m m' t len p i q r d .j2 .j1 .j0 := fun K => by kernel_rfl
theorem fa_X_211 (o : FOps) (m : OpR → L5 → L5 → L5) (m' : OpR → L4 → L4 → L4) (t : Int → N4) (len p : Nat) (i : Int) (q : OpR) (r : V4 L5) (d : V4 L4) : fa_X o m m' t len p i q r d .j2 .j1 .j1 := fun K => by kernel_rfl
theorem fa_X_212 (o : FOps) (m : OpR → L5 → L5 → L5) (m' : OpR → L4 → L4 → L4) (t : Int → N4) (len p : Nat) (i : Int) (q : OpR) (r : V4 L5) (d : V4 L4) : fa_X o m m' t len p i q r d .j2 .j1 .j2 := fun K => by kernel_rfl
theorem fa_X_213 (o : FOps) (m : OpR → L5 → L5 → L5) (m' : OpR → L4 → L4 → L4) (t : Int → N4) (len p : Nat) (i : Int) (q : OpR) (r : V4 L5) (d : V4 L4) : fa_X o m m' t len p i q r d .j2 .j1 .j3 := fun K => by kernel_rfl
theorem fa_X_220 (o : FOps) (m : OpR → L5 → L5 → L5) (m' : OpR → L4 → L4 → L4) (t : Int → N4) (len p : Nat) (i : Int) (q : OpR) (r : V4 L5) (d : V4 L4) : fa_X o m m' t len p i q r d .j2 .j2 .j0 := fun K => by kernel_rfl
theorem fa_X_221 (o : FOps) (m : OpR → L5 → L5 → L5) (m' : OpR → L4 → L4 → L4) (t : Int → N4) (len p : Nat) (i : Int) (q : OpR) (r : V4 L5) (d : V4 L4) : fa_X o m m' t len p i q r d .j2 .j2 .j1 := fun K => by kernel_rfl
theorem fa_X_222 (o : FOps) (m : OpR → L5 → L5 → L5) (m' : OpR → L4 → L4 → L4) (t : Int → N4) (len p : Nat) (i : Int) (q : OpR) (r : V4 L5) (d : V4 L4) : fa_X o m m' t len p i q r d .j2 .j2 .j2 := fun K => by kernel_rfl
theorem fa_X_223 (o : FOps) (m : OpR → L5 → L5 → L5) (m' : OpR → L4 → L4 → L4) (t : Int → N4) (len p : Nat) (i : Int) (q : OpR) (r : V4 L5) (d : V4 L4) : fa_X o m m' t len p i q r d .j2 .j2 .j3 := fun K => by kernel_rfl
theorem fa_X_230 (o : FOps) (m : OpR → L5 → L5 → L5) (m' : OpR → L4 → L4 → L4) (t : Int → N4) (len p : Nat) (i : Int) (q : OpR) (r : V4 L5) (d : V4 L4) : fa_X o m m' t len p i q r d .j2 .j3 .j0 := fun K => by kernel_rfl
theorem fa_X_231 (o : FOps) (m : OpR → L5 → L5 → L5) (m' : OpR → L4 → L4 → L4) (t : Int → N4) (len p : Nat) (i : Int) (q : OpR) (r : V4 L5) (d : V4 L4) : fa_X o m m' t len p i q r d .j2 .j3 .j1 := fun K => by kernel_rfl
theorem fa_X_232 (o : FOps) (m : OpR → L5 → L5 → L5) (m' : OpR → L4 → L4 → L4) (t : Int → N4) (len p : Nat) (i : Int) (q : OpR) (r : V4 L5) (d : V4 L4) : fa_X o m m' t len p i q r d .j2 .j3 .j2 := fun K => by kernel_rfl
theorem fa_X_233 (o : FOps) (m : OpR → L5 → L5 → L5) (m' : OpR → L4 → L4 → L4) (t : Int → N4) (len p : Nat) (i : Int) (q : OpR) (r : V4 L5) (d : V4 L4) : fa_X o m m' t len p i q r d .j2 .j3 .j3 := fun K => by kernel_rfl
theorem fa_X_300 (o : FOps) (m : OpR → L5 → L5 → L5) (m' : OpR → L4 → L4 → L4) (t : Int → N4) (len p : Nat) (i : Int) (q : OpR) (r : V4 L5) (d : V4 L4) : fa_X o m m' t len p i q r d .j3 .j0 .j0 := fun K => by kernel_rfl
theorem fa_X_301 (o : FOps) (m : OpR → L5 → L5 → L5) (m' : OpR → L4 → L4 → L4) (t : Int → N4) (len p : Nat) (i : Int) (q : OpR) (r : V4 L5) (d : V4 L4) : fa_X o m m' t len p i q r d .j3 .j0 .j1 := fun K => by kernel_rfl
theorem fa_X_302 (o : FOps) (m : OpR → L5 → L5 → L5) (m' : OpR → L4 → L4 → L4) (t : Int → N4) (len p : Nat) (i : Int) (q : OpR) (r : V4 L5) (d : V4 L4) : fa_X o m m' t len p i q r d .j3 .j0 .j2 := fun K => by kernel_rfl
theorem fa_X_303 (o : FOps) (m : OpR → L5 → L5 → L5) (m' : OpR → L4 → L4 → L4) (t : Int → N4) (len p : Nat) (i : Int) (q : OpR) (r : V4 L5) (d : V4 L4) : fa_X o m m' t len p i q r d .j3 .j0 .j3 := fun K => by kernel_rfl
theorem fa_X_310 (o : FOps) (m : OpR → L5 → L5 → L5) (m' : OpR → L4 → L4 → L4) (t : Int → N4) (len p : Nat) (i : Int) (q : OpR) (r : V4 L5) (d : V4 L4) : fa_X o m m' t len p i q r d .j3 .j1 .j0 := fun K => by kernel_rfl
theorem fa_X_311 (o : FOps) (m : OpR → L5 → L5 → L5) (m' : OpR → L4 → L4 → L4) (t : Int → N4) (len p : Nat) (i : Int) (q : OpR) (r : V4 L5) (d : V4 L4) : fa_X o m m' t len p i q r d .j3 .j1 .j1 := fun K => by kernel_rfl
theorem fa_X_312 (o : FOps) (m : OpR → L5 → L5 → L5) (m' : OpR → L4 → L4 → L4) (t : Int → N4) (len p : Nat) (i : Int) (q : OpR) (r : V4 L5) (d : V4 L4) : fa_X o m m' t len p i q r d .j3 .j1 .j2 := fun K => by kernel_rfl
theorem fa_X_313 (o : FOps) (m : OpR → L5 → L5 → L5) (m' : OpR → L4 → L4 → L4) (t : Int → N4) (len p : Nat) (i : Int) (q : OpR) (r : V4 L5) (d : V4 L4) : fa_X o m m' t len p i q r d .j3 .j1 .j3 := fun K => by kernel_rfl
theorem fa_X_320 (o : FOps) (m : OpR → L5 → L5 → L5) (m' : OpR → L4 → L4 → L4) (t : Int → N4) (len p : Nat) (i : Int) (q : OpR) (r : V4 L5) (d : V4 L4) : fa_X o m m' t len p i q r d .j3 .j2 .j0 := fun K => by kernel_rfl
theorem fa_X_321 (o : FOps) (m : OpR → L5 → L5 → L5) (m' : OpR → L4 → L4 → L4) (t : Int → N4) (len p : Nat) (i : Int) (q : OpR) (r : V4 L5) (d : V4 L4) : fa_X o m m' t len p i q r d .j3 .j2 .j1 := fun K => by kernel_rfl
theorem fa_X_322 (o : FOps) (m : OpR → L5 → L5 → L5) (m' : OpR → L4 → L4 → L4) (t : Int → N4) (len p : Nat) (i : Int) (q : OpR) (r : V4 L5) (d : V4 L4) : fa_X o m m' t len p i q r d .j3 .j2 .j2 := fun K => by kernel_rfl
theorem fa_X_323 (o : FOps) (m : OpR → L5 → L5 → L5) (m' : OpR → L4 → L4 → L4) (t : Int → N4) (len p : Nat) (i : Int) (q : OpR) (r : V4 L5) (d : V4 L4) : fa_X o m m' t len p i q r d .j3 .j2 .j3 := fun K => by kernel_rfl
theorem fa_X_330 (o : FOps) (m : OpR → L5 → L5 → L5) (m' : OpR → L4 → L4 → L4) (t : Int → N4) (len p : Nat) (i : Int) (q : OpR) (r : V4 L5) (d : V4 L4) : fa_X o m m' t len p i q r d .j3 .j3 .j0 := fun K => by kernel_rfl
theorem fa_X_331 (o : FOps) (m : OpR → L5 → L5 → L5) (m' : OpR → L4 → L4 → L4) (t : Int → N4) (len p : Nat) (i : Int) (q : OpR) (r : V4 L5) (d : V4 L4) : fa_X o m m' t len p i q r d .j3 .j3 .j1 := fun K => by kernel_rfl
theorem fa_X_332 (o : FOps) (m : OpR → L5 → L5 → L5) (m' : OpR → L4 → L4 → L4) (t : Int → N4) (len p : Nat) (i : Int) (q : OpR) (r : V4 L5) (d : V4 L4) : fa_X o m m' t len p i q r d .j3 .j3 .j2 := fun K => by kernel_rfl
theorem fa_X_333 (o : FOps) (m : OpR → L5 → L5 → L5) (m' : OpR → L4 → L4 → L4) (t : Int → N4) (len p : Nat) (i : Int) (q : OpR) (r : V4 L5) (d : V4 L4) : fa_X o m m' t len p i q r d .j3 .j3 .j3 := fun K => by kernel_rfl
theorem fa_X_h (o : FOps) (m : OpR → L5 → L5 → L5) (m' : OpR → L4 → L4 → L4) (t : Int → N4) (len p : Nat) (i : Int) (q : OpR) (r : V4 L5) (d : V4 L4) : ∀ to a b, fa_X o m m' t len p i q r d to a b
  | .j0, .j0, .j0 => fa_X_000 o m m' t len p i q r d
  | .j0, .j0, .j1 => fa_X_001 o m m' t len p i q r d
  | .j0, .j0, .j2 => fa_X_002 o m m' t len p i q r d
  | .j0, .j0, .j3 => fa_X_003 o m m' t len p i q r d
  | .j0, .j1, .j0 => fa_X_010 o m m' t len p i q r d
  | .j0, .j1, .j1 => fa_X_011 o m m' t len p i q r d
  | .j0, .j1, .j2 => fa_X_012 o m m' t len p i q r d
  | .j0, .j1, .j3 => fa_X_013 o m m' t len p i q r d
  | .j0, .j2, .j0 => fa_X_020 o m m' t len p i q r d
  | .j0, .j2, .j1 => fa_X_021 o m m' t len p i q r d
  | .j0, .j2, .j2 => fa_X_022 o m m' t len p i q r d
  | .j0, .j2, .j3 => fa_X_023 o m m' t len p i q r d
  | .j0, .j3, .j0 => fa_X_030 o m m' t len p i q r d
  | .j0, .j3, .j1 => fa_X_031 o m m' t len p i q r d
  | .j0, .j3, .j2 => fa_X_032 o m m' t len p i q r d
  | .j0, .j3, .j3 => fa_X_033 o m m' t len p i q r d
  | .j1, .j0, .j0 => fa_X_100 o m m' t len p i q r d
  | .j1, .j0, .j1 => fa_X_101 o m m' t len p i q r d
  | .j1, .j0, .j2 => fa_X_102 o m m' t len p i q r d
  | .j1, .j0, .j3 => fa_X_103 o m m' t len p i q r d
  | .j1, .j1, .j0 => fa_X_110 o m m' t len p i q r d
  | .j1, .j1, .j1 => fa_X_111 o m m' t len p i q r d
  | .j1, .j1, .j2 => fa_X_112 o m m' t len p i q r d
  | .j1, .j1, .j3 => fa_X_113 o m m' t len p i q r d
  | .j1, .j2, .j0 => fa_X_120 o m m' t len p i q r d
  | .j1, .j2, .j1 => fa_X_121 o m m' t len p i q r d
  | .j1, .j2, .j2 => fa_X_122 o m m' t len p i q r d
  | .j1, .j2, .j3 => fa_X_123 o m m' t len p i q r d
  | .j1, .j3, .j0 => fa_X_130 o m m' t len p i q r d
  | .j1, .j3, .j1 => fa_X_131 o m m' t len p i q r d
  | .j1, .j3, .j2 => fa_X_132 o m m' t len p i q r d
  | .j1, .j3, .j3 => fa_X_133 o m m' t len p i q r d
  | .j2, .j0, .j0 => fa_X_200 o m m' t len p i q r d
  | .j2, .j0, .j1 => fa_X_201 o m m' t len p i q r d
  | .j2, .j0, .j2 => fa_X_202 o m m' t len p i q r d
  | .j2, .j0, .j3 => fa_X_203 o m m' t len p i q r d
  | .j2, .j1, .j0 => fa_X_210 o m m' t len p i q r d
  | .j2, .j1, .j1 => fa_X_211 o m m' t len p i q r d
  | .j2, .j1, .j2 => fa_X_212 o m m' t len p i q r d
  | .j2, .j1, .j3 => fa_X_213 o m m' t len p i q r d
  | .j2, .j2, .j0 => fa_X_220 o m m' t len p i q r d
  | .j2, .j2, .j1 => fa_X_221 o m m' t len p i q r d
  | .j2, .j2, .j2 => fa_X_222 o m m' t len p i q r d
  | .j2, .j2, .j3 => fa_X_223 o m m' t len p i q r d
  | .j2, .j3, .j0 => fa_X_230 o m m' t len p i q r d
  | .j2, .j3, .j1 => fa_X_231 o m m' t len p i q r d
  | .j2, .j3, .j2 => fa_X_232 o m m' t len p i q r d
  | .j2, .j3, .j3 => fa_X_233 o m m' t len p i q r d
  | .j3, .j0, .j0 => fa_X_300 o m m' t len p i q r d
  | .j3, .j0, .j1 => fa_X_301 o m m' t len p i q r d
  | .j3, .j0, .j2 => fa_X_302 o m m' t len p i q r d
  | .j3, .j0, .j3 => fa_X_303 o m m' t len p i q r d
  | .j3, .j1, .j0 => fa_X_310 o m m' t len p i q r d
  | .j3, .j1, .j1 => fa_X_311 o m m' t len p i q r d
  | .j3, .j1, .j2 => fa_X_312 o m m' t len p i q r d
  | .j3, .j1, .j3 => fa_X_313 o m m' t len p i q r d
  | .j3, .j2, .j0 => fa_X_320 o m m' t len p i q r d
  | .j3, .j2, .j1 => fa_X_321 o m m' t len p i q r d
  | .j3, .j2, .j2 => fa_X_322 o m m' t len p i q r d
  | .j3, .j2, .j3 => fa_X_323 o m m' t len p i q r d
  | .j3, .j3, .j0 => fa_X_330 o m m' t len p i q r d
  | .j3, .j3, .j1 => fa_X_331 o m m' t len p i q r d
  | .j3, .j3, .j2 => fa_X_332 o m m' t len p i q r d
  | .j3, .j3, .j3 => fa_X_333 o m m' t len p i q r d
end Go.Proofs.Ytfajgpjpabeafaa

