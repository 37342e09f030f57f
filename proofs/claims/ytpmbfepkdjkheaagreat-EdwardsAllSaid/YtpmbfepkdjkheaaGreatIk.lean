/- EdwardsAll: a number made, register by register (printed by wip/tools/genih.py). -/
import Derived.Test.YtpmbfepkdjkheaaGreatIg
namespace Go.Proofs.YtpmbfepkdjkheaaGreat
open Go Pw Go.RowKit
theorem er17_000 (A : AOps) (t : Int → N4) (w : WE) (q : OpE) (len : Nat) : er17_p A t w q len .j0 .j0 .j0 := fun K => by kernel_rfl
theorem er17_001 (A : AOps) (t : Int → N4) (w : WE) (q : OpE) (len : Nat) : er17_p A t w q len .j0 .j0 .j1 := fun K => by kernel_rfl
theorem er17_002 (A : AOps) (t : Int → N4) (w : WE) (q : OpE) (len : Nat) : er17_p A t w q len .j0 .j0 .j2 := fun K => by kernel_rfl
theorem er17_003 (A : AOps) (t : Int → N4) (w : WE) (q : OpE) (len : Nat) : er17_p A t w q len .j0 .j0 .j3 := fun K => by kernel_rfl
theorem er17_010 (A : AOps) (t : Int → N4) (w : WE) (q : OpE) (len : Nat) : er17_p A t w q len .j0 .j1 .j0 := fun K => by kernel_rfl
theorem er17_011 (A : AOps) (t : Int → N4) (w : WE) (q : OpE) (len : Nat) : er17_p A t w q len .j0 .j1 .j1 := fun K => by kernel_rfl
theorem er17_012 (A : AOps) (t : Int → N4) (w : WE) (q : OpE) (len : Nat) : er17_p A t w q len .j0 .j1 .j2 := fun K => by kernel_rfl
theorem er17_013 (A : AOps) (t : Int → N4) (w : WE) (q : OpE) (len : Nat) : er17_p A t w q len .j0 .j1 .j3 := fun K => by kernel_rfl
theorem er17_020 (A : AOps) (t : Int → N4) (w : WE) (q : OpE) (len : Nat) : er17_p A t w q len .j0 .j2 .j0 := fun K => by kernel_rfl
theorem er17_021 (A : AOps) (t : Int → N4) (w : WE) (q : OpE) (len : Nat) : er17_p A t w q len .j0 .j2 .j1 := fun K => by kernel_rfl
theorem er17_022 (A : AOps) (t : Int → N4) (w : WE) (q : OpE) (len : Nat) : er17_p A t w q len .j0 .j2 .j2 := fun K => by kernel_rfl
theorem er17_023 (A : AOps) (t : Int → N4) (w : WE) (q : OpE) (len : Nat) : er17_p A t w q len .j0 .j2 .j3 := fun K => by kernel_rfl
theorem er17_030 (A : AOps) (t : Int → N4) (w : WE) (q : OpE) (len : Nat) : er17_p A t w q len .j0 .j3 .j0 := fun K => by kernel_rfl
theorem er17_031 (A : AOps) (t : Int → N4) (w : WE) (q : OpE) (len : Nat) : er17_p A t w q len .j0 .j3 .j1 := fun K => by kernel_rfl
theorem er17_032 (A : AOps) (t : Int → N4) (w : WE) (q : OpE) (len : Nat) : er17_p A t w q len .j0 .j3 .j2 := fun K => by kernel_rfl
theorem er17_033 (A : AOps) (t : Int → N4) (w : WE) (q : OpE) (len : Nat) : er17_p A t w q len .j0 .j3 .j3 := fun K => by kernel_rfl
theorem er17_100 (A : AOps) (t : Int → N4) (w : WE) (q : OpE) (len : Nat) : er17_p A t w q len .j1 .j0 .j0 := fun K => by kernel_rfl
theorem er17_101 (A : AOps) (t : Int → N4) (w : WE) (q : OpE) (len : Nat) : er17_p A t w q len .j1 .j0 .j1 := fun K => by kernel_rfl
theorem er17_102 (A : AOps) (t : Int → N4) (w : WE) (q : OpE) (len : Nat) : er17_p A t w q len .j1 .j0 .j2 := fun K => by kernel_rfl
theorem er17_103 (A : AOps) (t : Int → N4) (w : WE) (q : OpE) (len : Nat) : er17_p A t w q len .j1 .j0 .j3 := fun K => by kernel_rfl
theorem er17_110 (A : AOps) (t : Int → N4) (w : WE) (q : OpE) (len : Nat) : er17_p A t w q len .j1 .j1 .j0 := fun K => by kernel_rfl
theorem er17_111 (A : AOps) (t : Int → N4) (w : WE) (q : OpE) (len : Nat) : er17_p A t w q len .j1 .j1 .j1 := fun K => by kernel_rfl
theorem er17_112 (A : AOps) (t : Int → N4) (w : WE) (q : OpE) (len : Nat) : er17_p A t w q len .j1 .j1 .j2 := fun K => by kernel_rfl
theorem er17_113 (A : AOps) (t : Int → N4) (w : WE) (q : OpE) (len : Nat) : er17_p A t w q len .j1 .j1 .j3 := fun K => by kernel_rfl
theorem er17_120 (A : AOps) (t : Int → N4) (w : WE) (q : OpE) (len : Nat) : er17_p A t w q len .j1 .j2 .j0 := fun K => by kernel_rfl
theorem er17_121 (A : AOps) (t : Int → N4) (w : WE) (q : OpE) (len : Nat) : er17_p A t w q len .j1 .j2 .j1 := fun K => by kernel_rfl
theorem er17_122 (A : AOps) (t : Int → N4) (w : WE) (q : OpE) (len : Nat) : er17_p A t w q len .j1 .j2 .j2 := fun K => by kernel_rfl
theorem er17_123 (A : AOps) (t : Int → N4) (w : WE) (q : OpE) (len : Nat) : er17_p A t w q len .j1 .j2 .j3 := fun K => by kernel_rfl
theorem er17_130 (A : AOps) (t : Int → N4) (w : WE) (q : OpE) (len : Nat) : er17_p A t w q len .j1 .j3 .j0 := fun K => by kernel_rfl
theorem er17_131 (A : AOps) (t : Int → N4) (w : WE) (q : OpE) (len : Nat) : er17_p A t w q len .j1 .j3 .j1 := fun K => by kernel_rfl
theorem er17_132 (A : AOps) (t : Int → N4) (w : WE) (q : OpE) (len : Nat) : er17_p A t w q len .j1 .j3 .j2 := fun K => by kernel_rfl
theorem er17_133 (A : AOps) (t : Int → N4) (w : WE) (q : OpE) (len : Nat) : er17_p A t w q len .j1 .j3 .j3 := fun K => by kernel_rfl
theorem er17_200 (A : AOps) (t : Int → N4) (w : WE) (q : OpE) (len : Nat) : er17_p A t w q len .j2 .j0 .j0 := fun K => by kernel_rfl
theorem er17_201 (A : AOps) (t : Int → N4) (w : WE) (q : OpE) (len : Nat) : er17_p A t w q len .j2 .j0 .j1 := fun K => by kernel_rfl
theorem er17_202 (A : AOps) (t : Int → N4) (w : WE) (q : OpE) (len : Nat) : er17_p A t w q len .j2 .j0 .j2 := fun K => by kernel_rfl
theorem er17_203 (A : AOps) (t : Int → N4) (w : WE) (q : OpE) (len : Nat) : er17_p A t w q len .j2 .j0 .j3 := fun K => by kernel_rfl
theorem er17_210 (A : AOps) (t : Int → N4) (w : WE) (q : OpE) (len : Nat) : er17_p A t w q len .j2 .j1 .j0 := fun K => by kernel_rfl
theorem er17_211 (A : AOps) (t : Int → N4) (w : WE) (q : OpE) (len : Nat) : er17_p A t w q len .j2 .j1 .j1 := fun K => by kernel_rfl
theorem er17_212 (A : AOps) (t : Int → N4) (w : WE) (q : OpE) (len : Nat) : er17_p A t w q len .j2 .j1 .j2 := fun K => by kernel_rfl
theorem er17_213 (A : AOps) (t : Int → N4) (w : WE) (q : OpE) (len : Nat) : er17_p A t w q len .j2 .j1 .j3 := fun K => by kernel_rfl
theorem er17_220 (A : AOps) (t : Int → N4) (w : WE) (q : OpE) (len : Nat) : er17_p A t w q len .j2 .j2 .j0 := fun K => by kernel_rfl
theorem er17_221 (A : AOps) (t : Int → N4) (w : WE) (q : OpE) (len : Nat) : er17_p A t w q len .j2 .j2 .j1 := fun K => by kernel_rfl
theorem er17_222 (A : AOps) (t : Int → N4) (w : WE) (q : OpE) (len : Nat) : er17_p A t w q len .j2 .j2 .j2 := fun K => by kernel_rfl
theorem er17_223 (A : AOps) (t : Int → N4) (w : WE) (q : OpE) (len : Nat) : er17_p A t w q len .j2 .j2 .j3 := fun K => by kernel_rfl
theorem er17_230 (A : AOps) (t : Int → N4) (w : WE) (q : OpE) (len : Nat) : er17_p A t w q len .j2 .j3 .j0 := fun K => by kernel_rfl
theorem er17_231 (A : AOps) (t : Int → N4) (w : WE) (q : OpE) (len : Nat) : er17_p A t w q len .j2 .j3 .j1 := fun K => by kernel_rfl
theorem er17_232 (A : AOps) (t : Int → N4) (w : WE) (q : OpE) (len : Nat) : er17_p A t w q len .j2 .j3 .j2 := fun K => by kernel_rfl
theorem er17_233 (A : AOps) (t : Int → N4) (w : WE) (q : OpE) (len : Nat) : er17_p A t w q len .j2 .j3 .j3 := fun K => by kernel_rfl
theorem er17_300 (A : AOps) (t : Int → N4) (w : WE) (q : OpE) (len : Nat) : er17_p A t w q len .j3 .j0 .j0 := fun K => by kernel_rfl
theorem er17_301 (A : AOps) (t : Int → N4) (w : WE) (q : OpE) (len : Nat) : er17_p A t w q len .j3 .j0 .j1 := fun K => by kernel_rfl
theorem er17_302 (A : AOps) (t : Int → N4) (w : WE) (q : OpE) (len : Nat) : er17_p A t w q len .j3 .j0 .j2 := fun K => by kernel_rfl
theorem er17_303 (A : AOps) (t : Int → N4) (w : WE) (q : OpE) (len : Nat) : er17_p A t w q len .j3 .j0 .j3 := fun K => by kernel_rfl
theorem er17_310 (A : AOps) (t : Int → N4) (w : WE) (q : OpE) (len : Nat) : er17_p A t w q len .j3 .j1 .j0 := fun K => by kernel_rfl
theorem er17_311 (A : AOps) (t : Int → N4) (w : WE) (q : OpE) (len : Nat) : er17_p A t w q len .j3 .j1 .j1 := fun K => by kernel_rfl
theorem er17_312 (A : AOps) (t : Int → N4) (w : WE) (q : OpE) (len : Nat) : er17_p A t w q len .j3 .j1 .j2 := fun K => by kernel_rfl
theorem er17_313 (A : AOps) (t : Int → N4) (w : WE) (q : OpE) (len : Nat) : er17_p A t w q len .j3 .j1 .j3 := fun K => by kernel_rfl
theorem er17_320 (A : AOps) (t : Int → N4) (w : WE) (q : OpE) (len : Nat) : er17_p A t w q len .j3 .j2 .j0 := fun K => by kernel_rfl
theorem er17_321 (A : AOps) (t : Int → N4) (w : WE) (q : OpE) (len : Nat) : er17_p A t w q len .j3 .j2 .j1 := fun K => by kernel_rfl
theorem er17_322 (A : AOps) (t : Int → N4) (w : WE) (q : OpE) (len : Nat) : er17_p A t w q len .j3 .j2 .j2 := fun K => by kernel_rfl
theorem er17_323 (A : AOps) (t : Int → N4) (w : WE) (q : OpE) (len : Nat) : er17_p A t w q len .j3 .j2 .j3 := fun K => by kernel_rfl
theorem er17_330 (A : AOps) (t : Int → N4) (w : WE) (q : OpE) (len : Nat) : er17_p A t w q len .j3 .j3 .j0 := fun K => by kernel_rfl
theorem er17_331 (A : AOps) (t : Int → N4) (w : WE) (q : OpE) (len : Nat) : er17_p A t w q len .j3 .j3 .j1 := fun K => by kernel_rfl
theorem er17_332 (A : AOps) (t : Int → N4) (w : WE) (q : OpE) (len : Nat) : er17_p A t w q len .j3 .j3 .j2 := fun K => by kernel_rfl
theorem er17_333 (A : AOps) (t : Int → N4) (w : WE) (q : OpE) (len : Nat) : er17_p A t w q len .j3 .j3 .j3 := fun K => by kernel_rfl
theorem er17_h (A : AOps) (t : Int → N4) (w : WE) (q : OpE) (len : Nat) : ∀ to a b, er17_p A t w q len to a b
  | .j0, .j0, .j0 => er17_000 A t w q len
  | .j0, .j0, .j1 => er17_001 A t w q len
  | .j0, .j0, .j2 => er17_002 A t w q len
  | .j0, .j0, .j3 => er17_003 A t w q len
  | .j0, .j1, .j0 => er17_010 A t w q len
  | .j0, .j1, .j1 => er17_011 A t w q len
  | .j0, .j1, .j2 => er17_012 A t w q len
  | .j0, .j1, .j3 => er17_013 A t w q len
  | .j0, .j2, .j0 => er17_020 A t w q len
  | .j0, .j2, .j1 => er17_021 A t w q len
  | .j0, .j2, .j2 => er17_022 A t w q len
  | .j0, .j2, .j3 => er17_023 A t w q len
  | .j0, .j3, .j0 => er17_030 A t w q len
  | .j0, .j3, .j1 => er17_031 A t w q len
  | .j0, .j3, .j2 => er17_032 A t w q len
  | .j0, .j3, .j3 => er17_033 A t w q len
  | .j1, .j0, .j0 => er17_100 A t w q len
  | .j1, .j0, .j1 => er17_101 A t w q len
  | .j1, .j0, .j2 => er17_102 A t w q len
  | .j1, .j0, .j3 => er17_103 A t w q len
  | .j1, .j1, .j0 => er17_110 A t w q len
  | .j1, .j1, .j1 => er17_111 A t w q len
  | .j1, .j1, .j2 => er17_112 A t w q len
  | .j1, .j1, .j3 => er17_113 A t w q len
  | .j1, .j2, .j0 => er17_120 A t w q len
  | .j1, .j2, .j1 => er17_121 A t w q len
  | .j1, .j2, .j2 => er17_122 A t w q len
  | .j1, .j2, .j3 => er17_123 A t w q len
  | .j1, .j3, .j0 => er17_130 A t w q len
  | .j1, .j3, .j1 => er17_131 A t w q len
  | .j1, .j3, .j2 => er17_132 A t w q len
  | .j1, .j3, .j3 => er17_133 A t w q len
  | .j2, .j0, .j0 => er17_200 A t w q len
  | .j2, .j0, .j1 => er17_201 A t w q len
  | .j2, .j0, .j2 => er17_202 A t w q len
  | .j2, .j0, .j3 => er17_203 A t w q len
  | .j2, .j1, .j0 => er17_210 A t w q len
  | .j2, .j1, .j1 => er17_211 A t w q len
  | .j2, .j1, .j2 => er17_212 A t w q len
  | .j2, .j1, .j3 => er17_213 A t w q len
  | .j2, .j2, .j0 => er17_220 A t w q len
  | .j2, .j2, .j1 => er17_221 A t w q len
  | .j2, .j2, .j2 => er17_222 A t w q len
  | .j2, .j2, .j3 => er17_223 A t w q len
  | .j2, .j3, .j0 => er17_230 A t w q len
  | .j2, .j3, .j1 => er17_231 A t w q len
  | .j2, .j3, .j2 => er17_232 A t w q len
  | .j2, .j3, .j3 => er17_233 A t w q len
  | .j3, .j0, .j0 => er17_300 A t w q len
  | .j3, .j0, .j1 => er17_301 A t w q len
  | .j3, .j0, .j2 => er17_302 A t w q len
  | .j3, .j0, .j3 => er17_303 A t w q len
  | .j3, .j1, .j0 => er17_310 A t w q len
  | .j3, .j1, .j1 => er17_311 A t w q len
  | .j3, .j1, .j2 => er17_312 A t w q len
  | .j3, .j1, .j3 => er17_313 A t w q len
  | .j3, .j2, .j0 => er17_320 A t w q len
  | .j3, .j2, .j1 => er17_321 A t w q len
  | .j3, .j2, .j2 => er17_322 A t w q len
  | .j3, .j2, .j3 => er17_323 A t w q len
  | .j3, .j3, .j0 => er17_330 A t w q len
  | .j3, .j3, .j1 => er17_331 A t w q len
  | .j3, .j3, .j2 => er17_332 A t w q len
  | .j3, .j3, .j3 => er17_333 A t w q len
theorem er19_00 (A : AOps) (t : Int → N4) (w : WE) (q : OpE) (len : Nat) (b : N4) : er19_p A t w q len .j0 .j0 b := fun K => by kernel_rfl
theorem er19_01 (A : AOps) (t : Int → N4) (w : WE) (q : OpE) (len : Nat) (b : N4) : er19_p A t w q len .j0 .j1 b := fun K => by kernel_rfl
theorem er19_02 (A : AOps) (t : Int → N4) (w : WE) (q : OpE) (len : Nat) (b : N4) : er19_p A t w q len .j0 .j2 b := fun K => by kernel_rfl
theorem er19_03 (A : AOps) (t : Int → N4) (w : WE) (q : OpE) (len : Nat) (b : N4) : er19_p A t w q len .j0 .j3 b := fun K => by kernel_rfl
theorem er19_10 (A : AOps) (t : Int → N4) (w : WE) (q : OpE) (len : Nat) (b : N4) : er19_p A t w q len .j1 .j0 b := fun K => by kernel_rfl
theorem er19_11 (A : AOps) (t : Int → N4) (w : WE) (q : OpE) (len : Nat) (b : N4) : er19_p A t w q len .j1 .j1 b := fun K => by kernel_rfl
theorem er19_12 (A : AOps) (t : Int → N4) (w : WE) (q : OpE) (len : Nat) (b : N4) : er19_p A t w q len .j1 .j2 b := fun K => by kernel_rfl
theorem er19_13 (A : AOps) (t : Int → N4) (w : WE) (q : OpE) (len : Nat) (b : N4) : er19_p A t w q len .j1 .j3 b := fun K => by kernel_rfl
theorem er19_20 (A : AOps) (t : Int → N4) (w : WE) (q : OpE) (len : Nat) (b : N4) : er19_p A t w q len .j2 .j0 b := fun K => by kernel_rfl
theorem er19_21 (A : AOps) (t : Int → N4) (w : WE) (q : OpE) (len : Nat) (b : N4) : er19_p A t w q len .j2 .j1 b := fun K => by kernel_rfl
theorem er19_22 (A : AOps) (t : Int → N4) (w : WE) (q : OpE) (len : Nat) (b : N4) : er19_p A t w q len .j2 .j2 b := fun K => by kernel_rfl
theorem er19_23 (A : AOps) (t : Int → N4) (w : WE) (q : OpE) (len : Nat) (b : N4) : er19_p A t w q len .j2 .j3 b := fun K => by kernel_rfl
theorem er19_30 (A : AOps) (t : Int → N4) (w : WE) (q : OpE) (len : Nat) (b : N4) : er19_p A t w q len .j3 .j0 b := fun K => by kernel_rfl
theorem er19_31 (A : AOps) (t : Int → N4) (w : WE) (q : OpE) (len : Nat) (b : N4) : er19_p A t w q len .j3 .j1 b := fun K => by kernel_rfl
theorem er19_32 (A : AOps) (t : Int → N4) (w : WE) (q : OpE) (len : Nat) (b : N4) : er19_p A t w q len .j3 .j2 b := fun K => by kernel_rfl
theorem er19_33 (A : AOps) (t : Int → N4) (w : WE) (q : OpE) (len : Nat) (b : N4) : er19_p A t w q len .j3 .j3 b := fun K => by kernel_rfl
theorem er19_h (A : AOps) (t : Int → N4) (w : WE) (q : OpE) (len : Nat) (b : N4) : ∀ to a, er19_p A t w q len to a b
  | .j0, .j0 => er19_00 A t w q len b
  | .j0, .j1 => er19_01 A t w q len b
  | .j0, .j2 => er19_02 A t w q len b
  | .j0, .j3 => er19_03 A t w q len b
  | .j1, .j0 => er19_10 A t w q len b
  | .j1, .j1 => er19_11 A t w q len b
  | .j1, .j2 => er19_12 A t w q len b
  | .j1, .j3 => er19_13 A t w q len b
  | .j2, .j0 => er19_20 A t w q len b
  | .j2, .j1 => er19_21 A t w q len b
  | .j2, .j2 => er19_22 A t w q len b
  | .j2, .j3 => er19_23 A t w q len b
  | .j3, .j0 => er19_30 A t w q len b
  | .j3, .j1 => er19_31 A t w q len b
  | .j3, .j2 => er19_32 A t w q len b
  | .j3, .j3 => er19_33 A t w q len b
end Go.Proofs.YtpmbfepkdjkheaaGreat

