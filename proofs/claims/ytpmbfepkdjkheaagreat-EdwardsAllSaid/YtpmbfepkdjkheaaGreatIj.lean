/- EdwardsAll: a number made, register by register (printed by wip/tools/genih.py). -/
import Derived.Test.YtpmbfepkdjkheaaGreatIg
namespace Go.Proofs.YtpmbfepkdjkheaaGreat
open Go Pw Go.RowKit
theorem er15_000 (A : AOps) (t : Int → N4) (w : WE) (q : OpE) (len : Nat) : er15_p A t w q len .j0 .j0 .j0 := fun K => by kernel_rfl
theorem er15_001 (A : AOps) (t : Int → N4) (w : WE) (q : OpE) (len : Nat) : er15_p A t w q len .j0 .j0 .j1 := fun K => by kernel_rfl
theorem er15_002 (A : AOps) (t : Int → N4) (w : WE) (q : OpE) (len : Nat) : er15_p A t w q len .j0 .j0 .j2 := fun K => by kernel_rfl
theorem er15_003 (A : AOps) (t : Int → N4) (w : WE) (q : OpE) (len : Nat) : er15_p A t w q len .j0 .j0 .j3 := fun K => by kernel_rfl
theorem er15_010 (A : AOps) (t : Int → N4) (w : WE) (q : OpE) (len : Nat) : er15_p A t w q len .j0 .j1 .j0 := fun K => by kernel_rfl
theorem er15_011 (A : AOps) (t : Int → N4) (w : WE) (q : OpE) (len : Nat) : er15_p A t w q len .j0 .j1 .j1 := fun K => by kernel_rfl
theorem er15_012 (A : AOps) (t : Int → N4) (w : WE) (q : OpE) (len : Nat) : er15_p A t w q len .j0 .j1 .j2 := fun K => by kernel_rfl
theorem er15_013 (A : AOps) (t : Int → N4) (w : WE) (q : OpE) (len : Nat) : er15_p A t w q len .j0 .j1 .j3 := fun K => by kernel_rfl
theorem er15_020 (A : AOps) (t : Int → N4) (w : WE) (q : OpE) (len : Nat) : er15_p A t w q len .j0 .j2 .j0 := fun K => by kernel_rfl
theorem er15_021 (A : AOps) (t : Int → N4) (w : WE) (q : OpE) (len : Nat) : er15_p A t w q len .j0 .j2 .j1 := fun K => by kernel_rfl
theorem er15_022 (A : AOps) (t : Int → N4) (w : WE) (q : OpE) (len : Nat) : er15_p A t w q len .j0 .j2 .j2 := fun K => by kernel_rfl
theorem er15_023 (A : AOps) (t : Int → N4) (w : WE) (q : OpE) (len : Nat) : er15_p A t w q len .j0 .j2 .j3 := fun K => by kernel_rfl
theorem er15_030 (A : AOps) (t : Int → N4) (w : WE) (q : OpE) (len : Nat) : er15_p A t w q len .j0 .j3 .j0 := fun K => by kernel_rfl
theorem er15_031 (A : AOps) (t : Int → N4) (w : WE) (q : OpE) (len : Nat) : er15_p A t w q len .j0 .j3 .j1 := fun K => by kernel_rfl
theorem er15_032 (A : AOps) (t : Int → N4) (w : WE) (q : OpE) (len : Nat) : er15_p A t w q len .j0 .j3 .j2 := fun K => by kernel_rfl
theorem er15_033 (A : AOps) (t : Int → N4) (w : WE) (q : OpE) (len : Nat) : er15_p A t w q len .j0 .j3 .j3 := fun K => by kernel_rfl
theorem er15_100 (A : AOps) (t : Int → N4) (w : WE) (q : OpE) (len : Nat) : er15_p A t w q len .j1 .j0 .j0 := fun K => by kernel_rfl
theorem er15_101 (A : AOps) (t : Int → N4) (w : WE) (q : OpE) (len : Nat) : er15_p A t w q len .j1 .j0 .j1 := fun K => by kernel_rfl
theorem er15_102 (A : AOps) (t : Int → N4) (w : WE) (q : OpE) (len : Nat) : er15_p A t w q len .j1 .j0 .j2 := fun K => by kernel_rfl
theorem er15_103 (A : AOps) (t : Int → N4) (w : WE) (q : OpE) (len : Nat) : er15_p A t w q len .j1 .j0 .j3 := fun K => by kernel_rfl
theorem er15_110 (A : AOps) (t : Int → N4) (w : WE) (q : OpE) (len : Nat) : er15_p A t w q len .j1 .j1 .j0 := fun K => by kernel_rfl
theorem er15_111 (A : AOps) (t : Int → N4) (w : WE) (q : OpE) (len : Nat) : er15_p A t w q len .j1 .j1 .j1 := fun K => by kernel_rfl
theorem er15_112 (A : AOps) (t : Int → N4) (w : WE) (q : OpE) (len : Nat) : er15_p A t w q len .j1 .j1 .j2 := fun K => by kernel_rfl
theorem er15_113 (A : AOps) (t : Int → N4) (w : WE) (q : OpE) (len : Nat) : er15_p A t w q len .j1 .j1 .j3 := fun K => by kernel_rfl
theorem er15_120 (A : AOps) (t : Int → N4) (w : WE) (q : OpE) (len : Nat) : er15_p A t w q len .j1 .j2 .j0 := fun K => by kernel_rfl
theorem er15_121 (A : AOps) (t : Int → N4) (w : WE) (q : OpE) (len : Nat) : er15_p A t w q len .j1 .j2 .j1 := fun K => by kernel_rfl
theorem er15_122 (A : AOps) (t : Int → N4) (w : WE) (q : OpE) (len : Nat) : er15_p A t w q len .j1 .j2 .j2 := fun K => by kernel_rfl
theorem er15_123 (A : AOps) (t : Int → N4) (w : WE) (q : OpE) (len : Nat) : er15_p A t w q len .j1 .j2 .j3 := fun K => by kernel_rfl
theorem er15_130 (A : AOps) (t : Int → N4) (w : WE) (q : OpE) (len : Nat) : er15_p A t w q len .j1 .j3 .j0 := fun K => by kernel_rfl
theorem er15_131 (A : AOps) (t : Int → N4) (w : WE) (q : OpE) (len : Nat) : er15_p A t w q len .j1 .j3 .j1 := fun K => by kernel_rfl
theorem er15_132 (A : AOps) (t : Int → N4) (w : WE) (q : OpE) (len : Nat) : er15_p A t w q len .j1 .j3 .j2 := fun K => by kernel_rfl
theorem er15_133 (A : AOps) (t : Int → N4) (w : WE) (q : OpE) (len : Nat) : er15_p A t w q len .j1 .j3 .j3 := fun K => by kernel_rfl
theorem er15_200 (A : AOps) (t : Int → N4) (w : WE) (q : OpE) (len : Nat) : er15_p A t w q len .j2 .j0 .j0 := fun K => by kernel_rfl
theorem er15_201 (A : AOps) (t : Int → N4) (w : WE) (q : OpE) (len : Nat) : er15_p A t w q len .j2 .j0 .j1 := fun K => by kernel_rfl
theorem er15_202 (A : AOps) (t : Int → N4) (w : WE) (q : OpE) (len : Nat) : er15_p A t w q len .j2 .j0 .j2 := fun K => by kernel_rfl
theorem er15_203 (A : AOps) (t : Int → N4) (w : WE) (q : OpE) (len : Nat) : er15_p A t w q len .j2 .j0 .j3 := fun K => by kernel_rfl
theorem er15_210 (A : AOps) (t : Int → N4) (w : WE) (q : OpE) (len : Nat) : er15_p A t w q len .j2 .j1 .j0 := fun K => by kernel_rfl
theorem er15_211 (A : AOps) (t : Int → N4) (w : WE) (q : OpE) (len : Nat) : er15_p A t w q len .j2 .j1 .j1 := fun K => by kernel_rfl
theorem er15_212 (A : AOps) (t : Int → N4) (w : WE) (q : OpE) (len : Nat) : er15_p A t w q len .j2 .j1 .j2 := fun K => by kernel_rfl
theorem er15_213 (A : AOps) (t : Int → N4) (w : WE) (q : OpE) (len : Nat) : er15_p A t w q len .j2 .j1 .j3 := fun K => by kernel_rfl
theorem er15_220 (A : AOps) (t : Int → N4) (w : WE) (q : OpE) (len : Nat) : er15_p A t w q len .j2 .j2 .j0 := fun K => by kernel_rfl
theorem er15_221 (A : AOps) (t : Int → N4) (w : WE) (q : OpE) (len : Nat) : er15_p A t w q len .j2 .j2 .j1 := fun K => by kernel_rfl
theorem er15_222 (A : AOps) (t : Int → N4) (w : WE) (q : OpE) (len : Nat) : er15_p A t w q len .j2 .j2 .j2 := fun K => by kernel_rfl
theorem er15_223 (A : AOps) (t : Int → N4) (w : WE) (q : OpE) (len : Nat) : er15_p A t w q len .j2 .j2 .j3 := fun K => by kernel_rfl
theorem er15_230 (A : AOps) (t : Int → N4) (w : WE) (q : OpE) (len : Nat) : er15_p A t w q len .j2 .j3 .j0 := fun K => by kernel_rfl
theorem er15_231 (A : AOps) (t : Int → N4) (w : WE) (q : OpE) (len : Nat) : er15_p A t w q len .j2 .j3 .j1 := fun K => by kernel_rfl
theorem er15_232 (A : AOps) (t : Int → N4) (w : WE) (q : OpE) (len : Nat) : er15_p A t w q len .j2 .j3 .j2 := fun K => by kernel_rfl
theorem er15_233 (A : AOps) (t : Int → N4) (w : WE) (q : OpE) (len : Nat) : er15_p A t w q len .j2 .j3 .j3 := fun K => by kernel_rfl
theorem er15_300 (A : AOps) (t : Int → N4) (w : WE) (q : OpE) (len : Nat) : er15_p A t w q len .j3 .j0 .j0 := fun K => by kernel_rfl
theorem er15_301 (A : AOps) (t : Int → N4) (w : WE) (q : OpE) (len : Nat) : er15_p A t w q len .j3 .j0 .j1 := fun K => by kernel_rfl
theorem er15_302 (A : AOps) (t : Int → N4) (w : WE) (q : OpE) (len : Nat) : er15_p A t w q len .j3 .j0 .j2 := fun K => by kernel_rfl
theorem er15_303 (A : AOps) (t : Int → N4) (w : WE) (q : OpE) (len : Nat) : er15_p A t w q len .j3 .j0 .j3 := fun K => by kernel_rfl
theorem er15_310 (A : AOps) (t : Int → N4) (w : WE) (q : OpE) (len : Nat) : er15_p A t w q len .j3 .j1 .j0 := fun K => by kernel_rfl
theorem er15_311 (A : AOps) (t : Int → N4) (w : WE) (q : OpE) (len : Nat) : er15_p A t w q len .j3 .j1 .j1 := fun K => by kernel_rfl
theorem er15_312 (A : AOps) (t : Int → N4) (w : WE) (q : OpE) (len : Nat) : er15_p A t w q len .j3 .j1 .j2 := fun K => by kernel_rfl
theorem er15_313 (A : AOps) (t : Int → N4) (w : WE) (q : OpE) (len : Nat) : er15_p A t w q len .j3 .j1 .j3 := fun K => by kernel_rfl
theorem er15_320 (A : AOps) (t : Int → N4) (w : WE) (q : OpE) (len : Nat) : er15_p A t w q len .j3 .j2 .j0 := fun K => by kernel_rfl
theorem er15_321 (A : AOps) (t : Int → N4) (w : WE) (q : OpE) (len : Nat) : er15_p A t w q len .j3 .j2 .j1 := fun K => by kernel_rfl
theorem er15_322 (A : AOps) (t : Int → N4) (w : WE) (q : OpE) (len : Nat) : er15_p A t w q len .j3 .j2 .j2 := fun K => by kernel_rfl
theorem er15_323 (A : AOps) (t : Int → N4) (w : WE) (q : OpE) (len : Nat) : er15_p A t w q len .j3 .j2 .j3 := fun K => by kernel_rfl
theorem er15_330 (A : AOps) (t : Int → N4) (w : WE) (q : OpE) (len : Nat) : er15_p A t w q len .j3 .j3 .j0 := fun K => by kernel_rfl
theorem er15_331 (A : AOps) (t : Int → N4) (w : WE) (q : OpE) (len : Nat) : er15_p A t w q len .j3 .j3 .j1 := fun K => by kernel_rfl
theorem er15_332 (A : AOps) (t : Int → N4) (w : WE) (q : OpE) (len : Nat) : er15_p A t w q len .j3 .j3 .j2 := fun K => by kernel_rfl
theorem er15_333 (A : AOps) (t : Int → N4) (w : WE) (q : OpE) (len : Nat) : er15_p A t w q len .j3 .j3 .j3 := fun K => by kernel_rfl
theorem er15_h (A : AOps) (t : Int → N4) (w : WE) (q : OpE) (len : Nat) : ∀ to a b, er15_p A t w q len to a b
  | .j0, .j0, .j0 => er15_000 A t w q len
  | .j0, .j0, .j1 => er15_001 A t w q len
  | .j0, .j0, .j2 => er15_002 A t w q len
  | .j0, .j0, .j3 => er15_003 A t w q len
  | .j0, .j1, .j0 => er15_010 A t w q len
  | .j0, .j1, .j1 => er15_011 A t w q len
  | .j0, .j1, .j2 => er15_012 A t w q len
  | .j0, .j1, .j3 => er15_013 A t w q len
  | .j0, .j2, .j0 => er15_020 A t w q len
  | .j0, .j2, .j1 => er15_021 A t w q len
  | .j0, .j2, .j2 => er15_022 A t w q len
  | .j0, .j2, .j3 => er15_023 A t w q len
  | .j0, .j3, .j0 => er15_030 A t w q len
  | .j0, .j3, .j1 => er15_031 A t w q len
  | .j0, .j3, .j2 => er15_032 A t w q len
  | .j0, .j3, .j3 => er15_033 A t w q len
  | .j1, .j0, .j0 => er15_100 A t w q len
  | .j1, .j0, .j1 => er15_101 A t w q len
  | .j1, .j0, .j2 => er15_102 A t w q len
  | .j1, .j0, .j3 => er15_103 A t w q len
  | .j1, .j1, .j0 => er15_110 A t w q len
  | .j1, .j1, .j1 => er15_111 A t w q len
  | .j1, .j1, .j2 => er15_112 A t w q len
  | .j1, .j1, .j3 => er15_113 A t w q len
  | .j1, .j2, .j0 => er15_120 A t w q len
  | .j1, .j2, .j1 => er15_121 A t w q len
  | .j1, .j2, .j2 => er15_122 A t w q len
  | .j1, .j2, .j3 => er15_123 A t w q len
  | .j1, .j3, .j0 => er15_130 A t w q len
  | .j1, .j3, .j1 => er15_131 A t w q len
  | .j1, .j3, .j2 => er15_132 A t w q len
  | .j1, .j3, .j3 => er15_133 A t w q len
  | .j2, .j0, .j0 => er15_200 A t w q len
  | .j2, .j0, .j1 => er15_201 A t w q len
  | .j2, .j0, .j2 => er15_202 A t w q len
  | .j2, .j0, .j3 => er15_203 A t w q len
  | .j2, .j1, .j0 => er15_210 A t w q len
  | .j2, .j1, .j1 => er15_211 A t w q len
  | .j2, .j1, .j2 => er15_212 A t w q len
  | .j2, .j1, .j3 => er15_213 A t w q len
  | .j2, .j2, .j0 => er15_220 A t w q len
  | .j2, .j2, .j1 => er15_221 A t w q len
  | .j2, .j2, .j2 => er15_222 A t w q len
  | .j2, .j2, .j3 => er15_223 A t w q len
  | .j2, .j3, .j0 => er15_230 A t w q len
  | .j2, .j3, .j1 => er15_231 A t w q len
  | .j2, .j3, .j2 => er15_232 A t w q len
  | .j2, .j3, .j3 => er15_233 A t w q len
  | .j3, .j0, .j0 => er15_300 A t w q len
  | .j3, .j0, .j1 => er15_301 A t w q len
  | .j3, .j0, .j2 => er15_302 A t w q len
  | .j3, .j0, .j3 => er15_303 A t w q len
  | .j3, .j1, .j0 => er15_310 A t w q len
  | .j3, .j1, .j1 => er15_311 A t w q len
  | .j3, .j1, .j2 => er15_312 A t w q len
  | .j3, .j1, .j3 => er15_313 A t w q len
  | .j3, .j2, .j0 => er15_320 A t w q len
  | .j3, .j2, .j1 => er15_321 A t w q len
  | .j3, .j2, .j2 => er15_322 A t w q len
  | .j3, .j2, .j3 => er15_323 A t w q len
  | .j3, .j3, .j0 => er15_330 A t w q len
  | .j3, .j3, .j1 => er15_331 A t w q len
  | .j3, .j3, .j2 => er15_332 A t w q len
  | .j3, .j3, .j3 => er15_333 A t w q len
end Go.Proofs.YtpmbfepkdjkheaaGreat

