/- EdwardsAll: a number made, register by register (printed by wip/tools/genih.py). -/
import Derived.Test.YtpmbfepkdjkheaaGreatIg
namespace Go.Proofs.YtpmbfepkdjkheaaGreat
open Go Pw Go.RowKit
theorem er13_000 (A : AOps) (t : Int → N4) (w : WE) (q : OpE) (len : Nat) : er13_p A t w q len .j0 .j0 .j0 := fun K => by kernel_rfl
theorem er13_001 (A : AOps) (t : Int → N4) (w : WE) (q : OpE) (len : Nat) : er13_p A t w q len .j0 .j0 .j1 := fun K => by kernel_rfl
theorem er13_002 (A : AOps) (t : Int → N4) (w : WE) (q : OpE) (len : Nat) : er13_p A t w q len .j0 .j0 .j2 := fun K => by kernel_rfl
theorem er13_003 (A : AOps) (t : Int → N4) (w : WE) (q : OpE) (len : Nat) : er13_p A t w q len .j0 .j0 .j3 := fun K => by kernel_rfl
theorem er13_010 (A : AOps) (t : Int → N4) (w : WE) (q : OpE) (len : Nat) : er13_p A t w q len .j0 .j1 .j0 := fun K => by kernel_rfl
theorem er13_011 (A : AOps) (t : Int → N4) (w : WE) (q : OpE) (len : Nat) : er13_p A t w q len .j0 .j1 .j1 := fun K => by kernel_rfl
theorem er13_012 (A : AOps) (t : Int → N4) (w : WE) (q : OpE) (len : Nat) : er13_p A t w q len .j0 .j1 .j2 := fun K => by kernel_rfl
theorem er13_013 (A : AOps) (t : Int → N4) (w : WE) (q : OpE) (len : Nat) : er13_p A t w q len .j0 .j1 .j3 := fun K => by kernel_rfl
theorem er13_020 (A : AOps) (t : Int → N4) (w : WE) (q : OpE) (len : Nat) : er13_p A t w q len .j0 .j2 .j0 := fun K => by kernel_rfl
theorem er13_021 (A : AOps) (t : Int → N4) (w : WE) (q : OpE) (len : Nat) : er13_p A t w q len .j0 .j2 .j1 := fun K => by kernel_rfl
theorem er13_022 (A : AOps) (t : Int → N4) (w : WE) (q : OpE) (len : Nat) : er13_p A t w q len .j0 .j2 .j2 := fun K => by kernel_rfl
theorem er13_023 (A : AOps) (t : Int → N4) (w : WE) (q : OpE) (len : Nat) : er13_p A t w q len .j0 .j2 .j3 := fun K => by kernel_rfl
theorem er13_030 (A : AOps) (t : Int → N4) (w : WE) (q : OpE) (len : Nat) : er13_p A t w q len .j0 .j3 .j0 := fun K => by kernel_rfl
theorem er13_031 (A : AOps) (t : Int → N4) (w : WE) (q : OpE) (len : Nat) : er13_p A t w q len .j0 .j3 .j1 := fun K => by kernel_rfl
theorem er13_032 (A : AOps) (t : Int → N4) (w : WE) (q : OpE) (len : Nat) : er13_p A t w q len .j0 .j3 .j2 := fun K => by kernel_rfl
theorem er13_033 (A : AOps) (t : Int → N4) (w : WE) (q : OpE) (len : Nat) : er13_p A t w q len .j0 .j3 .j3 := fun K => by kernel_rfl
theorem er13_100 (A : AOps) (t : Int → N4) (w : WE) (q : OpE) (len : Nat) : er13_p A t w q len .j1 .j0 .j0 := fun K => by kernel_rfl
theorem er13_101 (A : AOps) (t : Int → N4) (w : WE) (q : OpE) (len : Nat) : er13_p A t w q len .j1 .j0 .j1 := fun K => by kernel_rfl
theorem er13_102 (A : AOps) (t : Int → N4) (w : WE) (q : OpE) (len : Nat) : er13_p A t w q len .j1 .j0 .j2 := fun K => by kernel_rfl
theorem er13_103 (A : AOps) (t : Int → N4) (w : WE) (q : OpE) (len : Nat) : er13_p A t w q len .j1 .j0 .j3 := fun K => by kernel_rfl
theorem er13_110 (A : AOps) (t : Int → N4) (w : WE) (q : OpE) (len : Nat) : er13_p A t w q len .j1 .j1 .j0 := fun K => by kernel_rfl
theorem er13_111 (A : AOps) (t : Int → N4) (w : WE) (q : OpE) (len : Nat) : er13_p A t w q len .j1 .j1 .j1 := fun K => by kernel_rfl
theorem er13_112 (A : AOps) (t : Int → N4) (w : WE) (q : OpE) (len : Nat) : er13_p A t w q len .j1 .j1 .j2 := fun K => by kernel_rfl
theorem er13_113 (A : AOps) (t : Int → N4) (w : WE) (q : OpE) (len : Nat) : er13_p A t w q len .j1 .j1 .j3 := fun K => by kernel_rfl
theorem er13_120 (A : AOps) (t : Int → N4) (w : WE) (q : OpE) (len : Nat) : er13_p A t w q len .j1 .j2 .j0 := fun K => by kernel_rfl
theorem er13_121 (A : AOps) (t : Int → N4) (w : WE) (q : OpE) (len : Nat) : er13_p A t w q len .j1 .j2 .j1 := fun K => by kernel_rfl
theorem er13_122 (A : AOps) (t : Int → N4) (w : WE) (q : OpE) (len : Nat) : er13_p A t w q len .j1 .j2 .j2 := fun K => by kernel_rfl
theorem er13_123 (A : AOps) (t : Int → N4) (w : WE) (q : OpE) (len : Nat) : er13_p A t w q len .j1 .j2 .j3 := fun K => by kernel_rfl
theorem er13_130 (A : AOps) (t : Int → N4) (w : WE) (q : OpE) (len : Nat) : er13_p A t w q len .j1 .j3 .j0 := fun K => by kernel_rfl
theorem er13_131 (A : AOps) (t : Int → N4) (w : WE) (q : OpE) (len : Nat) : er13_p A t w q len .j1 .j3 .j1 := fun K => by kernel_rfl
theorem er13_132 (A : AOps) (t : Int → N4) (w : WE) (q : OpE) (len : Nat) : er13_p A t w q len .j1 .j3 .j2 := fun K => by kernel_rfl
theorem er13_133 (A : AOps) (t : Int → N4) (w : WE) (q : OpE) (len : Nat) : er13_p A t w q len .j1 .j3 .j3 := fun K => by kernel_rfl
theorem er13_200 (A : AOps) (t : Int → N4) (w : WE) (q : OpE) (len : Nat) : er13_p A t w q len .j2 .j0 .j0 := fun K => by kernel_rfl
theorem er13_201 (A : AOps) (t : Int → N4) (w : WE) (q : OpE) (len : Nat) : er13_p A t w q len .j2 .j0 .j1 := fun K => by kernel_rfl
theorem er13_202 (A : AOps) (t : Int → N4) (w : WE) (q : OpE) (len : Nat) : er13_p A t w q len .j2 .j0 .j2 := fun K => by kernel_rfl
theorem er13_203 (A : AOps) (t : Int → N4) (w : WE) (q : OpE) (len : Nat) : er13_p A t w q len .j2 .j0 .j3 := fun K => by kernel_rfl
theorem er13_210 (A : AOps) (t : Int → N4) (w : WE) (q : OpE) (len : Nat) : er13_p A t w q len .j2 .j1 .j0 := fun K => by kernel_rfl
theorem er13_211 (A : AOps) (t : Int → N4) (w : WE) (q : OpE) (len : Nat) : er13_p A t w q len .j2 .j1 .j1 := fun K => by kernel_rfl
theorem er13_212 (A : AOps) (t : Int → N4) (w : WE) (q : OpE) (len : Nat) : er13_p A t w q len .j2 .j1 .j2 := fun K => by kernel_rfl
theorem er13_213 (A : AOps) (t : Int → N4) (w : WE) (q : OpE) (len : Nat) : er13_p A t w q len .j2 .j1 .j3 := fun K => by kernel_rfl
theorem er13_220 (A : AOps) (t : Int → N4) (w : WE) (q : OpE) (len : Nat) : er13_p A t w q len .j2 .j2 .j0 := fun K => by kernel_rfl
theorem er13_221 (A : AOps) (t : Int → N4) (w : WE) (q : OpE) (len : Nat) : er13_p A t w q len .j2 .j2 .j1 := fun K => by kernel_rfl
theorem er13_222 (A : AOps) (t : Int → N4) (w : WE) (q : OpE) (len : Nat) : er13_p A t w q len .j2 .j2 .j2 := fun K => by kernel_rfl
theorem er13_223 (A : AOps) (t : Int → N4) (w : WE) (q : OpE) (len : Nat) : er13_p A t w q len .j2 .j2 .j3 := fun K => by kernel_rfl
theorem er13_230 (A : AOps) (t : Int → N4) (w : WE) (q : OpE) (len : Nat) : er13_p A t w q len .j2 .j3 .j0 := fun K => by kernel_rfl
theorem er13_231 (A : AOps) (t : Int → N4) (w : WE) (q : OpE) (len : Nat) : er13_p A t w q len .j2 .j3 .j1 := fun K => by kernel_rfl
theorem er13_232 (A : AOps) (t : Int → N4) (w : WE) (q : OpE) (len : Nat) : er13_p A t w q len .j2 .j3 .j2 := fun K => by kernel_rfl
theorem er13_233 (A : AOps) (t : Int → N4) (w : WE) (q : OpE) (len : Nat) : er13_p A t w q len .j2 .j3 .j3 := fun K => by kernel_rfl
theorem er13_300 (A : AOps) (t : Int → N4) (w : WE) (q : OpE) (len : Nat) : er13_p A t w q len .j3 .j0 .j0 := fun K => by kernel_rfl
theorem er13_301 (A : AOps) (t : Int → N4) (w : WE) (q : OpE) (len : Nat) : er13_p A t w q len .j3 .j0 .j1 := fun K => by kernel_rfl
theorem er13_302 (A : AOps) (t : Int → N4) (w : WE) (q : OpE) (len : Nat) : er13_p A t w q len .j3 .j0 .j2 := fun K => by kernel_rfl
theorem er13_303 (A : AOps) (t : Int → N4) (w : WE) (q : OpE) (len : Nat) : er13_p A t w q len .j3 .j0 .j3 := fun K => by kernel_rfl
theorem er13_310 (A : AOps) (t : Int → N4) (w : WE) (q : OpE) (len : Nat) : er13_p A t w q len .j3 .j1 .j0 := fun K => by kernel_rfl
theorem er13_311 (A : AOps) (t : Int → N4) (w : WE) (q : OpE) (len : Nat) : er13_p A t w q len .j3 .j1 .j1 := fun K => by kernel_rfl
theorem er13_312 (A : AOps) (t : Int → N4) (w : WE) (q : OpE) (len : Nat) : er13_p A t w q len .j3 .j1 .j2 := fun K => by kernel_rfl
theorem er13_313 (A : AOps) (t : Int → N4) (w : WE) (q : OpE) (len : Nat) : er13_p A t w q len .j3 .j1 .j3 := fun K => by kernel_rfl
theorem er13_320 (A : AOps) (t : Int → N4) (w : WE) (q : OpE) (len : Nat) : er13_p A t w q len .j3 .j2 .j0 := fun K => by kernel_rfl
theorem er13_321 (A : AOps) (t : Int → N4) (w : WE) (q : OpE) (len : Nat) : er13_p A t w q len .j3 .j2 .j1 := fun K => by kernel_rfl
theorem er13_322 (A : AOps) (t : Int → N4) (w : WE) (q : OpE) (len : Nat) : er13_p A t w q len .j3 .j2 .j2 := fun K => by kernel_rfl
theorem er13_323 (A : AOps) (t : Int → N4) (w : WE) (q : OpE) (len : Nat) : er13_p A t w q len .j3 .j2 .j3 := fun K => by kernel_rfl
theorem er13_330 (A : AOps) (t : Int → N4) (w : WE) (q : OpE) (len : Nat) : er13_p A t w q len .j3 .j3 .j0 := fun K => by kernel_rfl
theorem er13_331 (A : AOps) (t : Int → N4) (w : WE) (q : OpE) (len : Nat) : er13_p A t w q len .j3 .j3 .j1 := fun K => by kernel_rfl
theorem er13_332 (A : AOps) (t : Int → N4) (w : WE) (q : OpE) (len : Nat) : er13_p A t w q len .j3 .j3 .j2 := fun K => by kernel_rfl
theorem er13_333 (A : AOps) (t : Int → N4) (w : WE) (q : OpE) (len : Nat) : er13_p A t w q len .j3 .j3 .j3 := fun K => by kernel_rfl
theorem er13_h (A : AOps) (t : Int → N4) (w : WE) (q : OpE) (len : Nat) : ∀ to a b, er13_p A t w q len to a b
  | .j0, .j0, .j0 => er13_000 A t w q len
  | .j0, .j0, .j1 => er13_001 A t w q len
  | .j0, .j0, .j2 => er13_002 A t w q len
  | .j0, .j0, .j3 => er13_003 A t w q len
  | .j0, .j1, .j0 => er13_010 A t w q len
  | .j0, .j1, .j1 => er13_011 A t w q len
  | .j0, .j1, .j2 => er13_012 A t w q len
  | .j0, .j1, .j3 => er13_013 A t w q len
  | .j0, .j2, .j0 => er13_020 A t w q len
  | .j0, .j2, .j1 => er13_021 A t w q len
  | .j0, .j2, .j2 => er13_022 A t w q len
  | .j0, .j2, .j3 => er13_023 A t w q len
  | .j0, .j3, .j0 => er13_030 A t w q len
  | .j0, .j3, .j1 => er13_031 A t w q len
  | .j0, .j3, .j2 => er13_032 A t w q len
  | .j0, .j3, .j3 => er13_033 A t w q len
  | .j1, .j0, .j0 => er13_100 A t w q len
  | .j1, .j0, .j1 => er13_101 A t w q len
  | .j1, .j0, .j2 => er13_102 A t w q len
  | .j1, .j0, .j3 => er13_103 A t w q len
  | .j1, .j1, .j0 => er13_110 A t w q len
  | .j1, .j1, .j1 => er13_111 A t w q len
  | .j1, .j1, .j2 => er13_112 A t w q len
  | .j1, .j1, .j3 => er13_113 A t w q len
  | .j1, .j2, .j0 => er13_120 A t w q len
  | .j1, .j2, .j1 => er13_121 A t w q len
  | .j1, .j2, .j2 => er13_122 A t w q len
  | .j1, .j2, .j3 => er13_123 A t w q len
  | .j1, .j3, .j0 => er13_130 A t w q len
  | .j1, .j3, .j1 => er13_131 A t w q len
  | .j1, .j3, .j2 => er13_132 A t w q len
  | .j1, .j3, .j3 => er13_133 A t w q len
  | .j2, .j0, .j0 => er13_200 A t w q len
  | .j2, .j0, .j1 => er13_201 A t w q len
  | .j2, .j0, .j2 => er13_202 A t w q len
  | .j2, .j0, .j3 => er13_203 A t w q len
  | .j2, .j1, .j0 => er13_210 A t w q len
  | .j2, .j1, .j1 => er13_211 A t w q len
  | .j2, .j1, .j2 => er13_212 A t w q len
  | .j2, .j1, .j3 => er13_213 A t w q len
  | .j2, .j2, .j0 => er13_220 A t w q len
  | .j2, .j2, .j1 => er13_221 A t w q len
  | .j2, .j2, .j2 => er13_222 A t w q len
  | .j2, .j2, .j3 => er13_223 A t w q len
  | .j2, .j3, .j0 => er13_230 A t w q len
  | .j2, .j3, .j1 => er13_231 A t w q len
  | .j2, .j3, .j2 => er13_232 A t w q len
  | .j2, .j3, .j3 => er13_233 A t w q len
  | .j3, .j0, .j0 => er13_300 A t w q len
  | .j3, .j0, .j1 => er13_301 A t w q len
  | .j3, .j0, .j2 => er13_302 A t w q len
  | .j3, .j0, .j3 => er13_303 A t w q len
  | .j3, .j1, .j0 => er13_310 A t w q len
  | .j3, .j1, .j1 => er13_311 A t w q len
  | .j3, .j1, .j2 => er13_312 A t w q len
  | .j3, .j1, .j3 => er13_313 A t w q len
  | .j3, .j2, .j0 => er13_320 A t w q len
  | .j3, .j2, .j1 => er13_321 A t w q len
  | .j3, .j2, .j2 => er13_322 A t w q len
  | .j3, .j2, .j3 => er13_323 A t w q len
  | .j3, .j3, .j0 => er13_330 A t w q len
  | .j3, .j3, .j1 => er13_331 A t w q len
  | .j3, .j3, .j2 => er13_332 A t w q len
  | .j3, .j3, .j3 => er13_333 A t w q len
end Go.Proofs.YtpmbfepkdjkheaaGreat

