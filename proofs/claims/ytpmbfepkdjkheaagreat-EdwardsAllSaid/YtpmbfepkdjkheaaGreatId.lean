/- EdwardsAll: what makes a point, register by register (printed by wip/tools/genib.py). -/
import Derived.Test.YtpmbfepkdjkheaaGreatIc
namespace Go.Proofs.YtpmbfepkdjkheaaGreat
open Go Pw Go.RowKit
theorem ep4_20 (A : AOps) (t : Int → N4) (w : WE) (q : OpE) (len : Nat) (to : N4) : ep4_p A t w q len to .j2 .j0 := fun K => by kernel_rfl
theorem ep4_21 (A : AOps) (t : Int → N4) (w : WE) (q : OpE) (len : Nat) (to : N4) : ep4_p A t w q len to .j2 .j1 := fun K => by kernel_rfl
theorem ep4_22 (A : AOps) (t : Int → N4) (w : WE) (q : OpE) (len : Nat) (to : N4) : ep4_p A t w q len to .j2 .j2 := fun K => by kernel_rfl
theorem ep4_23 (A : AOps) (t : Int → N4) (w : WE) (q : OpE) (len : Nat) (to : N4) : ep4_p A t w q len to .j2 .j3 := fun K => by kernel_rfl
theorem ep4_30 (A : AOps) (t : Int → N4) (w : WE) (q : OpE) (len : Nat) (to : N4) : ep4_p A t w q len to .j3 .j0 := fun K => by kernel_rfl
theorem ep4_31 (A : AOps) (t : Int → N4) (w : WE) (q : OpE) (len : Nat) (to : N4) : ep4_p A t w q len to .j3 .j1 := fun K => by kernel_rfl
theorem ep4_32 (A : AOps) (t : Int → N4) (w : WE) (q : OpE) (len : Nat) (to : N4) : ep4_p A t w q len to .j3 .j2 := fun K => by kernel_rfl
theorem ep4_33 (A : AOps) (t : Int → N4) (w : WE) (q : OpE) (len : Nat) (to : N4) : ep4_p A t w q len to .j3 .j3 := fun K => by kernel_rfl
theorem ep4_h (A : AOps) (t : Int → N4) (w : WE) (q : OpE) (len : Nat) (to : N4) : ∀ a b, ep4_p A t w q len to a b
  | .j0, .j0 => ep4_00 A t w q len to
  | .j0, .j1 => ep4_01 A t w q len to
  | .j0, .j2 => ep4_02 A t w q len to
  | .j0, .j3 => ep4_03 A t w q len to
  | .j1, .j0 => ep4_10 A t w q len to
  | .j1, .j1 => ep4_11 A t w q len to
  | .j1, .j2 => ep4_12 A t w q len to
  | .j1, .j3 => ep4_13 A t w q len to
  | .j2, .j0 => ep4_20 A t w q len to
  | .j2, .j1 => ep4_21 A t w q len to
  | .j2, .j2 => ep4_22 A t w q len to
  | .j2, .j3 => ep4_23 A t w q len to
  | .j3, .j0 => ep4_30 A t w q len to
  | .j3, .j1 => ep4_31 A t w q len to
  | .j3, .j2 => ep4_32 A t w q len to
  | .j3, .j3 => ep4_33 A t w q len to
end Go.Proofs.YtpmbfepkdjkheaaGreat

