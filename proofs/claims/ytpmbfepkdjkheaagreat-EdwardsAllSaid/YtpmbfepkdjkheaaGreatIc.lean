/- EdwardsAll: what makes a point, register by register (printed by wip/tools/genib.py). -/
import Derived.Test.YtpmbfepkdjkheaaGreatIb
namespace Go.Proofs.YtpmbfepkdjkheaaGreat
open Go Pw Go.RowKit
theorem ep4_00 (A : AOps) (t : Int → N4) (w : WE) (q : OpE) (len : Nat) (to : N4) : ep4_p A t w q len to .j0 .j0 := fun K => by kernel_rfl
theorem ep4_01 (A : AOps) (t : Int → N4) (w : WE) (q : OpE) (len : Nat) (to : N4) : ep4_p A t w q len to .j0 .j1 := fun K => by kernel_rfl
theorem ep4_02 (A : AOps) (t : Int → N4) (w : WE) (q : OpE) (len : Nat) (to : N4) : ep4_p A t w q len to .j0 .j2 := fun K => by kernel_rfl
theorem ep4_03 (A : AOps) (t : Int → N4) (w : WE) (q : OpE) (len : Nat) (to : N4) : ep4_p A t w q len to .j0 .j3 := fun K => by kernel_rfl
theorem ep4_10 (A : AOps) (t : Int → N4) (w : WE) (q : OpE) (len : Nat) (to : N4) : ep4_p A t w q len to .j1 .j0 := fun K => by kernel_rfl
theorem ep4_11 (A : AOps) (t : Int → N4) (w : WE) (q : OpE) (len : Nat) (to : N4) : ep4_p A t w q len to .j1 .j1 := fun K => by kernel_rfl
theorem ep4_12 (A : AOps) (t : Int → N4) (w : WE) (q : OpE) (len : Nat) (to : N4) : ep4_p A t w q len to .j1 .j2 := fun K => by kernel_rfl
theorem ep4_13 (A : AOps) (t : Int → N4) (w : WE) (q : OpE) (len : Nat) (to : N4) : ep4_p A t w q len to .j1 .j3 := fun K => by kernel_rfl
end Go.Proofs.YtpmbfepkdjkheaaGreat

