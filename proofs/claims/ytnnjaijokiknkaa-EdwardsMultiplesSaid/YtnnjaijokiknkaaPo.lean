/- The order of the base point. -/
import Derived.Test.YtnnjaijokiknkaaPh
import Derived.Test.YtnnjaijokiknkaaPwMi
namespace Go.Proofs.Ytnnjaijokiknkaa
open Go Pw Go.RowKit
def bN : N3 := ⟨15112221349535400772501151409588531511454012693041857206046113283949847762202, 46316835694926478169428394003475163141307993866256225615783033603165251855960, 1⟩
theorem bN_x : toF bN.x = BX := by decide +kernel
theorem bN_y : toF bN.y = BY := by decide +kernel
theorem bN_BP : RNx bN BP := by
  have h := Rx.affine BP
  rw [BP_x, BP_y] at h
  unfold RNx
  rw [bN_x, bN_y, show bN.z = 1 from rfl, toF_one]
  exact h
theorem order_x : (mulGo 253 bN LN O3).x % PP = 0 := by decide +kernel
theorem order_y : (mulGo 253 bN LN O3).y % PP = (mulGo 253 bN LN O3).z % PP := by decide +kernel
theorem BP_order : BP.mul LN = EP.zero ED := (bN_BP.mul 253 LN (by decide +kernel)).of_zero order_x order_y
theorem BP_mod (n : Nat) : BP.mul (n % LN) = BP.mul n := by
  conv => rhs; rw [← Nat.div_add_mod n LN, EP.mul_add, EP.mul_mul, BP_order, EP.zero_mul, EP.zero_add]
end Go.Proofs.Ytnnjaijokiknkaa

