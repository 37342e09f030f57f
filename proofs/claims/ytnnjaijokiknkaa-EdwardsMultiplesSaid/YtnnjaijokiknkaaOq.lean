/- Layer 19: the order of every point. -/
import Derived.Test.YtnnjaijokiknkaaPo
import Derived.Test.YtnnjaijokiknkaaPwCnt
namespace Go.Proofs.Ytnnjaijokiknkaa
open Go Pw Go.RowKit
def tN : N3 := ⟨14399317868200118260347934320527232580618823971194345261214217575416788799818, 55188659117513257062467267217118295137698188065244968500265048394206261417927, 1⟩
theorem t8_on : (toF tN.y) * (toF tN.y) - (toF tN.x) * (toF tN.x) = 1 + DF * (toF tN.x) * (toF tN.x) * (toF tN.y) * (toF tN.y) := by decide +kernel
/-- a point of order 8 -/
def T8 : EPt := ⟨toF tN.x, toF tN.y, on_of t8_on⟩
theorem tN_T8 : RNx tN T8 := by
  have h := Rx.affine T8
  unfold RNx
  rw [show tN.z = 1 from rfl, toF_one]
  exact h
theorem T8_8 : T8.mul 8 = EP.zero ED := (tN_T8.mul 4 8 (by decide)).of_zero (by decide +kernel) (by decide +kernel)
theorem T8_4 : T8.mul 4 ≠ EP.zero ED := by
  intro e
  have hr := tN_T8.mul 3 4 (by decide)
  have hy := hr.y
  rw [e] at hy
  have h2 : toF (mulGo 3 tN 4 O3).y = toF (mulGo 3 tN 4 O3).z := hy.trans (Fin.one_mul _)
  exact absurd (toF_eq.1 h2) (by decide +kernel)
def gE : Gens ED 8 LN where
  B := BP
  t := T8
  hq := LL_prime
  c0 := by decide
  cq := by decide +kernel
  bq := BP_order
  b0 := base_ne
  tc := T8_8
  t2 := T8_4
  hc := by decide
theorem all_order (P : EPt) : P.mul (8 * LN) = EP.zero ED := gE.order (by decide +kernel) P
theorem eight_mod (P : EPt) (n : Nat) : (P.mul 8).mul (n % LN) = (P.mul 8).mul n := by
  conv => rhs; rw [← Nat.div_add_mod n LN, EP.mul_add, EP.mul_mul, ← EP.mul_mul P 8 LN, all_order, EP.zero_mul, EP.zero_add]
end Go.Proofs.Ytnnjaijokiknkaa

