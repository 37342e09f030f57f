/- WideAll: a round, walked (printed by wip/tools/genjc.py). -/
import Derived.Test.YtmhbhpmfbalbeaaJb
namespace Go.Proofs.Ytmhbhpmfbalbeaa
open Go Pw Go.RowKit
theorem wa13_00 (o : SOps) (t : Int → N3) (n p : Nat) (i : Int) (q : ActR) (v : V3 HA) : wa13_p o t n p i q v .j0 .j0 := by unfold wa13_p; kernel_rfl
theorem wa13_01 (o : SOps) (t : Int → N3) (n p : Nat) (i : Int) (q : ActR) (v : V3 HA) : wa13_p o t n p i q v .j0 .j1 := by unfold wa13_p; kernel_rfl
theorem wa13_02 (o : SOps) (t : Int → N3) (n p : Nat) (i : Int) (q : ActR) (v : V3 HA) : wa13_p o t n p i q v .j0 .j2 := by unfold wa13_p; kernel_rfl
theorem wa13_10 (o : SOps) (t : Int → N3) (n p : Nat) (i : Int) (q : ActR) (v : V3 HA) : wa13_p o t n p i q v .j1 .j0 := by unfold wa13_p; kernel_rfl
theorem wa13_11 (o : SOps) (t : Int → N3) (n p : Nat) (i : Int) (q : ActR) (v : V3 HA) : wa13_p o t n p i q v .j1 .j1 := by unfold wa13_p; kernel_rfl
theorem wa13_12 (o : SOps) (t : Int → N3) (n p : Nat) (i : Int) (q : ActR) (v : V3 HA) : wa13_p o t n p i q v .j1 .j2 := by unfold wa13_p; kernel_rfl
theorem wa13_20 (o : SOps) (t : Int → N3) (n p : Nat) (i : Int) (q : ActR) (v : V3 HA) : wa13_p o t n p i q v .j2 .j0 := by unfold wa13_p; kernel_rfl
theorem wa13_21 (o : SOps) (t : Int → N3) (n p : Nat) (i : Int) (q : ActR) (v : V3 HA) : wa13_p o t n p i q v .j2 .j1 := by unfold wa13_p; kernel_rfl
theorem wa13_22 (o : SOps) (t : Int → N3) (n p : Nat) (i : Int) (q : ActR) (v : V3 HA) : wa13_p o t n p i q v .j2 .j2 := by unfold wa13_p; kernel_rfl
theorem wa13_h (o : SOps) (t : Int → N3) (n p : Nat) (i : Int) (q : ActR) (v : V3 HA) : ∀ on ot, wa13_p o t n p i q v on ot
  | .j0, .j0 => wa13_00 o t n p i q v
  | .j0, .j1 => wa13_01 o t n p i q v
  | .j0, .j2 => wa13_02 o t n p i q v
  | .j1, .j0 => wa13_10 o t n p i q v
  | .j1, .j1 => wa13_11 o t n p i q v
  | .j1, .j2 => wa13_12 o t n p i q v
  | .j2, .j0 => wa13_20 o t n p i q v
  | .j2, .j1 => wa13_21 o t n p i q v
  | .j2, .j2 => wa13_22 o t n p i q v
end Go.Proofs.Ytmhbhpmfbalbeaa

