/- EdwardsAll: the questions at the end of a round (printed by wip/tools/genim.py). -/
import Derived.Test.YtpmbfepkdjkheaaGreatIl
namespace Go.Proofs.YtpmbfepkdjkheaaGreat
open Go Pw Go.RowKit
def eQ (n : Nat) (i : Int) (to ot : N4) (rest : Env) : Env := ee ((6, .ptr 3 0) :: (7, .n to.val) :: (8, .n ot.val) :: (eaE n i ++ (e28 n i ++ rest)))
def eaM (w : WE) : Mem := [Pw.dead, ⟨.cells (wC w), true⟩]
def eaO : Ex → Env → Mem → Option (Ex × Env × Mem) := outP [0, 3, 5] 2 [0] [] []
noncomputable def eaT (A : AOps) (t : Int → N4) (F : OpE → WE → EW) (G : OpE → WE → NW) : Ex → Env → Mem → Option (Ex × Env × Mem) := blkC 3 (thenC (fun env mem => codeK (X_ea A t F G) [] eaF.ntmps [0,2,3,4,5,6,7,8,9,10,11,12,16,28,50,51,52,53,54,55,56,57,58,77,78,79,80,81,84,85,86,87,88,89,90,91,92,93,94,95,96,97,98,99,100,101,108,109,110,111,112,115,116,117,118,119,120,121,122,123,124,125,126,127,128,129,132,133,134,135,136,137,138,139,140,141,142,143,144,145,146,147] 98 ea8 env mem eaO) eaO)
def eaQ (A : AOps) (w : WE) (to ot : N4) : List Bool := [!keyEq (A.e.bytes (w.p.get to)) (A.e.rbytes (w.q.get to)), !keyEq (A.e.u (w.p.get to)) (A.e.ru (w.q.get to)), !(A.e.equal (w.p.get to) (w.p.get ot) == A.e.requal (w.q.get to) (w.q.get ot)),
  !(A.e.isn (w.p.get to) == A.e.risn (w.q.get to)), !(A.e.small (w.p.get to) == A.e.rsmall (w.q.get to)), !keyEq (w.s.get to) (A.rby (resp 16 (w.t.get to))), !(A.e.sisz (w.s.get to) == A.riz (resp 16 (w.t.get to)))]
noncomputable def ea_p (tl : Mem) (A : AOps) (t : Int → N4) (F : OpE → WE → EW) (G : OpE → WE → NW) (n p : Nat) (i : Int) (q : OpE) (w : WE) (rest : Env) (to ot : N4) : Prop :=
  codeK (X_ea A t F G) [] eaF.ntmps [0,2,3,4,5,6,7,8,9,10,11,12,16,28,50,51,52,53,54,55,56,57,58,77,78,79,80,81,84,85,86,87,88,89,90,91,92,93,94,95,96,97,98,99,100,101,108,109,110,111,112,115,116,117,118,119,120,121,122,123,124,125,126,127,128,129,132,133,134,135,136,137,138,139,140,141,142,143,144,145,146,147] 92 (.seq ea14 (.seq ea15 ea17)) (eQ n i to ot rest) (eaM2 p q w tl) (eaT A t F G) = orB (eaQ A w to ot) (some (.ret, eaE n i, eaM w)) (some (.normal, eaE n (w64 (i + 1)), eaM w))
theorem eaS_00 (A : AOps) (t : Int → N4) (F : OpE → WE → EW) (G : OpE → WE → NW) (n p : Nat) (i : Int) (q : OpE) (w : WE) (rest : Env) : ea_p d6 A t F G n p i q w rest .j0 .j0 := by unfold ea_p; kernel_rfl
theorem eaS_01 (A : AOps) (t : Int → N4) (F : OpE → WE → EW) (G : OpE → WE → NW) (n p : Nat) (i : Int) (q : OpE) (w : WE) (rest : Env) : ea_p d6 A t F G n p i q w rest .j0 .j1 := by unfold ea_p; kernel_rfl
theorem eaS_02 (A : AOps) (t : Int → N4) (F : OpE → WE → EW) (G : OpE → WE → NW) (n p : Nat) (i : Int) (q : OpE) (w : WE) (rest : Env) : ea_p d6 A t F G n p i q w rest .j0 .j2 := by unfold ea_p; kernel_rfl
theorem eaS_03 (A : AOps) (t : Int → N4) (F : OpE → WE → EW) (G : OpE → WE → NW) (n p : Nat) (i : Int) (q : OpE) (w : WE) (rest : Env) : ea_p d6 A t F G n p i q w rest .j0 .j3 := by unfold ea_p; kernel_rfl
theorem eaS_10 (A : AOps) (t : Int → N4) (F : OpE → WE → EW) (G : OpE → WE → NW) (n p : Nat) (i : Int) (q : OpE) (w : WE) (rest : Env) : ea_p d6 A t F G n p i q w rest .j1 .j0 := by unfold ea_p; kernel_rfl
theorem eaS_11 (A : AOps) (t : Int → N4) (F : OpE → WE → EW) (G : OpE → WE → NW) (n p : Nat) (i : Int) (q : OpE) (w : WE) (rest : Env) : ea_p d6 A t F G n p i q w rest .j1 .j1 := by unfold ea_p; kernel_rfl
theorem eaS_12 (A : AOps) (t : Int → N4) (F : OpE → WE → EW) (G : OpE → WE → NW) (n p : Nat) (i : Int) (q : OpE) (w : WE) (rest : Env) : ea_p d6 A t F G n p i q w rest .j1 .j2 := by unfold ea_p; kernel_rfl
theorem eaS_13 (A : AOps) (t : Int → N4) (F : OpE → WE → EW) (G : OpE → WE → NW) (n p : Nat) (i : Int) (q : OpE) (w : WE) (rest : Env) : ea_p d6 A t F G n p i q w rest .j1 .j3 := by unfold ea_p; kernel_rfl
theorem eaS_20 (A : AOps) (t : Int → N4) (F : OpE → WE → EW) (G : OpE → WE → NW) (n p : Nat) (i : Int) (q : OpE) (w : WE) (rest : Env) : ea_p d6 A t F G n p i q w rest .j2 .j0 := by unfold ea_p; kernel_rfl
theorem eaS_21 (A : AOps) (t : Int → N4) (F : OpE → WE → EW) (G : OpE → WE → NW) (n p : Nat) (i : Int) (q : OpE) (w : WE) (rest : Env) : ea_p d6 A t F G n p i q w rest .j2 .j1 := by unfold ea_p; kernel_rfl
theorem eaS_22 (A : AOps) (t : Int → N4) (F : OpE → WE → EW) (G : OpE → WE → NW) (n p : Nat) (i : Int) (q : OpE) (w : WE) (rest : Env) : ea_p d6 A t F G n p i q w rest .j2 .j2 := by unfold ea_p; kernel_rfl
theorem eaS_23 (A : AOps) (t : Int → N4) (F : OpE → WE → EW) (G : OpE → WE → NW) (n p : Nat) (i : Int) (q : OpE) (w : WE) (rest : Env) : ea_p d6 A t F G n p i q w rest .j2 .j3 := by unfold ea_p; kernel_rfl
theorem eaS_30 (A : AOps) (t : Int → N4) (F : OpE → WE → EW) (G : OpE → WE → NW) (n p : Nat) (i : Int) (q : OpE) (w : WE) (rest : Env) : ea_p d6 A t F G n p i q w rest .j3 .j0 := by unfold ea_p; kernel_rfl
theorem eaS_31 (A : AOps) (t : Int → N4) (F : OpE → WE → EW) (G : OpE → WE → NW) (n p : Nat) (i : Int) (q : OpE) (w : WE) (rest : Env) : ea_p d6 A t F G n p i q w rest .j3 .j1 := by unfold ea_p; kernel_rfl
theorem eaS_32 (A : AOps) (t : Int → N4) (F : OpE → WE → EW) (G : OpE → WE → NW) (n p : Nat) (i : Int) (q : OpE) (w : WE) (rest : Env) : ea_p d6 A t F G n p i q w rest .j3 .j2 := by unfold ea_p; kernel_rfl
theorem eaS_33 (A : AOps) (t : Int → N4) (F : OpE → WE → EW) (G : OpE → WE → NW) (n p : Nat) (i : Int) (q : OpE) (w : WE) (rest : Env) : ea_p d6 A t F G n p i q w rest .j3 .j3 := by unfold ea_p; kernel_rfl
theorem eaS_h (A : AOps) (t : Int → N4) (F : OpE → WE → EW) (G : OpE → WE → NW) (n p : Nat) (i : Int) (q : OpE) (w : WE) (rest : Env) : ∀ to ot, ea_p d6 A t F G n p i q w rest to ot
  | .j0, .j0 => eaS_00 A t F G n p i q w rest
  | .j0, .j1 => eaS_01 A t F G n p i q w rest
  | .j0, .j2 => eaS_02 A t F G n p i q w rest
  | .j0, .j3 => eaS_03 A t F G n p i q w rest
  | .j1, .j0 => eaS_10 A t F G n p i q w rest
  | .j1, .j1 => eaS_11 A t F G n p i q w rest
  | .j1, .j2 => eaS_12 A t F G n p i q w rest
  | .j1, .j3 => eaS_13 A t F G n p i q w rest
  | .j2, .j0 => eaS_20 A t F G n p i q w rest
  | .j2, .j1 => eaS_21 A t F G n p i q w rest
  | .j2, .j2 => eaS_22 A t F G n p i q w rest
  | .j2, .j3 => eaS_23 A t F G n p i q w rest
  | .j3, .j0 => eaS_30 A t F G n p i q w rest
  | .j3, .j1 => eaS_31 A t F G n p i q w rest
  | .j3, .j2 => eaS_32 A t F G n p i q w rest
  | .j3, .j3 => eaS_33 A t F G n p i q w rest
theorem eaN_00 (A : AOps) (t : Int → N4) (F : OpE → WE → EW) (G : OpE → WE → NW) (n p : Nat) (i : Int) (q : OpE) (w : WE) (rest : Env) : ea_p (d6 ++ d6) A t F G n p i q w rest .j0 .j0 := by unfold ea_p; kernel_rfl
theorem eaN_01 (A : AOps) (t : Int → N4) (F : OpE → WE → EW) (G : OpE → WE → NW) (n p : Nat) (i : Int) (q : OpE) (w : WE) (rest : Env) : ea_p (d6 ++ d6) A t F G n p i q w rest .j0 .j1 := by unfold ea_p; kernel_rfl
theorem eaN_02 (A : AOps) (t : Int → N4) (F : OpE → WE → EW) (G : OpE → WE → NW) (n p : Nat) (i : Int) (q : OpE) (w : WE) (rest : Env) : ea_p (d6 ++ d6) A t F G n p i q w rest .j0 .j2 := by unfold ea_p; kernel_rfl
theorem eaN_03 (A : AOps) (t : Int → N4) (F : OpE → WE → EW) (G : OpE → WE → NW) (n p : Nat) (i : Int) (q : OpE) (w : WE) (rest : Env) : ea_p (d6 ++ d6) A t F G n p i q w rest .j0 .j3 := by unfold ea_p; kernel_rfl
theorem eaN_10 (A : AOps) (t : Int → N4) (F : OpE → WE → EW) (G : OpE → WE → NW) (n p : Nat) (i : Int) (q : OpE) (w : WE) (rest : Env) : ea_p (d6 ++ d6) A t F G n p i q w rest .j1 .j0 := by unfold ea_p; kernel_rfl
theorem eaN_11 (A : AOps) (t : Int → N4) (F : OpE → WE → EW) (G : OpE → WE → NW) (n p : Nat) (i : Int) (q : OpE) (w : WE) (rest : Env) : ea_p (d6 ++ d6) A t F G n p i q w rest .j1 .j1 := by unfold ea_p; kernel_rfl
theorem eaN_12 (A : AOps) (t : Int → N4) (F : OpE → WE → EW) (G : OpE → WE → NW) (n p : Nat) (i : Int) (q : OpE) (w : WE) (rest : Env) : ea_p (d6 ++ d6) A t F G n p i q w rest .j1 .j2 := by unfold ea_p; kernel_rfl
theorem eaN_13 (A : AOps) (t : Int → N4) (F : OpE → WE → EW) (G : OpE → WE → NW) (n p : Nat) (i : Int) (q : OpE) (w : WE) (rest : Env) : ea_p (d6 ++ d6) A t F G n p i q w rest .j1 .j3 := by unfold ea_p; kernel_rfl
theorem eaN_20 (A : AOps) (t : Int → N4) (F : OpE → WE → EW) (G : OpE → WE → NW) (n p : Nat) (i : Int) (q : OpE) (w : WE) (rest : Env) : ea_p (d6 ++ d6) A t F G n p i q w rest .j2 .j0 := by unfold ea_p; kernel_rfl
theorem eaN_21 (A : AOps) (t : Int → N4) (F : OpE → WE → EW) (G : OpE → WE → NW) (n p : Nat) (i : Int) (q : OpE) (w : WE) (rest : Env) : ea_p (d6 ++ d6) A t F G n p i q w rest .j2 .j1 := by unfold ea_p; kernel_rfl
theorem eaN_22 (A : AOps) (t : Int → N4) (F : OpE → WE → EW) (G : OpE → WE → NW) (n p : Nat) (i : Int) (q : OpE) (w : WE) (rest : Env) : ea_p (d6 ++ d6) A t F G n p i q w rest .j2 .j2 := by unfold ea_p; kernel_rfl
theorem eaN_23 (A : AOps) (t : Int → N4) (F : OpE → WE → EW) (G : OpE → WE → NW) (n p : Nat) (i : Int) (q : OpE) (w : WE) (rest : Env) : ea_p (d6 ++ d6) A t F G n p i q w rest .j2 .j3 := by unfold ea_p; kernel_rfl
theorem eaN_30 (A : AOps) (t : Int → N4) (F : OpE → WE → EW) (G : OpE → WE → NW) (n p : Nat) (i : Int) (q : OpE) (w : WE) (rest : Env) : ea_p (d6 ++ d6) A t F G n p i q w rest .j3 .j0 := by unfold ea_p; kernel_rfl
theorem eaN_31 (A : AOps) (t : Int → N4) (F : OpE → WE → EW) (G : OpE → WE → NW) (n p : Nat) (i : Int) (q : OpE) (w : WE) (rest : Env) : ea_p (d6 ++ d6) A t F G n p i q w rest .j3 .j1 := by unfold ea_p; kernel_rfl
theorem eaN_32 (A : AOps) (t : Int → N4) (F : OpE → WE → EW) (G : OpE → WE → NW) (n p : Nat) (i : Int) (q : OpE) (w : WE) (rest : Env) : ea_p (d6 ++ d6) A t F G n p i q w rest .j3 .j2 := by unfold ea_p; kernel_rfl
theorem eaN_33 (A : AOps) (t : Int → N4) (F : OpE → WE → EW) (G : OpE → WE → NW) (n p : Nat) (i : Int) (q : OpE) (w : WE) (rest : Env) : ea_p (d6 ++ d6) A t F G n p i q w rest .j3 .j3 := by unfold ea_p; kernel_rfl
theorem eaN_h (A : AOps) (t : Int → N4) (F : OpE → WE → EW) (G : OpE → WE → NW) (n p : Nat) (i : Int) (q : OpE) (w : WE) (rest : Env) : ∀ to ot, ea_p (d6 ++ d6) A t F G n p i q w rest to ot
  | .j0, .j0 => eaN_00 A t F G n p i q w rest
  | .j0, .j1 => eaN_01 A t F G n p i q w rest
  | .j0, .j2 => eaN_02 A t F G n p i q w rest
  | .j0, .j3 => eaN_03 A t F G n p i q w rest
  | .j1, .j0 => eaN_10 A t F G n p i q w rest
  | .j1, .j1 => eaN_11 A t F G n p i q w rest
  | .j1, .j2 => eaN_12 A t F G n p i q w rest
  | .j1, .j3 => eaN_13 A t F G n p i q w rest
  | .j2, .j0 => eaN_20 A t F G n p i q w rest
  | .j2, .j1 => eaN_21 A t F G n p i q w rest
  | .j2, .j2 => eaN_22 A t F G n p i q w rest
  | .j2, .j3 => eaN_23 A t F G n p i q w rest
  | .j3, .j0 => eaN_30 A t F G n p i q w rest
  | .j3, .j1 => eaN_31 A t F G n p i q w rest
  | .j3, .j2 => eaN_32 A t F G n p i q w rest
  | .j3, .j3 => eaN_33 A t F G n p i q w rest
end Go.Proofs.YtpmbfepkdjkheaaGreat

