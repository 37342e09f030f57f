/- EdwardsAll: the pieces of a round (printed by wip/tools/genil.py). -/
import Derived.Test.YtpmbfepkdjkheaaGreatIi
import Derived.Test.YtpmbfepkdjkheaaGreatPwMk
namespace Go.Proofs.YtpmbfepkdjkheaaGreat
open Go Pw Go.RowKit
noncomputable abbrev eaF : Func := Tryz.f3
noncomputable abbrev eaB : Code := loopB (bodyOf eaF) 7
noncomputable def eaP : Code := sq1 eaB
noncomputable def eaI : Code := bk1 (sq1 (sq2 eaB))
noncomputable def ea8 : Code := sq2 (sq2 eaB)
noncomputable def ea9 : Code := sq1 eaI
noncomputable def ea10 : Code := sq1 (sq2 eaI)
noncomputable def ea11 : Code := sq1 (sq2 (sq2 eaI))
noncomputable def ea12 : Code := sq1 (sq2 (sq2 (sq2 eaI)))
noncomputable def ea14 : Code := sq1 (sq2 (sq2 (sq2 (sq2 eaI))))
noncomputable def ea15 : Code := sq1 (sq2 (sq2 (sq2 (sq2 (sq2 eaI)))))
noncomputable def ea17 : Code := sq2 (sq2 (sq2 (sq2 (sq2 (sq2 eaI)))))
theorem eaB_eq : eaB = .seq eaP (.seq (.block 3 (.seq ea9 (.seq ea10 (.seq ea11 (.seq ea12 (.seq ea14 (.seq ea15 ea17))))))) ea8) := by kernel_rfl
def ee (l : Env) : Env := prune l [0,2,3,4,5,6,7,8,9,10,11,12,16,28,50,51,52,53,54,55,56,57,58,77,78,79,80,81,84,85,86,87,88,89,90,91,92,93,94,95,96,97,98,99,100,101,108,109,110,111,112,115,116,117,118,119,120,121,122,123,124,125,126,127,128,129,132,133,134,135,136,137,138,139,140,141,142,143,144,145,146,147]
def eaE (n : Nat) (i : Int) : Env := [(0, .slice 0 0 n false), (3, .ptr 1 0), (5, .n i)]
def e28 (n : Nat) (i : Int) : Env := [(28, .bool (decide (i < (n : Int))))]
def eaM1 (p : Nat) (q : OpE) (w : WE) : Mem := [⟨.win p (opC q 2 q.data.length), false⟩, ⟨.cells (wC w), true⟩, ⟨.bytes q.data, false⟩]
def eaM2 (p : Nat) (q : OpE) (w : WE) (tl : Mem) : Mem := ⟨.win p (opC q 2 q.data.length), false⟩ :: ⟨.cells (wC w), true⟩ :: ⟨.bytes q.data, false⟩ :: ⟨.cells (opC q 2 q.data.length), true⟩ :: tl
def r16 (v : V4 (List Nat)) : V4 (List Nat) := ⟨resp 16 v.a, resp 16 v.b, resp 16 v.c, resp 16 v.d⟩
def wR (w : WE) : WE := ⟨w.p, w.q, w.s, r16 w.t⟩
def d6 : Mem := [Pw.dead, Pw.dead, Pw.dead, Pw.dead, Pw.dead, Pw.dead]
theorem eaP_h (A : AOps) (t : Int → N4) (F : OpE → WE → EW) (G : OpE → WE → NW) (n : Nat) (i : Int) (M : Mem) {ρ : Type} (K : Ex → Env → Mem → Option ρ) : codeK (X_ea A t F G) [] eaF.ntmps [0,2,3,4,5,6,7,8,9,10,11,12,16,28,50,51,52,53,54,55,56,57,58,77,78,79,80,81,84,85,86,87,88,89,90,91,92,93,94,95,96,97,98,99,100,101,108,109,110,111,112,115,116,117,118,119,120,121,122,123,124,125,126,127,128,129,132,133,134,135,136,137,138,139,140,141,142,143,144,145,146,147] 99 eaP (eaE n i) (M) K =
  brn (decide (i < (n : Int))) (K .normal (ee (eaE n i ++ e28 n i)) M) (K (.exit 2) (ee (eaE n i ++ e28 n i)) M) := by kernel_rfl
theorem ea9_h (A : AOps) (t : Int → N4) (F : OpE → WE → EW) (G : OpE → WE → NW) (n p : Nat) (i : Int) (q : OpE) (w : WE) {ρ : Type} (K : Ex → Env → Mem → Option ρ) : codeK (X_ea A t F G) [] eaF.ntmps [0,2,3,4,5,6,7,8,9,10,11,12,16,28,50,51,52,53,54,55,56,57,58,77,78,79,80,81,84,85,86,87,88,89,90,91,92,93,94,95,96,97,98,99,100,101,108,109,110,111,112,115,116,117,118,119,120,121,122,123,124,125,126,127,128,129,132,133,134,135,136,137,138,139,140,141,142,143,144,145,146,147] 96 ea9 (ee (eaE n i ++ e28 n i)) (eaM1 p q w) K =
  gds [decide (0 ≤ i ∧ i < (n : Int)), Nat.beq (0 + i.toNat * 39) p && true] (K .normal (ee ((6, .ptr 3 0) :: (eaE n i ++ e28 n i))) (eaM2 p q w [])) := by kernel_rfl
theorem ea10_h (A : AOps) (t : Int → N4) (F : OpE → WE → EW) (G : OpE → WE → NW) (n p : Nat) (i : Int) (q : OpE) (w : WE) {ρ : Type} (K : Ex → Env → Mem → Option ρ) : codeK (X_ea A t F G) [] eaF.ntmps [0,2,3,4,5,6,7,8,9,10,11,12,16,28,50,51,52,53,54,55,56,57,58,77,78,79,80,81,84,85,86,87,88,89,90,91,92,93,94,95,96,97,98,99,100,101,108,109,110,111,112,115,116,117,118,119,120,121,122,123,124,125,126,127,128,129,132,133,134,135,136,137,138,139,140,141,142,143,144,145,146,147] 95 ea10 (ee ((6, .ptr 3 0) :: (eaE n i ++ e28 n i))) (eaM2 p q w []) K =
  r4 (t q.to) fun to => r4 (t q.other) fun ot => K .normal (ee ((6, .ptr 3 0) :: (7, .n to.val) :: (8, .n ot.val) :: (eaE n i ++ e28 n i))) (eaM2 p q w []) := by kernel_rfl
theorem ea11_h (A : AOps) (t : Int → N4) (F : OpE → WE → EW) (G : OpE → WE → NW) (n p : Nat) (i : Int) (q : OpE) (w : WE) (to ot : N4) {ρ : Type} (K : Ex → Env → Mem → Option ρ) : codeK (X_ea A t F G) [] eaF.ntmps [0,2,3,4,5,6,7,8,9,10,11,12,16,28,50,51,52,53,54,55,56,57,58,77,78,79,80,81,84,85,86,87,88,89,90,91,92,93,94,95,96,97,98,99,100,101,108,109,110,111,112,115,116,117,118,119,120,121,122,123,124,125,126,127,128,129,132,133,134,135,136,137,138,139,140,141,142,143,144,145,146,147] 94 ea11 (ee ((6, .ptr 3 0) :: (7, .n to.val) :: (8, .n ot.val) :: (eaE n i ++ e28 n i))) (eaM2 p q w []) K =
  gds [decide (q.data.length = q.data.length ∧ q.data.length ≤ 140737488351232)] (K .normal (ee ((9, .bool (F q (wR w)).is) :: (10, .bool (F q (wR w)).right) :: (6, .ptr 3 0) :: (7, .n to.val) :: (8, .n ot.val) :: (eaE n i ++ e28 n i))) (eaM2 p q (F q (wR w)).w d6)) := by kernel_rfl
def eR (n : Nat) (i : Int) (is right : Bool) (to ot : N4) (rest : Env) : Env := ee (rest ++ ((9, .bool is) :: (10, .bool right) :: (6, .ptr 3 0) :: (7, .n to.val) :: (8, .n ot.val) :: (eaE n i ++ e28 n i)))
def sR : Env := [(2, .bool false), (50, .tup []), (51, .tup []), (52, .tup []), (53, .tup []), (54, .tup []), (55, .tup []), (56, .tup []), (57, .tup []), (58, .bool true)]
def sN (q : OpE) (is r : Bool) : Env := [(50, .bool is), (51, .bool (!is)), (52, .bool true), (53, .ptr 1 0), (54, .agg (opC q 2 q.data.length)), (55, .bool r), (56, .bool (!r)), (57, .bool (!r)), (58, .bool (!r))]
def sS (is : Bool) : Env := [(50, .bool is), (51, .bool (!is)), (52, .bool false), (53, .tup []), (54, .tup []), (55, .tup []), (56, .tup []), (57, .bool false), (58, .bool false)]
theorem ea12_h (A : AOps) (t : Int → N4) (F : OpE → WE → EW) (G : OpE → WE → NW) (n p : Nat) (i : Int) (q : OpE) (w : WE) (to ot : N4) (is right : Bool) {ρ : Type} (K : Ex → Env → Mem → Option ρ) : codeK (X_ea A t F G) [] eaF.ntmps [0,2,3,4,5,6,7,8,9,10,11,12,16,28,50,51,52,53,54,55,56,57,58,77,78,79,80,81,84,85,86,87,88,89,90,91,92,93,94,95,96,97,98,99,100,101,108,109,110,111,112,115,116,117,118,119,120,121,122,123,124,125,126,127,128,129,132,133,134,135,136,137,138,139,140,141,142,143,144,145,146,147] 93 ea12 (ee ((9, .bool is) :: (10, .bool right) :: (6, .ptr 3 0) :: (7, .n to.val) :: (8, .n ot.val) :: (eaE n i ++ e28 n i))) (eaM2 p q w d6) K =
  brn (!right) (K .ret (eR n i is right to ot sR) (eaM2 p q w d6)) (brn (!is) (gds [decide (q.data.length = q.data.length ∧ q.data.length ≤ 140737488351232)] (brn (!(G q (wR w)).r) (K .ret (eR n i is right to ot ((2, .bool false) :: sN q is (G q (wR w)).r)) (eaM2 p q (G q (wR w)).w (d6 ++ d6))) (K .normal (eR n i is right to ot (sN q is (G q (wR w)).r)) (eaM2 p q (G q (wR w)).w (d6 ++ d6))))) (K .normal (eR n i is right to ot (sS is)) (eaM2 p q w d6))) := by kernel_rfl
end Go.Proofs.YtpmbfepkdjkheaaGreat

