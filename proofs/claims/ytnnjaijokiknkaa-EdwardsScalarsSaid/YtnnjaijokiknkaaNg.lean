/- The law EdwardsScalars: its run, over the numbers of the program and of the document as variables. -/
import Derived.Test.YtnnjaijokiknkaaFt
import Derived.Test.YtnnjaijokiknkaaNf
namespace Go.Proofs.Ytnnjaijokiknkaa
open Go Pw Go.RowKit
noncomputable def XL (o : NOps) (d : DOps) : Cx := { X_sMul o with O := addQ (addQ (addQ (addQ (addQ (addQ (addQ (X_sMul o).O 27 (lavG c_dReduce (u_dReduce d))) 29 (lav (g_dWhole d))) 31 (lav (g_dBytes concNOps))) 33 (lav (gv_add d))) 35 (lav (g_dSub d))) 37 (lav (g_dMul d))) 39 (lav (gv_neg d)) }
theorem XL_ok : CxOK Try.prog (XL concNOps concD) := { X_sMul_ok with quiet := addQ_ok (addQ_ok (addQ_ok (addQ_ok (addQ_ok (addQ_ok (addQ_ok X_sMul_ok.quiet (lavG_at dReduce_at)) dWhole_at) dBytes_at) gv_add_at) dSub_at) dMul_at) gv_neg_at }
def sT (a : List Nat) : List Nat := List.take a.length (List.drop 0 a)
def pA (o : NOps) (a : List Nat) : K32 := o.scal (redN o zeroL (sT a))
def dR (d : DOps) (a : List Nat) : List Nat := redD d oneD zeroD (sT a)
def sevenK : K32 := ⟨7, 0, 0, 0, 0, 0, 0, 0, 0, 0, 0, 0, 0, 0, 0, 0, 0, 0, 0, 0, 0, 0, 0, 0, 0, 0, 0, 0, 0, 0, 0, 0⟩
def esF : Option (AV × Option Blk) := some (.bool false, none)
noncomputable def esT (o : NOps) (d : DOps) (a b : List Nat) (k : K32) : Option (AV × Option Blk) :=
  gds [decide (0 + a.length ≤ a.length), decide ((sT a).length < 4611686018427387904), decide (0 + b.length ≤ b.length), decide ((sT b).length < 4611686018427387904),
    decide (0 + a.length ≤ a.length), decide ((sT a).length < 4611686018427387904), decide (0 + b.length ≤ b.length), decide ((sT b).length < 4611686018427387904)]
   (brn (!decide ((wholeN o k).2 = bif wholeC d k then 0 else 191)) esF
   (brn (!keyEq (wholeN o k).1 (bytD (resp 16 (bif wholeC d k then redD d oneD zeroD k.toList else zeroD)))) esF
   (brn (!keyEq (pA o a) (bytD (resp 16 (dR d a)))) esF
   (brn (!keyEq (addN o (pA o a) (pA o b)) (bytD (resp 16 (d.add (resp 16 (dR d a)) (resp 16 (dR d b)))))) esF
   (brn (!keyEq (subN o (pA o a) (pA o b)) (bytD (resp 16 (d.add (resp 16 (resp 16 (dR d a))) (resp 16 (d.neg (resp 16 (resp 16 (dR d b))))))))) esF
   (brn (!keyEq (mulN o (pA o a) (pA o b)) (bytD (resp 16 (redD d (resp 16 (resp 16 (resp 16 (dR d a)))) (resp 16 zeroD) (bytD (resp 16 (resp 16 (dR d b)))).toList)))) esF
   (brn (!keyEq (subN o zeroK (pA o a)) (bytD (resp 16 (d.neg (resp 16 (dR d a)))))) esF
     (some (.bool (keyEq (o.scal (redN o zeroL (List.take 1 (List.drop 0 [7])))) sevenK), none)))))))))
theorem lawES_run (o : NOps) (d : DOps) (a b : List Nat) (k : K32) : runNL (XL o d) [] [0,1,2,5,6,7,8,9,10,11,12,13,14,37,38,39,40,41,44,45,46,47,48,51,52,53,54,55,56,57,58,59,60,71,72,73,74,75,76,77,78,79,82,83,84,85,86,87,88,89] 500 Try.f4 (bodyOf Try.f4) (laArgs [.l a, .l b, .v (keyV k)] 0) (laLists [.l a, .l b, .v (keyV k)]) = esT o d a b k := by kernel_rfl
end Go.Proofs.Ytnnjaijokiknkaa

