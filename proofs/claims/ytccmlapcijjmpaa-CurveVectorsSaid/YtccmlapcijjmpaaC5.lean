/- The law CurveVectors: known answers: it answers true. No conditions. -/
import Derived.Test.YtccmlapcijjmpaaFt
import Derived.Test.YtccmlapcijjmpaaCy
namespace Go.Proofs.Ytccmlapcijjmpaa
open Go Pw Go.RowKit
def vecQ (o : FOps) : Option AV := bif !(keyEq (scaleO o vK0 vU0) vV0) then some (.bool false) else bif !(keyEq (scaleO o vK1 vU1) vV1) then some (.bool false) else some (.bool (keyEq (scaleO o vK2 nineK) vV2))
theorem vecQ_true : vecQ concFOps = some (.bool true) := by
  unfold vecQ
  rw [known0, known1, show nineK = vU2 from rfl, known2, keyEq_self, keyEq_self, keyEq_self]
  rfl
theorem lawCV_run (o : FOps) : runQ (X_vec o) [0,1,2,9,16] 100 Try.f15 (bodyOf Try.f15) [] = vecQ o := by
  kernel_rfl
noncomputable abbrev XVc : Cx := X_vec concFOps
theorem XVc_ok : CxOK Try.prog XVc := X_vec_ok
set_option maxRecDepth 100000 in
theorem curveVectors_lifted (os : Os) (started : os.Started) (H : Type) (enc : TypeId × Value → H) :
    ReturnsInHanded {} Try.checked os 15 .any (Rows.curveVectorsSpec.pre6 enc Try.prog Try.f15 Rows.curveVectorsRow.domain false) (Rows.curveVectorsSpec.post enc Try.prog Try.f15 false true false false) := by
  refine law_lifted (C := Try.checked) (tb := 4) (by kernel_rfl) started (by kernel_rfl) Try.func15
    (ChangeSpec.witness6 (enc := enc) (C := Try.checked) false ⟨#[], #[], []⟩ 8 (by kernel_rfl) (by kernel_rfl) (by kernel_rfl) (by kernel_rfl)) rfl ?_ (by kernel_rfl) (by kernel_rfl) (by kernel_rfl) (by kernel_rfl) ?_
  · intro ds h
    match ds, h with | [], _ => rfl
  · intro W base args ds p hval hsz hA hlt hw
    obtain ⟨args⟩ := args
    match args, hsz, hval with
    | [], hsz, hval =>
      exact law_run XVc_ok Try.func15 (by kernel_rfl) ((lawCV_run concFOps).trans vecQ_true) .nil
theorem curveVectors_facts : joinedFacts Try.pinned.checked.prog 15 Try.f15 Rows.curveVectorsSpec Rows.curveVectorsRow = true := by
  show joinedFacts Try.prog 15 Try.f15 Rows.curveVectorsSpec Rows.curveVectorsRow = true
  unfold joinedFacts
  rw [liftsF, heardF, enterF, makeF]
  kernel_rfl
theorem curveVectors_holds : Rows.CurveVectorsSaid :=
  OpenClaim.holds_of_wide 15 Try.f15 rfl rfl rfl rfl rfl rfl rfl ⟨rfl, rfl, rfl, rfl, rfl⟩ rfl rfl rfl rfl rfl (by kernel_rfl) Try.func15 curveVectors_facts
    (of_decide_eq_true (by kernel_rfl)) (by unfold Func.isWrapper; first | (rw [if_pos (by decide +kernel)]; kernel_rfl) | (rw [if_neg (by decide +kernel)]; exact ⟨rfl, rfl⟩))
    (fun os started H enc _ => curveVectors_lifted os started H enc)
#print axioms curveVectors_holds
end Go.Proofs.Ytccmlapcijjmpaa

