/- The law SignVectors: the known answer: it answers true. No conditions. -/
import Derived.Test.YtnnjaijokiknkaaSw
namespace Go.Proofs.Ytnnjaijokiknkaa
open Go Pw Go.RowKit
noncomputable abbrev XM1 : Cx := X_hex concGO
theorem XM1_ok : CxOK Try.prog XM1 := X_hex_ok
set_option maxRecDepth 100000 in
theorem signVectors_lifted (os : Os) (started : os.Started) (H : Type) (enc : TypeId × Value → H) :
    ReturnsInHanded {} Try.checked os 15 .any (Rows.signVectorsSpec.pre6 enc Try.prog Try.f15 Rows.signVectorsRow.domain false) (Rows.signVectorsSpec.post enc Try.prog Try.f15 false true false false) := by
  refine law_lifted (C := Try.checked) (tb := 4) (by kernel_rfl) started (by kernel_rfl) Try.func15
    (ChangeSpec.witness6 (enc := enc) (C := Try.checked) false ⟨#[], #[], []⟩ 8 (by kernel_rfl) (by kernel_rfl) (by kernel_rfl) (by kernel_rfl)) rfl ?_ (by kernel_rfl) (by kernel_rfl) (by kernel_rfl) (by kernel_rfl) ?_
  · intro ds h
    match ds, h with | [], _ => rfl
  · intro W base args ds p hval hsz hA hlt hw
    obtain ⟨args⟩ := args
    match args, hsz, hval with
    | [], hsz, hval =>
      exact law_runN XM1_ok Try.func15 (by kernel_rfl) LoopsOK.nil ((svT_run concGO).trans (svT_true concGG concGO_hash)) (NSt.empty W) .nil
theorem signVectors_facts : joinedFacts Try.pinned.checked.prog 15 Try.f15 Rows.signVectorsSpec Rows.signVectorsRow = true := by
  show joinedFacts Try.prog 15 Try.f15 Rows.signVectorsSpec Rows.signVectorsRow = true
  unfold joinedFacts
  rw [liftsF, heardF, enterF, makeF]
  kernel_rfl
theorem signVectors_holds : Rows.SignVectorsSaid :=
  OpenClaim.holds_of_wide 15 Try.f15 rfl rfl rfl rfl rfl rfl rfl ⟨rfl, rfl, rfl, rfl, rfl⟩ rfl rfl rfl rfl rfl (by kernel_rfl) Try.func15 signVectors_facts
    (of_decide_eq_true (by kernel_rfl)) (by unfold Func.isWrapper; first | (rw [if_pos (by decide +kernel)]; kernel_rfl) | (rw [if_neg (by decide +kernel)]; exact ⟨rfl, rfl⟩))
    (fun os started H enc _ => signVectors_lifted os started H enc)
#print axioms signVectors_holds
end Go.Proofs.Ytnnjaijokiknkaa

