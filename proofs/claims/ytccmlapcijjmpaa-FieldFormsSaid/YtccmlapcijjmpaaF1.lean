/- The law FieldForms: From and Bytes of any 32 bytes are the document's: it answers true for every input. No conditions. -/
import Derived.Test.YtccmlapcijjmpaaRows
import Derived.Test.YtccmlapcijjmpaaFc
namespace Go.Proofs.Ytccmlapcijjmpaa
open Go Pw Go.RowKit

theorem lawFF_run (b : K32) : runQ X_askedL [0,1,2] 100 Try.f3 (bodyOf Try.f3) [keyV b] = some (.bool (keyEq (bytesS (fromS b)) (bytesR4 (fromR b)))) := by
  kernel_rfl
set_option maxRecDepth 100000 in
theorem fieldForms_lifted (os : Os) (started : os.Started) (H : Type) (enc : TypeId × Value → H) :
    ReturnsInHanded {} Try.checked os 3 .any (Rows.fieldFormsSpec.pre6 enc Try.prog Try.f3 Rows.fieldFormsRow.domain false) (Rows.fieldFormsSpec.post enc Try.prog Try.f3 false true false false) := by
  refine law_lifted (C := Try.checked) (tb := 4) (by kernel_rfl) started (by kernel_rfl) Try.func3
    (ChangeSpec.witness6 (enc := enc) (C := Try.checked) false ⟨#[], #[.agg #[.int .u8 0, .int .u8 0, .int .u8 0, .int .u8 0, .int .u8 0, .int .u8 0, .int .u8 0, .int .u8 0, .int .u8 0, .int .u8 0, .int .u8 0, .int .u8 0, .int .u8 0, .int .u8 0, .int .u8 0, .int .u8 0, .int .u8 0, .int .u8 0, .int .u8 0, .int .u8 0, .int .u8 0, .int .u8 0, .int .u8 0, .int .u8 0, .int .u8 0, .int .u8 0, .int .u8 0, .int .u8 0, .int .u8 0, .int .u8 0, .int .u8 0, .int .u8 0]], []⟩ 8 (by kernel_rfl) (by kernel_rfl) (by kernel_rfl) (by kernel_rfl)) rfl ?_ (by kernel_rfl) (by kernel_rfl) (by kernel_rfl) (by kernel_rfl) ?_
  · intro ds h
    match ds, h with | [d0], _ => rfl
  · intro W base args ds p hval hsz hA hlt hw
    obtain ⟨args⟩ := args
    match args, hsz, hval with
    | [a0], hsz, hval =>
      obtain ⟨b, wb, rb⟩ := argKey (t := 23) (by kernel_rfl) (hval 0 _ a0 (by kernel_rfl) rfl)
      exact law_run X_askedL_ok Try.func3 (by kernel_rfl) ((lawFF_run b).trans (by rw [(Sim.from wb).key])) (.cons _ _ _ _ (rb _) .nil)
theorem fieldForms_holds : Rows.FieldFormsSaid :=
  OpenClaim.holds_of_wide 3 Try.f3 rfl rfl rfl rfl rfl rfl rfl ⟨rfl, rfl, rfl, rfl, rfl⟩ rfl rfl rfl rfl rfl (by kernel_rfl) Try.func3 (by kernel_rfl)
    (of_decide_eq_true (by kernel_rfl)) (by unfold Func.isWrapper; first | (rw [if_pos (by decide +kernel)]; kernel_rfl) | (rw [if_neg (by decide +kernel)]; exact ⟨rfl, rfl⟩))
    (fun os started H enc _ => fieldForms_lifted os started H enc)
#print axioms fieldForms_holds

end Go.Proofs.Ytccmlapcijjmpaa

