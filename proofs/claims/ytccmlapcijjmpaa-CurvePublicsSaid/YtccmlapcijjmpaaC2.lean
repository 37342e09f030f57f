/- The law CurvePublics: every Public: it answers true for every input. No conditions. -/
import Derived.Test.YtccmlapcijjmpaaFt
import Derived.Test.YtccmlapcijjmpaaCw
namespace Go.Proofs.Ytccmlapcijjmpaa
open Go Pw Go.RowKit
theorem lawCPu_run (o : FOps) (k : K32) : runQ (X_onD o) [0,1,2] 100 Try.f20 (bodyOf Try.f20) [keyV k] = some (.bool (keyEq (scaleO o k nineK) (rscaleO o k nineK))) := by
  kernel_rfl
set_option maxRecDepth 100000 in
theorem curvePublics_lifted (os : Os) (started : os.Started) (H : Type) (enc : TypeId × Value → H) :
    ReturnsInHanded {} Try.checked os 20 .any (Rows.curvePublicsSpec.pre6 enc Try.prog Try.f20 Rows.curvePublicsRow.domain false) (Rows.curvePublicsSpec.post enc Try.prog Try.f20 false true false false) := by
  refine law_lifted (C := Try.checked) (tb := 4) (by kernel_rfl) started (by kernel_rfl) Try.func20
    (ChangeSpec.witness6 (enc := enc) (C := Try.checked) false ⟨#[], #[.agg #[.int .u8 0, .int .u8 0, .int .u8 0, .int .u8 0, .int .u8 0, .int .u8 0, .int .u8 0, .int .u8 0, .int .u8 0, .int .u8 0, .int .u8 0, .int .u8 0, .int .u8 0, .int .u8 0, .int .u8 0, .int .u8 0, .int .u8 0, .int .u8 0, .int .u8 0, .int .u8 0, .int .u8 0, .int .u8 0, .int .u8 0, .int .u8 0, .int .u8 0, .int .u8 0, .int .u8 0, .int .u8 0, .int .u8 0, .int .u8 0, .int .u8 0, .int .u8 0]], []⟩ 8 (by kernel_rfl) (by kernel_rfl) (by kernel_rfl) (by kernel_rfl)) rfl ?_ (by kernel_rfl) (by kernel_rfl) (by kernel_rfl) (by kernel_rfl) ?_
  · intro ds h
    match ds, h with | [d0], _ => rfl
  · intro W base args ds p hval hsz hA hlt hw
    obtain ⟨args⟩ := args
    match args, hsz, hval with
    | [a0], hsz, hval =>
      obtain ⟨k, wk, rk⟩ := argKey (t := 23) (by kernel_rfl) (hval 0 _ a0 (by kernel_rfl) rfl)
      exact law_run XC_ok Try.func20 (by kernel_rfl) ((lawCPu_run concFOps k).trans (by rw [scale_eq wk nineK_wf, keyEq_self])) (.cons _ _ _ _ (rk _) .nil)
theorem curvePublics_facts : joinedFacts Try.pinned.checked.prog 20 Try.f20 Rows.curvePublicsSpec Rows.curvePublicsRow = true := by
  show joinedFacts Try.prog 20 Try.f20 Rows.curvePublicsSpec Rows.curvePublicsRow = true
  unfold joinedFacts
  rw [liftsF, heardF, enterF, makeF]
  kernel_rfl
theorem curvePublics_holds : Rows.CurvePublicsSaid :=
  OpenClaim.holds_of_wide 20 Try.f20 rfl rfl rfl rfl rfl rfl rfl ⟨rfl, rfl, rfl, rfl, rfl⟩ rfl rfl rfl rfl rfl (by kernel_rfl) Try.func20 curvePublics_facts
    (of_decide_eq_true (by kernel_rfl)) (by unfold Func.isWrapper; first | (rw [if_pos (by decide +kernel)]; kernel_rfl) | (rw [if_neg (by decide +kernel)]; exact ⟨rfl, rfl⟩))
    (fun os started H enc _ => curvePublics_lifted os started H enc)
#print axioms curvePublics_holds
end Go.Proofs.Ytccmlapcijjmpaa

