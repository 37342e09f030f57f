/- The law CurveOns: every On: it answers true for every input. No conditions. -/
import Derived.Test.YtccmlapcijjmpaaFt
import Derived.Test.YtccmlapcijjmpaaCw
namespace Go.Proofs.Ytccmlapcijjmpaa
open Go Pw Go.RowKit
theorem lawCO_run (o : FOps) (u : K32) : runQ (X_onD o) [0,1,2] 100 Try.f14 (bodyOf Try.f14) [keyV u] = some (.bool (rootB o (onX o (o.frm u)) == rrootB o (curveX o (o.rfrm u)))) := by
  kernel_rfl
theorem on_law {u : K32} (hu : u.wf) : (rootB concFOps (onX concFOps (concFOps.frm u)) == rrootB concFOps (curveX concFOps (concFOps.rfrm u))) = true := by
  have e : (rootB concFOps (onX concFOps (concFOps.frm u)) == rrootB concFOps (curveX concFOps (concFOps.rfrm u))) = (rootB concFOps (onX concFOps (fromS u)) == rrootB concFOps (curveX concFOps (fromR u))) := by kernel_rfl
  rw [e, on_eq hu]
  exact beq_self_eq_true _
set_option maxRecDepth 100000 in
theorem curveOns_lifted (os : Os) (started : os.Started) (H : Type) (enc : TypeId × Value → H) :
    ReturnsInHanded {} Try.checked os 14 .any (Rows.curveOnsSpec.pre6 enc Try.prog Try.f14 Rows.curveOnsRow.domain false) (Rows.curveOnsSpec.post enc Try.prog Try.f14 false true false false) := by
  refine law_lifted (C := Try.checked) (tb := 4) (by kernel_rfl) started (by kernel_rfl) Try.func14
    (ChangeSpec.witness6 (enc := enc) (C := Try.checked) false ⟨#[], #[.agg #[.int .u8 0, .int .u8 0, .int .u8 0, .int .u8 0, .int .u8 0, .int .u8 0, .int .u8 0, .int .u8 0, .int .u8 0, .int .u8 0, .int .u8 0, .int .u8 0, .int .u8 0, .int .u8 0, .int .u8 0, .int .u8 0, .int .u8 0, .int .u8 0, .int .u8 0, .int .u8 0, .int .u8 0, .int .u8 0, .int .u8 0, .int .u8 0, .int .u8 0, .int .u8 0, .int .u8 0, .int .u8 0, .int .u8 0, .int .u8 0, .int .u8 0, .int .u8 0]], []⟩ 8 (by kernel_rfl) (by kernel_rfl) (by kernel_rfl) (by kernel_rfl)) rfl ?_ (by kernel_rfl) (by kernel_rfl) (by kernel_rfl) (by kernel_rfl) ?_
  · intro ds h
    match ds, h with | [d0], _ => rfl
  · intro W base args ds p hval hsz hA hlt hw
    obtain ⟨args⟩ := args
    match args, hsz, hval with
    | [a0], hsz, hval =>
      obtain ⟨u, wu, ru⟩ := argKey (t := 23) (by kernel_rfl) (hval 0 _ a0 (by kernel_rfl) rfl)
      exact law_run XC_ok Try.func14 (by kernel_rfl) ((lawCO_run concFOps u).trans (by rw [on_law wu])) (.cons _ _ _ _ (ru _) .nil)
theorem curveOns_facts : joinedFacts Try.pinned.checked.prog 14 Try.f14 Rows.curveOnsSpec Rows.curveOnsRow = true := by
  show joinedFacts Try.prog 14 Try.f14 Rows.curveOnsSpec Rows.curveOnsRow = true
  unfold joinedFacts
  rw [liftsF, heardF, enterF, makeF]
  kernel_rfl
theorem curveOns_holds : Rows.CurveOnsSaid :=
  OpenClaim.holds_of_wide 14 Try.f14 rfl rfl rfl rfl rfl rfl rfl ⟨rfl, rfl, rfl, rfl, rfl⟩ rfl rfl rfl rfl rfl (by kernel_rfl) Try.func14 curveOns_facts
    (of_decide_eq_true (by kernel_rfl)) (by unfold Func.isWrapper; first | (rw [if_pos (by decide +kernel)]; kernel_rfl) | (rw [if_neg (by decide +kernel)]; exact ⟨rfl, rfl⟩))
    (fun os started H enc _ => curveOns_lifted os started H enc)
#print axioms curveOns_holds
end Go.Proofs.Ytccmlapcijjmpaa

