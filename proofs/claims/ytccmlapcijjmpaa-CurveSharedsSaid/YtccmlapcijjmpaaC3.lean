/- The law CurveShareds: every Shared, its error: it answers true for every input. No conditions. -/
import Derived.Test.YtccmlapcijjmpaaFt
import Derived.Test.YtccmlapcijjmpaaCw
namespace Go.Proofs.Ytccmlapcijjmpaa
open Go Pw Go.RowKit
def shT (o : FOps) (k u : K32) : Option AV := andR [keyEq (scaleO o k u) (bif keyEq (rscaleO o k u) zeroK then zeroK else rscaleO o k u), decide ((bif keyEq (scaleO o k u) zeroK then (20 : Int) else 0) = (bif keyEq (rscaleO o k u) zeroK then (20 : Int) else 0))]
theorem lawCSh_run (o : FOps) (k : K32) (u : K32) : runQ (X_onD o) [0,1,2,3,4,5,6,7,8,25,26,27] 100 Try.f21 (bodyOf Try.f21) [keyV k, keyV u] = shT o k u := by
  kernel_rfl
theorem shT_true {k u : K32} (hk : k.wf) (hu : u.wf) : shT concFOps k u = some (.bool true) := by
  unfold shT
  rw [scale_eq hk hu]
  generalize rscaleO concFOps k u = z
  refine andR_true fun c hc => ?_
  rw [keyEq_iff z zeroK] at hc
  by_cases h : z = zeroK
  · rw [decide_eq_true h, cond_true, cond_true, h, keyEq_self] at hc
    simp at hc; exact hc
  · rw [decide_eq_false h, cond_false, cond_false, keyEq_self] at hc
    simp at hc; exact hc
set_option maxRecDepth 100000 in
theorem curveShareds_lifted (os : Os) (started : os.Started) (H : Type) (enc : TypeId × Value → H) :
    ReturnsInHanded {} Try.checked os 21 .any (Rows.curveSharedsSpec.pre6 enc Try.prog Try.f21 Rows.curveSharedsRow.domain false) (Rows.curveSharedsSpec.post enc Try.prog Try.f21 false true false false) := by
  refine law_lifted (C := Try.checked) (tb := 4) (by kernel_rfl) started (by kernel_rfl) Try.func21
    (ChangeSpec.witness6 (enc := enc) (C := Try.checked) false ⟨#[], #[.agg #[.int .u8 0, .int .u8 0, .int .u8 0, .int .u8 0, .int .u8 0, .int .u8 0, .int .u8 0, .int .u8 0, .int .u8 0, .int .u8 0, .int .u8 0, .int .u8 0, .int .u8 0, .int .u8 0, .int .u8 0, .int .u8 0, .int .u8 0, .int .u8 0, .int .u8 0, .int .u8 0, .int .u8 0, .int .u8 0, .int .u8 0, .int .u8 0, .int .u8 0, .int .u8 0, .int .u8 0, .int .u8 0, .int .u8 0, .int .u8 0, .int .u8 0, .int .u8 0], .agg #[.int .u8 0, .int .u8 0, .int .u8 0, .int .u8 0, .int .u8 0, .int .u8 0, .int .u8 0, .int .u8 0, .int .u8 0, .int .u8 0, .int .u8 0, .int .u8 0, .int .u8 0, .int .u8 0, .int .u8 0, .int .u8 0, .int .u8 0, .int .u8 0, .int .u8 0, .int .u8 0, .int .u8 0, .int .u8 0, .int .u8 0, .int .u8 0, .int .u8 0, .int .u8 0, .int .u8 0, .int .u8 0, .int .u8 0, .int .u8 0, .int .u8 0, .int .u8 0]], []⟩ 8 (by kernel_rfl) (by kernel_rfl) (by kernel_rfl) (by kernel_rfl)) rfl ?_ (by kernel_rfl) (by kernel_rfl) (by kernel_rfl) (by kernel_rfl) ?_
  · intro ds h
    match ds, h with | [d0, d1], _ => rfl
  · intro W base args ds p hval hsz hA hlt hw
    obtain ⟨args⟩ := args
    match args, hsz, hval with
    | [a0, a1], hsz, hval =>
      obtain ⟨k, wk, rk⟩ := argKey (t := 23) (by kernel_rfl) (hval 0 _ a0 (by kernel_rfl) rfl)
      obtain ⟨u, wu, ru⟩ := argKey (t := 23) (by kernel_rfl) (hval 1 _ a1 (by kernel_rfl) rfl)
      exact law_run XC_ok Try.func21 (by kernel_rfl) ((lawCSh_run concFOps k u).trans (shT_true wk wu)) (.cons _ _ _ _ (rk _) (.cons _ _ _ _ (ru _) .nil))
theorem curveShareds_facts : joinedFacts Try.pinned.checked.prog 21 Try.f21 Rows.curveSharedsSpec Rows.curveSharedsRow = true := by
  show joinedFacts Try.prog 21 Try.f21 Rows.curveSharedsSpec Rows.curveSharedsRow = true
  unfold joinedFacts
  rw [liftsF, heardF, enterF, makeF]
  kernel_rfl
theorem curveShareds_holds : Rows.CurveSharedsSaid :=
  OpenClaim.holds_of_wide 21 Try.f21 rfl rfl rfl rfl rfl rfl rfl ⟨rfl, rfl, rfl, rfl, rfl⟩ rfl rfl rfl rfl rfl (by kernel_rfl) Try.func21 curveShareds_facts
    (of_decide_eq_true (by kernel_rfl)) (by unfold Func.isWrapper; first | (rw [if_pos (by decide +kernel)]; kernel_rfl) | (rw [if_neg (by decide +kernel)]; exact ⟨rfl, rfl⟩))
    (fun os started H enc _ => curveShareds_lifted os started H enc)
#print axioms curveShareds_holds
end Go.Proofs.Ytccmlapcijjmpaa

