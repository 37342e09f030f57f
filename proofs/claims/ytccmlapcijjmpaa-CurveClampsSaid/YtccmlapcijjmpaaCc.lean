/- Every Clamp of the program is the document's: the law CurveClamps answers true for every key. No conditions. -/
import Derived.Test.YtccmlapcijjmpaaRows
import Derived.Test.YtccmlapcijjmpaaTab
import Derived.Test.YtccmlapcijjmpaaPwRow
namespace Go.Proofs.Ytccmlapcijjmpaa
open Go Pw Go.RowKit

def Y0 : Cx := ⟨T, noQ, noM⟩
theorem Y0_ok : CxOK Try.prog Y0 := ⟨mix, T_ok, noQ_ok, noM_ok⟩
def bodyOf (f : Func) : Code := match f.body with | some c => c | none => .skip
def clampS (k : K32) : K32 := { k with b0 := k.b0 &&& 248, b31 := k.b31 &&& 127 ||| 64 }
def clampR (k : K32) : K32 := { k with b0 := k.b0 / 8 * 8 % 256, b31 := (k.b31 % 64 + 64) % 256 }
theorem clampP_run (k : K32) : runQ Y0 [0,1,2] 100 Try.f64 (bodyOf Try.f64) [keyV k] = some (keyV (clampS k)) := by
  kernel_rfl
def g_clampP (args : List AV) : Option AV := match args with
  | [x0] => match key? x0 with
    | some k => some (keyV (clampS k))
    | _ => none
  | _ => none
theorem clampP_at : QuietAt Try.prog 64 (val g_clampP) := by
  refine quietAt_of_run Y0_ok (keep := [0,1,2]) Try.func64 (c := bodyOf Try.f64) (by kernel_rfl) (by kernel_rfl) fun args v h hw => ⟨100, ?_⟩
  unfold g_clampP at h
  split at h
  · rename_i x0
    split at h
    · rename_i k h0
      have eh0 := key?_some h0
      subst eh0
      rw [clampP_run]
      exact h
    · cases h
  · cases h
def X_clampP : Cx := { Y0 with O := addQ Y0.O 64 (val g_clampP) }
theorem X_clampP_ok : CxOK Try.prog X_clampP := { Y0_ok with quiet := addQ_ok Y0_ok.quiet clampP_at }
theorem clampD_run (k : K32) : runQ X_clampP [0,1,2] 100 Try.f65 (bodyOf Try.f65) [keyV k] = some (keyV (clampR k)) := by
  kernel_rfl
def g_clampD (args : List AV) : Option AV := match args with
  | [x0] => match key? x0 with
    | some k => some (keyV (clampR k))
    | _ => none
  | _ => none
theorem clampD_at : QuietAt Try.prog 65 (val g_clampD) := by
  refine quietAt_of_run X_clampP_ok (keep := [0,1,2]) Try.func65 (c := bodyOf Try.f65) (by kernel_rfl) (by kernel_rfl) fun args v h hw => ⟨100, ?_⟩
  unfold g_clampD at h
  split at h
  · rename_i x0
    split at h
    · rename_i k h0
      have eh0 := key?_some h0
      subst eh0
      rw [clampD_run]
      exact h
    · cases h
  · cases h
def X_clampD : Cx := { X_clampP with O := addQ X_clampP.O 65 (val g_clampD) }
theorem X_clampD_ok : CxOK Try.prog X_clampD := { X_clampP_ok with quiet := addQ_ok X_clampP_ok.quiet clampD_at }
theorem lawCC_run (k : K32) : runQ X_clampD [0,1,2] 100 Try.f13 (bodyOf Try.f13) [keyV k] = some (.bool (keyEq (clampS k) (clampR k))) := by
  kernel_rfl

theorem byte_low : ∀ b, b < 256 → b &&& 248 = b / 8 * 8 % 256 := by decide +kernel
theorem byte_high : ∀ b, b < 256 → b &&& 127 ||| 64 = (b % 64 + 64) % 256 := by decide +kernel
theorem clamp_eq {k : K32} (h : k.wf) : clampS k = clampR k := by
  unfold clampS clampR
  rw [byte_low _ (h k.b0 (by simp [K32.toList])), byte_high _ (h k.b31 (by simp [K32.toList]))]
set_option maxRecDepth 100000 in
theorem cc_lifted (os : Os) (started : os.Started) (H : Type) (enc : TypeId × Value → H) :
    ReturnsInHanded {} Try.checked os 13 .any (Rows.curveClampsSpec.pre6 enc Try.prog Try.f13 Rows.curveClampsRow.domain false) (Rows.curveClampsSpec.post enc Try.prog Try.f13 false true false false) := by
  refine law_lifted (C := Try.checked) (tb := 4) (by kernel_rfl) started (by kernel_rfl) Try.func13
    (ChangeSpec.witness6 (enc := enc) (C := Try.checked) false ⟨#[], #[.agg #[.int .u8 0, .int .u8 0, .int .u8 0, .int .u8 0, .int .u8 0, .int .u8 0, .int .u8 0, .int .u8 0, .int .u8 0, .int .u8 0, .int .u8 0, .int .u8 0, .int .u8 0, .int .u8 0, .int .u8 0, .int .u8 0, .int .u8 0, .int .u8 0, .int .u8 0, .int .u8 0, .int .u8 0, .int .u8 0, .int .u8 0, .int .u8 0, .int .u8 0, .int .u8 0, .int .u8 0, .int .u8 0, .int .u8 0, .int .u8 0, .int .u8 0, .int .u8 0]], []⟩ 8 (by kernel_rfl) (by kernel_rfl) (by kernel_rfl) (by kernel_rfl)) rfl ?_ (by kernel_rfl) (by kernel_rfl) (by kernel_rfl) (by kernel_rfl) ?_
  · intro ds h
    match ds, h with | [d0], _ => rfl
  · intro W base args ds p hval hsz hA hlt hw
    obtain ⟨args⟩ := args
    match args, hsz, hval with
    | [a0], hsz, hval =>
      obtain ⟨k, wk, rk⟩ := argKey (t := 23) (by kernel_rfl) (hval 0 _ a0 (by kernel_rfl) rfl)
      exact law_run X_clampD_ok Try.func13 (by kernel_rfl) ((lawCC_run k).trans (by rw [keyEq_iff, decide_eq_true (clamp_eq wk)])) (.cons _ _ _ _ (rk _) .nil)
theorem cc_holds : Rows.CurveClampsSaid :=
  OpenClaim.holds_of_wide 13 Try.f13 rfl rfl rfl rfl rfl rfl rfl ⟨rfl, rfl, rfl, rfl, rfl⟩ rfl rfl rfl rfl rfl (by kernel_rfl) Try.func13 (by kernel_rfl)
    (of_decide_eq_true (by kernel_rfl)) (by unfold Func.isWrapper; first | (rw [if_pos (by decide +kernel)]; kernel_rfl) | (rw [if_neg (by decide +kernel)]; exact ⟨rfl, rfl⟩))
    (fun os started H enc _ => cc_lifted os started H enc)
#print axioms cc_holds
end Go.Proofs.Ytccmlapcijjmpaa

