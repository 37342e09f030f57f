/- The law CurveForms: clamped or not, in whatever bytes the number is said: it answers true for every input. No conditions. -/
import Derived.Test.YtccmlapcijjmpaaFt
import Derived.Test.YtccmlapcijjmpaaCy
namespace Go.Proofs.Ytccmlapcijjmpaa
open Go Pw Go.RowKit
def topOf (u : K32) : K32 := { u with b31 := u.b31 ^^^ 128 }
def cfT (o : FOps) (k u : K32) : Option AV := bif !(keyEq (clampS (clampS k)) (clampS k)) then some (.bool false) else
  andR [keyEq (scaleO o (clampS k) u) (scaleO o k u), keyEq (scaleO o k (topOf u)) (scaleO o k u), keyEq (scaleO o k (o.bytes (o.frm u))) (scaleO o k u), keyEq (o.bytes (o.frm (scaleO o k u))) (scaleO o k u)]
theorem lawCF_run (o : FOps) (k : K32) (u : K32) : runQ (X_vecL o) [0,1,2,3,4,5,6,10,11,12,13,14,15,16,32,33,34,35,36,39,40,41,42,43,44,45,48,49,50,51,52] 100 Try.f17 (bodyOf Try.f17) [keyV k, keyV u] = cfT o k u := by
  kernel_rfl
theorem top_byte : ∀ b, b < 256 → (b ^^^ 128) % 128 = b % 128 ∧ b ^^^ 128 < 256 := by decide +kernel
theorem top_wf {u : K32} (hu : u.wf) : (topOf u).wf := by
  intro b hb
  have hm : ∀ c ∈ u.toList, c < 256 := hu
  simp only [topOf, K32.toList, List.mem_cons, List.not_mem_nil, or_false] at hb
  simp only [K32.toList, List.mem_cons, List.not_mem_nil, or_false, forall_eq_or_imp, forall_eq] at hm
  have h31 := (top_byte u.b31 (by omega)).2
  omega
theorem top_num {u : K32} (hu : u.wf) : numK (topOf u) = numK u := by
  have e : lowOf (topOf u) = lowOf u := by
    unfold lowOf topOf
    rw [(top_byte u.b31 (hu u.b31 (by simp [K32.toList]))).1]
  unfold numK
  rw [← low_val _ (top_wf hu), ← low_val _ hu, e]
theorem form_num {u : K32} (hu : u.wf) : numK (bytesS (fromS u)) = numK u := by
  rw [numK_val (bytes_val (from_ok hu)), from_fv hu]; rfl
theorem form_scale {k u : K32} (hk : k.wf) (hu : u.wf) : bytesS (fromS (scaleO concFOps k u)) = scaleO concFOps k u := by
  obtain ⟨w, e⟩ := scale_val hk hu
  refine leVal_inj (bytesS_wf _) w ?_
  have h := scale_num hk hu
  rw [numK] at h
  rw [bytes_val (from_ok w), from_fv w, h]
  exact e.symm
theorem clamp_scalar {k : K32} (hk : k.wf) : scalarK (clampS k) = scalarK k := by
  unfold scalarK
  rw [clamp_eq hk, clamp_twice hk]
theorem cfT_true {k u : K32} (hk : k.wf) (hu : u.wf) : cfT concFOps k u = some (.bool true) := by
  have e : cfT concFOps k u = bif !(keyEq (clampS (clampS k)) (clampS k)) then some (.bool false) else
    andR [keyEq (scaleO concFOps (clampS k) u) (scaleO concFOps k u), keyEq (scaleO concFOps k (topOf u)) (scaleO concFOps k u), keyEq (scaleO concFOps k (bytesS (fromS u))) (scaleO concFOps k u), keyEq (bytesS (fromS (scaleO concFOps k u))) (scaleO concFOps k u)] := by kernel_rfl
  have c2 : clampS (clampS k) = clampS k := by rw [clamp_eq (clampS_wf hk), clamp_eq hk, clamp_twice hk]
  rw [e, c2, form_scale hk hu, scale_congr (clampS_wf hk) hk hu hu (clamp_scalar hk) rfl, scale_congr hk hk (top_wf hu) hu rfl (top_num hu), scale_congr hk hk (bytesS_wf _) hu rfl (form_num hu), keyEq_self, keyEq_self]
  rfl
set_option maxRecDepth 100000 in
theorem curveForms_lifted (os : Os) (started : os.Started) (H : Type) (enc : TypeId × Value → H) :
    ReturnsInHanded {} Try.checked os 17 .any (Rows.curveFormsSpec.pre6 enc Try.prog Try.f17 Rows.curveFormsRow.domain false) (Rows.curveFormsSpec.post enc Try.prog Try.f17 false true false false) := by
  refine law_lifted (C := Try.checked) (tb := 4) (by kernel_rfl) started (by kernel_rfl) Try.func17
    (ChangeSpec.witness6 (enc := enc) (C := Try.checked) false ⟨#[], #[.agg #[.int .u8 0, .int .u8 0, .int .u8 0, .int .u8 0, .int .u8 0, .int .u8 0, .int .u8 0, .int .u8 0, .int .u8 0, .int .u8 0, .int .u8 0, .int .u8 0, .int .u8 0, .int .u8 0, .int .u8 0, .int .u8 0, .int .u8 0, .int .u8 0, .int .u8 0, .int .u8 0, .int .u8 0, .int .u8 0, .int .u8 0, .int .u8 0, .int .u8 0, .int .u8 0, .int .u8 0, .int .u8 0, .int .u8 0, .int .u8 0, .int .u8 0, .int .u8 0], .agg #[.int .u8 0, .int .u8 0, .int .u8 0, .int .u8 0, .int .u8 0, .int .u8 0, .int .u8 0, .int .u8 0, .int .u8 0, .int .u8 0, .int .u8 0, .int .u8 0, .int .u8 0, .int .u8 0, .int .u8 0, .int .u8 0, .int .u8 0, .int .u8 0, .int .u8 0, .int .u8 0, .int .u8 0, .int .u8 0, .int .u8 0, .int .u8 0, .int .u8 0, .int .u8 0, .int .u8 0, .int .u8 0, .int .u8 0, .int .u8 0, .int .u8 0, .int .u8 0]], []⟩ 8 (by kernel_rfl) (by kernel_rfl) (by kernel_rfl) (by kernel_rfl)) rfl ?_ (by kernel_rfl) (by kernel_rfl) (by kernel_rfl) (by kernel_rfl) ?_
  · intro ds h
    match ds, h with | [d0, d1], _ => rfl
  · intro W base args ds p hval hsz hA hlt hw
    obtain ⟨args⟩ := args
    match args, hsz, hval with
    | [a0, a1], hsz, hval =>
      obtain ⟨k, wk, rk⟩ := argKey (t := 23) (by kernel_rfl) (hval 0 _ a0 (by kernel_rfl) rfl)
      obtain ⟨u, wu, ru⟩ := argKey (t := 23) (by kernel_rfl) (hval 1 _ a1 (by kernel_rfl) rfl)
      exact law_run XV_ok Try.func17 (by kernel_rfl) ((lawCF_run concFOps k u).trans (cfT_true wk wu)) (.cons _ _ _ _ (rk _) (.cons _ _ _ _ (ru _) .nil))
theorem curveForms_facts : joinedFacts Try.pinned.checked.prog 17 Try.f17 Rows.curveFormsSpec Rows.curveFormsRow = true := by
  show joinedFacts Try.prog 17 Try.f17 Rows.curveFormsSpec Rows.curveFormsRow = true
  unfold joinedFacts
  rw [liftsF, heardF, enterF, makeF]
  kernel_rfl
theorem curveForms_holds : Rows.CurveFormsSaid :=
  OpenClaim.holds_of_wide 17 Try.f17 rfl rfl rfl rfl rfl rfl rfl ⟨rfl, rfl, rfl, rfl, rfl⟩ rfl rfl rfl rfl rfl (by kernel_rfl) Try.func17 curveForms_facts
    (of_decide_eq_true (by kernel_rfl)) (by unfold Func.isWrapper; first | (rw [if_pos (by decide +kernel)]; kernel_rfl) | (rw [if_neg (by decide +kernel)]; exact ⟨rfl, rfl⟩))
    (fun os started H enc _ => curveForms_lifted os started H enc)
#print axioms curveForms_holds
end Go.Proofs.Ytccmlapcijjmpaa

