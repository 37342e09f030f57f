/- The law CurveMultiples: the ladder is the law of chord and tangent: it answers true for every input. No conditions. -/
import Derived.Test.YtfajgpjpabeafaaFt
import Derived.Test.YtfajgpjpabeafaaCe2
namespace Go.Proofs.Ytfajgpjpabeafaa
open Go Pw Go.RowKit
def noM2 : Option (AV × Option Blk) := some (.bool false, none)
noncomputable def cmT (o : FOps) (k u : K32) : Option (AV × Option Blk) :=
  brc (!decide ((clampS k).b0 % Int.toNat 8 = Int.toNat 0)) noM2 (brc (decide ((clampS k).b31 < Int.toNat 64)) noM2 (brc (decide (Int.toNat 127 < (clampS k).b31)) noM2
    (some (.bool (keyEq (scaleO o k u) (numO o (muD o (clampS k) (atO o (o.rfrm u)) (goneC (atO o (o.rfrm u)).f) 256))), none))))
theorem lawCM_run (o : FOps) (k u : K32) : runNL (X_weakL o) [(7, gMu o)] [0,1,2,3,4,5,6,7,8,16,17,18,21,22,23,24,32,46] 400 muL (bodyOf muL) (laArgs [.v (keyV k), .v (keyV u)] 0) (laLists [.v (keyV k), .v (keyV u)]) = cmT o k u := by kernel_rfl
theorem lo_byte : ∀ b, b < 256 → (b &&& 248) % 8 = 0 := by decide +kernel
theorem hi_byte : ∀ b, b < 256 → 64 ≤ (b &&& 127 ||| 64) ∧ (b &&& 127 ||| 64) ≤ 127 := by decide +kernel
theorem cm_true {k u : K32} (hk : k.wf) (hu : u.wf) : cmT concFOps k u = some (.bool true, none) := by
  have e : cmT concFOps k u = brc (!decide ((k.b0 &&& 248) % 8 = 0)) noM2 (brc (decide ((k.b31 &&& 127 ||| 64) < 64)) noM2 (brc (decide (127 < (k.b31 &&& 127 ||| 64))) noM2
    (some (.bool (keyEq (scaleO concFOps k u) (numO concFOps (muD concFOps (clampS k) (atO concFOps (fromR u)) (goneC (atO concFOps (fromR u)).f) 256))), none)))) := by kernel_rfl
  have hm : ∀ c ∈ k.toList, c < 256 := hk
  have h0 := lo_byte k.b0 (hm _ (by simp [K32.toList]))
  obtain ⟨h1, h2⟩ := hi_byte k.b31 (hm _ (by simp [K32.toList]))
  rw [e, mu_scale hk hu, keyEq_self, decide_eq_true h0, decide_eq_false (by omega), decide_eq_false (by omega)]
  rfl
noncomputable abbrev XC9 : Cx := X_weakL concFOps
theorem XC9_ok : CxOK Try.prog XC9 := X_weakL_ok
set_option maxRecDepth 100000 in
theorem curveMultiples_lifted (os : Os) (started : os.Started) (H : Type) (enc : TypeId × Value → H) :
    ReturnsInHanded {} Try.checked os 19 .any (Rows.curveMultiplesSpec.pre6 enc Try.prog Try.f19 Rows.curveMultiplesRow.domain false) (Rows.curveMultiplesSpec.post enc Try.prog Try.f19 false true false false) := by
  refine law_lifted (C := Try.checked) (tb := 4) (by kernel_rfl) started (by kernel_rfl) Try.func19
    (ChangeSpec.witness6 (enc := enc) (C := Try.checked) false ⟨#[], #[.agg #[.int .u8 0, .int .u8 0, .int .u8 0, .int .u8 0, .int .u8 0, .int .u8 0, .int .u8 0, .int .u8 0, .int .u8 0, .int .u8 0, .int .u8 0, .int .u8 0, .int .u8 0, .int .u8 0, .int .u8 0, .int .u8 0, .int .u8 0, .int .u8 0, .int .u8 0, .int .u8 0, .int .u8 0, .int .u8 0, .int .u8 0, .int .u8 0, .int .u8 0, .int .u8 0, .int .u8 0, .int .u8 0, .int .u8 0, .int .u8 0, .int .u8 0, .int .u8 0], .agg #[.int .u8 0, .int .u8 0, .int .u8 0, .int .u8 0, .int .u8 0, .int .u8 0, .int .u8 0, .int .u8 0, .int .u8 0, .int .u8 0, .int .u8 0, .int .u8 0, .int .u8 0, .int .u8 0, .int .u8 0, .int .u8 0, .int .u8 0, .int .u8 0, .int .u8 0, .int .u8 0, .int .u8 0, .int .u8 0, .int .u8 0, .int .u8 0, .int .u8 0, .int .u8 0, .int .u8 0, .int .u8 0, .int .u8 0, .int .u8 0, .int .u8 0, .int .u8 0]], []⟩ 8 (by kernel_rfl) (by kernel_rfl) (by kernel_rfl) (by kernel_rfl)) rfl ?_ (by kernel_rfl) (by kernel_rfl) (by kernel_rfl) (by kernel_rfl) ?_
  · intro ds h
    match ds, h with | [d0, d1], _ => rfl
  · intro W base args ds p hval hsz hA hlt hw
    obtain ⟨args⟩ := args
    match args, hsz, hval with
    | [a0, a1], hsz, hval =>
      obtain ⟨k, wk, rk⟩ := argKey (t := 23) (by kernel_rfl) (hval 0 _ a0 (by kernel_rfl) rfl)
      obtain ⟨u, wu, ru⟩ := argKey (t := 23) (by kernel_rfl) (hval 1 _ a1 (by kernel_rfl) rfl)
      exact law_runN XC9_ok Try.func19 (by kernel_rfl) mu_loops ((lawCM_run concFOps k u).trans (cm_true wk wu)) (NSt.empty W) (.cons _ _ _ _ (rk _) (.cons _ _ _ _ (ru _) .nil))
theorem curveMultiples_facts : joinedFacts Try.pinned.checked.prog 19 Try.f19 Rows.curveMultiplesSpec Rows.curveMultiplesRow = true := by
  show joinedFacts Try.prog 19 Try.f19 Rows.curveMultiplesSpec Rows.curveMultiplesRow = true
  unfold joinedFacts
  rw [liftsF, heardF, enterF, makeF]
  kernel_rfl
theorem curveMultiples_holds : Rows.CurveMultiplesSaid :=
  OpenClaim.holds_of_wide 19 Try.f19 rfl rfl rfl rfl rfl rfl rfl ⟨rfl, rfl, rfl, rfl, rfl⟩ rfl rfl rfl rfl rfl (by kernel_rfl) Try.func19 curveMultiples_facts
    (of_decide_eq_true (by kernel_rfl)) (by unfold Func.isWrapper; first | (rw [if_pos (by decide +kernel)]; kernel_rfl) | (rw [if_neg (by decide +kernel)]; exact ⟨rfl, rfl⟩))
    (fun os started H enc _ => curveMultiples_lifted os started H enc)
#print axioms curveMultiples_holds
end Go.Proofs.Ytfajgpjpabeafaa

