/- The law EdwardsDresses: the two curves are one: it answers true for every input. No conditions. -/
import Derived.Test.YtnnjaijokiknkaaEv
namespace Go.Proofs.Ytnnjaijokiknkaa
open Go Pw Go.RowKit
noncomputable def edT (e : EOps) (k u : K32) (b : Bool) : Option (AV × Option Blk) := brn (!allId (livesL19 e)) noB
  (brn (e.fo.isZero (e.fo.frm u)) (some (.bool (decide ((e.lift u b).2 = 0) == !b), none))
    (brn (!(decide ((e.lift u b).2 = 0) == rootB e.fo (onXc e.fo (e.fo.frm u)))) noB
      (brn (!decide ((e.lift u b).2 = 0)) (brn (decide ((e.lift u b).2 = 190)) (some (.bool (e.isn (e.lift u b).1), none)) noB)
        (brn (keyEq (e.u (e.lift u b).1) (e.fo.bytes (e.fo.frm u)))
          (brn (decide (128 ≤ (e.bytes (e.lift u b).1).b31) == b) (some (.bool (keyEq (e.u (e.scale (e.lift u b).1 (clampC k).toList)) (scaleO e.fo k u)), none)) noB) noB))))
theorem lawED_run (e : EOps) (k u : K32) (b : Bool) : runNL (X_cscaleP e) [] [0,1,2,3,4,6,7,8,9,10,12,21,31,33,37,38,51,52,53,54,55,58,59,60,61,62,63,64,65] 500 Try.f12 (bodyOf Try.f12) (laArgs [.v (keyV k), .v (keyV u), .v (.bool b)] 0) (laLists [.v (keyV k), .v (keyV u), .v (.bool b)]) = edT e k u b := by kernel_rfl
theorem minus_one_y : ((0 : Fp) - 1) * finv (0 + 1) = -1 := by
  have h := mul_finv (x := (1 : Fp)) fp_one_ne
  rw [Fin.one_mul] at h
  rw [Fin.zero_add, h, Fin.mul_one]
  decide +kernel
theorem zero_one_ne : (0 : Fp) + 1 ≠ 0 := by decide +kernel
theorem m1_on : (-1 : Fp) * -1 - 0 * 0 = 1 + DF * 0 * 0 * -1 * -1 := by decide +kernel
def M1 : EPt := ⟨0, -1, on_of m1_on⟩
theorem M1_x : M1.x = 0 := rfl
theorem M1_y : M1.y = -1 := rfl
theorem lift_zero {u : K32} (h0 : numC u = 0) (b : Bool) : (∃ P, LiftK u b P) ↔ b = false := by
  have e0 : toF (leVal u % B255) = 0 := h0
  constructor
  · rintro ⟨P, h1, h2⟩
    rw [e0, minus_one_y] at h2
    have on := ed_on P
    rw [h2.y] at on
    have hx : P.x = 0 := by
      have e : (1 + DF) * (P.x * P.x) = 0 := by
        generalize P.x = x at *
        generalize DF = d at *
        have e2 : (1 + d) * (x * x) = (1 + d * x * x * -1 * -1) - (-1 * -1 - x * x) := by clear on; grind
        rw [e2, on, Fin.sub_self]
      rcases fp_mul_zero e with h | h
      · exact absurd h (by decide +kernel)
      · exact sq_zero h
    have h3 := h2.odd
    rw [hx] at h3
    rw [← h3]; decide +kernel
  · rintro rfl
    refine ⟨M1, by rw [e0]; exact zero_one_ne, ?_⟩
    rw [e0, minus_one_y]
    exact ⟨M1_y, by rw [M1_x]; decide +kernel⟩
theorem lift_on {u : K32} (h0 : numC u ≠ 0) (b : Bool) : (∃ P, LiftK u b P) ↔ isSq (wF (numC u)) := by
  constructor
  · rintro ⟨P, h1, h2⟩
    exact wf_here h0 (lift_is h1 h2.y)
  · intro hs
    obtain ⟨h1, P, hP⟩ := here_of h0 hs
    have hx := x_ne h0 hP
    have hy : P.y = (numC u - 1) * finv (numC u + 1) := by
      have hi := mul_finv h1
      rw [← hP]
      generalize finv (numC u + 1) = i at *
      generalize numC u + 1 = w at *
      generalize P.y = y at *
      have e : y * w * i = y * (w * i) := by clear hi hP; grind
      rw [e, hi, Fin.mul_one]
    have hsq : P.x * P.x = xxOf P.y := P.xx
    have hq : isSq (xxOf ((numC u - 1) * finv (numC u + 1))) := ⟨P.x, by rw [← hy]; exact hsq⟩
    have hr : ¬ (rootF (xxOf ((numC u - 1) * finv (numC u + 1))) = 0 ∧ b = true) := by
      rintro ⟨hz, -⟩
      have e := rootF_sq hq
      rw [hz, ← hy, ← hsq] at e
      rcases fp_mul_zero (e.symm.trans (Fin.mul_zero _)) with h | h <;> exact hx h
    obtain ⟨Q, hQ, -, -⟩ := found_some hq hr
    exact ⟨Q, h1, hQ⟩
theorem ed_true {e : EOps} (H : EGood e) (G : FGood e.fo) {k u : K32} {b : Bool} (hk : k.wf) (hu : u.wf) : edT e k u b = some (.bool true, none) := by
  have hz : e.fo.isZero (e.fo.frm u) = decide (numC u = 0) := G.isZero (G.frm hu)
  have hb := G.bytes (G.frm hu)
  have ho := G.on_curve hu
  have hck := clampC_wf hk
  obtain ⟨sw, sv⟩ := G.curve_scale hck hu
  obtain ⟨lt, ev⟩ := clampC_lt hk
  have hc : (hasRoot (wF (numC u)) = true) ↔ isSq (wF (numC u)) := hasRoot_iff _
  unfold edT
  rw [H.lives, hz, ho, Bool.not_true, brn_eq, cond_false, brn_eq]
  by_cases h0 : numC u = 0
  · have hl := lift_zero h0 b
    rw [decide_eq_true h0, cond_true]
    rcases H.lift b hu with ⟨P, h1, h2, h3⟩ | ⟨h1, h2, h3⟩
    · rw [h2, hl.1 ⟨P, h1⟩]; rfl
    · have hb1 : b = true := by
        cases b
        · obtain ⟨P, hP⟩ := hl.2 rfl
          exact absurd hP (h1 P)
        · rfl
      rw [h2, hb1]; rfl
  · have hl := lift_on h0 b
    rw [decide_eq_false h0, cond_false]
    rcases H.lift b hu with ⟨P, h1, h2, h3⟩ | ⟨h1, h2, h3⟩
    · have hy := lift_is h1.ne h1.pt.y
      have eu : uP P = numC u := lift_u hy
      have e1 : keyEq (e.u (e.lift u b).1) (e.fo.bytes (e.fo.frm u)) = true := by
        obtain ⟨w1, v1⟩ := H.u h3
        rw [key_eq_iff w1 hb.1, v1, hb.2, eu]
        exact decide_eq_true rfl
      have e2 : decide (128 ≤ (e.bytes (e.lift u b).1).b31) = b := by
        have hB := H.bytes h3
        have h4 := (hi_val hB.wf).2
        unfold hi2 at h4
        rw [h4, hB.split.2]
        exact h1.pt.odd
      have e3 : keyEq (e.u (e.scale (e.lift u b).1 (clampC k).toList)) (scaleO e.fo k u) = true := by
        obtain ⟨w1, v1⟩ := H.u (H.scale (b := (clampC k).toList) h3 hck)
        rw [key_eq_iff w1 sw, v1, sv, leB_key, ← eu, ladder_here lt ev]
        exact decide_eq_true rfl
      rw [h2, hc.2 (hl.1 ⟨P, h1⟩), e1, e2, e3]
      cases b <;> rfl
    · have hn : hasRoot (wF (numC u)) = false := by
        cases hh : hasRoot (wF (numC u))
        · rfl
        · obtain ⟨P, hP⟩ := hl.2 (hc.1 hh)
          exact absurd hP (h1 P)
      rw [h2, hn, H.isn h3, decide_eq_true rfl]
      rfl
theorem concE_foD : concE.fo = concFOps := by kernel_rfl
theorem concEFD : FGood concE.fo := concE_foD ▸ concGood
noncomputable abbrev XLy : Cx := X_cscaleP concE
theorem XLy_ok : CxOK Try.prog XLy := X_cscaleP_ok
set_option maxRecDepth 100000 in
theorem edwardsDresses_lifted (os : Os) (started : os.Started) (H : Type) (enc : TypeId × Value → H) :
    ReturnsInHanded {} Try.checked os 12 .any (Rows.edwardsDressesSpec.pre6 enc Try.prog Try.f12 Rows.edwardsDressesRow.domain false) (Rows.edwardsDressesSpec.post enc Try.prog Try.f12 false true false false) := by
  refine law_lifted (C := Try.checked) (tb := 4) (by kernel_rfl) started (by kernel_rfl) Try.func12
    (ChangeSpec.witness6 (enc := enc) (C := Try.checked) false ⟨#[], #[.agg #[.int .u8 0, .int .u8 0, .int .u8 0, .int .u8 0, .int .u8 0, .int .u8 0, .int .u8 0, .int .u8 0, .int .u8 0, .int .u8 0, .int .u8 0, .int .u8 0, .int .u8 0, .int .u8 0, .int .u8 0, .int .u8 0, .int .u8 0, .int .u8 0, .int .u8 0, .int .u8 0, .int .u8 0, .int .u8 0, .int .u8 0, .int .u8 0, .int .u8 0, .int .u8 0, .int .u8 0, .int .u8 0, .int .u8 0, .int .u8 0, .int .u8 0, .int .u8 0], .agg #[.int .u8 0, .int .u8 0, .int .u8 0, .int .u8 0, .int .u8 0, .int .u8 0, .int .u8 0, .int .u8 0, .int .u8 0, .int .u8 0, .int .u8 0, .int .u8 0, .int .u8 0, .int .u8 0, .int .u8 0, .int .u8 0, .int .u8 0, .int .u8 0, .int .u8 0, .int .u8 0, .int .u8 0, .int .u8 0, .int .u8 0, .int .u8 0, .int .u8 0, .int .u8 0, .int .u8 0, .int .u8 0, .int .u8 0, .int .u8 0, .int .u8 0, .int .u8 0], .bool false], []⟩ 8 (by kernel_rfl) (by kernel_rfl) (by kernel_rfl) (by kernel_rfl)) rfl ?_ (by kernel_rfl) (by kernel_rfl) (by kernel_rfl) (by kernel_rfl) ?_
  · intro ds h
    match ds, h with | [d0, d1, d2], _ => rfl
  · intro W base args ds p hval hsz hA hlt hw
    obtain ⟨args⟩ := args
    match args, hsz, hval with
    | [a0, a1, a2], hsz, hval =>
      obtain ⟨k, wk, rk⟩ := argKey (t := 23) (by kernel_rfl) (hval 0 _ a0 (by kernel_rfl) rfl)
      obtain ⟨u, wu, ru⟩ := argKey (t := 23) (by kernel_rfl) (hval 1 _ a1 (by kernel_rfl) rfl)
      obtain ⟨b, rb⟩ := argBool (t := 4) (by kernel_rfl) (hval 2 _ a2 (by kernel_rfl) rfl)
      exact law_runN XLy_ok Try.func12 (by kernel_rfl) LoopsOK.nil ((lawED_run concE k u b).trans (ed_true concEG concEFD wk wu)) (NSt.empty W) (.cons _ _ _ _ (rk _) (.cons _ _ _ _ (ru _) (.cons _ _ _ _ (rb _) .nil)))
theorem edwardsDresses_facts : joinedFacts Try.pinned.checked.prog 12 Try.f12 Rows.edwardsDressesSpec Rows.edwardsDressesRow = true := by
  show joinedFacts Try.prog 12 Try.f12 Rows.edwardsDressesSpec Rows.edwardsDressesRow = true
  unfold joinedFacts
  rw [liftsF, heardF, enterF, makeF]
  kernel_rfl
theorem edwardsDresses_holds : Rows.EdwardsDressesSaid :=
  OpenClaim.holds_of_wide 12 Try.f12 rfl rfl rfl rfl rfl rfl rfl ⟨rfl, rfl, rfl, rfl, rfl⟩ rfl rfl rfl rfl rfl (by kernel_rfl) Try.func12 edwardsDresses_facts
    (of_decide_eq_true (by kernel_rfl)) (by unfold Func.isWrapper; first | (rw [if_pos (by decide +kernel)]; kernel_rfl) | (rw [if_neg (by decide +kernel)]; exact ⟨rfl, rfl⟩))
    (fun os started H enc _ => edwardsDresses_lifted os started H enc)
#print axioms edwardsDresses_holds
end Go.Proofs.Ytnnjaijokiknkaa

