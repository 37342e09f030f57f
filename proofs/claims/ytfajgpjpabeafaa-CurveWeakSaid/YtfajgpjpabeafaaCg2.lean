/- The law CurveWeak: 0 just of the numbers whose point, doubled three times, is gone: it answers true for every input. No conditions. -/
import Derived.Test.YtfajgpjpabeafaaFt
import Derived.Test.YtfajgpjpabeafaaCf2
namespace Go.Proofs.Ytfajgpjpabeafaa
open Go Pw Go.RowKit
def wkX (o : FOps) (x : L4) : Bool := (twO o (twO o (twO o (atO o x)))).none
theorem wkX_eq (o : FOps) (x : L4) : wkX o x = (twO o (twO o (twO o (atO o x)))).none := rfl
def wkO (o : FOps) (u : K32) : Bool := wkX o (o.rfrm u)
noncomputable def cwT (o : FOps) (k u : K32) : Option (AV × Option Blk) :=
  brc (keyEq (scaleO o k u) zeroK == wkO o u) (brc (decide ((bif keyEq (scaleO o k u) zeroK then (20 : Int) else 0) = 20) == wkO o u)
    (some (.bool (decide ((bif keyEq (scaleO o k u) zeroK then (20 : Int) else 0) = 0) == !(wkO o u)), none)) (some (.bool false, none))) (some (.bool false, none))
theorem lawCW_run (o : FOps) (k u : K32) : runNL (XV2 o) [] [0,1,2,3,4,6,8,24,25,26,27,28,31,32,33,34,35,36] 400 Try.f23 (bodyOf Try.f23) (laArgs [.v (keyV k), .v (keyV u)] 0) (laLists [.v (keyV k), .v (keyV u)]) = cwT o k u := by kernel_rfl
theorem none_iff {C : LC} {f : Fp} {p : Cpt} {Q : EP C.E} (h : RPt C f p Q) : p.none = true ↔ Q = EP.zero C.E := by
  rcases h.pt with ⟨h1, h2⟩ | ⟨h1, z0, u, v, hA, -, -⟩
  · exact ⟨fun _ => h2, fun _ => h1⟩
  · refine ⟨fun h => (by rw [h1] at h; cases h), fun h => ?_⟩
    have := hA.hu.ne
    rw [h] at this
    exact absurd Fin.sub_self this
theorem rfrm_conc (u : K32) : concFOps.rfrm u = fromR u := by kernel_rfl
theorem wk_conc (u : K32) : wkO concFOps u = wkX concFOps (fromR u) := congrArg (wkX concFOps) (rfrm_conc u)
theorem eight_pt {C : LC} {f : Fp} (hF : FA C f AA) {p : Cpt} {P : EP C.E} (h : RPt C f p P) : RPt C f (twO concFOps (twO concFOps (twO concFOps p))) (P.mul 8) := by
  have h1 := h.plus hF h
  have h2 := h1.plus hF h1
  have h3 := h2.plus hF h2
  have e : ((P.add P).add (P.add P)).add ((P.add P).add (P.add P)) = P.mul 8 := by
    have e1 : P.add P = P.mul 2 := by
      have := dbl_two P 1
      rwa [EP.mul_one] at this
    rw [e1, dbl_two, dbl_two]
  rw [e] at h3
  exact h3
theorem bool_iff : ∀ {c d : Bool}, (d = true ↔ c = true) → d = c := by decide
theorem weak_eq {k u : K32} (hk : k.wf) (hu : u.wf) : keyEq (scaleO concFOps k u) zeroK = wkO concFOps u := by
  obtain ⟨w1, v1⟩ := scale_val hk hu
  obtain ⟨l1, l2, l3⟩ := scalar_lt hk
  have hr : rv (fromR u) = numK u := rv_from hu
  have b1 : (2 : Nat) ^ 255 = 8 * 2 ^ 252 := by decide +kernel
  have b2 : (2 : Nat) ^ 252 ≤ LL := by decide +kernel
  have b3 : (2 : Nat) ^ 252 ≤ TT := by decide +kernel
  have b4 : 0 < (2 : Nat) ^ 254 := by decide +kernel
  have hn : scalarK k = 8 * (scalarK k / 8) := by omega
  have hm0 : 0 < scalarK k / 8 := by omega
  have hmL : scalarK k / 8 < LL := by omega
  have hmT : scalarK k / 8 < TT := by omega
  have fin : ∀ {C : LC} {f : Fp} (_ : FA C f AA) {P : EP C.E} (_ : RPt C f (atO concFOps (fromR u)) P) (_ : IsU C (rv (fromR u)) P) (_ : P.mul (16 * (scalarK k / 8)) = EP.zero C.E → P.mul 8 = EP.zero C.E), keyEq (scaleO concFOps k u) zeroK = wkO concFOps u := by
    intro C f hF P hP hU hw
    have h8 : wkX concFOps (fromR u) = true ↔ P.mul 8 = EP.zero C.E := by
      rw [wkX_eq]
      exact none_iff (eight_pt hF hP)
    have hz : keyEq (scaleO concFOps k u) zeroK = true ↔ P.mul 8 = EP.zero C.E := by
      rw [key_eq_iff w1 zeroK_wf, show leVal zeroK = 0 from rfl, v1, ← hr, isU_u hU, scale_of_u l1 (by omega), decide_eq_true_eq]
      constructor
      · intro h
        have h0 : uOf C (P.mul (scalarK k)) = 0 := Fin.ext h
        have h1 := uOf_zero_y h0
        rw [← EP.mul_add] at h1
        refine hw ?_
        rw [show 16 * (scalarK k / 8) = scalarK k + scalarK k by omega]
        exact h1
      · intro h
        rw [hn, EP.mul_mul, h, EP.zero_mul, uOf_O]
        rfl
    rw [wk_conc]
    exact bool_iff (hz.trans h8.symm)
  rcases at_pt (rfrom_ok hu) with ⟨P, h1, h2⟩ | ⟨P, h1, h2⟩
  · exact fin FA1 h1 h2 (weak1 hm0 hmL)
  · exact fin FA2 h1 h2 (weak2 hm0 hmT)
theorem cw_true {k u : K32} (hk : k.wf) (hu : u.wf) : cwT concFOps k u = some (.bool true, none) := by
  unfold cwT
  rw [weak_eq hk hu]
  cases wkO concFOps u <;> rfl
noncomputable abbrev XCg : Cx := XV2 concFOps
theorem XCg_ok : CxOK Try.prog XCg := XV2_ok
set_option maxRecDepth 100000 in
theorem curveWeak_lifted (os : Os) (started : os.Started) (H : Type) (enc : TypeId × Value → H) :
    ReturnsInHanded {} Try.checked os 23 .any (Rows.curveWeakSpec.pre6 enc Try.prog Try.f23 Rows.curveWeakRow.domain false) (Rows.curveWeakSpec.post enc Try.prog Try.f23 false true false false) := by
  refine law_lifted (C := Try.checked) (tb := 4) (by kernel_rfl) started (by kernel_rfl) Try.func23
    (ChangeSpec.witness6 (enc := enc) (C := Try.checked) false ⟨#[], #[.agg #[.int .u8 0, .int .u8 0, .int .u8 0, .int .u8 0, .int .u8 0, .int .u8 0, .int .u8 0, .int .u8 0, .int .u8 0, .int .u8 0, .int .u8 0, .int .u8 0, .int .u8 0, .int .u8 0, .int .u8 0, .int .u8 0, .int .u8 0, .int .u8 0, .int .u8 0, .int .u8 0, .int .u8 0, .int .u8 0, .int .u8 0, .int .u8 0, .int .u8 0, .int .u8 0, .int .u8 0, .int .u8 0, .int .u8 0, .int .u8 0, .int .u8 0, .int .u8 0], .agg #[.int .u8 0, .int .u8 0, .int .u8 0, .int .u8 0, .int .u8 0, .int .u8 0, .int .u8 0, .int .u8 0, .int .u8 0, .int .u8 0, .int .u8 0, .int .u8 0, .int .u8 0, .int .u8 0, .int .u8 0, .int .u8 0, .int .u8 0, .int .u8 0, .int .u8 0, .int .u8 0, .int .u8 0, .int .u8 0, .int .u8 0, .int .u8 0, .int .u8 0, .int .u8 0, .int .u8 0, .int .u8 0, .int .u8 0, .int .u8 0, .int .u8 0, .int .u8 0]], []⟩ 8 (by kernel_rfl) (by kernel_rfl) (by kernel_rfl) (by kernel_rfl)) rfl ?_ (by kernel_rfl) (by kernel_rfl) (by kernel_rfl) (by kernel_rfl) ?_
  · intro ds h
    match ds, h with | [d0, d1], _ => rfl
  · intro W base args ds p hval hsz hA hlt hw
    obtain ⟨args⟩ := args
    match args, hsz, hval with
    | [a0, a1], hsz, hval =>
      obtain ⟨k, wk, rk⟩ := argKey (t := 23) (by kernel_rfl) (hval 0 _ a0 (by kernel_rfl) rfl)
      obtain ⟨u, wu, ru⟩ := argKey (t := 23) (by kernel_rfl) (hval 1 _ a1 (by kernel_rfl) rfl)
      exact law_runN XCg_ok Try.func23 (by kernel_rfl) LoopsOK.nil ((lawCW_run concFOps k u).trans (cw_true wk wu)) (NSt.empty W) (.cons _ _ _ _ (rk _) (.cons _ _ _ _ (ru _) .nil))
theorem curveWeak_facts : joinedFacts Try.pinned.checked.prog 23 Try.f23 Rows.curveWeakSpec Rows.curveWeakRow = true := by
  show joinedFacts Try.prog 23 Try.f23 Rows.curveWeakSpec Rows.curveWeakRow = true
  unfold joinedFacts
  rw [liftsF, heardF, enterF, makeF]
  kernel_rfl
theorem curveWeak_holds : Rows.CurveWeakSaid :=
  OpenClaim.holds_of_wide 23 Try.f23 rfl rfl rfl rfl rfl rfl rfl ⟨rfl, rfl, rfl, rfl, rfl⟩ rfl rfl rfl rfl rfl (by kernel_rfl) Try.func23 curveWeak_facts
    (of_decide_eq_true (by kernel_rfl)) (by unfold Func.isWrapper; first | (rw [if_pos (by decide +kernel)]; kernel_rfl) | (rw [if_neg (by decide +kernel)]; exact ⟨rfl, rfl⟩))
    (fun os started H enc _ => curveWeak_lifted os started H enc)
#print axioms curveWeak_holds
end Go.Proofs.Ytfajgpjpabeafaa

