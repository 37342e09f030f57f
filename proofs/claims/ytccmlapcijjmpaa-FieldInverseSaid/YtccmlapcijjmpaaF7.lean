/- The law FieldInverse: what is not 0 has an inverse, the power P - 2; the power P is the number itself; no product of two that are not 0 is 0: it answers true for every input. No conditions. -/
import Derived.Test.YtccmlapcijjmpaaFt
import Derived.Test.YtccmlapcijjmpaaFf
namespace Go.Proofs.Ytccmlapcijjmpaa
open Go Pw Go.RowKit

def fivA (o : FOps) (a : L5) : Option AV := andR [o.same (invO o (invO o a)) a, o.same (powL o a (List.take 32 (List.drop 0 (primeL 2)))) (invO o a), o.same (powL o a (List.take 32 (List.drop 0 (primeL 0)))) a]
def fivB (o : FOps) (a : L5) : Option AV := bif !(o.isZero a) then (bif !(o.same (o.mul a (invO o a)) (o.small 1)) then some (.bool false) else fivA o a) else fivA o a
def fivT (o : FOps) (p q : K32) (a b : L5) : Option AV := orF [!(o.lives p), !(o.lives q)] (some (.bool false)) (bif !(o.isZero a == keyEq (o.below p) zeroK) then some (.bool false) else
  bif o.isZero a then (bif !(o.isZero (o.mul a b) == true) then some (.bool false) else fivB o a) else (bif !(o.isZero (o.mul a b) == o.isZero b) then some (.bool false) else fivB o a))
theorem lawFI_run (o : FOps) (p : K32) (q : K32) : runQ (X_halfLaw o) [0,1,2,3,4,5,6,7,16,17,18,19,30,31,32,33,34,35,36,37,38,39,40,41,46,47,48,49,50,51,52,58,59,60,61,62,65,66,67,68,69] 100 Try.f9 (bodyOf Try.f9) [keyV p, keyV q] = fivT o p q (o.frm p) (o.frm q) := by
  kernel_rfl
abbrev XH : Cx := X_halfLaw concFOps
theorem XH_ok : CxOK Try.prog XH := X_halfLaw_ok
theorem prime_bytes (n : Nat) : ∀ b ∈ primeL n, b < 256 := by
  intro b hb
  unfold primeL at hb
  rcases List.mem_cons.1 hb with rfl | hb
  · exact Nat.mod_lt _ (by decide)
  · exact of_decide_eq_true (List.all_eq_true.1 (show List.all _ (fun b => decide (b < 256)) = true by decide +kernel) b hb)
theorem fpow_PP (x : Fp) : fpow x PP = x := by
  by_cases h : x = 0
  · rw [h, zero_fpow PP_pos]
  · rw [show PP = (PP - 1) + 1 from rfl, fpow_add, fp_fermat h, fpow_one]; grind
theorem zeroK_wf : zeroK.wf := fun b hb => of_decide_eq_true (List.all_eq_true.1 (show List.all zeroK.toList (fun b => decide (b < 256)) = true by decide +kernel) b hb)
theorem zeroK_val : leVal zeroK = 0 := by decide +kernel
theorem below_zero {p : K32} (hp : p.wf) : keyEq (belowS p) zeroK = decide (fv (fromS p) = 0) := by
  rw [key_eq_iff (below_val32 hp).1 zeroK_wf, (below_val32 hp).2, zeroK_val, from_fv hp]
  refine decide_eq_decide.2 ⟨fun h => ?_, fun h => ?_⟩
  · refine fp_ext ?_
    rw [toF_val, h]; rfl
  · have := congrArg Fin.val h
    rw [toF_val] at this
    exact this
theorem fivA_true {a : L5} (ha : ok5 a) : fivA concFOps a = some (.bool true) := by
  obtain ⟨i1, i2⟩ := inv_fv ha
  obtain ⟨j1, j2⟩ := inv_fv i1
  obtain ⟨p1, p2⟩ := powL_fv ha (prime_bytes 2)
  obtain ⟨q1, q2⟩ := powL_fv ha (prime_bytes 0)
  have e : fivA concFOps a = andR [sameS (invO concFOps (invO concFOps a)) a, sameS (powL concFOps a (primeL 2)) (invO concFOps a), sameS (powL concFOps a (primeL 0)) a] := by kernel_rfl
  rw [e, sameS_fv j1 ha, sameS_fv p1 i1, sameS_fv q1 ha, j2, i2, p2, q2, show leL (primeL 2) = PP - 2 by decide +kernel, show leL (primeL 0) = PP by decide +kernel, finv_finv, fpow_PP,
    decide_eq_true (show fpow (fv a) (PP - 2) = finv (fv a) from rfl)]
  refine andR_true fun c hc => ?_
  simp only [decide_true, List.mem_cons, List.not_mem_nil, or_false, or_self] at hc
  exact hc
theorem fivB_true {a : L5} (ha : ok5 a) : fivB concFOps a = some (.bool true) := by
  obtain ⟨i1, i2⟩ := inv_fv ha
  have o1 : ok5 (smallS 1) := small_ok (by decide)
  have e : fivB concFOps a = bif !(isZeroS a) then (bif !(sameS (mulS a (invO concFOps a)) (smallS 1)) then some (.bool false) else fivA concFOps a) else fivA concFOps a := by kernel_rfl
  rw [e, isZeroS_fv ha, sameS_fv (mul_ok ha i1) o1, fv_mul ha i1, i2, fv_small (by decide), toF_one, fivA_true ha]
  by_cases h : fv a = 0
  · rw [decide_eq_true h]; rfl
  · rw [decide_eq_false h, mul_finv h, decide_eq_true rfl]; rfl
theorem fivT_true {p q : K32} (hp : p.wf) (hq : q.wf) : fivT concFOps p q (fromS p) (fromS q) = some (.bool true) := by
  have ha := from_ok hp
  have hb := from_ok hq
  have e : fivT concFOps p q (fromS p) (fromS q) = orF [!(livesS p), !(livesS q)] (some (.bool false)) (bif !(isZeroS (fromS p) == keyEq (belowS p) zeroK) then some (.bool false) else
    bif isZeroS (fromS p) then (bif !(isZeroS (mulS (fromS p) (fromS q)) == true) then some (.bool false) else fivB concFOps (fromS p)) else (bif !(isZeroS (mulS (fromS p) (fromS q)) == isZeroS (fromS q)) then some (.bool false) else fivB concFOps (fromS p))) := by kernel_rfl
  rw [e, lives_true hp, lives_true hq, below_zero hp, isZeroS_fv ha, isZeroS_fv (mul_ok ha hb), isZeroS_fv hb, fv_mul ha hb, fivB_true ha]
  by_cases h : fv (fromS p) = 0
  · rw [decide_eq_true h, h, decide_eq_true (show (0 : Fp) * fv (fromS q) = 0 by grind)]; rfl
  · rw [decide_eq_false h]
    by_cases h' : fv (fromS q) = 0
    · rw [decide_eq_true h', h', decide_eq_true (show fv (fromS p) * 0 = 0 by grind)]; rfl
    · rw [decide_eq_false h', decide_eq_false (fp_mul_ne h h')]; rfl
set_option maxRecDepth 100000 in
theorem fieldInverse_lifted (os : Os) (started : os.Started) (H : Type) (enc : TypeId × Value → H) :
    ReturnsInHanded {} Try.checked os 9 .any (Rows.fieldInverseSpec.pre6 enc Try.prog Try.f9 Rows.fieldInverseRow.domain false) (Rows.fieldInverseSpec.post enc Try.prog Try.f9 false true false false) := by
  refine law_lifted (C := Try.checked) (tb := 4) (by kernel_rfl) started (by kernel_rfl) Try.func9
    (ChangeSpec.witness6 (enc := enc) (C := Try.checked) false ⟨#[], #[.agg #[.int .u8 0, .int .u8 0, .int .u8 0, .int .u8 0, .int .u8 0, .int .u8 0, .int .u8 0, .int .u8 0, .int .u8 0, .int .u8 0, .int .u8 0, .int .u8 0, .int .u8 0, .int .u8 0, .int .u8 0, .int .u8 0, .int .u8 0, .int .u8 0, .int .u8 0, .int .u8 0, .int .u8 0, .int .u8 0, .int .u8 0, .int .u8 0, .int .u8 0, .int .u8 0, .int .u8 0, .int .u8 0, .int .u8 0, .int .u8 0, .int .u8 0, .int .u8 0], .agg #[.int .u8 0, .int .u8 0, .int .u8 0, .int .u8 0, .int .u8 0, .int .u8 0, .int .u8 0, .int .u8 0, .int .u8 0, .int .u8 0, .int .u8 0, .int .u8 0, .int .u8 0, .int .u8 0, .int .u8 0, .int .u8 0, .int .u8 0, .int .u8 0, .int .u8 0, .int .u8 0, .int .u8 0, .int .u8 0, .int .u8 0, .int .u8 0, .int .u8 0, .int .u8 0, .int .u8 0, .int .u8 0, .int .u8 0, .int .u8 0, .int .u8 0, .int .u8 0]], []⟩ 8 (by kernel_rfl) (by kernel_rfl) (by kernel_rfl) (by kernel_rfl)) rfl ?_ (by kernel_rfl) (by kernel_rfl) (by kernel_rfl) (by kernel_rfl) ?_
  · intro ds h
    match ds, h with | [d0, d1], _ => rfl
  · intro W base args ds p hval hsz hA hlt hw
    obtain ⟨args⟩ := args
    match args, hsz, hval with
    | [a0, a1], hsz, hval =>
      obtain ⟨p, wp, rp⟩ := argKey (t := 23) (by kernel_rfl) (hval 0 _ a0 (by kernel_rfl) rfl)
      obtain ⟨q, wq, rq⟩ := argKey (t := 23) (by kernel_rfl) (hval 1 _ a1 (by kernel_rfl) rfl)
      exact law_run XH_ok Try.func9 (by kernel_rfl) ((lawFI_run concFOps p q).trans (fivT_true wp wq)) (.cons _ _ _ _ (rp _) (.cons _ _ _ _ (rq _) .nil))
theorem fieldInverse_facts : joinedFacts Try.pinned.checked.prog 9 Try.f9 Rows.fieldInverseSpec Rows.fieldInverseRow = true := by
  show joinedFacts Try.prog 9 Try.f9 Rows.fieldInverseSpec Rows.fieldInverseRow = true
  unfold joinedFacts
  rw [liftsF, heardF, enterF, makeF]
  kernel_rfl
theorem fieldInverse_holds : Rows.FieldInverseSaid :=
  OpenClaim.holds_of_wide 9 Try.f9 rfl rfl rfl rfl rfl rfl rfl ⟨rfl, rfl, rfl, rfl, rfl⟩ rfl rfl rfl rfl rfl (by kernel_rfl) Try.func9 fieldInverse_facts
    (of_decide_eq_true (by kernel_rfl)) (by unfold Func.isWrapper; first | (rw [if_pos (by decide +kernel)]; kernel_rfl) | (rw [if_neg (by decide +kernel)]; exact ⟨rfl, rfl⟩))
    (fun os started H enc _ => fieldInverse_lifted os started H enc)
#print axioms fieldInverse_holds
end Go.Proofs.Ytccmlapcijjmpaa

