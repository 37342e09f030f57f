/- The law FieldSquares: squares and their roots; half of all numbers that are not 0 are none: it answers true for every input. No conditions. -/
import Derived.Test.YtccmlapcijjmpaaFt
import Derived.Test.YtccmlapcijjmpaaFf
namespace Go.Proofs.Ytccmlapcijjmpaa
open Go Pw Go.RowKit

def fsE (o : FOps) (a b : L5) : Option AV := bif rootB o a then some (.bool true) else bif rootB o b then some (.bool true) else some (.bool (rootB o (o.mul a b)))
def fsD (o : FOps) (a b : L5) : Option AV := bif o.isZero a then (bif !(rootB o a == true) then some (.bool false) else fsE o a b) else (bif !(rootB o a == o.same (powL o a (List.take 32 (List.drop 0 halfL))) (o.small 1)) then some (.bool false) else fsE o a b)
def fsC (o : FOps) (a b : L5) : Option AV := bif !(rootB o a) then (bif !(o.isZero (rootO o a)) then some (.bool false) else fsD o a b) else fsD o a b
def fsB (o : FOps) (a b : L5) : Option AV := bif rootB o (o.small 2) then some (.bool false) else bif rootB o a then (bif !(o.same (o.sq (rootO o a)) a) then some (.bool false) else fsC o a b) else fsC o a b
def fsA (o : FOps) (a b : L5) : Option AV := orF [!(rootB o (o.sq a)), o.odd (rootO o (o.sq a)), !(o.same (o.sq (rootO o (o.sq a))) (o.sq a))] (some (.bool false)) (bif !(o.same (rootO o (o.sq a)) a) then (bif !(o.same (rootO o (o.sq a)) (o.neg a)) then some (.bool false) else fsB o a b) else fsB o a b)
def fsT (o : FOps) (p q : K32) : Option AV := orF [!(o.lives p), !(o.lives q)] (some (.bool false)) (fsA o (o.frm p) (o.frm q))
theorem lawFQ_run (o : FOps) (p : K32) (q : K32) : runQ (X_halfLaw o) [0,1,2,3,4,5,6,7,8,9,10,11,13,15,17,26,27,28,29,40,41,44,45,46,47,48,51,52,53,54,55,56,57,58,59,60,61,62,87,88,89,90,91,92,93,94,97,98,99,100,101,102,103,104,109,110,111,112,113,115,118,121] 100 Try.f11 (bodyOf Try.f11) [keyV p, keyV q] = fsT o p q := by
  kernel_rfl
abbrev XH : Cx := X_halfLaw concFOps
theorem XH_ok : CxOK Try.prog XH := X_halfLaw_ok
theorem half_bytes : ∀ b ∈ halfL, b < 256 := fun b hb => of_decide_eq_true (List.all_eq_true.1 (show List.all halfL (fun b => decide (b < 256)) = true by decide +kernel) b hb)
theorem hasRoot_false {x : Fp} (h : ¬ isSq x) : hasRoot x = false := by
  cases hc : hasRoot x with
  | false => rfl
  | true => exact absurd ((hasRoot_iff x).1 hc) h
theorem fsE_true {a b : L5} (ha : ok5 a) (hb : ok5 b) : fsE concFOps a b = some (.bool true) := by
  have e : fsE concFOps a b = bif rootB concFOps a then some (.bool true) else bif rootB concFOps b then some (.bool true) else some (.bool (rootB concFOps (mulS a b))) := by kernel_rfl
  rw [e, rootB_fv ha, rootB_fv hb, rootB_fv (mul_ok ha hb), fv_mul ha hb]
  by_cases h : isSq (fv a)
  · rw [(hasRoot_iff _).2 h]; rfl
  · by_cases h' : isSq (fv b)
    · rw [(hasRoot_iff _).2 h', hasRoot_false h]; rfl
    · rw [hasRoot_false h, hasRoot_false h', (hasRoot_iff _).2 (not_sq_mul h h')]; rfl
theorem fsD_true {a b : L5} (ha : ok5 a) (hb : ok5 b) : fsD concFOps a b = some (.bool true) := by
  obtain ⟨p1, p2⟩ := powL_fv ha half_bytes
  have o1 : ok5 (smallS 1) := small_ok (by decide)
  have e : fsD concFOps a b = bif isZeroS a then (bif !(rootB concFOps a == true) then some (.bool false) else fsE concFOps a b) else (bif !(rootB concFOps a == sameS (powL concFOps a halfL) (smallS 1)) then some (.bool false) else fsE concFOps a b) := by kernel_rfl
  rw [e, fsE_true ha hb, isZeroS_fv ha, rootB_fv ha, sameS_fv p1 o1, p2, fv_small (by decide), toF_one, show leL halfL = HH by decide +kernel]
  by_cases h : fv a = 0
  · rw [decide_eq_true h, h, (hasRoot_iff 0).2 ⟨0, by grind⟩]; rfl
  · rw [decide_eq_false h]
    by_cases h' : isSq (fv a)
    · rw [(hasRoot_iff _).2 h', decide_eq_true ((isSq_iff h).1 h')]; rfl
    · rw [hasRoot_false h', decide_eq_false (fun hh => h' ((isSq_iff h).2 hh))]; rfl
theorem fsC_true {a b : L5} (ha : ok5 a) (hb : ok5 b) : fsC concFOps a b = some (.bool true) := by
  obtain ⟨r1, r2⟩ := rootO_fv ha
  have e : fsC concFOps a b = bif !(rootB concFOps a) then (bif !(isZeroS (rootO concFOps a)) then some (.bool false) else fsD concFOps a b) else fsD concFOps a b := by kernel_rfl
  rw [e, fsD_true ha hb, rootB_fv ha, isZeroS_fv r1, r2]
  by_cases h : isSq (fv a)
  · rw [(hasRoot_iff _).2 h]; rfl
  · rw [hasRoot_false h, rootF_none h, decide_eq_true rfl]; rfl
theorem fsB_true {a b : L5} (ha : ok5 a) (hb : ok5 b) : fsB concFOps a b = some (.bool true) := by
  obtain ⟨r1, r2⟩ := rootO_fv ha
  have o2 : ok5 (smallS 2) := small_ok (by decide)
  have e : fsB concFOps a b = bif rootB concFOps (smallS 2) then some (.bool false) else bif rootB concFOps a then (bif !(sameS (sqS (rootO concFOps a)) a) then some (.bool false) else fsC concFOps a b) else fsC concFOps a b := by kernel_rfl
  rw [e, fsC_true ha hb, rootB_fv o2, fv_small (by decide), toF_two, hasRoot_false two_not_sq, rootB_fv ha, sameS_fv (sq_ok r1) ha, fv_sq r1, r2]
  by_cases h : isSq (fv a)
  · rw [(hasRoot_iff _).2 h, decide_eq_true (rootF_sq h)]; rfl
  · rw [hasRoot_false h]; rfl
theorem fsA_true {a b : L5} (ha : ok5 a) (hb : ok5 b) : fsA concFOps a b = some (.bool true) := by
  have hs := sq_ok ha
  obtain ⟨r1, r2⟩ := rootO_fv hs
  have e : fsA concFOps a b = orF [!(rootB concFOps (sqS a)), oddS (rootO concFOps (sqS a)), !(sameS (sqS (rootO concFOps (sqS a))) (sqS a))] (some (.bool false)) (bif !(sameS (rootO concFOps (sqS a)) a) then (bif !(sameS (rootO concFOps (sqS a)) (negS a)) then some (.bool false) else fsB concFOps a b) else fsB concFOps a b) := by kernel_rfl
  have hq : isSq (fv a * fv a) := ⟨fv a, rfl⟩
  have ho : decide ((rootF (fv a * fv a)).val % 2 = 1) = false := decide_eq_false (by rw [rootF_even]; decide)
  rw [e, fsB_true ha hb, rootB_fv hs, oddS_fv r1, sameS_fv (sq_ok r1) hs, sameS_fv r1 ha, sameS_fv r1 (neg_ok ha), fv_sq r1, r2, fv_sq ha, fv_neg ha, (hasRoot_iff _).2 hq, ho, decide_eq_true (rootF_sq hq)]
  by_cases h : rootF (fv a * fv a) = fv a
  · rw [decide_eq_true h]; rfl
  · rcases sq_eq (rootF_sq hq) with h1 | h1
    · exact absurd h1 h
    · rw [decide_eq_false h, decide_eq_true h1]; rfl
theorem fsT_true {p q : K32} (hp : p.wf) (hq : q.wf) : fsT concFOps p q = some (.bool true) := by
  have e : fsT concFOps p q = orF [!(livesS p), !(livesS q)] (some (.bool false)) (fsA concFOps (fromS p) (fromS q)) := by kernel_rfl
  rw [e, lives_true hp, lives_true hq, fsA_true (from_ok hp) (from_ok hq)]; rfl
set_option maxRecDepth 100000 in
theorem fieldSquares_lifted (os : Os) (started : os.Started) (H : Type) (enc : TypeId × Value → H) :
    ReturnsInHanded {} Try.checked os 11 .any (Rows.fieldSquaresSpec.pre6 enc Try.prog Try.f11 Rows.fieldSquaresRow.domain false) (Rows.fieldSquaresSpec.post enc Try.prog Try.f11 false true false false) := by
  refine law_lifted (C := Try.checked) (tb := 4) (by kernel_rfl) started (by kernel_rfl) Try.func11
    (ChangeSpec.witness6 (enc := enc) (C := Try.checked) false ⟨#[], #[.agg #[.int .u8 0, .int .u8 0, .int .u8 0, .int .u8 0, .int .u8 0, .int .u8 0, .int .u8 0, .int .u8 0, .int .u8 0, .int .u8 0, .int .u8 0, .int .u8 0, .int .u8 0, .int .u8 0, .int .u8 0, .int .u8 0, .int .u8 0, .int .u8 0, .int .u8 0, .int .u8 0, .int .u8 0, .int .u8 0, .int .u8 0, .int .u8 0, .int .u8 0, .int .u8 0, .int .u8 0, .int .u8 0, .int .u8 0, .int .u8 0, .int .u8 0, .int .u8 0], .agg #[.int .u8 0, .int .u8 0, .int .u8 0, .int .u8 0, .int .u8 0, .int .u8 0, .int .u8 0, .int .u8 0, .int .u8 0, .int .u8 0, .int .u8 0, .int .u8 0, .int .u8 0, .int .u8 0, .int .u8 0, .int .u8 0, .int .u8 0, .int .u8 0, .int .u8 0, .int .u8 0, .int .u8 0, .int .u8 0, .int .u8 0, .int .u8 0, .int .u8 0, .int .u8 0, .int .u8 0, .int .u8 0, .int .u8 0, .int .u8 0, .int .u8 0, .int .u8 0]], []⟩ 8 (by kernel_rfl) (by kernel_rfl) (by kernel_rfl) (by kernel_rfl)) rfl ?_ (by kernel_rfl) (by kernel_rfl) (by kernel_rfl) (by kernel_rfl) ?_
  · intro ds h
    match ds, h with | [d0, d1], _ => rfl
  · intro W base args ds p hval hsz hA hlt hw
    obtain ⟨args⟩ := args
    match args, hsz, hval with
    | [a0, a1], hsz, hval =>
      obtain ⟨p, wp, rp⟩ := argKey (t := 23) (by kernel_rfl) (hval 0 _ a0 (by kernel_rfl) rfl)
      obtain ⟨q, wq, rq⟩ := argKey (t := 23) (by kernel_rfl) (hval 1 _ a1 (by kernel_rfl) rfl)
      exact law_run XH_ok Try.func11 (by kernel_rfl) ((lawFQ_run concFOps p q).trans (fsT_true wp wq)) (.cons _ _ _ _ (rp _) (.cons _ _ _ _ (rq _) .nil))
theorem fieldSquares_facts : joinedFacts Try.pinned.checked.prog 11 Try.f11 Rows.fieldSquaresSpec Rows.fieldSquaresRow = true := by
  show joinedFacts Try.prog 11 Try.f11 Rows.fieldSquaresSpec Rows.fieldSquaresRow = true
  unfold joinedFacts
  rw [liftsF, heardF, enterF, makeF]
  kernel_rfl
theorem fieldSquares_holds : Rows.FieldSquaresSaid :=
  OpenClaim.holds_of_wide 11 Try.f11 rfl rfl rfl rfl rfl rfl rfl ⟨rfl, rfl, rfl, rfl, rfl⟩ rfl rfl rfl rfl rfl (by kernel_rfl) Try.func11 fieldSquares_facts
    (of_decide_eq_true (by kernel_rfl)) (by unfold Func.isWrapper; first | (rw [if_pos (by decide +kernel)]; kernel_rfl) | (rw [if_neg (by decide +kernel)]; exact ⟨rfl, rfl⟩))
    (fun os started H enc _ => fieldSquares_lifted os started H enc)
#print axioms fieldSquares_holds
end Go.Proofs.Ytccmlapcijjmpaa

