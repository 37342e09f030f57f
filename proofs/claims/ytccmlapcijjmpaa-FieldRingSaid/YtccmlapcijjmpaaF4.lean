/- The law FieldRing: the laws of sums and products: it answers true for every input. No conditions. -/
import Derived.Test.YtccmlapcijjmpaaFt
import Derived.Test.YtccmlapcijjmpaaFg
namespace Go.Proofs.Ytccmlapcijjmpaa
open Go Pw Go.RowKit

def frL1 (p q s : K32) : List Bool := [!(livesS p), !(livesS q), !(livesS s)]
def frL2 (a b c : L5) : List Bool := [!(sameS (addS a b) (addS b a)), !(sameS (mulS a b) (mulS b a)), !(sameS (addS (addS a b) c) (addS a (addS b c)))]
def frL3 (a b c : L5) : List Bool := [!(sameS (mulS (mulS a b) c) (mulS a (mulS b c))), !(sameS (mulS a (addS b c)) (addS (mulS a b) (mulS a c)))]
def frL4 (a b : L5) : List Bool := [!(sameS (subS a b) (addS a (negS b))), !(isZeroS (addS a (negS a))), !(sameS (sqS a) (mulS a a))]
def frL5 (a : L5) : List Bool := [sameS (mulS a (smallS 1)) a, sameS (addS a zero5) a, isZeroS (mulS a zero5), sameS (timesS a 3) (addS (addS a a) a)]
def frT (p q s : K32) (a b c : L5) : Option AV := orF (frL1 p q s) (some (.bool false)) (orF (frL2 a b c) (some (.bool false)) (orF (frL3 a b c) (some (.bool false)) (orF (frL4 a b) (some (.bool false)) (andR (frL5 a)))))
def frO1 (o : FOps) (p q s : K32) : List Bool := [!(o.lives p), !(o.lives q), !(o.lives s)]
def frO2 (o : FOps) (a b c : L5) : List Bool := [!(o.same (o.add a b) (o.add b a)), !(o.same (o.mul a b) (o.mul b a)), !(o.same (o.add (o.add a b) c) (o.add a (o.add b c)))]
def frO3 (o : FOps) (a b c : L5) : List Bool := [!(o.same (o.mul (o.mul a b) c) (o.mul a (o.mul b c))), !(o.same (o.mul a (o.add b c)) (o.add (o.mul a b) (o.mul a c)))]
def frO4 (o : FOps) (a b : L5) : List Bool := [!(o.same (o.sub a b) (o.add a (o.neg b))), !(o.isZero (o.add a (o.neg a))), !(o.same (o.sq a) (o.mul a a))]
def frO5 (o : FOps) (a : L5) : List Bool := [o.same (o.mul a (o.small 1)) a, o.same (o.add a zero5) a, o.isZero (o.mul a zero5), o.same (o.times a 3) (o.add (o.add a a) a)]
def frTo (o : FOps) (p q s : K32) (a b c : L5) : Option AV := orF (frO1 o p q s) (some (.bool false)) (orF (frO2 o a b c) (some (.bool false)) (orF (frO3 o a b c) (some (.bool false)) (orF (frO4 o a b) (some (.bool false)) (andR (frO5 o a)))))
theorem frTo_conc (p q s : K32) (a b c : L5) : frTo concFOps p q s a b c = frT p q s a b c := rfl
theorem lawFR_run (o : FOps) (p : K32) (q : K32) (s : K32) : runQ (XFOps o) [0,1,2,3,4,5,6,7,8,9,10,11,24,25,26,29,30,31,32,42,43,44,45,46,47,48,49,52,53,54,55,56,57,58,59,60,61,62,63,64,78,79,80,81,82,83,84,85,86,87,88,89,90,91,92,103,104,105,106,107,108,111,112,113,114,115,116,117,118,125,126,127,128,129,132,133,134,135,138,139,140,141,142,143,144,145] 100 Try.f6 (bodyOf Try.f6) [keyV p, keyV q, keyV s] = frTo o p q s (o.frm p) (o.frm q) (o.frm s) := by
  kernel_rfl
theorem toF3 : toF 3 = (1 + 1 + 1 : Fp) := by decide +kernel
theorem toF1 : toF 1 = (1 : Fp) := by decide +kernel
theorem frT_true {p q s : K32} {a b c : L5} (hp : p.wf) (hq : q.wf) (hs : s.wf) (ha : ok5 a) (hb : ok5 b) (hc : ok5 c) : frT p q s a b c = some (.bool true) := by
  have o1 : ok5 (smallS 1) := small_ok (by decide)
  have z0 := zero_ok
  unfold frT
  rw [orF_none, orF_none, orF_none, orF_none, andR_true]
  · unfold frL5
    rw [same_true (mul_ok ha o1) ha (by rw [fv_mul ha o1, fv_small (by decide), toF1]; grind),
      same_true (add_ok ha z0) ha (by rw [fv_add ha z0, fv_zero]; grind),
      isZeroS_fv (mul_ok ha z0), fv_mul ha z0, fv_zero, decide_eq_true (show fv a * 0 = 0 by grind),
      same_true (times_ok ha (by decide)) (add_ok (add_ok ha ha) ha) (by rw [fv_times ha (by decide), fv_add (add_ok ha ha) ha, fv_add ha ha, toF3]; grind)]
    simp
  · unfold frL4
    rw [same_true (sub_ok ha hb) (add_ok ha (neg_ok hb)) (by rw [fv_sub ha hb, fv_add ha (neg_ok hb), fv_neg hb]; grind),
      isZeroS_fv (add_ok ha (neg_ok ha)), fv_add ha (neg_ok ha), fv_neg ha, decide_eq_true (show fv a + - fv a = 0 by grind),
      same_true (sq_ok ha) (mul_ok ha ha) (by rw [fv_sq ha, fv_mul ha ha])]
    simp
  · unfold frL3
    rw [same_true (mul_ok (mul_ok ha hb) hc) (mul_ok ha (mul_ok hb hc)) (by rw [fv_mul (mul_ok ha hb) hc, fv_mul ha hb, fv_mul ha (mul_ok hb hc), fv_mul hb hc]; grind),
      same_true (mul_ok ha (add_ok hb hc)) (add_ok (mul_ok ha hb) (mul_ok ha hc)) (by rw [fv_mul ha (add_ok hb hc), fv_add hb hc, fv_add (mul_ok ha hb) (mul_ok ha hc), fv_mul ha hb, fv_mul ha hc]; grind)]
    simp
  · unfold frL2
    rw [same_true (add_ok ha hb) (add_ok hb ha) (by rw [fv_add ha hb, fv_add hb ha]; grind),
      same_true (mul_ok ha hb) (mul_ok hb ha) (by rw [fv_mul ha hb, fv_mul hb ha]; grind),
      same_true (add_ok (add_ok ha hb) hc) (add_ok ha (add_ok hb hc)) (by rw [fv_add (add_ok ha hb) hc, fv_add ha hb, fv_add ha (add_ok hb hc), fv_add hb hc]; grind)]
    simp
  · unfold frL1
    rw [lives_true hp, lives_true hq, lives_true hs]
    simp
set_option maxRecDepth 100000 in
theorem fieldRing_lifted (os : Os) (started : os.Started) (H : Type) (enc : TypeId × Value → H) :
    ReturnsInHanded {} Try.checked os 6 .any (Rows.fieldRingSpec.pre6 enc Try.prog Try.f6 Rows.fieldRingRow.domain false) (Rows.fieldRingSpec.post enc Try.prog Try.f6 false true false false) := by
  refine law_lifted (C := Try.checked) (tb := 4) (by kernel_rfl) started (by kernel_rfl) Try.func6
    (ChangeSpec.witness6 (enc := enc) (C := Try.checked) false ⟨#[], #[.agg #[.int .u8 0, .int .u8 0, .int .u8 0, .int .u8 0, .int .u8 0, .int .u8 0, .int .u8 0, .int .u8 0, .int .u8 0, .int .u8 0, .int .u8 0, .int .u8 0, .int .u8 0, .int .u8 0, .int .u8 0, .int .u8 0, .int .u8 0, .int .u8 0, .int .u8 0, .int .u8 0, .int .u8 0, .int .u8 0, .int .u8 0, .int .u8 0, .int .u8 0, .int .u8 0, .int .u8 0, .int .u8 0, .int .u8 0, .int .u8 0, .int .u8 0, .int .u8 0], .agg #[.int .u8 0, .int .u8 0, .int .u8 0, .int .u8 0, .int .u8 0, .int .u8 0, .int .u8 0, .int .u8 0, .int .u8 0, .int .u8 0, .int .u8 0, .int .u8 0, .int .u8 0, .int .u8 0, .int .u8 0, .int .u8 0, .int .u8 0, .int .u8 0, .int .u8 0, .int .u8 0, .int .u8 0, .int .u8 0, .int .u8 0, .int .u8 0, .int .u8 0, .int .u8 0, .int .u8 0, .int .u8 0, .int .u8 0, .int .u8 0, .int .u8 0, .int .u8 0], .agg #[.int .u8 0, .int .u8 0, .int .u8 0, .int .u8 0, .int .u8 0, .int .u8 0, .int .u8 0, .int .u8 0, .int .u8 0, .int .u8 0, .int .u8 0, .int .u8 0, .int .u8 0, .int .u8 0, .int .u8 0, .int .u8 0, .int .u8 0, .int .u8 0, .int .u8 0, .int .u8 0, .int .u8 0, .int .u8 0, .int .u8 0, .int .u8 0, .int .u8 0, .int .u8 0, .int .u8 0, .int .u8 0, .int .u8 0, .int .u8 0, .int .u8 0, .int .u8 0]], []⟩ 8 (by kernel_rfl) (by kernel_rfl) (by kernel_rfl) (by kernel_rfl)) rfl ?_ (by kernel_rfl) (by kernel_rfl) (by kernel_rfl) (by kernel_rfl) ?_
  · intro ds h
    match ds, h with | [d0, d1, d2], _ => rfl
  · intro W base args ds p hval hsz hA hlt hw
    obtain ⟨args⟩ := args
    match args, hsz, hval with
    | [a0, a1, a2], hsz, hval =>
      obtain ⟨p, wp, rp⟩ := argKey (t := 23) (by kernel_rfl) (hval 0 _ a0 (by kernel_rfl) rfl)
      obtain ⟨q, wq, rq⟩ := argKey (t := 23) (by kernel_rfl) (hval 1 _ a1 (by kernel_rfl) rfl)
      obtain ⟨s, ws, rs⟩ := argKey (t := 23) (by kernel_rfl) (hval 2 _ a2 (by kernel_rfl) rfl)
      exact law_run XFOpsc_ok Try.func6 (by kernel_rfl) ((lawFR_run concFOps p q s).trans ((frTo_conc _ _ _ _ _ _).trans (frT_true wp wq ws (from_ok wp) (from_ok wq) (from_ok ws)))) (.cons _ _ _ _ (rp _) (.cons _ _ _ _ (rq _) (.cons _ _ _ _ (rs _) .nil)))
theorem fieldRing_facts : joinedFacts Try.pinned.checked.prog 6 Try.f6 Rows.fieldRingSpec Rows.fieldRingRow = true := by
  show joinedFacts Try.prog 6 Try.f6 Rows.fieldRingSpec Rows.fieldRingRow = true
  unfold joinedFacts
  rw [liftsF, heardF, enterF, makeF]
  kernel_rfl
theorem fieldRing_holds : Rows.FieldRingSaid :=
  OpenClaim.holds_of_wide 6 Try.f6 rfl rfl rfl rfl rfl rfl rfl ⟨rfl, rfl, rfl, rfl, rfl⟩ rfl rfl rfl rfl rfl (by kernel_rfl) Try.func6 fieldRing_facts
    (of_decide_eq_true (by kernel_rfl)) (by unfold Func.isWrapper; first | (rw [if_pos (by decide +kernel)]; kernel_rfl) | (rw [if_neg (by decide +kernel)]; exact ⟨rfl, rfl⟩))
    (fun os started H enc _ => fieldRing_lifted os started H enc)
#print axioms fieldRing_holds

end Go.Proofs.Ytccmlapcijjmpaa

