/- A point with a number; its multiples. -/
import Derived.Test.YtfajgpjpabeafaaCd2
namespace Go.Proofs.Ytfajgpjpabeafaa
open Go Pw Go.RowKit
/-- (0, -1) -/
def tP (C : LC) : EP C.E := ⟨0, -1, by rw [Fin.mul_zero, Fin.mul_zero, Fin.zero_mul, Fin.zero_mul]; decide +kernel⟩
theorem aff_t (C : LC) (f A : Fp) : AffR C f A 0 0 (tP C) := by
  refine ⟨?_, ?_, ?_⟩
  · show (0 : Fp) * (1 - -1) = C.s * (1 + -1)
    rw [show (1 : Fp) + -1 = 0 by decide +kernel, Fin.mul_zero, Fin.zero_mul]
  · exact Fin.zero_mul _
  · simp only [Fin.mul_zero, Fin.add_zero]
theorem atW_conc (u : L4) : atW concFOps u = mulR u (addR (addR (mulR u u) (mulR (smallR 486662) u)) (smallR 1)) := by kernel_rfl
theorem at_conc (u : L4) : atO concFOps u = bif rrootB concFOps (mulR u (addR (addR (mulR u u) (mulR (smallR 486662) u)) (smallR 1))) then ⟨smallR 1, u, rrootO concFOps (mulR u (addR (addR (mulR u u) (mulR (smallR 486662) u)) (smallR 1))), smallR 1, false⟩
    else ⟨smallR 2, u, rrootO concFOps (mulR (mulR u (addR (addR (mulR u u) (mulR (smallR 486662) u)) (smallR 1))) (rinvO concFOps (smallR 2))), smallR 1, false⟩ := by kernel_rfl
theorem wF_at {x : Fp} : x * (x * x + 486662 * x + 1) = wF x := by unfold wF; grind
theorem c1_s {x : Fp} (hx : x ≠ 0) (h : isSq (wF x)) : x + C1.s ≠ 0 := by
  intro h0
  have e : x = -1 := by
    have : x + 1 = 0 := h0
    clear h h0 hx; grind
  subst e
  obtain ⟨v, hv⟩ := h
  refine nsq_486660 ⟨v, ?_⟩
  rw [hv]; decide +kernel
theorem c2_s {x : Fp} (h : ¬ isSq (wF x)) : x + C2.s ≠ 0 := by
  intro h0
  have e : x = 1 := by
    have : x + -1 = 0 := h0
    clear h h0; grind
  subst e
  refine h ⟨48802004052532134862652268456126542835229456083994414501085850622543968879637, ?_⟩
  decide +kernel
/-- what a number's point is: on the curve or on its twist -/
theorem at_pt {u : L4} (hu : ok4 u) : (∃ P : EP C1.E, RPt C1 1 (atO concFOps u) P ∧ IsU C1 (rv u) P) ∨ ∃ P : EP C2.E, RPt C2 2 (atO concFOps u) P ∧ IsU C2 (rv u) P := by
  have o1 : ok4 (smallR 1) := rsmall_ok (by decide)
  have o2 : ok4 (smallR 2) := rsmall_ok (by decide)
  have a1 := rmul_ok hu hu
  have a2 := rmul_ok mid_ok hu
  have a3 := radd_ok (radd_ok a1 a2) o1
  have w := rmul_ok hu a3
  have hw : rv (mulR u (addR (addR (mulR u u) (mulR (smallR 486662) u)) (smallR 1))) = wF (rv u) := by
    rw [rv_mul hu a3, rv_add (radd_ok a1 a2) o1, rv_add a1 a2, rv_mul hu hu, rv_mul mid_ok hu, mid_rv, one_rv, wF_at]
  rw [at_conc, rrootB_rv w, hw]
  cases hr : hasRoot (wF (rv u)) with
  | true =>
    left
    rw [cond_true]
    have hsq := (hasRoot_iff _).1 hr
    obtain ⟨r1, r2⟩ := rrootO_rv w
    rw [hw] at r2
    have hv := rootF_sq hsq
    have ex : ∃ P : EP C1.E, AffR C1 1 AA (rv u) (rootF (wF (rv u))) P := by
      by_cases h0 : rv u = 0
      · rw [h0, wF_zero, rootF_zero]
        exact ⟨_, aff_t C1 1 AA⟩
      · have hon : (1 : Fp) * rootF (wF (rv u)) * rootF (wF (rv u)) = rv u * rv u * rv u + AA * rv u * rv u + rv u := by rw [Fin.one_mul, hv]; rfl
        have hv0 : rootF (wF (rv u)) ≠ 0 := by
          intro h
          rw [h, Fin.mul_zero] at hv
          exact wF_ne h0 hv.symm
        obtain ⟨P, hP, hx⟩ := mk_point FA1.h1 FA1.h2 hon fp_one_ne hv0 (c1_s h0 hsq)
        exact ⟨P, hP, by rw [Fin.mul_comm]; exact hx, hon⟩
    obtain ⟨P, hP⟩ := ex
    exact ⟨P, RPt.mk3 o1 hu r1 o1 one_rv (by rw [one_rv]; exact fp_one_ne) hP (by rw [one_rv, Fin.mul_one]) (by rw [one_rv, Fin.mul_one, r2]), hP.hu⟩
  | false =>
    right
    rw [cond_false]
    have hsq : ¬ isSq (wF (rv u)) := fun h => by rw [(hasRoot_iff _).2 h] at hr; cases hr
    obtain ⟨i1, i2⟩ := rinv_rv o2
    have w2 := rmul_ok w i1
    obtain ⟨r1, r2⟩ := rrootO_rv w2
    rw [rv_mul w i1, hw, i2, two_rv] at r2
    have hi : ¬ isSq (finv 2 : Fp) := fun hh => two_not_sq (by have := isSq_inv hh; rwa [finv_finv] at this)
    have hv := rootF_sq (not_sq_mul hsq hi)
    have h0 : rv u ≠ 0 := fun h => hsq (by rw [h, wF_zero]; exact isSq_zero)
    have hon : (2 : Fp) * rootF (wF (rv u) * finv 2) * rootF (wF (rv u) * finv 2) = rv u * rv u * rv u + AA * rv u * rv u + rv u := by
      have e : (2 : Fp) * (rootF (wF (rv u) * finv 2) * rootF (wF (rv u) * finv 2)) = wF (rv u) := by
        rw [hv]
        have i2 := two_inv
        generalize wF (rv u) = w at *
        generalize finv (2 : Fp) = i at *
        clear hv r1 r2 w2 hi hsq h0 hw
        grind
      rw [← fassoc', e]; rfl
    have hv0 : rootF (wF (rv u) * finv 2) ≠ 0 := by
      intro h
      rw [h, Fin.mul_zero] at hon
      exact wF_ne h0 hon.symm
    obtain ⟨P, hP, hx⟩ := mk_point FA2.h1 FA2.h2 hon fp_two_ne hv0 (c2_s hsq)
    have hA : AffR C2 2 AA (rv u) (rootF (wF (rv u) * finv 2)) P := ⟨hP, by rw [Fin.mul_comm]; exact hx, hon⟩
    exact ⟨P, RPt.mk3 o2 hu r1 o1 two_rv (by rw [one_rv]; exact fp_one_ne) hA (by rw [one_rv, Fin.mul_one]) (by rw [one_rv, Fin.mul_one, r2]), hP⟩
variable {C : LC} {f : Fp}
theorem dbl_two {E : EC} (P : EP E) (m : Nat) : (P.mul m).add (P.mul m) = P.mul (2 * m) := by rw [← EP.mul_add]; congr 1; omega
def numC (bit : Nat → Bool) : Nat → Nat
  | 0 => 0
  | i + 1 => 2 * numC bit i + (bif bit (255 - i) then 1 else 0)
theorem numC_testBit {n : Nat} (hn : n < 2 ^ 256) : ∀ i, i ≤ 256 → numC n.testBit i = n / 2 ^ (256 - i)
  | 0, _ => by rw [numC, Nat.sub_zero, Nat.div_eq_of_lt hn]
  | i + 1, hi => by
    rw [numC, numC_testBit hn i (by omega), show 256 - i = (255 - i) + 1 by omega, Nat.pow_succ, ← Nat.div_div_eq_div_mul, show 256 - (i + 1) = 255 - i by omega, Nat.testBit_eq_decide_div_mod_eq]
    generalize n / 2 ^ (255 - i) = y
    rcases Nat.mod_two_eq_zero_or_one y with h | h
    · rw [h]; simp only [Nat.zero_ne_one, decide_false, cond_false]; omega
    · rw [h]; simp only [decide_true, cond_true]; omega
theorem numC_all {n : Nat} (hn : n < 2 ^ 256) : numC n.testBit 256 = n := by
  rw [numC_testBit hn 256 (Nat.le_refl _), Nat.sub_self, Nat.pow_zero, Nat.div_one]
theorem mu_pt (hF : FA C f AA) {k : K32} (hk : k.wf) {p r : Cpt} {P : EP C.E} (hp : RPt C f p P) (hr : RPt C f r (EP.zero C.E)) : ∀ i, RPt C f (muD concFOps k p r i) (P.mul (numC (leVal k).testBit i))
  | 0 => by rw [show numC (leVal k).testBit 0 = 0 from rfl, EP.mul_zero]; exact hr
  | i + 1 => by
    have ih := mu_pt hF hk hp hr i
    have h2 := ih.plus hF ih
    rw [dbl_two] at h2
    rw [show muD concFOps k p r (i + 1) = bif rkbit k (255 - i) then plusO concFOps (twO concFOps (muD concFOps k p r i)) p else twO concFOps (muD concFOps k p r i) from rfl, rkbit_test hk, numC]
    cases (leVal k).testBit (255 - i)
    · exact h2
    · rw [cond_true, cond_true, EP.mul_succ]
      exact h2.plus hF hp
theorem numO_conc (p : Cpt) : numO concFOps p = bif p.none then zeroK else bytesR4 (mulR p.x (rinvO concFOps p.z)) := by kernel_rfl
theorem zi_id {u z i : Fp} (h : z * i = 1) : u * z * i = u := by grind
theorem num_pt {p : Cpt} {Q : EP C.E} (h : RPt C f p Q) : (numO concFOps p).wf ∧ leVal (numO concFOps p) = (uOf C Q).val := by
  rw [numO_conc]
  rcases h.pt with ⟨h1, rfl⟩ | ⟨h1, z0, u, v, hA, hx, hy⟩
  · rw [h1, cond_true, uOf_O]
    exact ⟨zeroK_wf, rfl⟩
  · rw [h1, cond_false]
    obtain ⟨i1, i2⟩ := rinv_rv h.oz
    refine ⟨bytesR_wf _, ?_⟩
    rw [rbytes_val (rmul_ok h.ox i1), rv_mul h.ox i1, i2, hx, ← isU_u hA.hu, zi_id (mul_finv z0)]
theorem lt256 {k : K32} (hk : k.wf) : leVal k < 2 ^ 256 := by
  have h := (leL_max k.toList hk).1
  have e : (256 : Nat) ^ 32 = 2 ^ 256 := by decide +kernel
  rw [show k.toList.length = 32 from rfl, e] at h
  exact h
/-- the law of chord and tangent gives what the ladder gives -/
theorem mu_scale {k u : K32} (hk : k.wf) (hu : u.wf) : numO concFOps (muD concFOps (clampS k) (atO concFOps (fromR u)) (goneC (atO concFOps (fromR u)).f) 256) = scaleO concFOps k u := by
  obtain ⟨w1, v1⟩ := scale_val hk hu
  obtain ⟨l1, l2, l3⟩ := scalar_lt hk
  have hc : (clampS k).wf := clampS_wf hk
  have hs : leVal (clampS k) = scalarK k := by unfold scalarK; rw [clamp_eq hk]
  have hr : rv (fromR u) = numK u := rv_from hu
  have fin : ∀ {C : LC} {f : Fp} (_ : FA C f AA) {P : EP C.E} (_ : RPt C f (atO concFOps (fromR u)) P) (_ : IsU C (rv (fromR u)) P), numO concFOps (muD concFOps (clampS k) (atO concFOps (fromR u)) (goneC (atO concFOps (fromR u)).f) 256) = scaleO concFOps k u := by
    intro C f hF P hP hU
    have hm := mu_pt hF hc hP (gone_pt hP.of hP.hf) 256
    rw [numC_all (lt256 hc), hs] at hm
    obtain ⟨w2, v2⟩ := num_pt hm
    refine leVal_inj w2 w1 ?_
    rw [v1, v2, ← hr, isU_u hU, scale_of_u l1 (by omega)]
  rcases at_pt (rfrom_ok hu) with ⟨P, h1, h2⟩ | ⟨P, h1, h2⟩
  · exact fin FA1 h1 h2
  · exact fin FA2 h1 h2
end Go.Proofs.Ytfajgpjpabeafaa

