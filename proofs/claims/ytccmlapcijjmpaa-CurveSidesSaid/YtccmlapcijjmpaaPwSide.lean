/- A part of the proof: PwSide. -/
import Derived.Test.YtccmlapcijjmpaaPwMf
namespace Pw

variable {C : LC}

/-! ### whose numbers are whose -/

theorem side_id1 {u s Y : Fp} (hs : s * s = 1) (hu : u * (1 - Y) = s * (1 + Y)) (h1 : 1 - Y ≠ 0) : 2 * s * u * (1 + Y * Y) = (u * u + 1) * (1 - Y * Y) := by
  have e1 : (1 - Y) * (2 * s * u * (1 + Y * Y)) = 2 * s * (u * (1 - Y)) * (1 + Y * Y) := by clear hs hu h1; grind
  have e2 : (1 - Y) * ((u * u + 1) * (1 - Y * Y)) = ((u * (1 - Y)) * (u * (1 - Y)) + (1 - Y) * (1 - Y)) * (1 + Y) := by clear hs hu h1 e1; grind
  refine fp_cancel h1 ?_
  rw [e1, e2, hu]
  clear hu h1 e1 e2
  grind
theorem side_id2 {a d f s A x Y u v : Fp} (on : a * x * x + Y * Y = 1 + d * x * x * Y * Y) (hf1 : f * a = A + 2 * s) (hf2 : f * d = A - 2 * s) (hv : v * x = u) (k : 2 * s * u * (1 + Y * Y) = (u * u + 1) * (1 - Y * Y)) :
    (x * x * (1 - Y * Y)) * (f * v * v) = (x * x * (1 - Y * Y)) * (u * u * u + A * u * u + u) := by
  have e1 : (x * x * (1 - Y * Y)) * (f * v * v) = f * ((v * x) * (v * x)) * (1 - Y * Y) := by clear on hf1 hf2 hv k; grind
  have e2 : f * (1 - Y * Y) = x * x * (f * a - f * d * (Y * Y)) := by clear hf1 hf2 hv k e1; grind
  have e3 : f * (u * u) * (1 - Y * Y) = u * u * (f * (1 - Y * Y)) := by clear on hf1 hf2 hv k e1 e2; grind
  rw [e1, hv, e3, e2, hf1, hf2]
  have e4 : u * u * (x * x * (A + 2 * s - (A - 2 * s) * (Y * Y))) = x * x * u * (A * u * (1 - Y * Y) + 2 * s * u * (1 + Y * Y)) := by clear on hf1 hf2 hv k e1 e2 e3; grind
  rw [e4, k]
  clear on hf1 hf2 hv k e1 e2 e3 e4
  grind
theorem side_pt {f A : Fp} (hf1 : f * C.E.a = A + 2 * C.s) (hf2 : f * C.E.d = A - 2 * C.s) {Q : EP C.E} (hu : uOf C Q ≠ 0) :
    ∃ v, f * v * v = uOf C Q * uOf C Q * uOf C Q + A * uOf C Q * uOf C Q + uOf C Q := by
  have h1 : 1 - Q.y ≠ 0 := fun h => hu (uOf_zero h)
  have hI := uOf_isU h1
  unfold IsU at hI
  have hx : Q.x ≠ 0 := by
    intro h0
    have on := Q.on
    have hx2 : Q.x * Q.x = 0 := by rw [h0]; exact Fin.zero_mul _
    have h2 : (1 - Q.y) * (1 + Q.y) = 0 := by
      generalize C.E.a = a at *
      generalize C.E.d = d at *
      generalize Q.x = x at *
      generalize Q.y = y at *
      clear hI hu h1 h0 hf1 hf2
      grind
    rcases fp_mul_zero h2 with h3 | h3
    · exact h1 h3
    · rw [h3, Fin.mul_zero] at hI
      rcases fp_mul_zero hI with h4 | h4
      · exact hu h4
      · exact h1 h4
  have h2 : 1 + Q.y ≠ 0 := by
    intro h3
    rw [h3, Fin.mul_zero] at hI
    rcases fp_mul_zero hI with h4 | h4
    · exact hu h4
    · exact h1 h4
  have hy : 1 - Q.y * Q.y ≠ 0 := by
    have : 1 - Q.y * Q.y = (1 - Q.y) * (1 + Q.y) := by generalize Q.y = y; grind
    rw [this]; exact fp_mul_ne h1 h2
  refine ⟨uOf C Q * finv Q.x, ?_⟩
  have hv : uOf C Q * finv Q.x * Q.x = uOf C Q := mul_inv_mul hx
  exact fp_cancel (fp_mul_ne (fp_mul_ne hx hx) hy) (side_id2 Q.on hf1 hf2 hv (side_id1 C.hs hI h1))
theorem side1 {Q : EP C1.E} (hu : uOf C1 Q ≠ 0) : isSq (wF (uOf C1 Q)) := by
  obtain ⟨v, hv⟩ := side_pt (C := C1) (f := 1) (A := 486662) (by decide +kernel) (by decide +kernel) hu
  refine ⟨v, ?_⟩
  unfold wF
  rw [← hv, Fin.one_mul]
theorem side2 {Q : EP C2.E} (hu : uOf C2 Q ≠ 0) : ¬ isSq (wF (uOf C2 Q)) := by
  obtain ⟨v, hv⟩ := side_pt (C := C2) (f := 2) (A := 486662) (by decide +kernel) (by decide +kernel) hu
  have hw : wF (uOf C2 Q) = 2 * (v * v) := by
    unfold wF
    rw [← hv]; clear hv; grind
  have hv0 : v * v ≠ 0 := by
    intro h0
    have := wF_ne hu
    rw [hw, h0, Fin.mul_zero] at this
    exact this rfl
  rw [hw]
  exact not_sq_mul_sq two_not_sq ⟨v, rfl⟩ hv0
theorem wF_zero : wF 0 = 0 := by decide +kernel
theorem isSq_zero : isSq (0 : Fp) := ⟨0, Fin.zero_mul _⟩
theorem scale_side {n : Nat} (hn : n < 2 ^ 255) (he : n % 2 = 0) {u : Fp} (h0 : scaleF n.testBit u ≠ 0) : isSq (wF (scaleF n.testBit u)) ↔ isSq (wF u) := by
  have hu : u ≠ 0 := by rintro rfl; exact h0 (scale_zero _)
  by_cases h : isSq (wF u)
  · obtain ⟨P, hP⟩ := point1 hu h
    have e := scale_of_u hn he P
    rw [← isU_u hP] at e
    rw [e] at h0 ⊢
    exact ⟨fun _ => h, fun _ => side1 h0⟩
  · obtain ⟨P, hP⟩ := point2 hu h
    have e := scale_of_u hn he P
    rw [← isU_u hP] at e
    rw [e] at h0 ⊢
    exact ⟨fun hh => absurd hh (side2 h0), fun hh => absurd hh h⟩

/-! ### orders -/

theorem EP.mul_gcd {E : EC} {R : EP E} : ∀ m n, R.mul m = EP.zero E → R.mul n = EP.zero E → R.mul (Nat.gcd m n) = EP.zero E := by
  intro m n
  induction m, n using Nat.gcd.induction with
  | H0 n => intro _ h; rwa [Nat.gcd_zero_left]
  | H1 m n hm ih =>
    intro h1 h2
    rw [Nat.gcd_rec]
    refine ih ?_ h1
    rw [← Nat.div_add_mod n m, EP.mul_add, EP.mul_mul, h1, EP.zero_mul, EP.zero_add] at h2
    exact h2
theorem EP.mul_prime {E : EC} {R : EP E} {T m : Nat} (hT : Pr T) (h1 : R.mul T = EP.zero E) (h2 : R.mul m = EP.zero E) (h0 : 0 < m) (hm : m < T) : R = EP.zero E := by
  have hg := EP.mul_gcd T m h1 h2
  have hc : Nat.gcd T m = 1 := hT.coprime (fun hd => absurd (Nat.le_of_dvd h0 hd) (by omega))
  rw [hc, EP.mul_one] at hg
  exact hg
theorem uOf_zero_y {Q : EP C.E} (h : uOf C Q = 0) : Q.add Q = EP.zero C.E := by
  refine two_tors ?_
  by_cases h1 : 1 - Q.y = 0
  · have : Q.y = 1 := by grind
    rw [this]; exact Fin.mul_one _
  · have h2 := uOf_isU h1
    unfold IsU at h2
    rw [h, Fin.zero_mul] at h2
    rcases fp_mul_zero h2.symm with h4 | h4
    · exact absurd h4 C.s_ne
    · have : Q.y = -1 := by grind
      rw [this]; decide +kernel
theorem uOf_O : uOf C (EP.zero C.E) = 0 := uOf_zero Fin.sub_self

def TT : Nat := 14474011154664524427946373126085988481603263447650325797860494125407373907997
theorem TT_prime : Pr TT := prime_T
theorem two_val : (2 : Fp).val = 2 := by decide +kernel
theorem scale_two_T : scaleF (4 * TT).testBit 2 = 0 := by
  refine fp_ext ?_
  rw [← scaleN_F, two_val]
  decide +kernel
theorem scale_two_16 : scaleF (16 : Nat).testBit 2 ≠ 0 := by
  intro h
  have := congrArg Fin.val h
  rw [← scaleN_F, two_val] at this
  exact absurd this (by decide +kernel)
/-- of 2, which lies on the twist, the ladder never gives 0 -/
theorem scale_two_ne {m : Nat} (h0 : 0 < m) (hm : 8 * m < 2 ^ 255) : scaleF (8 * m).testBit 2 ≠ 0 := by
  intro h
  have hn2 : ¬ isSq (wF 2) := by
    rw [show wF 2 = toF 1946658 by decide +kernel]
    exact nsq_of (by decide +kernel) (by decide +kernel)
  obtain ⟨P, hP⟩ := point2 fp_two_ne hn2
  have e1 : uOf C2 (P.mul (8 * m)) = 0 := by rw [← numB_all hm, ← scale_u _ hP fp_two_ne, h]
  have hT4 : 4 * TT < 2 ^ 255 := by decide +kernel
  have e2 : uOf C2 (P.mul (4 * TT)) = 0 := by rw [← numB_all hT4, ← scale_u _ hP fp_two_ne, scale_two_T]
  have e3 := uOf_zero_y e1
  have e4 := uOf_zero_y e2
  rw [← EP.mul_add] at e3 e4
  have r1 : (P.mul 16).mul m = EP.zero C2.E := by rw [← EP.mul_mul, show 16 * m = 8 * m + 8 * m by omega]; exact e3
  have r2 : (P.mul 16).mul TT = EP.zero C2.E := by
    rw [← EP.mul_mul, show 16 * TT = (4 * TT + 4 * TT) * 2 by omega, EP.mul_mul, e4, EP.zero_mul]
  have hmT : m < TT := by
    have : (2 : Nat) ^ 255 ≤ 8 * TT := by decide +kernel
    omega
  have r3 := EP.mul_prime TT_prime r2 r1 h0 hmT
  refine scale_two_16 ?_
  have h16 : (16 : Nat) < 2 ^ 255 := by decide +kernel
  rw [scale_u _ hP fp_two_ne, numB_all h16, r3, uOf_O]

end Pw
