/- A part of the proof: PwFp. -/
import Derived.Test.YtccmlapcijjmpaaPwVf
import Derived.Test.YtccmlapcijjmpaaPwCert
namespace Pw

/-! ### the field of P elements -/

theorem PP_prime : Pr PP := prime_P
theorem fp_lt (x : Fp) : x.val < PP := x.isLt
theorem fp_ext {x y : Fp} (h : x.val = y.val) : x = y := Fin.ext h
theorem fp_mul_val (x y : Fp) : (x * y).val = x.val * y.val % PP := Fin.val_mul x y
theorem fp_zero_val : (0 : Fp).val = 0 := rfl
theorem fp_one_val : (1 : Fp).val = 1 := by decide +kernel
theorem fp_one_ne : (1 : Fp) ≠ 0 := by decide +kernel
theorem fp_two_ne : (2 : Fp) ≠ 0 := by decide +kernel

theorem fp_dvd {x : Fp} : PP ∣ x.val ↔ x = 0 := by
  constructor
  · intro h
    refine fp_ext ?_
    rcases Nat.eq_zero_or_pos x.val with h0 | h0
    · exact h0
    · exact absurd (Nat.le_of_dvd h0 h) (by have := fp_lt x; omega)
  · rintro rfl; exact ⟨0, rfl⟩

theorem fp_mul_zero {x y : Fp} (h : x * y = 0) : x = 0 ∨ y = 0 := by
  have h1 : x.val * y.val % PP = 0 := by rw [← fp_mul_val, h]; rfl
  rcases PP_prime.dvd_mul (Nat.dvd_of_mod_eq_zero h1) with h2 | h2
  · exact .inl (fp_dvd.1 h2)
  · exact .inr (fp_dvd.1 h2)

theorem fp_mul_ne {x y : Fp} (hx : x ≠ 0) (hy : y ≠ 0) : x * y ≠ 0 := fun h => (fp_mul_zero h).elim hx hy
theorem fp_cancel {x y z : Fp} (hx : x ≠ 0) (h : x * y = x * z) : y = z := by
  have : x * (y - z) = 0 := by grind
  rcases fp_mul_zero this with h1 | h1
  · exact absurd h1 hx
  · grind

def fpow (x : Fp) : Nat → Fp
  | 0 => 1
  | n + 1 => fpow x n * x

theorem fpow_add (x : Fp) (m : Nat) : ∀ n, fpow x (m + n) = fpow x m * fpow x n
  | 0 => by show fpow x m = fpow x m * 1; grind
  | n + 1 => by
    have h := fpow_add x m n
    rw [show m + (n + 1) = (m + n) + 1 by omega, fpow, fpow, h]; grind
theorem fpow_mul (x : Fp) (m : Nat) : ∀ n, fpow x (m * n) = fpow (fpow x m) n
  | 0 => rfl
  | n + 1 => by rw [Nat.mul_succ, fpow_add, fpow, fpow_mul x m n]
theorem mul_fpow (x y : Fp) : ∀ n, fpow (x * y) n = fpow x n * fpow y n
  | 0 => by show (1 : Fp) = 1 * 1; grind
  | n + 1 => by rw [fpow, fpow, fpow, mul_fpow x y n]; grind
theorem fpow_val (x : Fp) : ∀ n, (fpow x n).val = x.val ^ n % PP
  | 0 => by show (1 : Fp).val = _; rw [fp_one_val]; rfl
  | n + 1 => by rw [fpow, fp_mul_val, fpow_val x n, Nat.pow_succ, Nat.mul_mod, Nat.mod_mod, ← Nat.mul_mod]
theorem fpow_one (x : Fp) : fpow x 1 = x := by show 1 * x = x; grind
theorem one_fpow : ∀ n, fpow 1 n = 1
  | 0 => rfl
  | n + 1 => by rw [fpow, one_fpow n]; grind
theorem zero_fpow {n : Nat} (h : 0 < n) : fpow 0 n = 0 := by
  obtain ⟨m, rfl⟩ : ∃ m, n = m + 1 := ⟨n - 1, by omega⟩
  rw [fpow]; grind
theorem fpow_ne {x : Fp} (h : x ≠ 0) : ∀ n, fpow x n ≠ 0
  | 0 => fp_one_ne
  | n + 1 => by rw [fpow]; exact fp_mul_ne (fpow_ne h n) h

theorem fp_fermat {x : Fp} (h : x ≠ 0) : fpow x (PP - 1) = 1 := by
  refine fp_ext ?_
  rw [fpow_val, fp_one_val]
  exact PP_prime.fermat1 (fun hd => h (fp_dvd.1 hd))

/-- the inverse; of 0: 0 -/
def finv (x : Fp) : Fp := fpow x (PP - 2)
theorem mul_finv {x : Fp} (h : x ≠ 0) : x * finv x = 1 := by
  have := fp_fermat h
  rw [show PP - 1 = (PP - 2) + 1 from rfl, fpow] at this
  unfold finv; grind
theorem finv_zero : finv 0 = 0 := zero_fpow (by decide)
theorem finv_ne {x : Fp} (h : x ≠ 0) : finv x ≠ 0 := fpow_ne h _
theorem finv_finv (x : Fp) : finv (finv x) = x := by
  by_cases h : x = 0
  · subst h; rw [finv_zero, finv_zero]
  · have h1 := mul_finv h
    have h2 := mul_finv (finv_ne h)
    refine fp_cancel (finv_ne h) ?_
    rw [h2]; grind
theorem finv_mul (x y : Fp) : finv (x * y) = finv x * finv y := mul_fpow x y _
theorem finv_unique {x y : Fp} (h : x * y = 1) : y = finv x := by
  have hx : x ≠ 0 := by intro e; subst e; exact fp_one_ne (by grind)
  exact fp_cancel hx (by rw [h, mul_finv hx])
theorem finv_one : finv 1 = 1 := one_fpow _

/-! ### squares -/

def isSq (x : Fp) : Prop := ∃ t : Fp, t * t = x
/-- half of P - 1, and the k with P = 8 k + 5 -/
def HH : Nat := 28948022309329048855892746252171976963317496166410141009864396001978282409974
def KK : Nat := 7237005577332262213973186563042994240829374041602535252466099000494570602493
theorem HH_eq : PP - 1 = HH + HH := by decide +kernel
theorem KK_eq : HH = (KK + KK) + (KK + KK) + 2 := by decide +kernel

theorem sq_zero {x : Fp} (h : x * x = 0) : x = 0 := by rcases fp_mul_zero h with h | h <;> exact h
theorem sq_eq {x y : Fp} (h : x * x = y * y) : x = y ∨ x = -y := by
  have : (x - y) * (x + y) = 0 := by grind
  rcases fp_mul_zero this with h1 | h1
  · exact .inl (by grind)
  · exact .inr (by grind)

theorem half_cases {x : Fp} (h : x ≠ 0) : fpow x HH = 1 ∨ fpow x HH = -1 := by
  have h1 := fp_fermat h
  rw [HH_eq, fpow_add] at h1
  refine sq_eq (y := 1) ?_
  grind
theorem isSq.half {x : Fp} (hx : x ≠ 0) (h : isSq x) : fpow x HH = 1 := by
  obtain ⟨t, rfl⟩ := h
  have ht : t ≠ 0 := by rintro rfl; exact hx (by grind)
  rw [mul_fpow, ← fpow_add, ← HH_eq]; exact fp_fermat ht

theorem pw_of {a n r : Nat} (f : Nat) (hn : n < 2 ^ f) (h : pmGo PP f a n 1 % PP = r % PP) : fpow (toF a) n = toF r := by
  refine fp_ext ?_
  rw [fpow_val, toF_val, toF_val, ← Nat.pow_mod]
  have := pmGo_eq (n := PP) f a n 1 hn
  rw [Nat.one_mul] at this
  rw [← this, h]

theorem toF_one : toF 1 = 1 := by decide +kernel
theorem toF_two : toF 2 = 2 := by decide +kernel
theorem toF_m1 : toF (PP - 1) = -1 := by decide +kernel
theorem one_ne_m1 : (1 : Fp) ≠ -1 := by decide +kernel

theorem two_half : fpow 2 HH = -1 := by
  rw [← toF_two, ← toF_m1]
  exact pw_of 255 (by decide +kernel) (by decide +kernel)
theorem not_sq_of {x : Fp} (hx : x ≠ 0) (h : fpow x HH = -1) : ¬ isSq x := fun hs => one_ne_m1 ((hs.half hx).symm.trans h)
theorem two_not_sq : ¬ isSq 2 := not_sq_of fp_two_ne two_half

/-- a root of -1 -/
def fi : Fp := fpow 2 (KK + KK + 1)
theorem fi_sq : fi * fi = -1 := by
  rw [← two_half, KK_eq, fi, ← fpow_add]
  congr 1
theorem fi_ne : fi ≠ 0 := fpow_ne fp_two_ne _

/-- the root that is tried first -/
theorem rt_four {x : Fp} (h : fpow x HH = 1) : (fpow x (KK + 1) * fpow x (KK + 1)) * (fpow x (KK + 1) * fpow x (KK + 1)) = x * x := by
  rw [← fpow_add, ← fpow_add, show KK + 1 + (KK + 1) + (KK + 1 + (KK + 1)) = HH + 2 by rw [KK_eq]; omega, fpow_add, h]
  show 1 * (1 * x * x) = _
  grind
theorem rt_cases {x : Fp} (h : fpow x HH = 1) : fpow x (KK + 1) * fpow x (KK + 1) = x ∨ fpow x (KK + 1) * fpow x (KK + 1) = -x := sq_eq (rt_four h)
theorem half_isSq {x : Fp} (h : fpow x HH = 1) : isSq x := by
  rcases rt_cases h with h1 | h1
  · exact ⟨_, h1⟩
  · refine ⟨fpow x (KK + 1) * fi, ?_⟩
    have := fi_sq
    grind
theorem isSq_iff {x : Fp} (hx : x ≠ 0) : isSq x ↔ fpow x HH = 1 := ⟨fun h => h.half hx, half_isSq⟩
theorem not_sq {x : Fp} (h : ¬ isSq x) : x ≠ 0 ∧ fpow x HH = -1 := by
  have hx : x ≠ 0 := by rintro rfl; exact h ⟨0, by grind⟩
  refine ⟨hx, ?_⟩
  rcases half_cases hx with h1 | h1
  · exact absurd (half_isSq h1) h
  · exact h1
theorem not_sq_mul {x y : Fp} (hx : ¬ isSq x) (hy : ¬ isSq y) : isSq (x * y) := by
  have h1 := not_sq hx
  have h2 := not_sq hy
  refine half_isSq ?_
  rw [mul_fpow, h1.2, h2.2]; grind
theorem isSq_mul {x y : Fp} (hx : isSq x) (hy : isSq y) : isSq (x * y) := by
  obtain ⟨s, rfl⟩ := hx
  obtain ⟨t, rfl⟩ := hy
  exact ⟨s * t, by grind⟩
theorem isSq_neg {x : Fp} (hx : isSq x) : isSq (-x) := by
  obtain ⟨s, rfl⟩ := hx
  exact ⟨fi * s, by have := fi_sq; grind⟩
theorem isSq_inv {x : Fp} (hx : isSq x) : isSq (finv x) := by
  obtain ⟨s, rfl⟩ := hx
  exact ⟨finv s, by rw [finv_mul]⟩
theorem not_sq_mul_sq {x y : Fp} (hx : ¬ isSq x) (hy : isSq y) (h0 : y ≠ 0) : ¬ isSq (x * y) := fun h => hx (by
  have := isSq_mul h (isSq_inv hy)
  have h1 := mul_finv h0
  rwa [show x * y * finv y = x by grind] at this)

/-- halves -/
theorem two_inv : (2 : Fp) * finv 2 = 1 := mul_finv fp_two_ne

end Pw
