/- A part of the proof: PwRv. -/
import Derived.Test.YtccmlapcijjmpaaPwFp
import Derived.Test.YtccmlapcijjmpaaPwLaw
namespace Pw
open Go

/-! ### the document's numbers as numbers of the field -/

def ok4 (y : L4) : Prop := y.wf ∧ val4 y < PP
def rv (y : L4) : Fp := toF (val4 y)

theorem rv_val {y : L4} (h : ok4 y) : (rv y).val = val4 y := by unfold rv; rw [toF_val]; exact Nat.mod_eq_of_lt h.2
theorem fv_val (x : L5) : (fv x).val = val5 x % PP := by unfold fv; rw [toF_val]
theorem Sim.ok4 {x : L5} {y : L4} (h : Sim x y) : ok4 y := ⟨h.wf, h.lt⟩
theorem Sim.fv {x : L5} {y : L4} (h : Sim x y) : fv x = rv y := by
  refine fp_ext ?_
  rw [fv_val, rv_val h.ok4, h.eq]
theorem sim_of {x : L5} {y : L4} (hx : ok5 x) (hy : ok4 y) (h : Pw.fv x = rv y) : Sim x y := ⟨hx, hy.1, hy.2, by rw [← fv_val, h, rv_val hy]⟩

theorem mod_PP (n : Nat) : n % PP < PP := Nat.mod_lt _ PP_pos
theorem rv_of {y : L4} {n : Nat} (h : val4 y = n % PP) : rv y = toF n := by
  refine fp_ext ?_
  rw [rv, toF_val, toF_val, h, Nat.mod_mod]
theorem rmul_ok {x y : L4} (hx : ok4 x) (hy : ok4 y) : ok4 (mulR x y) := by
  obtain ⟨h1, h2⟩ := mulR_val hx.1 hy.1
  exact ⟨h1, by rw [h2]; exact mod_PP _⟩
theorem rv_mul {x y : L4} (hx : ok4 x) (hy : ok4 y) : rv (mulR x y) = rv x * rv y := by
  rw [rv_of (mulR_val hx.1 hy.1).2, toF_mul]; rfl
theorem radd_ok {x y : L4} (hx : ok4 x) (hy : ok4 y) : ok4 (addR x y) := by
  obtain ⟨h1, h2⟩ := addR_val hx.1 hy.1 hx.2 hy.2
  exact ⟨h1, by rw [h2]; exact mod_PP _⟩
theorem rv_add {x y : L4} (hx : ok4 x) (hy : ok4 y) : rv (addR x y) = rv x + rv y := by
  rw [rv_of (addR_val hx.1 hy.1 hx.2 hy.2).2, toF_add]; rfl
theorem rneg_ok {x : L4} (hx : ok4 x) : ok4 (negR x) := by
  obtain ⟨h1, h2⟩ := negR_val hx.1 hx.2
  exact ⟨h1, by rw [h2]; exact mod_PP _⟩
theorem rv_neg {x : L4} (hx : ok4 x) : rv (negR x) = - rv x := by
  have h := (negR_val hx.1 hx.2).2
  have h1 : rv (negR x) + rv x = 0 := by
    unfold rv
    rw [← toF_add, h, ← toF_zero, toF_eq, Nat.mod_add_mod]
    have := hx.2
    rw [show PP - val4 x + val4 x = PP by omega, Nat.mod_self, Nat.zero_mod]
  grind
theorem rsub_ok {x y : L4} (hx : ok4 x) (hy : ok4 y) : ok4 (subR x y) := radd_ok hx (rneg_ok hy)
theorem rv_sub {x y : L4} (hx : ok4 x) (hy : ok4 y) : rv (subR x y) = rv x - rv y := by
  unfold subR
  rw [rv_add hx (rneg_ok hy), rv_neg hy]; grind
theorem rsmall_ok {n : Nat} (hn : n < 18446744073709551616) : ok4 (smallR n) := by
  obtain ⟨h1, h2⟩ := smallR_wf hn
  exact ⟨h1, by rw [h2]; exact small_lt hn⟩
theorem rv_small {n : Nat} (hn : n < 18446744073709551616) : rv (smallR n) = toF n := by unfold rv; rw [(smallR_wf hn).2]
theorem rzero_ok : ok4 zeroR := Sim.zero.ok4
theorem rv_zero : rv zeroR = 0 := by rw [← Sim.zero.fv, fv_zero]
theorem rtimes_ok {x : L4} (hx : ok4 x) {n : Nat} (hn : n < 18446744073709551616) : ok4 (timesR x n) := rmul_ok hx (rsmall_ok hn)
theorem rv_times {x : L4} (hx : ok4 x) {n : Nat} (hn : n < 18446744073709551616) : rv (timesR x n) = rv x * toF n := by unfold timesR; rw [rv_mul hx (rsmall_ok hn), rv_small hn]
theorem rfrom_ok {k : K32} (hk : k.wf) : ok4 (fromR k) := (Sim.from hk).ok4
theorem rv_from {k : K32} (hk : k.wf) : rv (fromR k) = toF (leVal k % B255) := by rw [← (Sim.from hk).fv, from_fv hk]
theorem requal_rv {x y : L4} (hx : ok4 x) (hy : ok4 y) : equalR x y = decide (rv x = rv y) := by
  rw [equalR_val hx.1 hy.1]
  refine decide_eq_decide.2 ⟨fun h => ?_, fun h => ?_⟩
  · unfold rv; rw [h]
  · rw [← rv_val hx, ← rv_val hy, h]
theorem rv_inj {x y : L4} (hx : ok4 x) (hy : ok4 y) (h : rv x = rv y) : x = y := val4_inj hx.1 hy.1 (by rw [← rv_val hx, ← rv_val hy, h])
theorem risZero_rv {x : L4} (hx : ok4 x) : isZeroR x = decide (rv x = 0) := by
  unfold isZeroR
  rw [requal_rv hx rzero_ok, rv_zero]
theorem oddR_rv {x : L4} (hx : ok4 x) : oddR x = decide ((rv x).val % 2 = 1) := by
  rw [rv_val hx]
  unfold oddR val4
  exact decide_eq_decide.2 (by omega)
theorem rbytes_val {x : L4} (hx : ok4 x) : leVal (bytesR4 x) = (rv x).val := by rw [rv_val hx]; exact bytesR_val hx.1

/-- the form of a number of the field -/
theorem bytes_val {x : L5} (hx : ok5 x) : leVal (bytesS x) = (fv x).val := by rw [leVal_bytes hx, fv_val]
theorem oddS_fv {x : L5} (hx : ok5 x) : oddS x = decide ((fv x).val % 2 = 1) := by
  rw [oddS_eq hx.wf, fv_val]

/-! ### powers by bits -/

theorem and_one (n : Nat) : n &&& 1 = n % 2 := Nat.and_one_is_mod n
theorem fpow_two_pow_succ (x : Fp) (n : Nat) : fpow x (2 ^ (n + 1)) = fpow x (2 ^ n) * fpow x (2 ^ n) := by
  rw [Nat.pow_succ, Nat.mul_comm, Nat.two_mul, fpow_add]

/-- one byte more of an exponent, bit after bit from the highest -/
theorem fpow_bit {r a : Fp} {k n : Nat} {c : Bool} {m : Nat} (hm : m = 2 * n + (if c then 1 else 0)) :
    (bif c then fpow r (2 ^ k) * fpow a n * (fpow r (2 ^ k) * fpow a n) * a else fpow r (2 ^ k) * fpow a n * (fpow r (2 ^ k) * fpow a n)) = fpow r (2 ^ (k + 1)) * fpow a m := by
  subst hm
  rw [fpow_two_pow_succ, Nat.two_mul, fpow_add, fpow_add]
  generalize fpow r (2 ^ k) = R
  generalize fpow a n = A
  cases c
  · simp only [cond_false, Bool.false_eq_true, if_false]
    rw [show fpow a 0 = 1 from rfl]; grind
  · simp only [cond_true, if_true]
    rw [fpow_one]; grind

/-! ### roots -/

def rtF (a : Fp) : Fp := if fpow a (KK + 1) * fpow a (KK + 1) = a then fpow a (KK + 1) else fpow a (KK + 1) * fi
/-- the even root, or 0 -/
def rootF (a : Fp) : Fp := if rtF a * rtF a = a then (if (rtF a).val % 2 = 1 then -rtF a else rtF a) else 0
def hasRoot (a : Fp) : Bool := decide (rtF a * rtF a = a)

theorem fpow_zero_pos {n : Nat} : fpow 0 (n + 1) = 0 := zero_fpow (by omega)
theorem hasRoot_iff (a : Fp) : hasRoot a = true ↔ isSq a := by
  unfold hasRoot
  rw [decide_eq_true_eq]
  constructor
  · intro h; exact ⟨_, h⟩
  · intro h
    unfold rtF
    split
    · assumption
    · rename_i hne
      have ha : a ≠ 0 := by
        rintro rfl
        refine hne ?_
        rw [fpow_zero_pos]; grind
      rcases rt_cases (h.half ha) with h1 | h1
      · exact absurd h1 hne
      · have := fi_sq
        generalize fpow a (KK + 1) = t at *
        clear hne h
        grind
theorem rootF_sq {a : Fp} (h : isSq a) : rootF a * rootF a = a := by
  have h1 := (hasRoot_iff a).2 h
  unfold hasRoot at h1
  rw [decide_eq_true_eq] at h1
  unfold rootF
  rw [if_pos h1]
  generalize rtF a = t at *
  split
  · grind
  · exact h1
theorem rootF_none {a : Fp} (h : ¬ isSq a) : rootF a = 0 := by
  have h1 : ¬ rtF a * rtF a = a := fun e => h ⟨_, e⟩
  unfold rootF
  rw [if_neg h1]
theorem fneg_val {a : Fp} (h : a ≠ 0) : (-a).val = PP - a.val := by
  have hlt := fp_lt a
  have h0 : a.val ≠ 0 := fun e => h (fp_ext e)
  have h1 : (-a + a : Fp) = 0 := by grind
  have h2 : ((-a).val + a.val) % PP = 0 := by rw [← Fin.val_add, h1]; rfl
  have h3 := fp_lt (-a)
  rcases Nat.lt_or_ge ((-a).val + a.val) PP with h4 | h4
  · rw [Nat.mod_eq_of_lt h4] at h2; omega
  · have : ((-a).val + a.val) % PP = (-a).val + a.val - PP := by
      rw [Nat.mod_eq_sub_mod h4]; exact Nat.mod_eq_of_lt (by omega)
    omega
theorem PP_odd : PP % 2 = 1 := by decide +kernel
theorem rootF_even (a : Fp) : (rootF a).val % 2 = 0 := by
  unfold rootF
  split
  · split
    · rename_i h
      have hne : rtF a ≠ 0 := by intro e; rw [e] at h; exact absurd h (by decide)
      have h1 := fneg_val hne
      have h2 := fp_lt (rtF a)
      have h3 := PP_odd
      omega
    · omega
  · rfl
/-- of the two roots one is even -/
theorem even_root {s t : Fp} (h : s * s = t * t) (hs : s.val % 2 = 0) (ht : t.val % 2 = 0) : s = t := by
  rcases sq_eq h with h1 | h1
  · exact h1
  · by_cases h0 : t = 0
    · subst h0; grind
    · have h2 := fneg_val h0
      have h3 := fp_lt t
      have h4 := PP_odd
      rw [h1, h2] at hs; omega
theorem rootF_zero : rootF 0 = 0 := sq_zero (rootF_sq ⟨0, by grind⟩)

end Pw
