/- A part of the proof, for all claims alike: PwPrime, PwCert, PwFp, PwRv, PwEd, PwMont, PwLad, PwLadB, PwSide, PwNine. -/
import Derived.Test.YtmhbhpmfbalbeaaPwMe
namespace Pw

/-! ### primes, Fermat, Pocklington -/

def Pr (p : Nat) : Prop := 2 ≤ p ∧ ∀ d, d ∣ p → d = 1 ∨ d = p

theorem Pr.coprime {p a : Nat} (hp : Pr p) (h : ¬ p ∣ a) : Nat.Coprime p a := by
  rcases hp.2 (Nat.gcd p a) (Nat.gcd_dvd_left p a) with h1 | h1
  · exact h1
  · exact absurd (h1 ▸ Nat.gcd_dvd_right p a) h

theorem Pr.dvd_mul {p a b : Nat} (hp : Pr p) (h : p ∣ a * b) : p ∣ a ∨ p ∣ b := by
  by_cases ha : p ∣ a
  · exact .inl ha
  · exact .inr ((hp.coprime ha).dvd_of_dvd_mul_left h)

def ch : Nat → Nat → Nat
  | _, 0 => 1
  | 0, _ + 1 => 0
  | n + 1, k + 1 => ch n k + ch n (k + 1)

theorem ch_n0 (n : Nat) : ch n 0 = 1 := by cases n <;> rfl
theorem ch_0s (k : Nat) : ch 0 (k + 1) = 0 := rfl
theorem ch_ss (n k : Nat) : ch (n + 1) (k + 1) = ch n k + ch n (k + 1) := rfl

theorem ch_absorb : ∀ n k, (k + 1) * ch (n + 1) (k + 1) = (n + 1) * ch n k
  | 0, 0 => rfl
  | 0, k + 1 => by simp [ch]
  | n + 1, 0 => by
    have h := ch_absorb n 0
    rw [ch_ss, ch_n0]
    rw [ch_n0] at h
    omega
  | n + 1, k + 1 => by
    have h1 := ch_absorb n k
    have h2 := ch_absorb n (k + 1)
    have e1 := ch_ss n k
    rw [ch_ss (n + 1) (k + 1)]
    generalize ch (n + 1) (k + 1) = A at *
    generalize ch (n + 1) (k + 1 + 1) = B at *
    generalize ch n k = C at *
    generalize ch n (k + 1) = D at *
    subst e1
    grind

theorem ch_zero : ∀ n k, n < k → ch n k = 0
  | _, 0, h => by omega
  | 0, k + 1, _ => rfl
  | n + 1, k + 1, h => by rw [ch_ss, ch_zero n k (by omega), ch_zero n (k + 1) (by omega)]

def bs (n a : Nat) : Nat → Nat
  | 0 => 1
  | k + 1 => bs n a k + ch n (k + 1) * a ^ (k + 1)

theorem bs_succ (n a : Nat) : ∀ k, bs (n + 1) a (k + 1) = bs n a (k + 1) + a * bs n a k
  | 0 => by simp only [bs, ch_ss, ch_n0]; grind
  | k + 1 => by
    have h := bs_succ n a k
    rw [show bs (n + 1) a (k + 1 + 1) = bs (n + 1) a (k + 1) + ch (n + 1) (k + 1 + 1) * a ^ (k + 1 + 1) from rfl, h, ch_ss,
      show bs n a (k + 1 + 1) = bs n a (k + 1) + ch n (k + 1 + 1) * a ^ (k + 1 + 1) from rfl]
    have h2 : bs n a (k + 1) = bs n a k + ch n (k + 1) * a ^ (k + 1) := rfl
    generalize bs n a (k + 1) = x at *
    subst h2
    grind

theorem bs_full (a : Nat) : ∀ n, bs n a n = (1 + a) ^ n
  | 0 => rfl
  | n + 1 => by
    rw [bs_succ, show bs n a (n + 1) = bs n a n + ch n (n + 1) * a ^ (n + 1) from rfl, ch_zero n (n + 1) (by omega), bs_full a n, Nat.pow_succ]
    grind

theorem Pr.ch_dvd {p : Nat} (hp : Pr p) {k : Nat} (h : k + 1 < p) : p ∣ ch p (k + 1) := by
  have h2 := hp.1
  obtain ⟨n, rfl⟩ : ∃ n, p = n + 1 := ⟨p - 1, by omega⟩
  have := ch_absorb n k
  have hd : n + 1 ∣ (k + 1) * ch (n + 1) (k + 1) := ⟨_, this⟩
  rcases hp.dvd_mul hd with h3 | h3
  · exact absurd (Nat.le_of_dvd (by omega) h3) (by omega)
  · exact h3

theorem Pr.bs_mod {p : Nat} (hp : Pr p) (a : Nat) : ∀ k, k < p → bs p a k % p = 1 % p
  | 0, _ => rfl
  | k + 1, h => by
    obtain ⟨c, hc⟩ := hp.ch_dvd h
    rw [show bs p a (k + 1) = bs p a k + ch p (k + 1) * a ^ (k + 1) from rfl, hc, Nat.mul_assoc, Nat.add_mul_mod_self_left]
    exact hp.bs_mod a k (by omega)

theorem ch_self : ∀ n, ch n n = 1
  | 0 => rfl
  | n + 1 => by rw [ch_ss, ch_self n, ch_zero n (n + 1) (by omega)]

theorem Pr.fermat {p : Nat} (hp : Pr p) : ∀ a, a ^ p % p = a % p
  | 0 => by rw [Nat.zero_pow (by have := hp.1; omega)]
  | a + 1 => by
    have h2 := hp.1
    obtain ⟨n, hn⟩ : ∃ n, p = n + 1 := ⟨p - 1, by omega⟩
    rw [Nat.add_comm a 1, ← bs_full a p]
    have h1 : bs p a p = bs p a n + a ^ p := by
      have : bs p a (n + 1) = bs p a n + ch p (n + 1) * a ^ (n + 1) := rfl
      rw [← hn, ch_self] at this
      omega
    have h3 := hp.bs_mod a n (by omega)
    have h4 := hp.fermat a
    rw [h1, Nat.add_mod, h3, h4, ← Nat.add_mod]

theorem Pr.fermat1 {p a : Nat} (hp : Pr p) (h : ¬ p ∣ a) : a ^ (p - 1) % p = 1 := by
  have h2 := hp.1
  have h1 := hp.fermat a
  have e : a ^ p = a * a ^ (p - 1) := by
    obtain ⟨n, rfl⟩ : ∃ n, p = n + 1 := ⟨p - 1, by omega⟩
    rw [Nat.pow_succ, Nat.mul_comm]; rfl
  have hpos : 1 ≤ a ^ (p - 1) := Nat.pow_pos (by rcases Nat.eq_zero_or_pos a with h0 | h0; · subst h0; exact absurd (Nat.dvd_zero p) h
                                                 · exact h0)
  have hd : p ∣ a * (a ^ (p - 1) - 1) := by
    rw [Nat.mul_sub, Nat.mul_one, ← e]
    have hle : a ≤ a ^ p := by rw [e]; exact Nat.le_mul_of_pos_right a hpos
    have d1 := Nat.div_add_mod (a ^ p) p
    have d2 := Nat.div_add_mod a p
    have d3 : a / p ≤ a ^ p / p := Nat.div_le_div_right hle
    refine ⟨a ^ p / p - a / p, ?_⟩
    rw [Nat.mul_sub]; omega
  rcases hp.dvd_mul hd with h3 | h3
  · exact absurd h3 h
  · obtain ⟨c, hc⟩ := h3
    rw [show a ^ (p - 1) = 1 + p * c by omega, Nat.add_mul_mod_self_left]
    exact Nat.mod_eq_of_lt (by omega)

theorem pow_mod_one {s b k : Nat} (hs : 2 ≤ s) (h : b % s = 1) : b ^ k % s = 1 := by
  rw [Nat.pow_mod, h, Nat.one_pow]; exact Nat.mod_eq_of_lt (by omega)

theorem pow_gcd {s b : Nat} (hs : 2 ≤ s) : ∀ m n, b ^ m % s = 1 → b ^ n % s = 1 → b ^ Nat.gcd m n % s = 1 := by
  intro m n
  induction m, n using Nat.gcd.induction with
  | H0 n => intro _ h; rwa [Nat.gcd_zero_left]
  | H1 m n hm ih =>
    intro h1 h2
    rw [Nat.gcd_rec]
    refine ih ?_ h1
    have e : b ^ n = (b ^ m) ^ (n / m) * b ^ (n % m) := by
      rw [← Nat.pow_mul, ← Nat.pow_add, Nat.div_add_mod]
    rw [e, Nat.mul_mod, pow_mod_one hs h1, Nat.one_mul, Nat.mod_mod] at h2
    exact h2

theorem pock_dvd {n q r a s : Nat} (hn2 : 2 ≤ n) (hs : Pr s) (hsn : s ∣ n) (hq : Pr q) (hn : n - 1 = q * r) (h1 : a ^ (n - 1) % n = 1) (h2 : Nat.gcd (a ^ r % n + (n - 1)) n = 1) : q ∣ s - 1 := by
  have hs2 := hs.1
  have hb : (a ^ r) ^ q % s = 1 := by
    rw [← Nat.pow_mul, Nat.mul_comm, ← hn, ← Nat.mod_mod_of_dvd _ hsn, h1]
    exact Nat.mod_eq_of_lt (by omega)
  have hsb : ¬ s ∣ a ^ r := fun h => by
    have : s ∣ (a ^ r) ^ q := Nat.dvd_trans h (by
      obtain ⟨m, rfl⟩ : ∃ m, q = m + 1 := ⟨q - 1, by have := hq.1; omega⟩
      exact ⟨(a ^ r) ^ m, by rw [Nat.pow_succ, Nat.mul_comm]⟩)
    rw [Nat.mod_eq_zero_of_dvd this] at hb; omega
  have hf := hs.fermat1 hsb
  have hg := pow_gcd hs2 q (s - 1) hb hf
  by_cases hd : q ∣ s - 1
  · exact hd
  · rw [hq.coprime hd, Nat.pow_one] at hg
    exfalso
    have h3 : s ∣ a ^ r % n + (n - 1) := by
      have e1 : (a ^ r % n) % s = 1 := by rw [Nat.mod_mod_of_dvd _ hsn]; exact hg
      obtain ⟨c, hc⟩ := hsn
      have := Nat.div_add_mod (a ^ r % n) s
      rw [e1] at this
      refine ⟨a ^ r % n / s + c, ?_⟩
      rw [Nat.mul_add, ← hc]; omega
    have h4 := Nat.dvd_gcd h3 hsn
    rw [h2] at h4
    have := Nat.le_of_dvd (by omega) h4
    omega

theorem exists_prime : ∀ n, 2 ≤ n → ∃ s, Pr s ∧ s ∣ n := by
  intro n
  induction n using Nat.strongRecOn with
  | ind n ih =>
    intro h
    by_cases hp : Pr n
    · exact ⟨n, hp, Nat.dvd_refl n⟩
    · have : ∃ d, d ∣ n ∧ d ≠ 1 ∧ d ≠ n := by
        apply Classical.byContradiction
        intro hc
        refine hp ⟨h, fun d hd => ?_⟩
        by_cases h1 : d = 1
        · exact .inl h1
        · by_cases h2 : d = n
          · exact .inr h2
          · exact absurd ⟨d, hd, h1, h2⟩ hc
      obtain ⟨d, hd, h1, h2⟩ := this
      have hle := Nat.le_of_dvd (by omega) hd
      have h0 : d ≠ 0 := by intro e; subst e; rw [Nat.zero_dvd] at hd; omega
      obtain ⟨s, hs, hsd⟩ := ih d (by omega) (by omega)
      exact ⟨s, hs, Nat.dvd_trans hsd hd⟩

/-- a number all of whose prime divisors are greater than its root is prime -/
theorem prime_of_divisors {n : Nat} (hn : 2 ≤ n) (h : ∀ s, Pr s → s ∣ n → n < s * s) : Pr n := by
  refine ⟨hn, fun d hd => ?_⟩
  by_cases h1 : d = 1
  · exact .inl h1
  by_cases h2 : d = n
  · exact .inr h2
  exfalso
  obtain ⟨e, he⟩ := hd
  have hd0 : d ≠ 0 := by intro e0; subst e0; omega
  have he0 : e ≠ 0 := by intro e0; subst e0; omega
  have he1 : e ≠ 1 := by intro e0; subst e0; omega
  rcases Nat.le_total d e with hle | hle
  · obtain ⟨s, hs, hsd⟩ := exists_prime d (by omega)
    have h3 := h s hs (Nat.dvd_trans hsd ⟨e, he⟩)
    have h4 := Nat.le_of_dvd (by omega) hsd
    have : s * s ≤ d * e := Nat.mul_le_mul h4 (by omega)
    omega
  · obtain ⟨s, hs, hsd⟩ := exists_prime e (by omega)
    have h3 := h s hs (Nat.dvd_trans hsd ⟨d, by rw [he, Nat.mul_comm]⟩)
    have h4 := Nat.le_of_dvd (by omega) hsd
    have : s * s ≤ d * e := Nat.mul_le_mul (by omega) h4
    omega

theorem pock {n F : Nat} (hn : 2 ≤ n) (hF : n ≤ F * F) (h : ∀ s, Pr s → s ∣ n → F ∣ s - 1) : Pr n := by
  refine prime_of_divisors hn fun s hs hsn => ?_
  have h1 := Nat.le_of_dvd (by have := hs.1; omega) (h s hs hsn)
  have : F * F < s * s := Nat.mul_lt_mul'' (by have := hs.1; omega) (by have := hs.1; omega)
  omega

/-- powers, bit by bit -/
def pmGo (n : Nat) : Nat → Nat → Nat → Nat → Nat
  | 0, _, _, acc => acc
  | f + 1, b, e, acc => pmGo n f (b * b % n) (e / 2) (bif Nat.beq (e % 2) 1 then acc * b % n else acc)

theorem pmGo_eq {n : Nat} : ∀ (f b e acc : Nat), e < 2 ^ f → pmGo n f b e acc % n = acc * b ^ e % n
  | 0, b, e, acc, h => by
    have : e = 0 := by simpa using h
    subst this; simp [pmGo]
  | f + 1, b, e, acc, h => by
    rw [pmGo, pmGo_eq f _ _ _ (by rw [Nat.pow_succ] at h; omega), Nat.mul_mod, Nat.pow_mod, Nat.mod_mod, ← Nat.pow_mod, ← Nat.mul_mod]
    have e1 : b ^ e = (b * b) ^ (e / 2) * b ^ (e % 2) := by
      rw [← Nat.pow_two, ← Nat.pow_mul, ← Nat.pow_add, Nat.div_add_mod]
    rw [e1]
    rcases Nat.mod_two_eq_zero_or_one e with h2 | h2
    · rw [h2]; simp [show Nat.beq 0 1 = false from rfl]
    · rw [h2]
      simp only [Nat.beq_refl, cond_true, Nat.pow_one]
      rw [Nat.mul_mod, Nat.mod_mod, ← Nat.mul_mod]
      congr 1
      rw [Nat.mul_assoc, Nat.mul_comm b]

theorem pm_one {n a e : Nat} (f : Nat) (he : e < 2 ^ f) {r : Nat} (h : pmGo n f a e 1 % n = r) : a ^ e % n = r := by
  rw [pmGo_eq f a e 1 he, Nat.one_mul] at h; exact h

/-- small primes by trial -/
def tdiv (n : Nat) : Nat → Nat → Bool
  | 0, _ => false
  | f + 1, d => bif Nat.ble (n + 1) (d * d) then true else bif Nat.beq (n % d) 0 then false else tdiv n f (d + 1)

theorem tdiv_spec {n : Nat} : ∀ (f d : Nat), tdiv n f d = true → ∀ s, d ≤ s → s * s ≤ n → ¬ s ∣ n
  | 0, d, h => by simp [tdiv] at h
  | f + 1, d, h => by
    intro s hds hsn hdv
    unfold tdiv at h
    cases hb : Nat.ble (n + 1) (d * d) with
    | true =>
      have h1 := Nat.le_of_ble_eq_true hb
      have := Nat.mul_le_mul hds hds
      omega
    | false =>
      rw [hb] at h
      cases hc : Nat.beq (n % d) 0 with
      | true => rw [hc] at h; simp at h
      | false =>
        rw [hc] at h
        simp only [cond_false] at h
        by_cases e : d = s
        · subst e
          rw [Nat.mod_eq_zero_of_dvd hdv] at hc
          simp at hc
        · exact tdiv_spec f (d + 1) h s (by omega) hsn hdv

theorem prime_small {n : Nat} (f : Nat) (hn : 2 ≤ n) (h : tdiv n f 2 = true) : Pr n := by
  refine prime_of_divisors hn fun s hs hsn => ?_
  rcases Nat.lt_or_ge n (s * s) with h1 | h1
  · exact h1
  · exact absurd hsn (tdiv_spec f 2 h s hs.1 h1)

theorem two_div {a b s : Nat} (ha : a ∣ s) (hb : b ∣ s) (h : Nat.gcd a b = 1) : a * b ∣ s := Nat.Coprime.mul_dvd_of_dvd_of_dvd h ha hb

/-- one step of a certificate: what one prime factor gives -/
theorem pock_step {n q r a : Nat} (f : Nat) (hn2 : 2 ≤ n) (hq : Pr q) (hn : n - 1 = q * r) (hf : n - 1 < 2 ^ f) (h1 : pmGo n f a (n - 1) 1 % n = 1) (h2 : Nat.gcd (pmGo n f a r 1 % n + (n - 1)) n = 1) :
    ∀ s, Pr s → s ∣ n → q ∣ s - 1 := by
  intro s hs hsn
  have hr : r < 2 ^ f := by
    have : 1 * r ≤ q * r := Nat.mul_le_mul_right r (by have := hq.1; omega)
    omega
  exact pock_dvd hn2 hs hsn hq hn (pm_one f hf h1) (by rw [pmGo_eq f a r 1 hr, Nat.one_mul] at h2; exact h2)

end Pw

namespace Pw
/-! ### certificates of the three primes -/

theorem pr_6 : Pr 991 := prime_small 34 (by decide) (by decide +kernel)
theorem pr_7 : Pr 103 := prime_small 13 (by decide) (by decide +kernel)
theorem pr_5 : Pr 8574133 := by
  have h0 := pock_step (n := 8574133) (q := 991) (r := 8652) (a := 2) 24 (by decide) pr_6 (by decide +kernel) (by decide +kernel) (by decide +kernel) (by decide +kernel)
  have h1 := pock_step (n := 8574133) (q := 103) (r := 83244) (a := 2) 24 (by decide) pr_7 (by decide +kernel) (by decide +kernel) (by decide +kernel) (by decide +kernel)
  exact pock (F := 991 * 103) (by decide) (by decide +kernel) fun s hs hsn => two_div (h0 s hs hsn) (h1 s hs hsn) (by decide +kernel)
theorem pr_8 : Pr 127 := prime_small 14 (by decide) (by decide +kernel)
theorem pr_4 : Pr 1919519569386763 := by
  have h0 := pock_step (n := 1919519569386763) (q := 8574133) (r := 223873314) (a := 2) 51 (by decide) pr_5 (by decide +kernel) (by decide +kernel) (by decide +kernel) (by decide +kernel)
  have h1 := pock_step (n := 1919519569386763) (q := 127) (r := 15114327318006) (a := 2) 51 (by decide) pr_8 (by decide +kernel) (by decide +kernel) (by decide +kernel) (by decide +kernel)
  exact pock (F := 8574133 * 127) (by decide) (by decide +kernel) fun s hs hsn => two_div (h0 s hs hsn) (h1 s hs hsn) (by decide +kernel)
theorem pr_11 : Pr 569003 := prime_small 757 (by decide) (by decide +kernel)
theorem pr_10 : Pr 2773320623 := by
  have h0 := pock_step (n := 2773320623) (q := 569003) (r := 4874) (a := 2) 32 (by decide) pr_11 (by decide +kernel) (by decide +kernel) (by decide +kernel) (by decide +kernel)
  exact pock (F := 569003) (by decide) (by decide +kernel) h0
theorem pr_9 : Pr 72106336199 := by
  have h0 := pock_step (n := 72106336199) (q := 2773320623) (r := 26) (a := 2) 37 (by decide) pr_10 (by decide +kernel) (by decide +kernel) (by decide +kernel) (by decide +kernel)
  exact pock (F := 2773320623) (by decide) (by decide +kernel) h0
theorem pr_3 : Pr 75445702479781427272750846543864801 := by
  have h0 := pock_step (n := 75445702479781427272750846543864801) (q := 1919519569386763) (r := 39304471641247389600) (a := 2) 116 (by decide) pr_4 (by decide +kernel) (by decide +kernel) (by decide +kernel) (by decide +kernel)
  have h1 := pock_step (n := 75445702479781427272750846543864801) (q := 72106336199) (r := 1046311689884858398375200) (a := 2) 116 (by decide) pr_9 (by decide +kernel) (by decide +kernel) (by decide +kernel) (by decide +kernel)
  exact pock (F := 1919519569386763 * 72106336199) (by decide) (by decide +kernel) fun s hs hsn => two_div (h0 s hs hsn) (h1 s hs hsn) (by decide +kernel)
theorem pr_13 : Pr 430751 := prime_small 659 (by decide) (by decide +kernel)
theorem pr_14 : Pr 4153 := prime_small 67 (by decide) (by decide +kernel)
theorem pr_12 : Pr 31757755568855353 := by
  have h0 := pock_step (n := 31757755568855353) (q := 430751) (r := 73726481352) (a := 2) 55 (by decide) pr_13 (by decide +kernel) (by decide +kernel) (by decide +kernel) (by decide +kernel)
  have h1 := pock_step (n := 31757755568855353) (q := 4153) (r := 7646943310584) (a := 2) 55 (by decide) pr_14 (by decide +kernel) (by decide +kernel) (by decide +kernel) (by decide +kernel)
  exact pock (F := 430751 * 4153) (by decide) (by decide +kernel) fun s hs hsn => two_div (h0 s hs hsn) (h1 s hs hsn) (by decide +kernel)
theorem pr_2 : Pr 74058212732561358302231226437062788676166966415465897661863160754340907 := by
  have h0 := pock_step (n := 74058212732561358302231226437062788676166966415465897661863160754340907) (q := 75445702479781427272750846543864801) (r := 981609426360740691344999861639072106) (a := 2) 236 (by decide) pr_3 (by decide +kernel) (by decide +kernel) (by decide +kernel) (by decide +kernel)
  have h1 := pock_step (n := 74058212732561358302231226437062788676166966415465897661863160754340907) (q := 31757755568855353) (r := 2331972502653487852620185443007392165117953542933313402) (a := 2) 236 (by decide) pr_12 (by decide +kernel) (by decide +kernel) (by decide +kernel) (by decide +kernel)
  exact pock (F := 75445702479781427272750846543864801 * 31757755568855353) (by decide) (by decide +kernel) fun s hs hsn => two_div (h0 s hs hsn) (h1 s hs hsn) (by decide +kernel)
theorem prime_P : Pr 57896044618658097711785492504343953926634992332820282019728792003956564819949 := by
  have h0 := pock_step (n := 57896044618658097711785492504343953926634992332820282019728792003956564819949) (q := 74058212732561358302231226437062788676166966415465897661863160754340907) (r := 781764) (a := 2) 255 (by decide) pr_2 (by decide +kernel) (by decide +kernel) (by decide +kernel) (by decide +kernel)
  exact pock (F := 74058212732561358302231226437062788676166966415465897661863160754340907) (by decide) (by decide +kernel) h0
theorem pr_21 : Pr 1224481 := prime_small 1109 (by decide) (by decide +kernel)
theorem pr_22 : Pr 531581 := prime_small 732 (by decide) (by decide +kernel)
theorem pr_20 : Pr 1257559732178653 := by
  have h0 := pock_step (n := 1257559732178653) (q := 1224481) (r := 1027014492) (a := 2) 51 (by decide) pr_21 (by decide +kernel) (by decide +kernel) (by decide +kernel) (by decide +kernel)
  have h1 := pock_step (n := 1257559732178653) (q := 531581) (r := 2365697292) (a := 2) 51 (by decide) pr_22 (by decide +kernel) (by decide +kernel) (by decide +kernel) (by decide +kernel)
  exact pock (F := 1224481 * 531581) (by decide) (by decide +kernel) fun s hs hsn => two_div (h0 s hs hsn) (h1 s hs hsn) (by decide +kernel)
theorem pr_19 : Pr 4434155615661930479 := by
  have h0 := pock_step (n := 4434155615661930479) (q := 1257559732178653) (r := 3526) (a := 2) 62 (by decide) pr_20 (by decide +kernel) (by decide +kernel) (by decide +kernel) (by decide +kernel)
  exact pock (F := 1257559732178653) (by decide) (by decide +kernel) h0
theorem pr_18 : Pr 172054593956031949258510691 := by
  have h0 := pock_step (n := 172054593956031949258510691) (q := 4434155615661930479) (r := 38802110) (a := 2) 88 (by decide) pr_19 (by decide +kernel) (by decide +kernel) (by decide +kernel) (by decide +kernel)
  exact pock (F := 4434155615661930479) (by decide) (by decide +kernel) h0
theorem pr_17 : Pr 19757330305831588566944191468367130476339 := by
  have h0 := pock_step (n := 19757330305831588566944191468367130476339) (q := 172054593956031949258510691) (r := 114831751082918) (a := 2) 134 (by decide) pr_18 (by decide +kernel) (by decide +kernel) (by decide +kernel) (by decide +kernel)
  exact pock (F := 172054593956031949258510691) (by decide) (by decide +kernel) h0
theorem pr_16 : Pr 276602624281642239937218680557139826668747 := by
  have h0 := pock_step (n := 276602624281642239937218680557139826668747) (q := 19757330305831588566944191468367130476339) (r := 14) (a := 2) 138 (by decide) pr_17 (by decide +kernel) (by decide +kernel) (by decide +kernel) (by decide +kernel)
  exact pock (F := 19757330305831588566944191468367130476339) (by decide) (by decide +kernel) h0
theorem prime_L : Pr 7237005577332262213973186563042994240857116359379907606001950938285454250989 := by
  have h0 := pock_step (n := 7237005577332262213973186563042994240857116359379907606001950938285454250989) (q := 276602624281642239937218680557139826668747) (r := 26163907866482859529727157400808004) (a := 2) 253 (by decide) pr_16 (by decide +kernel) (by decide +kernel) (by decide +kernel) (by decide +kernel)
  exact pock (F := 276602624281642239937218680557139826668747) (by decide) (by decide +kernel) h0
theorem pr_29 : Pr 28859 := prime_small 172 (by decide) (by decide +kernel)
theorem pr_30 : Pr 2281 := prime_small 50 (by decide) (by decide +kernel)
theorem pr_28 : Pr 5171003929967 := by
  have h0 := pock_step (n := 5171003929967) (q := 28859) (r := 179181674) (a := 2) 43 (by decide) pr_29 (by decide +kernel) (by decide +kernel) (by decide +kernel) (by decide +kernel)
  have h1 := pock_step (n := 5171003929967) (q := 2281) (r := 2266989886) (a := 2) 43 (by decide) pr_30 (by decide +kernel) (by decide +kernel) (by decide +kernel) (by decide +kernel)
  exact pock (F := 28859 * 2281) (by decide) (by decide +kernel) fun s hs hsn => two_div (h0 s hs hsn) (h1 s hs hsn) (by decide +kernel)
theorem pr_27 : Pr 22561162540501040539 := by
  have h0 := pock_step (n := 22561162540501040539) (q := 5171003929967) (r := 4363014) (a := 2) 65 (by decide) pr_28 (by decide +kernel) (by decide +kernel) (by decide +kernel) (by decide +kernel)
  exact pock (F := 5171003929967) (by decide) (by decide +kernel) h0
theorem pr_32 : Pr 8053 := prime_small 92 (by decide) (by decide +kernel)
theorem pr_33 : Pr 3911 := prime_small 65 (by decide) (by decide +kernel)
theorem pr_31 : Pr 1013266244677 := by
  have h0 := pock_step (n := 1013266244677) (q := 8053) (r := 125824692) (a := 2) 40 (by decide) pr_32 (by decide +kernel) (by decide +kernel) (by decide +kernel) (by decide +kernel)
  have h1 := pock_step (n := 1013266244677) (q := 3911) (r := 259081116) (a := 2) 40 (by decide) pr_33 (by decide +kernel) (by decide +kernel) (by decide +kernel) (by decide +kernel)
  exact pock (F := 8053 * 3911) (by decide) (by decide +kernel) fun s hs hsn => two_div (h0 s hs hsn) (h1 s hs hsn) (by decide +kernel)
theorem pr_26 : Pr 203852586375664218368381551393371968928013 := by
  have h0 := pock_step (n := 203852586375664218368381551393371968928013) (q := 22561162540501040539) (r := 9035553288077017678308) (a := 2) 138 (by decide) pr_27 (by decide +kernel) (by decide +kernel) (by decide +kernel) (by decide +kernel)
  have h1 := pock_step (n := 203852586375664218368381551393371968928013) (q := 1013266244677) (r := 201183635048107748313396499356) (a := 2) 138 (by decide) pr_31 (by decide +kernel) (by decide +kernel) (by decide +kernel) (by decide +kernel)
  exact pock (F := 22561162540501040539 * 1013266244677) (by decide) (by decide +kernel) fun s hs hsn => two_div (h0 s hs hsn) (h1 s hs hsn) (by decide +kernel)
theorem pr_25 : Pr 104719073621178708975837602950775180438320278101 := by
  have h0 := pock_step (n := 104719073621178708975837602950775180438320278101) (q := 203852586375664218368381551393371968928013) (r := 513700) (a := 2) 157 (by decide) pr_26 (by decide +kernel) (by decide +kernel) (by decide +kernel) (by decide +kernel)
  exact pock (F := 203852586375664218368381551393371968928013) (by decide) (by decide +kernel) h0
theorem pr_24 : Pr 27413359092552162435694767700453926735143482401279781 := by
  have h0 := pock_step (n := 27413359092552162435694767700453926735143482401279781) (q := 104719073621178708975837602950775180438320278101) (r := 261780) (a := 2) 175 (by decide) pr_25 (by decide +kernel) (by decide +kernel) (by decide +kernel) (by decide +kernel)
  exact pock (F := 104719073621178708975837602950775180438320278101) (by decide) (by decide +kernel) h0
theorem prime_T : Pr 14474011154664524427946373126085988481603263447650325797860494125407373907997 := by
  have h0 := pock_step (n := 14474011154664524427946373126085988481603263447650325797860494125407373907997) (q := 27413359092552162435694767700453926735143482401279781) (r := 527991155910437724961516) (a := 2) 253 (by decide) pr_24 (by decide +kernel) (by decide +kernel) (by decide +kernel) (by decide +kernel)
  exact pock (F := 27413359092552162435694767700453926735143482401279781) (by decide) (by decide +kernel) h0

end Pw

namespace Pw

/-! ### the field of P elements -/

theorem PP_prime : Pr PP := prime_P
theorem fp_lt (x : Fp) : x.val < PP := x.isLt
theorem fp_ext {x y : Fp} (h : x.val = y.val) : x = y := Fin.ext h
theorem fp_mul_val (x y : Fp) : (x * y).val = x.val * y.val % PP := Fin.val_mul x y
theorem fp_zero_val : (0 : Fp).val = 0 := rfl
theorem fp_one_val : (1 : Fp).val = 1 := by decide +kernel
theorem fp_one_ne : (1 : Fp) ≠ 0 := by decide +kernel
theorem fp_two_ne : (2 : Fp) ≠ 0 := by decide +kernel

theorem fp_dvd {x : Fp} : PP ∣ x.val ↔ x = 0 := by
  constructor
  · intro h
    refine fp_ext ?_
    rcases Nat.eq_zero_or_pos x.val with h0 | h0
    · exact h0
    · exact absurd (Nat.le_of_dvd h0 h) (by have := fp_lt x; omega)
  · rintro rfl; exact ⟨0, rfl⟩

theorem fp_mul_zero {x y : Fp} (h : x * y = 0) : x = 0 ∨ y = 0 := by
  have h1 : x.val * y.val % PP = 0 := by rw [← fp_mul_val, h]; rfl
  rcases PP_prime.dvd_mul (Nat.dvd_of_mod_eq_zero h1) with h2 | h2
  · exact .inl (fp_dvd.1 h2)
  · exact .inr (fp_dvd.1 h2)

theorem fp_mul_ne {x y : Fp} (hx : x ≠ 0) (hy : y ≠ 0) : x * y ≠ 0 := fun h => (fp_mul_zero h).elim hx hy
theorem fp_cancel {x y z : Fp} (hx : x ≠ 0) (h : x * y = x * z) : y = z := by
  have : x * (y - z) = 0 := by grind
  rcases fp_mul_zero this with h1 | h1
  · exact absurd h1 hx
  · grind

def fpow (x : Fp) : Nat → Fp
  | 0 => 1
  | n + 1 => fpow x n * x

theorem fpow_add (x : Fp) (m : Nat) : ∀ n, fpow x (m + n) = fpow x m * fpow x n
  | 0 => by show fpow x m = fpow x m * 1; grind
  | n + 1 => by
    have h := fpow_add x m n
    rw [show m + (n + 1) = (m + n) + 1 by omega, fpow, fpow, h]; grind
theorem fpow_mul (x : Fp) (m : Nat) : ∀ n, fpow x (m * n) = fpow (fpow x m) n
  | 0 => rfl
  | n + 1 => by rw [Nat.mul_succ, fpow_add, fpow, fpow_mul x m n]
theorem mul_fpow (x y : Fp) : ∀ n, fpow (x * y) n = fpow x n * fpow y n
  | 0 => by show (1 : Fp) = 1 * 1; grind
  | n + 1 => by rw [fpow, fpow, fpow, mul_fpow x y n]; grind
theorem fpow_val (x : Fp) : ∀ n, (fpow x n).val = x.val ^ n % PP
  | 0 => by show (1 : Fp).val = _; rw [fp_one_val]; rfl
  | n + 1 => by rw [fpow, fp_mul_val, fpow_val x n, Nat.pow_succ, Nat.mul_mod, Nat.mod_mod, ← Nat.mul_mod]
theorem fpow_one (x : Fp) : fpow x 1 = x := by show 1 * x = x; grind
theorem one_fpow : ∀ n, fpow 1 n = 1
  | 0 => rfl
  | n + 1 => by rw [fpow, one_fpow n]; grind
theorem zero_fpow {n : Nat} (h : 0 < n) : fpow 0 n = 0 := by
  obtain ⟨m, rfl⟩ : ∃ m, n = m + 1 := ⟨n - 1, by omega⟩
  rw [fpow]; grind
theorem fpow_ne {x : Fp} (h : x ≠ 0) : ∀ n, fpow x n ≠ 0
  | 0 => fp_one_ne
  | n + 1 => by rw [fpow]; exact fp_mul_ne (fpow_ne h n) h

theorem fp_fermat {x : Fp} (h : x ≠ 0) : fpow x (PP - 1) = 1 := by
  refine fp_ext ?_
  rw [fpow_val, fp_one_val]
  exact PP_prime.fermat1 (fun hd => h (fp_dvd.1 hd))

/-- the inverse; of 0: 0 -/
def finv (x : Fp) : Fp := fpow x (PP - 2)
theorem mul_finv {x : Fp} (h : x ≠ 0) : x * finv x = 1 := by
  have := fp_fermat h
  rw [show PP - 1 = (PP - 2) + 1 from rfl, fpow] at this
  unfold finv; grind
theorem finv_zero : finv 0 = 0 := zero_fpow (by decide)
theorem finv_ne {x : Fp} (h : x ≠ 0) : finv x ≠ 0 := fpow_ne h _
theorem finv_finv (x : Fp) : finv (finv x) = x := by
  by_cases h : x = 0
  · subst h; rw [finv_zero, finv_zero]
  · have h1 := mul_finv h
    have h2 := mul_finv (finv_ne h)
    refine fp_cancel (finv_ne h) ?_
    rw [h2]; grind
theorem finv_mul (x y : Fp) : finv (x * y) = finv x * finv y := mul_fpow x y _
theorem finv_unique {x y : Fp} (h : x * y = 1) : y = finv x := by
  have hx : x ≠ 0 := by intro e; subst e; exact fp_one_ne (by grind)
  exact fp_cancel hx (by rw [h, mul_finv hx])
theorem finv_one : finv 1 = 1 := one_fpow _

/-! ### squares -/

def isSq (x : Fp) : Prop := ∃ t : Fp, t * t = x
/-- half of P - 1, and the k with P = 8 k + 5 -/
def HH : Nat := 28948022309329048855892746252171976963317496166410141009864396001978282409974
def KK : Nat := 7237005577332262213973186563042994240829374041602535252466099000494570602493
theorem HH_eq : PP - 1 = HH + HH := by decide +kernel
theorem KK_eq : HH = (KK + KK) + (KK + KK) + 2 := by decide +kernel

theorem sq_zero {x : Fp} (h : x * x = 0) : x = 0 := by rcases fp_mul_zero h with h | h <;> exact h
theorem sq_eq {x y : Fp} (h : x * x = y * y) : x = y ∨ x = -y := by
  have : (x - y) * (x + y) = 0 := by grind
  rcases fp_mul_zero this with h1 | h1
  · exact .inl (by grind)
  · exact .inr (by grind)

theorem half_cases {x : Fp} (h : x ≠ 0) : fpow x HH = 1 ∨ fpow x HH = -1 := by
  have h1 := fp_fermat h
  rw [HH_eq, fpow_add] at h1
  refine sq_eq (y := 1) ?_
  grind
theorem isSq.half {x : Fp} (hx : x ≠ 0) (h : isSq x) : fpow x HH = 1 := by
  obtain ⟨t, rfl⟩ := h
  have ht : t ≠ 0 := by rintro rfl; exact hx (by grind)
  rw [mul_fpow, ← fpow_add, ← HH_eq]; exact fp_fermat ht

theorem pw_of {a n r : Nat} (f : Nat) (hn : n < 2 ^ f) (h : pmGo PP f a n 1 % PP = r % PP) : fpow (toF a) n = toF r := by
  refine fp_ext ?_
  rw [fpow_val, toF_val, toF_val, ← Nat.pow_mod]
  have := pmGo_eq (n := PP) f a n 1 hn
  rw [Nat.one_mul] at this
  rw [← this, h]

theorem toF_one : toF 1 = 1 := by decide +kernel
theorem toF_two : toF 2 = 2 := by decide +kernel
theorem toF_m1 : toF (PP - 1) = -1 := by decide +kernel
theorem one_ne_m1 : (1 : Fp) ≠ -1 := by decide +kernel

theorem two_half : fpow 2 HH = -1 := by
  rw [← toF_two, ← toF_m1]
  exact pw_of 255 (by decide +kernel) (by decide +kernel)
theorem not_sq_of {x : Fp} (hx : x ≠ 0) (h : fpow x HH = -1) : ¬ isSq x := fun hs => one_ne_m1 ((hs.half hx).symm.trans h)
theorem two_not_sq : ¬ isSq 2 := not_sq_of fp_two_ne two_half

/-- a root of -1 -/
def fi : Fp := fpow 2 (KK + KK + 1)
theorem fi_sq : fi * fi = -1 := by
  rw [← two_half, KK_eq, fi, ← fpow_add]
  congr 1
theorem fi_ne : fi ≠ 0 := fpow_ne fp_two_ne _

/-- the root that is tried first -/
theorem rt_four {x : Fp} (h : fpow x HH = 1) : (fpow x (KK + 1) * fpow x (KK + 1)) * (fpow x (KK + 1) * fpow x (KK + 1)) = x * x := by
  rw [← fpow_add, ← fpow_add, show KK + 1 + (KK + 1) + (KK + 1 + (KK + 1)) = HH + 2 by rw [KK_eq]; omega, fpow_add, h]
  show 1 * (1 * x * x) = _
  grind
theorem rt_cases {x : Fp} (h : fpow x HH = 1) : fpow x (KK + 1) * fpow x (KK + 1) = x ∨ fpow x (KK + 1) * fpow x (KK + 1) = -x := sq_eq (rt_four h)
theorem half_isSq {x : Fp} (h : fpow x HH = 1) : isSq x := by
  rcases rt_cases h with h1 | h1
  · exact ⟨_, h1⟩
  · refine ⟨fpow x (KK + 1) * fi, ?_⟩
    have := fi_sq
    grind
theorem isSq_iff {x : Fp} (hx : x ≠ 0) : isSq x ↔ fpow x HH = 1 := ⟨fun h => h.half hx, half_isSq⟩
theorem not_sq {x : Fp} (h : ¬ isSq x) : x ≠ 0 ∧ fpow x HH = -1 := by
  have hx : x ≠ 0 := by rintro rfl; exact h ⟨0, by grind⟩
  refine ⟨hx, ?_⟩
  rcases half_cases hx with h1 | h1
  · exact absurd (half_isSq h1) h
  · exact h1
theorem not_sq_mul {x y : Fp} (hx : ¬ isSq x) (hy : ¬ isSq y) : isSq (x * y) := by
  have h1 := not_sq hx
  have h2 := not_sq hy
  refine half_isSq ?_
  rw [mul_fpow, h1.2, h2.2]; grind
theorem isSq_mul {x y : Fp} (hx : isSq x) (hy : isSq y) : isSq (x * y) := by
  obtain ⟨s, rfl⟩ := hx
  obtain ⟨t, rfl⟩ := hy
  exact ⟨s * t, by grind⟩
theorem isSq_neg {x : Fp} (hx : isSq x) : isSq (-x) := by
  obtain ⟨s, rfl⟩ := hx
  exact ⟨fi * s, by have := fi_sq; grind⟩
theorem isSq_inv {x : Fp} (hx : isSq x) : isSq (finv x) := by
  obtain ⟨s, rfl⟩ := hx
  exact ⟨finv s, by rw [finv_mul]⟩
theorem not_sq_mul_sq {x y : Fp} (hx : ¬ isSq x) (hy : isSq y) (h0 : y ≠ 0) : ¬ isSq (x * y) := fun h => hx (by
  have := isSq_mul h (isSq_inv hy)
  have h1 := mul_finv h0
  rwa [show x * y * finv y = x by grind] at this)

/-- halves -/
theorem two_inv : (2 : Fp) * finv 2 = 1 := mul_finv fp_two_ne

end Pw

namespace Pw
open Go

/-! ### the document's numbers as numbers of the field -/

def ok4 (y : L4) : Prop := y.wf ∧ val4 y < PP
def rv (y : L4) : Fp := toF (val4 y)

theorem rv_val {y : L4} (h : ok4 y) : (rv y).val = val4 y := by unfold rv; rw [toF_val]; exact Nat.mod_eq_of_lt h.2
theorem fv_val (x : L5) : (fv x).val = val5 x % PP := by unfold fv; rw [toF_val]
theorem Sim.ok4 {x : L5} {y : L4} (h : Sim x y) : ok4 y := ⟨h.wf, h.lt⟩
theorem Sim.fv {x : L5} {y : L4} (h : Sim x y) : fv x = rv y := by
  refine fp_ext ?_
  rw [fv_val, rv_val h.ok4, h.eq]
theorem sim_of {x : L5} {y : L4} (hx : ok5 x) (hy : ok4 y) (h : Pw.fv x = rv y) : Sim x y := ⟨hx, hy.1, hy.2, by rw [← fv_val, h, rv_val hy]⟩

theorem mod_PP (n : Nat) : n % PP < PP := Nat.mod_lt _ PP_pos
theorem rv_of {y : L4} {n : Nat} (h : val4 y = n % PP) : rv y = toF n := by
  refine fp_ext ?_
  rw [rv, toF_val, toF_val, h, Nat.mod_mod]
theorem rmul_ok {x y : L4} (hx : ok4 x) (hy : ok4 y) : ok4 (mulR x y) := by
  obtain ⟨h1, h2⟩ := mulR_val hx.1 hy.1
  exact ⟨h1, by rw [h2]; exact mod_PP _⟩
theorem rv_mul {x y : L4} (hx : ok4 x) (hy : ok4 y) : rv (mulR x y) = rv x * rv y := by
  rw [rv_of (mulR_val hx.1 hy.1).2, toF_mul]; rfl
theorem radd_ok {x y : L4} (hx : ok4 x) (hy : ok4 y) : ok4 (addR x y) := by
  obtain ⟨h1, h2⟩ := addR_val hx.1 hy.1 hx.2 hy.2
  exact ⟨h1, by rw [h2]; exact mod_PP _⟩
theorem rv_add {x y : L4} (hx : ok4 x) (hy : ok4 y) : rv (addR x y) = rv x + rv y := by
  rw [rv_of (addR_val hx.1 hy.1 hx.2 hy.2).2, toF_add]; rfl
theorem rneg_ok {x : L4} (hx : ok4 x) : ok4 (negR x) := by
  obtain ⟨h1, h2⟩ := negR_val hx.1 hx.2
  exact ⟨h1, by rw [h2]; exact mod_PP _⟩
theorem rv_neg {x : L4} (hx : ok4 x) : rv (negR x) = - rv x := by
  have h := (negR_val hx.1 hx.2).2
  have h1 : rv (negR x) + rv x = 0 := by
    unfold rv
    rw [← toF_add, h, ← toF_zero, toF_eq, Nat.mod_add_mod]
    have := hx.2
    rw [show PP - val4 x + val4 x = PP by omega, Nat.mod_self, Nat.zero_mod]
  grind
theorem rsub_ok {x y : L4} (hx : ok4 x) (hy : ok4 y) : ok4 (subR x y) := radd_ok hx (rneg_ok hy)
theorem rv_sub {x y : L4} (hx : ok4 x) (hy : ok4 y) : rv (subR x y) = rv x - rv y := by
  unfold subR
  rw [rv_add hx (rneg_ok hy), rv_neg hy]; grind
theorem rsmall_ok {n : Nat} (hn : n < 18446744073709551616) : ok4 (smallR n) := by
  obtain ⟨h1, h2⟩ := smallR_wf hn
  exact ⟨h1, by rw [h2]; exact small_lt hn⟩
theorem rv_small {n : Nat} (hn : n < 18446744073709551616) : rv (smallR n) = toF n := by unfold rv; rw [(smallR_wf hn).2]
theorem rzero_ok : ok4 zeroR := Sim.zero.ok4
theorem rv_zero : rv zeroR = 0 := by rw [← Sim.zero.fv, fv_zero]
theorem rtimes_ok {x : L4} (hx : ok4 x) {n : Nat} (hn : n < 18446744073709551616) : ok4 (timesR x n) := rmul_ok hx (rsmall_ok hn)
theorem rv_times {x : L4} (hx : ok4 x) {n : Nat} (hn : n < 18446744073709551616) : rv (timesR x n) = rv x * toF n := by unfold timesR; rw [rv_mul hx (rsmall_ok hn), rv_small hn]
theorem rfrom_ok {k : K32} (hk : k.wf) : ok4 (fromR k) := (Sim.from hk).ok4
theorem rv_from {k : K32} (hk : k.wf) : rv (fromR k) = toF (leVal k % B255) := by rw [← (Sim.from hk).fv, from_fv hk]
theorem requal_rv {x y : L4} (hx : ok4 x) (hy : ok4 y) : equalR x y = decide (rv x = rv y) := by
  rw [equalR_val hx.1 hy.1]
  refine decide_eq_decide.2 ⟨fun h => ?_, fun h => ?_⟩
  · unfold rv; rw [h]
  · rw [← rv_val hx, ← rv_val hy, h]
theorem rv_inj {x y : L4} (hx : ok4 x) (hy : ok4 y) (h : rv x = rv y) : x = y := val4_inj hx.1 hy.1 (by rw [← rv_val hx, ← rv_val hy, h])
theorem risZero_rv {x : L4} (hx : ok4 x) : isZeroR x = decide (rv x = 0) := by
  unfold isZeroR
  rw [requal_rv hx rzero_ok, rv_zero]
theorem oddR_rv {x : L4} (hx : ok4 x) : oddR x = decide ((rv x).val % 2 = 1) := by
  rw [rv_val hx]
  unfold oddR val4
  exact decide_eq_decide.2 (by omega)
theorem rbytes_val {x : L4} (hx : ok4 x) : leVal (bytesR4 x) = (rv x).val := by rw [rv_val hx]; exact bytesR_val hx.1

/-- the form of a number of the field -/
theorem bytes_val {x : L5} (hx : ok5 x) : leVal (bytesS x) = (fv x).val := by rw [leVal_bytes hx, fv_val]
theorem oddS_fv {x : L5} (hx : ok5 x) : oddS x = decide ((fv x).val % 2 = 1) := by
  rw [oddS_eq hx.wf, fv_val]

/-! ### powers by bits -/

theorem and_one (n : Nat) : n &&& 1 = n % 2 := Nat.and_one_is_mod n
theorem fpow_two_pow_succ (x : Fp) (n : Nat) : fpow x (2 ^ (n + 1)) = fpow x (2 ^ n) * fpow x (2 ^ n) := by
  rw [Nat.pow_succ, Nat.mul_comm, Nat.two_mul, fpow_add]

/-- one byte more of an exponent, bit after bit from the highest -/
theorem fpow_bit {r a : Fp} {k n : Nat} {c : Bool} {m : Nat} (hm : m = 2 * n + (if c then 1 else 0)) :
    (bif c then fpow r (2 ^ k) * fpow a n * (fpow r (2 ^ k) * fpow a n) * a else fpow r (2 ^ k) * fpow a n * (fpow r (2 ^ k) * fpow a n)) = fpow r (2 ^ (k + 1)) * fpow a m := by
  subst hm
  rw [fpow_two_pow_succ, Nat.two_mul, fpow_add, fpow_add]
  generalize fpow r (2 ^ k) = R
  generalize fpow a n = A
  cases c
  · simp only [cond_false, Bool.false_eq_true, if_false]
    rw [show fpow a 0 = 1 from rfl]; grind
  · simp only [cond_true, if_true]
    rw [fpow_one]; grind

/-! ### roots -/

def rtF (a : Fp) : Fp := if fpow a (KK + 1) * fpow a (KK + 1) = a then fpow a (KK + 1) else fpow a (KK + 1) * fi
/-- the even root, or 0 -/
def rootF (a : Fp) : Fp := if rtF a * rtF a = a then (if (rtF a).val % 2 = 1 then -rtF a else rtF a) else 0
def hasRoot (a : Fp) : Bool := decide (rtF a * rtF a = a)

theorem fpow_zero_pos {n : Nat} : fpow 0 (n + 1) = 0 := zero_fpow (by omega)
theorem hasRoot_iff (a : Fp) : hasRoot a = true ↔ isSq a := by
  unfold hasRoot
  rw [decide_eq_true_eq]
  constructor
  · intro h; exact ⟨_, h⟩
  · intro h
    unfold rtF
    split
    · assumption
    · rename_i hne
      have ha : a ≠ 0 := by
        rintro rfl
        refine hne ?_
        rw [fpow_zero_pos]; grind
      rcases rt_cases (h.half ha) with h1 | h1
      · exact absurd h1 hne
      · have := fi_sq
        generalize fpow a (KK + 1) = t at *
        clear hne h
        grind
theorem rootF_sq {a : Fp} (h : isSq a) : rootF a * rootF a = a := by
  have h1 := (hasRoot_iff a).2 h
  unfold hasRoot at h1
  rw [decide_eq_true_eq] at h1
  unfold rootF
  rw [if_pos h1]
  generalize rtF a = t at *
  split
  · grind
  · exact h1
theorem rootF_none {a : Fp} (h : ¬ isSq a) : rootF a = 0 := by
  have h1 : ¬ rtF a * rtF a = a := fun e => h ⟨_, e⟩
  unfold rootF
  rw [if_neg h1]
theorem fneg_val {a : Fp} (h : a ≠ 0) : (-a).val = PP - a.val := by
  have hlt := fp_lt a
  have h0 : a.val ≠ 0 := fun e => h (fp_ext e)
  have h1 : (-a + a : Fp) = 0 := by grind
  have h2 : ((-a).val + a.val) % PP = 0 := by rw [← Fin.val_add, h1]; rfl
  have h3 := fp_lt (-a)
  rcases Nat.lt_or_ge ((-a).val + a.val) PP with h4 | h4
  · rw [Nat.mod_eq_of_lt h4] at h2; omega
  · have : ((-a).val + a.val) % PP = (-a).val + a.val - PP := by
      rw [Nat.mod_eq_sub_mod h4]; exact Nat.mod_eq_of_lt (by omega)
    omega
theorem PP_odd : PP % 2 = 1 := by decide +kernel
theorem rootF_even (a : Fp) : (rootF a).val % 2 = 0 := by
  unfold rootF
  split
  · split
    · rename_i h
      have hne : rtF a ≠ 0 := by intro e; rw [e] at h; exact absurd h (by decide)
      have h1 := fneg_val hne
      have h2 := fp_lt (rtF a)
      have h3 := PP_odd
      omega
    · omega
  · rfl
/-- of the two roots one is even -/
theorem even_root {s t : Fp} (h : s * s = t * t) (hs : s.val % 2 = 0) (ht : t.val % 2 = 0) : s = t := by
  rcases sq_eq h with h1 | h1
  · exact h1
  · by_cases h0 : t = 0
    · subst h0; grind
    · have h2 := fneg_val h0
      have h3 := fp_lt t
      have h4 := PP_odd
      rw [h1, h2] at hs; omega
theorem rootF_zero : rootF 0 = 0 := sq_zero (rootF_sq ⟨0, by grind⟩)

end Pw

namespace Pw

/-! ### the group of an Edwards curve whose law has no exceptions -/

structure EC where
  a : Fp
  d : Fp
  al : Fp
  ha : al * al = a
  hal : al ≠ 0
  hd : ¬ isSq d

structure EP (E : EC) where
  x : Fp
  y : Fp
  on : E.a * x * x + y * y = 1 + E.d * x * x * y * y

theorem EP.ext' {E : EC} {p q : EP E} (hx : p.x = q.x) (hy : p.y = q.y) : p = q := by
  cases p; cases q; simp at hx hy; subst hx; subst hy; rfl

theorem den_ne {E : EC} {x1 y1 x2 y2 ε : Fp} (e1 : E.a * x1 * x1 + y1 * y1 = 1 + E.d * x1 * x1 * y1 * y1) (e2 : E.a * x2 * x2 + y2 * y2 = 1 + E.d * x2 * x2 * y2 * y2) (hε : ε * ε = 1) :
    E.d * x1 * x2 * y1 * y2 ≠ ε := by
  intro h
  have hε0 : ε ≠ 0 := by rintro rfl; exact fp_one_ne (by grind)
  have hx1 : x1 ≠ 0 := by rintro rfl; exact hε0 (by grind)
  have hx2 : x2 ≠ 0 := by rintro rfl; exact hε0 (by grind)
  have hy1 : y1 ≠ 0 := by rintro rfl; exact hε0 (by grind)
  have ha := E.ha
  have key : ∀ s : Fp, s * s = 1 → (E.al * x1 + s * ε * y1) * (E.al * x1 + s * ε * y1) = E.d * (x1 * y1 * (E.al * x2 + s * y2)) * (x1 * y1 * (E.al * x2 + s * y2)) := by
    intro s hs
    generalize E.d = d at *
    generalize E.a = a at *
    generalize E.al = al at *
    grind
  have fin : ∀ s : Fp, s * s = 1 → E.al * x2 + s * y2 ≠ 0 → False := by
    intro s hs hne
    have h1 := key s hs
    have hw : x1 * y1 * (E.al * x2 + s * y2) ≠ 0 := fp_mul_ne (fp_mul_ne hx1 hy1) hne
    refine E.hd ⟨(E.al * x1 + s * ε * y1) * finv (x1 * y1 * (E.al * x2 + s * y2)), ?_⟩
    have h2 := mul_finv hw
    generalize x1 * y1 * (E.al * x2 + s * y2) = w at *
    generalize E.al * x1 + s * ε * y1 = n at *
    grind
  by_cases h1 : E.al * x2 + 1 * y2 = 0
  · refine fin (-1) (by grind) fun h2 => ?_
    have : (2 : Fp) * (E.al * x2) = 0 := by grind
    rcases fp_mul_zero this with h3 | h3
    · exact fp_two_ne h3
    · exact fp_mul_ne E.hal hx2 h3
  · exact fin 1 (by grind) h1

theorem den_p {E : EC} (p q : EP E) : 1 + E.d * p.x * q.x * p.y * q.y ≠ 0 := fun h => den_ne p.on q.on (ε := -1) (by grind) (by grind)
theorem den_m {E : EC} (p q : EP E) : 1 - E.d * p.x * q.x * p.y * q.y ≠ 0 := fun h => den_ne p.on q.on (ε := 1) (by grind) (by grind)

theorem add_on {a d x1 y1 x2 y2 X Y : Fp} (e1 : a * x1 * x1 + y1 * y1 = 1 + d * x1 * x1 * y1 * y1) (e2 : a * x2 * x2 + y2 * y2 = 1 + d * x2 * x2 * y2 * y2)
    (hu : 1 + d * x1 * x2 * y1 * y2 ≠ 0) (hv : 1 - d * x1 * x2 * y1 * y2 ≠ 0)
    (hX : X * (1 + d * x1 * x2 * y1 * y2) = x1 * y2 + y1 * x2) (hY : Y * (1 - d * x1 * x2 * y1 * y2) = y1 * y2 - a * x1 * x2) : a * X * X + Y * Y = 1 + d * X * X * Y * Y := by
  have id : a * (x1 * y2 + y1 * x2) * (x1 * y2 + y1 * x2) * ((1 - d * x1 * x2 * y1 * y2) * (1 - d * x1 * x2 * y1 * y2)) + (y1 * y2 - a * x1 * x2) * (y1 * y2 - a * x1 * x2) * ((1 + d * x1 * x2 * y1 * y2) * (1 + d * x1 * x2 * y1 * y2)) =
    (1 + d * x1 * x2 * y1 * y2) * (1 + d * x1 * x2 * y1 * y2) * ((1 - d * x1 * x2 * y1 * y2) * (1 - d * x1 * x2 * y1 * y2)) + d * (x1 * y2 + y1 * x2) * (x1 * y2 + y1 * x2) * (y1 * y2 - a * x1 * x2) * (y1 * y2 - a * x1 * x2) := by
    clear hX hY hu hv
    grind
  rw [← hX, ← hY] at id
  generalize 1 + d * x1 * x2 * y1 * y2 = u at *
  generalize 1 - d * x1 * x2 * y1 * y2 = v at *
  have : (u * u * (v * v)) * (a * X * X + Y * Y) = (u * u * (v * v)) * (1 + d * X * X * Y * Y) := by
    clear e1 e2 hX hY hu hv
    grind
  exact fp_cancel (fp_mul_ne (fp_mul_ne hu hu) (fp_mul_ne hv hv)) this

theorem mul_inv_mul {n w : Fp} (h : w ≠ 0) : n * finv w * w = n := by
  have := mul_finv h
  grind

def EP.add {E : EC} (p q : EP E) : EP E :=
  ⟨(p.x * q.y + p.y * q.x) * finv (1 + E.d * p.x * q.x * p.y * q.y), (p.y * q.y - E.a * p.x * q.x) * finv (1 - E.d * p.x * q.x * p.y * q.y),
    add_on p.on q.on (den_p p q) (den_m p q) (mul_inv_mul (den_p p q)) (mul_inv_mul (den_m p q))⟩
theorem add_x {E : EC} (p q : EP E) : (p.add q).x * (1 + E.d * p.x * q.x * p.y * q.y) = p.x * q.y + p.y * q.x := mul_inv_mul (den_p p q)
theorem add_y {E : EC} (p q : EP E) : (p.add q).y * (1 - E.d * p.x * q.x * p.y * q.y) = p.y * q.y - E.a * p.x * q.x := mul_inv_mul (den_m p q)
/-- what has the sum's numbers is the sum -/
theorem add_eq {E : EC} {p q r : EP E} (hx : r.x * (1 + E.d * p.x * q.x * p.y * q.y) = p.x * q.y + p.y * q.x) (hy : r.y * (1 - E.d * p.x * q.x * p.y * q.y) = p.y * q.y - E.a * p.x * q.x) : p.add q = r := by
  refine EP.ext' (fp_cancel (den_p p q) ?_) (fp_cancel (den_m p q) ?_)
  · have := add_x p q; grind
  · have := add_y p q; grind

def EP.zero (E : EC) : EP E := ⟨0, 1, by grind⟩
def EP.neg {E : EC} (p : EP E) : EP E := ⟨-p.x, p.y, by have := p.on; grind⟩

theorem EP.add_comm {E : EC} (p q : EP E) : p.add q = q.add p := by
  have h1 := add_x q p
  have h2 := add_y q p
  exact add_eq (by grind) (by grind)
theorem EP.zero_add {E : EC} (p : EP E) : (EP.zero E).add p = p := by
  refine add_eq ?_ ?_ <;> simp only [EP.zero] <;> grind
theorem EP.add_zero {E : EC} (p : EP E) : p.add (EP.zero E) = p := by rw [EP.add_comm, EP.zero_add]
theorem EP.neg_add {E : EC} (p : EP E) : p.neg.add p = EP.zero E := by
  have := p.on
  refine add_eq ?_ ?_ <;> simp only [EP.zero, EP.neg] <;> grind
theorem EP.add_neg {E : EC} (p : EP E) : p.add p.neg = EP.zero E := by rw [EP.add_comm, EP.neg_add]

theorem assoc_x {a d x1 y1 x2 y2 x3 y3 u v s t X Y : Fp} (e1 : a * x1 * x1 + y1 * y1 = 1 + d * x1 * x1 * y1 * y1) (e2 : a * x2 * x2 + y2 * y2 = 1 + d * x2 * x2 * y2 * y2) (e3 : a * x3 * x3 + y3 * y3 = 1 + d * x3 * x3 * y3 * y3)
    (hu : u * (1 + d * x1 * x2 * y1 * y2) = x1 * y2 + y1 * x2) (hv : v * (1 - d * x1 * x2 * y1 * y2) = y1 * y2 - a * x1 * x2)
    (hs : s * (1 + d * x2 * x3 * y2 * y3) = x2 * y3 + y2 * x3) (ht : t * (1 - d * x2 * x3 * y2 * y3) = y2 * y3 - a * x2 * x3)
    (n1 : 1 + d * x1 * x2 * y1 * y2 ≠ 0) (n2 : 1 - d * x1 * x2 * y1 * y2 ≠ 0) (n3 : 1 + d * x2 * x3 * y2 * y3 ≠ 0) (n4 : 1 - d * x2 * x3 * y2 * y3 ≠ 0)
    (m1 : 1 + d * u * x3 * v * y3 ≠ 0) (m2 : 1 + d * x1 * s * y1 * t ≠ 0)
    (hX : X * (1 + d * u * x3 * v * y3) = u * y3 + v * x3) (hY : Y * (1 + d * x1 * s * y1 * t) = x1 * t + y1 * s) : X = Y := by
  have key : ((x1 * y2 + y1 * x2) * (1 - d * x1 * x2 * y1 * y2) * y3 + x3 * (y1 * y2 - a * x1 * x2) * (1 + d * x1 * x2 * y1 * y2)) * ((1 - d * x2 * x3 * y2 * y3) * (1 + d * x2 * x3 * y2 * y3) + d * (x2 * y3 + y2 * x3) * (y2 * y3 - a * x2 * x3) * x1 * y1)
     = ((x2 * y3 + y2 * x3) * (1 - d * x2 * x3 * y2 * y3) * y1 + x1 * (y2 * y3 - a * x2 * x3) * (1 + d * x2 * x3 * y2 * y3)) * ((1 - d * x1 * x2 * y1 * y2) * (1 + d * x1 * x2 * y1 * y2) + d * (x1 * y2 + y1 * x2) * (y1 * y2 - a * x1 * x2) * x3 * y3) := by
    clear hu hv hs ht n1 n2 n3 n4 m1 m2 hX hY
    grind
  rw [← hu, ← hv, ← hs, ← ht] at key
  generalize 1 + d * x1 * x2 * y1 * y2 = A at *
  generalize 1 - d * x1 * x2 * y1 * y2 = B at *
  generalize 1 + d * x2 * x3 * y2 * y3 = C at *
  generalize 1 - d * x2 * x3 * y2 * y3 = D at *
  have k2 : (A * B * (C * D)) * ((u * y3 + v * x3) * (1 + d * x1 * s * y1 * t)) = (A * B * (C * D)) * ((x1 * t + y1 * s) * (1 + d * u * x3 * v * y3)) := by
    clear e1 e2 e3 hu hv hs ht n1 n2 n3 n4 m1 m2 hX hY
    grind
  have k3 := fp_cancel (fp_mul_ne (fp_mul_ne n1 n2) (fp_mul_ne n3 n4)) k2
  rw [← hX, ← hY] at k3
  generalize 1 + d * u * x3 * v * y3 = F at *
  generalize 1 + d * x1 * s * y1 * t = G at *
  refine fp_cancel (fp_mul_ne m1 m2) ?_
  clear e1 e2 e3 hu hv hs ht n1 n2 n3 n4 m1 m2 hX hY key k2
  grind

theorem assoc_y {a d x1 y1 x2 y2 x3 y3 u v s t X Y : Fp} (e1 : a * x1 * x1 + y1 * y1 = 1 + d * x1 * x1 * y1 * y1) (e2 : a * x2 * x2 + y2 * y2 = 1 + d * x2 * x2 * y2 * y2) (e3 : a * x3 * x3 + y3 * y3 = 1 + d * x3 * x3 * y3 * y3)
    (hu : u * (1 + d * x1 * x2 * y1 * y2) = x1 * y2 + y1 * x2) (hv : v * (1 - d * x1 * x2 * y1 * y2) = y1 * y2 - a * x1 * x2)
    (hs : s * (1 + d * x2 * x3 * y2 * y3) = x2 * y3 + y2 * x3) (ht : t * (1 - d * x2 * x3 * y2 * y3) = y2 * y3 - a * x2 * x3)
    (n1 : 1 + d * x1 * x2 * y1 * y2 ≠ 0) (n2 : 1 - d * x1 * x2 * y1 * y2 ≠ 0) (n3 : 1 + d * x2 * x3 * y2 * y3 ≠ 0) (n4 : 1 - d * x2 * x3 * y2 * y3 ≠ 0)
    (m1 : 1 - d * u * x3 * v * y3 ≠ 0) (m2 : 1 - d * x1 * s * y1 * t ≠ 0)
    (hX : X * (1 - d * u * x3 * v * y3) = v * y3 - a * u * x3) (hY : Y * (1 - d * x1 * s * y1 * t) = y1 * t - a * x1 * s) : X = Y := by
  have key : ((y1 * y2 - a * x1 * x2) * (1 + d * x1 * x2 * y1 * y2) * y3 - a * (x1 * y2 + y1 * x2) * (1 - d * x1 * x2 * y1 * y2) * x3) * ((1 - d * x2 * x3 * y2 * y3) * (1 + d * x2 * x3 * y2 * y3) - d * (x2 * y3 + y2 * x3) * (y2 * y3 - a * x2 * x3) * x1 * y1)
     = ((y2 * y3 - a * x2 * x3) * (1 + d * x2 * x3 * y2 * y3) * y1 - a * x1 * (x2 * y3 + y2 * x3) * (1 - d * x2 * x3 * y2 * y3)) * ((1 - d * x1 * x2 * y1 * y2) * (1 + d * x1 * x2 * y1 * y2) - d * (x1 * y2 + y1 * x2) * (y1 * y2 - a * x1 * x2) * x3 * y3) := by
    clear hu hv hs ht n1 n2 n3 n4 m1 m2 hX hY
    grind
  rw [← hu, ← hv, ← hs, ← ht] at key
  generalize 1 + d * x1 * x2 * y1 * y2 = A at *
  generalize 1 - d * x1 * x2 * y1 * y2 = B at *
  generalize 1 + d * x2 * x3 * y2 * y3 = C at *
  generalize 1 - d * x2 * x3 * y2 * y3 = D at *
  have k2 : (A * B * (C * D)) * ((v * y3 - a * u * x3) * (1 - d * x1 * s * y1 * t)) = (A * B * (C * D)) * ((y1 * t - a * x1 * s) * (1 - d * u * x3 * v * y3)) := by
    clear e1 e2 e3 hu hv hs ht n1 n2 n3 n4 m1 m2 hX hY
    grind
  have k3 := fp_cancel (fp_mul_ne (fp_mul_ne n1 n2) (fp_mul_ne n3 n4)) k2
  rw [← hX, ← hY] at k3
  generalize 1 - d * u * x3 * v * y3 = F at *
  generalize 1 - d * x1 * s * y1 * t = G at *
  refine fp_cancel (fp_mul_ne m1 m2) ?_
  clear e1 e2 e3 hu hv hs ht n1 n2 n3 n4 m1 m2 hX hY key k2
  grind

theorem EP.add_assoc {E : EC} (p q r : EP E) : (p.add q).add r = p.add (q.add r) := by
  refine EP.ext' ?_ ?_
  · exact assoc_x p.on q.on r.on (add_x p q) (add_y p q) (add_x q r) (add_y q r) (den_p p q) (den_m p q) (den_p q r) (den_m q r) (den_p (p.add q) r) (den_p p (q.add r)) (add_x (p.add q) r) (add_x p (q.add r))
  · exact assoc_y p.on q.on r.on (add_x p q) (add_y p q) (add_x q r) (add_y q r) (den_p p q) (den_m p q) (den_p q r) (den_m q r) (den_m (p.add q) r) (den_m p (q.add r)) (add_y (p.add q) r) (add_y p (q.add r))

/-! ### multiples -/

def EP.mul {E : EC} (p : EP E) : Nat → EP E
  | 0 => EP.zero E
  | n + 1 => (p.mul n).add p

theorem EP.mul_add {E : EC} (p : EP E) (m : Nat) : ∀ n, p.mul (m + n) = (p.mul m).add (p.mul n)
  | 0 => (EP.add_zero _).symm
  | n + 1 => by rw [show m + (n + 1) = (m + n) + 1 by omega, EP.mul, EP.mul_add p m n, EP.add_assoc]; rfl
theorem EP.mul_one {E : EC} (p : EP E) : p.mul 1 = p := by
  show p.mul (0 + 1) = p
  rw [EP.mul, EP.mul, EP.zero_add]
theorem EP.zero_mul {E : EC} : ∀ n, (EP.zero E).mul n = EP.zero E
  | 0 => rfl
  | n + 1 => by rw [EP.mul, EP.zero_mul n, EP.add_zero]
theorem EP.add_swap {E : EC} (A B p q : EP E) : (A.add B).add (p.add q) = (A.add p).add (B.add q) := by
  rw [EP.add_assoc A B, ← EP.add_assoc B p q, EP.add_comm B p, EP.add_assoc p B q, ← EP.add_assoc A p]
theorem EP.mul_zero {E : EC} (p : EP E) : p.mul 0 = EP.zero E := by rw [EP.mul]
theorem EP.mul_succ {E : EC} (p : EP E) (n : Nat) : p.mul (n + 1) = (p.mul n).add p := by rw [EP.mul]
theorem EP.add_mul {E : EC} (p q : EP E) (n : Nat) : (p.add q).mul n = (p.mul n).add (q.mul n) := by
  induction n with
  | zero => rw [EP.mul_zero, EP.mul_zero, EP.mul_zero, EP.zero_add]
  | succ n ih => rw [EP.mul_succ, ih, EP.add_swap, EP.mul_succ, EP.mul_succ]
theorem EP.mul_mul {E : EC} (p : EP E) (m : Nat) : ∀ n, p.mul (m * n) = (p.mul m).mul n
  | 0 => rfl
  | n + 1 => by rw [Nat.mul_succ, EP.mul_add, EP.mul_mul p m n]; rfl
theorem EP.neg_neg {E : EC} (p : EP E) : p.neg.neg = p := EP.ext' (by simp only [EP.neg]; grind) rfl
theorem EP.add_cancel {E : EC} {p q r : EP E} (h : p.add q = p.add r) : q = r := by
  have := congrArg (fun z => p.neg.add z) h
  simp only [← EP.add_assoc, EP.neg_add, EP.zero_add] at this
  exact this
theorem EP.neg_eq {E : EC} {p q : EP E} (h : p.add q = EP.zero E) : q = p.neg := EP.add_cancel (h.trans (EP.add_neg p).symm)
theorem EP.neg_add_rev {E : EC} (p q : EP E) : (p.add q).neg = p.neg.add q.neg := by
  symm
  apply EP.neg_eq
  rw [EP.add_assoc, ← EP.add_assoc q, EP.add_comm q, EP.add_assoc p.neg, EP.add_neg, EP.add_zero, EP.add_neg]
theorem EP.neg_mul {E : EC} (p : EP E) : ∀ n, p.neg.mul n = (p.mul n).neg
  | 0 => EP.ext' (by simp only [EP.mul, EP.neg, EP.zero]; grind) rfl
  | n + 1 => by rw [EP.mul, EP.neg_mul p n, EP.mul, EP.neg_add_rev]

end Pw

namespace Pw

/-! ### the ladder over the field -/

structure RF where
  a : Fp
  b : Fp
  c : Fp
  d : Fp
def RF.turn (r : RF) : RF := ⟨r.c, r.d, r.a, r.b⟩
/-- doubles the one and adds both -/
def stepF (x : Fp) (r : RF) : RF :=
  ⟨((r.a + r.b) * (r.a + r.b)) * ((r.a - r.b) * (r.a - r.b)),
   ((r.a + r.b) * (r.a + r.b) - (r.a - r.b) * (r.a - r.b)) * ((r.a + r.b) * (r.a + r.b) + 121665 * ((r.a + r.b) * (r.a + r.b) - (r.a - r.b) * (r.a - r.b))),
   ((r.c - r.d) * (r.a + r.b) + (r.c + r.d) * (r.a - r.b)) * ((r.c - r.d) * (r.a + r.b) + (r.c + r.d) * (r.a - r.b)),
   x * (((r.c - r.d) * (r.a + r.b) - (r.c + r.d) * (r.a - r.b)) * ((r.c - r.d) * (r.a + r.b) - (r.c + r.d) * (r.a - r.b)))⟩
def roundF (x : Fp) (on : Bool) (r : RF) : RF := bif on then (stepF x r.turn).turn else stepF x r
/-- the ladder after some rounds, from bit 254 down -/
def ladF (bit : Nat → Bool) (x : Fp) : Nat → RF
  | 0 => ⟨1, 0, x, 1⟩
  | i + 1 => roundF x (bit (254 - i)) (ladF bit x i)
def scaleF (bit : Nat → Bool) (x : Fp) : Fp := (ladF bit x 255).a * finv (ladF bit x 255).b

/-! ### the same with numbers, to be reckoned -/

structure RN where
  a : Nat
  b : Nat
  c : Nat
  d : Nat
def RN.turn (r : RN) : RN := ⟨r.c, r.d, r.a, r.b⟩
def stepN (x : Nat) (r : RN) : RN :=
  let e := (r.a + r.b) % PP
  let f := (r.a + (PP - r.b)) % PP
  let y := e * e % PP
  let z := f * f % PP
  let w := (y + (PP - z)) % PP
  let m := (r.c + (PP - r.d)) % PP * e % PP
  let n := (r.c + r.d) % PP * f % PP
  let p := (m + n) % PP
  let q := (m + (PP - n)) % PP
  ⟨y * z % PP, w * ((y + 121665 * w) % PP) % PP, p * p % PP, x * (q * q % PP) % PP⟩
def roundN (x : Nat) (on : Bool) (r : RN) : RN := bif on then (stepN x r.turn).turn else stepN x r
def ladN (s x : Nat) : Nat → RN
  | 0 => ⟨1, 0, x, 1⟩
  | i + 1 => roundN x (s.testBit (254 - i)) (ladN s x i)

structure RNF (n : RN) (r : RF) : Prop where
  a : n.a = r.a.val
  b : n.b = r.b.val
  c : n.c = r.c.val
  d : n.d = r.d.val
theorem add_valN (x y : Fp) : (x + y).val = (x.val + y.val) % PP := Fin.val_add x y
theorem sub_valN (x y : Fp) : (x - y).val = (x.val + (PP - y.val)) % PP := by
  rw [Fin.sub_def]
  show (PP - y.val + x.val) % PP = _
  rw [Nat.add_comm]
theorem c121665 : (121665 : Fp).val = 121665 := by decide +kernel
theorem RNF.turn {n : RN} {r : RF} (h : RNF n r) : RNF n.turn r.turn := ⟨h.c, h.d, h.a, h.b⟩
theorem RNF.step {n : RN} {r : RF} {x : Fp} (h : RNF n r) : RNF (stepN x.val n) (stepF x r) := by
  obtain ⟨h1, h2, h3, h4⟩ := h
  obtain ⟨na, nb, nc, nd⟩ := n
  obtain ⟨a, b, c, d⟩ := r
  dsimp only at h1 h2 h3 h4
  subst h1; subst h2; subst h3; subst h4
  refine ⟨?_, ?_, ?_, ?_⟩ <;> dsimp only [stepN, stepF] <;> simp only [fp_mul_val, add_valN, sub_valN, c121665]
  · rw [Nat.add_mod_mod]
theorem RNF.round {n : RN} {r : RF} {x : Fp} {c : Bool} (h : RNF n r) : RNF (roundN x.val c n) (roundF x c r) := by
  unfold roundN roundF
  cases c
  · exact h.step
  · exact h.turn.step.turn
theorem ladN_F (s : Nat) (x : Fp) : ∀ i, RNF (ladN s x.val i) (ladF s.testBit x i)
  | 0 => ⟨fp_one_val.symm, rfl, rfl, fp_one_val.symm⟩
  | i + 1 => (ladN_F s x i).round
/-- the ladder's answer, reckoned -/
def scaleN (s x : Nat) : Nat := (ladN s x 255).a * (pmGo PP 255 (ladN s x 255).b (PP - 2) 1 % PP) % PP
theorem scaleN_F (s : Nat) (x : Fp) : scaleN s x.val = (scaleF s.testBit x).val := by
  obtain ⟨h1, h2, h3, h4⟩ := ladN_F s x 255
  unfold scaleN scaleF
  rw [fp_mul_val, ← h1, finv, fpow_val, ← h2, pmGo_eq _ _ _ _ (by decide +kernel), Nat.one_mul]

end Pw

namespace Pw

/-! ### what the ladder computes: multiples on an Edwards curve -/

/-- a curve with the sign of its map to the numbers u, and the ladder's constant -/
structure LC where
  E : EC
  s : Fp
  c : Fp
  hs : s * s = 1
  h1 : 2 * c * E.a = 2 * 121665 + 1 + s
  h2 : 2 * c * E.d = 2 * 121665 + 1 - s

variable {C : LC}
theorem LC.s_ne (C : LC) : C.s ≠ 0 := by
  intro h
  have := C.hs
  rw [h] at this
  exact fp_one_ne (by grind)
theorem LC.cad (C : LC) : C.c * (C.E.a - C.E.d) = C.s := by
  have h1 := C.h1
  have h2 := C.h2
  refine fp_cancel fp_two_ne ?_
  grind

/-- two numbers of the ladder stand for a point -/
def Rep (C : LC) (a b : Fp) (Q : EP C.E) : Prop := ∃ t : Fp, t ≠ 0 ∧ a = t * C.s * (1 + Q.y) ∧ b = t * (1 - Q.y)

theorem rep_zero : Rep C 1 0 (EP.zero C.E) := by
  refine ⟨C.s * finv 2, fp_mul_ne C.s_ne (finv_ne fp_two_ne), ?_, ?_⟩
  · have h := C.hs
    have h2 := two_inv
    simp only [EP.zero]
    generalize finv 2 = i at *
    generalize C.s = s at *
    grind
  · simp only [EP.zero]; grind

theorem dbl_id {a d x Y s c t K : Fp} (e : a * x * x + Y * Y = 1 + d * x * x * Y * Y) (hs : s * s = 1) (h1 : 2 * c * a = 2 * K + 1 + s) (h2 : 2 * c * d = 2 * K + 1 - s) {u : Fp}
    (hu : u * (1 - d * x * x * Y * Y) = Y * Y - a * x * x) :
    let A := t * s * (1 + Y)
    let B := t * (1 - Y)
    let T := 8 * t * t * t * t * (1 - d * x * x * Y * Y) * c * (a - d * Y * Y)
    ((A + B) * (A + B)) * ((A - B) * (A - B)) = T * s * (1 + u) ∧
    ((A + B) * (A + B) - (A - B) * (A - B)) * ((A + B) * (A + B) + K * ((A + B) * (A + B) - (A - B) * (A - B))) = T * (1 - u) := by
  intro A B T
  have p1 : (A + B) * (A + B) = t * t * (2 + 2 * Y * Y + 2 * s * (1 - Y * Y)) := by
    clear e h1 h2 hu; grind
  have p2 : (A - B) * (A - B) = t * t * (2 + 2 * Y * Y - 2 * s * (1 - Y * Y)) := by
    clear e h1 h2 hu p1; grind
  have k1 : (1 - d * x * x * Y * Y) * (1 + u) = 2 * Y * Y * (1 - d * x * x) := by
    clear hs h1 h2 p1 p2; grind
  have k2 : (1 - d * x * x * Y * Y) * (1 - u) = 2 * (1 - Y * Y) := by
    clear hs h1 h2 p1 p2 k1; grind
  have k3 : (1 - d * x * x) * (a - d * Y * Y) = a - d := by
    clear hs h1 h2 p1 p2 k1 k2 hu; grind
  have k4 : 2 * c * (a - d) = 2 * s := by
    clear e hs p1 p2 k1 k2 k3 hu; grind
  have k5 : 2 * c * (a - d * Y * Y) = (2 * K + 1) * (1 - Y * Y) + s * (1 + Y * Y) := by
    clear e hs p1 p2 k1 k2 k3 k4 hu; grind
  constructor
  · have : T * s * (1 + u) = 4 * t * t * t * t * s * (2 * c * (a - d * Y * Y)) * ((1 - d * x * x * Y * Y) * (1 + u)) := by
      clear e hs h1 h2 p1 p2 k1 k2 k3 k4 k5 hu; grind
    rw [this, k1, p1, p2]
    have : 4 * t * t * t * t * s * (2 * c * (a - d * Y * Y)) * (2 * Y * Y * (1 - d * x * x)) = 8 * t * t * t * t * s * Y * Y * (2 * c * ((1 - d * x * x) * (a - d * Y * Y))) := by
      clear e hs h1 h2 p1 p2 k1 k2 k3 k4 k5 hu; grind
    rw [this, k3, k4]
    clear e h1 h2 p1 p2 k1 k2 k3 k4 k5 hu
    grind
  · have : T * (1 - u) = 4 * t * t * t * t * (2 * c * (a - d * Y * Y)) * ((1 - d * x * x * Y * Y) * (1 - u)) := by
      clear e hs h1 h2 p1 p2 k1 k2 k3 k4 k5 hu; grind
    rw [this, k2, k5, p1, p2]
    clear e h1 h2 p1 p2 k1 k2 k3 k4 k5 hu
    grind

theorem rep_dbl {a b : Fp} {Q : EP C.E} (h : Rep C a b Q) {x c d : Fp} : Rep C (stepF x ⟨a, b, c, d⟩).a (stepF x ⟨a, b, c, d⟩).b (Q.add Q) := by
  obtain ⟨t, ht, rfl, rfl⟩ := h
  have hu := add_y Q Q
  have id := dbl_id (t := t) (K := 121665) Q.on C.hs C.h1 C.h2 (u := (Q.add Q).y) hu
  refine ⟨_, ?_, id.1, id.2⟩
  have k3 : (1 - C.E.d * Q.x * Q.x) * (C.E.a - C.E.d * Q.y * Q.y) = C.E.a - C.E.d := by
    have := Q.on
    generalize C.E.d = d at *
    generalize C.E.a = a at *
    generalize Q.x = x at *
    generalize Q.y = y at *
    clear id hu
    grind
  have hc := C.cad
  have hne : C.E.a - C.E.d ≠ 0 := by
    intro h0
    rw [h0] at hc
    exact C.s_ne (by rw [← hc]; grind)
  have hc0 : C.c ≠ 0 := by
    intro h0
    rw [h0] at hc
    exact C.s_ne (by rw [← hc]; grind)
  have h5 : C.E.a - C.E.d * Q.y * Q.y ≠ 0 := by
    intro h0
    rw [h0] at k3
    exact hne (by rw [← k3]; grind)
  have h8 : (8 : Fp) ≠ 0 := by decide +kernel
  exact fp_mul_ne (fp_mul_ne (fp_mul_ne (fp_mul_ne (fp_mul_ne (fp_mul_ne (fp_mul_ne h8 ht) ht) ht) ht) (den_m Q Q)) hc0) h5

theorem add_id {a d x1 y1 x2 y2 u v : Fp} (e1 : a * x1 * x1 + y1 * y1 = 1 + d * x1 * x1 * y1 * y1) (e2 : a * x2 * x2 + y2 * y2 = 1 + d * x2 * x2 * y2 * y2)
    (hm : 1 - d * x1 * x2 * y1 * y2 ≠ 0) (hp : 1 + d * x1 * x2 * y1 * y2 ≠ 0)
    (hu : u * (1 - d * x1 * x2 * y1 * y2) = y1 * y2 - a * x1 * x2) (hv : v * (1 + d * x1 * x2 * y1 * y2) = y1 * y2 + a * x1 * x2) :
    (y1 + y2) * (y1 + y2) * (1 - u) * (1 - v) = (y2 - y1) * (y2 - y1) * (1 + u) * (1 + v) := by
  have key : (y1 + y2) * (y1 + y2) * (1 - d * x1 * x2 * y1 * y2 - (y1 * y2 - a * x1 * x2)) * (1 + d * x1 * x2 * y1 * y2 - (y1 * y2 + a * x1 * x2)) =
      (y2 - y1) * (y2 - y1) * (1 - d * x1 * x2 * y1 * y2 + (y1 * y2 - a * x1 * x2)) * (1 + d * x1 * x2 * y1 * y2 + (y1 * y2 + a * x1 * x2)) := by
    clear hm hp hu hv; grind
  rw [← hu, ← hv] at key
  generalize 1 - d * x1 * x2 * y1 * y2 = M at *
  generalize 1 + d * x1 * x2 * y1 * y2 = N at *
  refine fp_cancel (fp_mul_ne hm hp) ?_
  clear e1 e2 hm hp hu hv
  grind

theorem neg_id1 {d x1 x2 y1 y2 : Fp} : 1 - d * -x1 * x2 * y1 * y2 = 1 + d * x1 * x2 * y1 * y2 := by grind
theorem neg_id2 {a x1 x2 y1 y2 : Fp} : y1 * y2 - a * -x1 * x2 = y1 * y2 + a * x1 * x2 := by grind
theorem fin_id {A B u s x k : Fp} (hs : s * s = 1) (prop : A * (1 - u) = x * s * B * (1 + u)) : 8 * k * (A * s + x * B) * s * (1 + u) = 16 * k * A ∧ 8 * k * (A * s + x * B) * (1 - u) = 16 * k * (x * B) := by
  constructor
  · have e : 8 * k * (A * s + x * B) * s * (1 + u) = 8 * k * (A * (s * s) * (1 + u) + x * s * B * (1 + u)) := by clear hs prop; grind
    rw [e, hs, ← prop]
    clear hs prop e
    grind
  · have e : 8 * k * (A * s + x * B) * (1 - u) = 8 * k * (s * (A * (1 - u)) + x * B * (1 - u)) := by clear hs prop; grind
    rw [e, prop]
    have e2 : 8 * k * (s * (x * s * B * (1 + u)) + x * B * (1 - u)) = 8 * k * ((s * s) * (x * B * (1 + u)) + x * B * (1 - u)) := by clear hs prop e; grind
    rw [e2, hs]
    clear hs prop e e2
    grind
theorem y0_id {a d x y : Fp} (hy : y * y = 0) (e : a * x * x + y * y = 1 + d * x * x * y * y) : a * x * x = 1 := by grind
theorem y0_id2 {a d x1 x2 y1 y2 v : Fp} (hy : y1 * y2 = 0) (e : v * (1 + d * x1 * x2 * y1 * y2) = y1 * y2 + a * x1 * x2) : v = a * x1 * x2 := by grind
theorem y0_id3 {a x1 x2 : Fp} (e : a * x1 * x1 = 1) (f : a * x2 * x2 = 1) : a * x1 * x2 * (a * x1 * x2) = 1 := by grind
theorem y0_id4 {v : Fp} (e : v * v = 1) : (1 - v) * (1 + v) = 0 := by grind
theorem neg_y (Q : EP C.E) : Q.neg.y = Q.y := rfl
/-- the difference of two points, up to its sign, is what x stands for -/
theorem rep_add {a b c d x : Fp} {Q R D : EP C.E} (hQ : Rep C a b Q) (hR : Rep C c d R) (hD : Q.neg.add R = D) (hx : x * (1 - D.y) = C.s * (1 + D.y)) (hx0 : x ≠ 0) :
    Rep C (stepF x ⟨a, b, c, d⟩).c (stepF x ⟨a, b, c, d⟩).d (Q.add R) := by
  obtain ⟨t, ht, rfl, rfl⟩ := hQ
  obtain ⟨w, hw, rfl, rfl⟩ := hR
  have hs := C.hs
  have hu := add_y Q R
  have hv0 : D.y * (1 - C.E.d * -Q.x * R.x * Q.y * R.y) = Q.y * R.y - C.E.a * -Q.x * R.x := by
    have := add_y Q.neg R
    rw [hD] at this
    exact this
  have hv : D.y * (1 + C.E.d * Q.x * R.x * Q.y * R.y) = Q.y * R.y + C.E.a * Q.x * R.x := by
    rw [neg_id1, neg_id2] at hv0
    exact hv0
  have id := add_id Q.on R.on (den_m Q R) (den_p Q R) hu hv
  have cc : (stepF x ⟨t * C.s * (1 + Q.y), t * (1 - Q.y), w * C.s * (1 + R.y), w * (1 - R.y)⟩).c = 16 * t * t * w * w * (Q.y + R.y) * (Q.y + R.y) := by
    dsimp only [stepF]
    clear hu hv hv0 id hx hD
    generalize C.s = s at *
    generalize Q.y = y1 at *
    generalize R.y = y2 at *
    grind
  have dd : (stepF x ⟨t * C.s * (1 + Q.y), t * (1 - Q.y), w * C.s * (1 + R.y), w * (1 - R.y)⟩).d = x * (16 * t * t * w * w * (R.y - Q.y) * (R.y - Q.y)) := by
    dsimp only [stepF]
    clear hu hv hv0 id hx hD cc
    generalize C.s = s at *
    generalize Q.y = y1 at *
    generalize R.y = y2 at *
    grind
  rw [cc, dd]
  have hD1 : 1 - D.y ≠ 0 := by
    intro h0
    have h1 : D.y = 1 := by grind
    rw [h0, h1] at hx
    have : C.s * 2 = 0 := by grind
    exact fp_mul_ne C.s_ne fp_two_ne this
  -- the proportion
  have prop : (Q.y + R.y) * (Q.y + R.y) * (1 - (Q.add R).y) = x * C.s * ((R.y - Q.y) * (R.y - Q.y)) * (1 + (Q.add R).y) := by
    refine fp_cancel hD1 ?_
    have h2 : x * C.s * (1 - D.y) = 1 + D.y := by
      generalize C.s = s at *
      clear hu hv hv0 id cc dd hD1
      grind
    generalize (Q.add R).y = u at *
    generalize Q.y = y1 at *
    generalize R.y = y2 at *
    generalize D.y = v at *
    generalize C.s = s at *
    clear hu hv hv0 cc dd hD1 hx hs
    grind
  have hne : ¬ ((Q.y + R.y) * (Q.y + R.y) = 0 ∧ (R.y - Q.y) * (R.y - Q.y) = 0) := by
    rintro ⟨h1, h2⟩
    have h1 := sq_zero h1
    have h2 := sq_zero h2
    have hq : Q.y = 0 := by
      have : (2 : Fp) * Q.y = 0 := by grind
      rcases fp_mul_zero this with h | h
      · exact absurd h fp_two_ne
      · exact h
    have hr : R.y = 0 := by grind
    have e1 := Q.on
    have e2 := R.on
    have z1 : Q.y * Q.y = 0 := by rw [hq]; rfl
    have z2 : R.y * R.y = 0 := by rw [hr]; rfl
    have z3 : Q.y * R.y = 0 := by rw [hr, hq]; rfl
    have f1 : C.E.a * Q.x * Q.x = 1 := y0_id z1 e1
    have f2 : C.E.a * R.x * R.x = 1 := y0_id z2 e2
    have hv' : D.y = C.E.a * Q.x * R.x := by
      exact y0_id2 z3 hv
    have hsq : D.y * D.y = 1 := by
      rw [hv']
      exact y0_id3 f1 f2
    have : (1 - D.y) * (1 + D.y) = 0 := y0_id4 hsq
    rcases fp_mul_zero this with h | h
    · exact hD1 h
    · rw [h] at hx
      have : x * 2 = 0 := by grind
      exact fp_mul_ne hx0 fp_two_ne this
  have h16 : (8 : Fp) ≠ 0 := by decide +kernel
  have i2 := two_inv
  have fin := fin_id (k := t * t * w * w) hs prop
  refine ⟨8 * (t * t * w * w) * ((Q.y + R.y) * (Q.y + R.y) * C.s + x * ((R.y - Q.y) * (R.y - Q.y))), fp_mul_ne (fp_mul_ne h16 (fp_mul_ne (fp_mul_ne (fp_mul_ne ht ht) hw) hw)) ?_, ?_, ?_⟩
  · intro h0
    -- both would be 0
    have g1 : (Q.y + R.y) * (Q.y + R.y) * 2 = 0 := by
      generalize (Q.y + R.y) * (Q.y + R.y) = A at *
      generalize (R.y - Q.y) * (R.y - Q.y) = B at *
      generalize (Q.add R).y = u at *
      generalize C.s = s at *
      clear hu hv hv0 cc dd id hne hx fin
      grind
    have g2 : x * ((R.y - Q.y) * (R.y - Q.y)) * 2 = 0 := by
      generalize (Q.y + R.y) * (Q.y + R.y) = A at *
      generalize (R.y - Q.y) * (R.y - Q.y) = B at *
      generalize (Q.add R).y = u at *
      generalize C.s = s at *
      clear hu hv hv0 cc dd id hne hx prop fin
      grind
    refine hne ⟨?_, ?_⟩
    · rcases fp_mul_zero g1 with h | h
      · exact h
      · exact absurd h fp_two_ne
    · rcases fp_mul_zero g2 with h | h
      · rcases fp_mul_zero h with h | h
        · exact absurd h hx0
        · exact h
      · exact absurd h fp_two_ne
  · rw [fin.1]
    clear fin prop cc dd id hu hv hv0 hx hne hs
    grind
  · rw [fin.2]
    clear fin prop cc dd id hu hv hv0 hx hne hs
    grind

end Pw

namespace Pw

variable {C : LC}

def numB (bit : Nat → Bool) : Nat → Nat
  | 0 => 0
  | i + 1 => 2 * numB bit i + (bif bit (254 - i) then 1 else 0)

/-- x is the number u of a point -/
def IsU (C : LC) (x : Fp) (P : EP C.E) : Prop := x * (1 - P.y) = C.s * (1 + P.y)
theorem IsU.ne {x : Fp} {P : EP C.E} (h : IsU C x P) : 1 - P.y ≠ 0 := by
  intro h0
  have h1 : P.y = 1 := by grind
  unfold IsU at h
  rw [h0, h1] at h
  have : C.s * 2 = 0 := by grind
  exact fp_mul_ne C.s_ne fp_two_ne this
theorem IsU.neg {x : Fp} {P : EP C.E} (h : IsU C x P) : IsU C x P.neg := h
theorem IsU.rep {x : Fp} {P : EP C.E} (h : IsU C x P) : Rep C x 1 P := by
  have h1 := mul_finv h.ne
  refine ⟨finv (1 - P.y), finv_ne h.ne, ?_, ?_⟩
  · unfold IsU at h
    refine fp_cancel (IsU.ne h) ?_
    generalize finv (1 - P.y) = i at *
    generalize C.s = s at *
    generalize P.y = y at *
    grind
  · grind

theorem step_rep {x : Fp} {P Q R : EP C.E} {a b c d : Fp} (hP : IsU C x P) (hx0 : x ≠ 0) (hQ : Rep C a b Q) (hR : Rep C c d R) (hD : Q.neg.add R = P) :
    Rep C (stepF x ⟨a, b, c, d⟩).a (stepF x ⟨a, b, c, d⟩).b (Q.add Q) ∧ Rep C (stepF x ⟨a, b, c, d⟩).c (stepF x ⟨a, b, c, d⟩).d (Q.add R) :=
  ⟨rep_dbl hQ, rep_add hQ hR hD hP hx0⟩

theorem diff1 {E : EC} (P : EP E) (m : Nat) : (P.mul m).neg.add (P.mul (m + 1)) = P := by
  rw [EP.mul_succ, ← EP.add_assoc, EP.neg_add, EP.zero_add]
theorem diff2 {E : EC} (P : EP E) (m : Nat) : (P.mul (m + 1)).neg.add (P.mul m) = P.neg := by
  rw [EP.mul_succ, EP.neg_add_rev, EP.add_assoc, EP.add_comm P.neg, ← EP.add_assoc, EP.neg_add, EP.zero_add]
theorem mul_dbl {E : EC} (P : EP E) (m : Nat) : (P.mul m).add (P.mul m) = P.mul (2 * m) := by rw [← EP.mul_add]; congr 1; omega
theorem mul_dbl1 {E : EC} (P : EP E) (m : Nat) : (P.mul m).add (P.mul (m + 1)) = P.mul (2 * m + 1) := by rw [← EP.mul_add]; congr 1; omega
theorem mul_dbl2 {E : EC} (P : EP E) (m : Nat) : (P.mul (m + 1)).add (P.mul m) = P.mul (2 * m + 1) := by rw [← EP.mul_add]; congr 1; omega
theorem mul_dbl3 {E : EC} (P : EP E) (m : Nat) : (P.mul (m + 1)).add (P.mul (m + 1)) = P.mul (2 * m + 1 + 1) := by rw [← EP.mul_add]; congr 1; omega

theorem lad_rep (bit : Nat → Bool) {x : Fp} {P : EP C.E} (hP : IsU C x P) (hx0 : x ≠ 0) : ∀ i,
    Rep C (ladF bit x i).a (ladF bit x i).b (P.mul (numB bit i)) ∧ Rep C (ladF bit x i).c (ladF bit x i).d (P.mul (numB bit i + 1))
  | 0 => by
    refine ⟨?_, ?_⟩
    · show Rep C 1 0 (P.mul 0)
      rw [EP.mul_zero]; exact rep_zero
    · show Rep C x 1 (P.mul (0 + 1))
      rw [EP.mul_succ, EP.mul_zero, EP.zero_add]; exact hP.rep
  | i + 1 => by
    obtain ⟨h1, h2⟩ := lad_rep bit hP hx0 i
    have e : ladF bit x (i + 1) = roundF x (bit (254 - i)) (ladF bit x i) := by rw [ladF]
    have en : numB bit (i + 1) = 2 * numB bit i + (bif bit (254 - i) then 1 else 0) := by rw [numB]
    rw [e, en]
    generalize numB bit i = m at *
    generalize ladF bit x i = r at *
    obtain ⟨a, b, c, d⟩ := r
    dsimp only at h1 h2
    unfold roundF
    cases bit (254 - i)
    · rw [cond_false, cond_false, Nat.add_zero]
      obtain ⟨g1, g2⟩ := step_rep hP hx0 h1 h2 (diff1 P m)
      rw [mul_dbl] at g1
      rw [mul_dbl1] at g2
      exact ⟨g1, g2⟩
    · rw [cond_true, cond_true]
      obtain ⟨g1, g2⟩ := step_rep hP.neg hx0 h2 h1 (diff2 P m)
      rw [mul_dbl3] at g1
      rw [mul_dbl2] at g2
      exact ⟨g2, g1⟩

/-- the number u of a point; 0 of the neutral one -/
def uOf (C : LC) (Q : EP C.E) : Fp := C.s * (1 + Q.y) * finv (1 - Q.y)
theorem rep_u {a b : Fp} {Q : EP C.E} (h : Rep C a b Q) : a * finv b = uOf C Q := by
  obtain ⟨t, ht, rfl, rfl⟩ := h
  rw [finv_mul, uOf]
  have := mul_finv ht
  generalize finv t = i at *
  generalize finv (1 - Q.y) = j at *
  grind
theorem scale_u (bit : Nat → Bool) {x : Fp} {P : EP C.E} (hP : IsU C x P) (hx0 : x ≠ 0) : scaleF bit x = uOf C (P.mul (numB bit 255)) := rep_u (lad_rep bit hP hx0 255).1

theorem numB_testBit {n : Nat} (hn : n < 2 ^ 255) : ∀ i, i ≤ 255 → numB n.testBit i = n / 2 ^ (255 - i)
  | 0, _ => by rw [numB, Nat.sub_zero, Nat.div_eq_of_lt hn]
  | i + 1, hi => by
    rw [numB, numB_testBit hn i (by omega), show 255 - i = (254 - i) + 1 by omega, Nat.pow_succ, ← Nat.div_div_eq_div_mul, show 255 - (i + 1) = 254 - i by omega, Nat.testBit_eq_decide_div_mod_eq]
    generalize n / 2 ^ (254 - i) = y
    rcases Nat.mod_two_eq_zero_or_one y with h | h
    · rw [h]; simp only [Nat.zero_ne_one, decide_false, cond_false]; omega
    · rw [h]; simp only [decide_true, cond_true]; omega
theorem numB_all {n : Nat} (hn : n < 2 ^ 255) : numB n.testBit 255 = n := by
  rw [numB_testBit hn 255 (Nat.le_refl _), Nat.sub_self, Nat.pow_zero, Nat.div_one]

/-! ### the number 0 -/

theorem sz_id1 {a b K : Fp} (h : a * b = 0) : ((a + b) * (a + b) - (a - b) * (a - b)) * ((a + b) * (a + b) + K * ((a + b) * (a + b) - (a - b) * (a - b))) = 0 := by
  have : (a + b) * (a + b) - (a - b) * (a - b) = 4 * (a * b) := by clear h; grind
  rw [this, h]; grind
theorem step_zero' {x a b c d : Fp} (hb : a * b = 0) (hx : x = 0) : (stepF x ⟨a, b, c, d⟩).b = 0 ∧ (stepF x ⟨a, b, c, d⟩).d = 0 := by
  refine ⟨sz_id1 hb, ?_⟩
  dsimp only [stepF]
  rw [hx]; exact Fin.zero_mul _
theorem step_zero {a c : Fp} : (stepF 0 ⟨a, 0, c, 0⟩).b = 0 ∧ (stepF 0 ⟨a, 0, c, 0⟩).d = 0 := step_zero' (Fin.mul_zero _) rfl
theorem lad_zero (bit : Nat → Bool) : ∀ i, (ladF bit 0 (i + 1)).b = 0 ∧ (ladF bit 0 (i + 1)).d = 0
  | 0 => by
    have e : ladF bit 0 (0 + 1) = roundF 0 (bit (254 - 0)) ⟨1, 0, 0, 1⟩ := by rw [ladF, ladF]
    rw [e, roundF]
    cases bit (254 - 0)
    · rw [cond_false]; exact step_zero' (Fin.mul_zero _) rfl
    · rw [cond_true]
      have := step_zero' (x := 0) (a := 0) (b := 1) (c := 1) (d := 0) (Fin.zero_mul _) rfl
      exact ⟨this.2, this.1⟩
  | i + 1 => by
    have h := lad_zero bit i
    have e : ladF bit 0 (i + 1 + 1) = roundF 0 (bit (254 - (i + 1))) (ladF bit 0 (i + 1)) := by rw [ladF]
    rw [e, roundF]
    generalize ladF bit 0 (i + 1) = r at *
    obtain ⟨a, b, c, d⟩ := r
    dsimp only at h
    obtain ⟨rfl, rfl⟩ := h
    cases bit (254 - (i + 1))
    · rw [cond_false]; exact step_zero
    · rw [cond_true]
      have := step_zero (a := c) (c := a)
      exact ⟨this.2, this.1⟩
theorem scale_zero (bit : Nat → Bool) : scaleF bit 0 = 0 := by
  unfold scaleF
  rw [(lad_zero bit 254).1, finv_zero]; grind

/-! ### each number is one of the curve's or of its twist's -/

theorem c1_ha : (48802004052532134862652268456126542835229456083994414501085850622543968879637 : Fp) * 48802004052532134862652268456126542835229456083994414501085850622543968879637 = 486664 := by decide +kernel
theorem c2_ha : (51433253462520500264212897900760618405213415304451317506555883227270826074491 : Fp) * 51433253462520500264212897900760618405213415304451317506555883227270826074491 = 243330 := by decide +kernel
theorem nsq_of {n : Nat} (h0 : n % PP ≠ 0) (h : pmGo PP 255 n HH 1 % PP = (PP - 1) % PP) : ¬ isSq (toF n) := by
  refine not_sq_of (fun e => h0 ?_) ?_
  · have := congrArg Fin.val e
    rwa [toF_val] at this
  · rw [← toF_m1]; exact pw_of 255 (by decide +kernel) h
theorem nsq_486660 : ¬ isSq (486660 : Fp) := by
  rw [show (486660 : Fp) = toF 486660 by decide +kernel]
  exact nsq_of (by decide +kernel) (by decide +kernel)
theorem nsq_243332 : ¬ isSq (243332 : Fp) := by
  rw [show (243332 : Fp) = toF 243332 by decide +kernel]
  exact nsq_of (by decide +kernel) (by decide +kernel)
def C1 : LC := ⟨⟨486664, 486660, 48802004052532134862652268456126542835229456083994414501085850622543968879637, c1_ha, by decide +kernel, nsq_486660⟩, 1, 43422033463993573283839119378257965444976244249615211514796594002967423614962, by decide +kernel, by decide +kernel, by decide +kernel⟩
def C2 : LC := ⟨⟨243330, 243332, 51433253462520500264212897900760618405213415304451317506555883227270826074491, c2_ha, by decide +kernel, nsq_243332⟩, -1, 28948022309329048855892746252171976963317496166410141009864396001978282409975, by decide +kernel, by decide +kernel, by decide +kernel⟩

/-- x^3 + 486662 x^2 + x -/
def wF (x : Fp) : Fp := x * x * x + 486662 * x * x + x

theorem mk_id {a d f s v x X Y A : Fp} (hs : s * s = 1) (hf1 : f * a = A + 2 * s) (hf2 : f * d = A - 2 * s) (hv : f * v * v = x * x * x + A * x * x + x) (hX : X * v = x) (hY : Y * (x + s) = x - s) :
    f * (v * v * ((x + s) * (x + s))) * (a * X * X + Y * Y) = f * (v * v * ((x + s) * (x + s))) * (1 + d * X * X * Y * Y) := by
  have e1 : f * (v * v * ((x + s) * (x + s))) * (a * X * X + Y * Y) = (f * a) * ((X * v) * (X * v)) * ((x + s) * (x + s)) + (f * v * v) * ((Y * (x + s)) * (Y * (x + s))) := by
    clear hs hf1 hf2 hv hX hY; grind
  have e2 : f * (v * v * ((x + s) * (x + s))) * (1 + d * X * X * Y * Y) = (f * v * v) * ((x + s) * (x + s)) + (f * d) * ((X * v) * (X * v)) * ((Y * (x + s)) * (Y * (x + s))) := by
    clear hs hf1 hf2 hv hX hY e1; grind
  rw [e1, e2, hf1, hf2, hv, hX, hY]
  clear hf1 hf2 hv hX hY e1 e2
  grind
theorem mk_point {f v x A : Fp} (hA : f * C.E.a = A + 2 * C.s) (hA' : f * C.E.d = A - 2 * C.s) (hv : f * v * v = x * x * x + A * x * x + x) (hf0 : f ≠ 0) (hv0 : v ≠ 0) (hxs : x + C.s ≠ 0) :
    ∃ P : EP C.E, IsU C x P ∧ P.x * v = x := by
  have i1 : x * finv v * v = x := mul_inv_mul hv0
  have i2 : (x - C.s) * finv (x + C.s) * (x + C.s) = x - C.s := mul_inv_mul hxs
  have key := mk_id C.hs hA hA' hv i1 i2
  have on := fp_cancel (fp_mul_ne hf0 (fp_mul_ne (fp_mul_ne hv0 hv0) (fp_mul_ne hxs hxs))) key
  refine ⟨⟨x * finv v, (x - C.s) * finv (x + C.s), on⟩, ?_, i1⟩
  unfold IsU
  dsimp only
  generalize (x - C.s) * finv (x + C.s) = Y at *
  clear key on i1 hv hA hA' hf0 hv0
  grind

theorem q_id {x A : Fp} : (2 * x + A) * (2 * x + A) = 4 * (x * x + A * x + 1) + (A + 2) * (A - 2) := by grind
theorem wF_ne {x : Fp} (hx : x ≠ 0) : wF x ≠ 0 := by
  intro h
  have h1 : x * (x * x + 486662 * x + 1) = 0 := by unfold wF at h; rw [← h]; clear h; grind
  rcases fp_mul_zero h1 with h2 | h2
  · exact hx h2
  · -- then 486664 times 486660 is a square
    have h3 : (2 * x + 486662) * (2 * x + 486662) = 486664 * 486660 := by
      rw [q_id, h2, Fin.mul_zero, Fin.zero_add]; decide +kernel
    refine nsq_486660 ?_
    have h4 : isSq (486664 * 486660 : Fp) := ⟨_, h3⟩
    have h5 : isSq (486664 : Fp) := ⟨_, c1_ha⟩
    have h6 := mul_finv (x := (486664 : Fp)) (by decide +kernel)
    have h7 := isSq_mul h4 (isSq_inv h5)
    rwa [show (486664 : Fp) * 486660 * finv 486664 = 486660 by generalize finv (486664 : Fp) = i at *; clear h7 h4 h3 h2 h1 h; grind] at h7
theorem point1 {x : Fp} (hx : x ≠ 0) (h : isSq (wF x)) : ∃ P : EP C1.E, IsU C1 x P := by
  obtain ⟨v, hv⟩ := h
  have hv0 : v ≠ 0 := by rintro rfl; exact wF_ne hx (by rw [← hv]; grind)
  have hxs : x + C1.s ≠ 0 := by
    intro h0
    have e : x = -1 := by
      have : x + 1 = 0 := h0
      grind
    subst e
    refine nsq_486660 ⟨v, ?_⟩
    rw [hv]; decide +kernel
  obtain ⟨P, h1, -⟩ := mk_point (C := C1) (f := 1) (v := v) (x := x) (A := 486662) (by decide +kernel) (by decide +kernel) (by have : v * v = wF x := hv; unfold wF at this; rw [← this]; grind) fp_one_ne hv0 hxs
  exact ⟨P, h1⟩
theorem point2 {x : Fp} (hx : x ≠ 0) (h : ¬ isSq (wF x)) : ∃ P : EP C2.E, IsU C2 x P := by
  have h2 : isSq (wF x * finv 2) := by
    have hi : ¬ isSq (finv 2 : Fp) := fun hh => two_not_sq (by have := isSq_inv hh; rwa [finv_finv] at this)
    exact not_sq_mul h hi
  obtain ⟨v, hv⟩ := h2
  have i2 := two_inv
  have hv2 : 2 * v * v = wF x := by
    have : 2 * (v * v) = wF x := by
      rw [hv]
      generalize wF x = w at *
      generalize finv (2 : Fp) = i at *
      clear hv h
      grind
    rw [← this]; clear this; grind
  have hv0 : v ≠ 0 := by rintro rfl; exact wF_ne hx (by rw [← hv2]; grind)
  have hxs : x + C2.s ≠ 0 := by
    intro h0
    have e : x = 1 := by
      have : x + -1 = 0 := h0
      grind
    subst e
    refine h ⟨48802004052532134862652268456126542835229456083994414501085850622543968879637, ?_⟩
    decide +kernel
  obtain ⟨P, h1, -⟩ := mk_point (C := C2) (f := 2) (v := v) (x := x) (A := 486662) (by decide +kernel) (by decide +kernel) (by unfold wF at hv2; exact hv2) fp_two_ne hv0 hxs
  exact ⟨P, h1⟩
theorem has_point {x : Fp} (hx : x ≠ 0) : ∃ (C : LC) (P : EP C.E), IsU C x P := by
  by_cases h : isSq (wF x)
  · obtain ⟨P, hP⟩ := point1 hx h; exact ⟨C1, P, hP⟩
  · obtain ⟨P, hP⟩ := point2 hx h; exact ⟨C2, P, hP⟩

/-! ### turns -/

theorem uOf_isU {Q : EP C.E} (h : 1 - Q.y ≠ 0) : IsU C (uOf C Q) Q := by
  unfold IsU uOf
  have := mul_finv h
  generalize finv (1 - Q.y) = i at *
  grind
theorem uOf_zero {Q : EP C.E} (h : 1 - Q.y = 0) : uOf C Q = 0 := by
  unfold uOf
  rw [h, finv_zero]; grind
theorem tt1 {x y w : Fp} (hx : x = 0) : 0 * w = x * y + y * x := by
  rw [hx, Fin.zero_mul, Fin.zero_mul, Fin.mul_zero, Fin.zero_add]
theorem tt2 {a d x y : Fp} (hx : x * x = 0) (h : y * y = 1) : 1 * (1 - d * x * x * y * y) = y * y - a * x * x := by grind
/-- twice a point with y = 1 or y = -1 is the neutral one -/
theorem two_tors {Q : EP C.E} (h : Q.y * Q.y = 1) : Q.add Q = EP.zero C.E := by
  have hne : C.E.a - C.E.d ≠ 0 := by
    intro h0
    have hc := C.cad
    rw [h0] at hc
    exact C.s_ne (by rw [← hc]; grind)
  have hx : Q.x = 0 := by
    have on := Q.on
    have : (C.E.a - C.E.d) * (Q.x * Q.x) = 0 := by
      generalize C.E.a = a at *
      generalize C.E.d = d at *
      generalize Q.x = x at *
      generalize Q.y = y at *
      clear hne
      grind
    rcases fp_mul_zero this with h1 | h1
    · exact absurd h1 hne
    · exact sq_zero h1
  exact add_eq (tt1 hx) (tt2 (by rw [hx]; exact Fin.zero_mul _) h)
theorem scale_of_u {n : Nat} (hn : n < 2 ^ 255) (he : n % 2 = 0) (Q : EP C.E) : scaleF n.testBit (uOf C Q) = uOf C (Q.mul n) := by
  by_cases h0 : uOf C Q = 0
  · have hy : Q.y * Q.y = 1 := by
      by_cases h1 : 1 - Q.y = 0
      · have : Q.y = 1 := by grind
        rw [this]; grind
      · have h2 := uOf_isU h1
        rw [h0] at h2
        unfold IsU at h2
        have h3 : C.s * (1 + Q.y) = 0 := by rw [← h2]; grind
        rcases fp_mul_zero h3 with h4 | h4
        · exact absurd h4 C.s_ne
        · have : Q.y = -1 := by grind
          rw [this]; grind
    have ez : Q.mul n = EP.zero C.E := by
      rw [show n = 2 * (n / 2) by omega, EP.mul_mul, show (2 : Nat) = 0 + 1 + 1 from rfl, EP.mul_succ, EP.mul_succ, EP.mul_zero, EP.zero_add, two_tors hy, EP.zero_mul]
    rw [h0, scale_zero, ez]
    symm
    apply uOf_zero
    exact Fin.sub_self
  · have h1 : 1 - Q.y ≠ 0 := fun h => h0 (uOf_zero h)
    rw [scale_u n.testBit (uOf_isU h1) h0, numB_all hn]
theorem isU_u {x : Fp} {P : EP C.E} (h : IsU C x P) : x = uOf C P := by
  have hn := h.ne
  have h1 := uOf_isU hn
  unfold IsU at h h1
  refine fp_cancel hn ?_
  rw [Fin.mul_comm, h, ← h1, Fin.mul_comm]
/-- two numbers in either order -/
theorem scale_turns {m n : Nat} (hm : m < 2 ^ 255) (hn : n < 2 ^ 255) (em : m % 2 = 0) (en : n % 2 = 0) (x : Fp) : scaleF m.testBit (scaleF n.testBit x) = scaleF n.testBit (scaleF m.testBit x) := by
  by_cases hx : x = 0
  · subst hx; rw [scale_zero, scale_zero, scale_zero]
  · obtain ⟨C, P, hP⟩ := has_point hx
    rw [isU_u hP, scale_of_u hn en, scale_of_u hm em, scale_of_u hm em, scale_of_u hn en, ← EP.mul_mul, ← EP.mul_mul, Nat.mul_comm]

end Pw

namespace Pw

variable {C : LC}

/-! ### whose numbers are whose -/

theorem side_id1 {u s Y : Fp} (hs : s * s = 1) (hu : u * (1 - Y) = s * (1 + Y)) (h1 : 1 - Y ≠ 0) : 2 * s * u * (1 + Y * Y) = (u * u + 1) * (1 - Y * Y) := by
  have e1 : (1 - Y) * (2 * s * u * (1 + Y * Y)) = 2 * s * (u * (1 - Y)) * (1 + Y * Y) := by clear hs hu h1; grind
  have e2 : (1 - Y) * ((u * u + 1) * (1 - Y * Y)) = ((u * (1 - Y)) * (u * (1 - Y)) + (1 - Y) * (1 - Y)) * (1 + Y) := by clear hs hu h1 e1; grind
  refine fp_cancel h1 ?_
  rw [e1, e2, hu]
  clear hu h1 e1 e2
  grind
theorem side_id2 {a d f s A x Y u v : Fp} (on : a * x * x + Y * Y = 1 + d * x * x * Y * Y) (hf1 : f * a = A + 2 * s) (hf2 : f * d = A - 2 * s) (hv : v * x = u) (k : 2 * s * u * (1 + Y * Y) = (u * u + 1) * (1 - Y * Y)) :
    (x * x * (1 - Y * Y)) * (f * v * v) = (x * x * (1 - Y * Y)) * (u * u * u + A * u * u + u) := by
  have e1 : (x * x * (1 - Y * Y)) * (f * v * v) = f * ((v * x) * (v * x)) * (1 - Y * Y) := by clear on hf1 hf2 hv k; grind
  have e2 : f * (1 - Y * Y) = x * x * (f * a - f * d * (Y * Y)) := by clear hf1 hf2 hv k e1; grind
  have e3 : f * (u * u) * (1 - Y * Y) = u * u * (f * (1 - Y * Y)) := by clear on hf1 hf2 hv k e1 e2; grind
  rw [e1, hv, e3, e2, hf1, hf2]
  have e4 : u * u * (x * x * (A + 2 * s - (A - 2 * s) * (Y * Y))) = x * x * u * (A * u * (1 - Y * Y) + 2 * s * u * (1 + Y * Y)) := by clear on hf1 hf2 hv k e1 e2 e3; grind
  rw [e4, k]
  clear on hf1 hf2 hv k e1 e2 e3 e4
  grind
theorem side_pt {f A : Fp} (hf1 : f * C.E.a = A + 2 * C.s) (hf2 : f * C.E.d = A - 2 * C.s) {Q : EP C.E} (hu : uOf C Q ≠ 0) :
    ∃ v, f * v * v = uOf C Q * uOf C Q * uOf C Q + A * uOf C Q * uOf C Q + uOf C Q := by
  have h1 : 1 - Q.y ≠ 0 := fun h => hu (uOf_zero h)
  have hI := uOf_isU h1
  unfold IsU at hI
  have hx : Q.x ≠ 0 := by
    intro h0
    have on := Q.on
    have hx2 : Q.x * Q.x = 0 := by rw [h0]; exact Fin.zero_mul _
    have h2 : (1 - Q.y) * (1 + Q.y) = 0 := by
      generalize C.E.a = a at *
      generalize C.E.d = d at *
      generalize Q.x = x at *
      generalize Q.y = y at *
      clear hI hu h1 h0 hf1 hf2
      grind
    rcases fp_mul_zero h2 with h3 | h3
    · exact h1 h3
    · rw [h3, Fin.mul_zero] at hI
      rcases fp_mul_zero hI with h4 | h4
      · exact hu h4
      · exact h1 h4
  have h2 : 1 + Q.y ≠ 0 := by
    intro h3
    rw [h3, Fin.mul_zero] at hI
    rcases fp_mul_zero hI with h4 | h4
    · exact hu h4
    · exact h1 h4
  have hy : 1 - Q.y * Q.y ≠ 0 := by
    have : 1 - Q.y * Q.y = (1 - Q.y) * (1 + Q.y) := by generalize Q.y = y; grind
    rw [this]; exact fp_mul_ne h1 h2
  refine ⟨uOf C Q * finv Q.x, ?_⟩
  have hv : uOf C Q * finv Q.x * Q.x = uOf C Q := mul_inv_mul hx
  exact fp_cancel (fp_mul_ne (fp_mul_ne hx hx) hy) (side_id2 Q.on hf1 hf2 hv (side_id1 C.hs hI h1))
theorem side1 {Q : EP C1.E} (hu : uOf C1 Q ≠ 0) : isSq (wF (uOf C1 Q)) := by
  obtain ⟨v, hv⟩ := side_pt (C := C1) (f := 1) (A := 486662) (by decide +kernel) (by decide +kernel) hu
  refine ⟨v, ?_⟩
  unfold wF
  rw [← hv, Fin.one_mul]
theorem side2 {Q : EP C2.E} (hu : uOf C2 Q ≠ 0) : ¬ isSq (wF (uOf C2 Q)) := by
  obtain ⟨v, hv⟩ := side_pt (C := C2) (f := 2) (A := 486662) (by decide +kernel) (by decide +kernel) hu
  have hw : wF (uOf C2 Q) = 2 * (v * v) := by
    unfold wF
    rw [← hv]; clear hv; grind
  have hv0 : v * v ≠ 0 := by
    intro h0
    have := wF_ne hu
    rw [hw, h0, Fin.mul_zero] at this
    exact this rfl
  rw [hw]
  exact not_sq_mul_sq two_not_sq ⟨v, rfl⟩ hv0
theorem wF_zero : wF 0 = 0 := by decide +kernel
theorem isSq_zero : isSq (0 : Fp) := ⟨0, Fin.zero_mul _⟩
theorem scale_side {n : Nat} (hn : n < 2 ^ 255) (he : n % 2 = 0) {u : Fp} (h0 : scaleF n.testBit u ≠ 0) : isSq (wF (scaleF n.testBit u)) ↔ isSq (wF u) := by
  have hu : u ≠ 0 := by rintro rfl; exact h0 (scale_zero _)
  by_cases h : isSq (wF u)
  · obtain ⟨P, hP⟩ := point1 hu h
    have e := scale_of_u hn he P
    rw [← isU_u hP] at e
    rw [e] at h0 ⊢
    exact ⟨fun _ => h, fun _ => side1 h0⟩
  · obtain ⟨P, hP⟩ := point2 hu h
    have e := scale_of_u hn he P
    rw [← isU_u hP] at e
    rw [e] at h0 ⊢
    exact ⟨fun hh => absurd hh (side2 h0), fun hh => absurd hh h⟩

/-! ### orders -/

theorem EP.mul_gcd {E : EC} {R : EP E} : ∀ m n, R.mul m = EP.zero E → R.mul n = EP.zero E → R.mul (Nat.gcd m n) = EP.zero E := by
  intro m n
  induction m, n using Nat.gcd.induction with
  | H0 n => intro _ h; rwa [Nat.gcd_zero_left]
  | H1 m n hm ih =>
    intro h1 h2
    rw [Nat.gcd_rec]
    refine ih ?_ h1
    rw [← Nat.div_add_mod n m, EP.mul_add, EP.mul_mul, h1, EP.zero_mul, EP.zero_add] at h2
    exact h2
theorem EP.mul_prime {E : EC} {R : EP E} {T m : Nat} (hT : Pr T) (h1 : R.mul T = EP.zero E) (h2 : R.mul m = EP.zero E) (h0 : 0 < m) (hm : m < T) : R = EP.zero E := by
  have hg := EP.mul_gcd T m h1 h2
  have hc : Nat.gcd T m = 1 := hT.coprime (fun hd => absurd (Nat.le_of_dvd h0 hd) (by omega))
  rw [hc, EP.mul_one] at hg
  exact hg
theorem uOf_zero_y {Q : EP C.E} (h : uOf C Q = 0) : Q.add Q = EP.zero C.E := by
  refine two_tors ?_
  by_cases h1 : 1 - Q.y = 0
  · have : Q.y = 1 := by grind
    rw [this]; exact Fin.mul_one _
  · have h2 := uOf_isU h1
    unfold IsU at h2
    rw [h, Fin.zero_mul] at h2
    rcases fp_mul_zero h2.symm with h4 | h4
    · exact absurd h4 C.s_ne
    · have : Q.y = -1 := by grind
      rw [this]; decide +kernel
theorem uOf_O : uOf C (EP.zero C.E) = 0 := uOf_zero Fin.sub_self

def TT : Nat := 14474011154664524427946373126085988481603263447650325797860494125407373907997
theorem TT_prime : Pr TT := prime_T
theorem two_val : (2 : Fp).val = 2 := by decide +kernel
theorem scale_two_T : scaleF (4 * TT).testBit 2 = 0 := by
  refine fp_ext ?_
  rw [← scaleN_F, two_val]
  decide +kernel
theorem scale_two_16 : scaleF (16 : Nat).testBit 2 ≠ 0 := by
  intro h
  have := congrArg Fin.val h
  rw [← scaleN_F, two_val] at this
  exact absurd this (by decide +kernel)
/-- of 2, which lies on the twist, the ladder never gives 0 -/
theorem scale_two_ne {m : Nat} (h0 : 0 < m) (hm : 8 * m < 2 ^ 255) : scaleF (8 * m).testBit 2 ≠ 0 := by
  intro h
  have hn2 : ¬ isSq (wF 2) := by
    rw [show wF 2 = toF 1946658 by decide +kernel]
    exact nsq_of (by decide +kernel) (by decide +kernel)
  obtain ⟨P, hP⟩ := point2 fp_two_ne hn2
  have e1 : uOf C2 (P.mul (8 * m)) = 0 := by rw [← numB_all hm, ← scale_u _ hP fp_two_ne, h]
  have hT4 : 4 * TT < 2 ^ 255 := by decide +kernel
  have e2 : uOf C2 (P.mul (4 * TT)) = 0 := by rw [← numB_all hT4, ← scale_u _ hP fp_two_ne, scale_two_T]
  have e3 := uOf_zero_y e1
  have e4 := uOf_zero_y e2
  rw [← EP.mul_add] at e3 e4
  have r1 : (P.mul 16).mul m = EP.zero C2.E := by rw [← EP.mul_mul, show 16 * m = 8 * m + 8 * m by omega]; exact e3
  have r2 : (P.mul 16).mul TT = EP.zero C2.E := by
    rw [← EP.mul_mul, show 16 * TT = (4 * TT + 4 * TT) * 2 by omega, EP.mul_mul, e4, EP.zero_mul]
  have hmT : m < TT := by
    have : (2 : Nat) ^ 255 ≤ 8 * TT := by decide +kernel
    omega
  have r3 := EP.mul_prime TT_prime r2 r1 h0 hmT
  refine scale_two_16 ?_
  have h16 : (16 : Nat) < 2 ^ 255 := by decide +kernel
  rw [scale_u _ hP fp_two_ne, numB_all h16, r3, uOf_O]

end Pw

namespace Pw

/-! ### the base point 9: its order is 8 or less times a prime -/

def LL : Nat := 7237005577332262213973186563042994240857116359379907606001950938285454250989
theorem LL_prime : Pr LL := prime_L
theorem nine_ne : (9 : Fp) ≠ 0 := by decide +kernel
theorem nine_val : (9 : Fp).val = 9 := by decide +kernel
theorem nine_on : isSq (wF 9) := half_isSq (by
  rw [show wF 9 = toF 39420360 by decide +kernel, ← toF_one]
  exact pw_of 255 (by decide +kernel) (by decide +kernel))
theorem scale_nine_L : scaleF (2 * LL).testBit 9 = 0 := by
  refine fp_ext ?_
  rw [← scaleN_F, nine_val]
  decide +kernel
theorem scale_nine_16 : scaleF (16 : Nat).testBit 9 ≠ 0 := by
  intro h
  have := congrArg Fin.val h
  rw [← scaleN_F, nine_val] at this
  exact absurd this (by decide +kernel)
/-- two clamped numbers take 9 to no 0 -/
theorem scale_nine_ne {m n : Nat} (hm : 8 * m < 2 ^ 255) (hn : 8 * n < 2 ^ 255) (m0 : ¬ LL ∣ m) (n0 : ¬ LL ∣ n) : scaleF (8 * m).testBit (scaleF (8 * n).testBit 9) ≠ 0 := by
  intro h
  obtain ⟨P, hP⟩ := point1 nine_ne nine_on
  have u1 : scaleF (8 * n).testBit 9 = uOf C1 (P.mul (8 * n)) := by rw [scale_u _ hP nine_ne, numB_all hn]
  rw [u1, scale_of_u hm (by omega), ← EP.mul_mul] at h
  have hL2 : 2 * LL < 2 ^ 255 := by decide +kernel
  have e2 : uOf C1 (P.mul (2 * LL)) = 0 := by rw [← numB_all hL2, ← scale_u _ hP nine_ne, scale_nine_L]
  have e3 := uOf_zero_y h
  have e4 := uOf_zero_y e2
  rw [← EP.mul_add] at e3 e4
  have r1 : (P.mul 8).mul (16 * (n * m)) = EP.zero C1.E := by
    rw [← EP.mul_mul, show 8 * (16 * (n * m)) = 8 * n * (8 * m) + 8 * n * (8 * m) by
      have : 8 * n * (8 * m) = 64 * (n * m) := by rw [Nat.mul_mul_mul_comm]
      rw [this]; omega]
    exact e3
  have r2 : (P.mul 8).mul LL = EP.zero C1.E := by
    rw [← EP.mul_mul, show 8 * LL = (2 * LL + 2 * LL) * 2 by omega, EP.mul_mul, e4, EP.zero_mul]
  have hnd : ¬ LL ∣ 16 * (n * m) := by
    intro hd
    rcases LL_prime.dvd_mul hd with h1 | h1
    · exact absurd (Nat.le_of_dvd (by decide) h1) (by decide +kernel)
    · rcases LL_prime.dvd_mul h1 with h2 | h2
      · exact n0 h2
      · exact m0 h2
  have hg := EP.mul_gcd LL (16 * (n * m)) r2 r1
  have hc : Nat.gcd LL (16 * (n * m)) = 1 := LL_prime.coprime hnd
  rw [hc, EP.mul_one] at hg
  refine scale_nine_16 ?_
  have h16 : (16 : Nat) < 2 ^ 255 := by decide +kernel
  rw [scale_u _ hP nine_ne, numB_all h16, show 16 = 8 * 2 from rfl, EP.mul_mul, hg, EP.zero_mul, uOf_O]
end Pw
