/- A part of the proof: PwPrime. -/
namespace Pw

/-! ### primes, Fermat, Pocklington -/

def Pr (p : Nat) : Prop := 2 ≤ p ∧ ∀ d, d ∣ p → d = 1 ∨ d = p

theorem Pr.coprime {p a : Nat} (hp : Pr p) (h : ¬ p ∣ a) : Nat.Coprime p a := by
  rcases hp.2 (Nat.gcd p a) (Nat.gcd_dvd_left p a) with h1 | h1
  · exact h1
  · exact absurd (h1 ▸ Nat.gcd_dvd_right p a) h

theorem Pr.dvd_mul {p a b : Nat} (hp : Pr p) (h : p ∣ a * b) : p ∣ a ∨ p ∣ b := by
  by_cases ha : p ∣ a
  · exact .inl ha
  · exact .inr ((hp.coprime ha).dvd_of_dvd_mul_left h)

def ch : Nat → Nat → Nat
  | _, 0 => 1
  | 0, _ + 1 => 0
  | n + 1, k + 1 => ch n k + ch n (k + 1)

theorem ch_n0 (n : Nat) : ch n 0 = 1 := by cases n <;> rfl
theorem ch_0s (k : Nat) : ch 0 (k + 1) = 0 := rfl
theorem ch_ss (n k : Nat) : ch (n + 1) (k + 1) = ch n k + ch n (k + 1) := rfl

theorem ch_absorb : ∀ n k, (k + 1) * ch (n + 1) (k + 1) = (n + 1) * ch n k
  | 0, 0 => rfl
  | 0, k + 1 => by simp [ch]
  | n + 1, 0 => by
    have h := ch_absorb n 0
    rw [ch_ss, ch_n0]
    rw [ch_n0] at h
    omega
  | n + 1, k + 1 => by
    have h1 := ch_absorb n k
    have h2 := ch_absorb n (k + 1)
    have e1 := ch_ss n k
    rw [ch_ss (n + 1) (k + 1)]
    generalize ch (n + 1) (k + 1) = A at *
    generalize ch (n + 1) (k + 1 + 1) = B at *
    generalize ch n k = C at *
    generalize ch n (k + 1) = D at *
    subst e1
    grind

theorem ch_zero : ∀ n k, n < k → ch n k = 0
  | _, 0, h => by omega
  | 0, k + 1, _ => rfl
  | n + 1, k + 1, h => by rw [ch_ss, ch_zero n k (by omega), ch_zero n (k + 1) (by omega)]

def bs (n a : Nat) : Nat → Nat
  | 0 => 1
  | k + 1 => bs n a k + ch n (k + 1) * a ^ (k + 1)

theorem bs_succ (n a : Nat) : ∀ k, bs (n + 1) a (k + 1) = bs n a (k + 1) + a * bs n a k
  | 0 => by simp only [bs, ch_ss, ch_n0]; grind
  | k + 1 => by
    have h := bs_succ n a k
    rw [show bs (n + 1) a (k + 1 + 1) = bs (n + 1) a (k + 1) + ch (n + 1) (k + 1 + 1) * a ^ (k + 1 + 1) from rfl, h, ch_ss,
      show bs n a (k + 1 + 1) = bs n a (k + 1) + ch n (k + 1 + 1) * a ^ (k + 1 + 1) from rfl]
    have h2 : bs n a (k + 1) = bs n a k + ch n (k + 1) * a ^ (k + 1) := rfl
    generalize bs n a (k + 1) = x at *
    subst h2
    grind

theorem bs_full (a : Nat) : ∀ n, bs n a n = (1 + a) ^ n
  | 0 => rfl
  | n + 1 => by
    rw [bs_succ, show bs n a (n + 1) = bs n a n + ch n (n + 1) * a ^ (n + 1) from rfl, ch_zero n (n + 1) (by omega), bs_full a n, Nat.pow_succ]
    grind

theorem Pr.ch_dvd {p : Nat} (hp : Pr p) {k : Nat} (h : k + 1 < p) : p ∣ ch p (k + 1) := by
  have h2 := hp.1
  obtain ⟨n, rfl⟩ : ∃ n, p = n + 1 := ⟨p - 1, by omega⟩
  have := ch_absorb n k
  have hd : n + 1 ∣ (k + 1) * ch (n + 1) (k + 1) := ⟨_, this⟩
  rcases hp.dvd_mul hd with h3 | h3
  · exact absurd (Nat.le_of_dvd (by omega) h3) (by omega)
  · exact h3

theorem Pr.bs_mod {p : Nat} (hp : Pr p) (a : Nat) : ∀ k, k < p → bs p a k % p = 1 % p
  | 0, _ => rfl
  | k + 1, h => by
    obtain ⟨c, hc⟩ := hp.ch_dvd h
    rw [show bs p a (k + 1) = bs p a k + ch p (k + 1) * a ^ (k + 1) from rfl, hc, Nat.mul_assoc, Nat.add_mul_mod_self_left]
    exact hp.bs_mod a k (by omega)

theorem ch_self : ∀ n, ch n n = 1
  | 0 => rfl
  | n + 1 => by rw [ch_ss, ch_self n, ch_zero n (n + 1) (by omega)]

theorem Pr.fermat {p : Nat} (hp : Pr p) : ∀ a, a ^ p % p = a % p
  | 0 => by rw [Nat.zero_pow (by have := hp.1; omega)]
  | a + 1 => by
    have h2 := hp.1
    obtain ⟨n, hn⟩ : ∃ n, p = n + 1 := ⟨p - 1, by omega⟩
    rw [Nat.add_comm a 1, ← bs_full a p]
    have h1 : bs p a p = bs p a n + a ^ p := by
      have : bs p a (n + 1) = bs p a n + ch p (n + 1) * a ^ (n + 1) := rfl
      rw [← hn, ch_self] at this
      omega
    have h3 := hp.bs_mod a n (by omega)
    have h4 := hp.fermat a
    rw [h1, Nat.add_mod, h3, h4, ← Nat.add_mod]

theorem Pr.fermat1 {p a : Nat} (hp : Pr p) (h : ¬ p ∣ a) : a ^ (p - 1) % p = 1 := by
  have h2 := hp.1
  have h1 := hp.fermat a
  have e : a ^ p = a * a ^ (p - 1) := by
    obtain ⟨n, rfl⟩ : ∃ n, p = n + 1 := ⟨p - 1, by omega⟩
    rw [Nat.pow_succ, Nat.mul_comm]; rfl
  have hpos : 1 ≤ a ^ (p - 1) := Nat.pow_pos (by rcases Nat.eq_zero_or_pos a with h0 | h0; · subst h0; exact absurd (Nat.dvd_zero p) h
                                                 · exact h0)
  have hd : p ∣ a * (a ^ (p - 1) - 1) := by
    rw [Nat.mul_sub, Nat.mul_one, ← e]
    have hle : a ≤ a ^ p := by rw [e]; exact Nat.le_mul_of_pos_right a hpos
    have d1 := Nat.div_add_mod (a ^ p) p
    have d2 := Nat.div_add_mod a p
    have d3 : a / p ≤ a ^ p / p := Nat.div_le_div_right hle
    refine ⟨a ^ p / p - a / p, ?_⟩
    rw [Nat.mul_sub]; omega
  rcases hp.dvd_mul hd with h3 | h3
  · exact absurd h3 h
  · obtain ⟨c, hc⟩ := h3
    rw [show a ^ (p - 1) = 1 + p * c by omega, Nat.add_mul_mod_self_left]
    exact Nat.mod_eq_of_lt (by omega)

theorem pow_mod_one {s b k : Nat} (hs : 2 ≤ s) (h : b % s = 1) : b ^ k % s = 1 := by
  rw [Nat.pow_mod, h, Nat.one_pow]; exact Nat.mod_eq_of_lt (by omega)

theorem pow_gcd {s b : Nat} (hs : 2 ≤ s) : ∀ m n, b ^ m % s = 1 → b ^ n % s = 1 → b ^ Nat.gcd m n % s = 1 := by
  intro m n
  induction m, n using Nat.gcd.induction with
  | H0 n => intro _ h; rwa [Nat.gcd_zero_left]
  | H1 m n hm ih =>
    intro h1 h2
    rw [Nat.gcd_rec]
    refine ih ?_ h1
    have e : b ^ n = (b ^ m) ^ (n / m) * b ^ (n % m) := by
      rw [← Nat.pow_mul, ← Nat.pow_add, Nat.div_add_mod]
    rw [e, Nat.mul_mod, pow_mod_one hs h1, Nat.one_mul, Nat.mod_mod] at h2
    exact h2

theorem pock_dvd {n q r a s : Nat} (hn2 : 2 ≤ n) (hs : Pr s) (hsn : s ∣ n) (hq : Pr q) (hn : n - 1 = q * r) (h1 : a ^ (n - 1) % n = 1) (h2 : Nat.gcd (a ^ r % n + (n - 1)) n = 1) : q ∣ s - 1 := by
  have hs2 := hs.1
  have hb : (a ^ r) ^ q % s = 1 := by
    rw [← Nat.pow_mul, Nat.mul_comm, ← hn, ← Nat.mod_mod_of_dvd _ hsn, h1]
    exact Nat.mod_eq_of_lt (by omega)
  have hsb : ¬ s ∣ a ^ r := fun h => by
    have : s ∣ (a ^ r) ^ q := Nat.dvd_trans h (by
      obtain ⟨m, rfl⟩ : ∃ m, q = m + 1 := ⟨q - 1, by have := hq.1; omega⟩
      exact ⟨(a ^ r) ^ m, by rw [Nat.pow_succ, Nat.mul_comm]⟩)
    rw [Nat.mod_eq_zero_of_dvd this] at hb; omega
  have hf := hs.fermat1 hsb
  have hg := pow_gcd hs2 q (s - 1) hb hf
  by_cases hd : q ∣ s - 1
  · exact hd
  · rw [hq.coprime hd, Nat.pow_one] at hg
    exfalso
    have h3 : s ∣ a ^ r % n + (n - 1) := by
      have e1 : (a ^ r % n) % s = 1 := by rw [Nat.mod_mod_of_dvd _ hsn]; exact hg
      obtain ⟨c, hc⟩ := hsn
      have := Nat.div_add_mod (a ^ r % n) s
      rw [e1] at this
      refine ⟨a ^ r % n / s + c, ?_⟩
      rw [Nat.mul_add, ← hc]; omega
    have h4 := Nat.dvd_gcd h3 hsn
    rw [h2] at h4
    have := Nat.le_of_dvd (by omega) h4
    omega

theorem exists_prime : ∀ n, 2 ≤ n → ∃ s, Pr s ∧ s ∣ n := by
  intro n
  induction n using Nat.strongRecOn with
  | ind n ih =>
    intro h
    by_cases hp : Pr n
    · exact ⟨n, hp, Nat.dvd_refl n⟩
    · have : ∃ d, d ∣ n ∧ d ≠ 1 ∧ d ≠ n := by
        apply Classical.byContradiction
        intro hc
        refine hp ⟨h, fun d hd => ?_⟩
        by_cases h1 : d = 1
        · exact .inl h1
        · by_cases h2 : d = n
          · exact .inr h2
          · exact absurd ⟨d, hd, h1, h2⟩ hc
      obtain ⟨d, hd, h1, h2⟩ := this
      have hle := Nat.le_of_dvd (by omega) hd
      have h0 : d ≠ 0 := by intro e; subst e; rw [Nat.zero_dvd] at hd; omega
      obtain ⟨s, hs, hsd⟩ := ih d (by omega) (by omega)
      exact ⟨s, hs, Nat.dvd_trans hsd hd⟩

/-- a number all of whose prime divisors are greater than its root is prime -/
theorem prime_of_divisors {n : Nat} (hn : 2 ≤ n) (h : ∀ s, Pr s → s ∣ n → n < s * s) : Pr n := by
  refine ⟨hn, fun d hd => ?_⟩
  by_cases h1 : d = 1
  · exact .inl h1
  by_cases h2 : d = n
  · exact .inr h2
  exfalso
  obtain ⟨e, he⟩ := hd
  have hd0 : d ≠ 0 := by intro e0; subst e0; omega
  have he0 : e ≠ 0 := by intro e0; subst e0; omega
  have he1 : e ≠ 1 := by intro e0; subst e0; omega
  rcases Nat.le_total d e with hle | hle
  · obtain ⟨s, hs, hsd⟩ := exists_prime d (by omega)
    have h3 := h s hs (Nat.dvd_trans hsd ⟨e, he⟩)
    have h4 := Nat.le_of_dvd (by omega) hsd
    have : s * s ≤ d * e := Nat.mul_le_mul h4 (by omega)
    omega
  · obtain ⟨s, hs, hsd⟩ := exists_prime e (by omega)
    have h3 := h s hs (Nat.dvd_trans hsd ⟨d, by rw [he, Nat.mul_comm]⟩)
    have h4 := Nat.le_of_dvd (by omega) hsd
    have : s * s ≤ d * e := Nat.mul_le_mul (by omega) h4
    omega

theorem pock {n F : Nat} (hn : 2 ≤ n) (hF : n ≤ F * F) (h : ∀ s, Pr s → s ∣ n → F ∣ s - 1) : Pr n := by
  refine prime_of_divisors hn fun s hs hsn => ?_
  have h1 := Nat.le_of_dvd (by have := hs.1; omega) (h s hs hsn)
  have : F * F < s * s := Nat.mul_lt_mul'' (by have := hs.1; omega) (by have := hs.1; omega)
  omega

/-- powers, bit by bit -/
def pmGo (n : Nat) : Nat → Nat → Nat → Nat → Nat
  | 0, _, _, acc => acc
  | f + 1, b, e, acc => pmGo n f (b * b % n) (e / 2) (bif Nat.beq (e % 2) 1 then acc * b % n else acc)

theorem pmGo_eq {n : Nat} : ∀ (f b e acc : Nat), e < 2 ^ f → pmGo n f b e acc % n = acc * b ^ e % n
  | 0, b, e, acc, h => by
    have : e = 0 := by simpa using h
    subst this; simp [pmGo]
  | f + 1, b, e, acc, h => by
    rw [pmGo, pmGo_eq f _ _ _ (by rw [Nat.pow_succ] at h; omega), Nat.mul_mod, Nat.pow_mod, Nat.mod_mod, ← Nat.pow_mod, ← Nat.mul_mod]
    have e1 : b ^ e = (b * b) ^ (e / 2) * b ^ (e % 2) := by
      rw [← Nat.pow_two, ← Nat.pow_mul, ← Nat.pow_add, Nat.div_add_mod]
    rw [e1]
    rcases Nat.mod_two_eq_zero_or_one e with h2 | h2
    · rw [h2]; simp [show Nat.beq 0 1 = false from rfl]
    · rw [h2]
      simp only [Nat.beq_refl, cond_true, Nat.pow_one]
      rw [Nat.mul_mod, Nat.mod_mod, ← Nat.mul_mod]
      congr 1
      rw [Nat.mul_assoc, Nat.mul_comm b]

theorem pm_one {n a e : Nat} (f : Nat) (he : e < 2 ^ f) {r : Nat} (h : pmGo n f a e 1 % n = r) : a ^ e % n = r := by
  rw [pmGo_eq f a e 1 he, Nat.one_mul] at h; exact h

/-- small primes by trial -/
def tdiv (n : Nat) : Nat → Nat → Bool
  | 0, _ => false
  | f + 1, d => bif Nat.ble (n + 1) (d * d) then true else bif Nat.beq (n % d) 0 then false else tdiv n f (d + 1)

theorem tdiv_spec {n : Nat} : ∀ (f d : Nat), tdiv n f d = true → ∀ s, d ≤ s → s * s ≤ n → ¬ s ∣ n
  | 0, d, h => by simp [tdiv] at h
  | f + 1, d, h => by
    intro s hds hsn hdv
    unfold tdiv at h
    cases hb : Nat.ble (n + 1) (d * d) with
    | true =>
      have h1 := Nat.le_of_ble_eq_true hb
      have := Nat.mul_le_mul hds hds
      omega
    | false =>
      rw [hb] at h
      cases hc : Nat.beq (n % d) 0 with
      | true => rw [hc] at h; simp at h
      | false =>
        rw [hc] at h
        simp only [cond_false] at h
        by_cases e : d = s
        · subst e
          rw [Nat.mod_eq_zero_of_dvd hdv] at hc
          simp at hc
        · exact tdiv_spec f (d + 1) h s (by omega) hsn hdv

theorem prime_small {n : Nat} (f : Nat) (hn : 2 ≤ n) (h : tdiv n f 2 = true) : Pr n := by
  refine prime_of_divisors hn fun s hs hsn => ?_
  rcases Nat.lt_or_ge n (s * s) with h1 | h1
  · exact h1
  · exact absurd hsn (tdiv_spec f 2 h s hs.1 h1)

theorem two_div {a b s : Nat} (ha : a ∣ s) (hb : b ∣ s) (h : Nat.gcd a b = 1) : a * b ∣ s := Nat.Coprime.mul_dvd_of_dvd_of_dvd h ha hb

/-- one step of a certificate: what one prime factor gives -/
theorem pock_step {n q r a : Nat} (f : Nat) (hn2 : 2 ≤ n) (hq : Pr q) (hn : n - 1 = q * r) (hf : n - 1 < 2 ^ f) (h1 : pmGo n f a (n - 1) 1 % n = 1) (h2 : Nat.gcd (pmGo n f a r 1 % n + (n - 1)) n = 1) :
    ∀ s, Pr s → s ∣ n → q ∣ s - 1 := by
  intro s hs hsn
  have hr : r < 2 ^ f := by
    have : 1 * r ≤ q * r := Nat.mul_le_mul_right r (by have := hq.1; omega)
    omega
  exact pock_dvd hn2 hs hsn hq hn (pm_one f hf h1) (by rw [pmGo_eq f a r 1 hr, Nat.one_mul] at h2; exact h2)

end Pw
