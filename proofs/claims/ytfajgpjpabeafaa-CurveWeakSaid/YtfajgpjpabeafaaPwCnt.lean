/- Counting: a curve has no more points than it can have; so the order of every point is known. -/
import Derived.Test.YtfajgpjpabeafaaPwMf
namespace Pw

theorem pigeon : ∀ (m n : Nat) (f : Nat → Nat), (∀ i, i < n → f i < m) → (∀ i j, i < n → j < n → f i = f j → i = j) → n ≤ m
  | 0, n, f, h, _ => by
    cases n with
    | zero => exact Nat.le_refl _
    | succ n => exact absurd (h 0 (by omega)) (by omega)
  | m + 1, 0, _, _, _ => by omega
  | m + 1, n + 1, f, h, hi => by
    have key := pigeon m n (fun i => if f i = m then f n else f i) (fun i hin => by
      split
      · rename_i e
        have h1 := h n (by omega)
        have h2 : f n ≠ m := fun e2 => by
          have := hi i n (by omega) (by omega) (e.trans e2.symm); omega
        omega
      · have := h i (by omega); omega) (fun i j hin hjn e => by
      split at e
      · rename_i e1
        split at e
        · rename_i e2; exact hi i j (by omega) (by omega) (e1.trans e2.symm)
        · have := hi n j (by omega) (by omega) e; omega
      · split at e
        · have := hi i n (by omega) (by omega) e; omega
        · exact hi i j (by omega) (by omega) e)
    omega

variable {E : EC}

theorem EP.mul_sub {B : EP E} {i j : Nat} (hij : i ≤ j) (h : B.mul i = B.mul j) : B.mul (j - i) = EP.zero E := by
  have h2 : B.mul j = (B.mul i).add (B.mul (j - i)) := by rw [← EP.mul_add]; congr 1; omega
  rw [← h] at h2
  exact (EP.add_cancel (p := B.mul i) ((EP.add_zero _).trans h2)).symm

/-- a point of prime order, and one of small order -/
structure Gens (E : EC) (c q : Nat) where
  B : EP E
  t : EP E
  hq : Pr q
  c0 : 0 < c
  cq : c < q
  bq : B.mul q = EP.zero E
  b0 : B ≠ EP.zero E
  tc : t.mul c = EP.zero E
  t2 : t.mul (c / 2) ≠ EP.zero E
  hc : ∀ d, d < c → 0 < d → Nat.gcd c d ∣ c / 2

variable {c q : Nat}

/-- the points that the two make -/
def Gens.at (g : Gens E c q) (n : Nat) : EP E := (g.B.mul (n / c)).add (g.t.mul (n % c))

theorem Gens.all (g : Gens E c q) (n : Nat) : (g.at n).mul (c * q) = EP.zero E := by
  unfold Gens.at
  rw [EP.add_mul, ← EP.mul_mul, ← EP.mul_mul]
  have e1 : g.B.mul (n / c * (c * q)) = EP.zero E := by
    rw [show n / c * (c * q) = q * (n / c * c) by rw [← Nat.mul_assoc, Nat.mul_comm], EP.mul_mul, g.bq, EP.zero_mul]
  have e2 : g.t.mul (n % c * (c * q)) = EP.zero E := by
    rw [show n % c * (c * q) = c * (n % c * q) by rw [← Nat.mul_assoc, Nat.mul_comm (n % c), Nat.mul_assoc], EP.mul_mul, g.tc, EP.zero_mul]
  rw [e1, e2, EP.zero_add]

theorem Gens.low (g : Gens E c q) {i j : Nat} (hij : i ≤ j) (hj : j < q) (h : (g.B.mul i).mul c = (g.B.mul j).mul c) : i = j := by
  rcases Nat.lt_or_ge i j with hlt | hge
  · rw [← EP.mul_mul, ← EP.mul_mul, Nat.mul_comm i, Nat.mul_comm j, EP.mul_mul, EP.mul_mul] at h
    have h1 := EP.mul_sub hij h
    have h2 : (g.B.mul c).mul q = EP.zero E := by rw [← EP.mul_mul, Nat.mul_comm, EP.mul_mul, g.bq, EP.zero_mul]
    have h3 := EP.mul_prime g.hq h2 h1 (by omega) (by omega)
    exact absurd (EP.mul_prime g.hq g.bq h3 g.c0 g.cq) g.b0
  · omega

theorem Gens.tor (g : Gens E c q) {i j : Nat} (hij : i ≤ j) (hj : j < c) (h : g.t.mul i = g.t.mul j) : i = j := by
  rcases Nat.lt_or_ge i j with hlt | hge
  · have h1 := EP.mul_sub hij h
    have h2 := EP.mul_gcd c (j - i) g.tc h1
    obtain ⟨k, hk⟩ := g.hc (j - i) (by omega) (by omega)
    refine absurd ?_ g.t2
    rw [hk, EP.mul_mul, h2, EP.zero_mul]
  · omega

theorem Gens.inj (g : Gens E c q) {m n : Nat} (hm : m < c * q) (hn : n < c * q) (h : g.at m = g.at n) : m = n := by
  have hc := g.c0
  have hmc : m % c < c := Nat.mod_lt _ hc
  have hnc : n % c < c := Nat.mod_lt _ hc
  have hmq : m / c < q := Nat.div_lt_of_lt_mul hm
  have hnq : n / c < q := Nat.div_lt_of_lt_mul hn
  have e := congrArg (fun P => EP.mul P c) h
  simp only [Gens.at, EP.add_mul] at e
  have ht : ∀ k, (g.t.mul k).mul c = EP.zero E := fun k => by rw [← EP.mul_mul, Nat.mul_comm, EP.mul_mul, g.tc, EP.zero_mul]
  rw [ht, ht, EP.add_zero, EP.add_zero] at e
  have e1 : m / c = n / c := by
    rcases Nat.le_total (m / c) (n / c) with hle | hle
    · exact g.low hle hnq e
    · exact (g.low hle hmq e.symm).symm
  unfold Gens.at at h
  rw [e1] at h
  have e2 := EP.add_cancel h
  have e3 : m % c = n % c := by
    rcases Nat.le_total (m % c) (n % c) with hle | hle
    · exact g.tor hle hnc e2
    · exact (g.tor hle hmc e2.symm).symm
  rw [← Nat.div_add_mod m c, ← Nat.div_add_mod n c, e1, e3]

/-- one point that is none of them: twice as many -/
def Gens.two (g : Gens E c q) (P : EP E) (n : Nat) : EP E := if n < c * q then g.at n else P.add (g.at (n - c * q))

theorem Gens.two_inj (g : Gens E c q) {P : EP E} (hP : P.mul (c * q) ≠ EP.zero E) {m n : Nat} (hm : m < 2 * (c * q)) (hn : n < 2 * (c * q)) (h : g.two P m = g.two P n) : m = n := by
  have no : ∀ a b, g.at a ≠ P.add (g.at b) := by
    intro a b e
    have := congrArg (fun Q => EP.mul Q (c * q)) e
    simp only [EP.add_mul, g.all, EP.add_zero] at this
    exact hP this.symm
  unfold Gens.two at h
  split at h
  · split at h
    · exact g.inj (by omega) (by omega) h
    · exact absurd h (no _ _)
  · split at h
    · exact absurd h.symm (no _ _)
    · have := g.inj (by omega) (by omega) (EP.add_cancel h)
      omega

/-! ### how many there can be -/

theorem sq_two {x y : Fp} (h : x * x = y * y) : x = y ∨ x = -y := by
  have h1 : (x - y) * (x + y) = 0 := by grind
  rcases fp_mul_zero h1 with h2 | h2
  · left; grind
  · right; grind

theorem neg_par {x y : Fp} (h : x = -y) (hp : x.val % 2 = y.val % 2) : x = y := by
  have hPP : PP = 57896044618658097711785492504343953926634992332820282019728792003956564819949 := rfl
  have h1 : x.val = (PP - y.val) % PP := by rw [h, Fin.val_neg']
  have h2 := y.isLt
  by_cases h0 : y.val = 0
  · apply Fin.ext
    rw [h0, Nat.sub_zero, Nat.mod_self] at h1
    omega
  · rw [Nat.mod_eq_of_lt (by omega)] at h1
    omega

theorem ay_ne (P : EP E) : E.a - E.d * P.y * P.y ≠ 0 := by
  intro h
  have ha := E.ha
  by_cases hy : P.y = 0
  · rw [hy, Fin.mul_zero] at h
    have : E.al * E.al = 0 := by rw [ha]; clear ha hy; grind
    rcases fp_mul_zero this with h1 | h1 <;> exact E.hal h1
  · refine E.hd ⟨E.al * finv P.y, ?_⟩
    have h2 := mul_finv hy
    generalize finv P.y = i at *
    generalize P.y = y at *
    generalize E.a = a at *
    generalize E.d = d at *
    generalize E.al = al at *
    clear hy
    have h3 : al * i * (al * i) = a * (i * i) := by rw [← ha]; clear ha h h2; grind
    have h4 : a = d * y * y := by clear ha h2 h3; grind
    rw [h3, h4]
    clear h3 h4 ha h
    grind

theorem x_of_y {P Q : EP E} (hy : P.y = Q.y) : P.x = Q.x ∨ P.x = -Q.x := by
  apply sq_two
  have h1 := P.on
  have h2 := Q.on
  have hn := ay_ne P
  rw [← hy] at h2
  refine fp_cancel hn ?_
  generalize P.y = y at *
  generalize P.x = x at *
  generalize Q.x = z at *
  generalize E.a = a at *
  generalize E.d = d at *
  clear hn hy
  grind

/-- a number for each point -/
def EP.code (P : EP E) : Nat := 2 * P.y.val + P.x.val % 2
theorem EP.code_lt (P : EP E) : P.code < 2 * PP := by
  have := P.y.isLt
  unfold EP.code; omega
theorem EP.code_inj {P Q : EP E} (h : P.code = Q.code) : P = Q := by
  unfold EP.code at h
  have hy : P.y = Q.y := Fin.ext (by omega)
  refine EP.ext' ?_ hy
  rcases x_of_y hy with h1 | h1
  · exact h1
  · exact neg_par h1 (by omega)

/-- where the two make more than half of all points that there can be, they make all -/
theorem Gens.order (g : Gens E c q) (h : PP < c * q) (P : EP E) : P.mul (c * q) = EP.zero E := by
  refine Classical.byContradiction fun hP => ?_
  have := pigeon (2 * PP) (2 * (c * q)) (fun n => (g.two P n).code) (fun i _ => EP.code_lt _) fun i j hi hj e => g.two_inj hP hi hj (EP.code_inj e)
  omega

end Pw
