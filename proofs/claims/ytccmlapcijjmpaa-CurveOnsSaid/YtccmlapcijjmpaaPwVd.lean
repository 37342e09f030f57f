/- A part of the proof: PwVd. -/
import Derived.Test.YtccmlapcijjmpaaPwVc
namespace Pw
open Go

/-! ### the operations, by value -/

theorem cg_of {a b q : Nat} (h : a = b + PP * q) : b % PP = a % PP := by rw [h, Nat.add_mul_mod_self_left]

theorem add_val {x y : L5} (hx : ok5 x) (hy : ok5 y) : val5 (addS x y) % PP = (val5 x + val5 y) % PP ∧ ok5 (addS x y) := by
  obtain ⟨x1, x2, x3, x4, x5⟩ := hx
  obtain ⟨y1, y2, y3, y4, y5⟩ := hy
  unfold addS
  rw [add64_eq (a := x.a) (by omega), add64_eq (a := x.b) (by omega), add64_eq (a := x.c) (by omega), add64_eq (a := x.d) (by omega), add64_eq (a := x.e) (by omega)]
  obtain ⟨⟨q, hq⟩, ho⟩ := carried_val (a := x.a + y.a) (b := x.b + y.b) (c := x.c + y.c) (d := x.d + y.d) (e := x.e + y.e) (by omega) (by omega) (by omega) (by omega) (by omega)
  refine ⟨?_, ho⟩
  rw [cg_of hq]
  congr 1
  simp only [val5]; omega

theorem sub64_eq {a b : Nat} (h : b ≤ a) (ha : a < 18446744073709551616) : sub64 a b = a - b := by
  show (a + (18446744073709551616 - b)) % 18446744073709551616 = a - b
  rw [show a + (18446744073709551616 - b) = (a - b) + 18446744073709551616 by omega, Nat.add_mod_right, Nat.mod_eq_of_lt (by omega)]

set_option maxRecDepth 100000 in
theorem sub_val {x y : L5} (hx : ok5 x) (hy : ok5 y) : (val5 (subS x y) + val5 y) % PP = val5 x % PP ∧ ok5 (subS x y) := by
  obtain ⟨x1, x2, x3, x4, x5⟩ := hx
  obtain ⟨y1, y2, y3, y4, y5⟩ := hy
  unfold subS
  rw [add64_eq (a := x.a) (by omega), add64_eq (a := x.b) (by omega), add64_eq (a := x.c) (by omega), add64_eq (a := x.d) (by omega), add64_eq (a := x.e) (by omega)]
  rw [sub64_eq (b := y.a) (by omega) (by omega), sub64_eq (b := y.b) (by omega) (by omega), sub64_eq (b := y.c) (by omega) (by omega), sub64_eq (b := y.d) (by omega) (by omega), sub64_eq (b := y.e) (by omega) (by omega)]
  obtain ⟨⟨q, hq⟩, ho⟩ := carried_val (a := x.a + 9007199254740916 - y.a) (b := x.b + 9007199254740988 - y.b) (c := x.c + 9007199254740988 - y.c) (d := x.d + 9007199254740988 - y.d) (e := x.e + 9007199254740988 - y.e) (by omega) (by omega) (by omega) (by omega) (by omega)
  refine ⟨?_, ho⟩
  have h1 : val5 x + PP * 4 = val5 (carried (x.a + 9007199254740916 - y.a) (x.b + 9007199254740988 - y.b) (x.c + 9007199254740988 - y.c) (x.d + 9007199254740988 - y.d) (x.e + 9007199254740988 - y.e)) + val5 y + PP * q := by
    have h2 : val5 x + PP * 4 = ((x.a + 9007199254740916 - y.a) + 2251799813685248 * (x.b + 9007199254740988 - y.b) + 5070602400912917605986812821504 * (x.c + 9007199254740988 - y.c) + 11417981541647679048466287755595961091061972992 * (x.d + 9007199254740988 - y.d) + 25711008708143844408671393477458601640355247900524685364822016 * (x.e + 9007199254740988 - y.e)) + val5 y := by
      have f1 : x.a + 9007199254740916 = (x.a + 9007199254740916 - y.a) + y.a := by omega
      have f2 : x.b + 9007199254740988 = (x.b + 9007199254740988 - y.b) + y.b := by omega
      have f3 : x.c + 9007199254740988 = (x.c + 9007199254740988 - y.c) + y.c := by omega
      have f4 : x.d + 9007199254740988 = (x.d + 9007199254740988 - y.d) + y.d := by omega
      have f5 : x.e + 9007199254740988 = (x.e + 9007199254740988 - y.e) + y.e := by omega
      clear hq ho x1 x2 x3 x4 x5 y1 y2 y3 y4 y5
      generalize x.a + 9007199254740916 - y.a = z1 at *
      generalize x.b + 9007199254740988 - y.b = z2 at *
      generalize x.c + 9007199254740988 - y.c = z3 at *
      generalize x.d + 9007199254740988 - y.d = z4 at *
      generalize x.e + 9007199254740988 - y.e = z5 at *
      simp only [val5, PP]
      omega
    rw [h2, hq]; omega
  have h3 := congrArg (· % PP) h1
  simp only [Nat.add_mul_mod_self_left] at h3
  exact h3.symm

theorem zero_ok : ok5 zero5 := by unfold ok5 zero5; decide
theorem neg_val {x : L5} (hx : ok5 x) : (val5 (negS x) + val5 x) % PP = 0 ∧ ok5 (negS x) := by
  have h := sub_val zero_ok hx
  exact ⟨by rw [negS, h.1]; decide +kernel, h.2⟩

theorem w0_wf : w0.wf := by unfold W2.wf w0; decide
theorem w0_val : valW w0 = 0 := rfl

/-- one product more, with room -/
theorem plus_le {s : W2} {a b A B n : Nat} (hs : s.wf ∧ valW s ≤ n) (ha : a ≤ A) (hb : b ≤ B) (hA : A < 18446744073709551616) (hB : B < 18446744073709551616) (h : n + A * B < 340282366920938463463374607431768211456) :
    valW (plusS s a b) = valW s + a * b ∧ ((plusS s a b).wf ∧ valW (plusS s a b) ≤ n + A * B) := by
  have hab : a * b ≤ A * B := Nat.mul_le_mul ha hb
  obtain ⟨h1, h2⟩ := plus_val hs.1 (a := a) (b := b) (by omega) (by omega) (by omega)
  exact ⟨h1, h2, by omega⟩

theorem m19 {b : Nat} (hb : b ≤ 2251799813840895) : mul64 19 b = 19 * b ∧ 19 * b ≤ 42784196462977005 := ⟨mul64_eq (by omega), by omega⟩
theorem m2 {b : Nat} (hb : b ≤ 2251799813840895) : mul64 2 b = 2 * b ∧ 2 * b ≤ 4503599627681790 := ⟨mul64_eq (by omega), by omega⟩

theorem five {a0 a1 a2 a3 a4 b0 b1 b2 b3 b4 B : Nat} (h0 : a0 ≤ 2251799813840895) (h1 : a1 ≤ 2251799813840895) (h2 : a2 ≤ 2251799813840895) (h3 : a3 ≤ 2251799813840895) (h4 : a4 ≤ 2251799813840895)
    (k0 : b0 ≤ B) (k1 : b1 ≤ B) (k2 : b2 ≤ B) (k3 : b3 ≤ B) (k4 : b4 ≤ B) (hB : B ≤ 42784196462977005) :
    valW (plusS (plusS (plusS (plusS (plusS w0 a0 b0) a1 b1) a2 b2) a3 b3) a4 b4) = a0 * b0 + a1 * b1 + a2 * b2 + a3 * b3 + a4 * b4 ∧
    (plusS (plusS (plusS (plusS (plusS w0 a0 b0) a1 b1) a2 b2) a3 b3) a4 b4).wf ∧ valW (plusS (plusS (plusS (plusS (plusS w0 a0 b0) a1 b1) a2 b2) a3 b3) a4 b4) ≤ 11258999069204475 * B := by
  have hm : 2251799813840895 * B ≤ 2251799813840895 * 42784196462977005 := Nat.mul_le_mul_left _ hB
  have e1 := plus_le (n := 0) ⟨w0_wf, by rw [w0_val]; exact Nat.le_refl 0⟩ h0 k0 (by omega) (by omega) (by omega)
  have e2 := plus_le e1.2 h1 k1 (by omega) (by omega) (by omega)
  have e3 := plus_le e2.2 h2 k2 (by omega) (by omega) (by omega)
  have e4 := plus_le e3.2 h3 k3 (by omega) (by omega) (by omega)
  have e5 := plus_le e4.2 h4 k4 (by omega) (by omega) (by omega)
  refine ⟨?_, e5.2.1, by omega⟩
  rw [e5.1, e4.1, e3.1, e2.1, e1.1, w0_val, Nat.zero_add]

theorem three {a0 a1 a2 b0 b1 b2 A B : Nat} (h0 : a0 ≤ A) (h1 : a1 ≤ A) (h2 : a2 ≤ A)
    (k0 : b0 ≤ B) (k1 : b1 ≤ B) (k2 : b2 ≤ B) (hA : A ≤ 4503599627681790) (hB : B ≤ 42784196462977005) :
    valW (plusS (plusS (plusS w0 a0 b0) a1 b1) a2 b2) = a0 * b0 + a1 * b1 + a2 * b2 ∧
    (plusS (plusS (plusS w0 a0 b0) a1 b1) a2 b2).wf ∧ valW (plusS (plusS (plusS w0 a0 b0) a1 b1) a2 b2) ≤ 3 * (A * B) := by
  have hm : A * B ≤ 4503599627681790 * 42784196462977005 := Nat.mul_le_mul hA hB
  have e1 := plus_le (n := 0) ⟨w0_wf, by rw [w0_val]; exact Nat.le_refl 0⟩ h0 k0 (by omega) (by omega) (by omega)
  have e2 := plus_le e1.2 h1 k1 (by omega) (by omega) (by omega)
  have e3 := plus_le e2.2 h2 k2 (by omega) (by omega) (by omega)
  refine ⟨?_, e3.2.1, by omega⟩
  rw [e3.1, e2.1, e1.1, w0_val, Nat.zero_add]

theorem mul_val {x y : L5} (hx : ok5 x) (hy : ok5 y) : val5 (mulS x y) % PP = val5 x * val5 y % PP ∧ ok5 (mulS x y) := by
  obtain ⟨x1, x2, x3, x4, x5⟩ := hx
  obtain ⟨y1, y2, y3, y4, y5⟩ := hy
  have c1 := m19 (b := y.b) (by omega)
  have c2 := m19 (b := y.c) (by omega)
  have c3 := m19 (b := y.d) (by omega)
  have c4 := m19 (b := y.e) (by omega)
  unfold mulS
  dsimp only
  rw [c1.1, c2.1, c3.1, c4.1]
  have r := five (a0 := x.a) (a1 := x.b) (a2 := x.c) (a3 := x.d) (a4 := x.e) (b0 := y.a) (b1 := 19 * y.e) (b2 := 19 * y.d) (b3 := 19 * y.c) (b4 := 19 * y.b) (B := 42784196462977005) (by omega) (by omega) (by omega) (by omega) (by omega) (by omega) (by omega) (by omega) (by omega) (by omega) (by omega)
  have s := five (a0 := x.a) (a1 := x.b) (a2 := x.c) (a3 := x.d) (a4 := x.e) (b0 := y.b) (b1 := y.a) (b2 := 19 * y.e) (b3 := 19 * y.d) (b4 := 19 * y.c) (B := 42784196462977005) (by omega) (by omega) (by omega) (by omega) (by omega) (by omega) (by omega) (by omega) (by omega) (by omega) (by omega)
  have t := five (a0 := x.a) (a1 := x.b) (a2 := x.c) (a3 := x.d) (a4 := x.e) (b0 := y.c) (b1 := y.b) (b2 := y.a) (b3 := 19 * y.e) (b4 := 19 * y.d) (B := 42784196462977005) (by omega) (by omega) (by omega) (by omega) (by omega) (by omega) (by omega) (by omega) (by omega) (by omega) (by omega)
  have u := five (a0 := x.a) (a1 := x.b) (a2 := x.c) (a3 := x.d) (a4 := x.e) (b0 := y.d) (b1 := y.c) (b2 := y.b) (b3 := y.a) (b4 := 19 * y.e) (B := 42784196462977005) (by omega) (by omega) (by omega) (by omega) (by omega) (by omega) (by omega) (by omega) (by omega) (by omega) (by omega)
  have v := five (a0 := x.a) (a1 := x.b) (a2 := x.c) (a3 := x.d) (a4 := x.e) (b0 := y.e) (b1 := y.d) (b2 := y.c) (b3 := y.b) (b4 := y.a) (B := 2251799813840895) (by omega) (by omega) (by omega) (by omega) (by omega) (by omega) (by omega) (by omega) (by omega) (by omega) (by omega)
  obtain ⟨⟨q, hq⟩, ho⟩ := folded_val r.2.1 s.2.1 t.2.1 u.2.1 v.2.1 (by have := r.2.2; omega) (by have := s.2.2; omega) (by have := t.2.2; omega) (by have := u.2.2; omega) (by have := v.2.2; omega)
  refine ⟨?_, ho⟩
  rw [r.1, s.1, t.1, u.1, v.1] at hq
  rw [cg_of hq]
  refine cg_of (q := (x.b * y.e + x.c * y.d + x.d * y.c + x.e * y.b) + 2251799813685248 * (x.c * y.e + x.d * y.d + x.e * y.c) + 5070602400912917605986812821504 * (x.d * y.e + x.e * y.d) + 11417981541647679048466287755595961091061972992 * (x.e * y.e)) ?_
  clear hq ho r s t u v c1 c2 c3 c4
  unfold val5 PP
  grind

theorem sq_val {x : L5} (hx : ok5 x) : val5 (sqS x) % PP = val5 x * val5 x % PP ∧ ok5 (sqS x) := by
  obtain ⟨x1, x2, x3, x4, x5⟩ := hx
  have c3 := m19 (b := x.d) (by omega)
  have c4 := m19 (b := x.e) (by omega)
  have d0 := m2 (b := x.a) (by omega)
  have d1 := m2 (b := x.b) (by omega)
  have d2 := m2 (b := x.c) (by omega)
  have d3 := m2 (b := x.d) (by omega)
  unfold sqS
  dsimp only
  rw [c3.1, c4.1, d0.1, d1.1, d2.1, d3.1]
  have r := three (a0 := x.a) (a1 := 2 * x.b) (a2 := 2 * x.c) (b0 := x.a) (b1 := 19 * x.e) (b2 := 19 * x.d) (A := 4503599627681790) (B := 42784196462977005) (by omega) (by omega) (by omega) (by omega) (by omega) (by omega) (by omega) (by omega)
  have s := three (a0 := 2 * x.a) (a1 := 2 * x.c) (a2 := x.d) (b0 := x.b) (b1 := 19 * x.e) (b2 := 19 * x.d) (A := 4503599627681790) (B := 42784196462977005) (by omega) (by omega) (by omega) (by omega) (by omega) (by omega) (by omega) (by omega)
  have t := three (a0 := 2 * x.a) (a1 := x.b) (a2 := 2 * x.d) (b0 := x.c) (b1 := x.b) (b2 := 19 * x.e) (A := 4503599627681790) (B := 42784196462977005) (by omega) (by omega) (by omega) (by omega) (by omega) (by omega) (by omega) (by omega)
  have u := three (a0 := 2 * x.a) (a1 := 2 * x.b) (a2 := x.e) (b0 := x.d) (b1 := x.c) (b2 := 19 * x.e) (A := 4503599627681790) (B := 42784196462977005) (by omega) (by omega) (by omega) (by omega) (by omega) (by omega) (by omega) (by omega)
  have v := three (a0 := 2 * x.a) (a1 := 2 * x.b) (a2 := x.c) (b0 := x.e) (b1 := x.d) (b2 := x.c) (A := 4503599627681790) (B := 2251799813840895) (by omega) (by omega) (by omega) (by omega) (by omega) (by omega) (by omega) (by omega)
  obtain ⟨⟨q, hq⟩, ho⟩ := folded_val r.2.1 s.2.1 t.2.1 u.2.1 v.2.1 (by have := r.2.2; omega) (by have := s.2.2; omega) (by have := t.2.2; omega) (by have := u.2.2; omega) (by have := v.2.2; omega)
  refine ⟨?_, ho⟩
  rw [r.1, s.1, t.1, u.1, v.1] at hq
  rw [cg_of hq]
  refine cg_of (q := (2 * (x.b * x.e) + 2 * (x.c * x.d)) + 2251799813685248 * (2 * (x.c * x.e) + x.d * x.d) + 5070602400912917605986812821504 * (2 * (x.d * x.e)) + 11417981541647679048466287755595961091061972992 * (x.e * x.e)) ?_
  clear hq ho r s t u v c3 c4 d0 d1 d2 d3
  unfold val5 PP
  grind

theorem one_plus {a n : Nat} (ha : a ≤ 2251799813840895) (hn : n ≤ 4294967295) : valW (plusS w0 a n) = a * n ∧ (plusS w0 a n).wf ∧ valW (plusS w0 a n) ≤ 9671406556917033397649408 := by
  have hm : a * n ≤ 2251799813840895 * 4294967295 := Nat.mul_le_mul ha hn
  have e1 := plus_le (n := 0) (A := 2251799813840895) (B := 4294967295) ⟨w0_wf, by rw [w0_val]; exact Nat.le_refl 0⟩ ha hn (by omega) (by omega) (by omega)
  refine ⟨by rw [e1.1, w0_val, Nat.zero_add], e1.2.1, by have := e1.2.2; omega⟩

theorem times_val {x : L5} (hx : ok5 x) {n : Nat} (hn : n ≤ 4294967295) : val5 (timesS x n) % PP = val5 x * n % PP ∧ ok5 (timesS x n) := by
  obtain ⟨x1, x2, x3, x4, x5⟩ := hx
  unfold timesS
  have r := one_plus (a := x.a) (by omega) hn
  have s := one_plus (a := x.b) (by omega) hn
  have t := one_plus (a := x.c) (by omega) hn
  have u := one_plus (a := x.d) (by omega) hn
  have v := one_plus (a := x.e) (by omega) hn
  obtain ⟨⟨q, hq⟩, ho⟩ := folded_val r.2.1 s.2.1 t.2.1 u.2.1 v.2.1 (by have := r.2.2; omega) (by have := s.2.2; omega) (by have := t.2.2; omega) (by have := u.2.2; omega) (by have := v.2.2; omega)
  refine ⟨?_, ho⟩
  rw [r.1, s.1, t.1, u.1, v.1] at hq
  rw [cg_of hq]
  congr 1
  clear hq ho r s t u v
  unfold val5
  grind

theorem small_val {n : Nat} (hn : n < 18446744073709551616) : val5 (smallS n) = n ∧ ok5 (smallS n) := by
  unfold smallS ok5 val5
  rw [and51]
  constructor
  · simp only; omega
  · simp only; omega
end Pw
