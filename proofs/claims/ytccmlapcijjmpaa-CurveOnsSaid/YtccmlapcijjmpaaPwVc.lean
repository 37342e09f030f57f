/- A part of the proof: PwVc. -/
import Derived.Test.YtccmlapcijjmpaaPwVb
namespace Pw
open Go

/-! ### the document's numbers, by value -/

def val4 (x : L4) : Nat := x.a + 18446744073709551616 * x.b + 340282366920938463463374607431768211456 * x.c + 6277101735386680763835789423207666416102355444464034512896 * x.d
def B256 : Nat := 115792089237316195423570985008687907853269984665640564039457584007913129639936
def B255 : Nat := 57896044618658097711785492504343953926634992332820282019728792003956564819968

theorem L4.wf.lt {x : L4} (h : x.wf) : val4 x < B256 := by
  obtain ⟨h1, h2, h3, h4⟩ := h
  unfold val4 B256; omega

theorem bb_eq (x y b : Nat) : bb x y b = if x < y + b then 1 else 0 := by unfold bb; by_cases h : x < y + b <;> simp [h]
theorem sb_eq {x y b : Nat} (hx : x < 18446744073709551616) (hy : y < 18446744073709551616) (hb : b ≤ 1) : x + 18446744073709551616 * bb x y b = y + b + sb x y b ∧ sb x y b < 18446744073709551616 := by
  rw [bb_eq]; unfold sb
  by_cases h : x < y + b
  · rw [if_pos h, Nat.mod_eq_of_lt (by omega)]; omega
  · rw [if_neg h, show x + 18446744073709551616 - y - b = (x - y - b) + 18446744073709551616 by omega, Nat.add_mod_right, Nat.mod_eq_of_lt (by omega)]; omega

theorem min_val {x y : L4} (hx : x.wf) (hy : y.wf) : val4 x + B256 * minB x y = val4 y + val4 (minD x y) ∧ (minD x y).wf ∧ minB x y ≤ 1 := by
  obtain ⟨x1, x2, x3, x4⟩ := hx
  obtain ⟨y1, y2, y3, y4⟩ := hy
  have e1 := sb_eq x1 y1 (Nat.zero_le 1)
  have e2 := sb_eq x2 y2 (bb_le x.a y.a 0)
  have e3 := sb_eq x3 y3 (bb_le x.b y.b (minB0 x y))
  have e4 := sb_eq x4 y4 (bb_le x.c y.c (minB1 x y))
  refine ⟨?_, ⟨e1.2, e2.2, e3.2, e4.2⟩, bb_le _ _ _⟩
  have f1 := e1.1
  have f2 := e2.1
  have f3 := e3.1
  have f4 := e4.1
  clear e1 e2 e3 e4
  simp only [val4, minD, minB, minB2, minB1, minB0, B256] at *
  generalize bb x.a y.a 0 = p1 at *
  generalize bb x.b y.b p1 = p2 at *
  generalize bb x.c y.c p2 = p3 at *
  generalize bb x.d y.d p3 = p4 at *
  generalize sb x.a y.a 0 = q1 at *
  generalize sb x.b y.b p1 = q2 at *
  generalize sb x.c y.c p2 = q3 at *
  generalize sb x.d y.d p3 = q4 at *
  omega

theorem prime_wf : primeD.wf := by unfold L4.wf primeD; decide
theorem prime_val : val4 primeD = PP := by decide +kernel

theorem below_val {x : L4} (hx : x.wf) (h : val4 x < 2 * PP) : (belowR x).wf ∧ val4 (belowR x) = val4 x % PP := by
  obtain ⟨e, hw, hb⟩ := min_val hx prime_wf
  have hl := hw.lt
  rw [prime_val] at e
  unfold belowR
  by_cases hm : minB x primeD = 1
  · rw [decide_eq_true hm, cond_true]
    rw [hm] at e
    refine ⟨hx, (Nat.mod_eq_of_lt ?_).symm⟩
    unfold B256 PP at *; omega
  · rw [decide_eq_false hm, cond_false]
    have h0 : minB x primeD = 0 := by omega
    rw [h0] at e
    refine ⟨hw, ?_⟩
    have e' : val4 x = PP + val4 (minD x primeD) := by omega
    rw [e', Nat.add_mod_left, Nat.mod_eq_of_lt (by omega)]

theorem ac_cc (x y c : Nat) : x + y + c = ac x y c + 18446744073709551616 * cc x y c ∧ ac x y c < 18446744073709551616 := by
  unfold ac cc; omega

theorem settle_val {x : L4} (hx : x.wf) {o : Nat} (ho : o < 1099511627776) : (settleR x o).wf ∧ val4 (settleR x o) = (val4 x + B256 * o) % PP := by
  obtain ⟨x1, x2, x3, x4⟩ := hx
  unfold settleR
  rw [and63, mul64_eq (a := 2) (b := o) (by omega), add64_eq (a := 2 * o) (b := x.d / 2 ^ 63) (by omega), mul64_eq (a := 19) (by omega)]
  have hd : x.d / 2 ^ 63 ≤ 1 := by omega
  have ed : x.d = x.d % 9223372036854775808 + 9223372036854775808 * (x.d / 2 ^ 63) := by omega
  have hdm : x.d % 9223372036854775808 < 9223372036854775808 := Nat.mod_lt _ (by decide)
  have ev : val4 x = x.a + 18446744073709551616 * x.b + 340282366920938463463374607431768211456 * x.c + 6277101735386680763835789423207666416102355444464034512896 * x.d := rfl
  rw [ed] at ev
  revert ev hd hdm
  generalize x.d / 2 ^ 63 = t
  generalize x.d % 9223372036854775808 = d
  intro ht hd ev
  clear ed x4
  generalize hk : 19 * (2 * o + t) = k
  have a1 := ac_cc x.a k 0
  have a2 := ac_cc x.b (cc x.a k 0) 0
  have a3 := ac_cc x.c (cc x.b (cc x.a k 0) 0) 0
  have a4 := ac_cc d (cc x.c (cc x.b (cc x.a k 0) 0) 0) 0
  dsimp only
  generalize cc x.a k 0 = c1 at *
  generalize cc x.b c1 0 = c2 at *
  generalize cc x.c c2 0 = c3 at *
  generalize cc d c3 0 = c4 at *
  generalize ac x.a k 0 = r1 at *
  generalize ac x.b c1 0 = r2 at *
  generalize ac x.c c2 0 = r3 at *
  generalize ac d c3 0 = r4 at *
  have h1 : c1 ≤ 1 := by omega
  have h2 : c2 ≤ 1 := by omega
  have h3 : c3 ≤ 1 := by omega
  have h4 : c4 = 0 := by omega
  subst h4
  have hv : val4 ⟨r1, r2, r3, r4⟩ + B255 * t = val4 x + k := by
    rw [ev]; simp only [val4, B255]; omega
  have hlt : val4 ⟨r1, r2, r3, r4⟩ < 2 * PP := by simp only [val4, PP]; omega
  obtain ⟨hw, hm⟩ := below_val (x := ⟨r1, r2, r3, r4⟩) ⟨a1.2, a2.2, a3.2, a4.2⟩ hlt
  refine ⟨hw, ?_⟩
  rw [hm]
  have e : val4 x + B256 * o = val4 ⟨r1, r2, r3, r4⟩ + PP * (2 * o + t) := by
    clear hm hw hlt
    simp only [B256, B255, PP] at *
    omega
  rw [e, Nat.add_mul_mod_self_left]

theorem tm_val {x y c d : Nat} (hx : x < 18446744073709551616) (hy : y < 18446744073709551616) (hc : c < 18446744073709551616) (hd : d < 18446744073709551616) :
    tmHi x y c d * 18446744073709551616 + tmLo x y c d = x * y + c + d ∧ tmLo x y c d < 18446744073709551616 ∧ tmHi x y c d < 18446744073709551616 := by
  have hm := mul_split hx hy
  have hl : mul64 x y < 18446744073709551616 := Nat.mod_lt _ (by decide)
  have hp : x * y ≤ 18446744073709551615 * 18446744073709551615 := Nat.mul_le_mul (by omega) (by omega)
  unfold tmHi tmLo
  have a1 := ac_cc (mul64 x y) c 0
  have a2 := ac_cc (ac (mul64 x y) c 0) d 0
  revert hm hl a1 a2
  generalize mulHi x y = q
  generalize mul64 x y = p
  generalize ac p c 0 = r
  generalize ac r d 0 = s
  generalize cc p c 0 = c1
  generalize cc r d 0 = c2
  intro hm hl a1 a2
  have h1 : c1 ≤ 1 := by omega
  have h2 : c2 ≤ 1 := by omega
  have hq : q + c1 + c2 < 18446744073709551616 := by omega
  rw [add64_eq (a := q) (by omega), add64_eq (by omega)]
  omega

theorem row_val {x : Nat} {y t : L4} (hx : x < 18446744073709551616) (hy : y.wf) (ht : t.wf) :
    val4 ⟨(rowM x y t).a, (rowM x y t).b, (rowM x y t).c, (rowM x y t).d⟩ + B256 * (rowM x y t).e = x * val4 y + val4 t ∧ (rowM x y t).wf := by
  obtain ⟨y1, y2, y3, y4⟩ := hy
  obtain ⟨t1, t2, t3, t4⟩ := ht
  have e1 := tm_val hx y1 t1 (d := 0) (by decide)
  have e2 := tm_val hx y2 t2 e1.2.2
  have e3 := tm_val hx y3 t3 e2.2.2
  have e4 := tm_val hx y4 t4 e3.2.2
  refine ⟨?_, e1.2.1, e2.2.1, e3.2.1, e4.2.1, e4.2.2⟩
  have f1 := e1.1
  have f2 := e2.1
  have f3 := e3.1
  have f4 := e4.1
  clear e1 e2 e3 e4
  unfold rowM
  simp only [val4, B256]
  revert f1 f2 f3 f4
  generalize tmHi x y.a t.a 0 = h0
  generalize tmHi x y.b t.b h0 = h1
  generalize tmHi x y.c t.c h1 = h2
  generalize tmHi x y.d t.d h2 = h3
  generalize tmLo x y.a t.a 0 = l0
  generalize tmLo x y.b t.b h0 = l1
  generalize tmLo x y.c t.c h1 = l2
  generalize tmLo x y.d t.d h2 = l3
  intro f1 f2 f3 f4
  have e : x * (y.a + 18446744073709551616 * y.b + 340282366920938463463374607431768211456 * y.c + 6277101735386680763835789423207666416102355444464034512896 * y.d) =
    x * y.a + 18446744073709551616 * (x * y.b) + 340282366920938463463374607431768211456 * (x * y.c) + 6277101735386680763835789423207666416102355444464034512896 * (x * y.d) := by grind
  rw [e]
  generalize x * y.a = p1 at *
  generalize x * y.b = p2 at *
  generalize x * y.c = p3 at *
  generalize x * y.d = p4 at *
  omega

theorem mulR_val {x y : L4} (hx : x.wf) (hy : y.wf) : (mulR x y).wf ∧ val4 (mulR x y) = val4 x * val4 y % PP := by
  obtain ⟨x1, x2, x3, x4⟩ := hx
  have z : L4.wf ⟨0, 0, 0, 0⟩ := by unfold L4.wf; decide
  obtain ⟨e0, w0⟩ := row_val x1 hy z
  obtain ⟨a0, a1, a2, a3, a4⟩ := w0
  obtain ⟨e1, w1⟩ := row_val x2 hy (t := ⟨(rowM x.a y ⟨0, 0, 0, 0⟩).b, (rowM x.a y ⟨0, 0, 0, 0⟩).c, (rowM x.a y ⟨0, 0, 0, 0⟩).d, (rowM x.a y ⟨0, 0, 0, 0⟩).e⟩) ⟨a1, a2, a3, a4⟩
  unfold mulR
  generalize rowM x.a y ⟨0, 0, 0, 0⟩ = r0 at *
  dsimp only at *
  generalize rowM x.b y ⟨r0.b, r0.c, r0.d, r0.e⟩ = r1 at *
  obtain ⟨b0, b1, b2, b3, b4⟩ := w1
  obtain ⟨e2, w2⟩ := row_val x3 hy (t := ⟨r1.b, r1.c, r1.d, r1.e⟩) ⟨b1, b2, b3, b4⟩
  generalize rowM x.c y ⟨r1.b, r1.c, r1.d, r1.e⟩ = r2 at *
  obtain ⟨c0, c1, c2, c3, c4⟩ := w2
  obtain ⟨e3, w3⟩ := row_val x4 hy (t := ⟨r2.b, r2.c, r2.d, r2.e⟩) ⟨c1, c2, c3, c4⟩
  generalize rowM x.d y ⟨r2.b, r2.c, r2.d, r2.e⟩ = r3 at *
  obtain ⟨d0, d1, d2, d3, d4⟩ := w3
  obtain ⟨e4, w4⟩ := row_val (x := 38) (by decide) (y := ⟨r3.b, r3.c, r3.d, r3.e⟩) ⟨d1, d2, d3, d4⟩ (t := ⟨r0.a, r1.a, r2.a, r3.a⟩) ⟨a0, b0, c0, d0⟩
  generalize rowM 38 ⟨r3.b, r3.c, r3.d, r3.e⟩ ⟨r0.a, r1.a, r2.a, r3.a⟩ = f at *
  obtain ⟨f0, f1, f2, f3, f4⟩ := w4
  have hlo : val4 ⟨r0.a, r1.a, r2.a, r3.a⟩ < B256 := L4.wf.lt ⟨a0, b0, c0, d0⟩
  have hhi : val4 ⟨r3.b, r3.c, r3.d, r3.e⟩ < B256 := L4.wf.lt ⟨d1, d2, d3, d4⟩
  have ho : f.e < 1099511627776 := by
    have h5 : B256 * f.e ≤ 38 * val4 ⟨r3.b, r3.c, r3.d, r3.e⟩ + val4 ⟨r0.a, r1.a, r2.a, r3.a⟩ := by rw [← e4]; exact Nat.le_add_left _ _
    clear e0 e1 e2 e3 e4
    unfold B256 at *; omega
  obtain ⟨hw, hv⟩ := settle_val (x := ⟨f.a, f.b, f.c, f.d⟩) ⟨f0, f1, f2, f3⟩ ho
  refine ⟨hw, ?_⟩
  rw [hv, e4]
  have prod : val4 x * val4 y = val4 ⟨r0.a, r1.a, r2.a, r3.a⟩ + B256 * val4 ⟨r3.b, r3.c, r3.d, r3.e⟩ := by
    have ex : val4 x * val4 y = x.a * val4 y + 18446744073709551616 * (x.b * val4 y) + 340282366920938463463374607431768211456 * (x.c * val4 y) + 6277101735386680763835789423207666416102355444464034512896 * (x.d * val4 y) := by
      show (x.a + 18446744073709551616 * x.b + 340282366920938463463374607431768211456 * x.c + 6277101735386680763835789423207666416102355444464034512896 * x.d) * val4 y = _
      grind
    rw [ex]
    generalize x.a * val4 y = p1 at *
    generalize x.b * val4 y = p2 at *
    generalize x.c * val4 y = p3 at *
    generalize x.d * val4 y = p4 at *
    clear hv hw ho e4 hlo hhi ex
    simp only [val4, B256] at *
    omega
  rw [prod]
  have e : val4 ⟨r0.a, r1.a, r2.a, r3.a⟩ + B256 * val4 ⟨r3.b, r3.c, r3.d, r3.e⟩ = 38 * val4 ⟨r3.b, r3.c, r3.d, r3.e⟩ + val4 ⟨r0.a, r1.a, r2.a, r3.a⟩ + PP * (2 * val4 ⟨r3.b, r3.c, r3.d, r3.e⟩) := by
    unfold B256 PP; omega
  rw [e, Nat.add_mul_mod_self_left]
end Pw
