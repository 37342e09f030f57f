/- A part of the proof: PwVal. -/
import Derived.Test.YtccmlapcijjmpaaPwRef
namespace Pw
open Go

/-! ### what the words say -/

def PP : Nat := 57896044618658097711785492504343953926634992332820282019728792003956564819949
def val5 (x : L5) : Nat := x.a + 2251799813685248 * x.b + 5070602400912917605986812821504 * x.c + 11417981541647679048466287755595961091061972992 * x.d + 25711008708143844408671393477458601640355247900524685364822016 * x.e
/-- words below 2^51 + 155648 -/
def ok5 (x : L5) : Prop := x.a < 2251799813840896 ∧ x.b < 2251799813840896 ∧ x.c < 2251799813840896 ∧ x.d < 2251799813840896 ∧ x.e < 2251799813840896

theorem and51 (x : Nat) : x &&& M51 = x % 2251799813685248 := Nat.and_two_pow_sub_one_eq_mod x 51
theorem and32 (x : Nat) : x &&& 4294967295 = x % 4294967296 := Nat.and_two_pow_sub_one_eq_mod x 32
theorem and63 (x : Nat) : x &&& 9223372036854775807 = x % 9223372036854775808 := Nat.and_two_pow_sub_one_eq_mod x 63
theorem or_low {a b : Nat} (k : Nat) (h : b < 2 ^ k) : a * 2 ^ k ||| b = a * 2 ^ k + b := by
  rw [Nat.mul_comm, ← Nat.two_pow_add_eq_or_of_lt h]
theorem or_low' {a b : Nat} (k : Nat) (h : b < 2 ^ k) : b ||| a * 2 ^ k = a * 2 ^ k + b := by
  rw [Nat.or_comm, or_low k h]

theorem add64_eq {a b : Nat} (h : a + b < 18446744073709551616) : add64 a b = a + b := Nat.mod_eq_of_lt h
theorem mul64_eq {a b : Nat} (h : a * b < 18446744073709551616) : mul64 a b = a * b := Nat.mod_eq_of_lt h

theorem mul_lt' {a b A B : Nat} (ha : a ≤ A) (hb : b ≤ B) : a * b ≤ A * B := Nat.mul_le_mul ha hb

theorem mulHi_eq {x y : Nat} (hx : x < 18446744073709551616) (hy : y < 18446744073709551616) : mulHi x y = x * y / 18446744073709551616 := by
  unfold mulHi
  simp only [and32]
  generalize hx0 : x % 4294967296 = x0
  generalize hx1 : x / 2 ^ 32 = x1
  generalize hy0 : y % 4294967296 = y0
  generalize hy1 : y / 2 ^ 32 = y1
  have ex : x = 4294967296 * x1 + x0 := by omega
  have ey : y = 4294967296 * y1 + y0 := by omega
  have b0 : x0 ≤ 4294967295 := by omega
  have b1 : x1 ≤ 4294967295 := by omega
  have c0 : y0 ≤ 4294967295 := by omega
  have c1 : y1 ≤ 4294967295 := by omega
  have p00 := mul_lt' b0 c0
  have p01 := mul_lt' b0 c1
  have p10 := mul_lt' b1 c0
  have p11 := mul_lt' b1 c1
  have key : x * y = 18446744073709551616 * (x1 * y1) + 4294967296 * (x1 * y0) + 4294967296 * (x0 * y1) + x0 * y0 := by rw [ex, ey]; grind
  rw [key]
  clear key hx0 hx1 hy0 hy1 ex ey hx hy
  rw [mul64_eq (a := x0) (b := y0) (by omega), mul64_eq (a := x1) (b := y0) (by omega), mul64_eq (a := x0) (b := y1) (by omega), mul64_eq (a := x1) (b := y1) (by omega)]
  generalize x0 * y0 = q00 at *
  generalize x0 * y1 = q01 at *
  generalize x1 * y0 = q10 at *
  generalize x1 * y1 = q11 at *
  simp only [add64]
  omega

theorem mul_split {x y : Nat} (hx : x < 18446744073709551616) (hy : y < 18446744073709551616) : mulHi x y * 18446744073709551616 + mul64 x y = x * y := by
  rw [mulHi_eq hx hy]
  show x * y / 18446744073709551616 * 18446744073709551616 + x * y % 18446744073709551616 = x * y
  omega

def valW (s : W2) : Nat := s.hi * 18446744073709551616 + s.lo
def W2.wf (s : W2) : Prop := s.hi < 18446744073709551616 ∧ s.lo < 18446744073709551616

set_option maxRecDepth 100000 in
theorem plus_val {s : W2} {a b : Nat} (hs : s.wf) (ha : a < 18446744073709551616) (hb : b < 18446744073709551616) (h : valW s + a * b < 340282366920938463463374607431768211456) :
    valW (plusS s a b) = valW s + a * b ∧ (plusS s a b).wf := by
  have hm := mul_split ha hb
  have hl : mul64 a b < 18446744073709551616 := Nat.mod_lt _ (by decide)
  obtain ⟨h1, h2⟩ := hs
  rw [← hm] at h ⊢
  clear hm ha hb
  unfold valW at h ⊢
  unfold plusS W2.wf
  dsimp only
  revert hl h
  generalize mulHi a b = q
  generalize mul64 a b = p
  revert h1 h2
  generalize s.hi = hi
  generalize s.lo = lo
  intro h1 h2 hl h
  rw [Nat.add_zero]
  have e := Nat.div_add_mod (lo + p) 18446744073709551616
  have m : (lo + p) % 18446744073709551616 < 18446744073709551616 := Nat.mod_lt _ (by decide)
  revert e m
  generalize (lo + p) / 18446744073709551616 = c
  generalize (lo + p) % 18446744073709551616 = l
  intro e m
  have h3 : hi + q + c < 18446744073709551616 := by omega
  rw [Nat.mod_eq_of_lt h3]
  omega

set_option maxRecDepth 100000 in
theorem over_eq {s : W2} (hs : s.wf) (h : valW s < 41538374868278621028243970633760768) : overS s = valW s / 2251799813685248 := by
  unfold overS shl64
  simp only [valW] at *
  obtain ⟨h1, h2⟩ := hs
  have e1 : s.hi * 2 ^ 13 % 2 ^ 64 = s.hi * 2 ^ 13 := Nat.mod_eq_of_lt (by omega)
  rw [e1, or_low 13 (by omega)]
  omega

set_option maxRecDepth 100000 in
theorem carried_val {a b c d e : Nat} (ha : a < 18446744073709551616) (hb : b < 18446744073709551616) (hc : c < 18446744073709551616) (hd : d < 18446744073709551616) (he : e < 18446744073709551616) :
    (∃ q, a + 2251799813685248 * b + 5070602400912917605986812821504 * c + 11417981541647679048466287755595961091061972992 * d + 25711008708143844408671393477458601640355247900524685364822016 * e = val5 (carried a b c d e) + PP * q) ∧
    ok5 (carried a b c d e) := by
  have e0 : mul64 19 (e / 2 ^ 51) = 19 * (e / 2 ^ 51) := mul64_eq (by omega)
  have k1 : a / 2 ^ 51 ≤ 8191 := by omega
  have k2 : b / 2 ^ 51 ≤ 8191 := by omega
  have k3 : c / 2 ^ 51 ≤ 8191 := by omega
  have k4 : d / 2 ^ 51 ≤ 8191 := by omega
  have k5 : e / 2 ^ 51 ≤ 8191 := by omega
  have m1 : a % 2251799813685248 < 2251799813685248 := Nat.mod_lt _ (by decide)
  have m2 : b % 2251799813685248 < 2251799813685248 := Nat.mod_lt _ (by decide)
  have m3 : c % 2251799813685248 < 2251799813685248 := Nat.mod_lt _ (by decide)
  have m4 : d % 2251799813685248 < 2251799813685248 := Nat.mod_lt _ (by decide)
  have m5 : e % 2251799813685248 < 2251799813685248 := Nat.mod_lt _ (by decide)
  simp only [carried, val5, ok5, and51, e0, PP]
  rw [add64_eq (a := a % 2251799813685248) (by omega), add64_eq (a := b % 2251799813685248) (by omega), add64_eq (a := c % 2251799813685248) (by omega), add64_eq (a := d % 2251799813685248) (by omega), add64_eq (a := e % 2251799813685248) (by omega)]
  refine ⟨⟨e / 2 ^ 51, by omega⟩, by omega⟩

theorem ok5.wf {x : L5} (h : ok5 x) : x.wf := by unfold ok5 at h; unfold L5.wf; omega

theorem settled_val {x : L5} (h : x.wf) : (∃ q, val5 x = val5 (settledS x) + PP * q) ∧ ok5 (settledS x) := by
  obtain ⟨h1, h2, h3, h4, h5⟩ := h
  exact carried_val h1 h2 h3 h4 h5

set_option maxRecDepth 100000 in
theorem folded_val {r s t u v : W2} (hr : r.wf) (hs : s.wf) (ht : t.wf) (hu : u.wf) (hv : v.wf)
    (br : valW r < 5192296858534827628530496329220096) (bs : valW s < 5192296858534827628530496329220096) (bt : valW t < 5192296858534827628530496329220096) (bu : valW u < 5192296858534827628530496329220096)
    (bv : valW v < 324518553658426726783156020576256) :
    (∃ q, valW r + 2251799813685248 * valW s + 5070602400912917605986812821504 * valW t + 11417981541647679048466287755595961091061972992 * valW u + 25711008708143844408671393477458601640355247900524685364822016 * valW v = val5 (foldedS r s t u v) + PP * q) ∧
    ok5 (foldedS r s t u v) := by
  have lo : ∀ {w : W2}, w.wf → w.lo &&& M51 = valW w % 2251799813685248 := by
    intro w hw; rw [and51]; simp only [valW]; omega
  unfold foldedS
  rw [over_eq hr (by omega), over_eq hs (by omega), over_eq ht (by omega), over_eq hu (by omega), over_eq hv (by omega), lo hr, lo hs, lo ht, lo hu, lo hv]
  generalize valW r = R at *
  generalize valW s = S at *
  generalize valW t = T at *
  generalize valW u = U at *
  generalize valW v = V at *
  clear hr hs ht hu hv lo
  rw [mul64_eq (a := 19) (by omega)]
  rw [add64_eq (a := R % 2251799813685248) (by omega), add64_eq (a := S % 2251799813685248) (by omega), add64_eq (a := T % 2251799813685248) (by omega), add64_eq (a := U % 2251799813685248) (by omega), add64_eq (a := V % 2251799813685248) (by omega)]
  obtain ⟨⟨q, hq⟩, hok⟩ := carried_val (a := R % 2251799813685248 + 19 * (V / 2251799813685248)) (b := S % 2251799813685248 + R / 2251799813685248) (c := T % 2251799813685248 + S / 2251799813685248) (d := U % 2251799813685248 + T / 2251799813685248) (e := V % 2251799813685248 + U / 2251799813685248) (by omega) (by omega) (by omega) (by omega) (by omega)
  refine ⟨⟨q + V / 2251799813685248, ?_⟩, hok⟩
  rw [Nat.mul_add, ← Nat.add_assoc, ← hq]
  simp only [PP]
  omega
end Pw
