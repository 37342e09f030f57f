/- A part of the proof, for all claims alike: PwVal, PwVb, PwVc, PwVd, PwVe, PwVf, PwLaw. -/
import Derived.Test.YtmhbhpmfbalbeaaPwMd
namespace Pw
open Go

/-! ### what the words say -/

def PP : Nat := 57896044618658097711785492504343953926634992332820282019728792003956564819949
def val5 (x : L5) : Nat := x.a + 2251799813685248 * x.b + 5070602400912917605986812821504 * x.c + 11417981541647679048466287755595961091061972992 * x.d + 25711008708143844408671393477458601640355247900524685364822016 * x.e
/-- words below 2^51 + 155648 -/
def ok5 (x : L5) : Prop := x.a < 2251799813840896 ∧ x.b < 2251799813840896 ∧ x.c < 2251799813840896 ∧ x.d < 2251799813840896 ∧ x.e < 2251799813840896

theorem and51 (x : Nat) : x &&& M51 = x % 2251799813685248 := Nat.and_two_pow_sub_one_eq_mod x 51
theorem and32 (x : Nat) : x &&& 4294967295 = x % 4294967296 := Nat.and_two_pow_sub_one_eq_mod x 32
theorem and63 (x : Nat) : x &&& 9223372036854775807 = x % 9223372036854775808 := Nat.and_two_pow_sub_one_eq_mod x 63
theorem or_low {a b : Nat} (k : Nat) (h : b < 2 ^ k) : a * 2 ^ k ||| b = a * 2 ^ k + b := by
  rw [Nat.mul_comm, ← Nat.two_pow_add_eq_or_of_lt h]
theorem or_low' {a b : Nat} (k : Nat) (h : b < 2 ^ k) : b ||| a * 2 ^ k = a * 2 ^ k + b := by
  rw [Nat.or_comm, or_low k h]

theorem add64_eq {a b : Nat} (h : a + b < 18446744073709551616) : add64 a b = a + b := Nat.mod_eq_of_lt h
theorem mul64_eq {a b : Nat} (h : a * b < 18446744073709551616) : mul64 a b = a * b := Nat.mod_eq_of_lt h

theorem mul_lt' {a b A B : Nat} (ha : a ≤ A) (hb : b ≤ B) : a * b ≤ A * B := Nat.mul_le_mul ha hb

theorem mulHi_eq {x y : Nat} (hx : x < 18446744073709551616) (hy : y < 18446744073709551616) : mulHi x y = x * y / 18446744073709551616 := by
  unfold mulHi
  simp only [and32]
  generalize hx0 : x % 4294967296 = x0
  generalize hx1 : x / 2 ^ 32 = x1
  generalize hy0 : y % 4294967296 = y0
  generalize hy1 : y / 2 ^ 32 = y1
  have ex : x = 4294967296 * x1 + x0 := by omega
  have ey : y = 4294967296 * y1 + y0 := by omega
  have b0 : x0 ≤ 4294967295 := by omega
  have b1 : x1 ≤ 4294967295 := by omega
  have c0 : y0 ≤ 4294967295 := by omega
  have c1 : y1 ≤ 4294967295 := by omega
  have p00 := mul_lt' b0 c0
  have p01 := mul_lt' b0 c1
  have p10 := mul_lt' b1 c0
  have p11 := mul_lt' b1 c1
  have key : x * y = 18446744073709551616 * (x1 * y1) + 4294967296 * (x1 * y0) + 4294967296 * (x0 * y1) + x0 * y0 := by rw [ex, ey]; grind
  rw [key]
  clear key hx0 hx1 hy0 hy1 ex ey hx hy
  rw [mul64_eq (a := x0) (b := y0) (by omega), mul64_eq (a := x1) (b := y0) (by omega), mul64_eq (a := x0) (b := y1) (by omega), mul64_eq (a := x1) (b := y1) (by omega)]
  generalize x0 * y0 = q00 at *
  generalize x0 * y1 = q01 at *
  generalize x1 * y0 = q10 at *
  generalize x1 * y1 = q11 at *
  simp only [add64]
  omega

theorem mul_split {x y : Nat} (hx : x < 18446744073709551616) (hy : y < 18446744073709551616) : mulHi x y * 18446744073709551616 + mul64 x y = x * y := by
  rw [mulHi_eq hx hy]
  show x * y / 18446744073709551616 * 18446744073709551616 + x * y % 18446744073709551616 = x * y
  omega

def valW (s : W2) : Nat := s.hi * 18446744073709551616 + s.lo
def W2.wf (s : W2) : Prop := s.hi < 18446744073709551616 ∧ s.lo < 18446744073709551616

set_option maxRecDepth 100000 in
theorem plus_val {s : W2} {a b : Nat} (hs : s.wf) (ha : a < 18446744073709551616) (hb : b < 18446744073709551616) (h : valW s + a * b < 340282366920938463463374607431768211456) :
    valW (plusS s a b) = valW s + a * b ∧ (plusS s a b).wf := by
  have hm := mul_split ha hb
  have hl : mul64 a b < 18446744073709551616 := Nat.mod_lt _ (by decide)
  obtain ⟨h1, h2⟩ := hs
  rw [← hm] at h ⊢
  clear hm ha hb
  unfold valW at h ⊢
  unfold plusS W2.wf
  dsimp only
  revert hl h
  generalize mulHi a b = q
  generalize mul64 a b = p
  revert h1 h2
  generalize s.hi = hi
  generalize s.lo = lo
  intro h1 h2 hl h
  rw [Nat.add_zero]
  have e := Nat.div_add_mod (lo + p) 18446744073709551616
  have m : (lo + p) % 18446744073709551616 < 18446744073709551616 := Nat.mod_lt _ (by decide)
  revert e m
  generalize (lo + p) / 18446744073709551616 = c
  generalize (lo + p) % 18446744073709551616 = l
  intro e m
  have h3 : hi + q + c < 18446744073709551616 := by omega
  rw [Nat.mod_eq_of_lt h3]
  omega

set_option maxRecDepth 100000 in
theorem over_eq {s : W2} (hs : s.wf) (h : valW s < 41538374868278621028243970633760768) : overS s = valW s / 2251799813685248 := by
  unfold overS shl64
  simp only [valW] at *
  obtain ⟨h1, h2⟩ := hs
  have e1 : s.hi * 2 ^ 13 % 2 ^ 64 = s.hi * 2 ^ 13 := Nat.mod_eq_of_lt (by omega)
  rw [e1, or_low 13 (by omega)]
  omega

set_option maxRecDepth 100000 in
theorem carried_val {a b c d e : Nat} (ha : a < 18446744073709551616) (hb : b < 18446744073709551616) (hc : c < 18446744073709551616) (hd : d < 18446744073709551616) (he : e < 18446744073709551616) :
    (∃ q, a + 2251799813685248 * b + 5070602400912917605986812821504 * c + 11417981541647679048466287755595961091061972992 * d + 25711008708143844408671393477458601640355247900524685364822016 * e = val5 (carried a b c d e) + PP * q) ∧
    ok5 (carried a b c d e) := by
  have e0 : mul64 19 (e / 2 ^ 51) = 19 * (e / 2 ^ 51) := mul64_eq (by omega)
  have k1 : a / 2 ^ 51 ≤ 8191 := by omega
  have k2 : b / 2 ^ 51 ≤ 8191 := by omega
  have k3 : c / 2 ^ 51 ≤ 8191 := by omega
  have k4 : d / 2 ^ 51 ≤ 8191 := by omega
  have k5 : e / 2 ^ 51 ≤ 8191 := by omega
  have m1 : a % 2251799813685248 < 2251799813685248 := Nat.mod_lt _ (by decide)
  have m2 : b % 2251799813685248 < 2251799813685248 := Nat.mod_lt _ (by decide)
  have m3 : c % 2251799813685248 < 2251799813685248 := Nat.mod_lt _ (by decide)
  have m4 : d % 2251799813685248 < 2251799813685248 := Nat.mod_lt _ (by decide)
  have m5 : e % 2251799813685248 < 2251799813685248 := Nat.mod_lt _ (by decide)
  simp only [carried, val5, ok5, and51, e0, PP]
  rw [add64_eq (a := a % 2251799813685248) (by omega), add64_eq (a := b % 2251799813685248) (by omega), add64_eq (a := c % 2251799813685248) (by omega), add64_eq (a := d % 2251799813685248) (by omega), add64_eq (a := e % 2251799813685248) (by omega)]
  refine ⟨⟨e / 2 ^ 51, by omega⟩, by omega⟩

theorem ok5.wf {x : L5} (h : ok5 x) : x.wf := by unfold ok5 at h; unfold L5.wf; omega

theorem settled_val {x : L5} (h : x.wf) : (∃ q, val5 x = val5 (settledS x) + PP * q) ∧ ok5 (settledS x) := by
  obtain ⟨h1, h2, h3, h4, h5⟩ := h
  exact carried_val h1 h2 h3 h4 h5

set_option maxRecDepth 100000 in
theorem folded_val {r s t u v : W2} (hr : r.wf) (hs : s.wf) (ht : t.wf) (hu : u.wf) (hv : v.wf)
    (br : valW r < 5192296858534827628530496329220096) (bs : valW s < 5192296858534827628530496329220096) (bt : valW t < 5192296858534827628530496329220096) (bu : valW u < 5192296858534827628530496329220096)
    (bv : valW v < 324518553658426726783156020576256) :
    (∃ q, valW r + 2251799813685248 * valW s + 5070602400912917605986812821504 * valW t + 11417981541647679048466287755595961091061972992 * valW u + 25711008708143844408671393477458601640355247900524685364822016 * valW v = val5 (foldedS r s t u v) + PP * q) ∧
    ok5 (foldedS r s t u v) := by
  have lo : ∀ {w : W2}, w.wf → w.lo &&& M51 = valW w % 2251799813685248 := by
    intro w hw; rw [and51]; simp only [valW]; omega
  unfold foldedS
  rw [over_eq hr (by omega), over_eq hs (by omega), over_eq ht (by omega), over_eq hu (by omega), over_eq hv (by omega), lo hr, lo hs, lo ht, lo hu, lo hv]
  generalize valW r = R at *
  generalize valW s = S at *
  generalize valW t = T at *
  generalize valW u = U at *
  generalize valW v = V at *
  clear hr hs ht hu hv lo
  rw [mul64_eq (a := 19) (by omega)]
  rw [add64_eq (a := R % 2251799813685248) (by omega), add64_eq (a := S % 2251799813685248) (by omega), add64_eq (a := T % 2251799813685248) (by omega), add64_eq (a := U % 2251799813685248) (by omega), add64_eq (a := V % 2251799813685248) (by omega)]
  obtain ⟨⟨q, hq⟩, hok⟩ := carried_val (a := R % 2251799813685248 + 19 * (V / 2251799813685248)) (b := S % 2251799813685248 + R / 2251799813685248) (c := T % 2251799813685248 + S / 2251799813685248) (d := U % 2251799813685248 + T / 2251799813685248) (e := V % 2251799813685248 + U / 2251799813685248) (by omega) (by omega) (by omega) (by omega) (by omega)
  refine ⟨⟨q + V / 2251799813685248, ?_⟩, hok⟩
  rw [Nat.mul_add, ← Nat.add_assoc, ← hq]
  simp only [PP]
  omega
end Pw

namespace Pw
open Go

/-! ### From and Bytes, by value -/

def leL : List Nat → Nat
  | [] => 0
  | b :: l => b + 256 * leL l
def leVal (k : K32) : Nat := leL k.toList

theorem leL_inj : ∀ {l m : List Nat}, l.length = m.length → (∀ b ∈ l, b < 256) → (∀ b ∈ m, b < 256) → leL l = leL m → l = m
  | [], [], _, _, _, _ => rfl
  | a :: l, b :: m, hl, h1, h2, h => by
    simp only [leL] at h
    have := h1 a (by simp)
    have := h2 b (by simp)
    have e1 : a = b := by omega
    have e2 : leL l = leL m := by omega
    rw [e1, leL_inj (by simpa using hl) (fun x hx => h1 x (by simp [hx])) (fun x hx => h2 x (by simp [hx])) e2]
  | [], _ :: _, hl, _, _, _ => by simp at hl
  | _ :: _, [], hl, _, _, _ => by simp at hl

theorem K32.ext_list {x y : K32} (h : x.toList = y.toList) : x = y := by
  have := congrArg K32.of? h
  have e : ∀ z : K32, K32.of? z.toList = some z := fun z => rfl
  rw [e, e] at this
  exact Option.some.inj this
theorem leVal_inj {x y : K32} (hx : x.wf) (hy : y.wf) (h : leVal x = leVal y) : x = y :=
  K32.ext_list (leL_inj rfl hx hy h)

theorem fromStep {acc b s : Nat} (hs : s ≤ 50) (hb : b < 256) (ha : acc < 2 ^ s) : acc ||| (shl64 b s &&& M51) = acc + b % 2 ^ (51 - s) * 2 ^ s := by
  have e1 : b * 2 ^ s % 2 ^ 64 = b * 2 ^ s := by
    refine Nat.mod_eq_of_lt ?_
    have h1 : b * 2 ^ s ≤ 255 * 2 ^ 50 := Nat.mul_le_mul (by omega) (Nat.pow_le_pow_right (by decide) hs)
    exact Nat.lt_of_le_of_lt h1 (by decide)
  have e2 : b * 2 ^ s % 2 ^ 51 = b % 2 ^ (51 - s) * 2 ^ s := by
    have h51 : (2 : Nat) ^ 51 = 2 ^ (51 - s) * 2 ^ s := by rw [← Nat.pow_add]; congr 1; omega
    rw [h51, Nat.mul_mod_mul_right]
  rw [and51]
  show acc ||| b * 2 ^ s % 2 ^ 64 % 2 ^ 51 = _
  rw [e1, e2, or_low' s ha, Nat.add_comm]

theorem K32.wf.all {k : K32} (h : k.wf) : k.b0 < 256 ∧ k.b1 < 256 ∧ k.b2 < 256 ∧ k.b3 < 256 ∧ k.b4 < 256 ∧ k.b5 < 256 ∧ k.b6 < 256 ∧ k.b7 < 256 ∧ k.b8 < 256 ∧ k.b9 < 256 ∧ k.b10 < 256 ∧ k.b11 < 256 ∧ k.b12 < 256 ∧ k.b13 < 256 ∧ k.b14 < 256 ∧ k.b15 < 256 ∧ k.b16 < 256 ∧ k.b17 < 256 ∧ k.b18 < 256 ∧ k.b19 < 256 ∧ k.b20 < 256 ∧ k.b21 < 256 ∧ k.b22 < 256 ∧ k.b23 < 256 ∧ k.b24 < 256 ∧ k.b25 < 256 ∧ k.b26 < 256 ∧ k.b27 < 256 ∧ k.b28 < 256 ∧ k.b29 < 256 ∧ k.b30 < 256 ∧ k.b31 < 256 := by
  unfold K32.wf at h
  refine ⟨h _ (by simp [K32.toList]), h _ (by simp [K32.toList]), h _ (by simp [K32.toList]), h _ (by simp [K32.toList]), h _ (by simp [K32.toList]), h _ (by simp [K32.toList]), h _ (by simp [K32.toList]), h _ (by simp [K32.toList]), h _ (by simp [K32.toList]), h _ (by simp [K32.toList]), h _ (by simp [K32.toList]), h _ (by simp [K32.toList]), h _ (by simp [K32.toList]), h _ (by simp [K32.toList]), h _ (by simp [K32.toList]), h _ (by simp [K32.toList]), h _ (by simp [K32.toList]), h _ (by simp [K32.toList]), h _ (by simp [K32.toList]), h _ (by simp [K32.toList]), h _ (by simp [K32.toList]), h _ (by simp [K32.toList]), h _ (by simp [K32.toList]), h _ (by simp [K32.toList]), h _ (by simp [K32.toList]), h _ (by simp [K32.toList]), h _ (by simp [K32.toList]), h _ (by simp [K32.toList]), h _ (by simp [K32.toList]), h _ (by simp [K32.toList]), h _ (by simp [K32.toList]), h _ (by simp [K32.toList])⟩
theorem from_a_val {k : K32} (hk : k.wf) : from_a k = k.b0 * 1 + k.b1 * 256 + k.b2 * 65536 + k.b3 * 16777216 + k.b4 * 4294967296 + k.b5 * 1099511627776 + k.b6 % 8 * 281474976710656 := by
  obtain ⟨h0, h1, h2, h3, h4, h5, h6, h7, h8, h9, h10, h11, h12, h13, h14, h15, h16, h17, h18, h19, h20, h21, h22, h23, h24, h25, h26, h27, h28, h29, h30, h31⟩ := hk.all
  have e31 : k.b31 &&& 127 = k.b31 % 128 := Nat.and_two_pow_sub_one_eq_mod k.b31 7
  unfold from_a
  rw [fromStep (acc := 0) (b := k.b0) (s := 0) (by decide) (by omega) (by omega), fromStep (acc := 0 + k.b0 % 2 ^ (51 - 0) * 2 ^ 0) (b := k.b1) (s := 8) (by decide) (by omega) (by omega), fromStep (acc := 0 + k.b0 % 2 ^ (51 - 0) * 2 ^ 0 + k.b1 % 2 ^ (51 - 8) * 2 ^ 8) (b := k.b2) (s := 16) (by decide) (by omega) (by omega), fromStep (acc := 0 + k.b0 % 2 ^ (51 - 0) * 2 ^ 0 + k.b1 % 2 ^ (51 - 8) * 2 ^ 8 + k.b2 % 2 ^ (51 - 16) * 2 ^ 16) (b := k.b3) (s := 24) (by decide) (by omega) (by omega), fromStep (acc := 0 + k.b0 % 2 ^ (51 - 0) * 2 ^ 0 + k.b1 % 2 ^ (51 - 8) * 2 ^ 8 + k.b2 % 2 ^ (51 - 16) * 2 ^ 16 + k.b3 % 2 ^ (51 - 24) * 2 ^ 24) (b := k.b4) (s := 32) (by decide) (by omega) (by omega), fromStep (acc := 0 + k.b0 % 2 ^ (51 - 0) * 2 ^ 0 + k.b1 % 2 ^ (51 - 8) * 2 ^ 8 + k.b2 % 2 ^ (51 - 16) * 2 ^ 16 + k.b3 % 2 ^ (51 - 24) * 2 ^ 24 + k.b4 % 2 ^ (51 - 32) * 2 ^ 32) (b := k.b5) (s := 40) (by decide) (by omega) (by omega), fromStep (acc := 0 + k.b0 % 2 ^ (51 - 0) * 2 ^ 0 + k.b1 % 2 ^ (51 - 8) * 2 ^ 8 + k.b2 % 2 ^ (51 - 16) * 2 ^ 16 + k.b3 % 2 ^ (51 - 24) * 2 ^ 24 + k.b4 % 2 ^ (51 - 32) * 2 ^ 32 + k.b5 % 2 ^ (51 - 40) * 2 ^ 40) (b := k.b6) (s := 48) (by decide) (by omega) (by omega)]
  omega
theorem from_b_val {k : K32} (hk : k.wf) : from_b k = k.b6 / 8 + k.b7 * 32 + k.b8 * 8192 + k.b9 * 2097152 + k.b10 * 536870912 + k.b11 * 137438953472 + k.b12 % 64 * 35184372088832 := by
  obtain ⟨h0, h1, h2, h3, h4, h5, h6, h7, h8, h9, h10, h11, h12, h13, h14, h15, h16, h17, h18, h19, h20, h21, h22, h23, h24, h25, h26, h27, h28, h29, h30, h31⟩ := hk.all
  have e31 : k.b31 &&& 127 = k.b31 % 128 := Nat.and_two_pow_sub_one_eq_mod k.b31 7
  unfold from_b
  rw [Nat.zero_or, fromStep (acc := k.b6 / 2 ^ 3) (b := k.b7) (s := 5) (by decide) (by omega) (by omega), fromStep (acc := k.b6 / 2 ^ 3 + k.b7 % 2 ^ (51 - 5) * 2 ^ 5) (b := k.b8) (s := 13) (by decide) (by omega) (by omega), fromStep (acc := k.b6 / 2 ^ 3 + k.b7 % 2 ^ (51 - 5) * 2 ^ 5 + k.b8 % 2 ^ (51 - 13) * 2 ^ 13) (b := k.b9) (s := 21) (by decide) (by omega) (by omega), fromStep (acc := k.b6 / 2 ^ 3 + k.b7 % 2 ^ (51 - 5) * 2 ^ 5 + k.b8 % 2 ^ (51 - 13) * 2 ^ 13 + k.b9 % 2 ^ (51 - 21) * 2 ^ 21) (b := k.b10) (s := 29) (by decide) (by omega) (by omega), fromStep (acc := k.b6 / 2 ^ 3 + k.b7 % 2 ^ (51 - 5) * 2 ^ 5 + k.b8 % 2 ^ (51 - 13) * 2 ^ 13 + k.b9 % 2 ^ (51 - 21) * 2 ^ 21 + k.b10 % 2 ^ (51 - 29) * 2 ^ 29) (b := k.b11) (s := 37) (by decide) (by omega) (by omega), fromStep (acc := k.b6 / 2 ^ 3 + k.b7 % 2 ^ (51 - 5) * 2 ^ 5 + k.b8 % 2 ^ (51 - 13) * 2 ^ 13 + k.b9 % 2 ^ (51 - 21) * 2 ^ 21 + k.b10 % 2 ^ (51 - 29) * 2 ^ 29 + k.b11 % 2 ^ (51 - 37) * 2 ^ 37) (b := k.b12) (s := 45) (by decide) (by omega) (by omega)]
  omega
theorem from_c_val {k : K32} (hk : k.wf) : from_c k = k.b12 / 64 + k.b13 * 4 + k.b14 * 1024 + k.b15 * 262144 + k.b16 * 67108864 + k.b17 * 17179869184 + k.b18 * 4398046511104 + k.b19 % 2 * 1125899906842624 := by
  obtain ⟨h0, h1, h2, h3, h4, h5, h6, h7, h8, h9, h10, h11, h12, h13, h14, h15, h16, h17, h18, h19, h20, h21, h22, h23, h24, h25, h26, h27, h28, h29, h30, h31⟩ := hk.all
  have e31 : k.b31 &&& 127 = k.b31 % 128 := Nat.and_two_pow_sub_one_eq_mod k.b31 7
  unfold from_c
  rw [Nat.zero_or, fromStep (acc := k.b12 / 2 ^ 6) (b := k.b13) (s := 2) (by decide) (by omega) (by omega), fromStep (acc := k.b12 / 2 ^ 6 + k.b13 % 2 ^ (51 - 2) * 2 ^ 2) (b := k.b14) (s := 10) (by decide) (by omega) (by omega), fromStep (acc := k.b12 / 2 ^ 6 + k.b13 % 2 ^ (51 - 2) * 2 ^ 2 + k.b14 % 2 ^ (51 - 10) * 2 ^ 10) (b := k.b15) (s := 18) (by decide) (by omega) (by omega), fromStep (acc := k.b12 / 2 ^ 6 + k.b13 % 2 ^ (51 - 2) * 2 ^ 2 + k.b14 % 2 ^ (51 - 10) * 2 ^ 10 + k.b15 % 2 ^ (51 - 18) * 2 ^ 18) (b := k.b16) (s := 26) (by decide) (by omega) (by omega), fromStep (acc := k.b12 / 2 ^ 6 + k.b13 % 2 ^ (51 - 2) * 2 ^ 2 + k.b14 % 2 ^ (51 - 10) * 2 ^ 10 + k.b15 % 2 ^ (51 - 18) * 2 ^ 18 + k.b16 % 2 ^ (51 - 26) * 2 ^ 26) (b := k.b17) (s := 34) (by decide) (by omega) (by omega), fromStep (acc := k.b12 / 2 ^ 6 + k.b13 % 2 ^ (51 - 2) * 2 ^ 2 + k.b14 % 2 ^ (51 - 10) * 2 ^ 10 + k.b15 % 2 ^ (51 - 18) * 2 ^ 18 + k.b16 % 2 ^ (51 - 26) * 2 ^ 26 + k.b17 % 2 ^ (51 - 34) * 2 ^ 34) (b := k.b18) (s := 42) (by decide) (by omega) (by omega), fromStep (acc := k.b12 / 2 ^ 6 + k.b13 % 2 ^ (51 - 2) * 2 ^ 2 + k.b14 % 2 ^ (51 - 10) * 2 ^ 10 + k.b15 % 2 ^ (51 - 18) * 2 ^ 18 + k.b16 % 2 ^ (51 - 26) * 2 ^ 26 + k.b17 % 2 ^ (51 - 34) * 2 ^ 34 + k.b18 % 2 ^ (51 - 42) * 2 ^ 42) (b := k.b19) (s := 50) (by decide) (by omega) (by omega)]
  omega
theorem from_d_val {k : K32} (hk : k.wf) : from_d k = k.b19 / 2 + k.b20 * 128 + k.b21 * 32768 + k.b22 * 8388608 + k.b23 * 2147483648 + k.b24 * 549755813888 + k.b25 % 16 * 140737488355328 := by
  obtain ⟨h0, h1, h2, h3, h4, h5, h6, h7, h8, h9, h10, h11, h12, h13, h14, h15, h16, h17, h18, h19, h20, h21, h22, h23, h24, h25, h26, h27, h28, h29, h30, h31⟩ := hk.all
  have e31 : k.b31 &&& 127 = k.b31 % 128 := Nat.and_two_pow_sub_one_eq_mod k.b31 7
  unfold from_d
  rw [Nat.zero_or, fromStep (acc := k.b19 / 2 ^ 1) (b := k.b20) (s := 7) (by decide) (by omega) (by omega), fromStep (acc := k.b19 / 2 ^ 1 + k.b20 % 2 ^ (51 - 7) * 2 ^ 7) (b := k.b21) (s := 15) (by decide) (by omega) (by omega), fromStep (acc := k.b19 / 2 ^ 1 + k.b20 % 2 ^ (51 - 7) * 2 ^ 7 + k.b21 % 2 ^ (51 - 15) * 2 ^ 15) (b := k.b22) (s := 23) (by decide) (by omega) (by omega), fromStep (acc := k.b19 / 2 ^ 1 + k.b20 % 2 ^ (51 - 7) * 2 ^ 7 + k.b21 % 2 ^ (51 - 15) * 2 ^ 15 + k.b22 % 2 ^ (51 - 23) * 2 ^ 23) (b := k.b23) (s := 31) (by decide) (by omega) (by omega), fromStep (acc := k.b19 / 2 ^ 1 + k.b20 % 2 ^ (51 - 7) * 2 ^ 7 + k.b21 % 2 ^ (51 - 15) * 2 ^ 15 + k.b22 % 2 ^ (51 - 23) * 2 ^ 23 + k.b23 % 2 ^ (51 - 31) * 2 ^ 31) (b := k.b24) (s := 39) (by decide) (by omega) (by omega), fromStep (acc := k.b19 / 2 ^ 1 + k.b20 % 2 ^ (51 - 7) * 2 ^ 7 + k.b21 % 2 ^ (51 - 15) * 2 ^ 15 + k.b22 % 2 ^ (51 - 23) * 2 ^ 23 + k.b23 % 2 ^ (51 - 31) * 2 ^ 31 + k.b24 % 2 ^ (51 - 39) * 2 ^ 39) (b := k.b25) (s := 47) (by decide) (by omega) (by omega)]
  omega
theorem from_e_val {k : K32} (hk : k.wf) : from_e k = k.b25 / 16 + k.b26 * 16 + k.b27 * 4096 + k.b28 * 1048576 + k.b29 * 268435456 + k.b30 * 68719476736 + k.b31 % 128 * 17592186044416 := by
  obtain ⟨h0, h1, h2, h3, h4, h5, h6, h7, h8, h9, h10, h11, h12, h13, h14, h15, h16, h17, h18, h19, h20, h21, h22, h23, h24, h25, h26, h27, h28, h29, h30, h31⟩ := hk.all
  have e31 : k.b31 &&& 127 = k.b31 % 128 := Nat.and_two_pow_sub_one_eq_mod k.b31 7
  unfold from_e
  rw [e31]
  rw [Nat.zero_or, fromStep (acc := k.b25 / 2 ^ 4) (b := k.b26) (s := 4) (by decide) (by omega) (by omega), fromStep (acc := k.b25 / 2 ^ 4 + k.b26 % 2 ^ (51 - 4) * 2 ^ 4) (b := k.b27) (s := 12) (by decide) (by omega) (by omega), fromStep (acc := k.b25 / 2 ^ 4 + k.b26 % 2 ^ (51 - 4) * 2 ^ 4 + k.b27 % 2 ^ (51 - 12) * 2 ^ 12) (b := k.b28) (s := 20) (by decide) (by omega) (by omega), fromStep (acc := k.b25 / 2 ^ 4 + k.b26 % 2 ^ (51 - 4) * 2 ^ 4 + k.b27 % 2 ^ (51 - 12) * 2 ^ 12 + k.b28 % 2 ^ (51 - 20) * 2 ^ 20) (b := k.b29) (s := 28) (by decide) (by omega) (by omega), fromStep (acc := k.b25 / 2 ^ 4 + k.b26 % 2 ^ (51 - 4) * 2 ^ 4 + k.b27 % 2 ^ (51 - 12) * 2 ^ 12 + k.b28 % 2 ^ (51 - 20) * 2 ^ 20 + k.b29 % 2 ^ (51 - 28) * 2 ^ 28) (b := k.b30) (s := 36) (by decide) (by omega) (by omega), fromStep (acc := k.b25 / 2 ^ 4 + k.b26 % 2 ^ (51 - 4) * 2 ^ 4 + k.b27 % 2 ^ (51 - 12) * 2 ^ 12 + k.b28 % 2 ^ (51 - 20) * 2 ^ 20 + k.b29 % 2 ^ (51 - 28) * 2 ^ 28 + k.b30 % 2 ^ (51 - 36) * 2 ^ 36) (b := (k.b31 % 128)) (s := 44) (by decide) (by omega) (by omega)]
  omega
def leSum (k : K32) : Nat := k.b0 * 1 + k.b1 * 256 + k.b2 * 65536 + k.b3 * 16777216 + k.b4 * 4294967296 + k.b5 * 1099511627776 + k.b6 * 281474976710656 + k.b7 * 72057594037927936 + k.b8 * 18446744073709551616 + k.b9 * 4722366482869645213696 + k.b10 * 1208925819614629174706176 + k.b11 * 309485009821345068724781056 + k.b12 * 79228162514264337593543950336 + k.b13 * 20282409603651670423947251286016 + k.b14 * 5192296858534827628530496329220096 + k.b15 * 1329227995784915872903807060280344576 + k.b16 * 340282366920938463463374607431768211456 + k.b17 * 87112285931760246646623899502532662132736 + k.b18 * 22300745198530623141535718272648361505980416 + k.b19 * 5708990770823839524233143877797980545530986496 + k.b20 * 1461501637330902918203684832716283019655932542976 + k.b21 * 374144419156711147060143317175368453031918731001856 + k.b22 * 95780971304118053647396689196894323976171195136475136 + k.b23 * 24519928653854221733733552434404946937899825954937634816 + k.b24 * 6277101735386680763835789423207666416102355444464034512896 + k.b25 * 1606938044258990275541962092341162602522202993782792835301376 + k.b26 * 411376139330301510538742295639337626245683966408394965837152256 + k.b27 * 105312291668557186697918027683670432318895095400549111254310977536 + k.b28 * 26959946667150639794667015087019630673637144422540572481103610249216 + k.b29 * 6901746346790563787434755862277025452451108972170386555162524223799296 + k.b30 * 1766847064778384329583297500742918515827483896875618958121606201292619776 + k.b31 * 452312848583266388373324160190187140051835877600158453279131187530910662656
theorem leVal_sum (k : K32) : leVal k = leSum k := by
  simp only [leVal, leL, K32.toList, leSum]
  omega
set_option maxRecDepth 100000 in
theorem from_val {k : K32} (hk : k.wf) : (∃ q, leVal k % 57896044618658097711785492504343953926634992332820282019728792003956564819968 = val5 (fromS k) + PP * q) ∧ ok5 (fromS k) := by
  have hv : val5 ⟨from_a k, from_b k, from_c k, from_d k, from_e k⟩ = leVal k % 57896044618658097711785492504343953926634992332820282019728792003956564819968 := by
    rw [leVal_sum]
    simp only [val5, from_a_val hk, from_b_val hk, from_c_val hk, from_d_val hk, from_e_val hk, leSum]
    obtain ⟨h0, h1, h2, h3, h4, h5, h6, h7, h8, h9, h10, h11, h12, h13, h14, h15, h16, h17, h18, h19, h20, h21, h22, h23, h24, h25, h26, h27, h28, h29, h30, h31⟩ := hk.all
    omega
  have hw : L5.wf ⟨from_a k, from_b k, from_c k, from_d k, from_e k⟩ := by
    simp only [L5.wf, from_a_val hk, from_b_val hk, from_c_val hk, from_d_val hk, from_e_val hk]
    obtain ⟨h0, h1, h2, h3, h4, h5, h6, h7, h8, h9, h10, h11, h12, h13, h14, h15, h16, h17, h18, h19, h20, h21, h22, h23, h24, h25, h26, h27, h28, h29, h30, h31⟩ := hk.all
    omega
  rw [← hv]
  exact settled_val hw

def tight (w : L5) : Prop := w.a < 2251799813685248 ∧ w.b < 2251799813685248 ∧ w.c < 2251799813685248 ∧ w.d < 2251799813685248 ∧ w.e < 2251799813685248
set_option maxRecDepth 100000 in
theorem tight.lt {w : L5} (h : tight w) : val5 w < 57896044618658097711785492504343953926634992332820282019728792003956564819968 := by
  unfold tight at h; unfold val5; omega
set_option maxRecDepth 100000 in
theorem chain5 {a b c d e t qa qb qc qd qe : Nat} (ha : (a + t) / 2 ^ 51 = qa) (hb : (b + qa) / 2 ^ 51 = qb) (hc : (c + qb) / 2 ^ 51 = qc) (hd : (d + qc) / 2 ^ 51 = qd) (he : (e + qd) / 2 ^ 51 = qe) :
    val5 ⟨a, b, c, d, e⟩ + t = val5 ⟨(a + t) % 2251799813685248, (b + qa) % 2251799813685248, (c + qb) % 2251799813685248, (d + qc) % 2251799813685248, (e + qd) % 2251799813685248⟩ + 57896044618658097711785492504343953926634992332820282019728792003956564819968 * qe := by
  have e1 := Nat.div_add_mod (a + t) 2251799813685248
  have e2 := Nat.div_add_mod (b + qa) 2251799813685248
  have e3 := Nat.div_add_mod (c + qb) 2251799813685248
  have e4 := Nat.div_add_mod (d + qc) 2251799813685248
  have e5 := Nat.div_add_mod (e + qd) 2251799813685248
  rw [show (a + t) / 2251799813685248 = qa from ha] at e1
  rw [show (b + qa) / 2251799813685248 = qb from hb] at e2
  rw [show (c + qb) / 2251799813685248 = qc from hc] at e3
  rw [show (d + qc) / 2251799813685248 = qd from hd] at e4
  rw [show (e + qd) / 2251799813685248 = qe from he] at e5
  clear ha hb hc hd he
  revert e1 e2 e3 e4 e5
  generalize (a + t) % 2251799813685248 = r1
  generalize (b + qa) % 2251799813685248 = r2
  generalize (c + qb) % 2251799813685248 = r3
  generalize (d + qc) % 2251799813685248 = r4
  generalize (e + qd) % 2251799813685248 = r5
  intro e1 e2 e3 e4 e5
  simp only [val5]
  omega
theorem tight_mod (a b c d e : Nat) : tight ⟨a % 2251799813685248, b % 2251799813685248, c % 2251799813685248, d % 2251799813685248, e % 2251799813685248⟩ :=
  ⟨Nat.mod_lt _ (by decide), Nat.mod_lt _ (by decide), Nat.mod_lt _ (by decide), Nat.mod_lt _ (by decide), Nat.mod_lt _ (by decide)⟩
set_option maxRecDepth 100000 in
theorem least_end {U V c r Q : Nat} (hU : U < 2 * PP) (hV : V < 57896044618658097711785492504343953926634992332820282019728792003956564819968) (e1 : U + 19 * c = V + 57896044618658097711785492504343953926634992332820282019728792003956564819968 * Q)
    (hr : r < 57896044618658097711785492504343953926634992332820282019728792003956564819968) (e2 : U + 19 = r + 57896044618658097711785492504343953926634992332820282019728792003956564819968 * c) : V = U % PP := by
  unfold PP at *
  have hc : c = 0 ∨ c = 1 := by omega
  rcases hc with rfl | rfl
  · have : U < 57896044618658097711785492504343953926634992332820282019728792003956564819949 := by omega
    rw [Nat.mod_eq_of_lt this]; omega
  · have h1 : 57896044618658097711785492504343953926634992332820282019728792003956564819949 ≤ U := by omega
    have hq : Q = 1 := by omega
    subst hq
    rw [Nat.mod_eq_sub_mod h1, Nat.mod_eq_of_lt (by omega)]; omega
set_option maxRecDepth 100000 in
theorem least_val {w : L5} (h : ok5 w) : tight (leastOf w) ∧ val5 (leastOf w) = val5 w % PP := by
  obtain ⟨ha, hb, hc, hd, he⟩ := h
  have hlt : val5 w < 2 * PP := by unfold val5 PP; omega
  obtain ⟨R, hW⟩ : ∃ R, leastOf w = R := ⟨_, rfl⟩
  rw [hW]
  unfold leastOf at hW
  simp only [and51] at hW
  revert hW
  rw [add64_eq (a := w.a) (b := 19) (by omega)]
  generalize hc0 : (w.a + 19) / 2 ^ 51 = c0
  rw [add64_eq (a := w.b) (b := c0) (by omega)]
  generalize hc1 : (w.b + c0) / 2 ^ 51 = c1
  rw [add64_eq (a := w.c) (b := c1) (by omega)]
  generalize hc2 : (w.c + c1) / 2 ^ 51 = c2
  rw [add64_eq (a := w.d) (b := c2) (by omega)]
  generalize hc3 : (w.d + c2) / 2 ^ 51 = c3
  rw [add64_eq (a := w.e) (b := c3) (by omega)]
  generalize hc4 : (w.e + c3) / 2 ^ 51 = c4
  have hc4le : c4 ≤ 2 := by omega
  rw [mul64_eq (a := 19) (b := c4) (by omega), add64_eq (a := w.a) (b := 19 * c4) (by omega)]
  generalize hA : w.a + 19 * c4 = A
  have hAl : A < 4503599627370496 := by omega
  generalize hqa : A / 2 ^ 51 = qa
  rw [add64_eq (a := w.b) (b := qa) (by omega)]
  generalize hB : w.b + qa = B
  have hBl : B < 4503599627370496 := by omega
  generalize hqb : B / 2 ^ 51 = qb
  rw [add64_eq (a := w.c) (b := qb) (by omega)]
  generalize hC : w.c + qb = C
  have hCl : C < 4503599627370496 := by omega
  generalize hqc : C / 2 ^ 51 = qc
  rw [add64_eq (a := w.d) (b := qc) (by omega)]
  generalize hD : w.d + qc = D
  have hDl : D < 4503599627370496 := by omega
  generalize hqd : D / 2 ^ 51 = qd
  rw [add64_eq (a := w.e) (b := qd) (by omega)]
  generalize hE : w.e + qd = E
  intro hR
  have h1 := chain5 (a := w.a) (b := w.b) (c := w.c) (d := w.d) (e := w.e) hc0 hc1 hc2 hc3 hc4
  have h2 := chain5 (a := w.a) (b := w.b) (c := w.c) (d := w.d) (e := w.e) (t := 19 * c4) (qa := qa) (qb := qb) (qc := qc) (qd := qd) (qe := E / 2 ^ 51) (by rw [hA, hqa]) (by rw [hB, hqb]) (by rw [hC, hqc]) (by rw [hD, hqd]) (by rw [hE])
  rw [hA, hB, hC, hD, hE, hR] at h2
  have ht : tight R := by rw [← hR]; exact tight_mod _ _ _ _ _
  exact ⟨ht, least_end hlt ht.lt h2 (tight_mod _ _ _ _ _).lt h1⟩

theorem bytesOf_wf (w : L5) : (bytesOf w).wf := by
  intro b hb
  simp only [K32.toList, bytesOf, List.mem_cons, List.not_mem_nil, or_false] at hb
  have key : ∀ x : Nat, x % 2 ^ 8 < 256 := fun x => Nat.mod_lt _ (by decide)
  rcases hb with rfl | rfl | rfl | rfl | rfl | rfl | rfl | rfl | rfl | rfl | rfl | rfl | rfl | rfl | rfl | rfl | rfl | rfl | rfl | rfl | rfl | rfl | rfl | rfl | rfl | rfl | rfl | rfl | rfl | rfl | rfl | rfl <;> exact key _
theorem orStep {x y k : Nat} (hx : x < 2 ^ k) (hy : y * 2 ^ k < 18446744073709551616) : x ||| shl64 y k = y * 2 ^ k + x := by
  have e : shl64 y k = y * 2 ^ k := Nat.mod_eq_of_lt hy
  rw [e, or_low' k hx]
set_option maxRecDepth 100000 in
theorem bytesOf_val {w : L5} (h : tight w) : leVal (bytesOf w) = val5 w := by
  obtain ⟨ha, hb, hc, hd, he⟩ := h
  rw [leVal_sum]
  unfold leSum bytesOf val5
  dsimp only
  rw [orStep (x := w.a / 2 ^ 48) (y := w.b) (k := 3) (by omega) (by omega)]
  rw [orStep (x := w.b / 2 ^ 45) (y := w.c) (k := 6) (by omega) (by omega)]
  rw [orStep (x := w.c / 2 ^ 50) (y := w.d) (k := 1) (by omega) (by omega)]
  rw [orStep (x := w.d / 2 ^ 47) (y := w.e) (k := 4) (by omega) (by omega)]
  revert ha hb hc hd he
  generalize w.a = a
  generalize w.b = b
  generalize w.c = c
  generalize w.d = d
  generalize w.e = e
  intro ha hb hc hd he
  have fa : a = a / 2 ^ 0 % 2 ^ 8 * 1 + a / 2 ^ 8 % 2 ^ 8 * 256 + a / 2 ^ 16 % 2 ^ 8 * 65536 + a / 2 ^ 24 % 2 ^ 8 * 16777216 + a / 2 ^ 32 % 2 ^ 8 * 4294967296 + a / 2 ^ 40 % 2 ^ 8 * 1099511627776 + a / 2 ^ 48 * 281474976710656 := by omega
  have fb : b = b % 32 + b / 2 ^ 5 % 2 ^ 8 * 32 + b / 2 ^ 13 % 2 ^ 8 * 8192 + b / 2 ^ 21 % 2 ^ 8 * 2097152 + b / 2 ^ 29 % 2 ^ 8 * 536870912 + b / 2 ^ 37 % 2 ^ 8 * 137438953472 + b / 2 ^ 45 * 35184372088832 := by omega
  have fc : c = c % 4 + c / 2 ^ 2 % 2 ^ 8 * 4 + c / 2 ^ 10 % 2 ^ 8 * 1024 + c / 2 ^ 18 % 2 ^ 8 * 262144 + c / 2 ^ 26 % 2 ^ 8 * 67108864 + c / 2 ^ 34 % 2 ^ 8 * 17179869184 + c / 2 ^ 42 % 2 ^ 8 * 4398046511104 + c / 2 ^ 50 * 1125899906842624 := by omega
  have fd : d = d % 128 + d / 2 ^ 7 % 2 ^ 8 * 128 + d / 2 ^ 15 % 2 ^ 8 * 32768 + d / 2 ^ 23 % 2 ^ 8 * 8388608 + d / 2 ^ 31 % 2 ^ 8 * 2147483648 + d / 2 ^ 39 % 2 ^ 8 * 549755813888 + d / 2 ^ 47 * 140737488355328 := by omega
  have fe : e = e % 16 + e / 2 ^ 4 % 2 ^ 8 * 16 + e / 2 ^ 12 % 2 ^ 8 * 4096 + e / 2 ^ 20 % 2 ^ 8 * 1048576 + e / 2 ^ 28 % 2 ^ 8 * 268435456 + e / 2 ^ 36 % 2 ^ 8 * 68719476736 + e / 2 ^ 44 % 2 ^ 8 * 17592186044416 := by omega
  have g6 : (b * 2 ^ 3 + a / 2 ^ 48) % 2 ^ 8 = b % 32 * 8 + a / 2 ^ 48 := by omega
  rw [g6]
  clear g6
  have g12 : (c * 2 ^ 6 + b / 2 ^ 45) % 2 ^ 8 = c % 4 * 64 + b / 2 ^ 45 := by omega
  rw [g12]
  clear g12
  have g19 : (d * 2 ^ 1 + c / 2 ^ 50) % 2 ^ 8 = d % 128 * 2 + c / 2 ^ 50 := by omega
  rw [g19]
  clear g19
  have g25 : (e * 2 ^ 4 + d / 2 ^ 47) % 2 ^ 8 = e % 16 * 16 + d / 2 ^ 47 := by omega
  rw [g25]
  clear g25
  clear ha hb hc hd he
  generalize a / 2 ^ 0 % 2 ^ 8 = y0 at *
  generalize a / 2 ^ 8 % 2 ^ 8 = y1 at *
  generalize a / 2 ^ 16 % 2 ^ 8 = y2 at *
  generalize a / 2 ^ 24 % 2 ^ 8 = y3 at *
  generalize a / 2 ^ 32 % 2 ^ 8 = y4 at *
  generalize a / 2 ^ 40 % 2 ^ 8 = y5 at *
  generalize b % 32 = u6 at *
  generalize a / 2 ^ 48 = v6 at *
  generalize b / 2 ^ 5 % 2 ^ 8 = y7 at *
  generalize b / 2 ^ 13 % 2 ^ 8 = y8 at *
  generalize b / 2 ^ 21 % 2 ^ 8 = y9 at *
  generalize b / 2 ^ 29 % 2 ^ 8 = y10 at *
  generalize b / 2 ^ 37 % 2 ^ 8 = y11 at *
  generalize c % 4 = u12 at *
  generalize b / 2 ^ 45 = v12 at *
  generalize c / 2 ^ 2 % 2 ^ 8 = y13 at *
  generalize c / 2 ^ 10 % 2 ^ 8 = y14 at *
  generalize c / 2 ^ 18 % 2 ^ 8 = y15 at *
  generalize c / 2 ^ 26 % 2 ^ 8 = y16 at *
  generalize c / 2 ^ 34 % 2 ^ 8 = y17 at *
  generalize c / 2 ^ 42 % 2 ^ 8 = y18 at *
  generalize d % 128 = u19 at *
  generalize c / 2 ^ 50 = v19 at *
  generalize d / 2 ^ 7 % 2 ^ 8 = y20 at *
  generalize d / 2 ^ 15 % 2 ^ 8 = y21 at *
  generalize d / 2 ^ 23 % 2 ^ 8 = y22 at *
  generalize d / 2 ^ 31 % 2 ^ 8 = y23 at *
  generalize d / 2 ^ 39 % 2 ^ 8 = y24 at *
  generalize e % 16 = u25 at *
  generalize d / 2 ^ 47 = v25 at *
  generalize e / 2 ^ 4 % 2 ^ 8 = y26 at *
  generalize e / 2 ^ 12 % 2 ^ 8 = y27 at *
  generalize e / 2 ^ 20 % 2 ^ 8 = y28 at *
  generalize e / 2 ^ 28 % 2 ^ 8 = y29 at *
  generalize e / 2 ^ 36 % 2 ^ 8 = y30 at *
  generalize e / 2 ^ 44 % 2 ^ 8 = y31 at *
  omega

theorem bytesS_wf (x : L5) : (bytesS x).wf := bytesOf_wf _
theorem bytesS_val {x : L5} (h : x.wf) : leVal (bytesS x) = val5 x % PP := by
  obtain ⟨⟨q, hq⟩, hok⟩ := settled_val h
  obtain ⟨ht, hv⟩ := least_val hok
  unfold bytesS leastS
  rw [bytesOf_val ht, hv, hq, Nat.add_mul_mod_self_left]
theorem leastS_a {x : L5} (h : x.wf) : (leastS x).a % 2 = val5 x % PP % 2 := by
  obtain ⟨⟨q, hq⟩, hok⟩ := settled_val h
  obtain ⟨ht, hv⟩ := least_val hok
  have e : val5 (leastS x) = val5 x % PP := by
    unfold leastS
    rw [hv, hq, Nat.add_mul_mod_self_left]
  rw [← e]
  unfold val5
  omega
theorem oddS_eq {x : L5} (h : x.wf) : oddS x = decide (val5 x % PP % 2 = 1) := by
  unfold oddS
  rw [← leastS_a h]
  congr 1
  rw [show (leastS x).a &&& 1 = (leastS x).a % 2 from Nat.and_one_is_mod _]
theorem key_eq_iff {x y : K32} (hx : x.wf) (hy : y.wf) : keyEq x y = decide (leVal x = leVal y) := by
  rw [keyEq_iff]
  by_cases h : x = y
  · rw [decide_eq_true h, decide_eq_true (by rw [h])]
  · rw [decide_eq_false h, decide_eq_false fun e => h (leVal_inj hx hy e)]
theorem equalS_eq {x y : L5} (hx : x.wf) (hy : y.wf) : equalS x y = decide (val5 x % PP = val5 y % PP) := by
  unfold equalS
  rw [key_eq_iff (bytesS_wf x) (bytesS_wf y), bytesS_val hx, bytesS_val hy]
theorem zeroK_wf : zeroK.wf := by
  intro b hb
  simp [K32.toList, zeroK] at hb
  omega
theorem isZeroS_eq {x : L5} (hx : x.wf) : isZeroS x = decide (val5 x % PP = 0) := by
  unfold isZeroS
  rw [key_eq_iff (bytesS_wf x) zeroK_wf, bytesS_val hx, show leVal zeroK = 0 from rfl]

end Pw

namespace Pw
open Go

/-! ### the document's numbers, by value -/

def val4 (x : L4) : Nat := x.a + 18446744073709551616 * x.b + 340282366920938463463374607431768211456 * x.c + 6277101735386680763835789423207666416102355444464034512896 * x.d
def B256 : Nat := 115792089237316195423570985008687907853269984665640564039457584007913129639936
def B255 : Nat := 57896044618658097711785492504343953926634992332820282019728792003956564819968

theorem L4.wf.lt {x : L4} (h : x.wf) : val4 x < B256 := by
  obtain ⟨h1, h2, h3, h4⟩ := h
  unfold val4 B256; omega

theorem bb_eq (x y b : Nat) : bb x y b = if x < y + b then 1 else 0 := by unfold bb; by_cases h : x < y + b <;> simp [h]
theorem sb_eq {x y b : Nat} (hx : x < 18446744073709551616) (hy : y < 18446744073709551616) (hb : b ≤ 1) : x + 18446744073709551616 * bb x y b = y + b + sb x y b ∧ sb x y b < 18446744073709551616 := by
  rw [bb_eq]; unfold sb
  by_cases h : x < y + b
  · rw [if_pos h, Nat.mod_eq_of_lt (by omega)]; omega
  · rw [if_neg h, show x + 18446744073709551616 - y - b = (x - y - b) + 18446744073709551616 by omega, Nat.add_mod_right, Nat.mod_eq_of_lt (by omega)]; omega

theorem min_val {x y : L4} (hx : x.wf) (hy : y.wf) : val4 x + B256 * minB x y = val4 y + val4 (minD x y) ∧ (minD x y).wf ∧ minB x y ≤ 1 := by
  obtain ⟨x1, x2, x3, x4⟩ := hx
  obtain ⟨y1, y2, y3, y4⟩ := hy
  have e1 := sb_eq x1 y1 (Nat.zero_le 1)
  have e2 := sb_eq x2 y2 (bb_le x.a y.a 0)
  have e3 := sb_eq x3 y3 (bb_le x.b y.b (minB0 x y))
  have e4 := sb_eq x4 y4 (bb_le x.c y.c (minB1 x y))
  refine ⟨?_, ⟨e1.2, e2.2, e3.2, e4.2⟩, bb_le _ _ _⟩
  have f1 := e1.1
  have f2 := e2.1
  have f3 := e3.1
  have f4 := e4.1
  clear e1 e2 e3 e4
  simp only [val4, minD, minB, minB2, minB1, minB0, B256] at *
  generalize bb x.a y.a 0 = p1 at *
  generalize bb x.b y.b p1 = p2 at *
  generalize bb x.c y.c p2 = p3 at *
  generalize bb x.d y.d p3 = p4 at *
  generalize sb x.a y.a 0 = q1 at *
  generalize sb x.b y.b p1 = q2 at *
  generalize sb x.c y.c p2 = q3 at *
  generalize sb x.d y.d p3 = q4 at *
  omega

theorem prime_wf : primeD.wf := by unfold L4.wf primeD; decide
theorem prime_val : val4 primeD = PP := by decide +kernel

theorem below_val {x : L4} (hx : x.wf) (h : val4 x < 2 * PP) : (belowR x).wf ∧ val4 (belowR x) = val4 x % PP := by
  obtain ⟨e, hw, hb⟩ := min_val hx prime_wf
  have hl := hw.lt
  rw [prime_val] at e
  unfold belowR
  by_cases hm : minB x primeD = 1
  · rw [decide_eq_true hm, cond_true]
    rw [hm] at e
    refine ⟨hx, (Nat.mod_eq_of_lt ?_).symm⟩
    unfold B256 PP at *; omega
  · rw [decide_eq_false hm, cond_false]
    have h0 : minB x primeD = 0 := by omega
    rw [h0] at e
    refine ⟨hw, ?_⟩
    have e' : val4 x = PP + val4 (minD x primeD) := by omega
    rw [e', Nat.add_mod_left, Nat.mod_eq_of_lt (by omega)]

theorem ac_cc (x y c : Nat) : x + y + c = ac x y c + 18446744073709551616 * cc x y c ∧ ac x y c < 18446744073709551616 := by
  unfold ac cc; omega

theorem settle_val {x : L4} (hx : x.wf) {o : Nat} (ho : o < 1099511627776) : (settleR x o).wf ∧ val4 (settleR x o) = (val4 x + B256 * o) % PP := by
  obtain ⟨x1, x2, x3, x4⟩ := hx
  unfold settleR
  rw [and63, mul64_eq (a := 2) (b := o) (by omega), add64_eq (a := 2 * o) (b := x.d / 2 ^ 63) (by omega), mul64_eq (a := 19) (by omega)]
  have hd : x.d / 2 ^ 63 ≤ 1 := by omega
  have ed : x.d = x.d % 9223372036854775808 + 9223372036854775808 * (x.d / 2 ^ 63) := by omega
  have hdm : x.d % 9223372036854775808 < 9223372036854775808 := Nat.mod_lt _ (by decide)
  have ev : val4 x = x.a + 18446744073709551616 * x.b + 340282366920938463463374607431768211456 * x.c + 6277101735386680763835789423207666416102355444464034512896 * x.d := rfl
  rw [ed] at ev
  revert ev hd hdm
  generalize x.d / 2 ^ 63 = t
  generalize x.d % 9223372036854775808 = d
  intro ht hd ev
  clear ed x4
  generalize hk : 19 * (2 * o + t) = k
  have a1 := ac_cc x.a k 0
  have a2 := ac_cc x.b (cc x.a k 0) 0
  have a3 := ac_cc x.c (cc x.b (cc x.a k 0) 0) 0
  have a4 := ac_cc d (cc x.c (cc x.b (cc x.a k 0) 0) 0) 0
  dsimp only
  generalize cc x.a k 0 = c1 at *
  generalize cc x.b c1 0 = c2 at *
  generalize cc x.c c2 0 = c3 at *
  generalize cc d c3 0 = c4 at *
  generalize ac x.a k 0 = r1 at *
  generalize ac x.b c1 0 = r2 at *
  generalize ac x.c c2 0 = r3 at *
  generalize ac d c3 0 = r4 at *
  have h1 : c1 ≤ 1 := by omega
  have h2 : c2 ≤ 1 := by omega
  have h3 : c3 ≤ 1 := by omega
  have h4 : c4 = 0 := by omega
  subst h4
  have hv : val4 ⟨r1, r2, r3, r4⟩ + B255 * t = val4 x + k := by
    rw [ev]; simp only [val4, B255]; omega
  have hlt : val4 ⟨r1, r2, r3, r4⟩ < 2 * PP := by simp only [val4, PP]; omega
  obtain ⟨hw, hm⟩ := below_val (x := ⟨r1, r2, r3, r4⟩) ⟨a1.2, a2.2, a3.2, a4.2⟩ hlt
  refine ⟨hw, ?_⟩
  rw [hm]
  have e : val4 x + B256 * o = val4 ⟨r1, r2, r3, r4⟩ + PP * (2 * o + t) := by
    clear hm hw hlt
    simp only [B256, B255, PP] at *
    omega
  rw [e, Nat.add_mul_mod_self_left]

theorem tm_val {x y c d : Nat} (hx : x < 18446744073709551616) (hy : y < 18446744073709551616) (hc : c < 18446744073709551616) (hd : d < 18446744073709551616) :
    tmHi x y c d * 18446744073709551616 + tmLo x y c d = x * y + c + d ∧ tmLo x y c d < 18446744073709551616 ∧ tmHi x y c d < 18446744073709551616 := by
  have hm := mul_split hx hy
  have hl : mul64 x y < 18446744073709551616 := Nat.mod_lt _ (by decide)
  have hp : x * y ≤ 18446744073709551615 * 18446744073709551615 := Nat.mul_le_mul (by omega) (by omega)
  unfold tmHi tmLo
  have a1 := ac_cc (mul64 x y) c 0
  have a2 := ac_cc (ac (mul64 x y) c 0) d 0
  revert hm hl a1 a2
  generalize mulHi x y = q
  generalize mul64 x y = p
  generalize ac p c 0 = r
  generalize ac r d 0 = s
  generalize cc p c 0 = c1
  generalize cc r d 0 = c2
  intro hm hl a1 a2
  have h1 : c1 ≤ 1 := by omega
  have h2 : c2 ≤ 1 := by omega
  have hq : q + c1 + c2 < 18446744073709551616 := by omega
  rw [add64_eq (a := q) (by omega), add64_eq (by omega)]
  omega

theorem row_val {x : Nat} {y t : L4} (hx : x < 18446744073709551616) (hy : y.wf) (ht : t.wf) :
    val4 ⟨(rowM x y t).a, (rowM x y t).b, (rowM x y t).c, (rowM x y t).d⟩ + B256 * (rowM x y t).e = x * val4 y + val4 t ∧ (rowM x y t).wf := by
  obtain ⟨y1, y2, y3, y4⟩ := hy
  obtain ⟨t1, t2, t3, t4⟩ := ht
  have e1 := tm_val hx y1 t1 (d := 0) (by decide)
  have e2 := tm_val hx y2 t2 e1.2.2
  have e3 := tm_val hx y3 t3 e2.2.2
  have e4 := tm_val hx y4 t4 e3.2.2
  refine ⟨?_, e1.2.1, e2.2.1, e3.2.1, e4.2.1, e4.2.2⟩
  have f1 := e1.1
  have f2 := e2.1
  have f3 := e3.1
  have f4 := e4.1
  clear e1 e2 e3 e4
  unfold rowM
  simp only [val4, B256]
  revert f1 f2 f3 f4
  generalize tmHi x y.a t.a 0 = h0
  generalize tmHi x y.b t.b h0 = h1
  generalize tmHi x y.c t.c h1 = h2
  generalize tmHi x y.d t.d h2 = h3
  generalize tmLo x y.a t.a 0 = l0
  generalize tmLo x y.b t.b h0 = l1
  generalize tmLo x y.c t.c h1 = l2
  generalize tmLo x y.d t.d h2 = l3
  intro f1 f2 f3 f4
  have e : x * (y.a + 18446744073709551616 * y.b + 340282366920938463463374607431768211456 * y.c + 6277101735386680763835789423207666416102355444464034512896 * y.d) =
    x * y.a + 18446744073709551616 * (x * y.b) + 340282366920938463463374607431768211456 * (x * y.c) + 6277101735386680763835789423207666416102355444464034512896 * (x * y.d) := by grind
  rw [e]
  generalize x * y.a = p1 at *
  generalize x * y.b = p2 at *
  generalize x * y.c = p3 at *
  generalize x * y.d = p4 at *
  omega

theorem mulR_val {x y : L4} (hx : x.wf) (hy : y.wf) : (mulR x y).wf ∧ val4 (mulR x y) = val4 x * val4 y % PP := by
  obtain ⟨x1, x2, x3, x4⟩ := hx
  have z : L4.wf ⟨0, 0, 0, 0⟩ := by unfold L4.wf; decide
  obtain ⟨e0, w0⟩ := row_val x1 hy z
  obtain ⟨a0, a1, a2, a3, a4⟩ := w0
  obtain ⟨e1, w1⟩ := row_val x2 hy (t := ⟨(rowM x.a y ⟨0, 0, 0, 0⟩).b, (rowM x.a y ⟨0, 0, 0, 0⟩).c, (rowM x.a y ⟨0, 0, 0, 0⟩).d, (rowM x.a y ⟨0, 0, 0, 0⟩).e⟩) ⟨a1, a2, a3, a4⟩
  unfold mulR
  generalize rowM x.a y ⟨0, 0, 0, 0⟩ = r0 at *
  dsimp only at *
  generalize rowM x.b y ⟨r0.b, r0.c, r0.d, r0.e⟩ = r1 at *
  obtain ⟨b0, b1, b2, b3, b4⟩ := w1
  obtain ⟨e2, w2⟩ := row_val x3 hy (t := ⟨r1.b, r1.c, r1.d, r1.e⟩) ⟨b1, b2, b3, b4⟩
  generalize rowM x.c y ⟨r1.b, r1.c, r1.d, r1.e⟩ = r2 at *
  obtain ⟨c0, c1, c2, c3, c4⟩ := w2
  obtain ⟨e3, w3⟩ := row_val x4 hy (t := ⟨r2.b, r2.c, r2.d, r2.e⟩) ⟨c1, c2, c3, c4⟩
  generalize rowM x.d y ⟨r2.b, r2.c, r2.d, r2.e⟩ = r3 at *
  obtain ⟨d0, d1, d2, d3, d4⟩ := w3
  obtain ⟨e4, w4⟩ := row_val (x := 38) (by decide) (y := ⟨r3.b, r3.c, r3.d, r3.e⟩) ⟨d1, d2, d3, d4⟩ (t := ⟨r0.a, r1.a, r2.a, r3.a⟩) ⟨a0, b0, c0, d0⟩
  generalize rowM 38 ⟨r3.b, r3.c, r3.d, r3.e⟩ ⟨r0.a, r1.a, r2.a, r3.a⟩ = f at *
  obtain ⟨f0, f1, f2, f3, f4⟩ := w4
  have hlo : val4 ⟨r0.a, r1.a, r2.a, r3.a⟩ < B256 := L4.wf.lt ⟨a0, b0, c0, d0⟩
  have hhi : val4 ⟨r3.b, r3.c, r3.d, r3.e⟩ < B256 := L4.wf.lt ⟨d1, d2, d3, d4⟩
  have ho : f.e < 1099511627776 := by
    have h5 : B256 * f.e ≤ 38 * val4 ⟨r3.b, r3.c, r3.d, r3.e⟩ + val4 ⟨r0.a, r1.a, r2.a, r3.a⟩ := by rw [← e4]; exact Nat.le_add_left _ _
    clear e0 e1 e2 e3 e4
    unfold B256 at *; omega
  obtain ⟨hw, hv⟩ := settle_val (x := ⟨f.a, f.b, f.c, f.d⟩) ⟨f0, f1, f2, f3⟩ ho
  refine ⟨hw, ?_⟩
  rw [hv, e4]
  have prod : val4 x * val4 y = val4 ⟨r0.a, r1.a, r2.a, r3.a⟩ + B256 * val4 ⟨r3.b, r3.c, r3.d, r3.e⟩ := by
    have ex : val4 x * val4 y = x.a * val4 y + 18446744073709551616 * (x.b * val4 y) + 340282366920938463463374607431768211456 * (x.c * val4 y) + 6277101735386680763835789423207666416102355444464034512896 * (x.d * val4 y) := by
      show (x.a + 18446744073709551616 * x.b + 340282366920938463463374607431768211456 * x.c + 6277101735386680763835789423207666416102355444464034512896 * x.d) * val4 y = _
      grind
    rw [ex]
    generalize x.a * val4 y = p1 at *
    generalize x.b * val4 y = p2 at *
    generalize x.c * val4 y = p3 at *
    generalize x.d * val4 y = p4 at *
    clear hv hw ho e4 hlo hhi ex
    simp only [val4, B256] at *
    omega
  rw [prod]
  have e : val4 ⟨r0.a, r1.a, r2.a, r3.a⟩ + B256 * val4 ⟨r3.b, r3.c, r3.d, r3.e⟩ = 38 * val4 ⟨r3.b, r3.c, r3.d, r3.e⟩ + val4 ⟨r0.a, r1.a, r2.a, r3.a⟩ + PP * (2 * val4 ⟨r3.b, r3.c, r3.d, r3.e⟩) := by
    unfold B256 PP; omega
  rw [e, Nat.add_mul_mod_self_left]
end Pw

namespace Pw
open Go

/-! ### the operations, by value -/

theorem cg_of {a b q : Nat} (h : a = b + PP * q) : b % PP = a % PP := by rw [h, Nat.add_mul_mod_self_left]

theorem add_val {x y : L5} (hx : ok5 x) (hy : ok5 y) : val5 (addS x y) % PP = (val5 x + val5 y) % PP ∧ ok5 (addS x y) := by
  obtain ⟨x1, x2, x3, x4, x5⟩ := hx
  obtain ⟨y1, y2, y3, y4, y5⟩ := hy
  unfold addS
  rw [add64_eq (a := x.a) (by omega), add64_eq (a := x.b) (by omega), add64_eq (a := x.c) (by omega), add64_eq (a := x.d) (by omega), add64_eq (a := x.e) (by omega)]
  obtain ⟨⟨q, hq⟩, ho⟩ := carried_val (a := x.a + y.a) (b := x.b + y.b) (c := x.c + y.c) (d := x.d + y.d) (e := x.e + y.e) (by omega) (by omega) (by omega) (by omega) (by omega)
  refine ⟨?_, ho⟩
  rw [cg_of hq]
  congr 1
  simp only [val5]; omega

theorem sub64_eq {a b : Nat} (h : b ≤ a) (ha : a < 18446744073709551616) : sub64 a b = a - b := by
  show (a + (18446744073709551616 - b)) % 18446744073709551616 = a - b
  rw [show a + (18446744073709551616 - b) = (a - b) + 18446744073709551616 by omega, Nat.add_mod_right, Nat.mod_eq_of_lt (by omega)]

set_option maxRecDepth 100000 in
theorem sub_val {x y : L5} (hx : ok5 x) (hy : ok5 y) : (val5 (subS x y) + val5 y) % PP = val5 x % PP ∧ ok5 (subS x y) := by
  obtain ⟨x1, x2, x3, x4, x5⟩ := hx
  obtain ⟨y1, y2, y3, y4, y5⟩ := hy
  unfold subS
  rw [add64_eq (a := x.a) (by omega), add64_eq (a := x.b) (by omega), add64_eq (a := x.c) (by omega), add64_eq (a := x.d) (by omega), add64_eq (a := x.e) (by omega)]
  rw [sub64_eq (b := y.a) (by omega) (by omega), sub64_eq (b := y.b) (by omega) (by omega), sub64_eq (b := y.c) (by omega) (by omega), sub64_eq (b := y.d) (by omega) (by omega), sub64_eq (b := y.e) (by omega) (by omega)]
  obtain ⟨⟨q, hq⟩, ho⟩ := carried_val (a := x.a + 9007199254740916 - y.a) (b := x.b + 9007199254740988 - y.b) (c := x.c + 9007199254740988 - y.c) (d := x.d + 9007199254740988 - y.d) (e := x.e + 9007199254740988 - y.e) (by omega) (by omega) (by omega) (by omega) (by omega)
  refine ⟨?_, ho⟩
  have h1 : val5 x + PP * 4 = val5 (carried (x.a + 9007199254740916 - y.a) (x.b + 9007199254740988 - y.b) (x.c + 9007199254740988 - y.c) (x.d + 9007199254740988 - y.d) (x.e + 9007199254740988 - y.e)) + val5 y + PP * q := by
    have h2 : val5 x + PP * 4 = ((x.a + 9007199254740916 - y.a) + 2251799813685248 * (x.b + 9007199254740988 - y.b) + 5070602400912917605986812821504 * (x.c + 9007199254740988 - y.c) + 11417981541647679048466287755595961091061972992 * (x.d + 9007199254740988 - y.d) + 25711008708143844408671393477458601640355247900524685364822016 * (x.e + 9007199254740988 - y.e)) + val5 y := by
      have f1 : x.a + 9007199254740916 = (x.a + 9007199254740916 - y.a) + y.a := by omega
      have f2 : x.b + 9007199254740988 = (x.b + 9007199254740988 - y.b) + y.b := by omega
      have f3 : x.c + 9007199254740988 = (x.c + 9007199254740988 - y.c) + y.c := by omega
      have f4 : x.d + 9007199254740988 = (x.d + 9007199254740988 - y.d) + y.d := by omega
      have f5 : x.e + 9007199254740988 = (x.e + 9007199254740988 - y.e) + y.e := by omega
      clear hq ho x1 x2 x3 x4 x5 y1 y2 y3 y4 y5
      generalize x.a + 9007199254740916 - y.a = z1 at *
      generalize x.b + 9007199254740988 - y.b = z2 at *
      generalize x.c + 9007199254740988 - y.c = z3 at *
      generalize x.d + 9007199254740988 - y.d = z4 at *
      generalize x.e + 9007199254740988 - y.e = z5 at *
      simp only [val5, PP]
      omega
    rw [h2, hq]; omega
  have h3 := congrArg (· % PP) h1
  simp only [Nat.add_mul_mod_self_left] at h3
  exact h3.symm

theorem zero_ok : ok5 zero5 := by unfold ok5 zero5; decide
theorem neg_val {x : L5} (hx : ok5 x) : (val5 (negS x) + val5 x) % PP = 0 ∧ ok5 (negS x) := by
  have h := sub_val zero_ok hx
  exact ⟨by rw [negS, h.1]; decide +kernel, h.2⟩

theorem w0_wf : w0.wf := by unfold W2.wf w0; decide
theorem w0_val : valW w0 = 0 := rfl

/-- one product more, with room -/
theorem plus_le {s : W2} {a b A B n : Nat} (hs : s.wf ∧ valW s ≤ n) (ha : a ≤ A) (hb : b ≤ B) (hA : A < 18446744073709551616) (hB : B < 18446744073709551616) (h : n + A * B < 340282366920938463463374607431768211456) :
    valW (plusS s a b) = valW s + a * b ∧ ((plusS s a b).wf ∧ valW (plusS s a b) ≤ n + A * B) := by
  have hab : a * b ≤ A * B := Nat.mul_le_mul ha hb
  obtain ⟨h1, h2⟩ := plus_val hs.1 (a := a) (b := b) (by omega) (by omega) (by omega)
  exact ⟨h1, h2, by omega⟩

theorem m19 {b : Nat} (hb : b ≤ 2251799813840895) : mul64 19 b = 19 * b ∧ 19 * b ≤ 42784196462977005 := ⟨mul64_eq (by omega), by omega⟩
theorem m2 {b : Nat} (hb : b ≤ 2251799813840895) : mul64 2 b = 2 * b ∧ 2 * b ≤ 4503599627681790 := ⟨mul64_eq (by omega), by omega⟩

theorem five {a0 a1 a2 a3 a4 b0 b1 b2 b3 b4 B : Nat} (h0 : a0 ≤ 2251799813840895) (h1 : a1 ≤ 2251799813840895) (h2 : a2 ≤ 2251799813840895) (h3 : a3 ≤ 2251799813840895) (h4 : a4 ≤ 2251799813840895)
    (k0 : b0 ≤ B) (k1 : b1 ≤ B) (k2 : b2 ≤ B) (k3 : b3 ≤ B) (k4 : b4 ≤ B) (hB : B ≤ 42784196462977005) :
    valW (plusS (plusS (plusS (plusS (plusS w0 a0 b0) a1 b1) a2 b2) a3 b3) a4 b4) = a0 * b0 + a1 * b1 + a2 * b2 + a3 * b3 + a4 * b4 ∧
    (plusS (plusS (plusS (plusS (plusS w0 a0 b0) a1 b1) a2 b2) a3 b3) a4 b4).wf ∧ valW (plusS (plusS (plusS (plusS (plusS w0 a0 b0) a1 b1) a2 b2) a3 b3) a4 b4) ≤ 11258999069204475 * B := by
  have hm : 2251799813840895 * B ≤ 2251799813840895 * 42784196462977005 := Nat.mul_le_mul_left _ hB
  have e1 := plus_le (n := 0) ⟨w0_wf, by rw [w0_val]; exact Nat.le_refl 0⟩ h0 k0 (by omega) (by omega) (by omega)
  have e2 := plus_le e1.2 h1 k1 (by omega) (by omega) (by omega)
  have e3 := plus_le e2.2 h2 k2 (by omega) (by omega) (by omega)
  have e4 := plus_le e3.2 h3 k3 (by omega) (by omega) (by omega)
  have e5 := plus_le e4.2 h4 k4 (by omega) (by omega) (by omega)
  refine ⟨?_, e5.2.1, by omega⟩
  rw [e5.1, e4.1, e3.1, e2.1, e1.1, w0_val, Nat.zero_add]

theorem three {a0 a1 a2 b0 b1 b2 A B : Nat} (h0 : a0 ≤ A) (h1 : a1 ≤ A) (h2 : a2 ≤ A)
    (k0 : b0 ≤ B) (k1 : b1 ≤ B) (k2 : b2 ≤ B) (hA : A ≤ 4503599627681790) (hB : B ≤ 42784196462977005) :
    valW (plusS (plusS (plusS w0 a0 b0) a1 b1) a2 b2) = a0 * b0 + a1 * b1 + a2 * b2 ∧
    (plusS (plusS (plusS w0 a0 b0) a1 b1) a2 b2).wf ∧ valW (plusS (plusS (plusS w0 a0 b0) a1 b1) a2 b2) ≤ 3 * (A * B) := by
  have hm : A * B ≤ 4503599627681790 * 42784196462977005 := Nat.mul_le_mul hA hB
  have e1 := plus_le (n := 0) ⟨w0_wf, by rw [w0_val]; exact Nat.le_refl 0⟩ h0 k0 (by omega) (by omega) (by omega)
  have e2 := plus_le e1.2 h1 k1 (by omega) (by omega) (by omega)
  have e3 := plus_le e2.2 h2 k2 (by omega) (by omega) (by omega)
  refine ⟨?_, e3.2.1, by omega⟩
  rw [e3.1, e2.1, e1.1, w0_val, Nat.zero_add]

theorem mul_val {x y : L5} (hx : ok5 x) (hy : ok5 y) : val5 (mulS x y) % PP = val5 x * val5 y % PP ∧ ok5 (mulS x y) := by
  obtain ⟨x1, x2, x3, x4, x5⟩ := hx
  obtain ⟨y1, y2, y3, y4, y5⟩ := hy
  have c1 := m19 (b := y.b) (by omega)
  have c2 := m19 (b := y.c) (by omega)
  have c3 := m19 (b := y.d) (by omega)
  have c4 := m19 (b := y.e) (by omega)
  unfold mulS
  dsimp only
  rw [c1.1, c2.1, c3.1, c4.1]
  have r := five (a0 := x.a) (a1 := x.b) (a2 := x.c) (a3 := x.d) (a4 := x.e) (b0 := y.a) (b1 := 19 * y.e) (b2 := 19 * y.d) (b3 := 19 * y.c) (b4 := 19 * y.b) (B := 42784196462977005) (by omega) (by omega) (by omega) (by omega) (by omega) (by omega) (by omega) (by omega) (by omega) (by omega) (by omega)
  have s := five (a0 := x.a) (a1 := x.b) (a2 := x.c) (a3 := x.d) (a4 := x.e) (b0 := y.b) (b1 := y.a) (b2 := 19 * y.e) (b3 := 19 * y.d) (b4 := 19 * y.c) (B := 42784196462977005) (by omega) (by omega) (by omega) (by omega) (by omega) (by omega) (by omega) (by omega) (by omega) (by omega) (by omega)
  have t := five (a0 := x.a) (a1 := x.b) (a2 := x.c) (a3 := x.d) (a4 := x.e) (b0 := y.c) (b1 := y.b) (b2 := y.a) (b3 := 19 * y.e) (b4 := 19 * y.d) (B := 42784196462977005) (by omega) (by omega) (by omega) (by omega) (by omega) (by omega) (by omega) (by omega) (by omega) (by omega) (by omega)
  have u := five (a0 := x.a) (a1 := x.b) (a2 := x.c) (a3 := x.d) (a4 := x.e) (b0 := y.d) (b1 := y.c) (b2 := y.b) (b3 := y.a) (b4 := 19 * y.e) (B := 42784196462977005) (by omega) (by omega) (by omega) (by omega) (by omega) (by omega) (by omega) (by omega) (by omega) (by omega) (by omega)
  have v := five (a0 := x.a) (a1 := x.b) (a2 := x.c) (a3 := x.d) (a4 := x.e) (b0 := y.e) (b1 := y.d) (b2 := y.c) (b3 := y.b) (b4 := y.a) (B := 2251799813840895) (by omega) (by omega) (by omega) (by omega) (by omega) (by omega) (by omega) (by omega) (by omega) (by omega) (by omega)
  obtain ⟨⟨q, hq⟩, ho⟩ := folded_val r.2.1 s.2.1 t.2.1 u.2.1 v.2.1 (by have := r.2.2; omega) (by have := s.2.2; omega) (by have := t.2.2; omega) (by have := u.2.2; omega) (by have := v.2.2; omega)
  refine ⟨?_, ho⟩
  rw [r.1, s.1, t.1, u.1, v.1] at hq
  rw [cg_of hq]
  refine cg_of (q := (x.b * y.e + x.c * y.d + x.d * y.c + x.e * y.b) + 2251799813685248 * (x.c * y.e + x.d * y.d + x.e * y.c) + 5070602400912917605986812821504 * (x.d * y.e + x.e * y.d) + 11417981541647679048466287755595961091061972992 * (x.e * y.e)) ?_
  clear hq ho r s t u v c1 c2 c3 c4
  unfold val5 PP
  grind

theorem sq_val {x : L5} (hx : ok5 x) : val5 (sqS x) % PP = val5 x * val5 x % PP ∧ ok5 (sqS x) := by
  obtain ⟨x1, x2, x3, x4, x5⟩ := hx
  have c3 := m19 (b := x.d) (by omega)
  have c4 := m19 (b := x.e) (by omega)
  have d0 := m2 (b := x.a) (by omega)
  have d1 := m2 (b := x.b) (by omega)
  have d2 := m2 (b := x.c) (by omega)
  have d3 := m2 (b := x.d) (by omega)
  unfold sqS
  dsimp only
  rw [c3.1, c4.1, d0.1, d1.1, d2.1, d3.1]
  have r := three (a0 := x.a) (a1 := 2 * x.b) (a2 := 2 * x.c) (b0 := x.a) (b1 := 19 * x.e) (b2 := 19 * x.d) (A := 4503599627681790) (B := 42784196462977005) (by omega) (by omega) (by omega) (by omega) (by omega) (by omega) (by omega) (by omega)
  have s := three (a0 := 2 * x.a) (a1 := 2 * x.c) (a2 := x.d) (b0 := x.b) (b1 := 19 * x.e) (b2 := 19 * x.d) (A := 4503599627681790) (B := 42784196462977005) (by omega) (by omega) (by omega) (by omega) (by omega) (by omega) (by omega) (by omega)
  have t := three (a0 := 2 * x.a) (a1 := x.b) (a2 := 2 * x.d) (b0 := x.c) (b1 := x.b) (b2 := 19 * x.e) (A := 4503599627681790) (B := 42784196462977005) (by omega) (by omega) (by omega) (by omega) (by omega) (by omega) (by omega) (by omega)
  have u := three (a0 := 2 * x.a) (a1 := 2 * x.b) (a2 := x.e) (b0 := x.d) (b1 := x.c) (b2 := 19 * x.e) (A := 4503599627681790) (B := 42784196462977005) (by omega) (by omega) (by omega) (by omega) (by omega) (by omega) (by omega) (by omega)
  have v := three (a0 := 2 * x.a) (a1 := 2 * x.b) (a2 := x.c) (b0 := x.e) (b1 := x.d) (b2 := x.c) (A := 4503599627681790) (B := 2251799813840895) (by omega) (by omega) (by omega) (by omega) (by omega) (by omega) (by omega) (by omega)
  obtain ⟨⟨q, hq⟩, ho⟩ := folded_val r.2.1 s.2.1 t.2.1 u.2.1 v.2.1 (by have := r.2.2; omega) (by have := s.2.2; omega) (by have := t.2.2; omega) (by have := u.2.2; omega) (by have := v.2.2; omega)
  refine ⟨?_, ho⟩
  rw [r.1, s.1, t.1, u.1, v.1] at hq
  rw [cg_of hq]
  refine cg_of (q := (2 * (x.b * x.e) + 2 * (x.c * x.d)) + 2251799813685248 * (2 * (x.c * x.e) + x.d * x.d) + 5070602400912917605986812821504 * (2 * (x.d * x.e)) + 11417981541647679048466287755595961091061972992 * (x.e * x.e)) ?_
  clear hq ho r s t u v c3 c4 d0 d1 d2 d3
  unfold val5 PP
  grind

theorem one_plus {a n : Nat} (ha : a ≤ 2251799813840895) (hn : n ≤ 4294967295) : valW (plusS w0 a n) = a * n ∧ (plusS w0 a n).wf ∧ valW (plusS w0 a n) ≤ 9671406556917033397649408 := by
  have hm : a * n ≤ 2251799813840895 * 4294967295 := Nat.mul_le_mul ha hn
  have e1 := plus_le (n := 0) (A := 2251799813840895) (B := 4294967295) ⟨w0_wf, by rw [w0_val]; exact Nat.le_refl 0⟩ ha hn (by omega) (by omega) (by omega)
  refine ⟨by rw [e1.1, w0_val, Nat.zero_add], e1.2.1, by have := e1.2.2; omega⟩

theorem times_val {x : L5} (hx : ok5 x) {n : Nat} (hn : n ≤ 4294967295) : val5 (timesS x n) % PP = val5 x * n % PP ∧ ok5 (timesS x n) := by
  obtain ⟨x1, x2, x3, x4, x5⟩ := hx
  unfold timesS
  have r := one_plus (a := x.a) (by omega) hn
  have s := one_plus (a := x.b) (by omega) hn
  have t := one_plus (a := x.c) (by omega) hn
  have u := one_plus (a := x.d) (by omega) hn
  have v := one_plus (a := x.e) (by omega) hn
  obtain ⟨⟨q, hq⟩, ho⟩ := folded_val r.2.1 s.2.1 t.2.1 u.2.1 v.2.1 (by have := r.2.2; omega) (by have := s.2.2; omega) (by have := t.2.2; omega) (by have := u.2.2; omega) (by have := v.2.2; omega)
  refine ⟨?_, ho⟩
  rw [r.1, s.1, t.1, u.1, v.1] at hq
  rw [cg_of hq]
  congr 1
  clear hq ho r s t u v
  unfold val5
  grind

theorem small_val {n : Nat} (hn : n < 18446744073709551616) : val5 (smallS n) = n ∧ ok5 (smallS n) := by
  unfold smallS ok5 val5
  rw [and51]
  constructor
  · simp only; omega
  · simp only; omega
end Pw

namespace Pw
open Go

/-! ### the program's numbers and the document's -/

theorem shlStep {t b : Nat} (ht : t < 72057594037927936) (hb : b < 256) : shl64 t 8 ||| b = t * 256 + b := by
  have e : shl64 t 8 = t * 2 ^ 8 := Nat.mod_eq_of_lt (by omega)
  rw [e, or_low 8 (by omega)]

theorem word0 {k : K32} (hk : k.wf) : (shl64 (shl64 (shl64 (shl64 (shl64 (shl64 (shl64 (shl64 0 8 ||| k.b7) 8 ||| k.b6) 8 ||| k.b5) 8 ||| k.b4) 8 ||| k.b3) 8 ||| k.b2) 8 ||| k.b1) 8 ||| k.b0) = ((((((((0 * 256 + k.b7) * 256 + k.b6) * 256 + k.b5) * 256 + k.b4) * 256 + k.b3) * 256 + k.b2) * 256 + k.b1) * 256 + k.b0) := by
  obtain ⟨h0, h1, h2, h3, h4, h5, h6, h7, h8, h9, h10, h11, h12, h13, h14, h15, h16, h17, h18, h19, h20, h21, h22, h23, h24, h25, h26, h27, h28, h29, h30, h31⟩ := hk.all
  rw [shlStep (t := 0) (b := k.b7) (by omega) (by omega), shlStep (t := (0 * 256 + k.b7)) (b := k.b6) (by omega) (by omega), shlStep (t := ((0 * 256 + k.b7) * 256 + k.b6)) (b := k.b5) (by omega) (by omega), shlStep (t := (((0 * 256 + k.b7) * 256 + k.b6) * 256 + k.b5)) (b := k.b4) (by omega) (by omega), shlStep (t := ((((0 * 256 + k.b7) * 256 + k.b6) * 256 + k.b5) * 256 + k.b4)) (b := k.b3) (by omega) (by omega), shlStep (t := (((((0 * 256 + k.b7) * 256 + k.b6) * 256 + k.b5) * 256 + k.b4) * 256 + k.b3)) (b := k.b2) (by omega) (by omega), shlStep (t := ((((((0 * 256 + k.b7) * 256 + k.b6) * 256 + k.b5) * 256 + k.b4) * 256 + k.b3) * 256 + k.b2)) (b := k.b1) (by omega) (by omega), shlStep (t := (((((((0 * 256 + k.b7) * 256 + k.b6) * 256 + k.b5) * 256 + k.b4) * 256 + k.b3) * 256 + k.b2) * 256 + k.b1)) (b := k.b0) (by omega) (by omega)]
theorem word1 {k : K32} (hk : k.wf) : (shl64 (shl64 (shl64 (shl64 (shl64 (shl64 (shl64 (shl64 0 8 ||| k.b15) 8 ||| k.b14) 8 ||| k.b13) 8 ||| k.b12) 8 ||| k.b11) 8 ||| k.b10) 8 ||| k.b9) 8 ||| k.b8) = ((((((((0 * 256 + k.b15) * 256 + k.b14) * 256 + k.b13) * 256 + k.b12) * 256 + k.b11) * 256 + k.b10) * 256 + k.b9) * 256 + k.b8) := by
  obtain ⟨h0, h1, h2, h3, h4, h5, h6, h7, h8, h9, h10, h11, h12, h13, h14, h15, h16, h17, h18, h19, h20, h21, h22, h23, h24, h25, h26, h27, h28, h29, h30, h31⟩ := hk.all
  rw [shlStep (t := 0) (b := k.b15) (by omega) (by omega), shlStep (t := (0 * 256 + k.b15)) (b := k.b14) (by omega) (by omega), shlStep (t := ((0 * 256 + k.b15) * 256 + k.b14)) (b := k.b13) (by omega) (by omega), shlStep (t := (((0 * 256 + k.b15) * 256 + k.b14) * 256 + k.b13)) (b := k.b12) (by omega) (by omega), shlStep (t := ((((0 * 256 + k.b15) * 256 + k.b14) * 256 + k.b13) * 256 + k.b12)) (b := k.b11) (by omega) (by omega), shlStep (t := (((((0 * 256 + k.b15) * 256 + k.b14) * 256 + k.b13) * 256 + k.b12) * 256 + k.b11)) (b := k.b10) (by omega) (by omega), shlStep (t := ((((((0 * 256 + k.b15) * 256 + k.b14) * 256 + k.b13) * 256 + k.b12) * 256 + k.b11) * 256 + k.b10)) (b := k.b9) (by omega) (by omega), shlStep (t := (((((((0 * 256 + k.b15) * 256 + k.b14) * 256 + k.b13) * 256 + k.b12) * 256 + k.b11) * 256 + k.b10) * 256 + k.b9)) (b := k.b8) (by omega) (by omega)]
theorem word2 {k : K32} (hk : k.wf) : (shl64 (shl64 (shl64 (shl64 (shl64 (shl64 (shl64 (shl64 0 8 ||| k.b23) 8 ||| k.b22) 8 ||| k.b21) 8 ||| k.b20) 8 ||| k.b19) 8 ||| k.b18) 8 ||| k.b17) 8 ||| k.b16) = ((((((((0 * 256 + k.b23) * 256 + k.b22) * 256 + k.b21) * 256 + k.b20) * 256 + k.b19) * 256 + k.b18) * 256 + k.b17) * 256 + k.b16) := by
  obtain ⟨h0, h1, h2, h3, h4, h5, h6, h7, h8, h9, h10, h11, h12, h13, h14, h15, h16, h17, h18, h19, h20, h21, h22, h23, h24, h25, h26, h27, h28, h29, h30, h31⟩ := hk.all
  rw [shlStep (t := 0) (b := k.b23) (by omega) (by omega), shlStep (t := (0 * 256 + k.b23)) (b := k.b22) (by omega) (by omega), shlStep (t := ((0 * 256 + k.b23) * 256 + k.b22)) (b := k.b21) (by omega) (by omega), shlStep (t := (((0 * 256 + k.b23) * 256 + k.b22) * 256 + k.b21)) (b := k.b20) (by omega) (by omega), shlStep (t := ((((0 * 256 + k.b23) * 256 + k.b22) * 256 + k.b21) * 256 + k.b20)) (b := k.b19) (by omega) (by omega), shlStep (t := (((((0 * 256 + k.b23) * 256 + k.b22) * 256 + k.b21) * 256 + k.b20) * 256 + k.b19)) (b := k.b18) (by omega) (by omega), shlStep (t := ((((((0 * 256 + k.b23) * 256 + k.b22) * 256 + k.b21) * 256 + k.b20) * 256 + k.b19) * 256 + k.b18)) (b := k.b17) (by omega) (by omega), shlStep (t := (((((((0 * 256 + k.b23) * 256 + k.b22) * 256 + k.b21) * 256 + k.b20) * 256 + k.b19) * 256 + k.b18) * 256 + k.b17)) (b := k.b16) (by omega) (by omega)]
theorem word3 {k : K32} (hk : k.wf) : (shl64 (shl64 (shl64 (shl64 (shl64 (shl64 (shl64 (shl64 0 8 ||| k.b31) 8 ||| k.b30) 8 ||| k.b29) 8 ||| k.b28) 8 ||| k.b27) 8 ||| k.b26) 8 ||| k.b25) 8 ||| k.b24) = ((((((((0 * 256 + k.b31) * 256 + k.b30) * 256 + k.b29) * 256 + k.b28) * 256 + k.b27) * 256 + k.b26) * 256 + k.b25) * 256 + k.b24) := by
  obtain ⟨h0, h1, h2, h3, h4, h5, h6, h7, h8, h9, h10, h11, h12, h13, h14, h15, h16, h17, h18, h19, h20, h21, h22, h23, h24, h25, h26, h27, h28, h29, h30, h31⟩ := hk.all
  rw [shlStep (t := 0) (b := k.b31) (by omega) (by omega), shlStep (t := (0 * 256 + k.b31)) (b := k.b30) (by omega) (by omega), shlStep (t := ((0 * 256 + k.b31) * 256 + k.b30)) (b := k.b29) (by omega) (by omega), shlStep (t := (((0 * 256 + k.b31) * 256 + k.b30) * 256 + k.b29)) (b := k.b28) (by omega) (by omega), shlStep (t := ((((0 * 256 + k.b31) * 256 + k.b30) * 256 + k.b29) * 256 + k.b28)) (b := k.b27) (by omega) (by omega), shlStep (t := (((((0 * 256 + k.b31) * 256 + k.b30) * 256 + k.b29) * 256 + k.b28) * 256 + k.b27)) (b := k.b26) (by omega) (by omega), shlStep (t := ((((((0 * 256 + k.b31) * 256 + k.b30) * 256 + k.b29) * 256 + k.b28) * 256 + k.b27) * 256 + k.b26)) (b := k.b25) (by omega) (by omega), shlStep (t := (((((((0 * 256 + k.b31) * 256 + k.b30) * 256 + k.b29) * 256 + k.b28) * 256 + k.b27) * 256 + k.b26) * 256 + k.b25)) (b := k.b24) (by omega) (by omega)]
set_option maxRecDepth 100000 in
theorem fromR_val {k : K32} (hk : k.wf) : (fromR k).wf ∧ val4 (fromR k) = leVal k % B255 % PP := by
  unfold fromR
  rw [word0 hk, word1 hk, word2 hk, word3 hk, and63]
  obtain ⟨h0, h1, h2, h3, h4, h5, h6, h7, h8, h9, h10, h11, h12, h13, h14, h15, h16, h17, h18, h19, h20, h21, h22, h23, h24, h25, h26, h27, h28, h29, h30, h31⟩ := hk.all
  obtain ⟨w0, hw0⟩ : ∃ w, w = ((((((((0 * 256 + k.b7) * 256 + k.b6) * 256 + k.b5) * 256 + k.b4) * 256 + k.b3) * 256 + k.b2) * 256 + k.b1) * 256 + k.b0) := ⟨_, rfl⟩
  obtain ⟨w1, hw1⟩ : ∃ w, w = ((((((((0 * 256 + k.b15) * 256 + k.b14) * 256 + k.b13) * 256 + k.b12) * 256 + k.b11) * 256 + k.b10) * 256 + k.b9) * 256 + k.b8) := ⟨_, rfl⟩
  obtain ⟨w2, hw2⟩ : ∃ w, w = ((((((((0 * 256 + k.b23) * 256 + k.b22) * 256 + k.b21) * 256 + k.b20) * 256 + k.b19) * 256 + k.b18) * 256 + k.b17) * 256 + k.b16) := ⟨_, rfl⟩
  obtain ⟨w3, hw3⟩ : ∃ w, w = ((((((((0 * 256 + k.b31) * 256 + k.b30) * 256 + k.b29) * 256 + k.b28) * 256 + k.b27) * 256 + k.b26) * 256 + k.b25) * 256 + k.b24) := ⟨_, rfl⟩
  rw [← hw0, ← hw1, ← hw2, ← hw3]
  have l0 : w0 < 18446744073709551616 := by omega
  have l1 : w1 < 18446744073709551616 := by omega
  have l2 : w2 < 18446744073709551616 := by omega
  have l3 : w3 < 18446744073709551616 := by omega
  have hm : w3 % 9223372036854775808 < 9223372036854775808 := Nat.mod_lt _ (by decide)
  have hL : leVal k = w0 + 18446744073709551616 * w1 + 340282366920938463463374607431768211456 * w2 + 6277101735386680763835789423207666416102355444464034512896 * w3 := by
    rw [leVal_sum]; unfold leSum; omega
  have hv : val4 ⟨w0, w1, w2, w3 % 9223372036854775808⟩ = leVal k % B255 := by
    rw [hL]
    clear hw0 hw1 hw2 hw3 hL h0 h1 h2 h3 h4 h5 h6 h7 h8 h9 h10 h11 h12 h13 h14 h15 h16 h17 h18 h19 h20 h21 h22 h23 h24 h25 h26 h27 h28 h29 h30 h31
    unfold val4 B255
    dsimp only
    omega
  have h2 : val4 ⟨w0, w1, w2, w3 % 9223372036854775808⟩ < 2 * PP := by
    rw [hv]
    exact Nat.lt_trans (Nat.mod_lt _ (by decide)) (by decide)
  have := below_val (x := ⟨w0, w1, w2, w3 % 9223372036854775808⟩) ⟨l0, l1, l2, Nat.lt_trans hm (by decide)⟩ h2
  rw [hv] at this
  exact this

theorem bytesR_wf (y : L4) : (bytesR4 y).wf := by
  intro b hb
  simp only [K32.toList, bytesR4, List.mem_cons, List.not_mem_nil, or_false] at hb
  have key : ∀ x : Nat, x % 2 ^ 8 < 256 := fun x => Nat.mod_lt _ (by decide)
  rcases hb with rfl | rfl | rfl | rfl | rfl | rfl | rfl | rfl | rfl | rfl | rfl | rfl | rfl | rfl | rfl | rfl | rfl | rfl | rfl | rfl | rfl | rfl | rfl | rfl | rfl | rfl | rfl | rfl | rfl | rfl | rfl | rfl <;> exact key _
theorem word_bytes {w : Nat} (h : w < 18446744073709551616) : w = w / 2 ^ 0 % 2 ^ 8 * 1 + w / 2 ^ 8 % 2 ^ 8 * 256 + w / 2 ^ 16 % 2 ^ 8 * 65536 + w / 2 ^ 24 % 2 ^ 8 * 16777216 + w / 2 ^ 32 % 2 ^ 8 * 4294967296 + w / 2 ^ 40 % 2 ^ 8 * 1099511627776 + w / 2 ^ 48 % 2 ^ 8 * 281474976710656 + w / 2 ^ 56 % 2 ^ 8 * 72057594037927936 := by omega
theorem bytesR_val {y : L4} (h : y.wf) : leVal (bytesR4 y) = val4 y := by
  obtain ⟨h1, h2, h3, h4⟩ := h
  rw [leVal_sum]
  unfold leSum bytesR4 val4
  dsimp only
  have e1 := word_bytes h1
  have e2 := word_bytes h2
  have e3 := word_bytes h3
  have e4 := word_bytes h4
  clear h1 h2 h3 h4
  generalize y.a / 2 ^ 0 % 2 ^ 8 = z0 at *
  generalize y.a / 2 ^ 8 % 2 ^ 8 = z1 at *
  generalize y.a / 2 ^ 16 % 2 ^ 8 = z2 at *
  generalize y.a / 2 ^ 24 % 2 ^ 8 = z3 at *
  generalize y.a / 2 ^ 32 % 2 ^ 8 = z4 at *
  generalize y.a / 2 ^ 40 % 2 ^ 8 = z5 at *
  generalize y.a / 2 ^ 48 % 2 ^ 8 = z6 at *
  generalize y.a / 2 ^ 56 % 2 ^ 8 = z7 at *
  generalize y.b / 2 ^ 0 % 2 ^ 8 = z8 at *
  generalize y.b / 2 ^ 8 % 2 ^ 8 = z9 at *
  generalize y.b / 2 ^ 16 % 2 ^ 8 = z10 at *
  generalize y.b / 2 ^ 24 % 2 ^ 8 = z11 at *
  generalize y.b / 2 ^ 32 % 2 ^ 8 = z12 at *
  generalize y.b / 2 ^ 40 % 2 ^ 8 = z13 at *
  generalize y.b / 2 ^ 48 % 2 ^ 8 = z14 at *
  generalize y.b / 2 ^ 56 % 2 ^ 8 = z15 at *
  generalize y.c / 2 ^ 0 % 2 ^ 8 = z16 at *
  generalize y.c / 2 ^ 8 % 2 ^ 8 = z17 at *
  generalize y.c / 2 ^ 16 % 2 ^ 8 = z18 at *
  generalize y.c / 2 ^ 24 % 2 ^ 8 = z19 at *
  generalize y.c / 2 ^ 32 % 2 ^ 8 = z20 at *
  generalize y.c / 2 ^ 40 % 2 ^ 8 = z21 at *
  generalize y.c / 2 ^ 48 % 2 ^ 8 = z22 at *
  generalize y.c / 2 ^ 56 % 2 ^ 8 = z23 at *
  generalize y.d / 2 ^ 0 % 2 ^ 8 = z24 at *
  generalize y.d / 2 ^ 8 % 2 ^ 8 = z25 at *
  generalize y.d / 2 ^ 16 % 2 ^ 8 = z26 at *
  generalize y.d / 2 ^ 24 % 2 ^ 8 = z27 at *
  generalize y.d / 2 ^ 32 % 2 ^ 8 = z28 at *
  generalize y.d / 2 ^ 40 % 2 ^ 8 = z29 at *
  generalize y.d / 2 ^ 48 % 2 ^ 8 = z30 at *
  generalize y.d / 2 ^ 56 % 2 ^ 8 = z31 at *
  omega

structure Sim (x : L5) (y : L4) : Prop where
  ok : ok5 x
  wf : y.wf
  lt : val4 y < PP
  eq : val5 x % PP = val4 y

theorem PP_pos : 0 < PP := by decide
theorem Sim.from {k : K32} (hk : k.wf) : Sim (fromS k) (fromR k) := by
  obtain ⟨⟨q, hq⟩, ho⟩ := from_val hk
  obtain ⟨hw, hv⟩ := fromR_val hk
  exact ⟨ho, hw, by rw [hv]; exact Nat.mod_lt _ PP_pos, by rw [hv]; exact cg_of hq⟩
theorem small_lt {n : Nat} (hn : n < 18446744073709551616) : n < PP := Nat.lt_trans hn (by decide)
theorem smallR_wf {n : Nat} (hn : n < 18446744073709551616) : (smallR n).wf ∧ val4 (smallR n) = n := by
  unfold smallR L4.wf val4
  exact ⟨⟨hn, Nat.two_pow_pos 64, Nat.two_pow_pos 64, Nat.two_pow_pos 64⟩, by simp⟩
theorem Sim.small {n : Nat} (hn : n < 18446744073709551616) : Sim (smallS n) (smallR n) := by
  obtain ⟨h1, h2⟩ := small_val hn
  obtain ⟨h3, h4⟩ := smallR_wf hn
  exact ⟨h2, h3, by rw [h4]; exact small_lt hn, by rw [h1, h4]; exact Nat.mod_eq_of_lt (small_lt hn)⟩
theorem Sim.zero : Sim zero5 zeroR := ⟨zero_ok, by unfold zeroR L4.wf; decide, by decide, by decide⟩

theorem addR_val {x y : L4} (hx : x.wf) (hy : y.wf) (lx : val4 x < PP) (ly : val4 y < PP) : (addR x y).wf ∧ val4 (addR x y) = (val4 x + val4 y) % PP := by
  obtain ⟨x1, x2, x3, x4⟩ := hx
  obtain ⟨y1, y2, y3, y4⟩ := hy
  unfold addR
  have a1 := ac_cc x.a y.a 0
  have a2 := ac_cc x.b y.b (addC0 x y)
  have a3 := ac_cc x.c y.c (addC1 x y)
  have a4 := ac_cc x.d y.d (addC2 x y)
  unfold addC2 addC1 addC0 at *
  generalize cc x.a y.a 0 = c1 at *
  generalize cc x.b y.b c1 = c2 at *
  generalize cc x.c y.c c2 = c3 at *
  generalize cc x.d y.d c3 = c4 at *
  generalize ac x.a y.a 0 = r1 at *
  generalize ac x.b y.b c1 = r2 at *
  generalize ac x.c y.c c2 = r3 at *
  generalize ac x.d y.d c3 = r4 at *
  have hv : val4 ⟨r1, r2, r3, r4⟩ + B256 * c4 = val4 x + val4 y := by
    simp only [val4, B256]; omega
  have h4 : c4 = 0 := by
    clear a1 a2 a3 a4 x1 x2 x3 x4 y1 y2 y3 y4
    unfold B256 PP at *; omega
  subst h4
  rw [Nat.mul_zero, Nat.add_zero] at hv
  rw [← hv]
  exact below_val ⟨a1.2, a2.2, a3.2, a4.2⟩ (by rw [hv]; omega)

theorem negR_val {x : L4} (hx : x.wf) (lx : val4 x < PP) : (negR x).wf ∧ val4 (negR x) = (PP - val4 x) % PP := by
  obtain ⟨e, hw, hb⟩ := min_val prime_wf hx
  rw [prime_val] at e
  have hl := hw.lt
  have h0 : minB primeD x = 0 := by
    unfold B256 at *; omega
  rw [h0] at e
  have e' : val4 (minD primeD x) = PP - val4 x := by omega
  unfold negR
  rw [← e']
  exact below_val hw (by rw [e']; omega)

theorem Sim.add {x x' : L5} {y y' : L4} (h : Sim x y) (h' : Sim x' y') : Sim (addS x x') (addR y y') := by
  obtain ⟨h1, h2⟩ := add_val h.ok h'.ok
  obtain ⟨h3, h4⟩ := addR_val h.wf h'.wf h.lt h'.lt
  refine ⟨h2, h3, by rw [h4]; exact Nat.mod_lt _ PP_pos, ?_⟩
  rw [h1, h4, Nat.add_mod, h.eq, h'.eq]

theorem neg_mod {a b : Nat} (hb : b < PP) (h : (a + b) % PP = 0) : a % PP = (PP - b) % PP := by
  unfold PP at *; omega
theorem Sim.neg {x : L5} {y : L4} (h : Sim x y) : Sim (negS x) (negR y) := by
  obtain ⟨h1, h2⟩ := neg_val h.ok
  obtain ⟨h3, h4⟩ := negR_val h.wf h.lt
  refine ⟨h2, h3, by rw [h4]; exact Nat.mod_lt _ PP_pos, ?_⟩
  rw [h4]
  refine neg_mod h.lt ?_
  rw [← h.eq, Nat.add_mod_mod, h1]

theorem sub_mod' {a b c : Nat} (hb : b < PP) (h : (a + b) % PP = c % PP) : a % PP = (c + (PP - b) % PP) % PP := by
  unfold PP at *; omega
theorem Sim.sub {x x' : L5} {y y' : L4} (h : Sim x y) (h' : Sim x' y') : Sim (subS x x') (subR y y') := by
  obtain ⟨h1, h2⟩ := sub_val h.ok h'.ok
  obtain ⟨g3, g4⟩ := negR_val h'.wf h'.lt
  obtain ⟨h3, h4⟩ := addR_val h.wf g3 h.lt (by rw [g4]; exact Nat.mod_lt _ PP_pos)
  refine ⟨h2, h3, by unfold subR; rw [h4]; exact Nat.mod_lt _ PP_pos, ?_⟩
  unfold subR
  rw [h4, g4]
  refine sub_mod' h'.lt ?_
  rw [← h'.eq, Nat.add_mod_mod, h1, h.eq, Nat.mod_eq_of_lt h.lt]

theorem Sim.mul {x x' : L5} {y y' : L4} (h : Sim x y) (h' : Sim x' y') : Sim (mulS x x') (mulR y y') := by
  obtain ⟨h1, h2⟩ := mul_val h.ok h'.ok
  obtain ⟨h3, h4⟩ := mulR_val h.wf h'.wf
  refine ⟨h2, h3, by rw [h4]; exact Nat.mod_lt _ PP_pos, ?_⟩
  rw [h1, h4, Nat.mul_mod, h.eq, h'.eq]
theorem Sim.sq {x : L5} {y : L4} (h : Sim x y) : Sim (sqS x) (mulR y y) := by
  obtain ⟨h1, h2⟩ := sq_val h.ok
  obtain ⟨h3, h4⟩ := mulR_val h.wf h.wf
  refine ⟨h2, h3, by rw [h4]; exact Nat.mod_lt _ PP_pos, ?_⟩
  rw [h1, h4, Nat.mul_mod, h.eq]
theorem Sim.times {x : L5} {y : L4} (h : Sim x y) {n : Nat} (hn : n < 4294967296) : Sim (timesS x n) (timesR y n) := by
  obtain ⟨h1, h2⟩ := times_val h.ok (n := n) (by omega)
  obtain ⟨g1, g2⟩ := smallR_wf (n := n) (by omega)
  obtain ⟨h3, h4⟩ := mulR_val h.wf g1
  refine ⟨h2, h3, by unfold timesR; rw [h4]; exact Nat.mod_lt _ PP_pos, ?_⟩
  unfold timesR
  rw [h1, h4, g2, Nat.mul_mod, h.eq, Nat.mul_mod_mod]
theorem Sim.bytes {x : L5} {y : L4} (h : Sim x y) : bytesS x = bytesR4 y :=
  leVal_inj (bytesS_wf x) (bytesR_wf y) (by rw [bytesS_val h.ok.wf, bytesR_val h.wf, h.eq])
theorem equalR_iff (x y : L4) : equalR x y = decide (x = y) := by
  cases x; cases y
  unfold equalR
  simp only [L4.mk.injEq]
  rename_i a b c d a' b' c' d'
  by_cases h1 : a = a' <;> by_cases h2 : b = b' <;> by_cases h3 : c = c' <;> by_cases h4 : d = d' <;> simp [h1, h2, h3, h4]
theorem val4_inj {x y : L4} (hx : x.wf) (hy : y.wf) (h : val4 x = val4 y) : x = y := by
  obtain ⟨x1, x2, x3, x4⟩ := hx
  obtain ⟨y1, y2, y3, y4⟩ := hy
  cases x; cases y
  simp only [val4] at *
  simp only [L4.mk.injEq]
  omega
theorem equalR_val {x y : L4} (hx : x.wf) (hy : y.wf) : equalR x y = decide (val4 x = val4 y) := by
  rw [equalR_iff]
  by_cases h : x = y
  · rw [decide_eq_true h, decide_eq_true (by rw [h])]
  · rw [decide_eq_false h, decide_eq_false fun e => h (val4_inj hx hy e)]
theorem Sim.equal {x x' : L5} {y y' : L4} (h : Sim x y) (h' : Sim x' y') : equalS x x' = equalR y y' := by
  rw [equalS_eq h.ok.wf h'.ok.wf, equalR_val h.wf h'.wf, h.eq, h'.eq]
theorem Sim.isZero {x : L5} {y : L4} (h : Sim x y) : isZeroS x = isZeroR y := by
  unfold isZeroR
  rw [isZeroS_eq h.ok.wf, equalR_val h.wf Sim.zero.wf, h.eq]
  rfl
theorem Sim.odd {x : L5} {y : L4} (h : Sim x y) : oddS x = oddR y := by
  rw [oddS_eq h.ok.wf, h.eq]
  unfold oddR
  congr 1
  unfold val4
  have : (y.a + 18446744073709551616 * y.b + 340282366920938463463374607431768211456 * y.c + 6277101735386680763835789423207666416102355444464034512896 * y.d) % 2 = y.a % 2 := by omega
  rw [this]
theorem Sim.ite {c : Bool} {x x' : L5} {y y' : L4} (h : Sim x y) (h' : Sim x' y') : Sim (bif c then x else x') (bif c then y else y') := by
  cases c
  · exact h'
  · exact h
end Pw

namespace Pw
open Go

/-! ### numbers modulo P as a ring -/

instance : NeZero PP := ⟨by decide⟩
abbrev Fp := Fin PP
def toF (n : Nat) : Fp := Fin.ofNat PP n
def fv (x : L5) : Fp := toF (val5 x)
theorem toF_val (n : Nat) : (toF n).val = n % PP := rfl
theorem toF_eq {a b : Nat} : toF a = toF b ↔ a % PP = b % PP := by
  rw [Fin.ext_iff]; exact Iff.rfl
theorem toF_add (a b : Nat) : toF (a + b) = toF a + toF b := by
  simp [toF, Fin.ext_iff, Fin.val_add, Fin.ofNat]
theorem toF_mul (a b : Nat) : toF (a * b) = toF a * toF b := by
  simp [toF, Fin.ext_iff, Fin.val_mul, Fin.ofNat, Nat.mul_mod]
theorem toF_zero : toF 0 = 0 := rfl
theorem fv_of {x : L5} {n : Nat} (h : val5 x % PP = n % PP) : fv x = toF n := toF_eq.2 h
theorem fv_add {x y : L5} (hx : ok5 x) (hy : ok5 y) : fv (addS x y) = fv x + fv y := by
  rw [fv_of (add_val hx hy).1, toF_add]; rfl
theorem fv_mul {x y : L5} (hx : ok5 x) (hy : ok5 y) : fv (mulS x y) = fv x * fv y := by
  rw [fv_of (mul_val hx hy).1, toF_mul]; rfl
theorem fv_sq {x : L5} (hx : ok5 x) : fv (sqS x) = fv x * fv x := by
  rw [fv_of (sq_val hx).1, toF_mul]; rfl
theorem fv_times {x : L5} (hx : ok5 x) {n : Nat} (hn : n ≤ 4294967295) : fv (timesS x n) = fv x * toF n := by
  rw [fv_of (times_val hx hn).1, toF_mul]; rfl
theorem fv_small {n : Nat} (hn : n < 18446744073709551616) : fv (smallS n) = toF n := by
  unfold fv; rw [(small_val hn).1]
theorem fv_sub {x y : L5} (hx : ok5 x) (hy : ok5 y) : fv (subS x y) = fv x - fv y := by
  have h : toF (val5 (subS x y) + val5 y) = toF (val5 x) := toF_eq.2 (sub_val hx hy).1
  rw [toF_add] at h
  have h2 : fv (subS x y) + fv y = fv x := h
  grind
theorem fv_neg {x : L5} (hx : ok5 x) : fv (negS x) = - fv x := by
  have h : toF (val5 (negS x) + val5 x) = toF 0 := toF_eq.2 (neg_val hx).1
  rw [toF_add, toF_zero] at h
  have h2 : fv (negS x) + fv x = 0 := h
  grind
theorem fv_zero : fv zero5 = 0 := rfl
theorem equalS_fv {x y : L5} (hx : ok5 x) (hy : ok5 y) : equalS x y = decide (fv x = fv y) := by
  rw [equalS_eq hx.wf hy.wf]
  by_cases h : fv x = fv y
  · rw [decide_eq_true h, decide_eq_true (toF_eq.1 h)]
  · rw [decide_eq_false h, decide_eq_false fun e => h (toF_eq.2 e)]
theorem isZeroS_fv {x : L5} (hx : ok5 x) : isZeroS x = decide (fv x = 0) := by
  rw [isZeroS_eq hx.wf, ← toF_zero]
  by_cases h : fv x = toF 0
  · rw [decide_eq_true h, decide_eq_true (show val5 x % PP = 0 from toF_eq.1 h)]
  · rw [decide_eq_false h, decide_eq_false (show ¬ val5 x % PP = 0 from fun e => h (toF_eq.2 e))]
theorem bytesS_fv {x y : L5} (hx : ok5 x) (hy : ok5 y) (h : fv x = fv y) : bytesS x = bytesS y :=
  leVal_inj (bytesS_wf x) (bytesS_wf y) (by rw [bytesS_val hx.wf, bytesS_val hy.wf]; exact toF_eq.1 h)

/-- the law's own question: alike by their forms and by Equal -/
def sameS (x y : L5) : Bool := bif keyEq (bytesS x) (bytesS y) then equalS x y else false
theorem sameS_fv {x y : L5} (hx : ok5 x) (hy : ok5 y) : sameS x y = decide (fv x = fv y) := by
  unfold sameS
  have e : keyEq (bytesS x) (bytesS y) = equalS x y := rfl
  rw [e, equalS_fv hx hy]
  cases decide (fv x = fv y) <;> rfl

/-! ### the least form of 32 bytes, as the laws have it -/

def subOf (b : Nat) : Nat := (b + (256 - 237)) % 256
def lowOf (k : K32) : K32 := { k with b31 := k.b31 % 128 }
def lessOf (k : K32) : K32 := { zeroK with b0 := subOf k.b0 }
/-- all bytes but the lowest are P's -/
def highs (k : K32) : List Bool := decide (k.b31 % 128 = 127) :: ((k.toList.drop 1).take 30).map fun b => decide (b = 255)
def bigT {α : Type} (t e : α) (b0 : Nat) : List Bool → α
  | [] => e
  | [c] => bif !c then t else bif decide (b0 < 237) then t else e
  | c :: l => bif c then bigT t e b0 l else t
def belowS (k : K32) : K32 := bigT (lowOf k) (lessOf k) k.b0 (highs k)
theorem bigT_map {α β : Type} (f : α → β) (t e : α) (b0 : Nat) : ∀ l : List Bool, bigT (f t) (f e) b0 l = f (bigT t e b0 l)
  | [] => rfl
  | [c] => by cases c <;> cases h : decide (b0 < 237) <;> simp [bigT, h]
  | c :: d :: l => by
    have := bigT_map f t e b0 (d :: l)
    unfold bigT
    cases c
    · rfl
    · exact this
theorem bigT_all {α : Type} (t e : α) (b0 : Nat) : ∀ l : List Bool, l ≠ [] → bigT t e b0 l = if l.all id = true ∧ 237 ≤ b0 then e else t
  | [], h => absurd rfl h
  | [c], _ => by
    by_cases hb : b0 < 237
    · have : ¬ 237 ≤ b0 := by omega
      cases c <;> simp [bigT, hb, this]
    · have : 237 ≤ b0 := by omega
      cases c <;> simp [bigT, hb, this]
  | c :: d :: l, _ => by
    have := bigT_all t e b0 (d :: l) (by simp)
    cases c
    · simp [bigT]
    · have e1 : bigT t e b0 (true :: d :: l) = bigT t e b0 (d :: l) := by simp [bigT]
      rw [e1, this]
      simp
theorem leL_max : ∀ (l : List Nat), (∀ b ∈ l, b < 256) → leL l + 1 ≤ 256 ^ l.length ∧ (leL l + 1 = 256 ^ l.length → ∀ b ∈ l, b = 255)
  | [], _ => ⟨by simp [leL], by simp⟩
  | a :: l, h => by
    have ha := h a (by simp)
    obtain ⟨h1, h2⟩ := leL_max l fun b hb => h b (by simp [hb])
    simp only [leL, List.length_cons, Nat.pow_succ]
    refine ⟨by omega, fun e => ?_⟩
    have e1 : a = 255 := by omega
    have e2 := h2 (by omega)
    intro b hb
    cases hb with
    | head => exact e1
    | tail _ hb => exact e2 b hb

theorem leL_full : ∀ (l : List Nat), (∀ b ∈ l, b = 255) → leL l + 1 = 256 ^ l.length
  | [], _ => rfl
  | a :: l, h => by
    have e := leL_full l fun b hb => h b (by simp [hb])
    have := h a (by simp)
    simp only [leL, List.length_cons, Nat.pow_succ]
    omega
theorem lowOf_wf {k : K32} (h : k.wf) : (lowOf k).wf := by
  intro b hb
  have hk := h.all
  simp only [K32.toList, lowOf, List.mem_cons, List.not_mem_nil, or_false] at hb
  obtain ⟨h0, h1, h2, h3, h4, h5, h6, h7, h8, h9, h10, h11, h12, h13, h14, h15, h16, h17, h18, h19, h20, h21, h22, h23, h24, h25, h26, h27, h28, h29, h30, h31⟩ := hk
  rcases hb with rfl | rfl | rfl | rfl | rfl | rfl | rfl | rfl | rfl | rfl | rfl | rfl | rfl | rfl | rfl | rfl | rfl | rfl | rfl | rfl | rfl | rfl | rfl | rfl | rfl | rfl | rfl | rfl | rfl | rfl | rfl | rfl <;> first | assumption | omega
theorem lessOf_wf (k : K32) : (lessOf k).wf := by
  intro b hb
  simp [K32.toList, lessOf, zeroK, subOf] at hb
  omega
set_option maxRecDepth 100000 in
theorem low_val (k : K32) (h : k.wf) : leVal (lowOf k) = leVal k % B255 := by
  rw [leVal_sum, leVal_sum]
  unfold leSum lowOf B255
  dsimp only
  obtain ⟨h0, h1, h2, h3, h4, h5, h6, h7, h8, h9, h10, h11, h12, h13, h14, h15, h16, h17, h18, h19, h20, h21, h22, h23, h24, h25, h26, h27, h28, h29, h30, h31⟩ := h.all
  omega
def midOf (k : K32) : List Nat := (k.toList.drop 1).take 30
set_option maxRecDepth 100000 in
theorem low_split (k : K32) : leVal (lowOf k) = k.b0 + 256 * (leL (midOf k) + 1766847064778384329583297500742918515827483896875618958121606201292619776 * (k.b31 % 128)) := by
  show leL (lowOf k).toList = k.b0 + 256 * (leL [k.b1, k.b2, k.b3, k.b4, k.b5, k.b6, k.b7, k.b8, k.b9, k.b10, k.b11, k.b12, k.b13, k.b14, k.b15, k.b16, k.b17, k.b18, k.b19, k.b20, k.b21, k.b22, k.b23, k.b24, k.b25, k.b26, k.b27, k.b28, k.b29, k.b30] + 1766847064778384329583297500742918515827483896875618958121606201292619776 * (k.b31 % 128))
  simp only [leL, K32.toList, lowOf]
  generalize k.b31 % 128 = z
  omega
theorem less_val (k : K32) (h : 237 ≤ k.b0) (h' : k.b0 < 256) : leVal (lessOf k) = k.b0 - 237 := by
  rw [leVal_sum]; unfold leSum lessOf zeroK subOf; dsimp only; omega
theorem highs_all (k : K32) : (highs k).all id = true ↔ k.b31 % 128 = 127 ∧ ∀ b ∈ midOf k, b = 255 := by
  unfold highs midOf
  simp only [List.all_cons, id_eq, Bool.and_eq_true, decide_eq_true_eq, List.all_map, List.all_eq_true, Function.comp_apply]
set_option maxRecDepth 100000 in
theorem below_val32 {k : K32} (h : k.wf) : (belowS k).wf ∧ leVal (belowS k) = leVal k % B255 % PP := by
  have hne : highs k ≠ [] := by unfold highs; simp
  unfold belowS
  rw [bigT_all _ _ _ _ hne, ← low_val k h, low_split]
  have h0 : k.b0 < 256 := h k.b0 (by simp [K32.toList])
  have m3 : k.b31 % 128 < 128 := Nat.mod_lt _ (by decide)
  have hmid : ∀ b ∈ midOf k, b < 256 := fun b hb => h b (List.mem_of_mem_drop (List.mem_of_mem_take hb))
  have hlen : (midOf k).length = 30 := rfl
  split
  · rename_i hc
    obtain ⟨hc, hb0⟩ := hc
    obtain ⟨g1, g2⟩ := (highs_all k).1 hc
    have g3 := leL_full _ g2
    rw [hlen] at g3
    refine ⟨lessOf_wf k, ?_⟩
    rw [less_val k hb0 h0, g1]
    have g4 : leL (midOf k) + 1 = 1766847064778384329583297500742918515827483896875618958121606201292619776 := g3
    clear g3 hc g2 g1 hmid hne
    generalize leL (midOf k) = q at *
    unfold PP
    omega
  · rename_i hc
    refine ⟨lowOf_wf h, ?_⟩
    rw [low_split]
    refine (Nat.mod_eq_of_lt ?_).symm
    obtain ⟨m1, m2⟩ := leL_max _ hmid
    rw [hlen] at m1 m2
    have m4 : leL (midOf k) + 1 ≤ 1766847064778384329583297500742918515827483896875618958121606201292619776 := m1
    have hd : leL (midOf k) + 1 < 1766847064778384329583297500742918515827483896875618958121606201292619776 ∨ k.b31 % 128 < 127 ∨ k.b0 < 237 := by
      rcases Nat.lt_or_ge (leL (midOf k) + 1) 1766847064778384329583297500742918515827483896875618958121606201292619776 with hx | hx
      · exact .inl hx
      · have hm := m2 (Nat.le_antisymm m1 hx)
        refine .inr ?_
        rcases Nat.lt_or_ge (k.b31 % 128) 127 with hy | hy
        · exact .inl hy
        · exact .inr (Nat.lt_of_not_le fun hz => hc ⟨(highs_all k).2 ⟨by omega, hm⟩, hz⟩)
    clear hc hne m1 m2 hmid hlen
    generalize k.b31 % 128 = z at *
    generalize leL (midOf k) = q at *
    unfold PP
    omega
theorem from_fv {k : K32} (h : k.wf) : fv (fromS k) = toF (leVal k % B255) := by
  obtain ⟨⟨q, hq⟩, ho⟩ := from_val h
  exact fv_of (cg_of hq)
/-- From gives a number its one form -/
theorem from_bytes {k : K32} (h : k.wf) : keyEq (bytesS (fromS k)) (belowS k) = true := by
  obtain ⟨⟨q, hq⟩, ho⟩ := from_val h
  rw [key_eq_iff (bytesS_wf _) (below_val32 h).1, bytesS_val ho.wf, (below_val32 h).2]
  exact decide_eq_true (cg_of hq)

end Pw

namespace Pw
open Go

/-! ### how the laws' texts chain their questions -/

def orF : List Bool → Option AV → Option AV → Option AV
  | [], _, e => e
  | [c], t, e => bif c then t else e
  | c :: l, t, e => bif c then t else orF l t e
def andR : List Bool → Option AV
  | [] => some (.bool true)
  | [c] => some (.bool c)
  | c :: l => bif c then andR l else some (.bool false)
def allB : List Bool → Bool
  | [] => true
  | [c] => c
  | c :: l => bif c then allB l else false
def anyB : List Bool → Bool
  | [] => false
  | c :: l => bif c then true else anyB l
theorem andR_eq : ∀ l : List Bool, andR l = some (.bool (allB l))
  | [] => rfl
  | [c] => rfl
  | c :: d :: l => by
    have := andR_eq (d :: l)
    cases c
    · rfl
    · exact this
theorem orF_eq (a b : Bool) : ∀ l : List Bool, orF l (some (.bool a)) (some (.bool b)) = some (.bool (bif anyB l then a else b))
  | [] => rfl
  | [c] => by cases c <;> rfl
  | c :: d :: l => by
    have := orF_eq a b (d :: l)
    cases c
    · exact this
    · rfl
theorem orF_none {t e : Option AV} : ∀ {l : List Bool}, (∀ c ∈ l, c = false) → orF l t e = e
  | [], _ => rfl
  | [c], h => by rw [h c (by simp)]; rfl
  | c :: d :: l, h => by
    rw [h c (by simp)]
    exact orF_none (l := d :: l) fun x hx => h x (by simp only [List.mem_cons] at hx ⊢; exact .inr hx)
theorem allB_true : ∀ {l : List Bool}, (∀ c ∈ l, c = true) → allB l = true
  | [], _ => rfl
  | [c], h => h c (by simp)
  | c :: d :: l, h => by
    rw [h c (by simp)]
    exact allB_true (l := d :: l) fun x hx => h x (by simp only [List.mem_cons] at hx ⊢; exact .inr hx)
theorem andR_true {l : List Bool} (h : ∀ c ∈ l, c = true) : andR l = some (.bool true) := by rw [andR_eq, allB_true h]
theorem anyB_false : ∀ {l : List Bool}, (∀ c ∈ l, c = false) → anyB l = false
  | [], _ => rfl
  | c :: l, h => by
    rw [h c (by simp)] at *
    exact anyB_false (l := l) fun x hx => h x (by simp [hx])
theorem bif_b (c x y : Bool) : (bif c then some (AV.bool x) else some (AV.bool y)) = some (AV.bool (bif c then x else y)) := by cases c <;> rfl

/-! ### the field's laws, in plain -/

def oneK : K32 := { zeroK with b0 := 1 }
def livesL (p : K32) : List Bool := [keyEq (bytesS (fromS p)) (belowS p), keyEq (bytesS (smallS 1)) oneK, !(isZeroS (smallS 1)), !(equalS (smallS 1) zero5)]
def livesS (p : K32) : Bool := allB (livesL p)
theorem lives_true {p : K32} (h : p.wf) : livesS p = true := by
  unfold livesS livesL
  rw [from_bytes h, show keyEq (bytesS (smallS 1)) oneK = true by decide +kernel, show isZeroS (smallS 1) = false by decide +kernel, show equalS (smallS 1) zero5 = false by decide +kernel]
  rfl
def askedN (x y : L5) (v w : L4) : List Bool := [!(equalS x y == equalR v w), !(isZeroS x == isZeroR v), !(oddS x == oddR v)]
def askedL (x y : L5) (v w : L4) : List Bool := [keyEq (bytesS x) (bytesR4 v), keyEq (bytesS y) (bytesR4 w)]
def askedS (x y : L5) (v w : L4) : Bool := bif anyB (askedN x y v w) then false else allB (askedL x y v w)
theorem keyEq_self (x : K32) : keyEq x x = true := by rw [keyEq_iff]; exact decide_eq_true rfl
theorem Sim.key {x : L5} {y : L4} (h : Sim x y) : keyEq (bytesS x) (bytesR4 y) = true := by rw [h.bytes]; exact keyEq_self _
theorem asked_true {x y : L5} {v w : L4} (h : Sim x v) (h' : Sim y w) : askedS x y v w = true := by
  unfold askedS askedN askedL
  rw [h.equal h', h.isZero, h.odd, h.key, h'.key]
  simp [anyB, allB]
theorem same_true {x y : L5} (hx : ok5 x) (hy : ok5 y) (h : fv x = fv y) : sameS x y = true := by
  rw [sameS_fv hx hy]; exact decide_eq_true h
theorem from_ok {k : K32} (h : k.wf) : ok5 (fromS k) := (Sim.from h).ok
theorem add_ok {x y : L5} (hx : ok5 x) (hy : ok5 y) : ok5 (addS x y) := (add_val hx hy).2
theorem sub_ok {x y : L5} (hx : ok5 x) (hy : ok5 y) : ok5 (subS x y) := (sub_val hx hy).2
theorem mul_ok {x y : L5} (hx : ok5 x) (hy : ok5 y) : ok5 (mulS x y) := (mul_val hx hy).2
theorem sq_ok {x : L5} (hx : ok5 x) : ok5 (sqS x) := (sq_val hx).2
theorem neg_ok {x : L5} (hx : ok5 x) : ok5 (negS x) := (neg_val hx).2
theorem small_ok {n : Nat} (hn : n < 18446744073709551616) : ok5 (smallS n) := (small_val hn).2
theorem times_ok {x : L5} (hx : ok5 x) {n : Nat} (hn : n ≤ 4294967295) : ok5 (timesS x n) := (times_val hx hn).2
theorem leVal_bytes {x : L5} (h : ok5 x) : leVal (bytesS x) = val5 x % PP := bytesS_val h.wf
theorem bytes_lt {x : L5} (h : ok5 x) : leVal (bytesS x) % B255 = val5 x % PP := by
  rw [leVal_bytes h]
  exact Nat.mod_eq_of_lt (Nat.lt_trans (Nat.mod_lt _ PP_pos) (by decide))
theorem from_bytes_fv {x : L5} (h : ok5 x) : fv (fromS (bytesS x)) = fv x := by
  rw [from_fv (bytesS_wf x), bytes_lt h]
  exact toF_eq.2 (Nat.mod_mod _ _)
end Pw
