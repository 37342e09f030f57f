/- A part of the proof: PwVb. -/
import Derived.Test.YtccmlapcijjmpaaPwVal
namespace Pw
open Go

/-! ### From and Bytes, by value -/

def leL : List Nat → Nat
  | [] => 0
  | b :: l => b + 256 * leL l
def leVal (k : K32) : Nat := leL k.toList

theorem leL_inj : ∀ {l m : List Nat}, l.length = m.length → (∀ b ∈ l, b < 256) → (∀ b ∈ m, b < 256) → leL l = leL m → l = m
  | [], [], _, _, _, _ => rfl
  | a :: l, b :: m, hl, h1, h2, h => by
    simp only [leL] at h
    have := h1 a (by simp)
    have := h2 b (by simp)
    have e1 : a = b := by omega
    have e2 : leL l = leL m := by omega
    rw [e1, leL_inj (by simpa using hl) (fun x hx => h1 x (by simp [hx])) (fun x hx => h2 x (by simp [hx])) e2]
  | [], _ :: _, hl, _, _, _ => by simp at hl
  | _ :: _, [], hl, _, _, _ => by simp at hl

theorem K32.ext_list {x y : K32} (h : x.toList = y.toList) : x = y := by
  have := congrArg K32.of? h
  have e : ∀ z : K32, K32.of? z.toList = some z := fun z => rfl
  rw [e, e] at this
  exact Option.some.inj this
theorem leVal_inj {x y : K32} (hx : x.wf) (hy : y.wf) (h : leVal x = leVal y) : x = y :=
  K32.ext_list (leL_inj rfl hx hy h)

theorem fromStep {acc b s : Nat} (hs : s ≤ 50) (hb : b < 256) (ha : acc < 2 ^ s) : acc ||| (shl64 b s &&& M51) = acc + b % 2 ^ (51 - s) * 2 ^ s := by
  have e1 : b * 2 ^ s % 2 ^ 64 = b * 2 ^ s := by
    refine Nat.mod_eq_of_lt ?_
    have h1 : b * 2 ^ s ≤ 255 * 2 ^ 50 := Nat.mul_le_mul (by omega) (Nat.pow_le_pow_right (by decide) hs)
    exact Nat.lt_of_le_of_lt h1 (by decide)
  have e2 : b * 2 ^ s % 2 ^ 51 = b % 2 ^ (51 - s) * 2 ^ s := by
    have h51 : (2 : Nat) ^ 51 = 2 ^ (51 - s) * 2 ^ s := by rw [← Nat.pow_add]; congr 1; omega
    rw [h51, Nat.mul_mod_mul_right]
  rw [and51]
  show acc ||| b * 2 ^ s % 2 ^ 64 % 2 ^ 51 = _
  rw [e1, e2, or_low' s ha, Nat.add_comm]

theorem K32.wf.all {k : K32} (h : k.wf) : k.b0 < 256 ∧ k.b1 < 256 ∧ k.b2 < 256 ∧ k.b3 < 256 ∧ k.b4 < 256 ∧ k.b5 < 256 ∧ k.b6 < 256 ∧ k.b7 < 256 ∧ k.b8 < 256 ∧ k.b9 < 256 ∧ k.b10 < 256 ∧ k.b11 < 256 ∧ k.b12 < 256 ∧ k.b13 < 256 ∧ k.b14 < 256 ∧ k.b15 < 256 ∧ k.b16 < 256 ∧ k.b17 < 256 ∧ k.b18 < 256 ∧ k.b19 < 256 ∧ k.b20 < 256 ∧ k.b21 < 256 ∧ k.b22 < 256 ∧ k.b23 < 256 ∧ k.b24 < 256 ∧ k.b25 < 256 ∧ k.b26 < 256 ∧ k.b27 < 256 ∧ k.b28 < 256 ∧ k.b29 < 256 ∧ k.b30 < 256 ∧ k.b31 < 256 := by
  unfold K32.wf at h
  refine ⟨h _ (by simp [K32.toList]), h _ (by simp [K32.toList]), h _ (by simp [K32.toList]), h _ (by simp [K32.toList]), h _ (by simp [K32.toList]), h _ (by simp [K32.toList]), h _ (by simp [K32.toList]), h _ (by simp [K32.toList]), h _ (by simp [K32.toList]), h _ (by simp [K32.toList]), h _ (by simp [K32.toList]), h _ (by simp [K32.toList]), h _ (by simp [K32.toList]), h _ (by simp [K32.toList]), h _ (by simp [K32.toList]), h _ (by simp [K32.toList]), h _ (by simp [K32.toList]), h _ (by simp [K32.toList]), h _ (by simp [K32.toList]), h _ (by simp [K32.toList]), h _ (by simp [K32.toList]), h _ (by simp [K32.toList]), h _ (by simp [K32.toList]), h _ (by simp [K32.toList]), h _ (by simp [K32.toList]), h _ (by simp [K32.toList]), h _ (by simp [K32.toList]), h _ (by simp [K32.toList]), h _ (by simp [K32.toList]), h _ (by simp [K32.toList]), h _ (by simp [K32.toList]), h _ (by simp [K32.toList])⟩
theorem from_a_val {k : K32} (hk : k.wf) : from_a k = k.b0 * 1 + k.b1 * 256 + k.b2 * 65536 + k.b3 * 16777216 + k.b4 * 4294967296 + k.b5 * 1099511627776 + k.b6 % 8 * 281474976710656 := by
  obtain ⟨h0, h1, h2, h3, h4, h5, h6, h7, h8, h9, h10, h11, h12, h13, h14, h15, h16, h17, h18, h19, h20, h21, h22, h23, h24, h25, h26, h27, h28, h29, h30, h31⟩ := hk.all
  have e31 : k.b31 &&& 127 = k.b31 % 128 := Nat.and_two_pow_sub_one_eq_mod k.b31 7
  unfold from_a
  rw [fromStep (acc := 0) (b := k.b0) (s := 0) (by decide) (by omega) (by omega), fromStep (acc := 0 + k.b0 % 2 ^ (51 - 0) * 2 ^ 0) (b := k.b1) (s := 8) (by decide) (by omega) (by omega), fromStep (acc := 0 + k.b0 % 2 ^ (51 - 0) * 2 ^ 0 + k.b1 % 2 ^ (51 - 8) * 2 ^ 8) (b := k.b2) (s := 16) (by decide) (by omega) (by omega), fromStep (acc := 0 + k.b0 % 2 ^ (51 - 0) * 2 ^ 0 + k.b1 % 2 ^ (51 - 8) * 2 ^ 8 + k.b2 % 2 ^ (51 - 16) * 2 ^ 16) (b := k.b3) (s := 24) (by decide) (by omega) (by omega), fromStep (acc := 0 + k.b0 % 2 ^ (51 - 0) * 2 ^ 0 + k.b1 % 2 ^ (51 - 8) * 2 ^ 8 + k.b2 % 2 ^ (51 - 16) * 2 ^ 16 + k.b3 % 2 ^ (51 - 24) * 2 ^ 24) (b := k.b4) (s := 32) (by decide) (by omega) (by omega), fromStep (acc := 0 + k.b0 % 2 ^ (51 - 0) * 2 ^ 0 + k.b1 % 2 ^ (51 - 8) * 2 ^ 8 + k.b2 % 2 ^ (51 - 16) * 2 ^ 16 + k.b3 % 2 ^ (51 - 24) * 2 ^ 24 + k.b4 % 2 ^ (51 - 32) * 2 ^ 32) (b := k.b5) (s := 40) (by decide) (by omega) (by omega), fromStep (acc := 0 + k.b0 % 2 ^ (51 - 0) * 2 ^ 0 + k.b1 % 2 ^ (51 - 8) * 2 ^ 8 + k.b2 % 2 ^ (51 - 16) * 2 ^ 16 + k.b3 % 2 ^ (51 - 24) * 2 ^ 24 + k.b4 % 2 ^ (51 - 32) * 2 ^ 32 + k.b5 % 2 ^ (51 - 40) * 2 ^ 40) (b := k.b6) (s := 48) (by decide) (by omega) (by omega)]
  omega
theorem from_b_val {k : K32} (hk : k.wf) : from_b k = k.b6 / 8 + k.b7 * 32 + k.b8 * 8192 + k.b9 * 2097152 + k.b10 * 536870912 + k.b11 * 137438953472 + k.b12 % 64 * 35184372088832 := by
  obtain ⟨h0, h1, h2, h3, h4, h5, h6, h7, h8, h9, h10, h11, h12, h13, h14, h15, h16, h17, h18, h19, h20, h21, h22, h23, h24, h25, h26, h27, h28, h29, h30, h31⟩ := hk.all
  have e31 : k.b31 &&& 127 = k.b31 % 128 := Nat.and_two_pow_sub_one_eq_mod k.b31 7
  unfold from_b
  rw [Nat.zero_or, fromStep (acc := k.b6 / 2 ^ 3) (b := k.b7) (s := 5) (by decide) (by omega) (by omega), fromStep (acc := k.b6 / 2 ^ 3 + k.b7 % 2 ^ (51 - 5) * 2 ^ 5) (b := k.b8) (s := 13) (by decide) (by omega) (by omega), fromStep (acc := k.b6 / 2 ^ 3 + k.b7 % 2 ^ (51 - 5) * 2 ^ 5 + k.b8 % 2 ^ (51 - 13) * 2 ^ 13) (b := k.b9) (s := 21) (by decide) (by omega) (by omega), fromStep (acc := k.b6 / 2 ^ 3 + k.b7 % 2 ^ (51 - 5) * 2 ^ 5 + k.b8 % 2 ^ (51 - 13) * 2 ^ 13 + k.b9 % 2 ^ (51 - 21) * 2 ^ 21) (b := k.b10) (s := 29) (by decide) (by omega) (by omega), fromStep (acc := k.b6 / 2 ^ 3 + k.b7 % 2 ^ (51 - 5) * 2 ^ 5 + k.b8 % 2 ^ (51 - 13) * 2 ^ 13 + k.b9 % 2 ^ (51 - 21) * 2 ^ 21 + k.b10 % 2 ^ (51 - 29) * 2 ^ 29) (b := k.b11) (s := 37) (by decide) (by omega) (by omega), fromStep (acc := k.b6 / 2 ^ 3 + k.b7 % 2 ^ (51 - 5) * 2 ^ 5 + k.b8 % 2 ^ (51 - 13) * 2 ^ 13 + k.b9 % 2 ^ (51 - 21) * 2 ^ 21 + k.b10 % 2 ^ (51 - 29) * 2 ^ 29 + k.b11 % 2 ^ (51 - 37) * 2 ^ 37) (b := k.b12) (s := 45) (by decide) (by omega) (by omega)]
  omega
theorem from_c_val {k : K32} (hk : k.wf) : from_c k = k.b12 / 64 + k.b13 * 4 + k.b14 * 1024 + k.b15 * 262144 + k.b16 * 67108864 + k.b17 * 17179869184 + k.b18 * 4398046511104 + k.b19 % 2 * 1125899906842624 := by
  obtain ⟨h0, h1, h2, h3, h4, h5, h6, h7, h8, h9, h10, h11, h12, h13, h14, h15, h16, h17, h18, h19, h20, h21, h22, h23, h24, h25, h26, h27, h28, h29, h30, h31⟩ := hk.all
  have e31 : k.b31 &&& 127 = k.b31 % 128 := Nat.and_two_pow_sub_one_eq_mod k.b31 7
  unfold from_c
  rw [Nat.zero_or, fromStep (acc := k.b12 / 2 ^ 6) (b := k.b13) (s := 2) (by decide) (by omega) (by omega), fromStep (acc := k.b12 / 2 ^ 6 + k.b13 % 2 ^ (51 - 2) * 2 ^ 2) (b := k.b14) (s := 10) (by decide) (by omega) (by omega), fromStep (acc := k.b12 / 2 ^ 6 + k.b13 % 2 ^ (51 - 2) * 2 ^ 2 + k.b14 % 2 ^ (51 - 10) * 2 ^ 10) (b := k.b15) (s := 18) (by decide) (by omega) (by omega), fromStep (acc := k.b12 / 2 ^ 6 + k.b13 % 2 ^ (51 - 2) * 2 ^ 2 + k.b14 % 2 ^ (51 - 10) * 2 ^ 10 + k.b15 % 2 ^ (51 - 18) * 2 ^ 18) (b := k.b16) (s := 26) (by decide) (by omega) (by omega), fromStep (acc := k.b12 / 2 ^ 6 + k.b13 % 2 ^ (51 - 2) * 2 ^ 2 + k.b14 % 2 ^ (51 - 10) * 2 ^ 10 + k.b15 % 2 ^ (51 - 18) * 2 ^ 18 + k.b16 % 2 ^ (51 - 26) * 2 ^ 26) (b := k.b17) (s := 34) (by decide) (by omega) (by omega), fromStep (acc := k.b12 / 2 ^ 6 + k.b13 % 2 ^ (51 - 2) * 2 ^ 2 + k.b14 % 2 ^ (51 - 10) * 2 ^ 10 + k.b15 % 2 ^ (51 - 18) * 2 ^ 18 + k.b16 % 2 ^ (51 - 26) * 2 ^ 26 + k.b17 % 2 ^ (51 - 34) * 2 ^ 34) (b := k.b18) (s := 42) (by decide) (by omega) (by omega), fromStep (acc := k.b12 / 2 ^ 6 + k.b13 % 2 ^ (51 - 2) * 2 ^ 2 + k.b14 % 2 ^ (51 - 10) * 2 ^ 10 + k.b15 % 2 ^ (51 - 18) * 2 ^ 18 + k.b16 % 2 ^ (51 - 26) * 2 ^ 26 + k.b17 % 2 ^ (51 - 34) * 2 ^ 34 + k.b18 % 2 ^ (51 - 42) * 2 ^ 42) (b := k.b19) (s := 50) (by decide) (by omega) (by omega)]
  omega
theorem from_d_val {k : K32} (hk : k.wf) : from_d k = k.b19 / 2 + k.b20 * 128 + k.b21 * 32768 + k.b22 * 8388608 + k.b23 * 2147483648 + k.b24 * 549755813888 + k.b25 % 16 * 140737488355328 := by
  obtain ⟨h0, h1, h2, h3, h4, h5, h6, h7, h8, h9, h10, h11, h12, h13, h14, h15, h16, h17, h18, h19, h20, h21, h22, h23, h24, h25, h26, h27, h28, h29, h30, h31⟩ := hk.all
  have e31 : k.b31 &&& 127 = k.b31 % 128 := Nat.and_two_pow_sub_one_eq_mod k.b31 7
  unfold from_d
  rw [Nat.zero_or, fromStep (acc := k.b19 / 2 ^ 1) (b := k.b20) (s := 7) (by decide) (by omega) (by omega), fromStep (acc := k.b19 / 2 ^ 1 + k.b20 % 2 ^ (51 - 7) * 2 ^ 7) (b := k.b21) (s := 15) (by decide) (by omega) (by omega), fromStep (acc := k.b19 / 2 ^ 1 + k.b20 % 2 ^ (51 - 7) * 2 ^ 7 + k.b21 % 2 ^ (51 - 15) * 2 ^ 15) (b := k.b22) (s := 23) (by decide) (by omega) (by omega), fromStep (acc := k.b19 / 2 ^ 1 + k.b20 % 2 ^ (51 - 7) * 2 ^ 7 + k.b21 % 2 ^ (51 - 15) * 2 ^ 15 + k.b22 % 2 ^ (51 - 23) * 2 ^ 23) (b := k.b23) (s := 31) (by decide) (by omega) (by omega), fromStep (acc := k.b19 / 2 ^ 1 + k.b20 % 2 ^ (51 - 7) * 2 ^ 7 + k.b21 % 2 ^ (51 - 15) * 2 ^ 15 + k.b22 % 2 ^ (51 - 23) * 2 ^ 23 + k.b23 % 2 ^ (51 - 31) * 2 ^ 31) (b := k.b24) (s := 39) (by decide) (by omega) (by omega), fromStep (acc := k.b19 / 2 ^ 1 + k.b20 % 2 ^ (51 - 7) * 2 ^ 7 + k.b21 % 2 ^ (51 - 15) * 2 ^ 15 + k.b22 % 2 ^ (51 - 23) * 2 ^ 23 + k.b23 % 2 ^ (51 - 31) * 2 ^ 31 + k.b24 % 2 ^ (51 - 39) * 2 ^ 39) (b := k.b25) (s := 47) (by decide) (by omega) (by omega)]
  omega
theorem from_e_val {k : K32} (hk : k.wf) : from_e k = k.b25 / 16 + k.b26 * 16 + k.b27 * 4096 + k.b28 * 1048576 + k.b29 * 268435456 + k.b30 * 68719476736 + k.b31 % 128 * 17592186044416 := by
  obtain ⟨h0, h1, h2, h3, h4, h5, h6, h7, h8, h9, h10, h11, h12, h13, h14, h15, h16, h17, h18, h19, h20, h21, h22, h23, h24, h25, h26, h27, h28, h29, h30, h31⟩ := hk.all
  have e31 : k.b31 &&& 127 = k.b31 % 128 := Nat.and_two_pow_sub_one_eq_mod k.b31 7
  unfold from_e
  rw [e31]
  rw [Nat.zero_or, fromStep (acc := k.b25 / 2 ^ 4) (b := k.b26) (s := 4) (by decide) (by omega) (by omega), fromStep (acc := k.b25 / 2 ^ 4 + k.b26 % 2 ^ (51 - 4) * 2 ^ 4) (b := k.b27) (s := 12) (by decide) (by omega) (by omega), fromStep (acc := k.b25 / 2 ^ 4 + k.b26 % 2 ^ (51 - 4) * 2 ^ 4 + k.b27 % 2 ^ (51 - 12) * 2 ^ 12) (b := k.b28) (s := 20) (by decide) (by omega) (by omega), fromStep (acc := k.b25 / 2 ^ 4 + k.b26 % 2 ^ (51 - 4) * 2 ^ 4 + k.b27 % 2 ^ (51 - 12) * 2 ^ 12 + k.b28 % 2 ^ (51 - 20) * 2 ^ 20) (b := k.b29) (s := 28) (by decide) (by omega) (by omega), fromStep (acc := k.b25 / 2 ^ 4 + k.b26 % 2 ^ (51 - 4) * 2 ^ 4 + k.b27 % 2 ^ (51 - 12) * 2 ^ 12 + k.b28 % 2 ^ (51 - 20) * 2 ^ 20 + k.b29 % 2 ^ (51 - 28) * 2 ^ 28) (b := k.b30) (s := 36) (by decide) (by omega) (by omega), fromStep (acc := k.b25 / 2 ^ 4 + k.b26 % 2 ^ (51 - 4) * 2 ^ 4 + k.b27 % 2 ^ (51 - 12) * 2 ^ 12 + k.b28 % 2 ^ (51 - 20) * 2 ^ 20 + k.b29 % 2 ^ (51 - 28) * 2 ^ 28 + k.b30 % 2 ^ (51 - 36) * 2 ^ 36) (b := (k.b31 % 128)) (s := 44) (by decide) (by omega) (by omega)]
  omega
def leSum (k : K32) : Nat := k.b0 * 1 + k.b1 * 256 + k.b2 * 65536 + k.b3 * 16777216 + k.b4 * 4294967296 + k.b5 * 1099511627776 + k.b6 * 281474976710656 + k.b7 * 72057594037927936 + k.b8 * 18446744073709551616 + k.b9 * 4722366482869645213696 + k.b10 * 1208925819614629174706176 + k.b11 * 309485009821345068724781056 + k.b12 * 79228162514264337593543950336 + k.b13 * 20282409603651670423947251286016 + k.b14 * 5192296858534827628530496329220096 + k.b15 * 1329227995784915872903807060280344576 + k.b16 * 340282366920938463463374607431768211456 + k.b17 * 87112285931760246646623899502532662132736 + k.b18 * 22300745198530623141535718272648361505980416 + k.b19 * 5708990770823839524233143877797980545530986496 + k.b20 * 1461501637330902918203684832716283019655932542976 + k.b21 * 374144419156711147060143317175368453031918731001856 + k.b22 * 95780971304118053647396689196894323976171195136475136 + k.b23 * 24519928653854221733733552434404946937899825954937634816 + k.b24 * 6277101735386680763835789423207666416102355444464034512896 + k.b25 * 1606938044258990275541962092341162602522202993782792835301376 + k.b26 * 411376139330301510538742295639337626245683966408394965837152256 + k.b27 * 105312291668557186697918027683670432318895095400549111254310977536 + k.b28 * 26959946667150639794667015087019630673637144422540572481103610249216 + k.b29 * 6901746346790563787434755862277025452451108972170386555162524223799296 + k.b30 * 1766847064778384329583297500742918515827483896875618958121606201292619776 + k.b31 * 452312848583266388373324160190187140051835877600158453279131187530910662656
theorem leVal_sum (k : K32) : leVal k = leSum k := by
  simp only [leVal, leL, K32.toList, leSum]
  omega
set_option maxRecDepth 100000 in
theorem from_val {k : K32} (hk : k.wf) : (∃ q, leVal k % 57896044618658097711785492504343953926634992332820282019728792003956564819968 = val5 (fromS k) + PP * q) ∧ ok5 (fromS k) := by
  have hv : val5 ⟨from_a k, from_b k, from_c k, from_d k, from_e k⟩ = leVal k % 57896044618658097711785492504343953926634992332820282019728792003956564819968 := by
    rw [leVal_sum]
    simp only [val5, from_a_val hk, from_b_val hk, from_c_val hk, from_d_val hk, from_e_val hk, leSum]
    obtain ⟨h0, h1, h2, h3, h4, h5, h6, h7, h8, h9, h10, h11, h12, h13, h14, h15, h16, h17, h18, h19, h20, h21, h22, h23, h24, h25, h26, h27, h28, h29, h30, h31⟩ := hk.all
    omega
  have hw : L5.wf ⟨from_a k, from_b k, from_c k, from_d k, from_e k⟩ := by
    simp only [L5.wf, from_a_val hk, from_b_val hk, from_c_val hk, from_d_val hk, from_e_val hk]
    obtain ⟨h0, h1, h2, h3, h4, h5, h6, h7, h8, h9, h10, h11, h12, h13, h14, h15, h16, h17, h18, h19, h20, h21, h22, h23, h24, h25, h26, h27, h28, h29, h30, h31⟩ := hk.all
    omega
  rw [← hv]
  exact settled_val hw

def tight (w : L5) : Prop := w.a < 2251799813685248 ∧ w.b < 2251799813685248 ∧ w.c < 2251799813685248 ∧ w.d < 2251799813685248 ∧ w.e < 2251799813685248
set_option maxRecDepth 100000 in
theorem tight.lt {w : L5} (h : tight w) : val5 w < 57896044618658097711785492504343953926634992332820282019728792003956564819968 := by
  unfold tight at h; unfold val5; omega
set_option maxRecDepth 100000 in
theorem chain5 {a b c d e t qa qb qc qd qe : Nat} (ha : (a + t) / 2 ^ 51 = qa) (hb : (b + qa) / 2 ^ 51 = qb) (hc : (c + qb) / 2 ^ 51 = qc) (hd : (d + qc) / 2 ^ 51 = qd) (he : (e + qd) / 2 ^ 51 = qe) :
    val5 ⟨a, b, c, d, e⟩ + t = val5 ⟨(a + t) % 2251799813685248, (b + qa) % 2251799813685248, (c + qb) % 2251799813685248, (d + qc) % 2251799813685248, (e + qd) % 2251799813685248⟩ + 57896044618658097711785492504343953926634992332820282019728792003956564819968 * qe := by
  have e1 := Nat.div_add_mod (a + t) 2251799813685248
  have e2 := Nat.div_add_mod (b + qa) 2251799813685248
  have e3 := Nat.div_add_mod (c + qb) 2251799813685248
  have e4 := Nat.div_add_mod (d + qc) 2251799813685248
  have e5 := Nat.div_add_mod (e + qd) 2251799813685248
  rw [show (a + t) / 2251799813685248 = qa from ha] at e1
  rw [show (b + qa) / 2251799813685248 = qb from hb] at e2
  rw [show (c + qb) / 2251799813685248 = qc from hc] at e3
  rw [show (d + qc) / 2251799813685248 = qd from hd] at e4
  rw [show (e + qd) / 2251799813685248 = qe from he] at e5
  clear ha hb hc hd he
  revert e1 e2 e3 e4 e5
  generalize (a + t) % 2251799813685248 = r1
  generalize (b + qa) % 2251799813685248 = r2
  generalize (c + qb) % 2251799813685248 = r3
  generalize (d + qc) % 2251799813685248 = r4
  generalize (e + qd) % 2251799813685248 = r5
  intro e1 e2 e3 e4 e5
  simp only [val5]
  omega
theorem tight_mod (a b c d e : Nat) : tight ⟨a % 2251799813685248, b % 2251799813685248, c % 2251799813685248, d % 2251799813685248, e % 2251799813685248⟩ :=
  ⟨Nat.mod_lt _ (by decide), Nat.mod_lt _ (by decide), Nat.mod_lt _ (by decide), Nat.mod_lt _ (by decide), Nat.mod_lt _ (by decide)⟩
set_option maxRecDepth 100000 in
theorem least_end {U V c r Q : Nat} (hU : U < 2 * PP) (hV : V < 57896044618658097711785492504343953926634992332820282019728792003956564819968) (e1 : U + 19 * c = V + 57896044618658097711785492504343953926634992332820282019728792003956564819968 * Q)
    (hr : r < 57896044618658097711785492504343953926634992332820282019728792003956564819968) (e2 : U + 19 = r + 57896044618658097711785492504343953926634992332820282019728792003956564819968 * c) : V = U % PP := by
  unfold PP at *
  have hc : c = 0 ∨ c = 1 := by omega
  rcases hc with rfl | rfl
  · have : U < 57896044618658097711785492504343953926634992332820282019728792003956564819949 := by omega
    rw [Nat.mod_eq_of_lt this]; omega
  · have h1 : 57896044618658097711785492504343953926634992332820282019728792003956564819949 ≤ U := by omega
    have hq : Q = 1 := by omega
    subst hq
    rw [Nat.mod_eq_sub_mod h1, Nat.mod_eq_of_lt (by omega)]; omega
set_option maxRecDepth 100000 in
theorem least_val {w : L5} (h : ok5 w) : tight (leastOf w) ∧ val5 (leastOf w) = val5 w % PP := by
  obtain ⟨ha, hb, hc, hd, he⟩ := h
  have hlt : val5 w < 2 * PP := by unfold val5 PP; omega
  obtain ⟨R, hW⟩ : ∃ R, leastOf w = R := ⟨_, rfl⟩
  rw [hW]
  unfold leastOf at hW
  simp only [and51] at hW
  revert hW
  rw [add64_eq (a := w.a) (b := 19) (by omega)]
  generalize hc0 : (w.a + 19) / 2 ^ 51 = c0
  rw [add64_eq (a := w.b) (b := c0) (by omega)]
  generalize hc1 : (w.b + c0) / 2 ^ 51 = c1
  rw [add64_eq (a := w.c) (b := c1) (by omega)]
  generalize hc2 : (w.c + c1) / 2 ^ 51 = c2
  rw [add64_eq (a := w.d) (b := c2) (by omega)]
  generalize hc3 : (w.d + c2) / 2 ^ 51 = c3
  rw [add64_eq (a := w.e) (b := c3) (by omega)]
  generalize hc4 : (w.e + c3) / 2 ^ 51 = c4
  have hc4le : c4 ≤ 2 := by omega
  rw [mul64_eq (a := 19) (b := c4) (by omega), add64_eq (a := w.a) (b := 19 * c4) (by omega)]
  generalize hA : w.a + 19 * c4 = A
  have hAl : A < 4503599627370496 := by omega
  generalize hqa : A / 2 ^ 51 = qa
  rw [add64_eq (a := w.b) (b := qa) (by omega)]
  generalize hB : w.b + qa = B
  have hBl : B < 4503599627370496 := by omega
  generalize hqb : B / 2 ^ 51 = qb
  rw [add64_eq (a := w.c) (b := qb) (by omega)]
  generalize hC : w.c + qb = C
  have hCl : C < 4503599627370496 := by omega
  generalize hqc : C / 2 ^ 51 = qc
  rw [add64_eq (a := w.d) (b := qc) (by omega)]
  generalize hD : w.d + qc = D
  have hDl : D < 4503599627370496 := by omega
  generalize hqd : D / 2 ^ 51 = qd
  rw [add64_eq (a := w.e) (b := qd) (by omega)]
  generalize hE : w.e + qd = E
  intro hR
  have h1 := chain5 (a := w.a) (b := w.b) (c := w.c) (d := w.d) (e := w.e) hc0 hc1 hc2 hc3 hc4
  have h2 := chain5 (a := w.a) (b := w.b) (c := w.c) (d := w.d) (e := w.e) (t := 19 * c4) (qa := qa) (qb := qb) (qc := qc) (qd := qd) (qe := E / 2 ^ 51) (by rw [hA, hqa]) (by rw [hB, hqb]) (by rw [hC, hqc]) (by rw [hD, hqd]) (by rw [hE])
  rw [hA, hB, hC, hD, hE, hR] at h2
  have ht : tight R := by rw [← hR]; exact tight_mod _ _ _ _ _
  exact ⟨ht, least_end hlt ht.lt h2 (tight_mod _ _ _ _ _).lt h1⟩

theorem bytesOf_wf (w : L5) : (bytesOf w).wf := by
  intro b hb
  simp only [K32.toList, bytesOf, List.mem_cons, List.not_mem_nil, or_false] at hb
  have key : ∀ x : Nat, x % 2 ^ 8 < 256 := fun x => Nat.mod_lt _ (by decide)
  rcases hb with rfl | rfl | rfl | rfl | rfl | rfl | rfl | rfl | rfl | rfl | rfl | rfl | rfl | rfl | rfl | rfl | rfl | rfl | rfl | rfl | rfl | rfl | rfl | rfl | rfl | rfl | rfl | rfl | rfl | rfl | rfl | rfl <;> exact key _
theorem orStep {x y k : Nat} (hx : x < 2 ^ k) (hy : y * 2 ^ k < 18446744073709551616) : x ||| shl64 y k = y * 2 ^ k + x := by
  have e : shl64 y k = y * 2 ^ k := Nat.mod_eq_of_lt hy
  rw [e, or_low' k hx]
set_option maxRecDepth 100000 in
theorem bytesOf_val {w : L5} (h : tight w) : leVal (bytesOf w) = val5 w := by
  obtain ⟨ha, hb, hc, hd, he⟩ := h
  rw [leVal_sum]
  unfold leSum bytesOf val5
  dsimp only
  rw [orStep (x := w.a / 2 ^ 48) (y := w.b) (k := 3) (by omega) (by omega)]
  rw [orStep (x := w.b / 2 ^ 45) (y := w.c) (k := 6) (by omega) (by omega)]
  rw [orStep (x := w.c / 2 ^ 50) (y := w.d) (k := 1) (by omega) (by omega)]
  rw [orStep (x := w.d / 2 ^ 47) (y := w.e) (k := 4) (by omega) (by omega)]
  revert ha hb hc hd he
  generalize w.a = a
  generalize w.b = b
  generalize w.c = c
  generalize w.d = d
  generalize w.e = e
  intro ha hb hc hd he
  have fa : a = a / 2 ^ 0 % 2 ^ 8 * 1 + a / 2 ^ 8 % 2 ^ 8 * 256 + a / 2 ^ 16 % 2 ^ 8 * 65536 + a / 2 ^ 24 % 2 ^ 8 * 16777216 + a / 2 ^ 32 % 2 ^ 8 * 4294967296 + a / 2 ^ 40 % 2 ^ 8 * 1099511627776 + a / 2 ^ 48 * 281474976710656 := by omega
  have fb : b = b % 32 + b / 2 ^ 5 % 2 ^ 8 * 32 + b / 2 ^ 13 % 2 ^ 8 * 8192 + b / 2 ^ 21 % 2 ^ 8 * 2097152 + b / 2 ^ 29 % 2 ^ 8 * 536870912 + b / 2 ^ 37 % 2 ^ 8 * 137438953472 + b / 2 ^ 45 * 35184372088832 := by omega
  have fc : c = c % 4 + c / 2 ^ 2 % 2 ^ 8 * 4 + c / 2 ^ 10 % 2 ^ 8 * 1024 + c / 2 ^ 18 % 2 ^ 8 * 262144 + c / 2 ^ 26 % 2 ^ 8 * 67108864 + c / 2 ^ 34 % 2 ^ 8 * 17179869184 + c / 2 ^ 42 % 2 ^ 8 * 4398046511104 + c / 2 ^ 50 * 1125899906842624 := by omega
  have fd : d = d % 128 + d / 2 ^ 7 % 2 ^ 8 * 128 + d / 2 ^ 15 % 2 ^ 8 * 32768 + d / 2 ^ 23 % 2 ^ 8 * 8388608 + d / 2 ^ 31 % 2 ^ 8 * 2147483648 + d / 2 ^ 39 % 2 ^ 8 * 549755813888 + d / 2 ^ 47 * 140737488355328 := by omega
  have fe : e = e % 16 + e / 2 ^ 4 % 2 ^ 8 * 16 + e / 2 ^ 12 % 2 ^ 8 * 4096 + e / 2 ^ 20 % 2 ^ 8 * 1048576 + e / 2 ^ 28 % 2 ^ 8 * 268435456 + e / 2 ^ 36 % 2 ^ 8 * 68719476736 + e / 2 ^ 44 % 2 ^ 8 * 17592186044416 := by omega
  have g6 : (b * 2 ^ 3 + a / 2 ^ 48) % 2 ^ 8 = b % 32 * 8 + a / 2 ^ 48 := by omega
  rw [g6]
  clear g6
  have g12 : (c * 2 ^ 6 + b / 2 ^ 45) % 2 ^ 8 = c % 4 * 64 + b / 2 ^ 45 := by omega
  rw [g12]
  clear g12
  have g19 : (d * 2 ^ 1 + c / 2 ^ 50) % 2 ^ 8 = d % 128 * 2 + c / 2 ^ 50 := by omega
  rw [g19]
  clear g19
  have g25 : (e * 2 ^ 4 + d / 2 ^ 47) % 2 ^ 8 = e % 16 * 16 + d / 2 ^ 47 := by omega
  rw [g25]
  clear g25
  clear ha hb hc hd he
  generalize a / 2 ^ 0 % 2 ^ 8 = y0 at *
  generalize a / 2 ^ 8 % 2 ^ 8 = y1 at *
  generalize a / 2 ^ 16 % 2 ^ 8 = y2 at *
  generalize a / 2 ^ 24 % 2 ^ 8 = y3 at *
  generalize a / 2 ^ 32 % 2 ^ 8 = y4 at *
  generalize a / 2 ^ 40 % 2 ^ 8 = y5 at *
  generalize b % 32 = u6 at *
  generalize a / 2 ^ 48 = v6 at *
  generalize b / 2 ^ 5 % 2 ^ 8 = y7 at *
  generalize b / 2 ^ 13 % 2 ^ 8 = y8 at *
  generalize b / 2 ^ 21 % 2 ^ 8 = y9 at *
  generalize b / 2 ^ 29 % 2 ^ 8 = y10 at *
  generalize b / 2 ^ 37 % 2 ^ 8 = y11 at *
  generalize c % 4 = u12 at *
  generalize b / 2 ^ 45 = v12 at *
  generalize c / 2 ^ 2 % 2 ^ 8 = y13 at *
  generalize c / 2 ^ 10 % 2 ^ 8 = y14 at *
  generalize c / 2 ^ 18 % 2 ^ 8 = y15 at *
  generalize c / 2 ^ 26 % 2 ^ 8 = y16 at *
  generalize c / 2 ^ 34 % 2 ^ 8 = y17 at *
  generalize c / 2 ^ 42 % 2 ^ 8 = y18 at *
  generalize d % 128 = u19 at *
  generalize c / 2 ^ 50 = v19 at *
  generalize d / 2 ^ 7 % 2 ^ 8 = y20 at *
  generalize d / 2 ^ 15 % 2 ^ 8 = y21 at *
  generalize d / 2 ^ 23 % 2 ^ 8 = y22 at *
  generalize d / 2 ^ 31 % 2 ^ 8 = y23 at *
  generalize d / 2 ^ 39 % 2 ^ 8 = y24 at *
  generalize e % 16 = u25 at *
  generalize d / 2 ^ 47 = v25 at *
  generalize e / 2 ^ 4 % 2 ^ 8 = y26 at *
  generalize e / 2 ^ 12 % 2 ^ 8 = y27 at *
  generalize e / 2 ^ 20 % 2 ^ 8 = y28 at *
  generalize e / 2 ^ 28 % 2 ^ 8 = y29 at *
  generalize e / 2 ^ 36 % 2 ^ 8 = y30 at *
  generalize e / 2 ^ 44 % 2 ^ 8 = y31 at *
  omega

theorem bytesS_wf (x : L5) : (bytesS x).wf := bytesOf_wf _
theorem bytesS_val {x : L5} (h : x.wf) : leVal (bytesS x) = val5 x % PP := by
  obtain ⟨⟨q, hq⟩, hok⟩ := settled_val h
  obtain ⟨ht, hv⟩ := least_val hok
  unfold bytesS leastS
  rw [bytesOf_val ht, hv, hq, Nat.add_mul_mod_self_left]
theorem leastS_a {x : L5} (h : x.wf) : (leastS x).a % 2 = val5 x % PP % 2 := by
  obtain ⟨⟨q, hq⟩, hok⟩ := settled_val h
  obtain ⟨ht, hv⟩ := least_val hok
  have e : val5 (leastS x) = val5 x % PP := by
    unfold leastS
    rw [hv, hq, Nat.add_mul_mod_self_left]
  rw [← e]
  unfold val5
  omega
theorem oddS_eq {x : L5} (h : x.wf) : oddS x = decide (val5 x % PP % 2 = 1) := by
  unfold oddS
  rw [← leastS_a h]
  congr 1
  rw [show (leastS x).a &&& 1 = (leastS x).a % 2 from Nat.and_one_is_mod _]
theorem key_eq_iff {x y : K32} (hx : x.wf) (hy : y.wf) : keyEq x y = decide (leVal x = leVal y) := by
  rw [keyEq_iff]
  by_cases h : x = y
  · rw [decide_eq_true h, decide_eq_true (by rw [h])]
  · rw [decide_eq_false h, decide_eq_false fun e => h (leVal_inj hx hy e)]
theorem equalS_eq {x y : L5} (hx : x.wf) (hy : y.wf) : equalS x y = decide (val5 x % PP = val5 y % PP) := by
  unfold equalS
  rw [key_eq_iff (bytesS_wf x) (bytesS_wf y), bytesS_val hx, bytesS_val hy]
theorem zeroK_wf : zeroK.wf := by
  intro b hb
  simp [K32.toList, zeroK] at hb
  omega
theorem isZeroS_eq {x : L5} (hx : x.wf) : isZeroS x = decide (val5 x % PP = 0) := by
  unfold isZeroS
  rw [key_eq_iff (bytesS_wf x) zeroK_wf, bytesS_val hx, show leVal zeroK = 0 from rfl]

end Pw
