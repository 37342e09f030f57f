/- A part of the proof: PwVe. -/
import Derived.Test.YtccmlapcijjmpaaPwVd
namespace Pw
open Go

/-! ### the program's numbers and the document's -/

theorem shlStep {t b : Nat} (ht : t < 72057594037927936) (hb : b < 256) : shl64 t 8 ||| b = t * 256 + b := by
  have e : shl64 t 8 = t * 2 ^ 8 := Nat.mod_eq_of_lt (by omega)
  rw [e, or_low 8 (by omega)]

theorem word0 {k : K32} (hk : k.wf) : (shl64 (shl64 (shl64 (shl64 (shl64 (shl64 (shl64 (shl64 0 8 ||| k.b7) 8 ||| k.b6) 8 ||| k.b5) 8 ||| k.b4) 8 ||| k.b3) 8 ||| k.b2) 8 ||| k.b1) 8 ||| k.b0) = ((((((((0 * 256 + k.b7) * 256 + k.b6) * 256 + k.b5) * 256 + k.b4) * 256 + k.b3) * 256 + k.b2) * 256 + k.b1) * 256 + k.b0) := by
  obtain ⟨h0, h1, h2, h3, h4, h5, h6, h7, h8, h9, h10, h11, h12, h13, h14, h15, h16, h17, h18, h19, h20, h21, h22, h23, h24, h25, h26, h27, h28, h29, h30, h31⟩ := hk.all
  rw [shlStep (t := 0) (b := k.b7) (by omega) (by omega), shlStep (t := (0 * 256 + k.b7)) (b := k.b6) (by omega) (by omega), shlStep (t := ((0 * 256 + k.b7) * 256 + k.b6)) (b := k.b5) (by omega) (by omega), shlStep (t := (((0 * 256 + k.b7) * 256 + k.b6) * 256 + k.b5)) (b := k.b4) (by omega) (by omega), shlStep (t := ((((0 * 256 + k.b7) * 256 + k.b6) * 256 + k.b5) * 256 + k.b4)) (b := k.b3) (by omega) (by omega), shlStep (t := (((((0 * 256 + k.b7) * 256 + k.b6) * 256 + k.b5) * 256 + k.b4) * 256 + k.b3)) (b := k.b2) (by omega) (by omega), shlStep (t := ((((((0 * 256 + k.b7) * 256 + k.b6) * 256 + k.b5) * 256 + k.b4) * 256 + k.b3) * 256 + k.b2)) (b := k.b1) (by omega) (by omega), shlStep (t := (((((((0 * 256 + k.b7) * 256 + k.b6) * 256 + k.b5) * 256 + k.b4) * 256 + k.b3) * 256 + k.b2) * 256 + k.b1)) (b := k.b0) (by omega) (by omega)]
theorem word1 {k : K32} (hk : k.wf) : (shl64 (shl64 (shl64 (shl64 (shl64 (shl64 (shl64 (shl64 0 8 ||| k.b15) 8 ||| k.b14) 8 ||| k.b13) 8 ||| k.b12) 8 ||| k.b11) 8 ||| k.b10) 8 ||| k.b9) 8 ||| k.b8) = ((((((((0 * 256 + k.b15) * 256 + k.b14) * 256 + k.b13) * 256 + k.b12) * 256 + k.b11) * 256 + k.b10) * 256 + k.b9) * 256 + k.b8) := by
  obtain ⟨h0, h1, h2, h3, h4, h5, h6, h7, h8, h9, h10, h11, h12, h13, h14, h15, h16, h17, h18, h19, h20, h21, h22, h23, h24, h25, h26, h27, h28, h29, h30, h31⟩ := hk.all
  rw [shlStep (t := 0) (b := k.b15) (by omega) (by omega), shlStep (t := (0 * 256 + k.b15)) (b := k.b14) (by omega) (by omega), shlStep (t := ((0 * 256 + k.b15) * 256 + k.b14)) (b := k.b13) (by omega) (by omega), shlStep (t := (((0 * 256 + k.b15) * 256 + k.b14) * 256 + k.b13)) (b := k.b12) (by omega) (by omega), shlStep (t := ((((0 * 256 + k.b15) * 256 + k.b14) * 256 + k.b13) * 256 + k.b12)) (b := k.b11) (by omega) (by omega), shlStep (t := (((((0 * 256 + k.b15) * 256 + k.b14) * 256 + k.b13) * 256 + k.b12) * 256 + k.b11)) (b := k.b10) (by omega) (by omega), shlStep (t := ((((((0 * 256 + k.b15) * 256 + k.b14) * 256 + k.b13) * 256 + k.b12) * 256 + k.b11) * 256 + k.b10)) (b := k.b9) (by omega) (by omega), shlStep (t := (((((((0 * 256 + k.b15) * 256 + k.b14) * 256 + k.b13) * 256 + k.b12) * 256 + k.b11) * 256 + k.b10) * 256 + k.b9)) (b := k.b8) (by omega) (by omega)]
theorem word2 {k : K32} (hk : k.wf) : (shl64 (shl64 (shl64 (shl64 (shl64 (shl64 (shl64 (shl64 0 8 ||| k.b23) 8 ||| k.b22) 8 ||| k.b21) 8 ||| k.b20) 8 ||| k.b19) 8 ||| k.b18) 8 ||| k.b17) 8 ||| k.b16) = ((((((((0 * 256 + k.b23) * 256 + k.b22) * 256 + k.b21) * 256 + k.b20) * 256 + k.b19) * 256 + k.b18) * 256 + k.b17) * 256 + k.b16) := by
  obtain ⟨h0, h1, h2, h3, h4, h5, h6, h7, h8, h9, h10, h11, h12, h13, h14, h15, h16, h17, h18, h19, h20, h21, h22, h23, h24, h25, h26, h27, h28, h29, h30, h31⟩ := hk.all
  rw [shlStep (t := 0) (b := k.b23) (by omega) (by omega), shlStep (t := (0 * 256 + k.b23)) (b := k.b22) (by omega) (by omega), shlStep (t := ((0 * 256 + k.b23) * 256 + k.b22)) (b := k.b21) (by omega) (by omega), shlStep (t := (((0 * 256 + k.b23) * 256 + k.b22) * 256 + k.b21)) (b := k.b20) (by omega) (by omega), shlStep (t := ((((0 * 256 + k.b23) * 256 + k.b22) * 256 + k.b21) * 256 + k.b20)) (b := k.b19) (by omega) (by omega), shlStep (t := (((((0 * 256 + k.b23) * 256 + k.b22) * 256 + k.b21) * 256 + k.b20) * 256 + k.b19)) (b := k.b18) (by omega) (by omega), shlStep (t := ((((((0 * 256 + k.b23) * 256 + k.b22) * 256 + k.b21) * 256 + k.b20) * 256 + k.b19) * 256 + k.b18)) (b := k.b17) (by omega) (by omega), shlStep (t := (((((((0 * 256 + k.b23) * 256 + k.b22) * 256 + k.b21) * 256 + k.b20) * 256 + k.b19) * 256 + k.b18) * 256 + k.b17)) (b := k.b16) (by omega) (by omega)]
theorem word3 {k : K32} (hk : k.wf) : (shl64 (shl64 (shl64 (shl64 (shl64 (shl64 (shl64 (shl64 0 8 ||| k.b31) 8 ||| k.b30) 8 ||| k.b29) 8 ||| k.b28) 8 ||| k.b27) 8 ||| k.b26) 8 ||| k.b25) 8 ||| k.b24) = ((((((((0 * 256 + k.b31) * 256 + k.b30) * 256 + k.b29) * 256 + k.b28) * 256 + k.b27) * 256 + k.b26) * 256 + k.b25) * 256 + k.b24) := by
  obtain ⟨h0, h1, h2, h3, h4, h5, h6, h7, h8, h9, h10, h11, h12, h13, h14, h15, h16, h17, h18, h19, h20, h21, h22, h23, h24, h25, h26, h27, h28, h29, h30, h31⟩ := hk.all
  rw [shlStep (t := 0) (b := k.b31) (by omega) (by omega), shlStep (t := (0 * 256 + k.b31)) (b := k.b30) (by omega) (by omega), shlStep (t := ((0 * 256 + k.b31) * 256 + k.b30)) (b := k.b29) (by omega) (by omega), shlStep (t := (((0 * 256 + k.b31) * 256 + k.b30) * 256 + k.b29)) (b := k.b28) (by omega) (by omega), shlStep (t := ((((0 * 256 + k.b31) * 256 + k.b30) * 256 + k.b29) * 256 + k.b28)) (b := k.b27) (by omega) (by omega), shlStep (t := (((((0 * 256 + k.b31) * 256 + k.b30) * 256 + k.b29) * 256 + k.b28) * 256 + k.b27)) (b := k.b26) (by omega) (by omega), shlStep (t := ((((((0 * 256 + k.b31) * 256 + k.b30) * 256 + k.b29) * 256 + k.b28) * 256 + k.b27) * 256 + k.b26)) (b := k.b25) (by omega) (by omega), shlStep (t := (((((((0 * 256 + k.b31) * 256 + k.b30) * 256 + k.b29) * 256 + k.b28) * 256 + k.b27) * 256 + k.b26) * 256 + k.b25)) (b := k.b24) (by omega) (by omega)]
set_option maxRecDepth 100000 in
theorem fromR_val {k : K32} (hk : k.wf) : (fromR k).wf ∧ val4 (fromR k) = leVal k % B255 % PP := by
  unfold fromR
  rw [word0 hk, word1 hk, word2 hk, word3 hk, and63]
  obtain ⟨h0, h1, h2, h3, h4, h5, h6, h7, h8, h9, h10, h11, h12, h13, h14, h15, h16, h17, h18, h19, h20, h21, h22, h23, h24, h25, h26, h27, h28, h29, h30, h31⟩ := hk.all
  obtain ⟨w0, hw0⟩ : ∃ w, w = ((((((((0 * 256 + k.b7) * 256 + k.b6) * 256 + k.b5) * 256 + k.b4) * 256 + k.b3) * 256 + k.b2) * 256 + k.b1) * 256 + k.b0) := ⟨_, rfl⟩
  obtain ⟨w1, hw1⟩ : ∃ w, w = ((((((((0 * 256 + k.b15) * 256 + k.b14) * 256 + k.b13) * 256 + k.b12) * 256 + k.b11) * 256 + k.b10) * 256 + k.b9) * 256 + k.b8) := ⟨_, rfl⟩
  obtain ⟨w2, hw2⟩ : ∃ w, w = ((((((((0 * 256 + k.b23) * 256 + k.b22) * 256 + k.b21) * 256 + k.b20) * 256 + k.b19) * 256 + k.b18) * 256 + k.b17) * 256 + k.b16) := ⟨_, rfl⟩
  obtain ⟨w3, hw3⟩ : ∃ w, w = ((((((((0 * 256 + k.b31) * 256 + k.b30) * 256 + k.b29) * 256 + k.b28) * 256 + k.b27) * 256 + k.b26) * 256 + k.b25) * 256 + k.b24) := ⟨_, rfl⟩
  rw [← hw0, ← hw1, ← hw2, ← hw3]
  have l0 : w0 < 18446744073709551616 := by omega
  have l1 : w1 < 18446744073709551616 := by omega
  have l2 : w2 < 18446744073709551616 := by omega
  have l3 : w3 < 18446744073709551616 := by omega
  have hm : w3 % 9223372036854775808 < 9223372036854775808 := Nat.mod_lt _ (by decide)
  have hL : leVal k = w0 + 18446744073709551616 * w1 + 340282366920938463463374607431768211456 * w2 + 6277101735386680763835789423207666416102355444464034512896 * w3 := by
    rw [leVal_sum]; unfold leSum; omega
  have hv : val4 ⟨w0, w1, w2, w3 % 9223372036854775808⟩ = leVal k % B255 := by
    rw [hL]
    clear hw0 hw1 hw2 hw3 hL h0 h1 h2 h3 h4 h5 h6 h7 h8 h9 h10 h11 h12 h13 h14 h15 h16 h17 h18 h19 h20 h21 h22 h23 h24 h25 h26 h27 h28 h29 h30 h31
    unfold val4 B255
    dsimp only
    omega
  have h2 : val4 ⟨w0, w1, w2, w3 % 9223372036854775808⟩ < 2 * PP := by
    rw [hv]
    exact Nat.lt_trans (Nat.mod_lt _ (by decide)) (by decide)
  have := below_val (x := ⟨w0, w1, w2, w3 % 9223372036854775808⟩) ⟨l0, l1, l2, Nat.lt_trans hm (by decide)⟩ h2
  rw [hv] at this
  exact this

theorem bytesR_wf (y : L4) : (bytesR4 y).wf := by
  intro b hb
  simp only [K32.toList, bytesR4, List.mem_cons, List.not_mem_nil, or_false] at hb
  have key : ∀ x : Nat, x % 2 ^ 8 < 256 := fun x => Nat.mod_lt _ (by decide)
  rcases hb with rfl | rfl | rfl | rfl | rfl | rfl | rfl | rfl | rfl | rfl | rfl | rfl | rfl | rfl | rfl | rfl | rfl | rfl | rfl | rfl | rfl | rfl | rfl | rfl | rfl | rfl | rfl | rfl | rfl | rfl | rfl | rfl <;> exact key _
theorem word_bytes {w : Nat} (h : w < 18446744073709551616) : w = w / 2 ^ 0 % 2 ^ 8 * 1 + w / 2 ^ 8 % 2 ^ 8 * 256 + w / 2 ^ 16 % 2 ^ 8 * 65536 + w / 2 ^ 24 % 2 ^ 8 * 16777216 + w / 2 ^ 32 % 2 ^ 8 * 4294967296 + w / 2 ^ 40 % 2 ^ 8 * 1099511627776 + w / 2 ^ 48 % 2 ^ 8 * 281474976710656 + w / 2 ^ 56 % 2 ^ 8 * 72057594037927936 := by omega
theorem bytesR_val {y : L4} (h : y.wf) : leVal (bytesR4 y) = val4 y := by
  obtain ⟨h1, h2, h3, h4⟩ := h
  rw [leVal_sum]
  unfold leSum bytesR4 val4
  dsimp only
  have e1 := word_bytes h1
  have e2 := word_bytes h2
  have e3 := word_bytes h3
  have e4 := word_bytes h4
  clear h1 h2 h3 h4
  generalize y.a / 2 ^ 0 % 2 ^ 8 = z0 at *
  generalize y.a / 2 ^ 8 % 2 ^ 8 = z1 at *
  generalize y.a / 2 ^ 16 % 2 ^ 8 = z2 at *
  generalize y.a / 2 ^ 24 % 2 ^ 8 = z3 at *
  generalize y.a / 2 ^ 32 % 2 ^ 8 = z4 at *
  generalize y.a / 2 ^ 40 % 2 ^ 8 = z5 at *
  generalize y.a / 2 ^ 48 % 2 ^ 8 = z6 at *
  generalize y.a / 2 ^ 56 % 2 ^ 8 = z7 at *
  generalize y.b / 2 ^ 0 % 2 ^ 8 = z8 at *
  generalize y.b / 2 ^ 8 % 2 ^ 8 = z9 at *
  generalize y.b / 2 ^ 16 % 2 ^ 8 = z10 at *
  generalize y.b / 2 ^ 24 % 2 ^ 8 = z11 at *
  generalize y.b / 2 ^ 32 % 2 ^ 8 = z12 at *
  generalize y.b / 2 ^ 40 % 2 ^ 8 = z13 at *
  generalize y.b / 2 ^ 48 % 2 ^ 8 = z14 at *
  generalize y.b / 2 ^ 56 % 2 ^ 8 = z15 at *
  generalize y.c / 2 ^ 0 % 2 ^ 8 = z16 at *
  generalize y.c / 2 ^ 8 % 2 ^ 8 = z17 at *
  generalize y.c / 2 ^ 16 % 2 ^ 8 = z18 at *
  generalize y.c / 2 ^ 24 % 2 ^ 8 = z19 at *
  generalize y.c / 2 ^ 32 % 2 ^ 8 = z20 at *
  generalize y.c / 2 ^ 40 % 2 ^ 8 = z21 at *
  generalize y.c / 2 ^ 48 % 2 ^ 8 = z22 at *
  generalize y.c / 2 ^ 56 % 2 ^ 8 = z23 at *
  generalize y.d / 2 ^ 0 % 2 ^ 8 = z24 at *
  generalize y.d / 2 ^ 8 % 2 ^ 8 = z25 at *
  generalize y.d / 2 ^ 16 % 2 ^ 8 = z26 at *
  generalize y.d / 2 ^ 24 % 2 ^ 8 = z27 at *
  generalize y.d / 2 ^ 32 % 2 ^ 8 = z28 at *
  generalize y.d / 2 ^ 40 % 2 ^ 8 = z29 at *
  generalize y.d / 2 ^ 48 % 2 ^ 8 = z30 at *
  generalize y.d / 2 ^ 56 % 2 ^ 8 = z31 at *
  omega

structure Sim (x : L5) (y : L4) : Prop where
  ok : ok5 x
  wf : y.wf
  lt : val4 y < PP
  eq : val5 x % PP = val4 y

theorem PP_pos : 0 < PP := by decide
theorem Sim.from {k : K32} (hk : k.wf) : Sim (fromS k) (fromR k) := by
  obtain ⟨⟨q, hq⟩, ho⟩ := from_val hk
  obtain ⟨hw, hv⟩ := fromR_val hk
  exact ⟨ho, hw, by rw [hv]; exact Nat.mod_lt _ PP_pos, by rw [hv]; exact cg_of hq⟩
theorem small_lt {n : Nat} (hn : n < 18446744073709551616) : n < PP := Nat.lt_trans hn (by decide)
theorem smallR_wf {n : Nat} (hn : n < 18446744073709551616) : (smallR n).wf ∧ val4 (smallR n) = n := by
  unfold smallR L4.wf val4
  exact ⟨⟨hn, Nat.two_pow_pos 64, Nat.two_pow_pos 64, Nat.two_pow_pos 64⟩, by simp⟩
theorem Sim.small {n : Nat} (hn : n < 18446744073709551616) : Sim (smallS n) (smallR n) := by
  obtain ⟨h1, h2⟩ := small_val hn
  obtain ⟨h3, h4⟩ := smallR_wf hn
  exact ⟨h2, h3, by rw [h4]; exact small_lt hn, by rw [h1, h4]; exact Nat.mod_eq_of_lt (small_lt hn)⟩
theorem Sim.zero : Sim zero5 zeroR := ⟨zero_ok, by unfold zeroR L4.wf; decide, by decide, by decide⟩

theorem addR_val {x y : L4} (hx : x.wf) (hy : y.wf) (lx : val4 x < PP) (ly : val4 y < PP) : (addR x y).wf ∧ val4 (addR x y) = (val4 x + val4 y) % PP := by
  obtain ⟨x1, x2, x3, x4⟩ := hx
  obtain ⟨y1, y2, y3, y4⟩ := hy
  unfold addR
  have a1 := ac_cc x.a y.a 0
  have a2 := ac_cc x.b y.b (addC0 x y)
  have a3 := ac_cc x.c y.c (addC1 x y)
  have a4 := ac_cc x.d y.d (addC2 x y)
  unfold addC2 addC1 addC0 at *
  generalize cc x.a y.a 0 = c1 at *
  generalize cc x.b y.b c1 = c2 at *
  generalize cc x.c y.c c2 = c3 at *
  generalize cc x.d y.d c3 = c4 at *
  generalize ac x.a y.a 0 = r1 at *
  generalize ac x.b y.b c1 = r2 at *
  generalize ac x.c y.c c2 = r3 at *
  generalize ac x.d y.d c3 = r4 at *
  have hv : val4 ⟨r1, r2, r3, r4⟩ + B256 * c4 = val4 x + val4 y := by
    simp only [val4, B256]; omega
  have h4 : c4 = 0 := by
    clear a1 a2 a3 a4 x1 x2 x3 x4 y1 y2 y3 y4
    unfold B256 PP at *; omega
  subst h4
  rw [Nat.mul_zero, Nat.add_zero] at hv
  rw [← hv]
  exact below_val ⟨a1.2, a2.2, a3.2, a4.2⟩ (by rw [hv]; omega)

theorem negR_val {x : L4} (hx : x.wf) (lx : val4 x < PP) : (negR x).wf ∧ val4 (negR x) = (PP - val4 x) % PP := by
  obtain ⟨e, hw, hb⟩ := min_val prime_wf hx
  rw [prime_val] at e
  have hl := hw.lt
  have h0 : minB primeD x = 0 := by
    unfold B256 at *; omega
  rw [h0] at e
  have e' : val4 (minD primeD x) = PP - val4 x := by omega
  unfold negR
  rw [← e']
  exact below_val hw (by rw [e']; omega)

theorem Sim.add {x x' : L5} {y y' : L4} (h : Sim x y) (h' : Sim x' y') : Sim (addS x x') (addR y y') := by
  obtain ⟨h1, h2⟩ := add_val h.ok h'.ok
  obtain ⟨h3, h4⟩ := addR_val h.wf h'.wf h.lt h'.lt
  refine ⟨h2, h3, by rw [h4]; exact Nat.mod_lt _ PP_pos, ?_⟩
  rw [h1, h4, Nat.add_mod, h.eq, h'.eq]

theorem neg_mod {a b : Nat} (hb : b < PP) (h : (a + b) % PP = 0) : a % PP = (PP - b) % PP := by
  unfold PP at *; omega
theorem Sim.neg {x : L5} {y : L4} (h : Sim x y) : Sim (negS x) (negR y) := by
  obtain ⟨h1, h2⟩ := neg_val h.ok
  obtain ⟨h3, h4⟩ := negR_val h.wf h.lt
  refine ⟨h2, h3, by rw [h4]; exact Nat.mod_lt _ PP_pos, ?_⟩
  rw [h4]
  refine neg_mod h.lt ?_
  rw [← h.eq, Nat.add_mod_mod, h1]

theorem sub_mod' {a b c : Nat} (hb : b < PP) (h : (a + b) % PP = c % PP) : a % PP = (c + (PP - b) % PP) % PP := by
  unfold PP at *; omega
theorem Sim.sub {x x' : L5} {y y' : L4} (h : Sim x y) (h' : Sim x' y') : Sim (subS x x') (subR y y') := by
  obtain ⟨h1, h2⟩ := sub_val h.ok h'.ok
  obtain ⟨g3, g4⟩ := negR_val h'.wf h'.lt
  obtain ⟨h3, h4⟩ := addR_val h.wf g3 h.lt (by rw [g4]; exact Nat.mod_lt _ PP_pos)
  refine ⟨h2, h3, by unfold subR; rw [h4]; exact Nat.mod_lt _ PP_pos, ?_⟩
  unfold subR
  rw [h4, g4]
  refine sub_mod' h'.lt ?_
  rw [← h'.eq, Nat.add_mod_mod, h1, h.eq, Nat.mod_eq_of_lt h.lt]

theorem Sim.mul {x x' : L5} {y y' : L4} (h : Sim x y) (h' : Sim x' y') : Sim (mulS x x') (mulR y y') := by
  obtain ⟨h1, h2⟩ := mul_val h.ok h'.ok
  obtain ⟨h3, h4⟩ := mulR_val h.wf h'.wf
  refine ⟨h2, h3, by rw [h4]; exact Nat.mod_lt _ PP_pos, ?_⟩
  rw [h1, h4, Nat.mul_mod, h.eq, h'.eq]
theorem Sim.sq {x : L5} {y : L4} (h : Sim x y) : Sim (sqS x) (mulR y y) := by
  obtain ⟨h1, h2⟩ := sq_val h.ok
  obtain ⟨h3, h4⟩ := mulR_val h.wf h.wf
  refine ⟨h2, h3, by rw [h4]; exact Nat.mod_lt _ PP_pos, ?_⟩
  rw [h1, h4, Nat.mul_mod, h.eq]
theorem Sim.times {x : L5} {y : L4} (h : Sim x y) {n : Nat} (hn : n < 4294967296) : Sim (timesS x n) (timesR y n) := by
  obtain ⟨h1, h2⟩ := times_val h.ok (n := n) (by omega)
  obtain ⟨g1, g2⟩ := smallR_wf (n := n) (by omega)
  obtain ⟨h3, h4⟩ := mulR_val h.wf g1
  refine ⟨h2, h3, by unfold timesR; rw [h4]; exact Nat.mod_lt _ PP_pos, ?_⟩
  unfold timesR
  rw [h1, h4, g2, Nat.mul_mod, h.eq, Nat.mul_mod_mod]
theorem Sim.bytes {x : L5} {y : L4} (h : Sim x y) : bytesS x = bytesR4 y :=
  leVal_inj (bytesS_wf x) (bytesR_wf y) (by rw [bytesS_val h.ok.wf, bytesR_val h.wf, h.eq])
theorem equalR_iff (x y : L4) : equalR x y = decide (x = y) := by
  cases x; cases y
  unfold equalR
  simp only [L4.mk.injEq]
  rename_i a b c d a' b' c' d'
  by_cases h1 : a = a' <;> by_cases h2 : b = b' <;> by_cases h3 : c = c' <;> by_cases h4 : d = d' <;> simp [h1, h2, h3, h4]
theorem val4_inj {x y : L4} (hx : x.wf) (hy : y.wf) (h : val4 x = val4 y) : x = y := by
  obtain ⟨x1, x2, x3, x4⟩ := hx
  obtain ⟨y1, y2, y3, y4⟩ := hy
  cases x; cases y
  simp only [val4] at *
  simp only [L4.mk.injEq]
  omega
theorem equalR_val {x y : L4} (hx : x.wf) (hy : y.wf) : equalR x y = decide (val4 x = val4 y) := by
  rw [equalR_iff]
  by_cases h : x = y
  · rw [decide_eq_true h, decide_eq_true (by rw [h])]
  · rw [decide_eq_false h, decide_eq_false fun e => h (val4_inj hx hy e)]
theorem Sim.equal {x x' : L5} {y y' : L4} (h : Sim x y) (h' : Sim x' y') : equalS x x' = equalR y y' := by
  rw [equalS_eq h.ok.wf h'.ok.wf, equalR_val h.wf h'.wf, h.eq, h'.eq]
theorem Sim.isZero {x : L5} {y : L4} (h : Sim x y) : isZeroS x = isZeroR y := by
  unfold isZeroR
  rw [isZeroS_eq h.ok.wf, equalR_val h.wf Sim.zero.wf, h.eq]
  rfl
theorem Sim.odd {x : L5} {y : L4} (h : Sim x y) : oddS x = oddR y := by
  rw [oddS_eq h.ok.wf, h.eq]
  unfold oddR
  congr 1
  unfold val4
  have : (y.a + 18446744073709551616 * y.b + 340282366920938463463374607431768211456 * y.c + 6277101735386680763835789423207666416102355444464034512896 * y.d) % 2 = y.a % 2 := by omega
  rw [this]
theorem Sim.ite {c : Bool} {x x' : L5} {y y' : L4} (h : Sim x y) (h' : Sim x' y') : Sim (bif c then x else x') (bif c then y else y') := by
  cases c
  · exact h'
  · exact h
end Pw
