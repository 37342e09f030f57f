/- Layer 2 beside layer 19: what the ladder is, by value; the two curves are one. -/
import Derived.Test.YtnnjaijokiknkaaEu
import Derived.Test.YtnnjaijokiknkaaPwMf
namespace Go.Proofs.Ytnnjaijokiknkaa
open Go Pw Go.RowKit
/-! ### bits -/
theorem leL_byteC : ∀ (l : List Nat), (∀ b ∈ l, b < 256) → ∀ j, leL l / 256 ^ j % 256 = l.getD j 0
  | [], _, j => by simp [leL]
  | b :: l, h, 0 => by
    have hb := h b (by simp)
    show (b + 256 * leL l) / 1 % 256 = b
    omega
  | b :: l, h, j + 1 => by
    have hb := h b (by simp)
    have ih := leL_byteC l (fun c hc => h c (by simp [hc])) j
    show (b + 256 * leL l) / 256 ^ (j + 1) % 256 = l.getD j 0
    rw [← ih, Nat.pow_succ, Nat.mul_comm (256 ^ j) 256, ← Nat.div_div_eq_div_mul, show (b + 256 * leL l) / 256 = leL l by omega]
theorem and_oneC (n : Nat) : n &&& 1 = n % 2 := by
  rw [show (1 : Nat) = 2 ^ 1 - 1 from rfl, Nat.and_two_pow_sub_one_eq_mod]
theorem kbit_test {k : K32} (hk : k.wf) (t : Nat) : kbit k t = (leVal k).testBit t := by
  have h := leL_byteC k.toList hk (t / 8)
  unfold kbit byteAt leVal
  rw [← h, Nat.testBit_eq_decide_div_mod_eq, and_oneC]
  generalize leL k.toList = n
  have e : n / 2 ^ t = n / 256 ^ (t / 8) / 2 ^ (t % 8) := by
    rw [Nat.div_div_eq_div_mul, show (256 : Nat) = 2 ^ 8 from rfl, ← Nat.pow_mul, ← Nat.pow_add, Nat.div_add_mod]
  rw [e, show min (t % 8) 8 = t % 8 by omega]
  generalize n / 256 ^ (t / 8) = m
  have : t % 8 = 0 ∨ t % 8 = 1 ∨ t % 8 = 2 ∨ t % 8 = 3 ∨ t % 8 = 4 ∨ t % 8 = 5 ∨ t % 8 = 6 ∨ t % 8 = 7 := by omega
  refine decide_eq_decide.2 ?_
  rcases this with h | h | h | h | h | h | h | h <;> rw [h] <;> simp only [Nat.reducePow] <;> omega
/-! ### the ladder -/
variable {o : FOps}
structure NvG (r : Rungs) (s : RF) : Prop where
  a : NV r.a s.a
  b : NV r.b s.b
  c : NV r.c s.c
  d : NV r.d s.d
theorem NvG.turn {r : Rungs} {s : RF} (h : NvG r s) : NvG (swapRg r true) s.turn := ⟨h.c, h.d, h.a, h.b⟩
theorem NvG.turn' {r : Rungs} {s : RF} (h : NvG (swapRg r true) s) : NvG r s.turn := ⟨h.c, h.d, h.a, h.b⟩
theorem toF_121665C : toF 121665 = (121665 : Fp) := by decide +kernel
theorem toF_486662C : toF 486662 = (486662 : Fp) := by decide +kernel
theorem FGood.step (G : FGood o) {r : Rungs} {s : RF} {x : L5} {u : Fp} (h : NvG r s) (hx : NV x u) : NvG (stepRg o r x) (stepF u s) := by
  have e := G.add h.a h.b
  have f := G.sub h.a h.b
  have m := G.mul (G.sub h.c h.d) e
  have n := G.mul (G.add h.c h.d) f
  have y := G.sq e
  have z := G.sq f
  have w := G.sub y z
  have t := G.times (n := 121665) w (by decide)
  rw [toF_121665C, Fin.mul_comm _ (121665 : Fp)] at t
  exact ⟨G.mul y z, G.mul w (G.add y t), G.sq (G.add m n), G.mul hx (G.sq (G.sub m n))⟩
theorem FGood.lad (G : FGood o) {k : K32} (hk : k.wf) {x : L5} {u : Fp} (hx : NV x u) : ∀ i, NvG (swapRg (ladP o k x ⟨o.small 1, zero5, x, o.small 1⟩ false i).1 (ladP o k x ⟨o.small 1, zero5, x, o.small 1⟩ false i).2) (ladF (leVal k).testBit u i)
  | 0 => ⟨G.one, NV.zero, hx, G.one⟩
  | i + 1 => by
    have ih := G.lad hk hx i
    rw [show ladP o k x ⟨o.small 1, zero5, x, o.small 1⟩ false (i + 1) = (stepRg o (swapRg (ladP o k x ⟨o.small 1, zero5, x, o.small 1⟩ false i).1 (!(kbit k (254 - i) == (ladP o k x ⟨o.small 1, zero5, x, o.small 1⟩ false i).2))) x, kbit k (254 - i)) from rfl,
      ladF, kbit_test hk, roundF]
    generalize ladP o k x ⟨o.small 1, zero5, x, o.small 1⟩ false i = p at *
    obtain ⟨g, b⟩ := p
    generalize ladF (leVal k).testBit u i = s at *
    generalize (leVal k).testBit (254 - i) = c
    dsimp only at ih ⊢
    cases c
    · rw [cond_false]
      cases b
      · exact G.step ih hx
      · exact G.step ih hx
    · rw [cond_true]
      cases b
      · exact (G.step ih.turn hx).turn
      · exact (G.step ih.turn' hx).turn
/-- the number that a key says -/
def numC (u : K32) : Fp := toF (leVal u % B255)
theorem FGood.curve_scale (G : FGood o) {k u : K32} (hk : (clampC k).wf) (hu : u.wf) : (scaleO o k u).wf ∧ leVal (scaleO o k u) = (scaleF (leVal (clampC k)).testBit (numC u)).val := by
  have h : NvG (ladEnd o (clampC k) (o.frm u)) (ladF (leVal (clampC k)).testBit (numC u) 255) := by unfold ladEnd; exact G.lad hk (G.frm hu) 255
  unfold scaleO scaleF
  generalize ladEnd o (clampC k) (o.frm u) = r at *
  generalize ladF (leVal (clampC k)).testBit (numC u) 255 = s at *
  exact G.bytes (G.mul h.a (G.inv h.b))
theorem wF_alt (v : Fp) : v * v * v + v * v * 486662 + v = wF v := by unfold wF; grind
theorem FGood.on_curve (G : FGood o) {u : K32} (hu : u.wf) : rootB o (onXc o (o.frm u)) = hasRoot (wF (numC u)) := by
  have x := G.frm hu
  have h := G.add (G.add (G.mul (G.sq x) x) (G.times (n := 486662) (G.sq x) (by decide))) x
  rw [toF_486662C, wF_alt] at h
  unfold onXc numC
  exact (G.root h).2
/-! ### clamped keys -/
theorem byte_lowC : ∀ b, b < 256 → b &&& 248 = b / 8 * 8 % 256 := by decide +kernel
theorem byte_highC : ∀ b, b < 256 → b &&& 127 ||| 64 = (b % 64 + 64) % 256 := by decide +kernel
theorem clampC_wf {k : K32} (h : k.wf) : (clampC k).wf := by
  intro b hb
  simp only [clampC, K32.toList, List.mem_cons, List.not_mem_nil, or_false] at hb
  have hm : ∀ c ∈ k.toList, c < 256 := h
  simp only [K32.toList, List.mem_cons, List.not_mem_nil, or_false, forall_eq_or_imp, forall_eq] at hm
  rw [byte_lowC _ (by omega), byte_highC _ (by omega)] at hb
  omega
theorem clampC_lt {k : K32} (h : k.wf) : leVal (clampC k) < 2 ^ 255 ∧ leVal (clampC k) % 2 = 0 := by
  have hw := clampC_wf h
  obtain ⟨r, h1, h2⟩ := hi_low hw
  have hm : ∀ c ∈ k.toList, c < 256 := h
  simp only [K32.toList, List.mem_cons, List.not_mem_nil, or_false, forall_eq_or_imp, forall_eq] at hm
  have e31 : (clampC k).b31 = (k.b31 % 64 + 64) % 256 := by show k.b31 &&& 127 ||| 64 = _; exact byte_highC _ (by omega)
  have e0 : (clampC k).b0 = k.b0 / 8 * 8 % 256 := by show k.b0 &&& 248 = _; exact byte_lowC _ (by omega)
  have e255 : (2 : Nat) ^ 255 = 57896044618658097711785492504343953926634992332820282019728792003956564819968 := by decide +kernel
  refine ⟨by rw [h1, e31, e255]; omega, ?_⟩
  have h3 := leL_byteC (clampC k).toList hw 0
  have h4 : (clampC k).toList.getD 0 0 = (clampC k).b0 := rfl
  rw [h4, e0, Nat.pow_zero, Nat.div_one] at h3
  unfold leVal
  omega
/-! ### the curve of layer 19 as the ladder's -/
def CE : LC := ⟨ED, 1, -121666, by decide +kernel, by decide +kernel, by decide +kernel⟩
theorem uOf_CE (P : EPt) : uOf CE P = uP P := by
  show (1 : Fp) * (1 + P.y) * finv (1 - P.y) = (1 + P.y) * finv (1 - P.y)
  rw [Fin.one_mul]
theorem ladder_here {n : Nat} (hn : n < 2 ^ 255) (he : n % 2 = 0) (P : EPt) : scaleF n.testBit (uP P) = uP (P.mul n) := by
  rw [← uOf_CE P]
  exact (scale_of_u (C := CE) hn he P).trans (uOf_CE _)
theorem rt_486664 : ∃ r : Fp, r ≠ 0 ∧ r * r = -486664 :=
  ⟨48802004052532134862652268456126542835229456083994414501085850622543968879637 * 19681161376707505956807079304988542015446066515923890162744021073123829784752, by decide +kernel, by decide +kernel⟩
theorem lift_is {u : Fp} {P : EPt} (h1 : u + 1 ≠ 0) (hy : P.y = (u - 1) * finv (u + 1)) : P.y * (u + 1) = u - 1 := by
  rw [hy]; exact mul_inv_mul h1
theorem two_z {u : Fp} (h : 1 * (u + 1) = u - 1) : (2 : Fp) = 0 := by
  have e : (2 : Fp) = (1 * (u + 1)) - (u - 1) := by clear h; grind
  rw [e, h, Fin.sub_self]
theorem two_zu {u : Fp} (h : -1 * (u + 1) = u - 1) : (2 : Fp) * u = 0 := by
  have e : (2 : Fp) * u = (u - 1) - (-1 * (u + 1)) := by clear h; grind
  rw [e, h, Fin.sub_self]
theorem lift_u {u : Fp} {P : EPt} (hy : P.y * (u + 1) = u - 1) : uP P = u := by
  have hn : 1 - P.y ≠ 0 := by
    intro h0
    have : P.y = 1 := by grind
    rw [this] at hy
    exact fp_two_ne (two_z hy)
  have h := mul_finv hn
  unfold uP
  refine fp_cancel hn ?_
  generalize finv (1 - P.y) = i at *
  generalize P.y = y at *
  grind
theorem yy_one {y d : Fp} (on : y * y - 0 * 0 = 1 + d * 0 * 0 * y * y) : (y - 1) * (y + 1) = 0 := by
  have e : (y - 1) * (y + 1) = (y * y - 0 * 0) - (1 + d * 0 * 0 * y * y) := by clear on; grind
  rw [e, on, Fin.sub_self]
theorem x_ne {u : Fp} {P : EPt} (h0 : u ≠ 0) (hy : P.y * (u + 1) = u - 1) : P.x ≠ 0 := by
  intro hx
  have on := ed_on P
  rw [hx] at on
  have e : (P.y - 1) * (P.y + 1) = 0 := yy_one on
  rcases fp_mul_zero e with h | h
  · have : P.y = 1 := by grind
    rw [this] at hy
    exact fp_two_ne (two_z hy)
  · have : P.y = -1 := by grind
    rw [this] at hy
    have h2 : (2 : Fp) * u = 0 := two_zu hy
    rcases fp_mul_zero h2 with h3 | h3
    · exact fp_two_ne h3
    · exact h0 h3
theorem wf_id {u x y d f : Fp} (on : y * y - x * x = 1 + d * x * x * y * y) (hy : y * (u + 1) = u - 1) (hf : f * (1 + d) = -4) (hg : f * (1 - d) = -973324) : 4 * (x * x * (u * u + 486662 * u + 1)) = 4 * (f * u) := by
  have e1 : x * x * ((u + 1) * (u + 1) + d * ((y * (u + 1)) * (y * (u + 1)))) = (y * (u + 1)) * (y * (u + 1)) - (u + 1) * (u + 1) := by
    have e2 : x * x * ((u + 1) * (u + 1) + d * ((y * (u + 1)) * (y * (u + 1)))) = (y * (u + 1)) * (y * (u + 1)) - (u + 1) * (u + 1) - (u + 1) * (u + 1) * ((y * y - x * x) - (1 + d * x * x * y * y)) := by
      clear on hy hf hg; grind
    rw [e2, on, Fin.sub_self]
    generalize (y * (u + 1)) * (y * (u + 1)) - (u + 1) * (u + 1) = w
    rw [Fin.mul_zero]
    clear on hy hf hg e2; grind
  rw [hy] at e1
  have e3 : f * (x * x * ((u + 1) * (u + 1) + d * ((u - 1) * (u - 1)))) = x * x * ((f * (1 + d)) * (u * u + 1) + 2 * u * (f * (1 - d))) := by clear on hy hf hg e1; grind
  rw [e1, hf, hg] at e3
  have e4 : f * ((u - 1) * (u - 1) - (u + 1) * (u + 1)) = -(4 * (f * u)) := by clear on hy hf hg e1 e3; grind
  have e5 : x * x * (-4 * (u * u + 1) + 2 * u * -973324) = -(4 * (x * x * (u * u + 486662 * u + 1))) := by clear on hy hf hg e1 e3 e4; grind
  rw [e4, e5] at e3
  generalize 4 * (x * x * (u * u + 486662 * u + 1)) = A at *
  generalize 4 * (f * u) = B at *
  clear on hy hf hg e1 e4 e5
  grind
theorem DF_plus : (-486664 : Fp) * (1 + DF) = -4 := by decide +kernel
theorem DF_minus : (-486664 : Fp) * (1 - DF) = -973324 := by decide +kernel
theorem four_ne : (4 : Fp) ≠ 0 := by decide +kernel
theorem wf_here {u : Fp} {P : EPt} (h0 : u ≠ 0) (hy : P.y * (u + 1) = u - 1) : isSq (wF u) := by
  have h := fp_cancel four_ne (wf_id (ed_on P) hy DF_plus DF_minus)
  obtain ⟨r, -, hr⟩ := rt_486664
  have hx := mul_finv (x_ne h0 hy)
  refine ⟨r * u * finv P.x, ?_⟩
  unfold wF
  generalize finv P.x = i at *
  generalize P.x = x at *
  rw [← hr] at h
  have e : u * u * u + 486662 * u * u + u = (x * x * (u * u + 486662 * u + 1)) * u * (i * i) := by
    have e2 : (x * x * (u * u + 486662 * u + 1)) * u * (i * i) = ((x * i) * (x * i)) * (u * u * u + 486662 * u * u + u) := by clear h hx hy; grind
    rw [e2, hx, Fin.one_mul, Fin.one_mul]
  rw [e, h]
  clear h e hx hy; grind
theorem here_of {u : Fp} (h0 : u ≠ 0) (hs : isSq (wF u)) : u + 1 ≠ 0 ∧ ∃ P : EPt, P.y * (u + 1) = u - 1 := by
  have hne : u + 1 ≠ 0 := by
    intro h
    have e : u = -1 := by
      have : u = (u + 1) - 1 := by clear h hs h0; grind
      rw [this, h]; decide +kernel
    subst e
    obtain ⟨v, hv⟩ := hs
    refine nsq_486660 ⟨v, ?_⟩
    rw [hv]; decide +kernel
  refine ⟨hne, ?_⟩
  obtain ⟨v, hv⟩ := hs
  obtain ⟨r, r0, hr⟩ := rt_486664
  have hi := mul_finv r0
  have hw0 : v ≠ 0 := by
    rintro rfl
    exact wF_ne h0 (by rw [← hv]; exact Fin.mul_zero _)
  have hv2 : (-486664 : Fp) * (v * finv r) * (v * finv r) = u * u * u + 486662 * u * u + u := by
    rw [show u * u * u + 486662 * u * u + u = wF u from rfl, ← hv, ← hr]
    generalize finv r = i at *
    have : r * r * (v * i) * (v * i) = ((r * i) * (r * i)) * (v * v) := by clear hi hv hr; grind
    rw [this, hi, Fin.one_mul, Fin.one_mul]
  obtain ⟨P, h1, -⟩ := mk_point (C := CE) (f := -486664) (v := v * finv r) (x := u) (A := 486662) (by decide +kernel) (by decide +kernel) hv2 (by decide +kernel) (fp_mul_ne hw0 (finv_ne r0)) hne
  have h2 : u * (1 - EP.y (E := ED) P) = 1 * (1 + EP.y (E := ED) P) := h1
  refine ⟨P, ?_⟩
  generalize EP.y (E := ED) P = y at *
  rw [Fin.one_mul] at h2
  have e : y * (u + 1) = u - 1 + ((1 + y) - u * (1 - y)) := by clear h1 h2 hv2; grind
  rw [e, h2, Fin.sub_self]
  exact Fin.add_zero _
end Go.Proofs.Ytnnjaijokiknkaa

