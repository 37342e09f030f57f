/- What Scale is, as a number of the field. -/
import Derived.Test.YtfajgpjpabeafaaCw
import Derived.Test.YtfajgpjpabeafaaPwMf
namespace Go.Proofs.Ytfajgpjpabeafaa
open Go Pw Go.RowKit

theorem leL_byte : ∀ (l : List Nat), (∀ b ∈ l, b < 256) → ∀ j, leL l / 256 ^ j % 256 = l.getD j 0
  | [], _, j => by simp [leL]
  | b :: l, h, 0 => by
    have hb := h b (by simp)
    show (b + 256 * leL l) / 1 % 256 = b
    omega
  | b :: l, h, j + 1 => by
    have hb := h b (by simp)
    have ih := leL_byte l (fun c hc => h c (by simp [hc])) j
    show (b + 256 * leL l) / 256 ^ (j + 1) % 256 = l.getD j 0
    rw [← ih, Nat.pow_succ, Nat.mul_comm (256 ^ j) 256, ← Nat.div_div_eq_div_mul, show (b + 256 * leL l) / 256 = leL l by omega]
theorem rkbit_test {k : K32} (hk : k.wf) (t : Nat) : rkbit k t = (leVal k).testBit t := by
  have h := leL_byte k.toList hk (t / 8)
  unfold rkbit byteAt leVal
  rw [← h, Nat.testBit_eq_decide_div_mod_eq]
  generalize leL k.toList = n
  have e : n / 2 ^ t = n / 256 ^ (t / 8) / 2 ^ (t % 8) := by
    rw [Nat.div_div_eq_div_mul, show (256 : Nat) = 2 ^ 8 from rfl, ← Nat.pow_mul, ← Nat.pow_add, Nat.div_add_mod]
  rw [e, show min (t % 8) 8 = t % 8 by omega]
  generalize n / 256 ^ (t / 8) = m
  have : t % 8 = 0 ∨ t % 8 = 1 ∨ t % 8 = 2 ∨ t % 8 = 3 ∨ t % 8 = 4 ∨ t % 8 = 5 ∨ t % 8 = 6 ∨ t % 8 = 7 := by omega
  refine decide_eq_decide.2 ?_
  rcases this with h | h | h | h | h | h | h | h <;> rw [h] <;> simp only [Nat.reducePow] <;> omega

structure RvG (r : RRungs) (s : RF) : Prop where
  oa : ok4 r.a
  ob : ok4 r.b
  oc : ok4 r.c
  od : ok4 r.d
  a : rv r.a = s.a
  b : rv r.b = s.b
  c : rv r.c = s.c
  d : rv r.d = s.d
theorem RvG.turn {r : RRungs} {s : RF} (h : RvG r s) : RvG (turnRg r) s.turn := ⟨h.oc, h.od, h.oa, h.ob, h.c, h.d, h.a, h.b⟩
theorem sqR4_ok {x : L4} (h : ok4 x) : ok4 (sqR4 x) := rmul_ok h h
theorem rv_sq4 {x : L4} (h : ok4 x) : rv (sqR4 x) = rv x * rv x := rv_mul h h
theorem toF_121665 : toF 121665 = (121665 : Fp) := by decide +kernel
theorem RvG.step {r : RRungs} {s : RF} {x : L4} (h : RvG r s) (hx : ok4 x) : RvG (rstepRg concFOps x r) (stepF (rv x) s) := by
  rw [rstep_conc]
  obtain ⟨oa, ob, oc, od, ha, hb, hc, hd⟩ := h
  have K : ok4 (smallR 121665) := rsmall_ok (by decide)
  have e := radd_ok oa ob
  have f := rsub_ok oa ob
  have g := radd_ok oc od
  have i := rsub_ok oc od
  have y := sqR4_ok e
  have z := sqR4_ok f
  have w := rsub_ok y z
  have m := rmul_ok i e
  have n := rmul_ok g f
  have kw := rmul_ok K w
  have p := radd_ok m n
  have q := rsub_ok m n
  refine ⟨rmul_ok y z, rmul_ok w (radd_ok y kw), sqR4_ok p, rmul_ok hx (sqR4_ok q), ?_, ?_, ?_, ?_⟩
  · dsimp only [stepF]
    rw [rv_mul y z, rv_sq4 e, rv_sq4 f, rv_add oa ob, rv_sub oa ob, ha, hb]
  · dsimp only [stepF]
    rw [rv_mul w (radd_ok y kw), rv_add y kw, rv_mul K w, rv_sub y z, rv_sq4 e, rv_sq4 f, rv_add oa ob, rv_sub oa ob, rv_small (by decide), toF_121665, ha, hb]
  · dsimp only [stepF]
    rw [rv_sq4 p, rv_add m n, rv_mul i e, rv_mul g f, rv_sub oc od, rv_add oc od, rv_add oa ob, rv_sub oa ob, ha, hb, hc, hd]
  · dsimp only [stepF]
    rw [rv_mul hx (sqR4_ok q), rv_sq4 q, rv_sub m n, rv_mul i e, rv_mul g f, rv_sub oc od, rv_add oc od, rv_add oa ob, rv_sub oa ob, ha, hb, hc, hd]
theorem lad_rv {k : K32} (hk : k.wf) {x : L4} (hx : ok4 x) : ∀ i, RvG (ladD concFOps k x ⟨smallR 1, smallR 0, x, smallR 1⟩ i) (ladF (leVal k).testBit (rv x) i)
  | 0 => ⟨rsmall_ok (by decide), rsmall_ok (by decide), hx, rsmall_ok (by decide), (rv_small (by decide)).trans toF_one, (rv_small (by decide)).trans toF_zero, rfl, (rv_small (by decide)).trans toF_one⟩
  | i + 1 => by
    have ih := lad_rv hk hx i
    rw [show ladD concFOps k x ⟨smallR 1, smallR 0, x, smallR 1⟩ (i + 1) = bif rkbit k (254 - i) then turnRg (rstepRg concFOps x (turnRg (ladD concFOps k x ⟨smallR 1, smallR 0, x, smallR 1⟩ i))) else rstepRg concFOps x (ladD concFOps k x ⟨smallR 1, smallR 0, x, smallR 1⟩ i) from rfl,
      ladF, rkbit_test hk, roundF]
    generalize ladD concFOps k x ⟨smallR 1, smallR 0, x, smallR 1⟩ i = r at *
    generalize ladF (leVal k).testBit (rv x) i = s at *
    generalize (leVal k).testBit (254 - i) = c
    cases c
    · rw [cond_false, cond_false]; exact ih.step hx
    · rw [cond_true, cond_true]; exact (ih.turn.step hx).turn
/-- the scalar of a key, and the number of one -/
def scalarK (k : K32) : Nat := leVal (clampR k)
def numK (u : K32) : Fp := toF (leVal u % B255)
theorem scale_val {k u : K32} (hk : k.wf) (hu : u.wf) : (scaleO concFOps k u).wf ∧ leVal (scaleO concFOps k u) = (scaleF (scalarK k).testBit (numK u)).val := by
  have e2 : rscaleO concFOps k u = bytesR4 (mulR (rladEnd concFOps (clampR k) (fromR u)).a (rinvO concFOps (rladEnd concFOps (clampR k) (fromR u)).b)) := by kernel_rfl
  have h := lad_rv (clampR_wf hk) (rfrom_ok hu) 255
  have e3 : rladEnd concFOps (clampR k) (fromR u) = ladD concFOps (clampR k) (fromR u) ⟨smallR 1, smallR 0, fromR u, smallR 1⟩ 255 := by kernel_rfl
  rw [scale_eq hk hu, e2, e3]
  obtain ⟨i1, i2⟩ := rinv_rv h.ob
  refine ⟨bytesR_wf _, ?_⟩
  rw [rbytes_val (rmul_ok h.oa i1), rv_mul h.oa i1, i2, h.a, h.b, rv_from hu]
  rfl
set_option maxRecDepth 100000 in
theorem clamp_split (k : K32) : leVal (clampR k) = k.b0 / 8 * 8 % 256 + 256 * (leL (midOf k) + 1766847064778384329583297500742918515827483896875618958121606201292619776 * ((k.b31 % 64 + 64) % 256)) := by
  show leL (clampR k).toList = k.b0 / 8 * 8 % 256 + 256 * (leL [k.b1, k.b2, k.b3, k.b4, k.b5, k.b6, k.b7, k.b8, k.b9, k.b10, k.b11, k.b12, k.b13, k.b14, k.b15, k.b16, k.b17, k.b18, k.b19, k.b20, k.b21, k.b22, k.b23, k.b24, k.b25, k.b26, k.b27, k.b28, k.b29, k.b30] + 1766847064778384329583297500742918515827483896875618958121606201292619776 * ((k.b31 % 64 + 64) % 256))
  simp only [leL, K32.toList, clampR]
  generalize (k.b31 % 64 + 64) % 256 = z
  generalize k.b0 / 8 * 8 % 256 = y
  omega
theorem scalar_lt {k : K32} (hk : k.wf) : scalarK k < 2 ^ 255 ∧ 2 ^ 254 ≤ scalarK k ∧ scalarK k % 8 = 0 := by
  have hm : ∀ b ∈ midOf k, b < 256 := fun b hb => hk b (by
    unfold midOf at hb
    exact List.mem_of_mem_drop (List.mem_of_mem_take hb))
  have h1 := (leL_max (midOf k) hm).1
  have hl : (midOf k).length = 30 := rfl
  rw [hl] at h1
  unfold scalarK
  rw [clamp_split]
  have e30 : (256 : Nat) ^ 30 = 1766847064778384329583297500742918515827483896875618958121606201292619776 := by decide +kernel
  have e255 : (2 : Nat) ^ 255 = 57896044618658097711785492504343953926634992332820282019728792003956564819968 := by decide +kernel
  have e254 : (2 : Nat) ^ 254 = 28948022309329048855892746252171976963317496166410141009864396001978282409984 := by decide +kernel
  rw [e30] at h1
  rw [e255, e254]
  generalize leL (midOf k) = m at *
  have hz : (k.b31 % 64 + 64) % 256 < 128 ∧ 64 ≤ (k.b31 % 64 + 64) % 256 := by omega
  have hy : k.b0 / 8 * 8 % 256 < 256 ∧ k.b0 / 8 * 8 % 256 % 8 = 0 := by omega
  generalize (k.b31 % 64 + 64) % 256 = z at *
  generalize k.b0 / 8 * 8 % 256 = y at *
  omega
theorem numK_val {x : K32} {y : Fp} (h : leVal x = y.val) : numK x = y := by
  unfold numK
  refine fp_ext ?_
  have := fp_lt y
  rw [toF_val, h, Nat.mod_eq_of_lt (Nat.lt_of_lt_of_le this (show PP ≤ B255 by decide +kernel)), Nat.mod_eq_of_lt this]
theorem scale_num {k u : K32} (hk : k.wf) (hu : u.wf) : numK (scaleO concFOps k u) = scaleF (scalarK k).testBit (numK u) := numK_val (scale_val hk hu).2
/-- Scale hangs on the scalar and the number alone -/
theorem scale_congr {k k' u u' : K32} (hk : k.wf) (hk' : k'.wf) (hu : u.wf) (hu' : u'.wf) (h1 : scalarK k = scalarK k') (h2 : numK u = numK u') : scaleO concFOps k u = scaleO concFOps k' u' := by
  obtain ⟨w1, v1⟩ := scale_val hk hu
  obtain ⟨w2, v2⟩ := scale_val hk' hu'
  exact leVal_inj w1 w2 (by rw [v1, v2, h1, h2])
theorem turns {a b u : K32} (ha : a.wf) (hb : b.wf) (hu : u.wf) : scaleO concFOps a (scaleO concFOps b u) = scaleO concFOps b (scaleO concFOps a u) := by
  obtain ⟨w1, v1⟩ := scale_val hb hu
  obtain ⟨w2, v2⟩ := scale_val ha hu
  obtain ⟨w3, v3⟩ := scale_val ha w1
  obtain ⟨w4, v4⟩ := scale_val hb w2
  have la := scalar_lt ha
  have lb := scalar_lt hb
  refine leVal_inj w3 w4 ?_
  rw [v3, v4, scale_num hb hu, scale_num ha hu, scale_turns la.1 lb.1 (by omega) (by omega)]
theorem clamp_twice {k : K32} (hk : k.wf) : clampR (clampR k) = clampR k := by
  have hm : ∀ c ∈ k.toList, c < 256 := hk
  simp only [K32.toList, List.mem_cons, List.not_mem_nil, or_false, forall_eq_or_imp, forall_eq] at hm
  simp only [clampR, K32.mk.injEq, true_and]
  omega
end Go.Proofs.Ytfajgpjpabeafaa

