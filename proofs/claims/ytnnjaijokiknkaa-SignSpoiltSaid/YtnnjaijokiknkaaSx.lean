/- Layer 20: what was signed is taken (by value). -/
import Derived.Test.YtnnjaijokiknkaaSw
namespace Go.Proofs.Ytnnjaijokiknkaa
open Go Pw Go.RowKit
variable {g : GOps}
theorem hash64 (H : GGood g) (t : List Nat) : (∀ c ∈ resp 64 (g.hash t), c < 256) := by
  rw [resp_eq (H.hb t).2]; exact (H.hb t).1
theorem red_any (H : GGood g) (t : List Nat) : NK (redG g t) (leB (resp 64 (g.hash t)) % LN) := red_nk H t rfl (hash64 H t) rfl
theorem sec_b31 (k : K32) : (clampS k).b31 = k.b31 &&& 127 ||| 64 := rfl
theorem sec_b0 (k : K32) : (clampS k).b0 = k.b0 &&& 248 := rfl
theorem low8 {l : List Nat} {b : Nat} : leL (b :: l) % 256 = b % 256 := by
  show (b + 256 * leL l) % 256 = b % 256
  omega
theorem sec_bounds {k : K32} (hk : k.wf) : ∃ m, leVal (clampS k) = 8 * m ∧ 0 < m ∧ m < LN := by
  have hm : ∀ c ∈ k.toList, c < 256 := hk
  simp only [K32.toList, List.mem_cons, List.not_mem_nil, or_false, forall_eq_or_imp, forall_eq] at hm
  have hw : (clampS k).wf := clampS_wf hk
  obtain ⟨r, h1, h2⟩ := hi_low hw
  have e31 : (clampS k).b31 = (k.b31 % 64 + 64) % 256 := (sec_b31 k).trans (byte_high _ (by omega))
  have e0 : (clampS k).b0 = k.b0 / 8 * 8 % 256 := (sec_b0 k).trans (byte_low _ (by omega))
  have h3 : leVal (clampS k) % 256 = (clampS k).b0 % 256 := low8
  rw [e31] at h1
  rw [e0] at h3
  generalize leVal (clampS k) = v at *
  clear e31 e0 hw hk
  have hb : k.b0 < 256 := hm.1
  have hc : (k.b31 % 64 + 64) % 256 < 128 ∧ 64 ≤ (k.b31 % 64 + 64) % 256 := by omega
  generalize (k.b31 % 64 + 64) % 256 = y at *
  generalize k.b0 = x at *
  clear hm
  refine ⟨v / 8, by omega, by omega, ?_⟩
  unfold LN
  omega
theorem B64_ne : BP.mul 64 ≠ EP.zero ED := mul_ne (f := 7) (by decide +kernel) (by decide +kernel)
theorem LN_pr : Pr LN := LL_prime
theorem eight_ne {m : Nat} (h0 : 0 < m) (hm : m < LN) : BP.mul (8 * m * 8) ≠ EP.zero ED := by
  intro e
  refine B64_ne (EP.mul_prime LN_pr (m := m) ?_ ?_ h0 hm)
  · rw [← EP.mul_mul, Nat.mul_comm, EP.mul_mul, BP_order, EP.zero_mul]
  · rw [← EP.mul_mul, show 64 * m = 8 * m * 8 by omega]; exact e
theorem resp_two (a b : K32) : resp 64 (a.toList ++ b.toList) = a.toList ++ b.toList := resp_eq rfl
theorem key_0 (a b : K32) : keyAt (a.toList ++ b.toList) 0 = a := rfl
theorem key_32 (a b : K32) : keyAt (a.toList ++ b.toList) 32 = b := rfl
theorem eqn (a c r : Nat) : (BP.mul ((r + c * (a % LN) % LN) % LN)).add ((BP.mul a).mul c).neg = BP.mul r := by
  have e : BP.mul (c * (a % LN) % LN) = (BP.mul a).mul c := by
    rw [BP_mod, Nat.mul_comm, EP.mul_mul, BP_mod]
  rw [BP_mod, EP.mul_add, e, EP.add_assoc, EP.add_neg, EP.add_zero]
/-- a secret, its public key -/
theorem made_right (H : GGood g) {r s a : K32} {n m : Nat} {b : List Nat} (hr : NK r n) (hs : NK s (8 * m % LN)) (ha : EncK a (BP.mul (8 * m))) (h0 : 0 < m) (hm : m < LN) : checkV g a b (madeV g r s a b) = 0 := by
  obtain ⟨h1, h2⟩ := enc_inj ha (H.e.parse ha.wf)
  have hP : EncK (mdP g r) (BP.mul n) := by
    have := H.e.bytes (H.e.times H.e.base hr.wf)
    rwa [hr.val] at this
  have hc : NK (mdC g r a b) _ := red_any H _
  have hS : NK (mdS g r s a b) _ := H.e.sadd hr (H.e.smul hc hs)
  have hsm : g.e.small (g.e.parse a).1 = false := by
    rw [H.e.small h2]
    refine decide_eq_false fun e => eight_ne h0 hm ?_
    unfold eightP at e
    rw [mul_dbl, mul_dbl, mul_dbl, eight_m] at e
    exact e
  have hw : hlW g (madeV g r s a b) = (mdS g r s a b, 0) := by
    unfold hlW madeV
    rw [key_32, H.e.swhole hS.wf]
    rw [hS.val, decide_eq_true hS.lt, cond_true]
  have hC : hlC g (g.e.parse a).1 b (madeV g r s a b) = mdC g r a b := by
    unfold hlC madeV mdC
    rw [key_0, (H.e.bytes h2).uniq ha]
  have hB := H.e.bytes (H.e.psub (H.e.times H.e.base hS.wf) (H.e.times h2 hc.wf))
  rw [hS.val, hc.val, eqn] at hB
  have hk : keyEq (hlB g (g.e.parse a).1 b (madeV g r s a b)) (keyAt (madeV g r s a b) 0) = true := by
    unfold hlB
    rw [hw, hC]
    unfold madeV
    rw [key_0]
    exact encK_same hB hP
  unfold checkV holdV
  rw [h1, hsm, hw, hk]
  rfl
theorem right_check (H : GGood g) {s b : List Nat} (h32 : is32 s = true) : checkV g (pubV g s) b (resp 64 (signV g s b)) = 0 := by
  have hkw : (keyAt (g.hash s) 0).wf := keyAt_wf (H.hb s).1 0
  obtain ⟨m, e, h0, hm⟩ := sec_bounds hkw
  have ew : (secK g s).wf := clampS_wf hkw
  have ev : leVal (secK g s) = 8 * m := e
  have hA := H.e.bytes (H.e.scale (b := (secK g s).toList) H.e.base ew)
  rw [leB_key, ev] at hA
  have hs : NK (sgS g s) (8 * m % LN) := by
    have := H.e.sred (b := (secK g s).toList) ew
    rw [leB_key, ev] at this
    exact this
  have hp : pubV g s = pubK g s := by unfold pubV; rw [h32]; rfl
  have hv : signV g s b = madeV g (sgR g s b) (sgS g s) (pubK g s) b := by unfold signV; rw [h32]; rfl
  have hl : resp 64 (madeV g (sgR g s b) (sgS g s) (pubK g s) b) = madeV g (sgR g s b) (sgS g s) (pubK g s) b := resp_eq rfl
  rw [hp, hv, hl]
  exact made_right H (red_any H _) hs hA h0 hm
end Go.Proofs.Ytnnjaijokiknkaa

