/- EdwardsAll: a round. -/
import Derived.Test.YtpmbfepkdjkheaaGreatIm
namespace Go.Proofs.YtpmbfepkdjkheaaGreat
open Go Pw Go.RowKit
theorem eR_S (n : Nat) (i : Int) (is right : Bool) (to ot : N4) : eR n i is right to ot (sS is) = eQ n i to ot ((9, .bool is) :: (10, .bool right) :: sS is) := by kernel_rfl
theorem eR_N (n : Nat) (i : Int) (is right r : Bool) (to ot : N4) (q : OpE) : eR n i is right to ot (sN q is r) = eQ n i to ot ((9, .bool is) :: (10, .bool right) :: sN q is r) := by kernel_rfl
theorem eaX_out (n : Nat) (i : Int) (w : WE) : eaO (.exit 2) (ee (eaE n i ++ e28 n i)) (eaM w) = some (.exit 2, eaE n i, eaM w) := by kernel_rfl
theorem ea_last (A : AOps) (t : Int → N4) (F : OpE → WE → EW) (G : OpE → WE → NW) (n : Nat) (i : Int) (w : WE) (h : ¬ i < (n : Int)) :
    codeK (X_ea A t F G) [] eaF.ntmps [0,2,3,4,5,6,7,8,9,10,11,12,16,28,50,51,52,53,54,55,56,57,58,77,78,79,80,81,84,85,86,87,88,89,90,91,92,93,94,95,96,97,98,99,100,101,108,109,110,111,112,115,116,117,118,119,120,121,122,123,124,125,126,127,128,129,132,133,134,135,136,137,138,139,140,141,142,143,144,145,146,147] 100 eaB (eaE n i) (eaM w) eaO = some (.exit 2, eaE n i, eaM w) := by
  rw [eaB_eq, codeK_seq, eaP_h, brn_eq, decide_eq_false h, cond_false, thenC_exit, eaX_out]
/-- the world behind one round -/
noncomputable def eaW (F : OpE → WE → EW) (G : OpE → WE → NW) (q : OpE) (w : WE) : WE := brn (!(F q (wR w)).is) (G q (wR (F q (wR w)).w)).w (F q (wR w)).w
theorem ea_round (A : AOps) (t : Int → N4) (F : OpE → WE → EW) (G : OpE → WE → NW) (n p : Nat) (i : Int) (q : OpE) (w : WE) (h1 : 0 ≤ i) (h2 : i < (n : Int)) (h3 : Nat.beq (0 + i.toNat * 39) p = true) (h4 : q.data.length ≤ 140737488351232)
    (h5 : (F q (wR w)).right = true) (h6 : (F q (wR w)).is = false → (G q (wR (F q (wR w)).w)).r = true) (h7 : ∀ c ∈ eaQ A (eaW F G q w) (t q.to) (t q.other), c = false) :
    codeK (X_ea A t F G) [] eaF.ntmps [0,2,3,4,5,6,7,8,9,10,11,12,16,28,50,51,52,53,54,55,56,57,58,77,78,79,80,81,84,85,86,87,88,89,90,91,92,93,94,95,96,97,98,99,100,101,108,109,110,111,112,115,116,117,118,119,120,121,122,123,124,125,126,127,128,129,132,133,134,135,136,137,138,139,140,141,142,143,144,145,146,147] 100 eaB (eaE n i) (eaM1 p q w) eaO = some (.normal, eaE n (w64 (i + 1)), eaM (eaW F G q w)) := by
  have hg : ∀ c ∈ [decide (q.data.length = q.data.length ∧ q.data.length ≤ 140737488351232)], c = true := by
    intro c hc
    simp only [List.mem_cons, List.not_mem_nil, or_false] at hc
    rw [hc]; exact decide_eq_true ⟨trivial, h4⟩
  have hk : eaT A t F G = blkC 3 (thenC (fun env mem => codeK (X_ea A t F G) [] eaF.ntmps [0,2,3,4,5,6,7,8,9,10,11,12,16,28,50,51,52,53,54,55,56,57,58,77,78,79,80,81,84,85,86,87,88,89,90,91,92,93,94,95,96,97,98,99,100,101,108,109,110,111,112,115,116,117,118,119,120,121,122,123,124,125,126,127,128,129,132,133,134,135,136,137,138,139,140,141,142,143,144,145,146,147] 98 ea8 env mem eaO) eaO) := rfl
  rw [eaB_eq, codeK_seq, eaP_h, brn_eq, decide_eq_true h2, cond_true, thenC_normal, codeK_seq, codeK_block, ← hk, codeK_seq, ea9_h, gds_true (by
      intro c hc
      simp only [List.mem_cons, List.not_mem_nil, or_false] at hc
      rcases hc with rfl | rfl
      · exact decide_eq_true ⟨h1, h2⟩
      · rw [h3]; rfl), thenC_normal, codeK_seq, ea10_h, r4_eq, r4_eq, thenC_normal, codeK_seq, ea11_h, gds_true hg, thenC_normal, codeK_seq, ea12_h, h5, Bool.not_true, brn_false]
  unfold eaW at h7 ⊢
  cases his : (F q (wR w)).is with
  | true =>
    rw [his, Bool.not_true, brn_false] at h7
    rw [Bool.not_true, brn_false, brn_false, thenC_normal, eR_S]
    exact (eaS_h A t F G n p i q (F q (wR w)).w _ (t q.to) (t q.other)).trans (orB_false h7)
  | false =>
    rw [his, Bool.not_false, brn_true] at h7
    rw [Bool.not_false, brn_true, brn_true, gds_true hg, h6 his, Bool.not_true, brn_false, thenC_normal, eR_N]
    exact (eaN_h A t F G n p i q (G q (wR (F q (wR w)).w)).w _ (t q.to) (t q.other)).trans (orB_false h7)
end Go.Proofs.YtpmbfepkdjkheaaGreat

