/- Layer 20: the known answers, as the code gives them. -/
import Derived.Test.YtnnjaijokiknkaaSv
namespace Go.Proofs.Ytnnjaijokiknkaa
open Go Pw Go.RowKit
variable {g : GOps}
theorem enc_inj {k : K32} {P : EPt} {r : Rungs × Int} (h : EncK k P) (hp : (∃ Q, EncK k Q ∧ r.2 = 0 ∧ PO r.1 Q) ∨ ((∀ Q, ¬ EncK k Q) ∧ r.2 = 190 ∧ PO r.1 (EP.zero ED))) : r.2 = 0 ∧ PO r.1 P := by
  rcases hp with ⟨Q, h1, h2, h3⟩ | ⟨h1, -, -⟩
  · rw [h.inj h1]; exact ⟨h2, h3⟩
  · exact absurd h (h1 P)
theorem red_nk (H : GGood g) (t : List Nat) {n : Nat} {v : List Nat} (hv : g.hash t = v) (h1 : ∀ c ∈ resp 64 v, c < 256) (h2 : leB (resp 64 v) % LN = n) : NK (redG g t) n := by
  have := H.e.sred h1
  rw [h2, ← hv] at this
  exact this
theorem v_pub (H : GGood g) (hh : ∀ b, g.hash b = hashV concS b) : pubK g hxL1 = kA ∧ (secK g hxL1).wf ∧ leVal (secK g hxL1) = vA := by
  have e1 : secK g hxL1 = clampS (keyAt vH1 0) := by unfold secK; rw [hh, vh1]
  have w1 : (secK g hxL1).wf := by rw [e1]; exact clampS_wf (keyAt_wf vH1_lt 0)
  have v1 : leVal (secK g hxL1) = vA := by rw [e1, vA_val]
  have h := H.e.bytes (H.e.scale (b := (secK g hxL1).toList) H.e.base w1)
  rw [leB_key, v1] at h
  exact ⟨h.uniq A_enc, w1, v1⟩
theorem is32_hx : is32 hxL1 = true := by decide +kernel
theorem v_sign (H : GGood g) (hh : ∀ b, g.hash b = hashV concS b) : signV g hxL1 [] = hxL3 := by
  obtain ⟨p1, p2, p3⟩ := v_pub H hh
  have hr : NK (sgR g hxL1 []) vR := by
    refine red_nk H _ (v := vH2) ?_ vH2_lt vR_val
    unfold preL
    rw [hh hxL1, vh1, hh, vh2]
  have hP : mdP g (sgR g hxL1 []) = kR := by
    have h := H.e.bytes (H.e.times H.e.base hr.wf)
    rw [hr.val] at h
    exact h.uniq R_enc
  have hc : NK (mdC g (sgR g hxL1 []) kA []) vK := by
    refine red_nk H _ (v := vH3) ?_ vH3_lt vK_val
    rw [hP, hh, vh3]
  have hs : NK (sgS g hxL1) (vA % LN) := by
    have := H.e.sred (b := (secK g hxL1).toList) p2
    rw [leB_key, p3] at this
    exact this
  have hS := H.e.sadd hr (H.e.smul hc hs)
  rw [vS_val] at hS
  have eS : mdS g (sgR g hxL1 []) (sgS g hxL1) kA [] = kS := leVal_inj hS.wf kS_wf (by rw [kS_val]; exact hS.val)
  unfold signV
  rw [is32_hx, cond_true, p1]
  unfold madeV
  rw [hP, eS]
  decide +kernel
theorem hx_key0 : keyAt hxL3 0 = kR := rfl
theorem hx_key32 : keyAt hxL3 32 = kS := rfl
theorem v_whole (H : GGood g) : hlW g hxL3 = (kS, 0) := by
  unfold hlW
  rw [hx_key32, H.e.swhole kS_wf, kS_val, decide_eq_true vS_lt, cond_true]
/-- what Check holds against R -/
theorem v_hold (H : GGood g) {p : Rungs} (hp : PO p (BP.mul vA)) {b : List Nat} {n : Nat} (hc : NK (hlC g p b hxL3) n) : EncK (hlB g p b hxL3) ((BP.mul vS).add (BP.mul (vA * n)).neg) := by
  have h := H.e.bytes (H.e.psub (H.e.times H.e.base kS_wf) (H.e.times hp hc.wf))
  rw [kS_val, hc.val, ← EP.mul_mul] at h
  unfold hlB
  rw [v_whole H]
  exact h
theorem eight_m (n : Nat) : 2 * (2 * (2 * n)) = n * 8 := by omega
theorem v_small (H : GGood g) {p : Rungs} (hp : PO p (BP.mul vA)) : g.e.small p = false := by
  rw [H.e.small hp]
  refine decide_eq_false fun e => A_eight ?_
  unfold eightP at e
  rw [mul_dbl, mul_dbl, mul_dbl, eight_m] at e
  exact e
theorem v_bytes (H : GGood g) {p : Rungs} (hp : PO p (BP.mul vA)) : g.e.bytes p = kA := (H.e.bytes hp).uniq A_enc
theorem v_check (H : GGood g) (hh : ∀ b, g.hash b = hashV concS b) : checkV g kA [] hxL3 = 0 := by
  obtain ⟨h1, h2⟩ := enc_inj A_enc (H.e.parse kA_wf)
  have hc : NK (hlC g (g.e.parse kA).1 [] hxL3) vK := by
    refine red_nk H _ (v := vH3) ?_ vH3_lt vK_val
    rw [v_bytes H h2, hx_key0, hh, vh3]
  have hB := v_hold H h2 hc
  have e : (BP.mul vS).add (BP.mul (vA * vK)).neg = BP.mul vR := by
    rw [← vS_val2, BP_mod, EP.mul_add, EP.add_assoc, EP.add_neg, EP.add_zero]
  rw [e] at hB
  unfold checkV holdV
  have hk : keyEq kR kR = true := by rw [encK_same R_enc R_enc]
  rw [h1, v_small H h2, v_whole H, hx_key0, hB.uniq R_enc, hk]
  rfl
theorem v_ne : (BP.mul vS).add (BP.mul (vA * vK4)).neg ≠ BP.mul vR := by
  intro e
  have e5 : BP.mul vT = (BP.mul vR).add (BP.mul (vA * vK4)) := by
    rw [← vT_val]
    exact (BP_mod _).trans (EP.mul_add _ _ _)
  have e6 : ((BP.mul vS).add (BP.mul (vA * vK4)).neg).add (BP.mul (vA * vK4)) = BP.mul vS := by
    rw [EP.add_assoc, EP.neg_add, EP.add_zero]
  rw [e, ← e5] at e6
  exact S_ne_T e6.symm
theorem other_key {k : K32} (h : EncK k ((BP.mul vS).add (BP.mul (vA * vK4)).neg)) : keyEq k kR = false := by
  cases hk : keyEq k kR
  · rfl
  · have e : k = kR := leVal_inj h.wf kR_wf (of_decide_eq_true ((key_eq_iff h.wf kR_wf).symm.trans hk))
    rw [e] at h
    exact absurd (h.inj R_enc) v_ne
theorem v_other (H : GGood g) (hh : ∀ b, g.hash b = hashV concS b) : checkV g kA [0] hxL3 = 201 := by
  obtain ⟨h1, h2⟩ := enc_inj A_enc (H.e.parse kA_wf)
  have hc : NK (hlC g (g.e.parse kA).1 [0] hxL3) vK4 := by
    refine red_nk H _ (v := vH4) ?_ vH4_lt vK4_val
    rw [v_bytes H h2, hx_key0, hh, vh4]
  have hB := v_hold H h2 hc
  have hk : keyEq (hlB g (g.e.parse kA).1 [0] hxL3) kR = false :=
    other_key hB
  unfold checkV holdV
  rw [h1, v_small H h2, v_whole H, hx_key0, hk, decide_eq_true rfl]
  rfl
def k1 : K32 := { zeroK with b0 := 1 }
def k2 : K32 := { zeroK with b0 := 2 }
theorem k1_wf : k1.wf := all_lt (by decide +kernel)
theorem k2_wf : k2.wf := all_lt (by decide +kernel)
theorem k1_enc : EncK k1 (EP.zero ED) := ⟨k1_wf, by decide +kernel⟩
theorem eight_zero : eightP (EP.zero ED) = EP.zero ED := by unfold eightP; rw [EP.zero_add, EP.zero_add, EP.zero_add]
theorem v_one (H : GGood g) (b t : List Nat) : checkV g k1 b t = 200 := by
  obtain ⟨h1, h2⟩ := enc_inj k1_enc (H.e.parse k1_wf)
  unfold checkV holdV
  rw [h1, H.e.small h2, eight_zero, decide_eq_true rfl, decide_eq_true rfl]
  rfl
theorem k2_y : toF (leVal k2 % B255) = 2 := by decide +kernel
theorem two_off : ¬ isSq (toF (3 * (4 * DN + 1))) := nsq_of (by decide +kernel) (by decide +kernel)
theorem k2_off (P : EPt) : ¬ EncK k2 P := by
  intro h
  have hy := h.point.y
  rw [k2_y] at hy
  have on := ed_on P
  rw [hy] at on
  refine two_off ⟨P.x * (4 * DF + 1), ?_⟩
  have e : toF (3 * (4 * DN + 1)) = 3 * (4 * DF + 1) := by
    rw [toF_mul, toF_add, toF_mul, DN_val]
    rfl
  rw [e]
  generalize P.x = x at *
  generalize DF = d at *
  have e2 : x * (4 * d + 1) * (x * (4 * d + 1)) = 3 * (4 * d + 1) - (4 * d + 1) * ((2 * 2 - x * x) - (1 + d * x * x * 2 * 2)) := by clear on hy e; grind
  rw [e2, on, Fin.sub_self, Fin.mul_zero]
  clear on hy e e2
  grind
theorem v_two (H : GGood g) (b t : List Nat) : checkV g k2 b t = 190 := by
  rcases H.e.parse k2_wf with ⟨Q, h1, -, -⟩ | ⟨-, h2, -⟩
  · exact absurd h1 (k2_off Q)
  · unfold checkV
    rw [h2]
    rfl
/-! ### the walk -/
def svA : List Nat := List.take 32 (List.drop 0 hxL1)
noncomputable def svT (g : GOps) : Option (AV × Option Blk) :=
  brn (!((strOf (pubV g svA).toList).toList == (strOf (List.take 32 (List.drop 0 hxL2))).toList)) noB
   (brn (!((strOf (resp 64 (signV g svA []))).toList == (strOf (List.take 64 (List.drop 0 hxL3))).toList)) noB
    (brn (decide (checkV g (pubV g svA) [] (resp 64 (signV g svA [])) = 0)) (brn (decide (checkV g k1 [] (resp 64 (signV g svA [])) = 200)) (brn (decide (checkV g k2 [] (resp 64 (signV g svA [])) = 190))
      (some (.bool (decide (checkV g (pubV g svA) (List.take 1 (List.drop 0 [Int.toNat 0])) (resp 64 (signV g svA [])) = 201)), none)) noB) noB) noB))
theorem svT_run (g : GOps) : runNL (X_hex g) [] [0,1,2,3,4,5,20,21,24,25,26,27,28,29,34,40,41,42,43,46,47,48,49,52,53,54,55,56] 900 Try.f15 (bodyOf Try.f15) (laArgs [] 0) (laLists []) = svT g := by kernel_rfl
theorem svA_eq : svA = hxL1 := by decide +kernel
theorem kA_list : kA.toList = hxL2 := by decide +kernel
theorem hx2_eq : List.take 32 (List.drop 0 hxL2) = hxL2 := by decide +kernel
theorem hx3_eq : List.take 64 (List.drop 0 hxL3) = hxL3 := by decide +kernel
theorem resp_hx3 : resp 64 hxL3 = hxL3 := by decide +kernel
theorem zero_list : List.take 1 (List.drop 0 [Int.toNat 0]) = [0] := by decide +kernel
theorem svT_true (H : GGood g) (hh : ∀ b, g.hash b = hashV concS b) : svT g = some (.bool true, none) := by
  have hp : pubV g hxL1 = kA := by unfold pubV; rw [is32_hx, cond_true]; exact (v_pub H hh).1
  unfold svT
  rw [svA_eq, hp, kA_list, hx2_eq, v_sign H hh, hx3_eq, resp_hx3, zero_list, v_check H hh, v_one H, v_two H, v_other H hh, beq_self_eq_true, beq_self_eq_true]
  rfl
theorem concGO_hash (b : List Nat) : concGO.hash b = hashV concS b := rfl
theorem vectors20_run (g : GOps)  : runNL (X_hex g) [] [0,1,2,3,4,5,20,21,24,25,26,27,28,29,34,40,41,42,43,46,47,48,49,52,53,54,55,56] 900 Try.f15 (bodyOf Try.f15) (laArgs [] 0) (laLists []) = svT g := by
  kernel_rfl
def g_vectors20 (_ : GOps) (args : List LA) : Option (AV × Option Blk) := match args with
  | [] => some (.bool true, none)
  | _ => none
theorem vectors20_at : QuietAt Try.prog 15 (lav (g_vectors20 concGO)) := by
  refine quietAt_of_runA X_hex_ok (L := []) (keep := [0,1,2,3,4,5,20,21,24,25,26,27,28,29,34,40,41,42,43,46,47,48,49,52,53,54,55,56]) Try.func15 (c := bodyOf Try.f15) (by kernel_rfl) (by kernel_rfl) (LoopsOK.nil) fun args v h hw => ⟨900, ?_⟩
  unfold g_vectors20 at h
  split at h
  · skip
    rw [← h]
    refine (vectors20_run concGO ).trans ?_
    exact svT_true concGG concGO_hash
  · cases h
noncomputable def X_vectors20 (g : GOps) : Cx := { X_hex g with O := addQ (X_hex g).O 15 (lav (g_vectors20 g)) }
theorem X_vectors20_ok : CxOK Try.prog (X_vectors20 concGO) := { X_hex_ok with quiet := addQ_ok X_hex_ok.quiet vectors20_at }
end Go.Proofs.Ytnnjaijokiknkaa

