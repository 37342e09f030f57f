/- EdwardsAll: the contract of numbers (printed by wip/tools/genii.py). -/
import Derived.Test.YtpmbfepkdjkheaaGreatIf
import Derived.Test.YtpmbfepkdjkheaaGreatIh
import Derived.Test.YtpmbfepkdjkheaaGreatIj
import Derived.Test.YtpmbfepkdjkheaaGreatIk
import Derived.Test.YtpmbfepkdjkheaaGreatPwMj
namespace Go.Proofs.YtpmbfepkdjkheaaGreat
open Go Pw Go.RowKit
structure NW where
  w : WE
  r : Bool
noncomputable def enV (A : AOps) (q : OpE) (to a b : N4) (w : WE) : NW := brn (decide (q.kind = 9)) ⟨enS w to (A.e.sred q.data) (A.rred q.data), true⟩
    (brn (decide (q.kind = 10)) ⟨enS w to ((A.e.swhole q.key).1) ((A.rwhole q.key).1), decide ((A.e.swhole q.key).2 = (A.rwhole q.key).2)⟩
    (brn (decide (q.kind = 11)) ⟨enS w to (A.e.sadd (w.s.get a) (w.s.get b)) (A.rsadd (resp 16 (w.t.get a)) (resp 16 (w.t.get b))), true⟩
    (brn (decide (q.kind = 12)) ⟨enS w to (A.e.ssub (w.s.get a) (w.s.get b)) (A.rssub (resp 16 (w.t.get a)) (resp 16 (w.t.get b))), true⟩
    (brn (decide (q.kind = 13)) ⟨enS w to (A.e.smul (w.s.get a) (w.s.get b)) (A.rsmul (resp 16 (w.t.get a)) (resp 16 (w.t.get b))), true⟩
    (brn (decide (q.kind = 14)) ⟨enS w to (A.e.sneg (w.s.get a)) (A.rsneg (resp 16 (w.t.get a))), true⟩
    (⟨w, true⟩))))))
theorem enG1 (q : OpE) (h : q.data.length ≤ 140737488351232) : ∀ c ∈ [decide (q.data.length = q.data.length ∧ q.data.length + 32 ≤ maxRoom)], c = true := by
  have hm : maxRoom = 175921860444160 := rfl
  intro c hc
  simp only [List.mem_cons, List.not_mem_nil, or_false] at hc
  rw [hc]; exact decide_eq_true ⟨trivial, by omega⟩
theorem enG2 (q : OpE) (h : q.data.length ≤ 140737488351232) : ∀ c ∈ [decide (0 + q.data.length ≤ (q.data ++ marks 32).length), decide ((List.take q.data.length (List.drop 0 (q.data ++ marks 32))).length < 4611686018427387904), decide (0 + q.data.length ≤ q.data.length), decide ((List.take q.data.length (List.drop 0 q.data)).length < 4611686018427387904)], c = true := by
  have hm : maxRoom = 175921860444160 := rfl
  have hl : (q.data ++ marks 32).length = q.data.length + 32 := by rw [List.length_append]; rfl
  have _h1 : List.take (q.data.length + 32) (List.drop 0 (q.data ++ marks 32)) = q.data ++ marks 32 := by rw [List.drop_zero, ← hl, List.take_length]
  have h2 : List.take q.data.length (List.drop 0 (q.data ++ marks 32)) = q.data := by rw [List.drop_zero, List.take_left]
  have h3 : List.take q.data.length (List.drop 0 q.data) = q.data := by rw [List.drop_zero, List.take_length]
  intro c hc
  rw [h2, h3, hl] at hc
  simp only [List.mem_cons, List.not_mem_nil, or_false] at hc
  rcases hc with hc | hc | hc | hc <;> (rw [hc]; exact decide_eq_true (by omega))
theorem enG3 (q : OpE) (h : q.data.length ≤ 140737488351232) : ∀ c ∈ [decide (0 + (q.data.length + 32) ≤ (q.data ++ marks 32).length), decide (0 + q.data.length ≤ q.data.length), keptOk (List.take (q.data.length + 32) (List.drop 0 (q.data ++ marks 32))) (List.take q.data.length (List.drop 0 q.data))], c = true := by
  have hm : maxRoom = 175921860444160 := rfl
  have hl : (q.data ++ marks 32).length = q.data.length + 32 := by rw [List.length_append]; rfl
  have h1 : List.take (q.data.length + 32) (List.drop 0 (q.data ++ marks 32)) = q.data ++ marks 32 := by rw [List.drop_zero, ← hl, List.take_length]
  have _h2 : List.take q.data.length (List.drop 0 (q.data ++ marks 32)) = q.data := by rw [List.drop_zero, List.take_left]
  have h3 : List.take q.data.length (List.drop 0 q.data) = q.data := by rw [List.drop_zero, List.take_length]
  intro c hc
  rw [h1, h3, hl] at hc
  simp only [List.mem_cons, List.not_mem_nil, or_false] at hc
  rcases hc with hc | hc | hc <;> rw [hc]
  · exact decide_eq_true (by omega)
  · exact decide_eq_true (by omega)
  · exact decide_eq_true ⟨rfl, by rw [hl]; omega⟩
theorem ev9 (q : OpE) (len : Nat) (to a b : N4) : evO (nE q len to a b (kd1 q)) (.tmp 25) = .bool (decide (q.kind = 9)) := by kernel_rfl
theorem ev10 (q : OpE) (len : Nat) (to a b : N4) : evO (nE q len to a b (kd2 q)) (.tmp 52) = .bool (decide (q.kind = 10)) := by kernel_rfl
theorem ev11 (q : OpE) (len : Nat) (to a b : N4) : evO (nE q len to a b (kd3 q)) (.tmp 81) = .bool (decide (q.kind = 11)) := by kernel_rfl
theorem ev12 (q : OpE) (len : Nat) (to a b : N4) : evO (nE q len to a b (kd4 q)) (.tmp 119) = .bool (decide (q.kind = 12)) := by kernel_rfl
theorem ev13 (q : OpE) (len : Nat) (to a b : N4) : evO (nE q len to a b (kd5 q)) (.tmp 157) = .bool (decide (q.kind = 13)) := by kernel_rfl
theorem ev14 (q : OpE) (len : Nat) (to a b : N4) : evO (nE q len to a b (kd6 q)) (.tmp 195) = .bool (decide (q.kind = 14)) := by kernel_rfl
theorem en_run (A : AOps) (t : Int → N4) (w : WE) (q : OpE) (h : q.data.length ≤ 140737488351232) : ∃ m1, runKL (X_at A t) [] [0,1,3,4,5,6,7,8,9,10,11,12,13,24,25,52,81,119,157,195] 300 enF enB [.ptr 0 0, .agg (opC q 1 q.data.length)] [⟨.cells (wC w), true⟩, ⟨.bytes q.data, false⟩] (fun v m => some (v, m)) =
    some (.bool (enV A q (t q.to) (t q.a) (t q.b) w).r, m1) ∧ epOut m1 (enV A q (t q.to) (t q.a) (t q.b) w).w q.data := by
  have h2 : List.take q.data.length (List.drop 0 (q.data ++ marks 32)) = q.data := by rw [List.drop_zero, List.take_left]
  have h3 : List.take q.data.length (List.drop 0 q.data) = q.data := by rw [List.drop_zero, List.take_length]
  rw [runKL_eq _ _ _ _ _ _ _ _ _ (by kernel_rfl), enB_eq, codeK_seq, en0_h, thenC_normal, codeK_seq, en1_h, r4_eq, r4_eq, r4_eq, thenC_normal, codeK_seq, codeK_seq, en2_h, thenC_normal, codeK_block, codeK_seq, er3_h, thenC_normal,
    codeK_cond _ _ _ _ _ _ _ _ _ _ _ (ev9 q q.data.length (t q.to) (t q.a) (t q.b))]
  generalize t q.to = to
  generalize t q.a = a
  generalize t q.b = b
  unfold enV
  cases hc9 : decide (q.kind = 9)
  case true =>
    rw [cond_true, brn_true, codeK_seq, er4_h, gds_true (enG1 q h), thenC_normal, codeK_seq, er5_h, gds_true (enG2 q h), thenC_normal, codeK_seq, er6_h, gds_true (enG3 q h), thenC_normal, codeK_ret, blkC_ret, thenC_ret, enR, h2, h3]
    exact ⟨_, rfl, 2, .of (.refl _) (.of (.refl _) (.kill (.kill (.kill (.kill (.kill (.kill .nil)))))))⟩
  rw [cond_false, brn_false, codeK_seq, er7_h, thenC_normal, codeK_cond _ _ _ _ _ _ _ _ _ _ _ (ev10 q q.data.length to a b)]
  cases hc10 : decide (q.kind = 10)
  case true =>
    rw [cond_true, brn_true, codeK_seq, er8_h, thenC_normal, codeK_seq, er9_h, thenC_normal, codeK_seq, er10_h, thenC_normal, codeK_seq, er11_h, thenC_normal, codeK_ret, blkC_ret, thenC_ret, enR]
    exact ⟨_, rfl, 3, .of (.refl _) (.of (.refl _) (.kill (.kill (.kill (.kill (.kill (.kill .nil)))))))⟩
  rw [cond_false, brn_false, codeK_seq, er12_h, thenC_normal, codeK_cond _ _ _ _ _ _ _ _ _ _ _ (ev11 q q.data.length to a b)]
  cases hc11 : decide (q.kind = 11)
  case true =>
    rw [cond_true, brn_true, er13_h A t w q q.data.length to a b, blkC_normal, thenC_normal, codeK_seq, en20_h, thenC_normal, codeK_ret, enR]
    exact ⟨_, rfl, 5, .of (.refl _) (.of (.refl _) (.kill (.kill (.kill (.kill (.kill (.kill .nil)))))))⟩
  rw [cond_false, brn_false, codeK_seq, er14_h, thenC_normal, codeK_cond _ _ _ _ _ _ _ _ _ _ _ (ev12 q q.data.length to a b)]
  cases hc12 : decide (q.kind = 12)
  case true =>
    rw [cond_true, brn_true, er15_h A t w q q.data.length to a b, blkC_normal, thenC_normal, codeK_seq, en20_h, thenC_normal, codeK_ret, enR]
    exact ⟨_, rfl, 5, .of (.refl _) (.of (.refl _) (.kill (.kill (.kill (.kill (.kill (.kill .nil)))))))⟩
  rw [cond_false, brn_false, codeK_seq, er16_h, thenC_normal, codeK_cond _ _ _ _ _ _ _ _ _ _ _ (ev13 q q.data.length to a b)]
  cases hc13 : decide (q.kind = 13)
  case true =>
    rw [cond_true, brn_true, er17_h A t w q q.data.length to a b, blkC_normal, thenC_normal, codeK_seq, en20_h, thenC_normal, codeK_ret, enR]
    exact ⟨_, rfl, 5, .of (.refl _) (.of (.refl _) (.kill (.kill (.kill (.kill (.kill (.kill .nil)))))))⟩
  rw [cond_false, brn_false, codeK_seq, er18_h, thenC_normal, codeK_cond _ _ _ _ _ _ _ _ _ _ _ (ev14 q q.data.length to a b)]
  cases hc14 : decide (q.kind = 14)
  case true =>
    rw [cond_true, brn_true, er19_h A t w q q.data.length b to a, blkC_normal, thenC_normal, codeK_seq, en20_h, thenC_normal, codeK_ret, enR]
    exact ⟨_, rfl, 5, .of (.refl _) (.of (.refl _) (.kill (.kill (.kill (.kill (.kill (.kill .nil)))))))⟩
  rw [cond_false, brn_false, codeK_skip, blkC_normal, thenC_normal, codeK_seq, en20_h, thenC_normal, codeK_ret, enR]
  exact ⟨_, rfl, 5, .of (.refl _) (.of (.refl _) (.kill (.kill (.kill (.kill (.kill (.kill .nil)))))))⟩
noncomputable def gNum (F : OpE → WE → NW) : List AV → Mem → Option (Bool × AV × Mem)
  | [.ptr 0 0, x], [⟨.cells cs, true⟩, ⟨.bytes l, false⟩] => (match ope? x, wC? cs with
    | some (q, len), some w => some (decide (len = l.length ∧ l.length ≤ 140737488351232), .bool (F { q with data := l } w).r, epM (F { q with data := l } w).w l)
    | _, _ => none)
  | _, _ => none
noncomputable def enF0 (A : AOps) (t : Int → N4) (q : OpE) (w : WE) : NW := enV A q (t q.to) (t q.a) (t q.b) w
theorem num_at : LoudAt Tryz.prog 11 (told (gNum (enF0 concA atN))) := by
  refine told_atP X_at_ok (keep := [0,1,3,4,5,6,7,8,9,10,11,12,13,24,25,52,81,119,157,195]) Tryz.func11 (c := enB) (by kernel_rfl) (by kernel_rfl) LoopsOK.nil fun ar mem cd v m h hc hw => ?_
  unfold gNum at h
  split at h
  · rename_i x cs l
    split at h
    · rename_i q len w hx hcs
      cases h
      obtain ⟨rfl, h2⟩ := of_decide_eq_true hc
      obtain ⟨m1, e1, k, e2⟩ := en_run concA atN w { q with data := l } h2
      rw [ope?_some hx l, wC?_some hcs]
      exact ⟨300, _, _, m1, k, .refl _, .refl _, e1, e2⟩
    · cases h
  · cases h
noncomputable def X_ea (A : AOps) (t : Int → N4) (F : OpE → WE → EW) (G : OpE → WE → NW) : Cx := { X_pts A t F with M := addM (X_pts A t F).M 11 (frame selP (told (gNum G))) }
theorem X_ea_ok : CxOK Tryz.prog (X_ea concA atN (epF0 concA atN) (enF0 concA atN)) := { X_pts_ok with loud := addM_ok X_pts_ok.loud (frame_at num_at) }
end Go.Proofs.YtpmbfepkdjkheaaGreat

