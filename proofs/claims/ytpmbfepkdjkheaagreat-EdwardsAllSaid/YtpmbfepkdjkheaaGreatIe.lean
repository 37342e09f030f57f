/- EdwardsAll: the contract of points (printed by wip/tools/genie.py). -/
import Derived.Test.YtpmbfepkdjkheaaGreatId
namespace Go.Proofs.YtpmbfepkdjkheaaGreat
open Go Pw Go.RowKit
theorem brn_true {α : Type} (x y : α) : brn true x y = x := rfl
theorem brn_false {α : Type} (x y : α) : brn false x y = y := rfl
structure EW where
  w : WE
  is : Bool
  right : Bool
noncomputable def epV (A : AOps) (q : OpE) (to a b : N4) (w : WE) : EW := brn (decide (q.kind = 0)) ⟨epS w to ((A.e.parse q.key).1) ((A.e.rparse q.key).1), true, decide ((A.e.parse q.key).2 = (A.e.rparse q.key).2)⟩
    (brn (decide (q.kind = 1)) ⟨epS w to ((A.e.lift q.key q.flag).1) ((A.e.rlift q.key q.flag).1), true, decide ((A.e.lift q.key q.flag).2 = (A.e.rlift q.key q.flag).2)⟩
    (brn (decide (q.kind = 2)) ⟨epS w to (A.e.padd (w.p.get a) (w.p.get b)) (A.e.radd (w.q.get a) (w.q.get b)), true, true⟩
    (brn (decide (q.kind = 3)) ⟨epS w to (A.e.psub (w.p.get a) (w.p.get b)) (A.e.rsub (w.q.get a) (w.q.get b)), true, true⟩
    (brn (decide (q.kind = 4)) ⟨epS w to (A.e.pneg (w.p.get a)) (A.e.rneg (w.q.get a)), true, true⟩
    (brn (decide (q.kind = 5)) ⟨epS w to (A.e.dbl (w.p.get a)) (A.e.rdbl (w.q.get a)), true, true⟩
    (brn (decide (q.kind = 6)) ⟨epS w to (A.e.scale (w.p.get a) q.data) (A.e.rscale (w.q.get a) q.data), true, true⟩
    (brn (decide (q.kind = 7)) ⟨epS w to (A.e.times (w.p.get a) (w.s.get b)) (A.e.rscale (w.q.get a) (A.rby (resp 16 (resp 16 (w.t.get b)))).toList), true, true⟩
    (brn (decide (q.kind = 8)) ⟨epS w to (A.e.base) (A.e.rbase), true, true⟩
    (⟨w, false, true⟩)))))))))
theorem ptG_true (q : OpE) (h : q.data.length ≤ 140737488351232) : ∀ c ∈ ptG q q.data.length, c = true := by
  have hm : maxRoom = 175921860444160 := rfl
  have hl : (q.data ++ marks 32).length = q.data.length + 32 := by rw [List.length_append]; rfl
  have h1 : List.take (q.data.length + 32) (List.drop 0 (q.data ++ marks 32)) = q.data ++ marks 32 := by rw [List.drop_zero, ← hl, List.take_length]
  have h2 : List.take q.data.length (List.drop 0 (q.data ++ marks 32)) = q.data := by rw [List.drop_zero, List.take_left]
  have h3 : List.take q.data.length (List.drop 0 q.data) = q.data := by rw [List.drop_zero, List.take_length]
  intro c hc
  unfold ptG at hc
  rw [h1, h2, h3, hl] at hc
  simp only [List.mem_cons, List.not_mem_nil, or_false] at hc
  rcases hc with hc | hc | hc | hc | hc | hc | hc | hc <;> rw [hc]
  · exact decide_eq_true ⟨trivial, by omega⟩
  · exact decide_eq_true (by omega)
  · exact decide_eq_true (by omega)
  · exact decide_eq_true (by omega)
  · exact decide_eq_true (by omega)
  · exact decide_eq_true (by omega)
  · exact decide_eq_true (by omega)
  · exact decide_eq_true ⟨rfl, by rw [hl]; omega⟩
def epM (w : WE) (l : List Nat) : Mem := [⟨.cells (wC w), true⟩, ⟨.bytes l, false⟩, Pw.dead, Pw.dead, Pw.dead, Pw.dead, Pw.dead, Pw.dead]
def epOut (m1 : Mem) (w : WE) (l : List Nat) : Prop := ∃ k, MemW (m1 ++ List.replicate k Pw.dead) (epM w l)
theorem ep_run (A : AOps) (t : Int → N4) (w : WE) (q : OpE) (h : q.data.length ≤ 140737488351232) : ∃ m1, runKL (X_at A t) [] [0,1,3,4,5,6,7,8,9,10,11,12,13,14,15,16,17,18,19,20,43,44,63,86,114,142,158,174,203,231] 300 epF epB [.ptr 0 0, .agg (opC q 1 q.data.length)] [⟨.cells (wC w), true⟩, ⟨.bytes q.data, false⟩] (fun v m => some (v, m)) =
    some (.tup [.bool (epV A q (t q.to) (t q.a) (t q.b) w).is, .bool (epV A q (t q.to) (t q.a) (t q.b) w).right], m1) ∧ epOut m1 (epV A q (t q.to) (t q.a) (t q.b) w).w q.data := by
  have h2 : List.take q.data.length (List.drop 0 (q.data ++ marks 32)) = q.data := by rw [List.drop_zero, List.take_left]
  have h3 : List.take q.data.length (List.drop 0 q.data) = q.data := by rw [List.drop_zero, List.take_length]
  rw [runKL_eq _ _ _ _ _ _ _ _ _ (by kernel_rfl), epB_eq, codeK_seq, ep0_h, thenC_normal, codeK_seq, ep1_h, r4_eq, r4_eq, r4_eq, thenC_normal, codeK_seq, ep2_h, thenC_normal, codeK_seq, ep3_h, thenC_normal, codeK_seq,
    ep4_h A t w q q.data.length (t q.to) (t q.a) (t q.b), gds_true (ptG_true q h), h2, h3]
  generalize t q.to = to
  generalize t q.a = a
  generalize t q.b = b
  unfold epV
  generalize decide (q.kind = 0) = c0
  generalize decide (q.kind = 1) = c1
  generalize decide (q.kind = 2) = c2
  generalize decide (q.kind = 3) = c3
  generalize decide (q.kind = 4) = c4
  generalize decide (q.kind = 5) = c5
  generalize decide (q.kind = 6) = c6
  generalize decide (q.kind = 7) = c7
  generalize decide (q.kind = 8) = c8
  cases c0
  case true =>
    rw [brn_true, brn_true, thenC_normal, ep5_h, epR1]
    exact ⟨_, rfl, 1, .of (.refl _) (.of (.refl _) (.kill (.kill (.kill (.kill (.kill (.kill .nil)))))))⟩
  rw [brn_false, brn_false]
  cases c1
  case true =>
    rw [brn_true, brn_true, thenC_normal, ep5_h, epR1]
    exact ⟨_, rfl, 1, .of (.refl _) (.of (.refl _) (.kill (.kill (.kill (.kill (.kill (.kill .nil)))))))⟩
  rw [brn_false, brn_false]
  cases c2
  case true =>
    rw [brn_true, brn_true, thenC_normal, ep5_h, epR1]
    exact ⟨_, rfl, 3, .of (.refl _) (.of (.refl _) (.kill (.kill (.kill (.kill (.kill (.kill .nil)))))))⟩
  rw [brn_false, brn_false]
  cases c3
  case true =>
    rw [brn_true, brn_true, thenC_normal, ep5_h, epR1]
    exact ⟨_, rfl, 3, .of (.refl _) (.of (.refl _) (.kill (.kill (.kill (.kill (.kill (.kill .nil)))))))⟩
  rw [brn_false, brn_false]
  cases c4
  case true =>
    rw [brn_true, brn_true, thenC_normal, ep5_h, epR1]
    exact ⟨_, rfl, 3, .of (.refl _) (.of (.refl _) (.kill (.kill (.kill (.kill (.kill (.kill .nil)))))))⟩
  rw [brn_false, brn_false]
  cases c5
  case true =>
    rw [brn_true, brn_true, thenC_normal, ep5_h, epR1]
    exact ⟨_, rfl, 3, .of (.refl _) (.of (.refl _) (.kill (.kill (.kill (.kill (.kill (.kill .nil)))))))⟩
  rw [brn_false, brn_false]
  cases c6
  case true =>
    rw [brn_true, brn_true, thenC_normal, ep5_h, epR1]
    exact ⟨_, rfl, 0, .of (.refl _) (.of (.refl _) (.kill (.kill (.kill (.kill (.kill (.kill .nil)))))))⟩
  rw [brn_false, brn_false]
  cases c7
  case true =>
    rw [brn_true, brn_true, thenC_normal, ep5_h, epR1]
    exact ⟨_, rfl, 3, .of (.refl _) (.of (.refl _) (.kill (.kill (.kill (.kill (.kill (.kill .nil)))))))⟩
  rw [brn_false, brn_false]
  cases c8
  case true =>
    rw [brn_true, brn_true, thenC_normal, ep5_h, epR1]
    exact ⟨_, rfl, 3, .of (.refl _) (.of (.refl _) (.kill (.kill (.kill (.kill (.kill (.kill .nil)))))))⟩
  rw [brn_false, brn_false]
  rw [thenC_ret, epR0]
  exact ⟨_, rfl, 3, .of (.refl _) (.of (.refl _) (.kill (.kill (.kill (.kill (.kill (.kill .nil)))))))⟩
end Go.Proofs.YtpmbfepkdjkheaaGreat

