/- Layer 20: the document's functions, walked. Printed in part by wip/tools/genjoin.py. -/
import Derived.Test.YtnnjaijokiknkaaSe
namespace Go.Proofs.Ytnnjaijokiknkaa
open Go Pw Go.RowKit
def j1T (p0 : List Nat) (l0 : Nat) : Option (AV × Option Blk) := gds [decide (0 + l0 ≤ p0.length), decide ((tkL l0 p0).length ≤ maxRoom), Nat.blt 0 ((tkL l0 p0).length)] (some (.slice 0 0 ((tkL l0 p0).length) true, some ⟨.bytes (tkL l0 p0), true⟩))
theorem joined1_run (g : GOps) (p0 : List Nat) (l0 : Nat) : runG (X_left g) [] [0,2,3,4,8] 500 Try.f163 (bodyOf Try.f163) [.slice 1 0 1 false] [⟨.bytes p0, false⟩, ⟨.cells [.slice 0 0 l0 false], false⟩] = j1T p0 l0 := by kernel_rfl
theorem j1T_eq {p0 : List Nat} (h : (p0).length ≤ maxRoom) (h0 : 0 < p0.length) : j1T p0 p0.length = some (.slice 0 0 (p0).length true, some ⟨.bytes (p0), true⟩) := by
  unfold j1T
  simp only [tkL_eq]
  rw [gds_true]
  intro c hc
  simp only [List.mem_cons, List.not_mem_nil, or_false] at hc
  rcases hc with hh | hh | hh
  · rw [hh]; exact decide_eq_true (by omega)
  · rw [hh]; exact decide_eq_true (by omega)
  · rw [hh, Nat.blt_eq]; omega
def j2T (p0 p1 : List Nat) (l0 l1 : Nat) : Option (AV × Option Blk) := gds [decide (0 + l0 ≤ p0.length), decide ((tkL l0 p0).length ≤ maxRoom), decide (0 + l1 ≤ p1.length), decide (0 + ((tkL l0 p0).length) ≤ ((tkL l0 p0)).length), decide (((tkL l0 p0).length) + (tkL l1 p1).length ≤ maxRoom), Nat.blt 0 ((tkL l0 p0).length + (tkL l1 p1).length)] (some (.slice 0 0 ((tkL l0 p0).length + (tkL l1 p1).length) true, some ⟨.bytes (tkL ((tkL l0 p0).length) ((tkL l0 p0)) ++ (tkL l1 p1)), true⟩))
theorem joined2_run (g : GOps) (p0 p1 : List Nat) (l0 l1 : Nat) : runG (X_left g) [] [0,2,3,4,8] 500 Try.f163 (bodyOf Try.f163) [.slice 2 0 2 false] [⟨.bytes p0, false⟩, ⟨.bytes p1, false⟩, ⟨.cells [.slice 0 0 l0 false, .slice 1 0 l1 false], false⟩] = j2T p0 p1 l0 l1 := by kernel_rfl
theorem j2T_eq {p0 p1 : List Nat} (h : (p0 ++ p1).length ≤ maxRoom) (h0 : 0 < p0.length) : j2T p0 p1 p0.length p1.length = some (.slice 0 0 (p0 ++ p1).length true, some ⟨.bytes (p0 ++ p1), true⟩) := by
  have e1 : (p0 ++ p1).length = (p0).length + p1.length := List.length_append
  unfold j2T
  simp only [tkL_eq, ← e1]
  rw [gds_true]
  intro c hc
  simp only [List.mem_cons, List.not_mem_nil, or_false] at hc
  rcases hc with hh | hh | hh | hh | hh | hh
  · rw [hh]; exact decide_eq_true (by omega)
  · rw [hh]; exact decide_eq_true (by omega)
  · rw [hh]; exact decide_eq_true (by omega)
  · rw [hh]; exact decide_eq_true (by omega)
  · rw [hh]; exact decide_eq_true (by omega)
  · rw [hh, Nat.blt_eq]; omega
def j3T (p0 p1 p2 : List Nat) (l0 l1 l2 : Nat) : Option (AV × Option Blk) := gds [decide (0 + l0 ≤ p0.length), decide ((tkL l0 p0).length ≤ maxRoom), decide (0 + l1 ≤ p1.length), decide (0 + ((tkL l0 p0).length) ≤ ((tkL l0 p0)).length), decide (((tkL l0 p0).length) + (tkL l1 p1).length ≤ maxRoom), decide (0 + l2 ≤ p2.length), decide (0 + ((tkL l0 p0).length + (tkL l1 p1).length) ≤ ((tkL ((tkL l0 p0).length) ((tkL l0 p0)) ++ (tkL l1 p1))).length), decide (((tkL l0 p0).length + (tkL l1 p1).length) + (tkL l2 p2).length ≤ maxRoom), Nat.blt 0 ((tkL l0 p0).length + (tkL l1 p1).length + (tkL l2 p2).length)] (some (.slice 0 0 ((tkL l0 p0).length + (tkL l1 p1).length + (tkL l2 p2).length) true, some ⟨.bytes (tkL ((tkL l0 p0).length + (tkL l1 p1).length) ((tkL ((tkL l0 p0).length) ((tkL l0 p0)) ++ (tkL l1 p1))) ++ (tkL l2 p2)), true⟩))
theorem joined3_run (g : GOps) (p0 p1 p2 : List Nat) (l0 l1 l2 : Nat) : runG (X_left g) [] [0,2,3,4,8] 500 Try.f163 (bodyOf Try.f163) [.slice 3 0 3 false] [⟨.bytes p0, false⟩, ⟨.bytes p1, false⟩, ⟨.bytes p2, false⟩, ⟨.cells [.slice 0 0 l0 false, .slice 1 0 l1 false, .slice 2 0 l2 false], false⟩] = j3T p0 p1 p2 l0 l1 l2 := by kernel_rfl
theorem j3T_eq {p0 p1 p2 : List Nat} (h : (p0 ++ p1 ++ p2).length ≤ maxRoom) (h0 : 0 < p0.length) : j3T p0 p1 p2 p0.length p1.length p2.length = some (.slice 0 0 (p0 ++ p1 ++ p2).length true, some ⟨.bytes (p0 ++ p1 ++ p2), true⟩) := by
  have e1 : (p0 ++ p1).length = (p0).length + p1.length := List.length_append
  have e2 : (p0 ++ p1 ++ p2).length = (p0 ++ p1).length + p2.length := List.length_append
  unfold j3T
  simp only [tkL_eq, ← e1, ← e2]
  rw [gds_true]
  intro c hc
  simp only [List.mem_cons, List.not_mem_nil, or_false] at hc
  rcases hc with hh | hh | hh | hh | hh | hh | hh | hh | hh
  · rw [hh]; exact decide_eq_true (by omega)
  · rw [hh]; exact decide_eq_true (by omega)
  · rw [hh]; exact decide_eq_true (by omega)
  · rw [hh]; exact decide_eq_true (by omega)
  · rw [hh]; exact decide_eq_true (by omega)
  · rw [hh]; exact decide_eq_true (by omega)
  · rw [hh]; exact decide_eq_true (by omega)
  · rw [hh]; exact decide_eq_true (by omega)
  · rw [hh, Nat.blt_eq]; omega
def j4T (p0 p1 p2 p3 : List Nat) (l0 l1 l2 l3 : Nat) : Option (AV × Option Blk) := gds [decide (0 + l0 ≤ p0.length), decide ((tkL l0 p0).length ≤ maxRoom), decide (0 + l1 ≤ p1.length), decide (0 + ((tkL l0 p0).length) ≤ ((tkL l0 p0)).length), decide (((tkL l0 p0).length) + (tkL l1 p1).length ≤ maxRoom), decide (0 + l2 ≤ p2.length), decide (0 + ((tkL l0 p0).length + (tkL l1 p1).length) ≤ ((tkL ((tkL l0 p0).length) ((tkL l0 p0)) ++ (tkL l1 p1))).length), decide (((tkL l0 p0).length + (tkL l1 p1).length) + (tkL l2 p2).length ≤ maxRoom), decide (0 + l3 ≤ p3.length), decide (0 + ((tkL l0 p0).length + (tkL l1 p1).length + (tkL l2 p2).length) ≤ ((tkL ((tkL l0 p0).length + (tkL l1 p1).length) ((tkL ((tkL l0 p0).length) ((tkL l0 p0)) ++ (tkL l1 p1))) ++ (tkL l2 p2))).length), decide (((tkL l0 p0).length + (tkL l1 p1).length + (tkL l2 p2).length) + (tkL l3 p3).length ≤ maxRoom), Nat.blt 0 ((tkL l0 p0).length + (tkL l1 p1).length + (tkL l2 p2).length + (tkL l3 p3).length)] (some (.slice 0 0 ((tkL l0 p0).length + (tkL l1 p1).length + (tkL l2 p2).length + (tkL l3 p3).length) true, some ⟨.bytes (tkL ((tkL l0 p0).length + (tkL l1 p1).length + (tkL l2 p2).length) ((tkL ((tkL l0 p0).length + (tkL l1 p1).length) ((tkL ((tkL l0 p0).length) ((tkL l0 p0)) ++ (tkL l1 p1))) ++ (tkL l2 p2))) ++ (tkL l3 p3)), true⟩))
theorem joined4_run (g : GOps) (p0 p1 p2 p3 : List Nat) (l0 l1 l2 l3 : Nat) : runG (X_left g) [] [0,2,3,4,8] 500 Try.f163 (bodyOf Try.f163) [.slice 4 0 4 false] [⟨.bytes p0, false⟩, ⟨.bytes p1, false⟩, ⟨.bytes p2, false⟩, ⟨.bytes p3, false⟩, ⟨.cells [.slice 0 0 l0 false, .slice 1 0 l1 false, .slice 2 0 l2 false, .slice 3 0 l3 false], false⟩] = j4T p0 p1 p2 p3 l0 l1 l2 l3 := by kernel_rfl
theorem j4T_eq {p0 p1 p2 p3 : List Nat} (h : (p0 ++ p1 ++ p2 ++ p3).length ≤ maxRoom) (h0 : 0 < p0.length) : j4T p0 p1 p2 p3 p0.length p1.length p2.length p3.length = some (.slice 0 0 (p0 ++ p1 ++ p2 ++ p3).length true, some ⟨.bytes (p0 ++ p1 ++ p2 ++ p3), true⟩) := by
  have e1 : (p0 ++ p1).length = (p0).length + p1.length := List.length_append
  have e2 : (p0 ++ p1 ++ p2).length = (p0 ++ p1).length + p2.length := List.length_append
  have e3 : (p0 ++ p1 ++ p2 ++ p3).length = (p0 ++ p1 ++ p2).length + p3.length := List.length_append
  unfold j4T
  simp only [tkL_eq, ← e1, ← e2, ← e3]
  rw [gds_true]
  intro c hc
  simp only [List.mem_cons, List.not_mem_nil, or_false] at hc
  rcases hc with hh | hh | hh | hh | hh | hh | hh | hh | hh | hh | hh | hh
  · rw [hh]; exact decide_eq_true (by omega)
  · rw [hh]; exact decide_eq_true (by omega)
  · rw [hh]; exact decide_eq_true (by omega)
  · rw [hh]; exact decide_eq_true (by omega)
  · rw [hh]; exact decide_eq_true (by omega)
  · rw [hh]; exact decide_eq_true (by omega)
  · rw [hh]; exact decide_eq_true (by omega)
  · rw [hh]; exact decide_eq_true (by omega)
  · rw [hh]; exact decide_eq_true (by omega)
  · rw [hh]; exact decide_eq_true (by omega)
  · rw [hh]; exact decide_eq_true (by omega)
  · rw [hh, Nat.blt_eq]; omega
def gJoined : List AV → Mem → Option (Bool × AV × Option Blk)
  | [.slice 1 0 1 false], [⟨.bytes p0, false⟩, ⟨.cells [.slice 0 0 l0 false], false⟩] => some (decide (l0 = p0.length ∧ (p0).length ≤ maxRoom ∧ 0 < p0.length), .slice 0 0 (p0).length true, some ⟨.bytes (p0), true⟩)
  | [.slice 2 0 2 false], [⟨.bytes p0, false⟩, ⟨.bytes p1, false⟩, ⟨.cells [.slice 0 0 l0 false, .slice 1 0 l1 false], false⟩] => some (decide (l0 = p0.length ∧ l1 = p1.length ∧ (p0 ++ p1).length ≤ maxRoom ∧ 0 < p0.length), .slice 0 0 (p0 ++ p1).length true, some ⟨.bytes (p0 ++ p1), true⟩)
  | [.slice 3 0 3 false], [⟨.bytes p0, false⟩, ⟨.bytes p1, false⟩, ⟨.bytes p2, false⟩, ⟨.cells [.slice 0 0 l0 false, .slice 1 0 l1 false, .slice 2 0 l2 false], false⟩] => some (decide (l0 = p0.length ∧ l1 = p1.length ∧ l2 = p2.length ∧ (p0 ++ p1 ++ p2).length ≤ maxRoom ∧ 0 < p0.length), .slice 0 0 (p0 ++ p1 ++ p2).length true, some ⟨.bytes (p0 ++ p1 ++ p2), true⟩)
  | [.slice 4 0 4 false], [⟨.bytes p0, false⟩, ⟨.bytes p1, false⟩, ⟨.bytes p2, false⟩, ⟨.bytes p3, false⟩, ⟨.cells [.slice 0 0 l0 false, .slice 1 0 l1 false, .slice 2 0 l2 false, .slice 3 0 l3 false], false⟩] => some (decide (l0 = p0.length ∧ l1 = p1.length ∧ l2 = p2.length ∧ l3 = p3.length ∧ (p0 ++ p1 ++ p2 ++ p3).length ≤ maxRoom ∧ 0 < p0.length), .slice 0 0 (p0 ++ p1 ++ p2 ++ p3).length true, some ⟨.bytes (p0 ++ p1 ++ p2 ++ p3), true⟩)
  | _, _ => none
theorem joined_at : QuietAt Try.prog 163 (grab gJoined) := by
  refine quietAt_of_runG X_left_ok (keep := [0,2,3,4,8]) Try.func163 (c := bodyOf Try.f163) (by kernel_rfl) (by kernel_rfl) LoopsOK.nil fun ar ms cd v nb h hc hw => ?_
  unfold gJoined at h
  split at h
  · cases h
    obtain ⟨rfl, hl, h0⟩ := of_decide_eq_true hc
    exact ⟨500, _, .refl _, (joined1_run concGO _ _).trans (j1T_eq hl h0)⟩
  · cases h
    obtain ⟨rfl, rfl, hl, h0⟩ := of_decide_eq_true hc
    exact ⟨500, _, .refl _, (joined2_run concGO _ _ _ _).trans (j2T_eq hl h0)⟩
  · cases h
    obtain ⟨rfl, rfl, rfl, hl, h0⟩ := of_decide_eq_true hc
    exact ⟨500, _, .refl _, (joined3_run concGO _ _ _ _ _ _).trans (j3T_eq hl h0)⟩
  · cases h
    obtain ⟨rfl, rfl, rfl, rfl, hl, h0⟩ := of_decide_eq_true hc
    exact ⟨500, _, .refl _, (joined4_run concGO _ _ _ _ _ _ _ _).trans (j4T_eq hl h0)⟩
  · cases h
noncomputable def X_joined (g : GOps) : Cx := { X_left g with O := addQ (X_left g).O 163 (grab gJoined) }
theorem X_joined_ok : CxOK Try.prog (X_joined concGO) := { X_left_ok with quiet := addQ_ok X_left_ok.quiet joined_at }
theorem clampD_run (g : GOps) (k : K32) : runNL (X_joined g) [] [0,1,2] 200 Try.f162 (bodyOf Try.f162) (laArgs [.v (keyV k)] 0) (laLists [.v (keyV k)]) = some (keyV (clampR k), none) := by
  kernel_rfl
def g_clampD (_ : GOps) (args : List LA) : Option (AV × Option Blk) := match args with
  | [.v x0] => (match key? x0 with
    | some k => some (keyV (clampR k), none)
    | _ => none)
  | _ => none
theorem clampD_at : QuietAt Try.prog 162 (lav (g_clampD concGO)) := by
  refine quietAt_of_runA X_joined_ok (L := []) (keep := [0,1,2]) Try.func162 (c := bodyOf Try.f162) (by kernel_rfl) (by kernel_rfl) (LoopsOK.nil) fun args v h hw => ⟨200, ?_⟩
  unfold g_clampD at h
  split at h
  · rename_i x0
    split at h
    · rename_i k hh0
      have ehh0 := key?_some hh0
      subst ehh0
      rw [← h]
      refine (clampD_run concGO k).trans ?_
      rfl
    · cases h
  · cases h
noncomputable def X_clampD (g : GOps) : Cx := { X_joined g with O := addQ (X_joined g).O 162 (lav (g_clampD g)) }
theorem X_clampD_ok : CxOK Try.prog (X_clampD concGO) := { X_joined_ok with quiet := addQ_ok X_joined_ok.quiet clampD_at }
noncomputable def m_rparts (g : GOps) : List AV → Mem → ∀ {ρ : Type}, (AV → Mem → Option ρ) → Option ρ := fun args mem _ K => runKL (X_clampD g) [] [0,2,3,4,5,6,10] 400 Try.f141 (bodyOf Try.f141) args mem K
theorem m_rparts_at : LoudAt Try.prog 141 (m_rparts concGO) := loudAt_of_run (L := []) X_clampD_ok Try.func141 (by kernel_rfl) (by kernel_rfl) (LoopsOK.nil)
noncomputable def X_rparts (g : GOps) : Cx := { X_clampD g with M := addM (X_clampD g).M 141 (m_rparts g) }
theorem X_rparts_ok : CxOK Try.prog (X_rparts concGO) := { X_clampD_ok with loud := addM_ok X_clampD_ok.loud m_rparts_at }
def rsecK (g : GOps) (seed : List Nat) : K32 := clampR (keyAt (g.rhash seed) 0)
def rpreL (g : GOps) (seed : List Nat) : List Nat := (keyAt (g.rhash seed) 32).toList

end Go.Proofs.Ytnnjaijokiknkaa

