/- The known answers of the ladder. -/
import Derived.Test.YtfajgpjpabeafaaCx
namespace Go.Proofs.Ytfajgpjpabeafaa
open Go Pw Go.RowKit
def digS (c : Nat) : Nat := bif decide (97 ≤ c) then ((c + (2 ^ 8 - 97)) % 2 ^ 8 + 10) % 2 ^ 8 else (c + (2 ^ 8 - 48)) % 2 ^ 8
theorem digitL_run (o : FOps) (c : Nat) : runNL (X_onD o) [] [0,2,4] 200 Try.f104 (bodyOf Try.f104) (laArgs [.v (.u .u8 c)] 0) (laLists [.v (.u .u8 c)]) = bif decide (97 ≤ c) then some (.u .u8 (((c + (2 ^ 8 - 97)) % 2 ^ 8 + 10) % 2 ^ 8), none) else some (.u .u8 ((c + (2 ^ 8 - 48)) % 2 ^ 8), none) := by
  kernel_rfl
def g_digitL (_ : FOps) (args : List LA) : Option (AV × Option Blk) := match args with
  | [.v x0] => (match u8? x0 with
    | some c => some (.u .u8 (digS c), none)
    | _ => none)
  | _ => none
theorem digitL_at : QuietAt Try.prog 104 (lav (g_digitL concFOps)) := by
  refine quietAt_of_runA X_onD_ok (L := []) (keep := [0,2,4]) Try.func104 (c := bodyOf Try.f104) (by kernel_rfl) (by kernel_rfl) (LoopsOK.nil) fun args v h hw => ⟨200, ?_⟩
  unfold g_digitL at h
  split at h
  · rename_i x0
    split at h
    · rename_i c hh0
      have ehh0 := u8?_some hh0
      subst ehh0
      rw [← h]
      refine (digitL_run concFOps c).trans ?_
      unfold digS
      cases decide (97 ≤ c) <;> rfl
    · cases h
  · cases h
noncomputable def X_digitL (o : FOps) : Cx := { X_onD o with O := addQ (X_onD o).O 104 (lav (g_digitL o)) }
theorem X_digitL_ok : CxOK Try.prog (X_digitL concFOps) := { X_onD_ok with quiet := addQ_ok X_onD_ok.quiet digitL_at }
noncomputable def mVec (o : FOps) : List AV → Mem → ∀ {ρ : Type}, (AV → Mem → Option ρ) → Option ρ := fun args mem _ K => runKL (X_digitL o) [] [0,2,3,4,6] 600 Try.f65 (bodyOf Try.f65) args mem K
theorem mVec_at : LoudAt Try.prog 65 (mVec concFOps) := loudAt_of_run X_digitL_ok Try.func65 (by kernel_rfl) (by kernel_rfl) LoopsOK.nil
noncomputable def X_vec (o : FOps) : Cx := { X_digitL o with M := addM (X_digitL o).M 65 (mVec o) }
theorem X_vec_ok : CxOK Try.prog (X_vec concFOps) := { X_digitL_ok with loud := addM_ok X_digitL_ok.loud mVec_at }
theorem key_wf {k : K32} (h : k.toList.all (fun b => decide (b < 256)) = true) : k.wf := fun b hb => of_decide_eq_true (List.all_eq_true.1 h b hb)
theorem known {k u v : K32} (hk : k.wf) (hu : u.wf) (hv : v.wf) (h : scaleN (leVal (clampR k)) (numK u).val = leVal v) : scaleO concFOps k u = v := by
  obtain ⟨w, e⟩ := scale_val hk hu
  refine leVal_inj w hv ?_
  rw [e, ← scaleN_F]
  exact h
def vK0 : K32 := ⟨165, 70, 227, 107, 240, 82, 124, 157, 59, 22, 21, 75, 130, 70, 94, 221, 98, 20, 76, 10, 193, 252, 90, 24, 80, 106, 34, 68, 186, 68, 154, 196⟩
def vU0 : K32 := ⟨230, 219, 104, 103, 88, 48, 48, 219, 53, 148, 193, 164, 36, 177, 95, 124, 114, 102, 36, 236, 38, 179, 53, 59, 16, 169, 3, 166, 208, 171, 28, 76⟩
def vV0 : K32 := ⟨195, 218, 85, 55, 157, 233, 198, 144, 142, 148, 234, 77, 242, 141, 8, 79, 50, 236, 207, 3, 73, 28, 113, 247, 84, 180, 7, 85, 119, 162, 133, 82⟩
theorem known0 : scaleO concFOps vK0 vU0 = vV0 := known (key_wf (by decide +kernel)) (key_wf (by decide +kernel)) (key_wf (by decide +kernel)) (by decide +kernel)
def vK1 : K32 := ⟨75, 102, 233, 212, 209, 180, 103, 60, 90, 210, 38, 145, 149, 125, 106, 245, 193, 27, 100, 33, 224, 234, 1, 212, 44, 164, 22, 158, 121, 24, 186, 13⟩
def vU1 : K32 := ⟨229, 33, 15, 18, 120, 104, 17, 211, 244, 183, 149, 157, 5, 56, 174, 44, 49, 219, 231, 16, 111, 192, 60, 62, 252, 76, 213, 73, 199, 21, 164, 147⟩
def vV1 : K32 := ⟨149, 203, 222, 148, 118, 232, 144, 125, 122, 173, 228, 92, 180, 184, 115, 248, 139, 89, 90, 104, 121, 159, 161, 82, 230, 248, 247, 100, 122, 172, 121, 87⟩
theorem known1 : scaleO concFOps vK1 vU1 = vV1 := known (key_wf (by decide +kernel)) (key_wf (by decide +kernel)) (key_wf (by decide +kernel)) (by decide +kernel)
def vK2 : K32 := ⟨9, 0, 0, 0, 0, 0, 0, 0, 0, 0, 0, 0, 0, 0, 0, 0, 0, 0, 0, 0, 0, 0, 0, 0, 0, 0, 0, 0, 0, 0, 0, 0⟩
def vU2 : K32 := ⟨9, 0, 0, 0, 0, 0, 0, 0, 0, 0, 0, 0, 0, 0, 0, 0, 0, 0, 0, 0, 0, 0, 0, 0, 0, 0, 0, 0, 0, 0, 0, 0⟩
def vV2 : K32 := ⟨66, 44, 142, 122, 98, 39, 215, 188, 161, 53, 11, 62, 43, 183, 39, 159, 120, 151, 184, 123, 182, 133, 75, 120, 60, 96, 232, 3, 17, 174, 48, 121⟩
theorem known2 : scaleO concFOps vK2 vU2 = vV2 := known (key_wf (by decide +kernel)) (key_wf (by decide +kernel)) (key_wf (by decide +kernel)) (by decide +kernel)
def vecT (o : FOps) : Option (AV × Option Blk) := bif !(keyEq (scaleO o vK0 vU0) vV0) then some (.bool false, none) else bif !(keyEq (scaleO o vK1 vU1) vV1) then some (.bool false, none) else some (.bool (keyEq (scaleO o vK2 nineK) vV2), none)
theorem vecT_true : vecT concFOps = some (.bool true, none) := by
  unfold vecT
  rw [known0, known1, show nineK = vU2 from rfl, known2, keyEq_self, keyEq_self, keyEq_self]
  rfl
theorem vecL_run (o : FOps)  : runNL (X_vec o) [] [0,1,2,9,16] 200 Try.f14 (bodyOf Try.f14) (laArgs [] 0) (laLists []) = vecT o := by
  kernel_rfl
def g_vecL (_ : FOps) (args : List LA) : Option (AV × Option Blk) := match args with
  | [] => some (.bool true, none)
  | _ => none
theorem vecL_at : QuietAt Try.prog 14 (lav (g_vecL concFOps)) := by
  refine quietAt_of_runA X_vec_ok (L := []) (keep := [0,1,2,9,16]) Try.func14 (c := bodyOf Try.f14) (by kernel_rfl) (by kernel_rfl) (LoopsOK.nil) fun args v h hw => ⟨200, ?_⟩
  unfold g_vecL at h
  split at h
  · skip
    rw [← h]
    refine (vecL_run concFOps ).trans ?_
    exact vecT_true
  · cases h
noncomputable def X_vecL (o : FOps) : Cx := { X_vec o with O := addQ (X_vec o).O 14 (lav (g_vecL o)) }
theorem X_vecL_ok : CxOK Try.prog (X_vecL concFOps) := { X_vec_ok with quiet := addQ_ok X_vec_ok.quiet vecL_at }
noncomputable abbrev XV : Cx := X_vecL concFOps
theorem XV_ok : CxOK Try.prog XV := X_vecL_ok
end Go.Proofs.Ytfajgpjpabeafaa

