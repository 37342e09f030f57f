/- Contracts of a Hash under way: New, Sum; the hash of bytes. -/
import Derived.Test.YtmhbhpmfbalbeaaWs
namespace Go.Proofs.Ytmhbhpmfbalbeaa
open Go Pw Go.RowKit
def gNew : List AV → Mem → Option (Bool × AV × Option Blk)
  | [], [] => some (true, .ptr 0 0, some ⟨.cells (hshC SW .nils 0), true⟩)
  | _, _ => none
theorem new_run (o : SOps) : runG (X_write o) [] [0] 200 Try.f17 (bodyOf Try.f17) [] [] = some (.ptr 0 0, some ⟨.cells (hshC SW .nils 0), true⟩) := by kernel_rfl
theorem new_at : QuietAt Try.prog 17 (grab gNew) := by
  refine quietAt_of_runG X_write_ok (keep := [0]) Try.func17 (c := bodyOf Try.f17) (by kernel_rfl) (by kernel_rfl) LoopsOK.nil fun ar ms cd v nb h hc hw => ⟨200, ms, .refl _, ?_⟩
  unfold gNew at h
  split at h
  · cases h; exact new_run concS
  · cases h
noncomputable def X_new (o : SOps) : Cx := { X_write o with O := addQ (X_write o).O 17 (grab gNew) }
theorem X_new_ok : CxOK Try.prog (X_new concS) := { X_write_ok with quiet := addQ_ok X_write_ok.quiet new_at }
noncomputable def mCop (o : SOps) : LoudFn := fun args mem _ K => runKL (X_new o) [] [0,2] 200 Try.f41 (bodyOf Try.f41) args mem K
theorem mCop_at : LoudAt Try.prog 41 (mCop concS) := loudAt_of_run X_new_ok Try.func41 (by kernel_rfl) (by kernel_rfl) LoopsOK.nil
noncomputable def X_cop (o : SOps) : Cx := { X_new o with M := addM (X_new o).M 41 (mCop o) }
theorem X_cop_ok : CxOK Try.prog (X_cop concS) := { X_new_ok with loud := addM_ok X_new_ok.loud mCop_at }
/-! ### Sum of a Hash -/
def sumV (o : SOps) (w : List Nat) (size : Nat) (rest : List Nat) : List Nat := bytesW (foldB o.bP w (rest ++ padL size) ((rest ++ padL size).length / 128))
def sumT (o : SOps) (w : List Nat) (rl size : Nat) (rest : List Nat) : Option (AV × Option Blk) :=
  let r := List.take rl (List.drop 0 rest)
  gds [decide (0 + rl ≤ rest.length), decide (r.length ≤ maxRoom), wCond r.length 0 (padL size).length (padL size) r]
    (some (b64V (bytesW (foldB o.bP (resp 8 w) (wAll 0 (padL size).length (padL size) r) (wNum 0 (padL size).length (padL size) r))), none))
theorem sumP_run (o : SOps) (w : List Nat) (rl size : Nat) (rest : List Nat) : runG (X_cop o) [] [0,2,3,4,5,6,7,20,21,22,25,26] 400 Try.f18 (bodyOf Try.f18) [.ptr 1 0] [⟨.bytes rest, false⟩, ⟨.cells (hshC w (.slice 0 0 rl false) size), false⟩] = sumT o w rl size rest := by kernel_rfl
def gSum (o : SOps) : List AV → Mem → Option (Bool × AV × Option Blk)
  | [.ptr 1 0], [⟨.bytes rest, false⟩, ⟨.cells [.u .u64 a, .u .u64 b, .u .u64 c, .u .u64 d, .u .u64 e, .u .u64 f, .u .u64 g, .u .u64 h, .slice 0 0 rl false, .u .u64 size], false⟩] => some (decide (rl = rest.length ∧ rl < 128), b64V (sumV o [a, b, c, d, e, f, g, h] size rest), none)
  | _, _ => none
theorem sumP_at : QuietAt Try.prog 18 (grab (gSum concS)) := by
  refine quietAt_of_runG X_cop_ok (keep := [0,2,3,4,5,6,7,20,21,22,25,26]) Try.func18 (c := bodyOf Try.f18) (by kernel_rfl) (by kernel_rfl) LoopsOK.nil fun ar ms cd v nb h hc hw => ?_
  unfold gSum at h
  split at h
  · rename_i rest a b c d e f g hh rl size
    cases h
    obtain ⟨h1, h2⟩ := of_decide_eq_true hc
    generalize hw8 : [a, b, c, d, e, f, g, hh] = w
    have hwl : resp 8 w = w := by subst hw8; rfl
    refine ⟨400, [⟨.bytes rest, false⟩, ⟨.cells (hshC w (.slice 0 0 rl false) size), false⟩], by subst hw8; exact .refl _, ?_⟩
    refine (sumP_run concS w rl size rest).trans ?_
    have hr : List.take rl (List.drop 0 rest) = rest := by rw [List.drop_zero, List.take_of_length_le (by omega)]
    have hz : padZ size < 128 := Nat.mod_lt _ (by decide)
    have hl := padL_len size
    unfold sumT
    rw [hr, gds_true, hwl]
    · unfold sumV wNum wAll
      rw [List.drop_zero, List.take_length]
    · intro x hx
      simp only [List.mem_cons, List.not_mem_nil, or_false] at hx
      rcases hx with rfl | rfl | rfl
      · exact decide_eq_true (by omega)
      · exact decide_eq_true (by unfold maxRoom; omega)
      · exact decide_eq_true ⟨rfl, by omega, by omega, by unfold maxRoom; omega⟩
  · cases h
noncomputable def X_sumM (o : SOps) : Cx := { X_cop o with O := addQ (X_cop o).O 18 (grab (gSum o)) }
theorem X_sumM_ok : CxOK Try.prog (X_sumM concS) := { X_cop_ok with quiet := addQ_ok X_cop_ok.quiet sumP_at }
/-! ### Sum of bytes -/
def hashV (o : SOps) (b : List Nat) : List Nat := bytesW (foldAll o.bP SW (b ++ padL b.length))
def sumPT (o : SOps) (b : List Nat) : Option (AV × Option Blk) :=
  let t := wTail 0 b.length b []
  gds [wCond 0 0 b.length b [], decide (0 + t.length ≤ t.length), decide (t.length = (List.take t.length (List.drop 0 t)).length ∧ t.length < 128)]
    (some (b64V (sumV o (resp 8 (foldB o.bP SW (wAll 0 b.length b []) (wNum 0 b.length b []))) ((0 + b.length % 18446744073709551616) % 2 ^ 64) (List.take t.length (List.drop 0 t))), none))
theorem sumPT_eq (o : SOps) {b : List Nat} (h : b.length + 128 ≤ maxRoom) : sumPT o b = some (b64V (hashV o b), none) := by
  have hm : maxRoom = 175921860444160 := rfl
  have ha : wAll 0 b.length b [] = b := by unfold wAll; rw [List.drop_zero, List.take_length, List.nil_append]
  have ht : (wTail 0 b.length b []).length < 128 := by unfold wTail wNum; rw [ha, List.length_drop]; omega
  have hr : List.take (wTail 0 b.length b []).length (List.drop 0 (wTail 0 b.length b [])) = wTail 0 b.length b [] := by rw [List.drop_zero, List.take_length]
  have hs : (0 + b.length % 18446744073709551616) % 2 ^ 64 = b.length := by omega
  unfold sumPT
  rw [gds_true]
  · rw [hr, hs]
    unfold sumV hashV
    rw [foldAll_app, bytesW_fold]
    unfold foldAll wTail wNum
    rw [ha]
  · intro x hx
    simp only [List.mem_cons, List.not_mem_nil, or_false] at hx
    rcases hx with rfl | rfl | rfl
    · exact decide_eq_true ⟨rfl, by omega, by omega, h⟩
    · exact decide_eq_true (by omega)
    · rw [hr]; exact decide_eq_true ⟨rfl, ht⟩
theorem hashP_run (o : SOps) (b : List Nat) : runNL (X_sumM o) [] [0,2,3] 400 Try.f27 (bodyOf Try.f27) (laArgs [.l b] 0) (laLists [.l b]) = sumPT o b := by
  kernel_rfl
def u_hashP (o : SOps) (args : List LA) : Option (AV × Option Blk) := match args with
  | [.l b] => some (b64V (hashV o b), none)
  | _ => none
def c_hashP (args : List LA) : Bool := match args with
  | [.l b] => decide (b.length + 128 ≤ maxRoom)
  | _ => false
def g_hashP (o : SOps) (args : List LA) : Option (AV × Option Blk) := bif c_hashP args then u_hashP o args else none
theorem hashP_at : QuietAt Try.prog 27 (lav (g_hashP concS)) := by
  refine quietAt_of_runA X_sumM_ok (L := []) (keep := [0,2,3]) Try.func27 (c := bodyOf Try.f27) (by kernel_rfl) (by kernel_rfl) (LoopsOK.nil) fun args v h hw => ⟨400, ?_⟩
  unfold g_hashP at h
  have hg := (bif_some h).1
  replace h := (bif_some h).2
  unfold u_hashP at h
  split at h
  · rename_i b
    replace hg : (decide (b.length + 128 ≤ maxRoom)) = true := hg
    rw [← h]
    refine (hashP_run concS b).trans ?_
    exact sumPT_eq concS (of_decide_eq_true hg)
  · cases h
noncomputable def X_hashP (o : SOps) : Cx := { X_sumM o with O := addQ (X_sumM o).O 27 (lavG c_hashP (u_hashP o)) }
theorem X_hashP_ok : CxOK Try.prog (X_hashP concS) := { X_sumM_ok with quiet := addQ_ok X_sumM_ok.quiet (lavG_at hashP_at) }
end Go.Proofs.Ytmhbhpmfbalbeaa

