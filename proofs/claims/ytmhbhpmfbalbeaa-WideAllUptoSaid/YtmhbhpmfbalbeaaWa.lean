/- Contracts of SHA-512's block, of the program and of the document. -/
import Derived.Test.YtmhbhpmfbalbeaaTab
import Derived.Test.YtmhbhpmfbalbeaaPwMd
import Derived.Test.YtmhbhpmfbalbeaaPwMg
namespace Go.Proofs.Ytmhbhpmfbalbeaa
open Go Pw Go.RowKit
def bodyOf (f : Func) : Code := match f.body with | some c => c | none => .skip
def XW0 : Cx := ⟨T, noQ, noM⟩
theorem XW0_ok : CxOK Try.prog XW0 := ⟨mix, T_ok, noQ_ok, noM_ok⟩
def rotl (x : Nat) (k : Int) : Nat := (x * 2 ^ (min ((k % 18446744073709551616).toNat &&& 63) 64) % 2 ^ 64) ||| (x / 2 ^ (min ((64 + (2 ^ 64 - ((k % 18446744073709551616).toNat &&& 63))) % 2 ^ 64) 64))
theorem rotl_run  (x : Nat) (k : Int) : runQ XW0 [0,1,4,5] 100 Try.f42 (bodyOf Try.f42) [.u .u64 x, .n k] = some (.u .u64 (rotl x k)) := by
  kernel_rfl
def g_rotl (args : List AV) : Option AV := match args with
  | [x0, x1] => match u64? x0, int? x1 with
    | some x, some k => some (.u .u64 (rotl x k))
    | _, _ => none
  | _ => none
theorem rotl_at : QuietAt Try.prog 42 (val g_rotl) := by
  refine quietAt_of_run XW0_ok (keep := [0,1,4,5]) Try.func42 (c := bodyOf Try.f42) (by kernel_rfl) (by kernel_rfl) fun args v h hw => ⟨100, ?_⟩
  unfold g_rotl at h
  split at h
  · rename_i x0 x1
    split at h
    · rename_i x k h0 h1
      have eh0 := u64?_some h0
      subst eh0
      have eh1 := int?_some h1
      subst eh1
      rw [rotl_run]
      exact h
    · cases h
  · cases h
def X_rotl : Cx := { XW0 with O := addQ XW0.O 42 (val g_rotl) }
theorem X_rotl_ok : CxOK Try.prog X_rotl := { XW0_ok with quiet := addQ_ok XW0_ok.quiet rotl_at }
theorem rightP_run  (x : Nat) (n : Int) : runQ X_rotl [0,1,4] 100 Try.f36 (bodyOf Try.f36) [.u .u64 x, .n n] = some (.u .u64 (rotP x n)) := by
  kernel_rfl
def g_rightP (args : List AV) : Option AV := match args with
  | [x0, x1] => match u64? x0, int? x1 with
    | some x, some n => some (.u .u64 (rotP x n))
    | _, _ => none
  | _ => none
theorem rightP_at : QuietAt Try.prog 36 (val g_rightP) := by
  refine quietAt_of_run X_rotl_ok (keep := [0,1,4]) Try.func36 (c := bodyOf Try.f36) (by kernel_rfl) (by kernel_rfl) fun args v h hw => ⟨100, ?_⟩
  unfold g_rightP at h
  split at h
  · rename_i x0 x1
    split at h
    · rename_i x n h0 h1
      have eh0 := u64?_some h0
      subst eh0
      have eh1 := int?_some h1
      subst eh1
      rw [rightP_run]
      exact h
    · cases h
  · cases h
def X_rightP : Cx := { X_rotl with O := addQ X_rotl.O 36 (val g_rightP) }
theorem X_rightP_ok : CxOK Try.prog X_rightP := { X_rotl_ok with quiet := addQ_ok X_rotl_ok.quiet rightP_at }
def g_rightR : List AV → Option AV
  | [.u .u64 x, .n n] => bif decide (0 ≤ n) then (bif decide (0 ≤ w64 (64 - n)) then some (.u .u64 (rotR x n)) else none) else none
  | _ => none
theorem rightR_run (x : Nat) (n : Int) : runQ X_rightP [0,1,4] 100 Try.f39 (bodyOf Try.f39) [.u .u64 x, .n n] =
    bif decide (0 ≤ n) then (bif decide (0 ≤ w64 (64 - n)) then some (.u .u64 (rotR x n)) else none) else none := by kernel_rfl
theorem rightR_at : QuietAt Try.prog 39 (val g_rightR) := by
  refine quietAt_of_run X_rightP_ok (keep := [0,1,4]) Try.func39 (c := bodyOf Try.f39) (by kernel_rfl) (by kernel_rfl) fun args v h hw => ⟨100, ?_⟩
  unfold g_rightR at h
  split at h
  · rw [rightR_run]; exact h
  · cases h
def X_right : Cx := { X_rightP with O := addQ X_rightP.O 39 (val g_rightR) }
theorem X_right_ok : CxOK Try.prog X_right := { X_rightP_ok with quiet := addQ_ok X_rightP_ok.quiet rightR_at }

/-! ### the program's words -/
noncomputable abbrev wdP : Func := Try.f34
structure S_sp where
  t : Int
  B0 : Blk
  B1 : Blk
  w : List Nat
def d_sp : LoopDef2 S_sp where
  ts := [0, 2, 3, 7]
  E := fun s => [(0, .ptr 0 0), (2, .ptr 1 0), (3, .ptr 2 0), (7, .n s.t)]
  M := fun s => [s.B0, s.B1, ⟨.ints .u64 s.w, true⟩]
  Mo := fun s => [s.B0, s.B1, ⟨.cells (arrS .u64 80 s.w), true⟩]
  dec := fun vs mem => match vs, mem with
    | [.ptr 0 0, .ptr 1 0, .ptr 2 0, .n t], [B0, B1, ⟨c, true⟩] => (match blkInts .u64 ⟨c, true⟩ with
      | some w => some ⟨t, B0, B1, w⟩
      | none => none)
    | _, _ => none
  ok := fun vs mem s h => by
    split at h
    · split at h
      · rename_i w hw
        cases h
        exact ⟨rfl, .cons (.refl _) (.cons (.refl _) (.cons (blkInts_some hw) .nil))⟩
      · cases h
    · cases h
def gd {α : Type} (n : Int) (l : List Nat) (i : Int) (x : Option α) : Option α := bif decide (0 ≤ i ∧ i < n) then (bif decide (0 + i.toNat * 1 < l.length) then x else none) else none
def at' (l : List Nat) (i : Int) : Nat := l.getD (0 + i.toNat * 1) 0
def spN (s : S_sp) : S_sp := { s with t := w64 (s.t + 1), w := s.w.set (0 + s.t.toNat * 1) (newP (at' s.w (w64 (s.t - 16))) (at' s.w (w64 (s.t - 15))) (at' s.w (w64 (s.t - 7))) (at' s.w (w64 (s.t - 2)))) }
theorem sp_step (s : S_sp) : codeK X_right [] wdP.ntmps [0,2,3,4,6,7,8,9,10,11,23,24,25,26,41] 60 (loopB (bodyOf wdP) 12) (d_sp.E s) (d_sp.M s) (outK d_sp.ts) =
    bif decide (s.t < 80) then (gd 80 s.w (w64 (s.t - 15)) (gd 80 s.w (w64 (s.t - 2)) (gd 80 s.w (w64 (s.t - 16)) (gd 80 s.w (w64 (s.t - 7)) (gd 80 s.w s.t (some (.normal, d_sp.E (spN s), d_sp.M (spN s)))))))) else some (.exit 4, d_sp.E s, d_sp.M s) := by kernel_rfl
theorem gd_true {α : Type} {n : Int} {l : List Nat} {i : Int} {x : Option α} (h0 : 0 ≤ i) (h1 : i < n) (h2 : i.toNat < l.length) : gd n l i x = x := by
  unfold gd
  rw [decide_eq_true ⟨h0, h1⟩, cond_true, decide_eq_true (show 0 + i.toNat * 1 < l.length by omega), cond_true]
theorem at_nat (l : List Nat) (k : Nat) : at' l (k : Int) = l.getD k 0 := by unfold at'; congr 1; omega
theorem sched_len (nw : Nat → Nat → Nat → Nat → Nat) (w : List Nat) : ∀ i, (sched nw w i).length = w.length
  | 0 => rfl
  | i + 1 => by rw [sched, schStep, List.length_set, sched_len nw w i]
theorem sp_mem (s : S_sp) (z : List Nat) (h : z.length = 80) : MemEq (d_sp.M { s with t := 80, w := z }) (d_sp.Mo { s with t := 80, w := z }) :=
  .cons (.refl _) (.cons (.refl _) (.cons (blkEq_arrS h _) .nil))
def gSp : LoopFn := d_sp.fn (fun s => decide (s.t = 16) && Nat.beq s.w.length 80) (.exit 4) (fun s => { s with t := 80, w := sched newP s.w 64 })
theorem sp_at : LoopAt Try.prog wdP.ntmps (loopB (bodyOf wdP) 12) gSp := by
  refine d_sp.loop (keep := [0,2,3,4,6,7,8,9,10,11,23,24,25,26,41]) X_right_ok LoopsOK.nil (by simp) fun s hg => ⟨64, fun i => { s with t := ((16 + i : Nat) : Int), w := sched newP s.w i }, ?_, ?_, fun i hi => ⟨60, ?_⟩, 60, ?_⟩
  · simp only [Bool.and_eq_true] at hg
    have h1 := of_decide_eq_true hg.1
    show S_sp.mk _ _ _ _ = _
    rw [show (((16 + 0 : Nat) : Nat) : Int) = s.t by rw [h1]; rfl]; rfl
  · simp only [Bool.and_eq_true] at hg
    exact sp_mem s _ ((sched_len newP s.w 64).trans (Nat.eq_of_beq_eq_true hg.2))
  · simp only [Bool.and_eq_true] at hg
    have hl : (sched newP s.w i).length = 80 := by rw [sched_len]; exact Nat.eq_of_beq_eq_true hg.2
    refine (sp_step _).trans ?_
    dsimp only
    have e0 : spN { s with t := ((16 + i : Nat) : Int), w := sched newP s.w i } = { s with t := ((16 + (i + 1) : Nat) : Int), w := sched newP s.w (i + 1) } := by
      unfold spN
      dsimp only
      rw [w64_id (x := ((16 + i : Nat) : Int) + 1) (by omega) (by omega), w64_id (x := ((16 + i : Nat) : Int) - 16) (by omega) (by omega), w64_id (x := ((16 + i : Nat) : Int) - 15) (by omega) (by omega),
        w64_id (x := ((16 + i : Nat) : Int) - 7) (by omega) (by omega), w64_id (x := ((16 + i : Nat) : Int) - 2) (by omega) (by omega),
        show ((16 + i : Nat) : Int) - 16 = ((16 + i - 16 : Nat) : Int) by omega, show ((16 + i : Nat) : Int) - 15 = ((16 + i - 15 : Nat) : Int) by omega, show ((16 + i : Nat) : Int) - 7 = ((16 + i - 7 : Nat) : Int) by omega, show ((16 + i : Nat) : Int) - 2 = ((16 + i - 2 : Nat) : Int) by omega,
        at_nat, at_nat, at_nat, at_nat, show 0 + ((16 + i : Nat) : Int).toNat * 1 = 16 + i by omega, show ((16 + i : Nat) : Int) + 1 = ((16 + (i + 1) : Nat) : Int) by omega]
      rfl
    rw [e0, w64_id (x := ((16 + i : Nat) : Int) - 16) (by omega) (by omega), w64_id (x := ((16 + i : Nat) : Int) - 15) (by omega) (by omega),
        w64_id (x := ((16 + i : Nat) : Int) - 7) (by omega) (by omega), w64_id (x := ((16 + i : Nat) : Int) - 2) (by omega) (by omega), decide_eq_true (by omega), cond_true,
        gd_true (by omega) (by omega) (by omega), gd_true (by omega) (by omega) (by omega), gd_true (by omega) (by omega) (by omega), gd_true (by omega) (by omega) (by omega), gd_true (by omega) (by omega) (by omega)]
  · refine (sp_step _).trans ?_
    rw [decide_eq_false (show ¬ ((16 + 64 : Nat) : Int) < 80 by omega), cond_false]
    rfl
theorem wd_loops : LoopsOK Try.prog wdP.ntmps [(12, gSp)] (bodyOf wdP) := loopsOK_cons LoopsOK.nil (by kernel_rfl) sp_at
def gWords : List AV → Mem → Option (Bool × AV × Option Blk)
  | [.ptr 0 0], [⟨.cells cs, false⟩] => (match toInts .u8 cs with
    | some b => bif Nat.beq b.length 128 then some (true, w80V (wordsP b), none) else none
    | none => none)
  | _, _ => none
theorem wordsP_run (b : List Nat) : runG X_right [(12, gSp)] [0,2,3,4,6,7,8,9,10,11,23,24,25,26,41] 4000 wdP (bodyOf wdP) [.ptr 0 0] [⟨.cells (arrS .u8 128 b), false⟩] = some (w80V (wordsP b), none) := by kernel_rfl
theorem wordsP_at : QuietAt Try.prog 34 (grab gWords) := by
  refine quietAt_of_runG X_right_ok (keep := [0,2,3,4,6,7,8,9,10,11,23,24,25,26,41]) Try.func34 (c := bodyOf wdP) (by kernel_rfl) (by kernel_rfl) wd_loops fun ar ms cd v nb h hc hw => ⟨4000, ms, .refl _, ?_⟩
  unfold gWords at h
  split at h
  · split at h
    · rename_i cs b hb
      obtain ⟨hl, h⟩ := bif_some h
      cases h
      rw [toInts_eq hb, ← arrS_eq .u8 (Nat.eq_of_beq_eq_true hl)]
      exact wordsP_run b
    · cases h
  · cases h
def X_wordsP : Cx := { X_right with O := addQ X_right.O 34 (grab gWords) }
theorem X_wordsP_ok : CxOK Try.prog X_wordsP := { X_right_ok with quiet := addQ_ok X_right_ok.quiet wordsP_at }
end Go.Proofs.Ytmhbhpmfbalbeaa

