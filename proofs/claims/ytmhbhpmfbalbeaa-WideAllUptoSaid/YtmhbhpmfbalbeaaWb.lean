/- Contracts of SHA-512's block, of the document: the words. -/
import Derived.Test.YtmhbhpmfbalbeaaWa
namespace Go.Proofs.Ytmhbhpmfbalbeaa
open Go Pw Go.RowKit
noncomputable abbrev wdR : Func := Try.f37
structure S_sr where
  t : Int
  B0 : Blk
  B1 : Blk
  w : List Nat
def d_sr : LoopDef2 S_sr where
  ts := [1, 2, 3, 6]
  E := fun s => [(1, .ptr 0 0), (2, .ptr 1 0), (3, .ptr 2 0), (6, .n s.t)]
  M := fun s => [s.B0, s.B1, ⟨.ints .u64 s.w, true⟩]
  Mo := fun s => [s.B0, s.B1, ⟨.cells (arrS .u64 80 s.w), true⟩]
  dec := fun vs mem => match vs, mem with
    | [.ptr 0 0, .ptr 1 0, .ptr 2 0, .n t], [B0, B1, ⟨c, true⟩] => (match blkInts .u64 ⟨c, true⟩ with
      | some w => some ⟨t, B0, B1, w⟩
      | none => none)
    | _, _ => none
  ok := fun vs mem s h => by
    split at h
    · split at h
      · rename_i w hw
        cases h
        exact ⟨rfl, .cons (.refl _) (.cons (.refl _) (.cons (blkInts_some hw) .nil))⟩
      · cases h
    · cases h
def srN (s : S_sr) : S_sr := { s with t := w64 (s.t + 1), w := s.w.set (0 + s.t.toNat * 1) (newR (at' s.w (w64 (s.t - 16))) (at' s.w (w64 (s.t - 15))) (at' s.w (w64 (s.t - 7))) (at' s.w (w64 (s.t - 2)))) }
theorem sr_step (s : S_sr) : codeK X_wordsP [] wdR.ntmps [0,1,2,3,4,5,6,7,8,10,14,32] 60 (loopB (bodyOf wdR) 10) (d_sr.E s) (d_sr.M s) (outK d_sr.ts) =
    bif decide (s.t < 80) then (gd 80 s.w (w64 (s.t - 15)) (gd 80 s.w (w64 (s.t - 2)) (gd 80 s.w (w64 (s.t - 7)) (gd 80 s.w (w64 (s.t - 16)) (gd 80 s.w s.t (some (.normal, d_sr.E (srN s), d_sr.M (srN s)))))))) else some (.exit 4, d_sr.E s, d_sr.M s) := by kernel_rfl
theorem sr_mem (s : S_sr) (z : List Nat) (h : z.length = 80) : MemEq (d_sr.M { s with t := 80, w := z }) (d_sr.Mo { s with t := 80, w := z }) :=
  .cons (.refl _) (.cons (.refl _) (.cons (blkEq_arrS h _) .nil))
def gSr : LoopFn := d_sr.fn (fun s => decide (s.t = 16) && Nat.beq s.w.length 80) (.exit 4) (fun s => { s with t := 80, w := sched newR s.w 64 })
theorem sr_at : LoopAt Try.prog wdR.ntmps (loopB (bodyOf wdR) 10) gSr := by
  refine d_sr.loop (keep := [0,1,2,3,4,5,6,7,8,10,14,32]) X_wordsP_ok LoopsOK.nil (by simp) fun s hg => ⟨64, fun i => { s with t := ((16 + i : Nat) : Int), w := sched newR s.w i }, ?_, ?_, fun i hi => ⟨60, ?_⟩, 60, ?_⟩
  · simp only [Bool.and_eq_true] at hg
    have h1 := of_decide_eq_true hg.1
    show S_sr.mk _ _ _ _ = _
    rw [show (((16 + 0 : Nat) : Nat) : Int) = s.t by rw [h1]; rfl]; rfl
  · simp only [Bool.and_eq_true] at hg
    exact sr_mem s _ ((sched_len newR s.w 64).trans (Nat.eq_of_beq_eq_true hg.2))
  · simp only [Bool.and_eq_true] at hg
    have hl : (sched newR s.w i).length = 80 := by rw [sched_len]; exact Nat.eq_of_beq_eq_true hg.2
    refine (sr_step _).trans ?_
    dsimp only
    have e0 : srN { s with t := ((16 + i : Nat) : Int), w := sched newR s.w i } = { s with t := ((16 + (i + 1) : Nat) : Int), w := sched newR s.w (i + 1) } := by
      unfold srN
      dsimp only
      rw [w64_id (x := ((16 + i : Nat) : Int) + 1) (by omega) (by omega), w64_id (x := ((16 + i : Nat) : Int) - 16) (by omega) (by omega), w64_id (x := ((16 + i : Nat) : Int) - 15) (by omega) (by omega),
        w64_id (x := ((16 + i : Nat) : Int) - 7) (by omega) (by omega), w64_id (x := ((16 + i : Nat) : Int) - 2) (by omega) (by omega),
        show ((16 + i : Nat) : Int) - 16 = ((16 + i - 16 : Nat) : Int) by omega, show ((16 + i : Nat) : Int) - 15 = ((16 + i - 15 : Nat) : Int) by omega, show ((16 + i : Nat) : Int) - 7 = ((16 + i - 7 : Nat) : Int) by omega, show ((16 + i : Nat) : Int) - 2 = ((16 + i - 2 : Nat) : Int) by omega,
        at_nat, at_nat, at_nat, at_nat, show 0 + ((16 + i : Nat) : Int).toNat * 1 = 16 + i by omega, show ((16 + i : Nat) : Int) + 1 = ((16 + (i + 1) : Nat) : Int) by omega]
      rfl
    rw [e0, w64_id (x := ((16 + i : Nat) : Int) - 16) (by omega) (by omega), w64_id (x := ((16 + i : Nat) : Int) - 15) (by omega) (by omega),
        w64_id (x := ((16 + i : Nat) : Int) - 7) (by omega) (by omega), w64_id (x := ((16 + i : Nat) : Int) - 2) (by omega) (by omega), decide_eq_true (by omega), cond_true,
        gd_true (by omega) (by omega) (by omega), gd_true (by omega) (by omega) (by omega), gd_true (by omega) (by omega) (by omega), gd_true (by omega) (by omega) (by omega), gd_true (by omega) (by omega) (by omega)]
  · refine (sr_step _).trans ?_
    rw [decide_eq_false (show ¬ ((16 + 64 : Nat) : Int) < 80 by omega), cond_false]
    rfl
theorem wr_loops : LoopsOK Try.prog wdR.ntmps [(10, gSr)] (bodyOf wdR) := loopsOK_cons LoopsOK.nil (by kernel_rfl) sr_at
theorem wordsR_run (b : List Nat) : runQL X_wordsP [(10, gSr)] [0,1,2,3,4,5,6,7,8,10,14,32] 4000 wdR (bodyOf wdR) [b128V b] = some (w80V (wordsR b)) := by kernel_rfl
def g_wordsR : List AV → Option AV
  | [x] => (match b128? x with
    | some b => some (w80V (wordsR b))
    | none => none)
  | _ => none
theorem wordsR_at : QuietAt Try.prog 37 (val g_wordsR) := by
  refine quietAt_of_runL X_wordsP_ok (keep := [0,1,2,3,4,5,6,7,8,10,14,32]) Try.func37 (c := bodyOf wdR) (by kernel_rfl) (by kernel_rfl) wr_loops fun args v h hw => ⟨4000, ?_⟩
  unfold g_wordsR at h
  split at h
  · split at h
    · rename_i b hb
      rw [b128?_some hb, wordsR_run]; exact h
    · cases h
  · cases h
def X_wordsR : Cx := { X_wordsP with O := addQ X_wordsP.O 37 (val g_wordsR) }
theorem X_wordsR_ok : CxOK Try.prog X_wordsR := { X_wordsP_ok with quiet := addQ_ok X_wordsP_ok.quiet wordsR_at }
theorem constR_run   : runQ X_wordsR [0] 100 Try.f38 (bodyOf Try.f38) [] = some (w80V KW) := by
  kernel_rfl
def g_constR (args : List AV) : Option AV := match args with
  | [] => some (w80V KW)
  | _ => none
theorem constR_at : QuietAt Try.prog 38 (val g_constR) := by
  refine quietAt_of_run X_wordsR_ok (keep := [0]) Try.func38 (c := bodyOf Try.f38) (by kernel_rfl) (by kernel_rfl) fun args v h hw => ⟨100, ?_⟩
  unfold g_constR at h
  split at h
  · rw [constR_run]; exact h
  · cases h
def X_constR : Cx := { X_wordsR with O := addQ X_wordsR.O 38 (val g_constR) }
theorem X_constR_ok : CxOK Try.prog X_constR := { X_wordsR_ok with quiet := addQ_ok X_wordsR_ok.quiet constR_at }
theorem startP_run   : runQ X_constR [0] 100 Try.f40 (bodyOf Try.f40) [] = some (w8V SW) := by
  kernel_rfl
def g_startP (args : List AV) : Option AV := match args with
  | [] => some (w8V SW)
  | _ => none
theorem startP_at : QuietAt Try.prog 40 (val g_startP) := by
  refine quietAt_of_run X_constR_ok (keep := [0]) Try.func40 (c := bodyOf Try.f40) (by kernel_rfl) (by kernel_rfl) fun args v h hw => ⟨100, ?_⟩
  unfold g_startP at h
  split at h
  · rw [startP_run]; exact h
  · cases h
def X_startP : Cx := { X_constR with O := addQ X_constR.O 40 (val g_startP) }
theorem X_startP_ok : CxOK Try.prog X_startP := { X_constR_ok with quiet := addQ_ok X_constR_ok.quiet startP_at }
theorem startR_run   : runQ X_startP [0] 100 Try.f29 (bodyOf Try.f29) [] = some (w8V SW) := by
  kernel_rfl
def g_startR (args : List AV) : Option AV := match args with
  | [] => some (w8V SW)
  | _ => none
theorem startR_at : QuietAt Try.prog 29 (val g_startR) := by
  refine quietAt_of_run X_startP_ok (keep := [0]) Try.func29 (c := bodyOf Try.f29) (by kernel_rfl) (by kernel_rfl) fun args v h hw => ⟨100, ?_⟩
  unfold g_startR at h
  split at h
  · rw [startR_run]; exact h
  · cases h
def X_startR : Cx := { X_startP with O := addQ X_startP.O 29 (val g_startR) }
theorem X_startR_ok : CxOK Try.prog X_startR := { X_startP_ok with quiet := addQ_ok X_startP_ok.quiet startR_at }
def gConst : List AV → Mem → Option (Bool × AV × Option Blk)
  | [], [] => some (true, .ptr 0 0, some ⟨.cells (arrS .u64 80 KW), true⟩)
  | _, _ => none
theorem constP_run : runG X_startR [] [0] 200 Try.f35 (bodyOf Try.f35) [] [] = some (.ptr 0 0, some ⟨.cells (arrS .u64 80 KW), true⟩) := by kernel_rfl
theorem constP_at : QuietAt Try.prog 35 (grab gConst) := by
  refine quietAt_of_runG X_startR_ok (keep := [0]) Try.func35 (c := bodyOf Try.f35) (by kernel_rfl) (by kernel_rfl) LoopsOK.nil fun ar ms cd v nb h hc hw => ⟨200, ms, .refl _, ?_⟩
  unfold gConst at h
  split at h
  · cases h; exact constP_run
  · cases h
def X_constP : Cx := { X_startR with O := addQ X_startR.O 35 (grab gConst) }
theorem X_constP_ok : CxOK Try.prog X_constP := { X_startR_ok with quiet := addQ_ok X_startR_ok.quiet constP_at }
end Go.Proofs.Ytmhbhpmfbalbeaa

