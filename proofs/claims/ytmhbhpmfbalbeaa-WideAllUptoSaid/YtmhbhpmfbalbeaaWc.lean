/- Contracts of SHA-512's block: the rounds. -/
import Derived.Test.YtmhbhpmfbalbeaaWb
namespace Go.Proofs.Ytmhbhpmfbalbeaa
open Go Pw Go.RowKit
def r8E (r : R8) : List AV := [.u .u64 r.a, .u .u64 r.b, .u .u64 r.c, .u .u64 r.d, .u .u64 r.e, .u .u64 r.f, .u .u64 r.g, .u .u64 r.h]
structure S_bk where
  t : Int
  B0 : Blk
  B1 : Blk
  B2 : Blk
  k : List Nat
  w : List Nat
  r : R8
/-! ### the program's Block -/
noncomputable abbrev bkP : Func := Try.f15
def d_bp : LoopDef2 S_bk where
  ts := [2, 4, 5, 6, 7, 8, 9, 10, 11, 12, 13, 14, 38]
  E := fun s => [(2, .ptr 0 0), (4, .ptr 2 0), (5, .ptr 4 0), (6, .ptr 3 0), (7, .u .u64 s.r.a), (8, .u .u64 s.r.b), (9, .u .u64 s.r.c), (10, .u .u64 s.r.d), (11, .u .u64 s.r.e), (12, .u .u64 s.r.f), (13, .u .u64 s.r.g), (14, .u .u64 s.r.h), (38, .n s.t)]
  M := fun s => [s.B0, s.B1, s.B2, ⟨.ints .u64 s.k, true⟩, ⟨.ints .u64 s.w, true⟩]
  Mo := fun s => [s.B0, s.B1, s.B2, ⟨.cells (arrS .u64 80 s.k), true⟩, ⟨.cells (arrS .u64 80 s.w), true⟩]
  dec := fun vs mem => match vs, mem with
    | [.ptr 0 0, .ptr 2 0, .ptr 4 0, .ptr 3 0, .u .u64 a, .u .u64 b, .u .u64 c, .u .u64 d, .u .u64 e, .u .u64 f, .u .u64 g, .u .u64 h, .n t], [B0, B1, B2, ⟨c3, true⟩, ⟨c4, true⟩] => (match blkInts .u64 ⟨c3, true⟩, blkInts .u64 ⟨c4, true⟩ with
      | some k, some w => some ⟨t, B0, B1, B2, k, w, ⟨a, b, c, d, e, f, g, h⟩⟩
      | _, _ => none)
    | _, _ => none
  ok := fun vs mem s h => by
    split at h
    · split at h
      · rename_i k w hk hw
        cases h
        exact ⟨rfl, .cons (.refl _) (.cons (.refl _) (.cons (.refl _) (.cons (blkInts_some hk) (.cons (blkInts_some hw) .nil))))⟩
      · cases h
    · cases h
def bpN (s : S_bk) : S_bk := { s with t := w64 (s.t + 1), r := roundW rotP (at' s.k s.t) (at' s.w s.t) s.r }
theorem bp_step (s : S_bk) : codeK X_constP [] bkP.ntmps [0,1,2,3,4,5,6,7,8,9,10,11,12,13,14,15,16,17,18,19,38,39,111,112,113] 60 (loopB (bodyOf bkP) 4) (d_bp.E s) (d_bp.M s) (outK d_bp.ts) =
    bif decide (s.t < 80) then (gd 80 s.k s.t (gd 80 s.w s.t (some (.normal, d_bp.E (bpN s), d_bp.M (bpN s))))) else some (.exit 0, d_bp.E s, d_bp.M s) := by kernel_rfl
theorem bp_mem (s : S_bk) (z : R8) (h1 : s.k.length = 80) (h2 : s.w.length = 80) : MemEq (d_bp.M { s with t := 80, r := z }) (d_bp.Mo { s with t := 80, r := z }) :=
  .cons (.refl _) (.cons (.refl _) (.cons (.refl _) (.cons (blkEq_arrS h1 _) (.cons (blkEq_arrS h2 _) .nil))))
def gBpF (F : List Nat → List Nat → R8 → R8) : LoopFn := d_bp.fn (fun s => decide (s.t = 0) && (Nat.beq s.k.length 80 && Nat.beq s.w.length 80)) (.exit 0) (fun s => { s with t := 80, r := F s.k s.w s.r })
def gBp : LoopFn := gBpF (rnd80 rotP)
theorem bp_at : LoopAt Try.prog bkP.ntmps (loopB (bodyOf bkP) 4) gBp := by
  refine d_bp.loop (keep := [0,1,2,3,4,5,6,7,8,9,10,11,12,13,14,15,16,17,18,19,38,39,111,112,113]) X_constP_ok LoopsOK.nil (by simp) fun s hg => ⟨80, fun i => { s with t := (i : Int), r := roundsW rotP s.k s.w s.r i }, ?_, ?_, fun i hi => ⟨60, ?_⟩, 60, ?_⟩
  · simp only [Bool.and_eq_true] at hg
    have h1 := of_decide_eq_true hg.1
    show S_bk.mk _ _ _ _ _ _ _ = _
    rw [show ((0 : Nat) : Int) = s.t by rw [h1]; rfl]; rfl
  · simp only [Bool.and_eq_true] at hg
    exact bp_mem s _ (Nat.eq_of_beq_eq_true hg.2.1) (Nat.eq_of_beq_eq_true hg.2.2)
  · simp only [Bool.and_eq_true] at hg
    have hk : s.k.length = 80 := Nat.eq_of_beq_eq_true hg.2.1
    have hw : s.w.length = 80 := Nat.eq_of_beq_eq_true hg.2.2
    refine (bp_step _).trans ?_
    dsimp only
    have e0 : bpN { s with t := (i : Int), r := roundsW rotP s.k s.w s.r i } = { s with t := ((i + 1 : Nat) : Int), r := roundsW rotP s.k s.w s.r (i + 1) } := by
      unfold bpN
      dsimp only
      rw [w64_id (x := (i : Int) + 1) (by omega) (by omega), at_nat, at_nat, show (i : Int) + 1 = ((i + 1 : Nat) : Int) by omega]
      rfl
    rw [e0, decide_eq_true (by omega), cond_true, gd_true (by omega) (by omega) (by omega), gd_true (by omega) (by omega) (by omega)]
  · refine (bp_step _).trans ?_
    rw [decide_eq_false (show ¬ ((80 : Nat) : Int) < 80 by omega), cond_false]
    rfl
theorem bp_loops : LoopsOK Try.prog bkP.ntmps [(4, gBp)] (bodyOf bkP) := loopsOK_cons LoopsOK.nil (by kernel_rfl) bp_at
theorem blockP_run (F : List Nat → List Nat → R8 → R8) (h b : List Nat) : runQL X_constP [(4, gBpF F)] [0,1,2,3,4,5,6,7,8,9,10,11,12,13,14,15,16,17,18,19,38,39,111,112,113] 400 bkP (bodyOf bkP) [w8V h, b128V b] = some (w8V (plus8 h (F KW (resp 80 (wordsP b)) (r8 h)))) := by kernel_rfl
theorem blockP_at1 (h b : List Nat) : runQL X_constP [(4, gBp)] [0,1,2,3,4,5,6,7,8,9,10,11,12,13,14,15,16,17,18,19,38,39,111,112,113] 400 bkP (bodyOf bkP) [w8V h, b128V b] = some (w8V (blockP h b)) := blockP_run (rnd80 rotP) h b
def g_blockP : List AV → Option AV
  | [x, y] => (match w8? x, b128? y with
    | some h, some b => some (w8V (blockP h b))
    | _, _ => none)
  | _ => none
theorem blockP_at : QuietAt Try.prog 15 (val g_blockP) := by
  refine quietAt_of_runL X_constP_ok (keep := [0,1,2,3,4,5,6,7,8,9,10,11,12,13,14,15,16,17,18,19,38,39,111,112,113]) Try.func15 (c := bodyOf bkP) (by kernel_rfl) (by kernel_rfl) bp_loops fun args v h hw => ⟨400, ?_⟩
  unfold g_blockP at h
  split at h
  · split at h
    · rename_i h1 b1 hh hb
      rw [w8?_some hh, b128?_some hb, blockP_at1]; exact h
    · cases h
  · cases h
def X_blockP : Cx := { X_constP with O := addQ X_constP.O 15 (val g_blockP) }
theorem X_blockP_ok : CxOK Try.prog X_blockP := { X_constP_ok with quiet := addQ_ok X_constP_ok.quiet blockP_at }
/-! ### the document's Block -/
noncomputable abbrev bkR : Func := Try.f16
def d_br : LoopDef2 S_bk where
  ts := [2, 4, 5, 6, 7, 8]
  E := fun s => [(2, .ptr 0 0), (4, .ptr 2 0), (5, .ptr 3 0), (6, .ptr 4 0), (7, .ptr 5 0), (8, .n s.t)]
  M := fun s => [s.B0, s.B1, s.B2, ⟨.ints .u64 s.w, true⟩, ⟨.ints .u64 s.k, true⟩, ⟨.cells (r8E s.r), true⟩]
  Mo := fun s => [s.B0, s.B1, s.B2, ⟨.cells (arrS .u64 80 s.w), true⟩, ⟨.cells (arrS .u64 80 s.k), true⟩, ⟨.cells (r8E s.r), true⟩]
  dec := fun vs mem => match vs, mem with
    | [.ptr 0 0, .ptr 2 0, .ptr 3 0, .ptr 4 0, .ptr 5 0, .n t], [B0, B1, B2, ⟨c3, true⟩, ⟨c4, true⟩, ⟨.cells [.u .u64 a, .u .u64 b, .u .u64 c, .u .u64 d, .u .u64 e, .u .u64 f, .u .u64 g, .u .u64 h], true⟩] => (match blkInts .u64 ⟨c3, true⟩, blkInts .u64 ⟨c4, true⟩ with
      | some w, some k => some ⟨t, B0, B1, B2, k, w, ⟨a, b, c, d, e, f, g, h⟩⟩
      | _, _ => none)
    | _, _ => none
  ok := fun vs mem s h => by
    split at h
    · split at h
      · rename_i w k hw hk
        cases h
        exact ⟨rfl, .cons (.refl _) (.cons (.refl _) (.cons (.refl _) (.cons (blkInts_some hw) (.cons (blkInts_some hk) (.cons (.refl _) .nil)))))⟩
      · cases h
    · cases h
def brN (s : S_bk) : S_bk := { s with t := w64 (s.t + 1), r := roundW rotR (at' s.k s.t) (at' s.w s.t) s.r }
theorem br_step (s : S_bk) : codeK X_blockP [] bkR.ntmps [0,1,2,3,4,5,6,7,8,9,10,11,12,13,19,101] 60 (loopB (bodyOf bkR) 5) (d_br.E s) (d_br.M s) (outK d_br.ts) =
    bif decide (s.t < 80) then (gd 80 s.k s.t (gd 80 s.w s.t (some (.normal, d_br.E (brN s), d_br.M (brN s))))) else some (.exit 0, d_br.E s, d_br.M s) := by kernel_rfl
theorem br_mem (s : S_bk) (z : R8) (h1 : s.k.length = 80) (h2 : s.w.length = 80) : MemEq (d_br.M { s with t := 80, r := z }) (d_br.Mo { s with t := 80, r := z }) :=
  .cons (.refl _) (.cons (.refl _) (.cons (.refl _) (.cons (blkEq_arrS h2 _) (.cons (blkEq_arrS h1 _) (.cons (.refl _) .nil)))))
def gBrF (F : List Nat → List Nat → R8 → R8) : LoopFn := d_br.fn (fun s => decide (s.t = 0) && (Nat.beq s.k.length 80 && Nat.beq s.w.length 80)) (.exit 0) (fun s => { s with t := 80, r := F s.k s.w s.r })
def gBr : LoopFn := gBrF (rnd80 rotR)
theorem br_at : LoopAt Try.prog bkR.ntmps (loopB (bodyOf bkR) 5) gBr := by
  refine d_br.loop (keep := [0,1,2,3,4,5,6,7,8,9,10,11,12,13,19,101]) X_blockP_ok LoopsOK.nil (by simp) fun s hg => ⟨80, fun i => { s with t := (i : Int), r := roundsW rotR s.k s.w s.r i }, ?_, ?_, fun i hi => ⟨60, ?_⟩, 60, ?_⟩
  · simp only [Bool.and_eq_true] at hg
    have h1 := of_decide_eq_true hg.1
    show S_bk.mk _ _ _ _ _ _ _ = _
    rw [show ((0 : Nat) : Int) = s.t by rw [h1]; rfl]; rfl
  · simp only [Bool.and_eq_true] at hg
    exact br_mem s _ (Nat.eq_of_beq_eq_true hg.2.1) (Nat.eq_of_beq_eq_true hg.2.2)
  · simp only [Bool.and_eq_true] at hg
    have hk : s.k.length = 80 := Nat.eq_of_beq_eq_true hg.2.1
    have hw : s.w.length = 80 := Nat.eq_of_beq_eq_true hg.2.2
    refine (br_step _).trans ?_
    dsimp only
    have e0 : brN { s with t := (i : Int), r := roundsW rotR s.k s.w s.r i } = { s with t := ((i + 1 : Nat) : Int), r := roundsW rotR s.k s.w s.r (i + 1) } := by
      unfold brN
      dsimp only
      rw [w64_id (x := (i : Int) + 1) (by omega) (by omega), at_nat, at_nat, show (i : Int) + 1 = ((i + 1 : Nat) : Int) by omega]
      rfl
    rw [e0, decide_eq_true (by omega), cond_true, gd_true (by omega) (by omega) (by omega), gd_true (by omega) (by omega) (by omega)]
  · refine (br_step _).trans ?_
    rw [decide_eq_false (show ¬ ((80 : Nat) : Int) < 80 by omega), cond_false]
    rfl
theorem br_loops : LoopsOK Try.prog bkR.ntmps [(5, gBr)] (bodyOf bkR) := loopsOK_cons LoopsOK.nil (by kernel_rfl) br_at
theorem blockR_run (F : List Nat → List Nat → R8 → R8) (h b : List Nat) : runQL X_blockP [(5, gBrF F)] [0,1,2,3,4,5,6,7,8,9,10,11,12,13,19,101] 400 bkR (bodyOf bkR) [w8V h, b128V b] = some (w8V (plus8 h (F KW (resp 80 (wordsR b)) (r8 h)))) := by kernel_rfl
theorem blockR_at1 (h b : List Nat) : runQL X_blockP [(5, gBr)] [0,1,2,3,4,5,6,7,8,9,10,11,12,13,19,101] 400 bkR (bodyOf bkR) [w8V h, b128V b] = some (w8V (blockR h b)) := blockR_run (rnd80 rotR) h b
def g_blockR : List AV → Option AV
  | [x, y] => (match w8? x, b128? y with
    | some h, some b => some (w8V (blockR h b))
    | _, _ => none)
  | _ => none
theorem blockR_at : QuietAt Try.prog 16 (val g_blockR) := by
  refine quietAt_of_runL X_blockP_ok (keep := [0,1,2,3,4,5,6,7,8,9,10,11,12,13,19,101]) Try.func16 (c := bodyOf bkR) (by kernel_rfl) (by kernel_rfl) br_loops fun args v h hw => ⟨400, ?_⟩
  unfold g_blockR at h
  split at h
  · split at h
    · rename_i h1 b1 hh hb
      rw [w8?_some hh, b128?_some hb, blockR_at1]; exact h
    · cases h
  · cases h
def X_blockR : Cx := { X_blockP with O := addQ X_blockP.O 16 (val g_blockR) }
theorem X_blockR_ok : CxOK Try.prog X_blockR := { X_blockP_ok with quiet := addQ_ok X_blockP_ok.quiet blockR_at }
end Go.Proofs.Ytmhbhpmfbalbeaa

