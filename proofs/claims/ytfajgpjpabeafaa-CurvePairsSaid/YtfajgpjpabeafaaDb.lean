/- The loops of CurvePairs. -/
import Derived.Test.YtfajgpjpabeafaaDa
namespace Go.Proofs.Ytfajgpjpabeafaa
open Go Pw Go.RowKit
noncomputable abbrev cpL : Func := Try.f22
def marksP (n : Nat) : List Nat := (List.range n).map fun i => (100 + i) % 256
theorem marksP_succ (i : Nat) : marksP (i + 1) = marksP i ++ [(100 + i) % 256] := by
  unfold marksP; rw [List.range_succ, List.map_append]; rfl
theorem marksP_len (i : Nat) : (marksP i).length = i := by unfold marksP; simp
/-! ### 80 bytes behind the seed -/
structure S_cp1 where
  n : Nat
  m : Nat
  i : Int
  a : List Nat
  l : List Nat
def d_cp1 : LoopDef S_cp1 where
  ts := [0, 3, 4]
  E := fun s => [(0, .slice 0 0 s.n false), (3, .slice 1 0 s.m true), (4, .n s.i)]
  M := fun s => [⟨.bytes s.a, false⟩, ⟨.bytes s.l, true⟩]
  dec := fun vs mem => match vs, mem with
    | [.slice 0 0 n false, .slice 1 0 m true, x4], [⟨.bytes a, false⟩, ⟨.bytes l, true⟩] => (match int? x4 with
      | some i => some ⟨n, m, i, a, l⟩
      | _ => none)
    | _, _ => none
  ok := fun vs mem s h => by
    split at h
    · split at h
      · rename_i i hh0
        have ehh0 := int?_some hh0
        subst ehh0
        cases h; exact ⟨rfl, rfl⟩
      · cases h
    · cases h
def cp1X (s : S_cp1) : Nat := 0 + (w64 ((s.n : Int) + s.i)).toNat * 1
def cp1N (s : S_cp1) : S_cp1 := { s with i := w64 (s.i + 1), l := s.l.set (cp1X s) (w64 (100 + s.i) % 256).toNat }
theorem cp1_step (o : FOps) (s : S_cp1) : codeK (X_pairD o) [] cpL.ntmps [0,2,3,4,5,6,7,8,9,10,11,20,48,56,57,58,59,60,61,62,63,64,67,68,69,70,71,72,73,74,75,76,77,78,79,80,81,82,83,84,89,90,91,92,99,138,139,140] 60 (loopB (bodyOf cpL) 4) (d_cp1.E s) (d_cp1.M s) (outK d_cp1.ts) =
    bif decide (s.i < 80) then (bif decide (0 ≤ w64 ((s.n : Int) + s.i) ∧ w64 ((s.n : Int) + s.i) < (s.m : Int)) then (bif decide (cp1X s < s.l.length) then some (.normal, d_cp1.E (cp1N s), d_cp1.M (cp1N s)) else none) else none) else some (.exit 0, d_cp1.E s, d_cp1.M s) := by kernel_rfl
def fillP (A : List Nat) (i : Nat) : List Nat := (A ++ marksP i) ++ List.replicate (80 - i) 0
theorem fillP_len (A : List Nat) {i : Nat} (h : i ≤ 80) : (fillP A i).length = A.length + 80 := by
  unfold fillP; rw [List.length_append, List.length_append, marksP_len, List.length_replicate]; omega
theorem fillP_set (A : List Nat) {i : Nat} (h : i < 80) : (fillP A i).set (A.length + i) ((100 + i) % 256) = fillP A (i + 1) := by
  unfold fillP
  rw [show 80 - i = (80 - (i + 1)) + 1 by omega, List.replicate_succ, marksP_succ, List.set_append_right _ _ (by rw [List.length_append, marksP_len]; omega), List.length_append, marksP_len, Nat.sub_self, List.set_cons_zero]
  simp
def gCp1 : LoopFn := d_cp1.fn (fun s => decide (s.i = 0 ∧ s.m = s.n + 80 ∧ s.l = fillP (s.l.take s.n) 0 ∧ (s.l.take s.n).length = s.n ∧ s.m < 4611686018427387904)) (.exit 0) (fun s => { s with i := 80, l := fillP (s.l.take s.n) 80 })
theorem cp1_at : LoopAt Try.prog cpL.ntmps (loopB (bodyOf cpL) 4) gCp1 := by
  refine d_cp1.loop (keep := [0,2,3,4,5,6,7,8,9,10,11,20,48,56,57,58,59,60,61,62,63,64,67,68,69,70,71,72,73,74,75,76,77,78,79,80,81,82,83,84,89,90,91,92,99,138,139,140]) X_pairD_ok LoopsOK.nil (by simp) fun s hg => ⟨80, fun i => { s with i := (i : Int), l := fillP (s.l.take s.n) i }, ?_, fun i hi => ⟨60, ?_⟩, 60, ?_⟩
  · obtain ⟨h1, -, h3, -⟩ := of_decide_eq_true hg
    show S_cp1.mk _ _ _ _ _ = _
    rw [← h3, show ((0 : Nat) : Int) = s.i from h1.symm]
  · obtain ⟨h1, h2, h3, h4, h5⟩ := of_decide_eq_true hg
    refine (cp1_step concFOps _).trans ?_
    have hw : w64 ((s.n : Int) + (i : Int)) = (s.n : Int) + (i : Int) := w64_id (by omega) (by omega)
    have hx : cp1X { s with i := (i : Int), l := fillP (s.l.take s.n) i } = (s.l.take s.n).length + i := by unfold cp1X; dsimp only; rw [hw, h4]; omega
    have hN : cp1N { s with i := (i : Int), l := fillP (s.l.take s.n) i } = { s with i := ((i + 1 : Nat) : Int), l := fillP (s.l.take s.n) (i + 1) } := by
      unfold cp1N
      rw [hx]
      dsimp only
      rw [w64_id (x := (i : Int) + 1) (by omega) (by omega), w64_id (x := 100 + (i : Int)) (by omega) (by omega), show ((100 + (i : Int)) % 256).toNat = (100 + i) % 256 by omega, fillP_set _ hi]
      rfl
    rw [hN, hx]
    dsimp only
    rw [hw, fillP_len _ (by omega), decide_eq_true (by omega), cond_true, decide_eq_true (by omega), cond_true, decide_eq_true (by omega), cond_true]
  · refine (cp1_step concFOps _).trans ?_
    rw [decide_eq_false (show ¬ ((80 : Nat) : Int) < 80 by omega), cond_false]
    rfl
/-! ### the 80 bytes looked at again -/
theorem marksP_get (n i : Nat) (h : i < n) : (marksP n)[i]? = some ((100 + i) % 256) := by
  unfold marksP
  rw [List.getElem?_map, List.getElem?_range h]; rfl
structure S_cp2 where
  n : Nat
  m : Nat
  x6 : AV
  x8 : AV
  i : Int
  a : List Nat
  l : List Nat
  B2 : Blk
  B3 : Blk
def d_cp2 : LoopDef S_cp2 where
  ts := [0, 3, 5, 6, 7, 8, 9]
  E := fun s => [(0, .slice 0 0 s.n false), (3, .slice 1 0 s.m true), (5, .ptr 2 0), (6, s.x6), (7, .ptr 3 0), (8, s.x8), (9, .n s.i)]
  M := fun s => [⟨.bytes s.a, false⟩, ⟨.bytes s.l, true⟩, s.B2, s.B3]
  dec := fun vs mem => match vs, mem with
    | [.slice 0 0 n false, .slice 1 0 m true, .ptr 2 0, x6, .ptr 3 0, x8, x9], [⟨.bytes a, false⟩, ⟨.bytes l, true⟩, B2, B3] => (match int? x9 with
      | some i => some ⟨n, m, x6, x8, i, a, l, B2, B3⟩
      | _ => none)
    | _, _ => none
  ok := fun vs mem s h => by
    split at h
    · split at h
      · rename_i i hh0
        have ehh0 := int?_some hh0
        subst ehh0
        cases h; exact ⟨rfl, rfl⟩
      · cases h
    · cases h
def cp2X (s : S_cp2) : Nat := 0 + s.i.toNat * 1
def cp2N (s : S_cp2) : Option (Ex × Env × Mem) := some (.normal, d_cp2.E { s with i := w64 (s.i + 1) }, d_cp2.M { s with i := w64 (s.i + 1) })
def cp2R (s : S_cp2) : Option (Ex × Env × Mem) := some (.ret, d_cp2.E s, d_cp2.M s)
def cp2B (s : S_cp2) : Option (Ex × Env × Mem) := bif decide ((s.n : Int) ≤ s.i) then (bif decide (0 ≤ s.i ∧ s.i < (s.m : Int)) then (bif decide (cp2X s < s.l.length) then (bif !decide (s.l.getD (cp2X s) 0 = (w64 (w64 (100 + s.i) - (s.n : Int)) % 256).toNat) then cp2R s else cp2N s) else none) else none) else cp2N s
theorem cp2_step (o : FOps) (s : S_cp2) : codeK (X_pairD o) [] cpL.ntmps [0,2,3,4,5,6,7,8,9,10,11,20,48,56,57,58,59,60,61,62,63,64,67,68,69,70,71,72,73,74,75,76,77,78,79,80,81,82,83,84,89,90,91,92,99,138,139,140] 60 (loopB (bodyOf cpL) 10) (d_cp2.E s) (d_cp2.M s) (outK d_cp2.ts) =
    bif decide (s.i < (s.m : Int)) then (bif decide (s.i < (s.n : Int)) then (bif decide (0 ≤ s.i ∧ s.i < (s.m : Int)) then (bif decide (cp2X s < s.l.length) then (bif decide (0 ≤ s.i ∧ s.i < (s.n : Int)) then (bif decide (cp2X s < s.a.length) then
      (bif !decide (s.l.getD (cp2X s) 0 = s.a.getD (cp2X s) 0) then cp2R s else cp2B s) else none) else none) else none) else none) else cp2B s) else some (.exit 2, d_cp2.E s, d_cp2.M s) := by kernel_rfl
def gCp2 : LoopFn := d_cp2.fn (fun s => decide (s.m = s.l.length ∧ s.n = s.a.length ∧ s.i = 0 ∧ s.l = s.a ++ marksP 80 ∧ s.l.length < 4611686018427387904)) (.exit 2) (fun s => { s with i := (s.m : Int) })
theorem cp2_at : LoopAt Try.prog cpL.ntmps (loopB (bodyOf cpL) 10) gCp2 := by
  refine d_cp2.loop (keep := [0,2,3,4,5,6,7,8,9,10,11,20,48,56,57,58,59,60,61,62,63,64,67,68,69,70,71,72,73,74,75,76,77,78,79,80,81,82,83,84,89,90,91,92,99,138,139,140]) X_pairD_ok LoopsOK.nil (by simp) fun s hg => ⟨s.m, fun i => { s with i := (i : Int) }, ?_, fun i hi => ⟨60, ?_⟩, 60, ?_⟩
  · obtain ⟨-, -, h, -⟩ := of_decide_eq_true hg
    cases s; simp_all
  · obtain ⟨h1, h2, h3, h4, h5⟩ := of_decide_eq_true hg
    have hl : s.l.length = s.a.length + 80 := by rw [h4, List.length_append, marksP_len]
    refine (cp2_step concFOps _).trans ?_
    have hx : cp2X { s with i := (i : Int) } = i := by unfold cp2X; dsimp only; omega
    have hN : cp2N { s with i := (i : Int) } = some (.normal, d_cp2.E { s with i := ((i + 1 : Nat) : Int) }, d_cp2.M { s with i := ((i + 1 : Nat) : Int) }) := by
      unfold cp2N
      dsimp only
      rw [w64_id (by omega) (by omega)]; rfl
    have hB : cp2B { s with i := (i : Int) } = cp2N { s with i := (i : Int) } := by
      unfold cp2B
      rw [hx]
      dsimp only
      by_cases hb : (s.n : Int) ≤ (i : Int)
      · have hget : s.l.getD i 0 = (100 + (i - s.a.length)) % 256 := by
          rw [List.getD_eq_getElem?_getD, h4, List.getElem?_append_right (by omega), marksP_get _ _ (by omega)]; rfl
        rw [decide_eq_true hb, cond_true, decide_eq_true (show (0 : Int) ≤ (i : Int) ∧ (i : Int) < (s.m : Int) by omega), cond_true, decide_eq_true (show i < s.l.length by omega), cond_true, hget,
          decide_eq_true (show (100 + (i - s.a.length)) % 256 = (w64 (w64 (100 + (i : Int)) - (s.n : Int)) % 256).toNat by
            rw [w64_id (x := 100 + (i : Int)) (by omega) (by omega), w64_id (by omega) (by omega)]; omega)]
        rfl
      · rw [decide_eq_false hb, cond_false]
    rw [hx, hB, hN]
    dsimp only
    rw [decide_eq_true (show (i : Int) < (s.m : Int) by omega), cond_true]
    by_cases hb : (i : Int) < (s.n : Int)
    · have hget : s.l.getD i 0 = s.a.getD i 0 := by
        rw [List.getD_eq_getElem?_getD, List.getD_eq_getElem?_getD, h4, List.getElem?_append_left (by omega)]
      rw [decide_eq_true hb, cond_true, decide_eq_true (show (0 : Int) ≤ (i : Int) ∧ (i : Int) < (s.m : Int) by omega), cond_true, decide_eq_true (show i < s.l.length by omega), cond_true,
        decide_eq_true (show (0 : Int) ≤ (i : Int) ∧ (i : Int) < (s.n : Int) by omega), cond_true, decide_eq_true (show i < s.a.length by omega), cond_true, hget, decide_eq_true rfl]
      rfl
    · rw [decide_eq_false hb, cond_false]
  · refine (cp2_step concFOps _).trans ?_
    rw [decide_eq_false (show ¬ ((s.m : Nat) : Int) < (s.m : Int) by omega), cond_false]
end Go.Proofs.Ytfajgpjpabeafaa

