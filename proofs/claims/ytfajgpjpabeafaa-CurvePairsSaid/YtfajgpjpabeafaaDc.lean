/- The last loop of CurvePairs: another seed, and the first list changed. -/
import Derived.Test.YtfajgpjpabeafaaDb
namespace Go.Proofs.Ytfajgpjpabeafaa
open Go Pw Go.RowKit
structure S_cp3 where
  n : Nat
  m : Nat
  k : Nat
  x6 : AV
  x8 : AV
  i : Int
  a : List Nat
  l : List Nat
  B2 : Blk
  B3 : Blk
  c : List Nat
def d_cp3 : LoopDef S_cp3 where
  ts := [0, 3, 5, 6, 7, 8, 10, 11]
  E := fun s => [(0, .slice 0 0 s.n false), (3, .slice 1 0 s.m true), (5, .ptr 2 0), (6, s.x6), (7, .ptr 3 0), (8, s.x8), (10, .slice 4 0 s.k true), (11, .n s.i)]
  M := fun s => [⟨.bytes s.a, false⟩, ⟨.bytes s.l, true⟩, s.B2, s.B3, ⟨.bytes s.c, true⟩]
  dec := fun vs mem => match vs, mem with
    | [.slice 0 0 n false, .slice 1 0 m true, .ptr 2 0, x6, .ptr 3 0, x8, .slice 4 0 k true, x11], [⟨.bytes a, false⟩, ⟨.bytes l, true⟩, B2, B3, ⟨.bytes c, true⟩] => (match int? x11 with
      | some i => some ⟨n, m, k, x6, x8, i, a, l, B2, B3, c⟩
      | _ => none)
    | _, _ => none
  ok := fun vs mem s h => by
    split at h
    · split at h
      · rename_i i hh0
        have ehh0 := int?_some hh0
        subst ehh0
        cases h; exact ⟨rfl, rfl⟩
      · cases h
    · cases h
def cp3J (s : S_cp3) : Nat := 0 + (w64 (w64 ((s.n : Int) - 1) - s.i)).toNat * 1
def cp3X (s : S_cp3) : Nat := 0 + s.i.toNat * 1
def cp3C (s : S_cp3) : List Nat := s.c.set (cp3X s) (s.a.getD (cp3J s) 0 ^^^ Int.toNat 85)
def cp3N (s : S_cp3) : S_cp3 := { s with i := w64 (s.i + 1), l := s.l.set (cp3X s) ((cp3C s).getD (cp3X s) 0), c := cp3C s }
theorem cp3_step (o : FOps) (s : S_cp3) : codeK (X_pairD o) [] cpL.ntmps [0,2,3,4,5,6,7,8,9,10,11,20,48,56,57,58,59,60,61,62,63,64,67,68,69,70,71,72,73,74,75,76,77,78,79,80,81,82,83,84,89,90,91,92,99,138,139,140] 60 (loopB (bodyOf cpL) 18) (d_cp3.E s) (d_cp3.M s) (outK d_cp3.ts) =
    bif decide (s.i < (s.n : Int)) then (bif decide (0 ≤ w64 (w64 ((s.n : Int) - 1) - s.i) ∧ w64 (w64 ((s.n : Int) - 1) - s.i) < (s.n : Int)) then (bif decide (cp3J s < s.a.length) then (bif decide (0 ≤ s.i ∧ s.i < (s.k : Int)) then (bif decide (cp3X s < s.c.length) then (bif decide (0 ≤ s.i ∧ s.i < (s.k : Int)) then (bif decide (cp3X s < (cp3C s).length) then
      (bif decide (0 ≤ s.i ∧ s.i < (s.m : Int)) then (bif decide (cp3X s < s.l.length) then some (.normal, d_cp3.E (cp3N s), d_cp3.M (cp3N s)) else none) else none) else none) else none) else none) else none) else none) else none) else some (.exit 4, d_cp3.E s, d_cp3.M s) := by kernel_rfl
def revx (a : List Nat) : List Nat := a.reverse.map (· ^^^ 85)
theorem revx_len (a : List Nat) : (revx a).length = a.length := by unfold revx; simp
def turnT (R c : List Nat) (i : Nat) : List Nat := R.take i ++ c.drop i
theorem turnT_len (R c : List Nat) {i : Nat} (h : i ≤ R.length) (h' : i ≤ c.length) : (turnT R c i).length = c.length := by
  unfold turnT; rw [List.length_append, List.length_take, List.length_drop]; omega
theorem turnT_set (R c : List Nat) {i : Nat} (h : i < R.length) (h' : i < c.length) : (turnT R c i).set i (R.getD i 0) = turnT R c (i + 1) := by
  have hl : (R.take i).length = i := by rw [List.length_take]; omega
  unfold turnT
  rw [List.set_append_right _ _ (by omega), hl, Nat.sub_self, List.drop_eq_getElem_cons h', List.set_cons_zero, List.take_succ_eq_append_getElem h, List.append_assoc]
  simp [List.getD_eq_getElem?_getD, h]
theorem turnT_get (R c : List Nat) {i : Nat} (h : i < R.length) : (turnT R c (i + 1)).getD i 0 = R.getD i 0 := by
  unfold turnT
  rw [List.getD_eq_getElem?_getD, List.getElem?_append_left (by rw [List.length_take]; omega), List.getElem?_take_of_lt (by omega), List.getD_eq_getElem?_getD]
theorem revx_get (a : List Nat) {i : Nat} (h : i < a.length) : a.getD (a.length - 1 - i) 0 ^^^ 85 = (revx a).getD i 0 := by
  unfold revx
  rw [List.getD_eq_getElem?_getD, List.getD_eq_getElem?_getD, List.getElem?_map, List.getElem?_reverse h, List.getElem?_eq_getElem (by omega)]
  rfl
def gCp3 : LoopFn := d_cp3.fn (fun s => decide (s.i = 0 ∧ s.n = s.a.length ∧ s.k = s.n ∧ s.c.length = s.n ∧ s.m = s.l.length ∧ s.n ≤ s.m ∧ s.m < 4611686018427387904)) (.exit 4) (fun s => { s with i := (s.n : Int), l := turnT (revx s.a) s.l s.n, c := turnT (revx s.a) s.c s.n })
theorem cp3_at : LoopAt Try.prog cpL.ntmps (loopB (bodyOf cpL) 18) gCp3 := by
  refine d_cp3.loop (keep := [0,2,3,4,5,6,7,8,9,10,11,20,48,56,57,58,59,60,61,62,63,64,67,68,69,70,71,72,73,74,75,76,77,78,79,80,81,82,83,84,89,90,91,92,99,138,139,140]) X_pairD_ok LoopsOK.nil (by simp) fun s hg => ⟨s.n, fun i => { s with i := (i : Int), l := turnT (revx s.a) s.l i, c := turnT (revx s.a) s.c i }, ?_, fun i hi => ⟨60, ?_⟩, 60, ?_⟩
  · obtain ⟨h1, -⟩ := of_decide_eq_true hg
    cases s; simp_all [turnT]
  · obtain ⟨h1, h2, h3, h4, h5, h6, h7⟩ := of_decide_eq_true hg
    have hr := revx_len s.a
    refine (cp3_step concFOps _).trans ?_
    have hw : w64 (w64 ((s.n : Int) - 1) - (i : Int)) = (s.n : Int) - 1 - (i : Int) := by rw [w64_id (x := (s.n : Int) - 1) (by omega) (by omega), w64_id (by omega) (by omega)]
    have hJ : cp3J { s with i := (i : Int), l := turnT (revx s.a) s.l i, c := turnT (revx s.a) s.c i } = s.a.length - 1 - i := by unfold cp3J; dsimp only; rw [hw]; omega
    have hX : cp3X { s with i := (i : Int), l := turnT (revx s.a) s.l i, c := turnT (revx s.a) s.c i } = i := by unfold cp3X; dsimp only; omega
    have hC : cp3C { s with i := (i : Int), l := turnT (revx s.a) s.l i, c := turnT (revx s.a) s.c i } = turnT (revx s.a) s.c (i + 1) := by
      unfold cp3C
      rw [hJ, hX]
      dsimp only
      rw [show Int.toNat 85 = 85 from rfl, revx_get _ (by omega), turnT_set _ _ (by omega) (by omega)]
    have hN : cp3N { s with i := (i : Int), l := turnT (revx s.a) s.l i, c := turnT (revx s.a) s.c i } = { s with i := ((i + 1 : Nat) : Int), l := turnT (revx s.a) s.l (i + 1), c := turnT (revx s.a) s.c (i + 1) } := by
      unfold cp3N
      rw [hC, hX]
      dsimp only
      rw [turnT_get _ _ (by omega), turnT_set _ _ (by omega) (by omega), w64_id (by omega) (by omega)]
      rfl
    rw [hN, hJ, hX, hC]
    dsimp only
    rw [hw, turnT_len _ _ (by omega) (by omega), turnT_len _ _ (by omega) (by omega), turnT_len _ _ (by omega) (by omega)]
    repeat first | rw [cond_true] | rw [decide_eq_true (by omega)]
  · refine (cp3_step concFOps _).trans ?_
    rw [decide_eq_false (show ¬ ((s.n : Nat) : Int) < (s.n : Int) by omega), cond_false]
theorem cp_loops : LoopsOK Try.prog cpL.ntmps [(4, gCp1), (10, gCp2), (18, gCp3)] (bodyOf cpL) := loopsOK_cons (loopsOK_cons (loopsOK_cons LoopsOK.nil (by kernel_rfl) cp3_at) (by kernel_rfl) cp2_at) (by kernel_rfl) cp1_at
end Go.Proofs.Ytfajgpjpabeafaa

