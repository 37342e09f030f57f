/- The laws' lists that are lent and looked at again. -/
import Derived.Test.YtfajgpjpabeafaaFe
namespace Go.Proofs.Ytfajgpjpabeafaa
open Go Pw Go.RowKit

/-! ### kept -/
noncomputable abbrev kpL : Func := Try.f90
structure S_kpO where
  n0 : Nat
  n1 : Nat
  i : Int
  a : List Nat
  b : List Nat
def d_kpO : LoopDef S_kpO where
  ts := [0, 1, 5]
  E := fun s => [(0, .slice 0 0 s.n0 false), (1, .slice 1 0 s.n1 false), (5, .n s.i)]
  M := fun s => [⟨.bytes s.a, false⟩, ⟨.bytes s.b, false⟩]
  dec := fun vs mem => match vs, mem with
    | [.slice 0 0 n0 false, .slice 1 0 n1 false, x5], [⟨.bytes a, false⟩, ⟨.bytes b, false⟩] => (match int? x5 with
      | some i => some ⟨n0, n1, i, a, b⟩
      | _ => none)
    | _, _ => none
  ok := fun vs mem s h => by
    split at h
    · split at h
      · rename_i i hh0
        have ehh0 := int?_some hh0
        subst ehh0
        cases h; exact ⟨rfl, rfl⟩
      · cases h
    · cases h
def kpX (s : S_kpO) : Nat := 0 + s.i.toNat * 1
def kpN (s : S_kpO) : Option (Ex × Env × Mem) := some (.normal, d_kpO.E { s with i := w64 (s.i + 1) }, d_kpO.M { s with i := w64 (s.i + 1) })
def kpR (s : S_kpO) : Option (Ex × Env × Mem) := some (.ret, d_kpO.E s, d_kpO.M s)
def kpB (s : S_kpO) : Option (Ex × Env × Mem) := bif decide ((s.n1 : Int) ≤ s.i) then (bif decide (0 ≤ s.i ∧ s.i < (s.n0 : Int)) then (bif decide (kpX s < s.a.length) then (bif !decide (s.a.getD (kpX s) 0 = (w64 (w64 (171 + s.i) - (s.n1 : Int)) % 256).toNat) then kpR s else kpN s) else none) else none) else kpN s
theorem kpO_step (o : FOps) (s : S_kpO) : codeK (X_halfLaw o) [] kpL.ntmps [0,1,4,5,9,17,18,19,20,21,22,23,24,25,28,29,30,31,32,33,34,35,36,37,38,39,40,41,42,43,44,45] 60 (loopB (bodyOf kpL) 2) (d_kpO.E s) (d_kpO.M s) (outK d_kpO.ts) =
    bif decide (s.i < (s.n0 : Int)) then (bif decide (s.i < (s.n1 : Int)) then (bif decide (0 ≤ s.i ∧ s.i < (s.n0 : Int)) then (bif decide (kpX s < s.a.length) then (bif decide (0 ≤ s.i ∧ s.i < (s.n1 : Int)) then (bif decide (kpX s < s.b.length) then
      (bif !decide (s.a.getD (kpX s) 0 = s.b.getD (kpX s) 0) then kpR s else kpB s) else none) else none) else none) else none) else kpB s) else some (.exit 0, d_kpO.E s, d_kpO.M s) := by kernel_rfl
def marks (n : Nat) : List Nat := (List.range n).map fun i => (171 + i) % 256
def keptOk (a b : List Nat) : Bool := decide (a = b ++ marks 32 ∧ a.length < 4611686018427387904)
def gKp : LoopFn := d_kpO.fn (fun s => decide (s.n0 = s.a.length ∧ s.n1 = s.b.length ∧ s.i = 0 ∧ s.a = s.b ++ marks 32 ∧ s.a.length < 4611686018427387904)) (.exit 0) (fun s => { s with i := (s.n0 : Int) })
theorem marks_get (n i : Nat) (h : i < n) : (marks n)[i]? = some ((171 + i) % 256) := by
  unfold marks
  rw [List.getElem?_map, List.getElem?_range h]; rfl
theorem kpO_at : LoopAt Try.prog kpL.ntmps (loopB (bodyOf kpL) 2) gKp := by
  refine d_kpO.loop (keep := [0,1,4,5,9,17,18,19,20,21,22,23,24,25,28,29,30,31,32,33,34,35,36,37,38,39,40,41,42,43,44,45]) X_halfLaw_ok LoopsOK.nil (by simp) fun s hg => ⟨s.n0, fun i => { s with i := (i : Int) }, ?_, fun i hi => ⟨60, ?_⟩, 60, ?_⟩
  · obtain ⟨-, -, h, -⟩ := of_decide_eq_true hg
    cases s; simp_all
  · obtain ⟨h1, h2, h3, h4, h5⟩ := of_decide_eq_true hg
    have hl : s.a.length = s.b.length + 32 := by rw [h4, List.length_append]; unfold marks; simp
    refine (kpO_step concFOps _).trans ?_
    have hx : kpX { s with i := (i : Int) } = i := by unfold kpX; dsimp only; omega
    have hN : kpN { s with i := (i : Int) } = some (.normal, d_kpO.E { s with i := ((i + 1 : Nat) : Int) }, d_kpO.M { s with i := ((i + 1 : Nat) : Int) }) := by
      unfold kpN
      dsimp only
      rw [w64_id (by omega) (by omega)]; rfl
    have hB : kpB { s with i := (i : Int) } = kpN { s with i := (i : Int) } := by
      unfold kpB
      rw [hx]
      dsimp only
      by_cases hb : (s.n1 : Int) ≤ (i : Int)
      · have hget : s.a.getD i 0 = (171 + (i - s.b.length)) % 256 := by
          rw [List.getD_eq_getElem?_getD, h4, List.getElem?_append_right (by omega), marks_get _ _ (by omega)]; rfl
        rw [decide_eq_true hb, cond_true, decide_eq_true (show (0 : Int) ≤ (i : Int) ∧ (i : Int) < (s.n0 : Int) by omega), cond_true, decide_eq_true (show i < s.a.length by omega), cond_true, hget,
          decide_eq_true (show (171 + (i - s.b.length)) % 256 = (w64 (w64 (171 + (i : Int)) - (s.n1 : Int)) % 256).toNat by
            rw [w64_id (x := 171 + (i : Int)) (by omega) (by omega), w64_id (by omega) (by omega)]; omega)]
        rfl
      · rw [decide_eq_false hb, cond_false]
    rw [hx, hB, hN]
    dsimp only
    rw [decide_eq_true (show (i : Int) < (s.n0 : Int) by omega), cond_true]
    by_cases hb : (i : Int) < (s.n1 : Int)
    · have hget : s.a.getD i 0 = s.b.getD i 0 := by
        rw [List.getD_eq_getElem?_getD, List.getD_eq_getElem?_getD, h4, List.getElem?_append_left (by omega)]
      rw [decide_eq_true hb, cond_true, decide_eq_true (show (0 : Int) ≤ (i : Int) ∧ (i : Int) < (s.n0 : Int) by omega), cond_true, decide_eq_true (show i < s.a.length by omega), cond_true,
        decide_eq_true (show (0 : Int) ≤ (i : Int) ∧ (i : Int) < (s.n1 : Int) by omega), cond_true, decide_eq_true (show i < s.b.length by omega), cond_true, hget, decide_eq_true rfl]
      rfl
    · rw [decide_eq_false hb, cond_false]
  · refine (kpO_step concFOps _).trans ?_
    rw [decide_eq_false (show ¬ ((s.n0 : Nat) : Int) < (s.n0 : Int) by omega), cond_false]
theorem kp_loops : LoopsOK Try.prog kpL.ntmps [(2, gKp)] (bodyOf kpL) := loopsOK_cons LoopsOK.nil (by kernel_rfl) kpO_at
theorem keptL_run (o : FOps) (a : List Nat) (b : List Nat) : runNL (X_halfLaw o) [(2, gKp)] [0,1,4,5,9,17,18,19,20,21,22,23,24,25,28,29,30,31,32,33,34,35,36,37,38,39,40,41,42,43,44,45] 200 Try.f90 (bodyOf Try.f90) (laArgs [.l a, .l b] 0) (laLists [.l a, .l b]) = bif decide (a.length = a.length ∧ b.length = b.length ∧ (0 : Int) = 0 ∧ a = b ++ marks 32 ∧ a.length < 4611686018427387904) then some (.bool true, none) else none := by
  kernel_rfl
def u_keptL (_ : FOps) (args : List LA) : Option (AV × Option Blk) := match args with
  | [.l _, .l _] => some (.bool true, none)
  | _ => none
def c_keptL (args : List LA) : Bool := match args with
  | [.l a, .l b] => keptOk a b
  | _ => false
def g_keptL (o : FOps) (args : List LA) : Option (AV × Option Blk) := bif c_keptL args then u_keptL o args else none
theorem keptL_at : QuietAt Try.prog 90 (lav (g_keptL concFOps)) := by
  refine quietAt_of_runA X_halfLaw_ok (L := [(2, gKp)]) (keep := [0,1,4,5,9,17,18,19,20,21,22,23,24,25,28,29,30,31,32,33,34,35,36,37,38,39,40,41,42,43,44,45]) Try.func90 (c := bodyOf Try.f90) (by kernel_rfl) (by kernel_rfl) (kp_loops) fun args v h hw => ⟨200, ?_⟩
  unfold g_keptL at h
  have hg := (bif_some h).1
  replace h := (bif_some h).2
  unfold u_keptL at h
  split at h
  · rename_i a b
    replace hg : (keptOk a b) = true := hg
    rw [← h]
    refine (keptL_run concFOps a b).trans ?_
    rw [decide_eq_true ⟨rfl, rfl, rfl, (of_decide_eq_true hg).1, (of_decide_eq_true hg).2⟩, cond_true]
  · cases h
def X_keptL (o : FOps) : Cx := { X_halfLaw o with O := addQ (X_halfLaw o).O 90 (lavG c_keptL (u_keptL o)) }
theorem X_keptL_ok : CxOK Try.prog (X_keptL concFOps) := { X_halfLaw_ok with quiet := addQ_ok X_halfLaw_ok.quiet (lavG_at keptL_at) }
end Go.Proofs.Ytfajgpjpabeafaa

