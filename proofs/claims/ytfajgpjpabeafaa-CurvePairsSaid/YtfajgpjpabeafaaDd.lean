/- The law CurvePairs: every Pair of any bytes; the seed stays, and may be written over: it answers true for every input. No conditions. -/
import Derived.Test.YtfajgpjpabeafaaFt
import Derived.Test.YtfajgpjpabeafaaDc
import Derived.Test.YtfajgpjpabeafaaCx
import Derived.Test.YtfajgpjpabeafaaPwMg
namespace Go.Proofs.Ytfajgpjpabeafaa
open Go Pw Go.RowKit Go.ChangeShapes
def eqNs : List Nat → List Nat → Bool
  | a :: l, b :: m => decide (a = b) && eqNs l m
  | _, _ => true
theorem eqNs_self : ∀ l : List Nat, eqNs l l = true
  | [] => rfl
  | a :: l => by rw [eqNs, eqNs_self l, decide_eq_true rfl]; rfl
def eqPr (a b c d : K32) : Bool := eqNs (a.toList ++ b.toList) (c.toList ++ d.toList)
def cp1g (s : S_cp1) : Bool := decide (s.i = 0 ∧ s.m = s.n + 80 ∧ s.l = fillP (s.l.take s.n) 0 ∧ (s.l.take s.n).length = s.n ∧ s.m < 4611686018427387904)
def cp1f (s : S_cp1) : S_cp1 := { s with i := 80, l := fillP (s.l.take s.n) 80 }
def cp2g (s : S_cp2) : Bool := decide (s.m = s.l.length ∧ s.n = s.a.length ∧ s.i = 0 ∧ s.l = s.a ++ marksP 80 ∧ s.l.length < 4611686018427387904)
def cp2f (s : S_cp2) : S_cp2 := { s with i := (s.m : Int) }
def cp3g (s : S_cp3) : Bool := decide (s.i = 0 ∧ s.n = s.a.length ∧ s.k = s.n ∧ s.c.length = s.n ∧ s.m = s.l.length ∧ s.n ≤ s.m ∧ s.m < 4611686018427387904)
def cp3f (s : S_cp3) : S_cp3 := { s with i := (s.n : Int), l := turnT (revx s.a) s.l s.n, c := turnT (revx s.a) s.c s.n }
def cpM (n : Nat) : Nat := (w64 ((n : Int) + 80)).toNat
def cpL1 (b : List Nat) : List Nat := List.take 0 (List.replicate (cpM b.length) 0) ++ (List.take (cpM b.length) (List.take b.length (List.drop 0 b)) ++ List.drop (0 + (List.take (cpM b.length) (List.take b.length (List.drop 0 b))).length) (List.replicate (cpM b.length) 0))
def pairB (o : FOps) (b : List Nat) : Blk := ⟨.cells (pairV (pairPa b) (pairPb o b)).cells, true⟩
def pairC (o : FOps) (b : List Nat) : Blk := ⟨.cells (pairV (pairDa b) (pairDb o b)).cells, true⟩
def cpS2 (b : List Nat) : S_cp1 := cp1f ⟨b.length, cpM b.length, 0, b, cpL1 b⟩
def lA (s : S_cp1) : List Nat := List.take ((s.n : Int).toNat - 0) (List.drop (0 + 0 * 1) s.l)
def lB (s : S_cp1) : List Nat := List.take s.n (List.drop 0 s.a)
def cpS3 (o : FOps) (s : S_cp1) : S_cp2 := cp2f ⟨s.n, s.m, .n (pairE (lA s)), .n (pairE (lB s)), 0, s.a, s.l, pairB o (lA s), pairC o (lB s)⟩
def cpS4 (s : S_cp2) : S_cp3 := ⟨s.n, s.m, (s.n : Int).toNat, s.x6, s.x8, 0, s.a, s.l, s.B2, s.B3, List.replicate (s.n : Int).toNat 0⟩
def lC (s : S_cp3) : List Nat := List.take ((s.n : Int).toNat - 0) (List.drop (0 + 0 * 1) s.l)
def lD (s : S_cp3) : List Nat := List.take s.k (List.drop 0 s.c)
def cpEnd (o : FOps) (s : S_cp3) : Option (AV × Option Blk) :=
  bif cp3g s then
    bif decide (0 ≤ ((cp3f s).n : Int) ∧ ((cp3f s).n : Int) ≤ ((cp3f s).m : Int)) then
    bif decide (0 + 0 * 1 + (((cp3f s).n : Int).toNat - 0) ≤ (cp3f s).l.length) then
    bif decide (0 + (cp3f s).k ≤ (cp3f s).c.length) then
      bif eqPr (pairPa (lC (cp3f s))) (pairPb o (lC (cp3f s))) (pairDa (lD (cp3f s))) (pairDb o (lD (cp3f s))) then some (.bool (decide (pairE (lC (cp3f s)) = pairE (lD (cp3f s)))), none) else some (.bool false, none)
    else none else none else none else none
def cpMid (o : FOps) (s : S_cp1) : Option (AV × Option Blk) :=
  bif cp2g ⟨s.n, s.m, .n (pairE (lA s)), .n (pairE (lB s)), 0, s.a, s.l, pairB o (lA s), pairC o (lB s)⟩ then
    bif !eqPr (pairPa (lA s)) (pairPb o (lA s)) (pairDa (lB s)) (pairDb o (lB s)) then some (.bool false, none) else
    bif !decide (pairE (lA s) = pairE (lB s)) then some (.bool false, none) else
    bif Nat.beq 1 1 && (Nat.beq 1 1 && decide (0 ≤ ((cpS3 o s).n : Int) ∧ ((cpS3 o s).n : Int) ≤ ((cpS3 o s).n : Int) ∧ ((cpS3 o s).n : Int) ≤ 281474976710656)) then cpEnd o (cpS4 (cpS3 o s)) else none
  else none
def cpT (o : FOps) (b : List Nat) : Option (AV × Option Blk) :=
  bif Nat.beq 1 1 && (Nat.beq 1 1 && decide (0 ≤ w64 ((b.length : Int) + 80) ∧ w64 ((b.length : Int) + 80) ≤ w64 ((b.length : Int) + 80) ∧ w64 ((b.length : Int) + 80) ≤ 281474976710656)) then
  bif decide (0 + b.length ≤ b.length) then
  bif decide (0 + (List.take (cpM b.length) (List.take b.length (List.drop 0 b))).length ≤ (List.replicate (cpM b.length) 0).length) then
  bif cp1g ⟨b.length, cpM b.length, 0, b, cpL1 b⟩ then
  bif decide (0 ≤ ((cpS2 b).n : Int) ∧ ((cpS2 b).n : Int) ≤ ((cpS2 b).m : Int)) then
  bif decide (0 + 0 * 1 + (((cpS2 b).n : Int).toNat - 0) ≤ (cpS2 b).l.length) then
  bif decide (0 + (cpS2 b).n ≤ (cpS2 b).a.length) then cpMid o (cpS2 b)
  else none else none else none else none else none else none else none
theorem lawCP_run (o : FOps) (b : List Nat) : runNL (X_pairD o) [(4, gCp1), (10, gCp2), (18, gCp3)] [0,2,3,4,5,6,7,8,9,10,11,20,48,56,57,58,59,60,61,62,63,64,67,68,69,70,71,72,73,74,75,76,77,78,79,80,81,82,83,84,89,90,91,92,99,138,139,140] 100 cpL (bodyOf cpL) (laArgs [.l b] 0) (laLists [.l b]) = cpT o b := by kernel_rfl
/-! ### in plain -/
theorem clamp_sc {k : K32} (hk : k.wf) : scalarK (clampS k) = scalarK k := by
  unfold scalarK
  rw [clamp_eq hk, clamp_twice hk]
theorem of_wf {b : List Nat} (hb : ∀ x ∈ b, x < 256) {k : K32} (h : K32.of? b = some k) : k.wf := by
  have := of?_some h
  intro x hx
  exact hb x (by rw [this]; exact hx)
theorem pair_eqs {b : List Nat} (hb : ∀ x ∈ b, x < 256) : pairPa b = pairDa b ∧ pairPb concFOps b = pairDb concFOps b := by
  unfold pairPa pairDa pairPb pairDb
  cases h : K32.of? b with
  | none => exact ⟨rfl, rfl⟩
  | some k =>
    have hk := of_wf hb h
    refine ⟨clamp_eq hk, ?_⟩
    show scaleO concFOps (clampS k) nineK = rscaleO concFOps k nineK
    rw [scale_congr (clampS_wf hk) hk nineK_wf nineK_wf (clamp_sc hk) rfl, scale_eq hk nineK_wf]
theorem cpM_eq {n : Nat} (h : n ≤ 140737488351232) : cpM n = n + 80 := by
  unfold cpM; rw [w64_id (by omega) (by omega)]; omega
theorem cpL1_eq {b : List Nat} (h : b.length ≤ 140737488351232) : cpL1 b = b ++ List.replicate 80 0 := by
  unfold cpL1
  rw [cpM_eq h, List.take_zero, List.drop_zero, List.take_length, List.take_of_length_le (by omega), List.drop_replicate, List.nil_append]
  congr 2
  omega
theorem cpS2_eq {b : List Nat} (h : b.length ≤ 140737488351232) : cpS2 b = ⟨b.length, b.length + 80, 80, b, b ++ marksP 80⟩ := by
  unfold cpS2 cp1f
  rw [cpL1_eq h, cpM_eq h]
  have e : List.take b.length (b ++ List.replicate 80 0) = b := by rw [List.take_left']; rfl
  dsimp only
  rw [e]
  unfold fillP
  rw [Nat.sub_self, List.replicate_zero, List.append_nil]
theorem take_a (b c : List Nat) : List.take ((b.length : Int).toNat - 0) (List.drop (0 + 0 * 1) (b ++ c)) = b := by
  rw [Int.toNat_natCast, Nat.sub_zero, show 0 + 0 * 1 = 0 from rfl, List.drop_zero, List.take_left']; rfl
theorem revx_bytes {b : List Nat} (hb : ∀ x ∈ b, x < 256) : ∀ x ∈ revx b, x < 256 := by
  intro x hx
  unfold revx at hx
  obtain ⟨y, hy, rfl⟩ := List.mem_map.1 hx
  exact Nat.xor_lt_two_pow (n := 8) (hb y (List.mem_reverse.1 hy)) (by decide)
theorem turn_full (b c : List Nat) : turnT (revx b) c b.length = revx b ++ c.drop b.length := by
  unfold turnT
  rw [List.take_of_length_le (by rw [revx_len]; exact Nat.le_refl _)]
theorem cpEnd_true {b : List Nat} (hb : ∀ x ∈ b, x < 256) (h : b.length ≤ 140737488351232) (x6 x8 : AV) (B2 B3 : Blk) :
    cpEnd concFOps ⟨b.length, b.length + 80, b.length, x6, x8, 0, b, b ++ marksP 80, B2, B3, List.replicate b.length 0⟩ = some (.bool true, none) := by
  have hr := revx_len b
  have e3 : cp3f ⟨b.length, b.length + 80, b.length, x6, x8, 0, b, b ++ marksP 80, B2, B3, List.replicate b.length 0⟩ = ⟨b.length, b.length + 80, b.length, x6, x8, (b.length : Int), b, revx b ++ (b ++ marksP 80).drop b.length, B2, B3, revx b⟩ := by
    unfold cp3f
    dsimp only
    rw [turn_full, turn_full, List.drop_replicate, Nat.sub_self, List.replicate_zero, List.append_nil]
  unfold cpEnd
  rw [e3]
  have eC : lC ⟨b.length, b.length + 80, b.length, x6, x8, (b.length : Int), b, revx b ++ (b ++ marksP 80).drop b.length, B2, B3, revx b⟩ = revx b := by
    unfold lC
    dsimp only
    rw [← hr]; exact take_a _ _
  have eD : lD ⟨b.length, b.length + 80, b.length, x6, x8, (b.length : Int), b, revx b ++ (b ++ marksP 80).drop b.length, B2, B3, revx b⟩ = revx b := by
    unfold lD
    dsimp only
    rw [List.drop_zero, List.take_of_length_le (by omega)]
  rw [eC, eD, (pair_eqs (revx_bytes hb)).1, (pair_eqs (revx_bytes hb)).2]
  have g : cp3g ⟨b.length, b.length + 80, b.length, x6, x8, 0, b, b ++ marksP 80, B2, B3, List.replicate b.length 0⟩ = true := by
    unfold cp3g
    exact decide_eq_true ⟨rfl, rfl, rfl, by simp, by simp [marksP_len], by simp, by simp; omega⟩
  rw [g, cond_true]
  dsimp only
  rw [decide_eq_true (by omega), cond_true, decide_eq_true (by simp; omega), cond_true, decide_eq_true (by omega), cond_true, show eqPr _ _ _ _ = true from eqNs_self _, cond_true, decide_eq_true rfl]
theorem cpT_true {b : List Nat} (hb : ∀ x ∈ b, x < 256) (h : b.length ≤ 140737488351232) : cpT concFOps b = some (.bool true, none) := by
  unfold cpT
  rw [cpS2_eq h, cpL1_eq h, cpM_eq h]
  have g1 : cp1g ⟨b.length, b.length + 80, 0, b, b ++ List.replicate 80 0⟩ = true := by
    have e : List.take b.length (b ++ List.replicate 80 0) = b := by rw [List.take_left']; rfl
    unfold cp1g
    refine decide_eq_true ⟨rfl, rfl, ?_, ?_, ?_⟩
    · dsimp only
      rw [e]; unfold fillP
      rw [show marksP 0 = [] from rfl, List.append_nil]
    · dsimp only
      rw [e]
    · dsimp only; omega
  rw [g1]
  dsimp only
  rw [w64_id (x := (b.length : Int) + 80) (by omega) (by omega), decide_eq_true (show (0 : Int) ≤ (b.length : Int) + 80 ∧ (b.length : Int) + 80 ≤ (b.length : Int) + 80 ∧ (b.length : Int) + 80 ≤ 281474976710656 by omega)]
  rw [show (Nat.beq 1 1 && (Nat.beq 1 1 && true)) = true from rfl, cond_true, decide_eq_true (by omega), cond_true, decide_eq_true (by simp), cond_true, cond_true, decide_eq_true (by omega), cond_true, decide_eq_true (by simp [marksP_len]), cond_true, cond_true]
  unfold cpMid
  have eA : lA ⟨b.length, b.length + 80, 80, b, b ++ marksP 80⟩ = b := take_a _ _
  have eB : lB ⟨b.length, b.length + 80, 80, b, b ++ marksP 80⟩ = b := by
    unfold lB
    dsimp only
    rw [List.drop_zero, List.take_length]
  have e3 : cpS4 (cpS3 concFOps ⟨b.length, b.length + 80, 80, b, b ++ marksP 80⟩) = ⟨b.length, b.length + 80, b.length, .n (pairE b), .n (pairE b), 0, b, b ++ marksP 80, pairB concFOps b, pairC concFOps b, List.replicate b.length 0⟩ := by
    unfold cpS4 cpS3 cp2f
    dsimp only
    rw [eA, eB, Int.toNat_natCast]
  rw [e3, eA, eB, (pair_eqs hb).1, (pair_eqs hb).2, cpEnd_true hb h]
  have g2 : cp2g ⟨b.length, b.length + 80, .n (pairE b), .n (pairE b), 0, b, b ++ marksP 80, pairB concFOps b, pairC concFOps b⟩ = true := by
    unfold cp2g
    exact decide_eq_true ⟨by simp [marksP_len], rfl, rfl, rfl, by simp [marksP_len]; omega⟩
  have en : (cpS3 concFOps ⟨b.length, b.length + 80, 80, b, b ++ marksP 80⟩).n = b.length := rfl
  rw [g2, cond_true, show eqPr _ _ _ _ = true from eqNs_self _, Bool.not_true, cond_false, decide_eq_true rfl, Bool.not_true, cond_false, en, decide_eq_true (by omega)]
  rfl
noncomputable abbrev XP : Cx := X_pairD concFOps
theorem XP_ok : CxOK Try.prog XP := X_pairD_ok
set_option maxRecDepth 100000 in
theorem curvePairs_lifted (os : Os) (started : os.Started) (H : Type) (enc : TypeId × Value → H) :
    ReturnsInHanded {} Try.checked os 22 .any (Rows.curvePairsSpec.pre6 enc Try.prog Try.f22 Rows.curvePairsRow.domain false) (Rows.curvePairsSpec.post enc Try.prog Try.f22 false true false false) := by
  refine law_lifted (C := Try.checked) (tb := 4) (by kernel_rfl) started (by kernel_rfl) Try.func22
    (ChangeSpec.witness6 (enc := enc) (C := Try.checked) false ⟨#[], #[.slice none 0 0], []⟩ 8 (by kernel_rfl) (by kernel_rfl) (by kernel_rfl) (by kernel_rfl)) rfl ?_ (by kernel_rfl) (by kernel_rfl) (by kernel_rfl) (by kernel_rfl) ?_
  · intro ds h
    match ds, h with | [d0], _ => rfl
  · intro W base args ds p hval hsz hA hlt hw
    obtain ⟨args⟩ := args
    match args, hsz, hval with
    | [a0], hsz, hval =>
      have n0 := NSt.empty W
      obtain ⟨_, _, tb, ub⟩ := trod_get hA hw 0 _ a0 (by kernel_rfl) rfl
      obtain ⟨b, wb, lb, fb⟩ := argBytes (t := 48) (by kernel_rfl) (hval 0 _ a0 (by kernel_rfl) rfl) tb ub
      obtain ⟨_, x1, n1, rb⟩ := n0.arg fb
      exact law_runN XP_ok Try.func22 (by kernel_rfl) cp_loops ((lawCP_run concFOps b).trans (cpT_true wb lb)) n1 (.cons _ _ _ _ rb .nil)
theorem curvePairs_facts : joinedFacts Try.pinned.checked.prog 22 Try.f22 Rows.curvePairsSpec Rows.curvePairsRow = true := by
  show joinedFacts Try.prog 22 Try.f22 Rows.curvePairsSpec Rows.curvePairsRow = true
  unfold joinedFacts
  rw [liftsF, heardF, enterF, makeF]
  kernel_rfl
theorem curvePairs_holds : Rows.CurvePairsSaid :=
  OpenClaim.holds_of_wide 22 Try.f22 rfl rfl rfl rfl rfl rfl rfl ⟨rfl, rfl, rfl, rfl, rfl⟩ rfl rfl rfl rfl rfl (by kernel_rfl) Try.func22 curvePairs_facts
    (of_decide_eq_true (by kernel_rfl)) (by unfold Func.isWrapper; first | (rw [if_pos (by decide +kernel)]; kernel_rfl) | (rw [if_neg (by decide +kernel)]; exact ⟨rfl, rfl⟩))
    (fun os started H enc _ => curvePairs_lifted os started H enc)
#print axioms curvePairs_holds
end Go.Proofs.Ytfajgpjpabeafaa

