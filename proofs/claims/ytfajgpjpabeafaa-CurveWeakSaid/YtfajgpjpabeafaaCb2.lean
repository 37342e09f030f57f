/- The law of chord and tangent, walked: doubled and added. -/
import Derived.Test.YtfajgpjpabeafaaCa2
namespace Go.Proofs.Ytfajgpjpabeafaa
open Go Pw Go.RowKit
def twO (o : FOps) (p : Cpt) : Cpt := plusO o p p
theorem weakL_run (o : FOps) (u : K32) : runNL (X_atL o) [] [0,1,2,3,4,9] 300 Try.f80 (bodyOf Try.f80) (laArgs [.v (keyV u)] 0) (laLists [.v (keyV u)]) = some (.bool (twO o (twO o (twO o (atO o (o.rfrm u))))).none, none) := by
  kernel_rfl
def g_weakL (o : FOps) (args : List LA) : Option (AV × Option Blk) := match args with
  | [.v x0] => (match key? x0 with
    | some u => some (.bool (twO o (twO o (twO o (atO o (o.rfrm u))))).none, none)
    | _ => none)
  | _ => none
theorem weakL_at : QuietAt Try.prog 80 (lav (g_weakL concFOps)) := by
  refine quietAt_of_runA X_atL_ok (L := []) (keep := [0,1,2,3,4,9]) Try.func80 (c := bodyOf Try.f80) (by kernel_rfl) (by kernel_rfl) (LoopsOK.nil) fun args v h hw => ⟨300, ?_⟩
  unfold g_weakL at h
  split at h
  · rename_i x0
    split at h
    · rename_i u hh0
      have ehh0 := key?_some hh0
      subst ehh0
      rw [← h]
      refine (weakL_run concFOps u).trans ?_
      rfl
    · cases h
  · cases h
noncomputable def X_weakL (o : FOps) : Cx := { X_atL o with O := addQ (X_atL o).O 80 (lav (g_weakL o)) }
theorem X_weakL_ok : CxOK Try.prog (X_weakL concFOps) := { X_atL_ok with quiet := addQ_ok X_atL_ok.quiet weakL_at }
noncomputable abbrev muL : Func := Try.f19
structure S_mu where
  v2 : AV
  v3 : AV
  t : Int
  B0 : Blk
  B1 : Blk
  k : K32
  p : Cpt
  r : Cpt
def d_mu : LoopDef S_mu where
  ts := [2, 3, 5, 6, 7, 8]
  E := fun s => [(2, s.v2), (3, s.v3), (5, .ptr 2 0), (6, .ptr 3 0), (7, .ptr 4 0), (8, .n s.t)]
  M := fun s => [s.B0, s.B1, bk (keyV s.k), bk (cptV s.p), bk (cptV s.r)]
  dec := fun vs mem => match vs, mem with
    | [v2, v3, .ptr 2 0, .ptr 3 0, .ptr 4 0, x8], [B0, B1, B2, B3, B4] => (match int? x8, key? (unbk B2), cpt? (unbk B3), cpt? (unbk B4) with
      | some t, some k, some p, some r => some ⟨v2, v3, t, B0, B1, k, p, r⟩
      | _, _, _, _ => none)
    | _, _ => none
  ok := fun vs mem s h => by
    split at h
    · split at h
      · rename_i t k p r hh0 hh1 hh2 hh3
        have ehh0 := int?_some hh0
        subst ehh0
        have ehh1 := unbk_some (key?_some hh1)
        subst ehh1
        have ehh2 := unbk_some (cpt?_some hh2)
        subst ehh2
        have ehh3 := unbk_some (cpt?_some hh3)
        subst ehh3
        cases h; exact ⟨rfl, rfl⟩
      · cases h
    · cases h
def muS (s : S_mu) (t : Nat) (r : Cpt) : Option (Ex × Env × Mem) := some (.normal, d_mu.E { s with t := (t : Int) - 1, r := r }, d_mu.M { s with t := (t : Int) - 1, r := r })

theorem mu_step_0 (o : FOps) (s : S_mu) : ∀ j : Nat, j < 8 → codeK (X_weakL o) [] muL.ntmps [0,1,2,3,4,5,6,7,8,16,17,18,21,22,23,24,32,46] 80 (loopB (bodyOf muL) 7) (d_mu.E { s with t := ((0 + j : Nat) : Int) }) (d_mu.M { s with t := ((0 + j : Nat) : Int) }) (outK d_mu.ts) = brc (rkbit s.k (0 + j)) (muS s (0 + j) (plusO o (twO o s.r) s.p)) (muS s (0 + j) (twO o s.r))
  | 0, _ => by kernel_rfl
  | 1, _ => by kernel_rfl
  | 2, _ => by kernel_rfl
  | 3, _ => by kernel_rfl
  | 4, _ => by kernel_rfl
  | 5, _ => by kernel_rfl
  | 6, _ => by kernel_rfl
  | 7, _ => by kernel_rfl
  | _ + 8, h => absurd h (by omega)
theorem mu_step_1 (o : FOps) (s : S_mu) : ∀ j : Nat, j < 8 → codeK (X_weakL o) [] muL.ntmps [0,1,2,3,4,5,6,7,8,16,17,18,21,22,23,24,32,46] 80 (loopB (bodyOf muL) 7) (d_mu.E { s with t := ((8 + j : Nat) : Int) }) (d_mu.M { s with t := ((8 + j : Nat) : Int) }) (outK d_mu.ts) = brc (rkbit s.k (8 + j)) (muS s (8 + j) (plusO o (twO o s.r) s.p)) (muS s (8 + j) (twO o s.r))
  | 0, _ => by kernel_rfl
  | 1, _ => by kernel_rfl
  | 2, _ => by kernel_rfl
  | 3, _ => by kernel_rfl
  | 4, _ => by kernel_rfl
  | 5, _ => by kernel_rfl
  | 6, _ => by kernel_rfl
  | 7, _ => by kernel_rfl
  | _ + 8, h => absurd h (by omega)
theorem mu_step_2 (o : FOps) (s : S_mu) : ∀ j : Nat, j < 8 → codeK (X_weakL o) [] muL.ntmps [0,1,2,3,4,5,6,7,8,16,17,18,21,22,23,24,32,46] 80 (loopB (bodyOf muL) 7) (d_mu.E { s with t := ((16 + j : Nat) : Int) }) (d_mu.M { s with t := ((16 + j : Nat) : Int) }) (outK d_mu.ts) = brc (rkbit s.k (16 + j)) (muS s (16 + j) (plusO o (twO o s.r) s.p)) (muS s (16 + j) (twO o s.r))
  | 0, _ => by kernel_rfl
  | 1, _ => by kernel_rfl
  | 2, _ => by kernel_rfl
  | 3, _ => by kernel_rfl
  | 4, _ => by kernel_rfl
  | 5, _ => by kernel_rfl
  | 6, _ => by kernel_rfl
  | 7, _ => by kernel_rfl
  | _ + 8, h => absurd h (by omega)
theorem mu_step_3 (o : FOps) (s : S_mu) : ∀ j : Nat, j < 8 → codeK (X_weakL o) [] muL.ntmps [0,1,2,3,4,5,6,7,8,16,17,18,21,22,23,24,32,46] 80 (loopB (bodyOf muL) 7) (d_mu.E { s with t := ((24 + j : Nat) : Int) }) (d_mu.M { s with t := ((24 + j : Nat) : Int) }) (outK d_mu.ts) = brc (rkbit s.k (24 + j)) (muS s (24 + j) (plusO o (twO o s.r) s.p)) (muS s (24 + j) (twO o s.r))
  | 0, _ => by kernel_rfl
  | 1, _ => by kernel_rfl
  | 2, _ => by kernel_rfl
  | 3, _ => by kernel_rfl
  | 4, _ => by kernel_rfl
  | 5, _ => by kernel_rfl
  | 6, _ => by kernel_rfl
  | 7, _ => by kernel_rfl
  | _ + 8, h => absurd h (by omega)
theorem mu_step_4 (o : FOps) (s : S_mu) : ∀ j : Nat, j < 8 → codeK (X_weakL o) [] muL.ntmps [0,1,2,3,4,5,6,7,8,16,17,18,21,22,23,24,32,46] 80 (loopB (bodyOf muL) 7) (d_mu.E { s with t := ((32 + j : Nat) : Int) }) (d_mu.M { s with t := ((32 + j : Nat) : Int) }) (outK d_mu.ts) = brc (rkbit s.k (32 + j)) (muS s (32 + j) (plusO o (twO o s.r) s.p)) (muS s (32 + j) (twO o s.r))
  | 0, _ => by kernel_rfl
  | 1, _ => by kernel_rfl
  | 2, _ => by kernel_rfl
  | 3, _ => by kernel_rfl
  | 4, _ => by kernel_rfl
  | 5, _ => by kernel_rfl
  | 6, _ => by kernel_rfl
  | 7, _ => by kernel_rfl
  | _ + 8, h => absurd h (by omega)
theorem mu_step_5 (o : FOps) (s : S_mu) : ∀ j : Nat, j < 8 → codeK (X_weakL o) [] muL.ntmps [0,1,2,3,4,5,6,7,8,16,17,18,21,22,23,24,32,46] 80 (loopB (bodyOf muL) 7) (d_mu.E { s with t := ((40 + j : Nat) : Int) }) (d_mu.M { s with t := ((40 + j : Nat) : Int) }) (outK d_mu.ts) = brc (rkbit s.k (40 + j)) (muS s (40 + j) (plusO o (twO o s.r) s.p)) (muS s (40 + j) (twO o s.r))
  | 0, _ => by kernel_rfl
  | 1, _ => by kernel_rfl
  | 2, _ => by kernel_rfl
  | 3, _ => by kernel_rfl
  | 4, _ => by kernel_rfl
  | 5, _ => by kernel_rfl
  | 6, _ => by kernel_rfl
  | 7, _ => by kernel_rfl
  | _ + 8, h => absurd h (by omega)
theorem mu_step_6 (o : FOps) (s : S_mu) : ∀ j : Nat, j < 8 → codeK (X_weakL o) [] muL.ntmps [0,1,2,3,4,5,6,7,8,16,17,18,21,22,23,24,32,46] 80 (loopB (bodyOf muL) 7) (d_mu.E { s with t := ((48 + j : Nat) : Int) }) (d_mu.M { s with t := ((48 + j : Nat) : Int) }) (outK d_mu.ts) = brc (rkbit s.k (48 + j)) (muS s (48 + j) (plusO o (twO o s.r) s.p)) (muS s (48 + j) (twO o s.r))
  | 0, _ => by kernel_rfl
  | 1, _ => by kernel_rfl
  | 2, _ => by kernel_rfl
  | 3, _ => by kernel_rfl
  | 4, _ => by kernel_rfl
  | 5, _ => by kernel_rfl
  | 6, _ => by kernel_rfl
  | 7, _ => by kernel_rfl
  | _ + 8, h => absurd h (by omega)
theorem mu_step_7 (o : FOps) (s : S_mu) : ∀ j : Nat, j < 8 → codeK (X_weakL o) [] muL.ntmps [0,1,2,3,4,5,6,7,8,16,17,18,21,22,23,24,32,46] 80 (loopB (bodyOf muL) 7) (d_mu.E { s with t := ((56 + j : Nat) : Int) }) (d_mu.M { s with t := ((56 + j : Nat) : Int) }) (outK d_mu.ts) = brc (rkbit s.k (56 + j)) (muS s (56 + j) (plusO o (twO o s.r) s.p)) (muS s (56 + j) (twO o s.r))
  | 0, _ => by kernel_rfl
  | 1, _ => by kernel_rfl
  | 2, _ => by kernel_rfl
  | 3, _ => by kernel_rfl
  | 4, _ => by kernel_rfl
  | 5, _ => by kernel_rfl
  | 6, _ => by kernel_rfl
  | 7, _ => by kernel_rfl
  | _ + 8, h => absurd h (by omega)
theorem mu_step_8 (o : FOps) (s : S_mu) : ∀ j : Nat, j < 8 → codeK (X_weakL o) [] muL.ntmps [0,1,2,3,4,5,6,7,8,16,17,18,21,22,23,24,32,46] 80 (loopB (bodyOf muL) 7) (d_mu.E { s with t := ((64 + j : Nat) : Int) }) (d_mu.M { s with t := ((64 + j : Nat) : Int) }) (outK d_mu.ts) = brc (rkbit s.k (64 + j)) (muS s (64 + j) (plusO o (twO o s.r) s.p)) (muS s (64 + j) (twO o s.r))
  | 0, _ => by kernel_rfl
  | 1, _ => by kernel_rfl
  | 2, _ => by kernel_rfl
  | 3, _ => by kernel_rfl
  | 4, _ => by kernel_rfl
  | 5, _ => by kernel_rfl
  | 6, _ => by kernel_rfl
  | 7, _ => by kernel_rfl
  | _ + 8, h => absurd h (by omega)
theorem mu_step_9 (o : FOps) (s : S_mu) : ∀ j : Nat, j < 8 → codeK (X_weakL o) [] muL.ntmps [0,1,2,3,4,5,6,7,8,16,17,18,21,22,23,24,32,46] 80 (loopB (bodyOf muL) 7) (d_mu.E { s with t := ((72 + j : Nat) : Int) }) (d_mu.M { s with t := ((72 + j : Nat) : Int) }) (outK d_mu.ts) = brc (rkbit s.k (72 + j)) (muS s (72 + j) (plusO o (twO o s.r) s.p)) (muS s (72 + j) (twO o s.r))
  | 0, _ => by kernel_rfl
  | 1, _ => by kernel_rfl
  | 2, _ => by kernel_rfl
  | 3, _ => by kernel_rfl
  | 4, _ => by kernel_rfl
  | 5, _ => by kernel_rfl
  | 6, _ => by kernel_rfl
  | 7, _ => by kernel_rfl
  | _ + 8, h => absurd h (by omega)
theorem mu_step_10 (o : FOps) (s : S_mu) : ∀ j : Nat, j < 8 → codeK (X_weakL o) [] muL.ntmps [0,1,2,3,4,5,6,7,8,16,17,18,21,22,23,24,32,46] 80 (loopB (bodyOf muL) 7) (d_mu.E { s with t := ((80 + j : Nat) : Int) }) (d_mu.M { s with t := ((80 + j : Nat) : Int) }) (outK d_mu.ts) = brc (rkbit s.k (80 + j)) (muS s (80 + j) (plusO o (twO o s.r) s.p)) (muS s (80 + j) (twO o s.r))
  | 0, _ => by kernel_rfl
  | 1, _ => by kernel_rfl
  | 2, _ => by kernel_rfl
  | 3, _ => by kernel_rfl
  | 4, _ => by kernel_rfl
  | 5, _ => by kernel_rfl
  | 6, _ => by kernel_rfl
  | 7, _ => by kernel_rfl
  | _ + 8, h => absurd h (by omega)
theorem mu_step_11 (o : FOps) (s : S_mu) : ∀ j : Nat, j < 8 → codeK (X_weakL o) [] muL.ntmps [0,1,2,3,4,5,6,7,8,16,17,18,21,22,23,24,32,46] 80 (loopB (bodyOf muL) 7) (d_mu.E { s with t := ((88 + j : Nat) : Int) }) (d_mu.M { s with t := ((88 + j : Nat) : Int) }) (outK d_mu.ts) = brc (rkbit s.k (88 + j)) (muS s (88 + j) (plusO o (twO o s.r) s.p)) (muS s (88 + j) (twO o s.r))
  | 0, _ => by kernel_rfl
  | 1, _ => by kernel_rfl
  | 2, _ => by kernel_rfl
  | 3, _ => by kernel_rfl
  | 4, _ => by kernel_rfl
  | 5, _ => by kernel_rfl
  | 6, _ => by kernel_rfl
  | 7, _ => by kernel_rfl
  | _ + 8, h => absurd h (by omega)
theorem mu_step_12 (o : FOps) (s : S_mu) : ∀ j : Nat, j < 8 → codeK (X_weakL o) [] muL.ntmps [0,1,2,3,4,5,6,7,8,16,17,18,21,22,23,24,32,46] 80 (loopB (bodyOf muL) 7) (d_mu.E { s with t := ((96 + j : Nat) : Int) }) (d_mu.M { s with t := ((96 + j : Nat) : Int) }) (outK d_mu.ts) = brc (rkbit s.k (96 + j)) (muS s (96 + j) (plusO o (twO o s.r) s.p)) (muS s (96 + j) (twO o s.r))
  | 0, _ => by kernel_rfl
  | 1, _ => by kernel_rfl
  | 2, _ => by kernel_rfl
  | 3, _ => by kernel_rfl
  | 4, _ => by kernel_rfl
  | 5, _ => by kernel_rfl
  | 6, _ => by kernel_rfl
  | 7, _ => by kernel_rfl
  | _ + 8, h => absurd h (by omega)
theorem mu_step_13 (o : FOps) (s : S_mu) : ∀ j : Nat, j < 8 → codeK (X_weakL o) [] muL.ntmps [0,1,2,3,4,5,6,7,8,16,17,18,21,22,23,24,32,46] 80 (loopB (bodyOf muL) 7) (d_mu.E { s with t := ((104 + j : Nat) : Int) }) (d_mu.M { s with t := ((104 + j : Nat) : Int) }) (outK d_mu.ts) = brc (rkbit s.k (104 + j)) (muS s (104 + j) (plusO o (twO o s.r) s.p)) (muS s (104 + j) (twO o s.r))
  | 0, _ => by kernel_rfl
  | 1, _ => by kernel_rfl
  | 2, _ => by kernel_rfl
  | 3, _ => by kernel_rfl
  | 4, _ => by kernel_rfl
  | 5, _ => by kernel_rfl
  | 6, _ => by kernel_rfl
  | 7, _ => by kernel_rfl
  | _ + 8, h => absurd h (by omega)
theorem mu_step_14 (o : FOps) (s : S_mu) : ∀ j : Nat, j < 8 → codeK (X_weakL o) [] muL.ntmps [0,1,2,3,4,5,6,7,8,16,17,18,21,22,23,24,32,46] 80 (loopB (bodyOf muL) 7) (d_mu.E { s with t := ((112 + j : Nat) : Int) }) (d_mu.M { s with t := ((112 + j : Nat) : Int) }) (outK d_mu.ts) = brc (rkbit s.k (112 + j)) (muS s (112 + j) (plusO o (twO o s.r) s.p)) (muS s (112 + j) (twO o s.r))
  | 0, _ => by kernel_rfl
  | 1, _ => by kernel_rfl
  | 2, _ => by kernel_rfl
  | 3, _ => by kernel_rfl
  | 4, _ => by kernel_rfl
  | 5, _ => by kernel_rfl
  | 6, _ => by kernel_rfl
  | 7, _ => by kernel_rfl
  | _ + 8, h => absurd h (by omega)
theorem mu_step_15 (o : FOps) (s : S_mu) : ∀ j : Nat, j < 8 → codeK (X_weakL o) [] muL.ntmps [0,1,2,3,4,5,6,7,8,16,17,18,21,22,23,24,32,46] 80 (loopB (bodyOf muL) 7) (d_mu.E { s with t := ((120 + j : Nat) : Int) }) (d_mu.M { s with t := ((120 + j : Nat) : Int) }) (outK d_mu.ts) = brc (rkbit s.k (120 + j)) (muS s (120 + j) (plusO o (twO o s.r) s.p)) (muS s (120 + j) (twO o s.r))
  | 0, _ => by kernel_rfl
  | 1, _ => by kernel_rfl
  | 2, _ => by kernel_rfl
  | 3, _ => by kernel_rfl
  | 4, _ => by kernel_rfl
  | 5, _ => by kernel_rfl
  | 6, _ => by kernel_rfl
  | 7, _ => by kernel_rfl
  | _ + 8, h => absurd h (by omega)
theorem mu_step_16 (o : FOps) (s : S_mu) : ∀ j : Nat, j < 8 → codeK (X_weakL o) [] muL.ntmps [0,1,2,3,4,5,6,7,8,16,17,18,21,22,23,24,32,46] 80 (loopB (bodyOf muL) 7) (d_mu.E { s with t := ((128 + j : Nat) : Int) }) (d_mu.M { s with t := ((128 + j : Nat) : Int) }) (outK d_mu.ts) = brc (rkbit s.k (128 + j)) (muS s (128 + j) (plusO o (twO o s.r) s.p)) (muS s (128 + j) (twO o s.r))
  | 0, _ => by kernel_rfl
  | 1, _ => by kernel_rfl
  | 2, _ => by kernel_rfl
  | 3, _ => by kernel_rfl
  | 4, _ => by kernel_rfl
  | 5, _ => by kernel_rfl
  | 6, _ => by kernel_rfl
  | 7, _ => by kernel_rfl
  | _ + 8, h => absurd h (by omega)
theorem mu_step_17 (o : FOps) (s : S_mu) : ∀ j : Nat, j < 8 → codeK (X_weakL o) [] muL.ntmps [0,1,2,3,4,5,6,7,8,16,17,18,21,22,23,24,32,46] 80 (loopB (bodyOf muL) 7) (d_mu.E { s with t := ((136 + j : Nat) : Int) }) (d_mu.M { s with t := ((136 + j : Nat) : Int) }) (outK d_mu.ts) = brc (rkbit s.k (136 + j)) (muS s (136 + j) (plusO o (twO o s.r) s.p)) (muS s (136 + j) (twO o s.r))
  | 0, _ => by kernel_rfl
  | 1, _ => by kernel_rfl
  | 2, _ => by kernel_rfl
  | 3, _ => by kernel_rfl
  | 4, _ => by kernel_rfl
  | 5, _ => by kernel_rfl
  | 6, _ => by kernel_rfl
  | 7, _ => by kernel_rfl
  | _ + 8, h => absurd h (by omega)
theorem mu_step_18 (o : FOps) (s : S_mu) : ∀ j : Nat, j < 8 → codeK (X_weakL o) [] muL.ntmps [0,1,2,3,4,5,6,7,8,16,17,18,21,22,23,24,32,46] 80 (loopB (bodyOf muL) 7) (d_mu.E { s with t := ((144 + j : Nat) : Int) }) (d_mu.M { s with t := ((144 + j : Nat) : Int) }) (outK d_mu.ts) = brc (rkbit s.k (144 + j)) (muS s (144 + j) (plusO o (twO o s.r) s.p)) (muS s (144 + j) (twO o s.r))
  | 0, _ => by kernel_rfl
  | 1, _ => by kernel_rfl
  | 2, _ => by kernel_rfl
  | 3, _ => by kernel_rfl
  | 4, _ => by kernel_rfl
  | 5, _ => by kernel_rfl
  | 6, _ => by kernel_rfl
  | 7, _ => by kernel_rfl
  | _ + 8, h => absurd h (by omega)
theorem mu_step_19 (o : FOps) (s : S_mu) : ∀ j : Nat, j < 8 → codeK (X_weakL o) [] muL.ntmps [0,1,2,3,4,5,6,7,8,16,17,18,21,22,23,24,32,46] 80 (loopB (bodyOf muL) 7) (d_mu.E { s with t := ((152 + j : Nat) : Int) }) (d_mu.M { s with t := ((152 + j : Nat) : Int) }) (outK d_mu.ts) = brc (rkbit s.k (152 + j)) (muS s (152 + j) (plusO o (twO o s.r) s.p)) (muS s (152 + j) (twO o s.r))
  | 0, _ => by kernel_rfl
  | 1, _ => by kernel_rfl
  | 2, _ => by kernel_rfl
  | 3, _ => by kernel_rfl
  | 4, _ => by kernel_rfl
  | 5, _ => by kernel_rfl
  | 6, _ => by kernel_rfl
  | 7, _ => by kernel_rfl
  | _ + 8, h => absurd h (by omega)
theorem mu_step_20 (o : FOps) (s : S_mu) : ∀ j : Nat, j < 8 → codeK (X_weakL o) [] muL.ntmps [0,1,2,3,4,5,6,7,8,16,17,18,21,22,23,24,32,46] 80 (loopB (bodyOf muL) 7) (d_mu.E { s with t := ((160 + j : Nat) : Int) }) (d_mu.M { s with t := ((160 + j : Nat) : Int) }) (outK d_mu.ts) = brc (rkbit s.k (160 + j)) (muS s (160 + j) (plusO o (twO o s.r) s.p)) (muS s (160 + j) (twO o s.r))
  | 0, _ => by kernel_rfl
  | 1, _ => by kernel_rfl
  | 2, _ => by kernel_rfl
  | 3, _ => by kernel_rfl
  | 4, _ => by kernel_rfl
  | 5, _ => by kernel_rfl
  | 6, _ => by kernel_rfl
  | 7, _ => by kernel_rfl
  | _ + 8, h => absurd h (by omega)
theorem mu_step_21 (o : FOps) (s : S_mu) : ∀ j : Nat, j < 8 → codeK (X_weakL o) [] muL.ntmps [0,1,2,3,4,5,6,7,8,16,17,18,21,22,23,24,32,46] 80 (loopB (bodyOf muL) 7) (d_mu.E { s with t := ((168 + j : Nat) : Int) }) (d_mu.M { s with t := ((168 + j : Nat) : Int) }) (outK d_mu.ts) = brc (rkbit s.k (168 + j)) (muS s (168 + j) (plusO o (twO o s.r) s.p)) (muS s (168 + j) (twO o s.r))
  | 0, _ => by kernel_rfl
  | 1, _ => by kernel_rfl
  | 2, _ => by kernel_rfl
  | 3, _ => by kernel_rfl
  | 4, _ => by kernel_rfl
  | 5, _ => by kernel_rfl
  | 6, _ => by kernel_rfl
  | 7, _ => by kernel_rfl
  | _ + 8, h => absurd h (by omega)
theorem mu_step_22 (o : FOps) (s : S_mu) : ∀ j : Nat, j < 8 → codeK (X_weakL o) [] muL.ntmps [0,1,2,3,4,5,6,7,8,16,17,18,21,22,23,24,32,46] 80 (loopB (bodyOf muL) 7) (d_mu.E { s with t := ((176 + j : Nat) : Int) }) (d_mu.M { s with t := ((176 + j : Nat) : Int) }) (outK d_mu.ts) = brc (rkbit s.k (176 + j)) (muS s (176 + j) (plusO o (twO o s.r) s.p)) (muS s (176 + j) (twO o s.r))
  | 0, _ => by kernel_rfl
  | 1, _ => by kernel_rfl
  | 2, _ => by kernel_rfl
  | 3, _ => by kernel_rfl
  | 4, _ => by kernel_rfl
  | 5, _ => by kernel_rfl
  | 6, _ => by kernel_rfl
  | 7, _ => by kernel_rfl
  | _ + 8, h => absurd h (by omega)
theorem mu_step_23 (o : FOps) (s : S_mu) : ∀ j : Nat, j < 8 → codeK (X_weakL o) [] muL.ntmps [0,1,2,3,4,5,6,7,8,16,17,18,21,22,23,24,32,46] 80 (loopB (bodyOf muL) 7) (d_mu.E { s with t := ((184 + j : Nat) : Int) }) (d_mu.M { s with t := ((184 + j : Nat) : Int) }) (outK d_mu.ts) = brc (rkbit s.k (184 + j)) (muS s (184 + j) (plusO o (twO o s.r) s.p)) (muS s (184 + j) (twO o s.r))
  | 0, _ => by kernel_rfl
  | 1, _ => by kernel_rfl
  | 2, _ => by kernel_rfl
  | 3, _ => by kernel_rfl
  | 4, _ => by kernel_rfl
  | 5, _ => by kernel_rfl
  | 6, _ => by kernel_rfl
  | 7, _ => by kernel_rfl
  | _ + 8, h => absurd h (by omega)
theorem mu_step_24 (o : FOps) (s : S_mu) : ∀ j : Nat, j < 8 → codeK (X_weakL o) [] muL.ntmps [0,1,2,3,4,5,6,7,8,16,17,18,21,22,23,24,32,46] 80 (loopB (bodyOf muL) 7) (d_mu.E { s with t := ((192 + j : Nat) : Int) }) (d_mu.M { s with t := ((192 + j : Nat) : Int) }) (outK d_mu.ts) = brc (rkbit s.k (192 + j)) (muS s (192 + j) (plusO o (twO o s.r) s.p)) (muS s (192 + j) (twO o s.r))
  | 0, _ => by kernel_rfl
  | 1, _ => by kernel_rfl
  | 2, _ => by kernel_rfl
  | 3, _ => by kernel_rfl
  | 4, _ => by kernel_rfl
  | 5, _ => by kernel_rfl
  | 6, _ => by kernel_rfl
  | 7, _ => by kernel_rfl
  | _ + 8, h => absurd h (by omega)
theorem mu_step_25 (o : FOps) (s : S_mu) : ∀ j : Nat, j < 8 → codeK (X_weakL o) [] muL.ntmps [0,1,2,3,4,5,6,7,8,16,17,18,21,22,23,24,32,46] 80 (loopB (bodyOf muL) 7) (d_mu.E { s with t := ((200 + j : Nat) : Int) }) (d_mu.M { s with t := ((200 + j : Nat) : Int) }) (outK d_mu.ts) = brc (rkbit s.k (200 + j)) (muS s (200 + j) (plusO o (twO o s.r) s.p)) (muS s (200 + j) (twO o s.r))
  | 0, _ => by kernel_rfl
  | 1, _ => by kernel_rfl
  | 2, _ => by kernel_rfl
  | 3, _ => by kernel_rfl
  | 4, _ => by kernel_rfl
  | 5, _ => by kernel_rfl
  | 6, _ => by kernel_rfl
  | 7, _ => by kernel_rfl
  | _ + 8, h => absurd h (by omega)
theorem mu_step_26 (o : FOps) (s : S_mu) : ∀ j : Nat, j < 8 → codeK (X_weakL o) [] muL.ntmps [0,1,2,3,4,5,6,7,8,16,17,18,21,22,23,24,32,46] 80 (loopB (bodyOf muL) 7) (d_mu.E { s with t := ((208 + j : Nat) : Int) }) (d_mu.M { s with t := ((208 + j : Nat) : Int) }) (outK d_mu.ts) = brc (rkbit s.k (208 + j)) (muS s (208 + j) (plusO o (twO o s.r) s.p)) (muS s (208 + j) (twO o s.r))
  | 0, _ => by kernel_rfl
  | 1, _ => by kernel_rfl
  | 2, _ => by kernel_rfl
  | 3, _ => by kernel_rfl
  | 4, _ => by kernel_rfl
  | 5, _ => by kernel_rfl
  | 6, _ => by kernel_rfl
  | 7, _ => by kernel_rfl
  | _ + 8, h => absurd h (by omega)
theorem mu_step_27 (o : FOps) (s : S_mu) : ∀ j : Nat, j < 8 → codeK (X_weakL o) [] muL.ntmps [0,1,2,3,4,5,6,7,8,16,17,18,21,22,23,24,32,46] 80 (loopB (bodyOf muL) 7) (d_mu.E { s with t := ((216 + j : Nat) : Int) }) (d_mu.M { s with t := ((216 + j : Nat) : Int) }) (outK d_mu.ts) = brc (rkbit s.k (216 + j)) (muS s (216 + j) (plusO o (twO o s.r) s.p)) (muS s (216 + j) (twO o s.r))
  | 0, _ => by kernel_rfl
  | 1, _ => by kernel_rfl
  | 2, _ => by kernel_rfl
  | 3, _ => by kernel_rfl
  | 4, _ => by kernel_rfl
  | 5, _ => by kernel_rfl
  | 6, _ => by kernel_rfl
  | 7, _ => by kernel_rfl
  | _ + 8, h => absurd h (by omega)
theorem mu_step_28 (o : FOps) (s : S_mu) : ∀ j : Nat, j < 8 → codeK (X_weakL o) [] muL.ntmps [0,1,2,3,4,5,6,7,8,16,17,18,21,22,23,24,32,46] 80 (loopB (bodyOf muL) 7) (d_mu.E { s with t := ((224 + j : Nat) : Int) }) (d_mu.M { s with t := ((224 + j : Nat) : Int) }) (outK d_mu.ts) = brc (rkbit s.k (224 + j)) (muS s (224 + j) (plusO o (twO o s.r) s.p)) (muS s (224 + j) (twO o s.r))
  | 0, _ => by kernel_rfl
  | 1, _ => by kernel_rfl
  | 2, _ => by kernel_rfl
  | 3, _ => by kernel_rfl
  | 4, _ => by kernel_rfl
  | 5, _ => by kernel_rfl
  | 6, _ => by kernel_rfl
  | 7, _ => by kernel_rfl
  | _ + 8, h => absurd h (by omega)
theorem mu_step_29 (o : FOps) (s : S_mu) : ∀ j : Nat, j < 8 → codeK (X_weakL o) [] muL.ntmps [0,1,2,3,4,5,6,7,8,16,17,18,21,22,23,24,32,46] 80 (loopB (bodyOf muL) 7) (d_mu.E { s with t := ((232 + j : Nat) : Int) }) (d_mu.M { s with t := ((232 + j : Nat) : Int) }) (outK d_mu.ts) = brc (rkbit s.k (232 + j)) (muS s (232 + j) (plusO o (twO o s.r) s.p)) (muS s (232 + j) (twO o s.r))
  | 0, _ => by kernel_rfl
  | 1, _ => by kernel_rfl
  | 2, _ => by kernel_rfl
  | 3, _ => by kernel_rfl
  | 4, _ => by kernel_rfl
  | 5, _ => by kernel_rfl
  | 6, _ => by kernel_rfl
  | 7, _ => by kernel_rfl
  | _ + 8, h => absurd h (by omega)
theorem mu_step_30 (o : FOps) (s : S_mu) : ∀ j : Nat, j < 8 → codeK (X_weakL o) [] muL.ntmps [0,1,2,3,4,5,6,7,8,16,17,18,21,22,23,24,32,46] 80 (loopB (bodyOf muL) 7) (d_mu.E { s with t := ((240 + j : Nat) : Int) }) (d_mu.M { s with t := ((240 + j : Nat) : Int) }) (outK d_mu.ts) = brc (rkbit s.k (240 + j)) (muS s (240 + j) (plusO o (twO o s.r) s.p)) (muS s (240 + j) (twO o s.r))
  | 0, _ => by kernel_rfl
  | 1, _ => by kernel_rfl
  | 2, _ => by kernel_rfl
  | 3, _ => by kernel_rfl
  | 4, _ => by kernel_rfl
  | 5, _ => by kernel_rfl
  | 6, _ => by kernel_rfl
  | 7, _ => by kernel_rfl
  | _ + 8, h => absurd h (by omega)
theorem mu_step_31 (o : FOps) (s : S_mu) : ∀ j : Nat, j < 8 → codeK (X_weakL o) [] muL.ntmps [0,1,2,3,4,5,6,7,8,16,17,18,21,22,23,24,32,46] 80 (loopB (bodyOf muL) 7) (d_mu.E { s with t := ((248 + j : Nat) : Int) }) (d_mu.M { s with t := ((248 + j : Nat) : Int) }) (outK d_mu.ts) = brc (rkbit s.k (248 + j)) (muS s (248 + j) (plusO o (twO o s.r) s.p)) (muS s (248 + j) (twO o s.r))
  | 0, _ => by kernel_rfl
  | 1, _ => by kernel_rfl
  | 2, _ => by kernel_rfl
  | 3, _ => by kernel_rfl
  | 4, _ => by kernel_rfl
  | 5, _ => by kernel_rfl
  | 6, _ => by kernel_rfl
  | 7, _ => by kernel_rfl
  | _ + 8, h => absurd h (by omega)
theorem mu_step (o : FOps) (s : S_mu) (t : Nat) (ht : t < 256) : codeK (X_weakL o) [] muL.ntmps [0,1,2,3,4,5,6,7,8,16,17,18,21,22,23,24,32,46] 80 (loopB (bodyOf muL) 7) (d_mu.E { s with t := (t : Int) }) (d_mu.M { s with t := (t : Int) }) (outK d_mu.ts) = brc (rkbit s.k t) (muS s t (plusO o (twO o s.r) s.p)) (muS s t (twO o s.r)) := by
  by_cases h0 : t < 8
  · have := mu_step_0 o s (t - 0) (by omega)
    rw [show 0 + (t - 0) = t by omega] at this
    exact this
  by_cases h1 : t < 16
  · have := mu_step_1 o s (t - 8) (by omega)
    rw [show 8 + (t - 8) = t by omega] at this
    exact this
  by_cases h2 : t < 24
  · have := mu_step_2 o s (t - 16) (by omega)
    rw [show 16 + (t - 16) = t by omega] at this
    exact this
  by_cases h3 : t < 32
  · have := mu_step_3 o s (t - 24) (by omega)
    rw [show 24 + (t - 24) = t by omega] at this
    exact this
  by_cases h4 : t < 40
  · have := mu_step_4 o s (t - 32) (by omega)
    rw [show 32 + (t - 32) = t by omega] at this
    exact this
  by_cases h5 : t < 48
  · have := mu_step_5 o s (t - 40) (by omega)
    rw [show 40 + (t - 40) = t by omega] at this
    exact this
  by_cases h6 : t < 56
  · have := mu_step_6 o s (t - 48) (by omega)
    rw [show 48 + (t - 48) = t by omega] at this
    exact this
  by_cases h7 : t < 64
  · have := mu_step_7 o s (t - 56) (by omega)
    rw [show 56 + (t - 56) = t by omega] at this
    exact this
  by_cases h8 : t < 72
  · have := mu_step_8 o s (t - 64) (by omega)
    rw [show 64 + (t - 64) = t by omega] at this
    exact this
  by_cases h9 : t < 80
  · have := mu_step_9 o s (t - 72) (by omega)
    rw [show 72 + (t - 72) = t by omega] at this
    exact this
  by_cases h10 : t < 88
  · have := mu_step_10 o s (t - 80) (by omega)
    rw [show 80 + (t - 80) = t by omega] at this
    exact this
  by_cases h11 : t < 96
  · have := mu_step_11 o s (t - 88) (by omega)
    rw [show 88 + (t - 88) = t by omega] at this
    exact this
  by_cases h12 : t < 104
  · have := mu_step_12 o s (t - 96) (by omega)
    rw [show 96 + (t - 96) = t by omega] at this
    exact this
  by_cases h13 : t < 112
  · have := mu_step_13 o s (t - 104) (by omega)
    rw [show 104 + (t - 104) = t by omega] at this
    exact this
  by_cases h14 : t < 120
  · have := mu_step_14 o s (t - 112) (by omega)
    rw [show 112 + (t - 112) = t by omega] at this
    exact this
  by_cases h15 : t < 128
  · have := mu_step_15 o s (t - 120) (by omega)
    rw [show 120 + (t - 120) = t by omega] at this
    exact this
  by_cases h16 : t < 136
  · have := mu_step_16 o s (t - 128) (by omega)
    rw [show 128 + (t - 128) = t by omega] at this
    exact this
  by_cases h17 : t < 144
  · have := mu_step_17 o s (t - 136) (by omega)
    rw [show 136 + (t - 136) = t by omega] at this
    exact this
  by_cases h18 : t < 152
  · have := mu_step_18 o s (t - 144) (by omega)
    rw [show 144 + (t - 144) = t by omega] at this
    exact this
  by_cases h19 : t < 160
  · have := mu_step_19 o s (t - 152) (by omega)
    rw [show 152 + (t - 152) = t by omega] at this
    exact this
  by_cases h20 : t < 168
  · have := mu_step_20 o s (t - 160) (by omega)
    rw [show 160 + (t - 160) = t by omega] at this
    exact this
  by_cases h21 : t < 176
  · have := mu_step_21 o s (t - 168) (by omega)
    rw [show 168 + (t - 168) = t by omega] at this
    exact this
  by_cases h22 : t < 184
  · have := mu_step_22 o s (t - 176) (by omega)
    rw [show 176 + (t - 176) = t by omega] at this
    exact this
  by_cases h23 : t < 192
  · have := mu_step_23 o s (t - 184) (by omega)
    rw [show 184 + (t - 184) = t by omega] at this
    exact this
  by_cases h24 : t < 200
  · have := mu_step_24 o s (t - 192) (by omega)
    rw [show 192 + (t - 192) = t by omega] at this
    exact this
  by_cases h25 : t < 208
  · have := mu_step_25 o s (t - 200) (by omega)
    rw [show 200 + (t - 200) = t by omega] at this
    exact this
  by_cases h26 : t < 216
  · have := mu_step_26 o s (t - 208) (by omega)
    rw [show 208 + (t - 208) = t by omega] at this
    exact this
  by_cases h27 : t < 224
  · have := mu_step_27 o s (t - 216) (by omega)
    rw [show 216 + (t - 216) = t by omega] at this
    exact this
  by_cases h28 : t < 232
  · have := mu_step_28 o s (t - 224) (by omega)
    rw [show 224 + (t - 224) = t by omega] at this
    exact this
  by_cases h29 : t < 240
  · have := mu_step_29 o s (t - 232) (by omega)
    rw [show 232 + (t - 232) = t by omega] at this
    exact this
  by_cases h30 : t < 248
  · have := mu_step_30 o s (t - 240) (by omega)
    rw [show 240 + (t - 240) = t by omega] at this
    exact this
  by_cases h31 : t < 256
  · have := mu_step_31 o s (t - 248) (by omega)
    rw [show 248 + (t - 248) = t by omega] at this
    exact this
  omega
theorem mu_out (o : FOps) (s : S_mu) : codeK (X_weakL o) [] muL.ntmps [0,1,2,3,4,5,6,7,8,16,17,18,21,22,23,24,32,46] 80 (loopB (bodyOf muL) 7) (d_mu.E { s with t := -1 }) (d_mu.M { s with t := -1 }) (outK d_mu.ts) = some (.exit 0, d_mu.E { s with t := -1 }, d_mu.M { s with t := -1 }) := by kernel_rfl
def muD (o : FOps) (k : K32) (p r : Cpt) : Nat → Cpt
  | 0 => r
  | i + 1 => bif rkbit k (255 - i) then plusO o (twO o (muD o k p r i)) p else twO o (muD o k p r i)
def gMu (o : FOps) : LoopFn := d_mu.fn (fun s => decide (s.t = 255)) (.exit 0) (fun s => { s with t := -1, r := muD o s.k s.p s.r 256 })
theorem mu_at : LoopAt Try.prog muL.ntmps (loopB (bodyOf muL) 7) (gMu concFOps) := by
  refine d_mu.loop (keep := [0,1,2,3,4,5,6,7,8,16,17,18,21,22,23,24,32,46]) X_weakL_ok LoopsOK.nil (by simp) fun s hg => ⟨256, fun i => { s with t := 255 - (i : Int), r := muD concFOps s.k s.p s.r i }, ?_, fun i hi => ⟨80, ?_⟩, 80, ?_⟩
  · have := of_decide_eq_true hg
    cases s; simp_all [muD]
  · have e : (255 : Int) - (i : Int) = ((255 - i : Nat) : Int) := by omega
    have e2 : (255 : Int) - ((i + 1 : Nat) : Int) = ((255 - i : Nat) : Int) - 1 := by omega
    dsimp only
    rw [e, e2]
    refine (mu_step concFOps { s with r := muD concFOps s.k s.p s.r i } (255 - i) (by omega)).trans ?_
    rw [show muD concFOps s.k s.p s.r (i + 1) = bif rkbit s.k (255 - i) then plusO concFOps (twO concFOps (muD concFOps s.k s.p s.r i)) s.p else twO concFOps (muD concFOps s.k s.p s.r i) from rfl]
    unfold muS
    dsimp only
    generalize rkbit s.k (255 - i) = c
    cases c <;> rfl
  · dsimp only
    rw [show (255 : Int) - ((256 : Nat) : Int) = -1 by omega]
    exact mu_out concFOps { s with r := muD concFOps s.k s.p s.r 256 }
theorem mu_loops : LoopsOK Try.prog muL.ntmps [(7, gMu concFOps)] (bodyOf muL) := loopsOK_cons LoopsOK.nil (by kernel_rfl) mu_at
end Go.Proofs.Ytfajgpjpabeafaa

