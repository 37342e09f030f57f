/- Layer 20: the document's functions, walked (2). Printed in part by wip/tools/gensi.py. -/
import Derived.Test.YtnnjaijokiknkaaGreatSg
namespace Go.Proofs.YtnnjaijokiknkaaGreat
open Go Pw Go.RowKit
def scG (g : GOps) (t : List Nat) : List Nat := g.dred (resp 64 (g.rhash t))
def s2T (g : GOps) (p0 p1 : List Nat) (l0 l1 : Nat) : Option (AV × Option Blk) := gds [decide (0 + l0 ≤ p0.length), decide (0 + l1 ≤ p1.length), decide (l0 = (tkL l0 p0).length ∧ l1 = (tkL l1 p1).length ∧ ((tkL l0 p0) ++ (tkL l1 p1)).length ≤ maxRoom ∧ 0 < (tkL l0 p0).length), decide (0 + ((tkL l0 p0) ++ (tkL l1 p1)).length ≤ ((tkL l0 p0) ++ (tkL l1 p1)).length), decide ((tkL ((tkL l0 p0) ++ (tkL l1 p1)).length ((tkL l0 p0) ++ (tkL l1 p1))).length + 256 ≤ maxRoom)] (some (d16V (scG g (tkL ((tkL l0 p0) ++ (tkL l1 p1)).length ((tkL l0 p0) ++ (tkL l1 p1)))), none))
theorem scalar2_run (g : GOps) (p0 p1 : List Nat) (l0 l1 : Nat) : runG (X_rpub g) [] [0,2,3] 500 Tryz.f97 (bodyOf Tryz.f97) [.slice 2 0 2 false] [⟨.bytes p0, false⟩, ⟨.bytes p1, false⟩, ⟨.cells [.slice 0 0 l0 false, .slice 1 0 l1 false], false⟩] = s2T g p0 p1 l0 l1 := by kernel_rfl
theorem s2T_eq (g : GOps) {p0 p1 : List Nat} (h : (p0 ++ p1).length + 256 ≤ maxRoom) (h0 : 0 < p0.length) : s2T g p0 p1 p0.length p1.length = some (d16V (scG g (p0 ++ p1)), none) := by
  unfold s2T
  simp only [tkL_eq]
  rw [gds_true]
  intro c hc
  simp only [List.mem_cons, List.not_mem_nil, or_false] at hc
  rcases hc with hh | hh | hh | hh | hh
  · rw [hh]; exact decide_eq_true (by omega)
  · rw [hh]; exact decide_eq_true (by omega)
  · rw [hh]; exact decide_eq_true ⟨trivial, trivial, by omega, h0⟩
  · rw [hh]; exact decide_eq_true (by omega)
  · rw [hh]; exact decide_eq_true h
def s3T (g : GOps) (p0 p1 p2 : List Nat) (l0 l1 l2 : Nat) : Option (AV × Option Blk) := gds [decide (0 + l0 ≤ p0.length), decide (0 + l1 ≤ p1.length), decide (0 + l2 ≤ p2.length), decide (l0 = (tkL l0 p0).length ∧ l1 = (tkL l1 p1).length ∧ l2 = (tkL l2 p2).length ∧ ((tkL l0 p0) ++ (tkL l1 p1) ++ (tkL l2 p2)).length ≤ maxRoom ∧ 0 < (tkL l0 p0).length), decide (0 + ((tkL l0 p0) ++ (tkL l1 p1) ++ (tkL l2 p2)).length ≤ ((tkL l0 p0) ++ (tkL l1 p1) ++ (tkL l2 p2)).length), decide ((tkL ((tkL l0 p0) ++ (tkL l1 p1) ++ (tkL l2 p2)).length ((tkL l0 p0) ++ (tkL l1 p1) ++ (tkL l2 p2))).length + 256 ≤ maxRoom)] (some (d16V (scG g (tkL ((tkL l0 p0) ++ (tkL l1 p1) ++ (tkL l2 p2)).length ((tkL l0 p0) ++ (tkL l1 p1) ++ (tkL l2 p2)))), none))
theorem scalar3_run (g : GOps) (p0 p1 p2 : List Nat) (l0 l1 l2 : Nat) : runG (X_rpub g) [] [0,2,3] 500 Tryz.f97 (bodyOf Tryz.f97) [.slice 3 0 3 false] [⟨.bytes p0, false⟩, ⟨.bytes p1, false⟩, ⟨.bytes p2, false⟩, ⟨.cells [.slice 0 0 l0 false, .slice 1 0 l1 false, .slice 2 0 l2 false], false⟩] = s3T g p0 p1 p2 l0 l1 l2 := by kernel_rfl
theorem s3T_eq (g : GOps) {p0 p1 p2 : List Nat} (h : (p0 ++ p1 ++ p2).length + 256 ≤ maxRoom) (h0 : 0 < p0.length) : s3T g p0 p1 p2 p0.length p1.length p2.length = some (d16V (scG g (p0 ++ p1 ++ p2)), none) := by
  unfold s3T
  simp only [tkL_eq]
  rw [gds_true]
  intro c hc
  simp only [List.mem_cons, List.not_mem_nil, or_false] at hc
  rcases hc with hh | hh | hh | hh | hh | hh
  · rw [hh]; exact decide_eq_true (by omega)
  · rw [hh]; exact decide_eq_true (by omega)
  · rw [hh]; exact decide_eq_true (by omega)
  · rw [hh]; exact decide_eq_true ⟨trivial, trivial, trivial, by omega, h0⟩
  · rw [hh]; exact decide_eq_true (by omega)
  · rw [hh]; exact decide_eq_true h
def s4T (g : GOps) (p0 p1 p2 p3 : List Nat) (l0 l1 l2 l3 : Nat) : Option (AV × Option Blk) := gds [decide (0 + l0 ≤ p0.length), decide (0 + l1 ≤ p1.length), decide (0 + l2 ≤ p2.length), decide (0 + l3 ≤ p3.length), decide (l0 = (tkL l0 p0).length ∧ l1 = (tkL l1 p1).length ∧ l2 = (tkL l2 p2).length ∧ l3 = (tkL l3 p3).length ∧ ((tkL l0 p0) ++ (tkL l1 p1) ++ (tkL l2 p2) ++ (tkL l3 p3)).length ≤ maxRoom ∧ 0 < (tkL l0 p0).length), decide (0 + ((tkL l0 p0) ++ (tkL l1 p1) ++ (tkL l2 p2) ++ (tkL l3 p3)).length ≤ ((tkL l0 p0) ++ (tkL l1 p1) ++ (tkL l2 p2) ++ (tkL l3 p3)).length), decide ((tkL ((tkL l0 p0) ++ (tkL l1 p1) ++ (tkL l2 p2) ++ (tkL l3 p3)).length ((tkL l0 p0) ++ (tkL l1 p1) ++ (tkL l2 p2) ++ (tkL l3 p3))).length + 256 ≤ maxRoom)] (some (d16V (scG g (tkL ((tkL l0 p0) ++ (tkL l1 p1) ++ (tkL l2 p2) ++ (tkL l3 p3)).length ((tkL l0 p0) ++ (tkL l1 p1) ++ (tkL l2 p2) ++ (tkL l3 p3)))), none))
theorem scalar4_run (g : GOps) (p0 p1 p2 p3 : List Nat) (l0 l1 l2 l3 : Nat) : runG (X_rpub g) [] [0,2,3] 500 Tryz.f97 (bodyOf Tryz.f97) [.slice 4 0 4 false] [⟨.bytes p0, false⟩, ⟨.bytes p1, false⟩, ⟨.bytes p2, false⟩, ⟨.bytes p3, false⟩, ⟨.cells [.slice 0 0 l0 false, .slice 1 0 l1 false, .slice 2 0 l2 false, .slice 3 0 l3 false], false⟩] = s4T g p0 p1 p2 p3 l0 l1 l2 l3 := by kernel_rfl
theorem s4T_eq (g : GOps) {p0 p1 p2 p3 : List Nat} (h : (p0 ++ p1 ++ p2 ++ p3).length + 256 ≤ maxRoom) (h0 : 0 < p0.length) : s4T g p0 p1 p2 p3 p0.length p1.length p2.length p3.length = some (d16V (scG g (p0 ++ p1 ++ p2 ++ p3)), none) := by
  unfold s4T
  simp only [tkL_eq]
  rw [gds_true]
  intro c hc
  simp only [List.mem_cons, List.not_mem_nil, or_false] at hc
  rcases hc with hh | hh | hh | hh | hh | hh | hh
  · rw [hh]; exact decide_eq_true (by omega)
  · rw [hh]; exact decide_eq_true (by omega)
  · rw [hh]; exact decide_eq_true (by omega)
  · rw [hh]; exact decide_eq_true (by omega)
  · rw [hh]; exact decide_eq_true ⟨trivial, trivial, trivial, trivial, by omega, h0⟩
  · rw [hh]; exact decide_eq_true (by omega)
  · rw [hh]; exact decide_eq_true h
def gScalar (f : List Nat → List Nat) : List AV → Mem → Option (Bool × AV × Option Blk)
  | [.slice 2 0 2 false], [⟨.bytes p0, false⟩, ⟨.bytes p1, false⟩, ⟨.cells [.slice 0 0 l0 false, .slice 1 0 l1 false], false⟩] => some (decide (l0 = p0.length ∧ l1 = p1.length ∧ (p0 ++ p1).length + 256 ≤ maxRoom ∧ 0 < p0.length), d16V (f (p0 ++ p1)), none)
  | [.slice 3 0 3 false], [⟨.bytes p0, false⟩, ⟨.bytes p1, false⟩, ⟨.bytes p2, false⟩, ⟨.cells [.slice 0 0 l0 false, .slice 1 0 l1 false, .slice 2 0 l2 false], false⟩] => some (decide (l0 = p0.length ∧ l1 = p1.length ∧ l2 = p2.length ∧ (p0 ++ p1 ++ p2).length + 256 ≤ maxRoom ∧ 0 < p0.length), d16V (f (p0 ++ p1 ++ p2)), none)
  | [.slice 4 0 4 false], [⟨.bytes p0, false⟩, ⟨.bytes p1, false⟩, ⟨.bytes p2, false⟩, ⟨.bytes p3, false⟩, ⟨.cells [.slice 0 0 l0 false, .slice 1 0 l1 false, .slice 2 0 l2 false, .slice 3 0 l3 false], false⟩] => some (decide (l0 = p0.length ∧ l1 = p1.length ∧ l2 = p2.length ∧ l3 = p3.length ∧ (p0 ++ p1 ++ p2 ++ p3).length + 256 ≤ maxRoom ∧ 0 < p0.length), d16V (f (p0 ++ p1 ++ p2 ++ p3)), none)
  | _, _ => none
theorem scalar_at : QuietAt Tryz.prog 97 (grab (gScalar (scG concGO))) := by
  refine quietAt_of_runG X_rpub_ok (keep := [0,2,3]) Tryz.func97 (c := bodyOf Tryz.f97) (by kernel_rfl) (by kernel_rfl) LoopsOK.nil fun ar ms cd v nb h hc hw => ?_
  unfold gScalar at h
  split at h
  · cases h
    obtain ⟨rfl, rfl, hl, h0⟩ := of_decide_eq_true hc
    exact ⟨500, _, .refl _, (scalar2_run concGO _ _ _ _).trans (s2T_eq concGO hl h0)⟩
  · cases h
    obtain ⟨rfl, rfl, rfl, hl, h0⟩ := of_decide_eq_true hc
    exact ⟨500, _, .refl _, (scalar3_run concGO _ _ _ _ _ _).trans (s3T_eq concGO hl h0)⟩
  · cases h
    obtain ⟨rfl, rfl, rfl, rfl, hl, h0⟩ := of_decide_eq_true hc
    exact ⟨500, _, .refl _, (scalar4_run concGO _ _ _ _ _ _ _ _).trans (s4T_eq concGO hl h0)⟩
  · cases h
noncomputable def X_scalar (g : GOps) : Cx := { X_rpub g with O := addQ (X_rpub g).O 97 (grab (gScalar (scG g))) }
theorem X_scalar_ok : CxOK Tryz.prog (X_scalar concGO) := { X_rpub_ok with quiet := addQ_ok X_rpub_ok.quiet scalar_at }
theorem rTimes_run (g : GOps) (p : Pt3) (a : List Nat) : runNL (X_scalar g) [] [0,1,2,3,4,5] 200 Tryz.f57 (bodyOf Tryz.f57) (laArgs [.v (pt3V p), .v (d16V a)] 0) (laLists [.v (pt3V p), .v (d16V a)]) = some (pt3V (g.e.rscale p (g.dbytes (resp 16 a)).toList), none) := by
  kernel_rfl
def g_rTimes (g : GOps) (args : List LA) : Option (AV × Option Blk) := match args with
  | [.v x0, .v x1] => (match pt3? x0, d16? x1 with
    | some p, some a => some (pt3V (g.e.rscale p (g.dbytes (resp 16 a)).toList), none)
    | _, _ => none)
  | _ => none
theorem rTimes_at : QuietAt Tryz.prog 57 (lav (g_rTimes concGO)) := by
  refine quietAt_of_runA X_scalar_ok (L := []) (keep := [0,1,2,3,4,5]) Tryz.func57 (c := bodyOf Tryz.f57) (by kernel_rfl) (by kernel_rfl) (LoopsOK.nil) fun args v h hw => ⟨200, ?_⟩
  unfold g_rTimes at h
  split at h
  · rename_i x0 x1
    split at h
    · rename_i p a hh0 hh1
      have ehh0 := pt3?_some hh0
      subst ehh0
      have ehh1 := d16?_some hh1
      subst ehh1
      rw [← h]
      refine (rTimes_run concGO p a).trans ?_
      rfl
    · cases h
  · cases h
noncomputable def X_rTimes (g : GOps) : Cx := { X_scalar g with O := addQ (X_scalar g).O 57 (lav (g_rTimes g)) }
theorem X_rTimes_ok : CxOK Tryz.prog (X_rTimes concGO) := { X_scalar_ok with quiet := addQ_ok X_scalar_ok.quiet rTimes_at }
theorem chance_run (g : GOps)  : runNL (X_rTimes g) [] [0,1,5] 400 Tryz.f100 (bodyOf Tryz.f100) (laArgs [] 0) (laLists []) = some (.slice 0 0 32 true, some (⟨.bytes firstL, true⟩)) := by
  kernel_rfl
def g_chance (_ : GOps) (args : List LA) : Option (AV × Option Blk) := match args with
  | [] => some (.slice 0 0 32 true, some (⟨.bytes firstL, true⟩))
  | _ => none
theorem chance_at : QuietAt Tryz.prog 100 (lav (g_chance concGO)) := by
  refine quietAt_of_runA X_rTimes_ok (L := []) (keep := [0,1,5]) Tryz.func100 (c := bodyOf Tryz.f100) (by kernel_rfl) (by kernel_rfl) (LoopsOK.nil) fun args v h hw => ⟨400, ?_⟩
  unfold g_chance at h
  split at h
  · skip
    rw [← h]
    refine (chance_run concGO ).trans ?_
    rfl
  · cases h
noncomputable def X_chance (g : GOps) : Cx := { X_rTimes g with O := addQ (X_rTimes g).O 100 (lav (g_chance g)) }
theorem X_chance_ok : CxOK Tryz.prog (X_chance concGO) := { X_rTimes_ok with quiet := addQ_ok X_rTimes_ok.quiet chance_at }
theorem halves_run (g : GOps) (t : List Nat) : runNL (X_chance g) [] [0,1,2,3,4,5,6,8] 400 Tryz.f149 (bodyOf Tryz.f149) (laArgs [.v (b64V t)] 0) (laLists [.v (b64V t)]) = some (.tup [keyV (keyAt t 0), keyV (keyAt t 32)], none) := by
  kernel_rfl
def g_halves (_ : GOps) (args : List LA) : Option (AV × Option Blk) := match args with
  | [.v x0] => (match b64? x0 with
    | some t => some (.tup [keyV (keyAt t 0), keyV (keyAt t 32)], none)
    | _ => none)
  | _ => none
theorem halves_at : QuietAt Tryz.prog 149 (lav (g_halves concGO)) := by
  refine quietAt_of_runA X_chance_ok (L := []) (keep := [0,1,2,3,4,5,6,8]) Tryz.func149 (c := bodyOf Tryz.f149) (by kernel_rfl) (by kernel_rfl) (LoopsOK.nil) fun args v h hw => ⟨400, ?_⟩
  unfold g_halves at h
  split at h
  · rename_i x0
    split at h
    · rename_i t hh0
      have ehh0 := b64?_some hh0
      subst ehh0
      rw [← h]
      refine (halves_run concGO t).trans ?_
      rfl
    · cases h
  · cases h
noncomputable def X_halves (g : GOps) : Cx := { X_chance g with O := addQ (X_chance g).O 149 (lav (g_halves g)) }
theorem X_halves_ok : CxOK Tryz.prog (X_halves concGO) := { X_chance_ok with quiet := addQ_ok X_chance_ok.quiet halves_at }
def d3' (l : Nat) (p0 p1 p2 : List Nat) : Bool := decide (32 - 0 = p0.length ∧ 32 - 0 = p1.length ∧ l = p2.length ∧ (p0 ++ p1 ++ p2).length + 256 ≤ maxRoom ∧ 0 < p0.length)
theorem d3_ok {a b : K32} {p : List Nat} (h : p.length + 512 ≤ maxRoom) : d3' p.length a.toList b.toList p = true := by
  refine decide_eq_true ⟨rfl, rfl, rfl, ?_, by rw [key_len]; decide⟩
  rw [List.length_append, List.length_append, key_len, key_len]
  omega
def rmP (g : GOps) (r : List Nat) : K32 := g.e.rbytes (g.e.rscale g.e.rbase (g.dbytes (resp 16 (resp 16 r))).toList)
def rmC (g : GOps) (r : List Nat) (k : K32) (b : List Nat) : List Nat := scG g ((rmP g r).toList ++ k.toList ++ b)
def rmS (g : GOps) (r a : List Nat) (k : K32) (b : List Nat) : K32 := g.dbytes (resp 16 (g.dadd (resp 16 r) (resp 16 (g.dmul (resp 16 (rmC g r k b)) (resp 16 a)))))
def rmadeV (g : GOps) (r a : List Nat) (k : K32) (b : List Nat) : List Nat := (rmP g r).toList ++ (rmS g r a k b).toList
def rmadeT (g : GOps) (r a : List Nat) (k : K32) (b : List Nat) : Option (AV × Option Blk) := gds [decide (0 + b.length ≤ b.length), d3' b.length (rmP g r).toList k.toList (tkL b.length b)] (some (b64V (rmadeV g r a k (tkL b.length b)), none))
theorem rmadeT_eq (g : GOps) {r a : List Nat} {k : K32} {b : List Nat} (h : b.length + 512 ≤ maxRoom) : rmadeT g r a k b = some (b64V (rmadeV g r a k b), none) := by
  unfold rmadeT
  rw [tkL_eq, d3_ok h, decide_eq_true (by omega)]
  rfl
theorem rmade_run (g : GOps) (r : List Nat) (a : List Nat) (k : K32) (b : List Nat) : runNL (X_halves g) [] [0,1,2,3,4,5,6,8,9,10,11,12,13,30] 900 Tryz.f96 (bodyOf Tryz.f96) (laArgs [.v (d16V r), .v (d16V a), .v (keyV k), .l b] 0) (laLists [.v (d16V r), .v (d16V a), .v (keyV k), .l b]) = rmadeT g r a k b := by
  kernel_rfl
def u_rmade (g : GOps) (args : List LA) : Option (AV × Option Blk) := match args with
  | [.v x0, .v x1, .v x2, .l b] => (match d16? x0, d16? x1, key? x2 with
    | some r, some a, some k => some (b64V (rmadeV g r a k b), none)
    | _, _, _ => none)
  | _ => none
def c_rmade (args : List LA) : Bool := match args with
  | [.v x0, .v x1, .v x2, .l b] => (match d16? x0, d16? x1, key? x2 with
    | some _, some _, some _ => decide (b.length + 512 ≤ maxRoom)
    | _, _, _ => false)
  | _ => false
def g_rmade (g : GOps) (args : List LA) : Option (AV × Option Blk) := bif c_rmade args then u_rmade g args else none
theorem rmade_at : QuietAt Tryz.prog 96 (lav (g_rmade concGO)) := by
  refine quietAt_of_runA X_halves_ok (L := []) (keep := [0,1,2,3,4,5,6,8,9,10,11,12,13,30]) Tryz.func96 (c := bodyOf Tryz.f96) (by kernel_rfl) (by kernel_rfl) (LoopsOK.nil) fun args v h hw => ⟨900, ?_⟩
  unfold g_rmade at h
  have hg := (bif_some h).1
  replace h := (bif_some h).2
  unfold u_rmade at h
  split at h
  · rename_i x0 x1 x2 b
    split at h
    · rename_i r a k hh0 hh1 hh2
      have ehh0 := d16?_some hh0
      subst ehh0
      have ehh1 := d16?_some hh1
      subst ehh1
      have ehh2 := key?_some hh2
      subst ehh2
      replace hg : (decide (b.length + 512 ≤ maxRoom)) = true := hg
      rw [← h]
      refine (rmade_run concGO r a k b).trans ?_
      exact rmadeT_eq concGO (of_decide_eq_true hg)
    · cases h
  · cases h
noncomputable def X_rmade (g : GOps) : Cx := { X_halves g with O := addQ (X_halves g).O 96 (lavG c_rmade (u_rmade g)) }
theorem X_rmade_ok : CxOK Tryz.prog (X_rmade concGO) := { X_halves_ok with quiet := addQ_ok X_halves_ok.quiet (lavG_at rmade_at) }
def rhW (g : GOps) (t : List Nat) : List Nat × Int := g.dwhole (keyAt t 32)
def rhC (g : GOps) (p : Pt3) (b t : List Nat) : List Nat := scG g ((keyAt t 0).toList ++ (g.e.rbytes p).toList ++ b)
def rhB (g : GOps) (p : Pt3) (b t : List Nat) : K32 := g.e.rbytes (g.e.rsub (g.e.rscale g.e.rbase (g.dbytes (resp 16 (resp 16 (rhW g t).1))).toList) (g.e.rscale p (g.dbytes (resp 16 (resp 16 (rhC g p b t)))).toList))
noncomputable def rholdT (g : GOps) (p : Pt3) (b t : List Nat) : Option (AV × Option Blk) := brn (g.e.rsmall p) (nV 200) (brn (!decide ((rhW g t).2 = 0)) (nV (rhW g t).2)
  (gds [decide (0 + b.length ≤ b.length), d3' b.length (keyAt t 0).toList (g.e.rbytes p).toList (tkL b.length b)] (brn (!keyEq (rhB g p (tkL b.length b) t) (keyAt t 0)) (nV 201) (nV 0))))
def rholdV (g : GOps) (p : Pt3) (b t : List Nat) : Int := bif g.e.rsmall p then 200 else bif !decide ((rhW g t).2 = 0) then (rhW g t).2 else bif !keyEq (rhB g p b t) (keyAt t 0) then 201 else 0
theorem rholdT_eq (g : GOps) {p : Pt3} {b t : List Nat} (h : b.length + 512 ≤ maxRoom) : rholdT g p b t = some (.n (rholdV g p b t), none) := by
  unfold rholdT rholdV
  rw [tkL_eq, d3_ok h, decide_eq_true (show 0 + b.length ≤ b.length by omega)]
  cases g.e.rsmall p <;> cases decide ((rhW g t).2 = 0) <;> cases keyEq (rhB g p b t) (keyAt t 0) <;> rfl
theorem rheld_run (g : GOps) (p : Pt3) (b : List Nat) (t : List Nat) : runNL (X_rmade g) [] [0,1,2,3,5,6,7,8,9,10,11,12,14,26,44] 900 Tryz.f103 (bodyOf Tryz.f103) (laArgs [.v (pt3V p), .l b, .v (b64V t)] 0) (laLists [.v (pt3V p), .l b, .v (b64V t)]) = rholdT g p b t := by
  kernel_rfl
def u_rheld (g : GOps) (args : List LA) : Option (AV × Option Blk) := match args with
  | [.v x0, .l b, .v x2] => (match pt3? x0, b64? x2 with
    | some p, some t => some (.n (rholdV g p b t), none)
    | _, _ => none)
  | _ => none
def c_rheld (args : List LA) : Bool := match args with
  | [.v x0, .l b, .v x2] => (match pt3? x0, b64? x2 with
    | some _, some _ => decide (b.length + 512 ≤ maxRoom)
    | _, _ => false)
  | _ => false
def g_rheld (g : GOps) (args : List LA) : Option (AV × Option Blk) := bif c_rheld args then u_rheld g args else none
theorem rheld_at : QuietAt Tryz.prog 103 (lav (g_rheld concGO)) := by
  refine quietAt_of_runA X_rmade_ok (L := []) (keep := [0,1,2,3,5,6,7,8,9,10,11,12,14,26,44]) Tryz.func103 (c := bodyOf Tryz.f103) (by kernel_rfl) (by kernel_rfl) (LoopsOK.nil) fun args v h hw => ⟨900, ?_⟩
  unfold g_rheld at h
  have hg := (bif_some h).1
  replace h := (bif_some h).2
  unfold u_rheld at h
  split at h
  · rename_i x0 b x2
    split at h
    · rename_i p t hh0 hh1
      have ehh0 := pt3?_some hh0
      subst ehh0
      have ehh1 := b64?_some hh1
      subst ehh1
      replace hg : (decide (b.length + 512 ≤ maxRoom)) = true := hg
      rw [← h]
      refine (rheld_run concGO p b t).trans ?_
      exact rholdT_eq concGO (of_decide_eq_true hg)
    · cases h
  · cases h
noncomputable def X_rheld (g : GOps) : Cx := { X_rmade g with O := addQ (X_rmade g).O 103 (lavG c_rheld (u_rheld g)) }
theorem X_rheld_ok : CxOK Tryz.prog (X_rheld concGO) := { X_rmade_ok with quiet := addQ_ok X_rmade_ok.quiet (lavG_at rheld_at) }
def rcheckV (g : GOps) (k : K32) (b t : List Nat) : Int := bif decide ((g.e.rparse k).2 = 0) then rholdV g (g.e.rparse k).1 b t else (g.e.rparse k).2
noncomputable def rcheckT (g : GOps) (k : K32) (b t : List Nat) : Option (AV × Option Blk) := brn (!decide ((g.e.rparse k).2 = 0)) (nV (g.e.rparse k).2) (gds [decide (0 + b.length ≤ b.length), decide ((tkL b.length b).length + 512 ≤ maxRoom)] (nV (rholdV g (g.e.rparse k).1 (tkL b.length b) t)))
theorem rcheckT_eq (g : GOps) {k : K32} {b t : List Nat} (h : b.length + 512 ≤ maxRoom) : rcheckT g k b t = some (.n (rcheckV g k b t), none) := by
  unfold rcheckT rcheckV
  rw [tkL_eq, decide_eq_true (show 0 + b.length ≤ b.length by omega), decide_eq_true h]
  cases decide ((g.e.rparse k).2 = 0) <;> rfl
theorem rcheck_run (g : GOps) (k : K32) (b : List Nat) (t : List Nat) : runNL (X_rheld g) [] [0,1,2,3,5,6,7,8,15] 400 Tryz.f38 (bodyOf Tryz.f38) (laArgs [.v (keyV k), .l b, .v (b64V t)] 0) (laLists [.v (keyV k), .l b, .v (b64V t)]) = rcheckT g k b t := by
  kernel_rfl
def u_rcheck (g : GOps) (args : List LA) : Option (AV × Option Blk) := match args with
  | [.v x0, .l b, .v x2] => (match key? x0, b64? x2 with
    | some k, some t => some (.n (rcheckV g k b t), none)
    | _, _ => none)
  | _ => none
def c_rcheck (args : List LA) : Bool := match args with
  | [.v x0, .l b, .v x2] => (match key? x0, b64? x2 with
    | some _, some _ => decide (b.length + 512 ≤ maxRoom)
    | _, _ => false)
  | _ => false
def g_rcheck (g : GOps) (args : List LA) : Option (AV × Option Blk) := bif c_rcheck args then u_rcheck g args else none
theorem rcheck_at : QuietAt Tryz.prog 38 (lav (g_rcheck concGO)) := by
  refine quietAt_of_runA X_rheld_ok (L := []) (keep := [0,1,2,3,5,6,7,8,15]) Tryz.func38 (c := bodyOf Tryz.f38) (by kernel_rfl) (by kernel_rfl) (LoopsOK.nil) fun args v h hw => ⟨400, ?_⟩
  unfold g_rcheck at h
  have hg := (bif_some h).1
  replace h := (bif_some h).2
  unfold u_rcheck at h
  split at h
  · rename_i x0 b x2
    split at h
    · rename_i k t hh0 hh1
      have ehh0 := key?_some hh0
      subst ehh0
      have ehh1 := b64?_some hh1
      subst ehh1
      replace hg : (decide (b.length + 512 ≤ maxRoom)) = true := hg
      rw [← h]
      refine (rcheck_run concGO k b t).trans ?_
      exact rcheckT_eq concGO (of_decide_eq_true hg)
    · cases h
  · cases h
noncomputable def X_rcheck (g : GOps) : Cx := { X_rheld g with O := addQ (X_rheld g).O 38 (lavG c_rcheck (u_rcheck g)) }
theorem X_rcheck_ok : CxOK Tryz.prog (X_rcheck concGO) := { X_rheld_ok with quiet := addQ_ok X_rheld_ok.quiet (lavG_at rcheck_at) }
def rhnK (g : GOps) (k : K32) : Bool := keyEq (g.e.fo.rbytes (g.e.fo.rfrm k)) k
def rhonourV (g : GOps) (k : K32) (b t : List Nat) : Int := bif rhnK g k then (bif decide ((g.e.rlift k false).2 = 0) then rholdV g (g.e.rlift k false).1 b t else (g.e.rlift k false).2) else 190
noncomputable def rhonourT (g : GOps) (k : K32) (b t : List Nat) : Option (AV × Option Blk) := brn (!rhnK g k) (nV 190) (brn (!decide ((g.e.rlift k false).2 = 0)) (nV (g.e.rlift k false).2) (gds [decide (0 + b.length ≤ b.length), decide ((tkL b.length b).length + 512 ≤ maxRoom)] (nV (rholdV g (g.e.rlift k false).1 (tkL b.length b) t))))
theorem rhonourT_eq (g : GOps) {k : K32} {b t : List Nat} (h : b.length + 512 ≤ maxRoom) : rhonourT g k b t = some (.n (rhonourV g k b t), none) := by
  unfold rhonourT rhonourV
  rw [tkL_eq, decide_eq_true (show 0 + b.length ≤ b.length by omega), decide_eq_true h]
  cases rhnK g k <;> cases decide ((g.e.rlift k false).2 = 0) <;> rfl
theorem rhonour_run (g : GOps) (k : K32) (b : List Nat) (t : List Nat) : runNL (X_rcheck g) [] [0,1,2,3,5,6,7,8,13,20] 400 Tryz.f36 (bodyOf Tryz.f36) (laArgs [.v (keyV k), .l b, .v (b64V t)] 0) (laLists [.v (keyV k), .l b, .v (b64V t)]) = rhonourT g k b t := by
  kernel_rfl
def u_rhonour (g : GOps) (args : List LA) : Option (AV × Option Blk) := match args with
  | [.v x0, .l b, .v x2] => (match key? x0, b64? x2 with
    | some k, some t => some (.n (rhonourV g k b t), none)
    | _, _ => none)
  | _ => none
def c_rhonour (args : List LA) : Bool := match args with
  | [.v x0, .l b, .v x2] => (match key? x0, b64? x2 with
    | some _, some _ => decide (b.length + 512 ≤ maxRoom)
    | _, _ => false)
  | _ => false
def g_rhonour (g : GOps) (args : List LA) : Option (AV × Option Blk) := bif c_rhonour args then u_rhonour g args else none
theorem rhonour_at : QuietAt Tryz.prog 36 (lav (g_rhonour concGO)) := by
  refine quietAt_of_runA X_rcheck_ok (L := []) (keep := [0,1,2,3,5,6,7,8,13,20]) Tryz.func36 (c := bodyOf Tryz.f36) (by kernel_rfl) (by kernel_rfl) (LoopsOK.nil) fun args v h hw => ⟨400, ?_⟩
  unfold g_rhonour at h
  have hg := (bif_some h).1
  replace h := (bif_some h).2
  unfold u_rhonour at h
  split at h
  · rename_i x0 b x2
    split at h
    · rename_i k t hh0 hh1
      have ehh0 := key?_some hh0
      subst ehh0
      have ehh1 := b64?_some hh1
      subst ehh1
      replace hg : (decide (b.length + 512 ≤ maxRoom)) = true := hg
      rw [← h]
      refine (rhonour_run concGO k b t).trans ?_
      exact rhonourT_eq concGO (of_decide_eq_true hg)
    · cases h
  · cases h
noncomputable def X_rhonour (g : GOps) : Cx := { X_rcheck g with O := addQ (X_rcheck g).O 36 (lavG c_rhonour (u_rhonour g)) }
theorem X_rhonour_ok : CxOK Tryz.prog (X_rhonour concGO) := { X_rcheck_ok with quiet := addQ_ok X_rcheck_ok.quiet (lavG_at rhonour_at) }
/-! ### Sign, Lend -/
def rsgR (g : GOps) (seed b : List Nat) : List Nat := scG g (rpreL g seed ++ b)
def rsgS (g : GOps) (seed : List Nat) : List Nat := g.dred (rsecK g seed).toList
def rsignV (g : GOps) (seed b : List Nat) : List Nat := bif is32 seed then rmadeV g (resp 16 (rsgR g seed b)) (resp 16 (rsgS g seed)) (rpubK g seed) b else zero64
def rlnS (g : GOps) (k : K32) : List Nat := g.dred (clampR k).toList
def rlnA (g : GOps) (k : K32) : K32 := g.e.rbytes (g.e.rscale g.e.rbase (clampR k).toList)
def rlnH (g : GOps) (k : K32) : Bool := decide (128 ≤ (rlnA g k).b31)
def rlnO (g : GOps) (s : List Nat) : K32 := g.dbytes (resp 16 s)
def rlnR (g : GOps) (s : List Nat) (b m : List Nat) : List Nat := scG g (firstL ++ (rlnO g s).toList ++ b ++ m)
def e2' (l0 lb : Nat) (p0 p1 : List Nat) : Bool := decide (l0 = p0.length ∧ lb = p1.length ∧ (p0 ++ p1).length + 256 ≤ maxRoom ∧ 0 < p0.length)
def e4' (lb lm : Nat) (p0 p1 p2 p3 : List Nat) : Bool := decide (32 = p0.length ∧ 32 - 0 = p1.length ∧ lb = p2.length ∧ lm = p3.length ∧ (p0 ++ p1 ++ p2 ++ p3).length + 256 ≤ maxRoom ∧ 0 < p0.length)
noncomputable def rsignT (g : GOps) (seed b sd bb : List Nat) : Option (AV × Option Blk) := gds [decide (0 + seed.length ≤ seed.length)] (brn (!decide ((bif is32 sd then (0 : Int) else 3) = 0)) (some (.tup [b64V zero64, .n (bif is32 sd then 0 else 3)], none))
  (gds [decide (0 + seed.length ≤ seed.length), decide (sd.length + 256 ≤ maxRoom), decide (0 + b.length ≤ b.length), e2' (rpreL g sd).length b.length (rpreL g sd) bb, decide (0 + b.length ≤ b.length), decide (bb.length + 512 ≤ maxRoom)]
    (some (.tup [b64V (rmadeV g (resp 16 (rsgR g sd bb)) (resp 16 (rsgS g sd)) (rpubV g sd) bb), .n 0], none))))
theorem rsignT_eq (g : GOps) {seed b : List Nat} (h : b.length + 512 ≤ maxRoom) : rsignT g seed b (tkL seed.length seed) (tkL b.length b) = some (.tup [b64V (rsignV g seed b), .n (bif is32 seed then 0 else 3)], none) := by
  unfold rsignT rsignV
  have hm : maxRoom = 175921860444160 := rfl
  rw [tkL_eq, tkL_eq, gds_true]
  · cases hs : is32 seed
    · rfl
    · have hl := is32_iff.1 hs
      have hc : e2' (rpreL g seed).length b.length (rpreL g seed) b = true := by
        refine decide_eq_true ⟨rfl, rfl, ?_, by rw [show (rpreL g seed).length = 32 from rfl]; decide⟩
        rw [List.length_append, show (rpreL g seed).length = 32 from rfl]
        omega
      have hp : rpubV g seed = rpubK g seed := by unfold rpubV; rw [hs]; rfl
      rw [hc, hp, decide_eq_true (show 0 + seed.length ≤ seed.length by omega), decide_eq_true (show seed.length + 256 ≤ maxRoom by omega), decide_eq_true (show 0 + b.length ≤ b.length by omega), decide_eq_true h]
      rfl
  · intro c hc
    simp only [List.mem_cons, List.not_mem_nil, or_false] at hc
    rw [hc]; exact decide_eq_true (by omega)
theorem rsign_run (g : GOps) (seed : List Nat) (b : List Nat) : runNL (X_rhonour g) [] [0,1,4,5,6,7,8,9,16] 600 Tryz.f30 (bodyOf Tryz.f30) (laArgs [.l seed, .l b] 0) (laLists [.l seed, .l b]) = rsignT g seed b (tkL seed.length seed) (tkL b.length b) := by
  kernel_rfl
def u_rsign (g : GOps) (args : List LA) : Option (AV × Option Blk) := match args with
  | [.l seed, .l b] => some (.tup [b64V (rsignV g seed b), .n (bif is32 seed then 0 else 3)], none)
  | _ => none
def c_rsign (args : List LA) : Bool := match args with
  | [.l _, .l b] => decide (b.length + 512 ≤ maxRoom)
  | _ => false
def g_rsign (g : GOps) (args : List LA) : Option (AV × Option Blk) := bif c_rsign args then u_rsign g args else none
theorem rsign_at : QuietAt Tryz.prog 30 (lav (g_rsign concGO)) := by
  refine quietAt_of_runA X_rhonour_ok (L := []) (keep := [0,1,4,5,6,7,8,9,16]) Tryz.func30 (c := bodyOf Tryz.f30) (by kernel_rfl) (by kernel_rfl) (LoopsOK.nil) fun args v h hw => ⟨600, ?_⟩
  unfold g_rsign at h
  have hg := (bif_some h).1
  replace h := (bif_some h).2
  unfold u_rsign at h
  split at h
  · rename_i seed b
    replace hg : (decide (b.length + 512 ≤ maxRoom)) = true := hg
    rw [← h]
    refine (rsign_run concGO seed b).trans ?_
    exact rsignT_eq concGO (of_decide_eq_true hg)
  · cases h
noncomputable def X_rsign (g : GOps) : Cx := { X_rhonour g with O := addQ (X_rhonour g).O 30 (lavG c_rsign (u_rsign g)) }
theorem X_rsign_ok : CxOK Tryz.prog (X_rsign concGO) := { X_rhonour_ok with quiet := addQ_ok X_rhonour_ok.quiet (lavG_at rsign_at) }
def lowA (k : K32) : K32 := { k with b31 := (k.b31 + (2 ^ 8 - 128)) % 2 ^ 8 }
def rlnX (g : GOps) (s : List Nat) (a : K32) (b m bb mm : List Nat) : Option (AV × Option Blk) := gds [decide (0 + b.length ≤ b.length), decide (0 + m.length ≤ m.length), e4' b.length m.length firstL (rlnO g s).toList bb mm, decide (0 + b.length ≤ b.length), decide (bb.length + 512 ≤ maxRoom)] (some (.tup [b64V (rmadeV g (resp 16 (rlnR g s bb mm)) (resp 16 s) a bb), .n 0], none))
noncomputable def rlendT (g : GOps) (k : K32) (b m bb mm : List Nat) : Option (AV × Option Blk) := brn (!is64 m) (some (.tup [b64V zero64, .n 3], none)) (brn (rlnH g k) (rlnX g (g.dneg (resp 16 (rlnS g k))) (lowA (rlnA g k)) b m bb mm) (rlnX g (rlnS g k) (rlnA g k) b m bb mm))
def rlendS (g : GOps) (k : K32) : List Nat := bif rlnH g k then g.dneg (resp 16 (rlnS g k)) else rlnS g k
def rlendA (g : GOps) (k : K32) : K32 := bif rlnH g k then lowA (rlnA g k) else rlnA g k
def rlendV (g : GOps) (k : K32) (b m : List Nat) : List Nat := bif is64 m then rmadeV g (resp 16 (rlnR g (rlendS g k) b m)) (resp 16 (rlendS g k)) (rlendA g k) b else zero64
theorem rlnX_eq (g : GOps) {s : List Nat} {a : K32} {b m : List Nat} (h : b.length + 512 ≤ maxRoom) (hm : m.length = 64) : rlnX g s a b m b m = some (.tup [b64V (rmadeV g (resp 16 (rlnR g s b m)) (resp 16 s) a b), .n 0], none) := by
  unfold rlnX
  have hx : maxRoom = 175921860444160 := rfl
  have hc : e4' b.length m.length firstL (rlnO g s).toList b m = true := by
    refine decide_eq_true ⟨rfl, rfl, rfl, rfl, ?_, by decide⟩
    rw [List.length_append, List.length_append, List.length_append, key_len, hm, show firstL.length = 32 from rfl]
    omega
  rw [hc, decide_eq_true (show 0 + b.length ≤ b.length by omega), decide_eq_true (show 0 + m.length ≤ m.length by omega), decide_eq_true h]
  rfl
theorem rlendT_eq (g : GOps) {k : K32} {b m : List Nat} (h : b.length + 512 ≤ maxRoom) : rlendT g k b m (tkL b.length b) (tkL m.length m) = some (.tup [b64V (rlendV g k b m), .n (bif is64 m then 0 else 3)], none) := by
  unfold rlendT rlendV rlendS rlendA
  rw [tkL_eq, tkL_eq]
  cases hs : is64 m
  · rfl
  · rw [rlnX_eq g h (is64_iff.1 hs), rlnX_eq g h (is64_iff.1 hs)]
    cases rlnH g k <;> rfl
theorem rlend_run (g : GOps) (k : K32) (b : List Nat) (m : List Nat) : runNL (X_rsign g) [] [0,1,2,3,6,7,8,9,10,11,14,26] 900 Tryz.f34 (bodyOf Tryz.f34) (laArgs [.v (keyV k), .l b, .l m] 0) (laLists [.v (keyV k), .l b, .l m]) = rlendT g k b m (tkL b.length b) (tkL m.length m) := by
  kernel_rfl
def u_rlend (g : GOps) (args : List LA) : Option (AV × Option Blk) := match args with
  | [.v x0, .l b, .l m] => (match key? x0 with
    | some k => some (.tup [b64V (rlendV g k b m), .n (bif is64 m then 0 else 3)], none)
    | _ => none)
  | _ => none
def c_rlend (args : List LA) : Bool := match args with
  | [.v x0, .l b, .l _] => (match key? x0 with
    | some _ => decide (b.length + 512 ≤ maxRoom)
    | _ => false)
  | _ => false
def g_rlend (g : GOps) (args : List LA) : Option (AV × Option Blk) := bif c_rlend args then u_rlend g args else none
theorem rlend_at : QuietAt Tryz.prog 34 (lav (g_rlend concGO)) := by
  refine quietAt_of_runA X_rsign_ok (L := []) (keep := [0,1,2,3,6,7,8,9,10,11,14,26]) Tryz.func34 (c := bodyOf Tryz.f34) (by kernel_rfl) (by kernel_rfl) (LoopsOK.nil) fun args v h hw => ⟨900, ?_⟩
  unfold g_rlend at h
  have hg := (bif_some h).1
  replace h := (bif_some h).2
  unfold u_rlend at h
  split at h
  · rename_i x0 b m
    split at h
    · rename_i k hh0
      have ehh0 := key?_some hh0
      subst ehh0
      replace hg : (decide (b.length + 512 ≤ maxRoom)) = true := hg
      rw [← h]
      refine (rlend_run concGO k b m).trans ?_
      exact rlendT_eq concGO (of_decide_eq_true hg)
    · cases h
  · cases h
noncomputable def X_rlend (g : GOps) : Cx := { X_rsign g with O := addQ (X_rsign g).O 34 (lavG c_rlend (u_rlend g)) }
theorem X_rlend_ok : CxOK Tryz.prog (X_rlend concGO) := { X_rsign_ok with quiet := addQ_ok X_rsign_ok.quiet (lavG_at rlend_at) }

end Go.Proofs.YtnnjaijokiknkaaGreat

