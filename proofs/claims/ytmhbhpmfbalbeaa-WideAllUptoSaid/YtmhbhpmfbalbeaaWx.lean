/- The lists that the laws lend, and look at again. -/
import Derived.Test.YtmhbhpmfbalbeaaWv
namespace Go.Proofs.Ytmhbhpmfbalbeaa
open Go Pw Go.RowKit
/-! ### kept -/
def marks (n : Nat) : List Nat := (List.range n).map fun i => 171 + i % 60
theorem marks_get (n i : Nat) (h : i < n) : (marks n)[i]? = some (171 + i % 60) := by
  unfold marks
  rw [List.getElem?_map, List.getElem?_range h]; rfl
theorem marks_succ (i : Nat) : marks (i + 1) = marks i ++ [171 + i % 60] := by
  unfold marks; rw [List.range_succ, List.map_append]; rfl
theorem marks_len (i : Nat) : (marks i).length = i := by unfold marks; simp
def keptOk (a b : List Nat) : Bool := decide (a = b ++ marks 80 ∧ a.length < 4611686018427387904)
noncomputable abbrev kpL : Func := Try.f23
structure S_kpO where
  n0 : Nat
  n1 : Nat
  i : Int
  a : List Nat
  b : List Nat
def d_kpO : LoopDef S_kpO where
  ts := [0, 1, 5]
  E := fun s => [(0, .slice 0 0 s.n0 false), (1, .slice 1 0 s.n1 false), (5, .n s.i)]
  M := fun s => [⟨.bytes s.a, false⟩, ⟨.bytes s.b, false⟩]
  dec := fun vs mem => match vs, mem with
    | [.slice 0 0 n0 false, .slice 1 0 n1 false, x5], [⟨.bytes a, false⟩, ⟨.bytes b, false⟩] => (match int? x5 with
      | some i => some ⟨n0, n1, i, a, b⟩
      | _ => none)
    | _, _ => none
  ok := fun vs mem s h => by
    split at h
    · split at h
      · rename_i i hh0
        have ehh0 := int?_some hh0
        subst ehh0
        cases h; exact ⟨rfl, rfl⟩
      · cases h
    · cases h
def kpX (s : S_kpO) : Nat := 0 + s.i.toNat * 1
def kpN (s : S_kpO) : Option (Ex × Env × Mem) := some (.normal, d_kpO.E { s with i := w64 (s.i + 1) }, d_kpO.M { s with i := w64 (s.i + 1) })
def kpR (s : S_kpO) : Option (Ex × Env × Mem) := some (.ret, d_kpO.E s, d_kpO.M s)
def kpB (s : S_kpO) : Option (Ex × Env × Mem) := bif decide ((s.n1 : Int) ≤ s.i) then (bif decide (0 ≤ s.i ∧ s.i < (s.n0 : Int)) then (bif decide (kpX s < s.a.length) then (bif !decide (s.a.getD (kpX s) 0 = (w64 (171 + (w64 (s.i - (s.n1 : Int))).tmod 60) % 256).toNat) then kpR s else kpN s) else none) else none) else kpN s
theorem kpO_step (o : SOps) (s : S_kpO) : codeK (X_hashR o) [] kpL.ntmps [0,1,4,5,9,17,18,19,20,21,22,23,24,25,28,29,30,31,32,33,34,35,36,37,38,39,40,41,42,43,44,45,46] 60 (loopB (bodyOf kpL) 2) (d_kpO.E s) (d_kpO.M s) (outK d_kpO.ts) =
    bif decide (s.i < (s.n0 : Int)) then (bif decide (s.i < (s.n1 : Int)) then (bif decide (0 ≤ s.i ∧ s.i < (s.n0 : Int)) then (bif decide (kpX s < s.a.length) then (bif decide (0 ≤ s.i ∧ s.i < (s.n1 : Int)) then (bif decide (kpX s < s.b.length) then
      (bif !decide (s.a.getD (kpX s) 0 = s.b.getD (kpX s) 0) then kpR s else kpB s) else none) else none) else none) else none) else kpB s) else some (.exit 0, d_kpO.E s, d_kpO.M s) := by kernel_rfl
def gKp : LoopFn := d_kpO.fn (fun s => decide (s.n0 = s.a.length ∧ s.n1 = s.b.length ∧ s.i = 0 ∧ s.a = s.b ++ marks 80 ∧ s.a.length < 4611686018427387904)) (.exit 0) (fun s => { s with i := (s.n0 : Int) })
theorem kpO_at : LoopAt Try.prog kpL.ntmps (loopB (bodyOf kpL) 2) gKp := by
  refine d_kpO.loop (keep := [0,1,4,5,9,17,18,19,20,21,22,23,24,25,28,29,30,31,32,33,34,35,36,37,38,39,40,41,42,43,44,45,46]) X_hashR_ok LoopsOK.nil (by simp) fun s hg => ⟨s.n0, fun i => { s with i := (i : Int) }, ?_, fun i hi => ⟨60, ?_⟩, 60, ?_⟩
  · obtain ⟨-, -, h, -⟩ := of_decide_eq_true hg
    cases s; simp_all
  · obtain ⟨h1, h2, h3, h4, h5⟩ := of_decide_eq_true hg
    have hl : s.a.length = s.b.length + 80 := by rw [h4, List.length_append, marks_len]
    refine (kpO_step concS _).trans ?_
    have hx : kpX { s with i := (i : Int) } = i := by unfold kpX; dsimp only; omega
    have hN : kpN { s with i := (i : Int) } = some (.normal, d_kpO.E { s with i := ((i + 1 : Nat) : Int) }, d_kpO.M { s with i := ((i + 1 : Nat) : Int) }) := by
      unfold kpN
      dsimp only
      rw [w64_id (by omega) (by omega)]; rfl
    have hB : kpB { s with i := (i : Int) } = kpN { s with i := (i : Int) } := by
      unfold kpB
      rw [hx]
      dsimp only
      by_cases hb : (s.n1 : Int) ≤ (i : Int)
      · have hget : s.a.getD i 0 = 171 + (i - s.b.length) % 60 := by
          rw [List.getD_eq_getElem?_getD, h4, List.getElem?_append_right (by omega), marks_get _ _ (by omega)]; rfl
        rw [decide_eq_true hb, cond_true, decide_eq_true (show (0 : Int) ≤ (i : Int) ∧ (i : Int) < (s.n0 : Int) by omega), cond_true, decide_eq_true (show i < s.a.length by omega), cond_true, hget,
          decide_eq_true (show 171 + (i - s.b.length) % 60 = (w64 (171 + (w64 ((i : Int) - (s.n1 : Int))).tmod 60) % 256).toNat by
            rw [w64_id (x := (i : Int) - (s.n1 : Int)) (by omega) (by omega), Int.tmod_eq_emod_of_nonneg (by omega), w64_id (by omega) (by omega)]; omega)]
        rfl
      · rw [decide_eq_false hb, cond_false]
    rw [hx, hB, hN]
    dsimp only
    rw [decide_eq_true (show (i : Int) < (s.n0 : Int) by omega), cond_true]
    by_cases hb : (i : Int) < (s.n1 : Int)
    · have hget : s.a.getD i 0 = s.b.getD i 0 := by
        rw [List.getD_eq_getElem?_getD, List.getD_eq_getElem?_getD, h4, List.getElem?_append_left (by omega)]
      rw [decide_eq_true hb, cond_true, decide_eq_true (show (0 : Int) ≤ (i : Int) ∧ (i : Int) < (s.n0 : Int) by omega), cond_true, decide_eq_true (show i < s.a.length by omega), cond_true,
        decide_eq_true (show (0 : Int) ≤ (i : Int) ∧ (i : Int) < (s.n1 : Int) by omega), cond_true, decide_eq_true (show i < s.b.length by omega), cond_true, hget, decide_eq_true rfl]
      rfl
    · rw [decide_eq_false hb, cond_false]
  · refine (kpO_step concS _).trans ?_
    rw [decide_eq_false (show ¬ ((s.n0 : Nat) : Int) < (s.n0 : Int) by omega), cond_false]
theorem kp_loops : LoopsOK Try.prog kpL.ntmps [(2, gKp)] (bodyOf kpL) := loopsOK_cons LoopsOK.nil (by kernel_rfl) kpO_at
theorem keptL_run (o : SOps) (a : List Nat) (b : List Nat) : runNL (X_hashR o) [(2, gKp)] [0,1,4,5,9,17,18,19,20,21,22,23,24,25,28,29,30,31,32,33,34,35,36,37,38,39,40,41,42,43,44,45,46] 200 Try.f23 (bodyOf Try.f23) (laArgs [.l a, .l b] 0) (laLists [.l a, .l b]) = bif decide (a.length = a.length ∧ b.length = b.length ∧ (0 : Int) = 0 ∧ a = b ++ marks 80 ∧ a.length < 4611686018427387904) then some (.bool true, none) else none := by
  kernel_rfl
def u_keptL (_ : SOps) (args : List LA) : Option (AV × Option Blk) := match args with
  | [.l _, .l _] => some (.bool true, none)
  | _ => none
def c_keptL (args : List LA) : Bool := match args with
  | [.l a, .l b] => keptOk a b
  | _ => false
def g_keptL (o : SOps) (args : List LA) : Option (AV × Option Blk) := bif c_keptL args then u_keptL o args else none
theorem keptL_at : QuietAt Try.prog 23 (lav (g_keptL concS)) := by
  refine quietAt_of_runA X_hashR_ok (L := [(2, gKp)]) (keep := [0,1,4,5,9,17,18,19,20,21,22,23,24,25,28,29,30,31,32,33,34,35,36,37,38,39,40,41,42,43,44,45,46]) Try.func23 (c := bodyOf Try.f23) (by kernel_rfl) (by kernel_rfl) (kp_loops) fun args v h hw => ⟨200, ?_⟩
  unfold g_keptL at h
  have hg := (bif_some h).1
  replace h := (bif_some h).2
  unfold u_keptL at h
  split at h
  · rename_i a b
    replace hg : (keptOk a b) = true := hg
    rw [← h]
    refine (keptL_run concS a b).trans ?_
    rw [decide_eq_true ⟨rfl, rfl, rfl, (of_decide_eq_true hg).1, (of_decide_eq_true hg).2⟩, cond_true]
  · cases h
noncomputable def X_keptL (o : SOps) : Cx := { X_hashR o with O := addQ (X_hashR o).O 23 (lavG c_keptL (u_keptL o)) }
theorem X_keptL_ok : CxOK Try.prog (X_keptL concS) := { X_hashR_ok with quiet := addQ_ok X_hashR_ok.quiet (lavG_at keptL_at) }
/-! ### lent -/
def selL : List AV → Mem → Option (List (Option Nat) × Nat × Nat)
  | .slice id _ _ _ :: _, _ => some ([some id], 0, 0)
  | _, _ => none
noncomputable abbrev lnL : Func := Try.f21
structure S_ln where
  k : Nat
  m : Nat
  t : Int
  b : List Nat
  l : List Nat
def d_ln : LoopDefG S_ln where
  ts := [0, 4, 5]
  n := 3
  src0 := [2]
  srcN := [5]
  srcX := [3]
  E := fun s => [(0, .slice 0 0 s.k false), (4, .slice 3 0 s.m true), (5, .n s.t)]
  M := fun s => [⟨.bytes s.b, false⟩, dead, dead, ⟨.bytes s.l, true⟩]
  Mo := fun s => [⟨.bytes s.b, false⟩, dead, dead, ⟨.bytes s.l, true⟩]
  dec := fun vs mem => match vs, mem with
    | [.slice 0 0 k false, .slice 2 0 m true, .n t], [⟨.bytes b, false⟩, ⟨.cells [], false⟩, ⟨.bytes l, true⟩] => some ⟨k, m, t, b, l⟩
    | _, _ => none
  ok := fun vs mem s h => by
    split at h
    · cases h; exact ⟨rfl, gc_ok rfl rfl _ _ rfl rfl⟩
    · cases h
def lnV (t : Int) : Nat := (w64 (171 + t.tmod 60) % 256).toNat
def lnN (s : S_ln) : S_ln := { s with m := s.m + 1, t := w64 (s.t + 1), l := List.take s.m (List.drop 0 s.l) ++ [lnV s.t] }
theorem ln_step (o : SOps) (s : S_ln) : codeK (X_keptL o) [] lnL.ntmps [0,2,3,4,5,14] 60 (loopB (bodyOf lnL) 4) (d_ln.E s) (d_ln.M s) (outG d_ln.ts d_ln.n d_ln.srcN d_ln.srcX) =
    bif decide (s.t < 80) then (bif decide (0 + s.m ≤ s.l.length) then (bif decide (s.m + 1 ≤ maxRoom) then some (.normal, d_ln.E (lnN s), d_ln.M (lnN s)) else none) else none) else some (.exit 0, d_ln.E s, d_ln.M s) := by kernel_rfl
def gLn : LoopFn := d_ln.fn (fun s => decide (s.t = 0 ∧ s.m = s.l.length ∧ s.m + 80 ≤ maxRoom)) (.exit 0) (fun s => { s with m := s.m + 80, t := 80, l := s.l ++ marks 80 })
theorem ln_at : LoopAt Try.prog lnL.ntmps (loopB (bodyOf lnL) 4) gLn := by
  refine d_ln.loop (keep := [0,2,3,4,5,14]) X_keptL_ok LoopsOK.nil (by simp) fun s hg => ⟨80, fun i => { s with m := s.m + i, t := (i : Int), l := s.l ++ marks i }, ?_, .refl _, fun i hi => ⟨60, ?_⟩, 60, ?_⟩
  · obtain ⟨h1, h2⟩ := of_decide_eq_true hg
    cases s; simp_all [marks]
  · obtain ⟨h1, h2, h3⟩ := of_decide_eq_true hg
    refine (ln_step concS _).trans ?_
    have eN : lnN { s with m := s.m + i, t := (i : Int), l := s.l ++ marks i } = { s with m := s.m + (i + 1), t := ((i + 1 : Nat) : Int), l := s.l ++ marks (i + 1) } := by
      unfold lnN
      dsimp only
      have eV : lnV (i : Int) = 171 + i % 60 := by
        unfold lnV
        rw [Int.tmod_eq_emod_of_nonneg (by omega), w64_id (by omega) (by omega)]; omega
      rw [take_snoc (by rw [List.length_append, marks_len]; omega), eV, List.append_assoc, ← marks_succ, w64_id (by omega) (by omega)]; rfl
    rw [eN]
    dsimp only
    rw [decide_eq_true (by omega), cond_true, decide_eq_true (by rw [List.length_append, marks_len]; omega), cond_true, decide_eq_true (by omega), cond_true]
  · refine (ln_step concS _).trans ?_
    dsimp only
    rw [decide_eq_false (show ¬ ((80 : Nat) : Int) < 80 by omega), cond_false]
    rfl
theorem ln_loops : LoopsOK Try.prog lnL.ntmps [(4, gLn)] (bodyOf lnL) := loopsOK_cons LoopsOK.nil (by kernel_rfl) ln_at
def gLent : List AV → Mem → Option (Bool × AV × Mem)
  | [.slice 0 0 m false], [⟨.bytes b, false⟩] => some (decide (m = b.length ∧ m + 80 ≤ maxRoom), .tup [.slice 3 0 m true, .slice 3 0 (m + 80) true], [⟨.bytes b, false⟩, dead, dead, ⟨.bytes (b ++ marks 80), true⟩])
  | _, _ => none
def lnT (m : Nat) (b : List Nat) : Option (AV × Mem) :=
  gds [decide ((0 : Int) ≤ 0 ∧ 0 ≤ w64 ((m : Int) + 80) ∧ w64 ((m : Int) + 80) ≤ 281474976710656), decide (0 + m ≤ b.length), decide (0 + (List.take m (List.drop 0 b)).length ≤ maxRoom),
    decide ((0 : Int) = 0 ∧ 0 + (List.take m (List.drop 0 b)).length = (List.take m (List.drop 0 b)).length ∧ 0 + (List.take m (List.drop 0 b)).length + 80 ≤ maxRoom),
    decide (0 ≤ (m : Int) ∧ (m : Int) ≤ ((0 + (List.take m (List.drop 0 b)).length + 80 : Nat) : Int))]
   (some (.tup [.slice 3 0 ((m : Int).toNat - 0) true, .slice 3 0 (0 + (List.take m (List.drop 0 b)).length + 80) true], [⟨.bytes b, false⟩, dead, dead, ⟨.bytes (List.take m (List.drop 0 b) ++ marks 80), true⟩]))
theorem lent_run (o : SOps) (m : Nat) (b : List Nat) : runKL (X_keptL o) [(4, gLn)] [0,2,3,4,5,14] 100 lnL (bodyOf lnL) [.slice 0 0 m false] [⟨.bytes b, false⟩] (fun v m => some (v, m)) = lnT m b := by kernel_rfl
theorem lent_at : LoudAt Try.prog 21 (told gLent) := by
  refine told_at X_keptL_ok (keep := [0,2,3,4,5,14]) Try.func21 (c := bodyOf lnL) (by kernel_rfl) (by kernel_rfl) ln_loops fun ar mem cd v m h hc hw => ⟨100, ar, mem, _, .refl _, .refl _, ?_, (MemEq.refl _).w⟩
  unfold gLent at h
  split at h
  · rename_i k b
    cases h
    obtain ⟨rfl, h2⟩ := of_decide_eq_true hc
    refine (lent_run concS _ b).trans ?_
    have hm : maxRoom = 175921860444160 := rfl
    unfold lnT
    rw [List.drop_zero, List.take_length, w64_id (by omega) (by omega), gds_true, Nat.zero_add, Nat.sub_zero, Int.toNat_natCast]
    intro c hc
    simp only [List.mem_cons, List.not_mem_nil, or_false] at hc
    rcases hc with h | h | h | h | h
    · rw [h]; exact decide_eq_true ⟨by omega, by omega, by omega⟩
    · rw [h]; exact decide_eq_true (by omega)
    · rw [h]; exact decide_eq_true (by omega)
    · rw [h]; exact decide_eq_true ⟨trivial, by omega, by omega⟩
    · rw [h]; exact decide_eq_true ⟨by omega, by omega⟩
  · cases h
noncomputable def X_lent (o : SOps) : Cx := { X_keptL o with M := addM (X_keptL o).M 21 (frame selL (told gLent)) }
theorem X_lent_ok : CxOK Try.prog (X_lent concS) := { X_keptL_ok with loud := addM_ok X_keptL_ok.loud (frame_at lent_at) }
end Go.Proofs.Ytmhbhpmfbalbeaa

