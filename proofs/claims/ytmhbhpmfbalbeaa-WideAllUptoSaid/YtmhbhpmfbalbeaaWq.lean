/- Contract of the document's padding. -/
import Derived.Test.YtmhbhpmfbalbeaaWp
namespace Go.Proofs.Ytmhbhpmfbalbeaa
open Go Pw Go.RowKit
noncomputable abbrev pdR : Func := Try.f12
theorem gc_ok {n : Nat} {src : List Nat} {E0 E1 : Env} {m M0 M1 : Mem} (h1 : m = M0) (h2 : gcK n src E0 M0 = some (E1, M1)) (E : Env) (M : Mem) (hE : E1 = E) (hM : M1 = M) : ∃ M0 E2 M2, MemEq m M0 ∧ gcK n src E0 M0 = some (E2, M2) ∧ E2 = E ∧ MemEq M2 M :=
  ⟨M0, E1, M1, .of_eq h1, h2, hE, .of_eq hM⟩
/-! ### the zeros -/
structure S_r1 where
  n : Nat
  m : Nat
  l : List Nat
def d_r1 : LoopDefG S_r1 where
  ts := [0, 3]
  n := 1
  src0 := [0]
  srcN := [3]
  srcX := [1]
  E := fun s => [(0, .u .u64 s.n), (3, .slice 1 0 s.m true)]
  M := fun s => [dead, ⟨.bytes s.l, true⟩]
  Mo := fun s => [dead, ⟨.bytes s.l, true⟩]
  dec := fun vs mem => match vs, mem with
    | [.u .u64 n, .slice 0 0 m true], [⟨.bytes l, true⟩] => some ⟨n, m, l⟩
    | _, _ => none
  ok := fun vs mem s h => by
    split at h
    · cases h; exact ⟨rfl, gc_ok rfl rfl _ _ rfl rfl⟩
    · cases h
def r1N (s : S_r1) : S_r1 := { s with m := s.m + 1, l := List.take s.m (List.drop 0 s.l) ++ [0] }
theorem r1_step (o : SOps) (s : S_r1) : codeK (X_padP o) [] pdR.ntmps [0,2,3,4,5,15,20,33] 60 (loopB (bodyOf pdR) 2) (d_r1.E s) (d_r1.M s) (outG d_r1.ts d_r1.n d_r1.srcN d_r1.srcX) =
    bif !decide (((s.n % 128 + s.m % 18446744073709551616) % 2 ^ 64 + 16) % 2 ^ 64 % 128 = 0) then (bif decide (0 + s.m ≤ s.l.length) then (bif decide (s.m + 1 ≤ maxRoom) then some (.normal, d_r1.E (r1N s), d_r1.M (r1N s)) else none) else none) else some (.exit 0, d_r1.E s, d_r1.M s) := by kernel_rfl
def gR1 : LoopFn := d_r1.fn (fun s => decide (s.m = 1 ∧ s.l = [128])) (.exit 0) (fun s => { s with m := 1 + padZ s.n, l := 128 :: List.replicate (padZ s.n) 0 })
theorem take_snoc {l : List Nat} {m : Nat} (h : l.length = m) (x : Nat) : List.take m (List.drop 0 l) ++ [x] = l ++ [x] := by
  rw [List.drop_zero, List.take_of_length_le (by omega)]
theorem r1_at : LoopAt Try.prog pdR.ntmps (loopB (bodyOf pdR) 2) gR1 := by
  refine d_r1.loop (keep := [0,2,3,4,5,15,20,33]) X_padP_ok LoopsOK.nil (by simp) fun s hg => ⟨padZ s.n, fun i => { s with m := 1 + i, l := 128 :: List.replicate i 0 }, ?_, .refl _, fun i hi => ⟨60, ?_⟩, 60, ?_⟩
  · obtain ⟨h1, h2⟩ := of_decide_eq_true hg
    cases s; simp_all
  · have hz : padZ s.n < 128 := Nat.mod_lt _ (by decide)
    refine (r1_step concS _).trans ?_
    have eN : r1N { s with m := 1 + i, l := 128 :: List.replicate i 0 } = { s with m := 1 + (i + 1), l := 128 :: List.replicate (i + 1) 0 } := by
      unfold r1N
      dsimp only
      rw [take_snoc (by simp; omega), List.cons_append, ← List.replicate_succ', Nat.add_assoc]
    rw [eN]
    dsimp only
    unfold padZ at hi
    rw [decide_eq_false (show ¬ ((s.n % 128 + (1 + i) % 18446744073709551616) % 2 ^ 64 + 16) % 2 ^ 64 % 128 = 0 by omega), Bool.not_false, cond_true, decide_eq_true (by simp; omega), cond_true, decide_eq_true (by unfold maxRoom; omega), cond_true]
  · refine (r1_step concS _).trans ?_
    dsimp only
    rw [decide_eq_true (show ((s.n % 128 + (1 + padZ s.n) % 18446744073709551616) % 2 ^ 64 + 16) % 2 ^ 64 % 128 = 0 by unfold padZ; omega), Bool.not_true, cond_false]
/-! ### seven zeros more -/
structure S_r2 where
  n : Nat
  m : Nat
  t : Int
  l : List Nat
def d_r2 : LoopDefG S_r2 where
  ts := [0, 3, 4]
  n := 2
  src0 := [1]
  srcN := [4]
  srcX := [2]
  E := fun s => [(0, .u .u64 s.n), (3, .slice 2 0 s.m true), (4, .n s.t)]
  M := fun s => [dead, dead, ⟨.bytes s.l, true⟩]
  Mo := fun s => [dead, dead, ⟨.bytes s.l, true⟩]
  dec := fun vs mem => match vs, mem with
    | [.u .u64 n, .slice 1 0 m true, .n t], [⟨.cells [], false⟩, ⟨.bytes l, true⟩] => some ⟨n, m, t, l⟩
    | _, _ => none
  ok := fun vs mem s h => by
    split at h
    · cases h; exact ⟨rfl, gc_ok rfl rfl _ _ rfl rfl⟩
    · cases h
def r2N (s : S_r2) : S_r2 := { s with m := s.m + 1, t := w64 (s.t + 1), l := List.take s.m (List.drop 0 s.l) ++ [0] }
theorem r2_step (o : SOps) (s : S_r2) : codeK (X_padP o) [] pdR.ntmps [0,2,3,4,5,15,20,33] 60 (loopB (bodyOf pdR) 5) (d_r2.E s) (d_r2.M s) (outG d_r2.ts d_r2.n d_r2.srcN d_r2.srcX) =
    bif decide (s.t < 7) then (bif decide (0 + s.m ≤ s.l.length) then (bif decide (s.m + 1 ≤ maxRoom) then some (.normal, d_r2.E (r2N s), d_r2.M (r2N s)) else none) else none) else some (.exit 2, d_r2.E s, d_r2.M s) := by kernel_rfl
def gR2 : LoopFn := d_r2.fn (fun s => decide (s.t = 0 ∧ s.m = s.l.length ∧ s.m ≤ 1000)) (.exit 2) (fun s => { s with m := s.m + 7, t := 7, l := s.l ++ List.replicate 7 0 })
theorem r2_at : LoopAt Try.prog pdR.ntmps (loopB (bodyOf pdR) 5) gR2 := by
  refine d_r2.loop (keep := [0,2,3,4,5,15,20,33]) X_padP_ok LoopsOK.nil (by simp) fun s hg => ⟨7, fun i => { s with m := s.m + i, t := (i : Int), l := s.l ++ List.replicate i 0 }, ?_, .refl _, fun i hi => ⟨60, ?_⟩, 60, ?_⟩
  · obtain ⟨h1, h2⟩ := of_decide_eq_true hg
    cases s; simp_all
  · obtain ⟨h1, h2, h3⟩ := of_decide_eq_true hg
    refine (r2_step concS _).trans ?_
    have eN : r2N { s with m := s.m + i, t := (i : Int), l := s.l ++ List.replicate i 0 } = { s with m := s.m + (i + 1), t := ((i + 1 : Nat) : Int), l := s.l ++ List.replicate (i + 1) 0 } := by
      unfold r2N
      dsimp only
      rw [take_snoc (by simp; omega), List.append_assoc, ← List.replicate_succ', Nat.add_assoc, w64_id (by omega) (by omega)]
      rfl
    rw [eN]
    dsimp only
    rw [decide_eq_true (by omega), cond_true, decide_eq_true (by simp; omega), cond_true, decide_eq_true (by unfold maxRoom; omega), cond_true]
  · refine (r2_step concS _).trans ?_
    dsimp only
    rw [decide_eq_false (show ¬ ((7 : Nat) : Int) < 7 by omega), cond_false]
    rfl
/-! ### eight bytes of 8 n -/
structure S_r3 where
  n : Nat
  m : Nat
  t : Int
  x : List Nat
  l : List Nat
def d_r3 : LoopDefG S_r3 where
  ts := [0, 3, 5]
  n := 5
  src0 := [4]
  srcN := [7]
  srcX := [5]
  E := fun s => [(0, .u .u64 s.n), (3, .slice 5 0 s.m true), (5, .n s.t)]
  M := fun s => [dead, dead, dead, ⟨.bytes s.x, true⟩, dead, ⟨.bytes s.l, true⟩]
  Mo := fun s => [dead, dead, dead, ⟨.bytes s.x, true⟩, dead, ⟨.bytes s.l, true⟩]
  dec := fun vs mem => match vs, mem with
    | [.u .u64 n, .slice 4 0 m true, .n t], [⟨.cells [], false⟩, ⟨.cells [], false⟩, ⟨.cells [], false⟩, ⟨.bytes x, true⟩, ⟨.bytes l, true⟩] => some ⟨n, m, t, x, l⟩
    | _, _ => none
  ok := fun vs mem s h => by
    split at h
    · cases h; exact ⟨rfl, gc_ok rfl rfl _ _ rfl rfl⟩
    · cases h
def r3V (n : Nat) (t : Int) : Nat := n * 8 % 2 ^ 64 / 2 ^ (min (pdB t).toNat 64) % 2 ^ 8
def r3N (s : S_r3) : S_r3 := { s with m := s.m + 1, t := w64 (s.t + 1), l := List.take s.m (List.drop 0 s.l) ++ [r3V s.n s.t] }
theorem r3_step (o : SOps) (s : S_r3) : codeK (X_padP o) [] pdR.ntmps [0,2,3,4,5,15,20,33] 60 (loopB (bodyOf pdR) 10) (d_r3.E s) (d_r3.M s) (outG d_r3.ts d_r3.n d_r3.srcN d_r3.srcX) =
    bif decide (s.t < 8) then (bif decide (0 ≤ pdB s.t) then (bif decide (0 + s.m ≤ s.l.length) then (bif decide (s.m + 1 ≤ maxRoom) then some (.normal, d_r3.E (r3N s), d_r3.M (r3N s)) else none) else none) else none) else some (.exit 4, d_r3.E s, d_r3.M s) := by kernel_rfl
def beT (x i : Nat) : List Nat := (List.range i).map fun j => x / 2 ^ (56 - 8 * j) % 2 ^ 8
theorem beT_succ (x i : Nat) : beT x (i + 1) = beT x i ++ [x / 2 ^ (56 - 8 * i) % 2 ^ 8] := by unfold beT; rw [List.range_succ, List.map_append]; rfl
theorem beT_len (x i : Nat) : (beT x i).length = i := by unfold beT; simp
theorem beT_be8 (x : Nat) : beT x 8 = be8 x := rfl
def gR3 : LoopFn := d_r3.fn (fun s => decide (s.t = 0 ∧ s.m = s.l.length ∧ s.m ≤ 1000)) (.exit 4) (fun s => { s with m := s.m + 8, t := 8, l := s.l ++ beT (s.n * 8 % 2 ^ 64) 8 })
theorem r3_at : LoopAt Try.prog pdR.ntmps (loopB (bodyOf pdR) 10) gR3 := by
  refine d_r3.loop (keep := [0,2,3,4,5,15,20,33]) X_padP_ok LoopsOK.nil (by simp) fun s hg => ⟨8, fun i => { s with m := s.m + i, t := (i : Int), l := s.l ++ beT (s.n * 8 % 2 ^ 64) i }, ?_, .refl _, fun i hi => ⟨60, ?_⟩, 60, ?_⟩
  · obtain ⟨h1, h2⟩ := of_decide_eq_true hg
    cases s; simp_all [beT]
  · obtain ⟨h1, h2, h3⟩ := of_decide_eq_true hg
    refine (r3_step concS _).trans ?_
    have eN : r3N { s with m := s.m + i, t := (i : Int), l := s.l ++ beT (s.n * 8 % 2 ^ 64) i } = { s with m := s.m + (i + 1), t := ((i + 1 : Nat) : Int), l := s.l ++ beT (s.n * 8 % 2 ^ 64) (i + 1) } := by
      unfold r3N r3V
      dsimp only
      rw [take_snoc (by simp [beT_len]; omega), List.append_assoc, beT_succ, Nat.add_assoc, w64_id (by omega) (by omega), pdB_nat hi, Int.toNat_natCast, Nat.min_eq_left (by omega)]
      rfl
    rw [eN]
    dsimp only
    rw [pdB_nat hi, decide_eq_true (by omega), cond_true, decide_eq_true (by omega), cond_true, decide_eq_true (by simp [beT_len]; omega), cond_true, decide_eq_true (by unfold maxRoom; omega), cond_true]
  · refine (r3_step concS _).trans ?_
    dsimp only
    rw [decide_eq_false (show ¬ ((8 : Nat) : Int) < 8 by omega), cond_false]
    rfl
theorem pr_loops : LoopsOK Try.prog pdR.ntmps [(2, gR1), (5, gR2), (10, gR3)] (bodyOf pdR) := loopsOK_cons (loopsOK_cons (loopsOK_cons LoopsOK.nil (by kernel_rfl) r3_at) (by kernel_rfl) r2_at) (by kernel_rfl) r1_at
def prM (n : Nat) : Nat := 1 + padZ n + 7
def prL (n : Nat) : List Nat := (128 :: List.replicate (padZ n) 0) ++ List.replicate 7 0
def prK (n : Nat) : List Nat := List.take (prM n) (List.drop 0 (prL n)) ++ [n / 2 ^ (min 61 64) % 2 ^ 8]
def padRT (n : Nat) : Option (AV × Option Blk) :=
  bif decide ((0 : Int) = 0 ∧ 1 + padZ n = (128 :: List.replicate (padZ n) 0).length ∧ 1 + padZ n ≤ 1000) then
  bif decide (0 + prM n ≤ (prL n).length) then
  bif decide (prM n + 1 ≤ maxRoom) then
  bif decide ((0 : Int) = 0 ∧ prM n + 1 = (prK n).length ∧ prM n + 1 ≤ 1000) then some (.slice 0 0 (prM n + 1 + 8) true, some ⟨.bytes (prK n ++ beT (n * 8 % 2 ^ 64) 8), true⟩)
  else none else none else none else none
theorem be8_low {x : Nat} (h : x < 256) : be8 x = List.replicate 7 0 ++ [x % 2 ^ 8] := by
  show [x / 2 ^ 56 % 2 ^ 8, x / 2 ^ 48 % 2 ^ 8, x / 2 ^ 40 % 2 ^ 8, x / 2 ^ 32 % 2 ^ 8, x / 2 ^ 24 % 2 ^ 8, x / 2 ^ 16 % 2 ^ 8, x / 2 ^ 8 % 2 ^ 8, x / 2 ^ 0 % 2 ^ 8] = [0, 0, 0, 0, 0, 0, 0, x % 2 ^ 8]
  rw [Nat.div_eq_of_lt (show x < 2 ^ 56 by omega), Nat.div_eq_of_lt (show x < 2 ^ 48 by omega), Nat.div_eq_of_lt (show x < 2 ^ 40 by omega), Nat.div_eq_of_lt (show x < 2 ^ 32 by omega), Nat.div_eq_of_lt (show x < 2 ^ 24 by omega), Nat.div_eq_of_lt (show x < 2 ^ 16 by omega), Nat.div_eq_of_lt (show x < 2 ^ 8 by omega), Nat.pow_zero, Nat.div_one]
theorem padRT_eq {n : Nat} (hn : n < 18446744073709551616) : padRT n = some (.slice 0 0 (padL n).length true, some ⟨.bytes (padL n), true⟩) := by
  have hz : padZ n < 128 := Nat.mod_lt _ (by decide)
  have hl : (prL n).length = prM n := by unfold prL prM; simp; omega
  have hk : prK n = prL n ++ [n / 2 ^ 61 % 2 ^ 8] := by
    unfold prK
    rw [take_snoc hl, show min 61 64 = 61 by decide]
  have e : prK n ++ beT (n * 8 % 2 ^ 64) 8 = padL n := by
    rw [hk, beT_be8]
    unfold padL pdT prL
    rw [show beW (n / 2 ^ 61) 8 = List.replicate 7 0 ++ [n / 2 ^ 61 % 2 ^ 8] from be8_low (by omega)]
    simp [be8]
  have hkl : (prK n).length = prM n + 1 := by rw [hk, List.length_append, hl]; rfl
  unfold padRT
  rw [e, decide_eq_true (by refine ⟨rfl, by simp; omega, by omega⟩), cond_true, decide_eq_true (by omega), cond_true, decide_eq_true (by unfold maxRoom prM; omega), cond_true, decide_eq_true ⟨rfl, by omega, by unfold prM; omega⟩, cond_true, padL_len, show prM n + 1 + 8 = padZ n + 17 by unfold prM; omega]
theorem padR_run (o : SOps) (n : Nat) : runNL (X_padP o) [(2, gR1), (5, gR2), (10, gR3)] [0,2,3,4,5,15,20,33] 200 Try.f12 (bodyOf Try.f12) (laArgs [.v (.u .u64 n)] 0) (laLists [.v (.u .u64 n)]) = padRT n := by
  kernel_rfl
def g_padR (_ : SOps) (args : List LA) : Option (AV × Option Blk) := match args with
  | [.v x0] => (match u64? x0 with
    | some n => some (.slice 0 0 (padL n).length true, some (⟨.bytes (padL n), true⟩))
    | _ => none)
  | _ => none
theorem padR_at : QuietAt Try.prog 12 (lav (g_padR concS)) := by
  refine quietAt_of_runA X_padP_ok (L := [(2, gR1), (5, gR2), (10, gR3)]) (keep := [0,2,3,4,5,15,20,33]) Try.func12 (c := bodyOf Try.f12) (by kernel_rfl) (by kernel_rfl) (pr_loops) fun args v h hw => ⟨200, ?_⟩
  unfold g_padR at h
  split at h
  · rename_i x0
    split at h
    · rename_i n hh0
      have ehh0 := u64?_some hh0
      subst ehh0
      rw [← h]
      refine (padR_run concS n).trans ?_
      exact padRT_eq (wf1.u64 (hw.val (a := .u .u64 n) (by simp [laArgs])))
    · cases h
  · cases h
def X_padR (o : SOps) : Cx := { X_padP o with O := addQ (X_padP o).O 12 (lav (g_padR o)) }
theorem X_padR_ok : CxOK Try.prog (X_padR concS) := { X_padP_ok with quiet := addQ_ok X_padP_ok.quiet padR_at }
end Go.Proofs.Ytmhbhpmfbalbeaa

