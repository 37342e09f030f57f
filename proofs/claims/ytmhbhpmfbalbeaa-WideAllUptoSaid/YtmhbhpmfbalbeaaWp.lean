/- Contracts of the padding, of both. -/
import Derived.Test.YtmhbhpmfbalbeaaWd
import Derived.Test.YtmhbhpmfbalbeaaPwMg
import Derived.Test.YtmhbhpmfbalbeaaPwMe
namespace Go.Proofs.Ytmhbhpmfbalbeaa
open Go Pw Go.RowKit
theorem mulW2_run (o : SOps) (x : Nat) (y : Nat) : runNL (XS o) [] [0,1,4,5,6,7,8,9,10,11,12,13] 200 Try.f33 (bodyOf Try.f33) (laArgs [.v (.u .u64 x), .v (.u .u64 y)] 0) (laLists [.v (.u .u64 x), .v (.u .u64 y)]) = some (mul2V x y, none) := by
  kernel_rfl
def g_mulW2 (_ : SOps) (args : List LA) : Option (AV × Option Blk) := match args with
  | [.v x0, .v x1] => (match u64? x0, u64? x1 with
    | some x, some y => some (mul2V x y, none)
    | _, _ => none)
  | _ => none
theorem mulW2_at : QuietAt Try.prog 33 (lav (g_mulW2 concS)) := by
  refine quietAt_of_runA XS_ok (L := []) (keep := [0,1,4,5,6,7,8,9,10,11,12,13]) Try.func33 (c := bodyOf Try.f33) (by kernel_rfl) (by kernel_rfl) (LoopsOK.nil) fun args v h hw => ⟨200, ?_⟩
  unfold g_mulW2 at h
  split at h
  · rename_i x0 x1
    split at h
    · rename_i x y hh0 hh1
      have ehh0 := u64?_some hh0
      subst ehh0
      have ehh1 := u64?_some hh1
      subst ehh1
      rw [← h]
      refine (mulW2_run concS x y).trans ?_
      rfl
    · cases h
  · cases h
def X_mulW2 (o : SOps) : Cx := { XS o with O := addQ (XS o).O 33 (lav (g_mulW2 o)) }
theorem X_mulW2_ok : CxOK Try.prog (X_mulW2 concS) := { XS_ok with quiet := addQ_ok XS_ok.quiet mulW2_at }
/-! ### the program's Pad -/
noncomputable abbrev pdP : Func := Try.f11
structure S_pd where
  m : Nat
  z : Int
  hi : Nat
  lo : Nat
  t : Int
  l : List Nat
def d_pd : LoopDef S_pd where
  ts := [3, 4, 5, 6, 25]
  E := fun s => [(3, .n s.z), (4, .slice 0 0 s.m true), (5, .u .u64 s.hi), (6, .u .u64 s.lo), (25, .n s.t)]
  M := fun s => [⟨.bytes s.l, true⟩]
  dec := fun vs mem => match vs, mem with
    | [x3, .slice 0 0 m true, x5, x6, x25], [⟨.bytes l, true⟩] => (match int? x3, u64? x5, u64? x6, int? x25 with
      | some z, some hi, some lo, some t => some ⟨m, z, hi, lo, t, l⟩
      | _, _, _, _ => none)
    | _, _ => none
  ok := fun vs mem s h => by
    split at h
    · split at h
      · rename_i z hi lo t hh0 hh1 hh2 hh3
        have ehh0 := int?_some hh0
        subst ehh0
        have ehh1 := u64?_some hh1
        subst ehh1
        have ehh2 := u64?_some hh2
        subst ehh2
        have ehh3 := int?_some hh3
        subst ehh3
        cases h; exact ⟨rfl, rfl⟩
      · cases h
    · cases h
def gp {α : Type} (m : Nat) (l : List Nat) (i : Int) (x : Option α) : Option α := bif decide (0 ≤ i ∧ i < (m : Int)) then (bif decide (0 + i.toNat * 1 < l.length) then x else none) else none
def pdB (t : Int) : Int := w64 (56 - w64 (8 * t))
def pdI (s : S_pd) : Int := w64 (w64 (1 + s.z) + s.t)
def pdJ (s : S_pd) : Int := w64 (w64 (w64 (1 + s.z) + 8) + s.t)
def pdV (x : Nat) (t : Int) : Nat := x / 2 ^ (min (pdB t).toNat 64) % 2 ^ 8
def pdL (s : S_pd) : List Nat := s.l.set (0 + (pdI s).toNat * 1) (pdV s.hi s.t)
def pdN (s : S_pd) : S_pd := { s with t := w64 (s.t + 1), l := (pdL s).set (0 + (pdJ s).toNat * 1) (pdV s.lo s.t) }
theorem pd_step (o : SOps) (s : S_pd) : codeK (X_mulW2 o) [] pdP.ntmps [0,2,3,4,5,6,7,25,26] 60 (loopB (bodyOf pdP) 6) (d_pd.E s) (d_pd.M s) (outK d_pd.ts) =
    bif decide (s.t < 8) then (bif decide (0 ≤ pdB s.t) then (gp s.m s.l (pdI s) (bif decide (0 ≤ pdB s.t) then (gp s.m (pdL s) (pdJ s) (some (.normal, d_pd.E (pdN s), d_pd.M (pdN s)))) else none)) else none) else some (.exit 0, d_pd.E s, d_pd.M s) := by kernel_rfl
theorem gp_true {α : Type} {m : Nat} {l : List Nat} {i : Int} {x : Option α} (h0 : 0 ≤ i) (h1 : i < (m : Int)) (h2 : i.toNat < l.length) : gp m l i x = x := by
  unfold gp
  rw [decide_eq_true ⟨h0, h1⟩, cond_true, decide_eq_true (show 0 + i.toNat * 1 < l.length by omega), cond_true]
/- the state after i rounds: i bytes of each number -/
def gPd : LoopFn := d_pd.fn (fun s => decide (s.t = 0 ∧ 0 ≤ s.z ∧ s.z < 128 ∧ s.m = s.z.toNat + 17 ∧ s.l = pdT s.z.toNat s.hi s.lo 0)) (.exit 0) (fun s => { s with t := 8, l := pdT s.z.toNat s.hi s.lo 8 })
theorem pdB_nat {i : Nat} (h : i < 8) : pdB (i : Int) = ((56 - 8 * i : Nat) : Int) := by
  unfold pdB; rw [w64_id (x := 8 * (i : Int)) (by omega) (by omega), w64_id (by omega) (by omega)]; omega
theorem pd_at : LoopAt Try.prog pdP.ntmps (loopB (bodyOf pdP) 6) gPd := by
  refine d_pd.loop (keep := [0,2,3,4,5,6,7,25,26]) X_mulW2_ok LoopsOK.nil (by simp) fun s hg => ⟨8, fun i => { s with t := (i : Int), l := pdT s.z.toNat s.hi s.lo i }, ?_, fun i hi => ⟨60, ?_⟩, 60, ?_⟩
  · obtain ⟨h1, -, -, -, h5⟩ := of_decide_eq_true hg
    show S_pd.mk _ _ _ _ _ _ = _
    rw [← h5, show ((0 : Nat) : Int) = s.t from h1.symm]
  · obtain ⟨h1, h2, h3, h4, h5⟩ := of_decide_eq_true hg
    refine (pd_step concS _).trans ?_
    have hl : ∀ j, (pdT s.z.toNat s.hi s.lo j).length = s.z.toNat + 17 := fun j => pdT_len _ _ _ _
    have eI : pdI { s with t := (i : Int), l := pdT s.z.toNat s.hi s.lo i } = ((1 + s.z.toNat + i : Nat) : Int) := by
      unfold pdI; dsimp only; rw [w64_id (x := 1 + s.z) (by omega) (by omega), w64_id (by omega) (by omega)]; omega
    have eJ : pdJ { s with t := (i : Int), l := pdT s.z.toNat s.hi s.lo i } = ((1 + s.z.toNat + 8 + i : Nat) : Int) := by
      unfold pdJ; dsimp only; rw [w64_id (x := 1 + s.z) (by omega) (by omega), w64_id (x := 1 + s.z + 8) (by omega) (by omega), w64_id (by omega) (by omega)]; omega
    have eL : (pdL { s with t := (i : Int), l := pdT s.z.toNat s.hi s.lo i }).length = s.z.toNat + 17 := by
      unfold pdL; rw [List.length_set]; exact hl i
    have eN : pdN { s with t := (i : Int), l := pdT s.z.toNat s.hi s.lo i } = { s with t := ((i + 1 : Nat) : Int), l := pdT s.z.toNat s.hi s.lo (i + 1) } := by
      unfold pdN pdL
      rw [eI, eJ]
      dsimp only
      unfold pdV
      rw [pdB_nat hi, w64_id (by omega) (by omega), show ((56 - 8 * i : Nat) : Int).toNat = 56 - 8 * i by omega, show min (56 - 8 * i) 64 = 56 - 8 * i by omega, show 0 + ((1 + s.z.toNat + i : Nat) : Int).toNat * 1 = (s.z.toNat + i) + 1 by omega,
        show 0 + ((1 + s.z.toNat + 8 + i : Nat) : Int).toNat * 1 = (s.z.toNat + (8 + i)) + 1 by omega]
      rw [pdT_set hi]
      rfl
    rw [eN, eI, eJ, pdB_nat hi]
    dsimp only
    rw [decide_eq_true (by omega), cond_true, decide_eq_true (by omega), cond_true, gp_true (by omega) (by omega) (by rw [hl]; omega), cond_true, gp_true (by omega) (by omega) (by rw [eL]; omega)]
  · refine (pd_step concS _).trans ?_
    rw [decide_eq_false (show ¬ ((8 : Nat) : Int) < 8 by omega), cond_false]
    rfl
theorem pd_loops : LoopsOK Try.prog pdP.ntmps [(6, gPd)] (bodyOf pdP) := loopsOK_cons LoopsOK.nil (by kernel_rfl) pd_at
def zI (n : Nat) : Int := w64 ((((111 + (2 ^ 64 - n % 128)) % 2 ^ 64 + 128) % 2 ^ 64 % 128 : Nat) : Int)
def mI (n : Nat) : Int := w64 (w64 (1 + zI n) + 16)
def pdg (s : S_pd) : Bool := decide (s.t = 0 ∧ 0 ≤ s.z ∧ s.z < 128 ∧ s.m = s.z.toNat + 17 ∧ s.l = pdT s.z.toNat s.hi s.lo 0)
def padPT (n : Nat) : Option (AV × Option Blk) :=
  bif Nat.beq 1 1 && (Nat.beq 1 1 && decide (0 ≤ mI n ∧ mI n ≤ mI n ∧ mI n ≤ 281474976710656)) then
  bif decide ((0 : Int) ≤ 0 ∧ (0 : Int) < ((mI n).toNat : Int)) then
  bif decide (0 + Int.toNat 0 * 1 < (List.replicate (mI n).toNat 0).length) then
  bif pdg ⟨(mI n).toNat, zI n, mulHi n 8, mul64 n 8, 0, (List.replicate (mI n).toNat 0).set (0 + Int.toNat 0 * 1) 128⟩ then
  bif true && true && Nat.blt 0 (mI n).toNat then some (.slice 0 0 (mI n).toNat true, some ⟨.bytes (pdT (zI n).toNat (mulHi n 8) (mul64 n 8) 8), true⟩) else none else none else none else none else none
theorem padPT_eq {n : Nat} (hn : n < 18446744073709551616) : padPT n = some (.slice 0 0 (padL n).length true, some ⟨.bytes (padL n), true⟩) := by
  have hz : zI n = (padZ n : Int) := by
    unfold zI padZ
    rw [w64_id (by omega) (by omega)]
    congr 1
    omega
  have hzl : padZ n < 128 := Nat.mod_lt _ (by decide)
  have hm : mI n = ((padZ n + 17 : Nat) : Int) := by
    unfold mI
    rw [hz, w64_id (x := 1 + (padZ n : Int)) (by omega) (by omega), w64_id (by omega) (by omega)]
    omega
  have h1 : mulHi n 8 = n / 2 ^ 61 := by rw [mulHi_eq hn (by decide)]; omega
  have h2 : mul64 n 8 = n * 8 % 2 ^ 64 := rfl
  unfold padPT
  rw [hz, hm, h1, h2]
  have hg : pdg ⟨((padZ n + 17 : Nat) : Int).toNat, (padZ n : Int), n / 2 ^ 61, n * 8 % 2 ^ 64, 0, (List.replicate ((padZ n + 17 : Nat) : Int).toNat 0).set (0 + Int.toNat 0 * 1) 128⟩ = true := by
    unfold pdg
    refine decide_eq_true ⟨rfl, by dsimp only; omega, by dsimp only; omega, by dsimp only; omega, ?_⟩
    dsimp only
    rw [Int.toNat_natCast, Int.toNat_natCast]
    unfold pdT
    rw [show (0 + Int.toNat 0 * 1) = 0 from rfl, List.replicate_succ, List.set_cons_zero, show beW (n / 2 ^ 61) 0 = List.replicate 8 0 from rfl, show beW (n * 8 % 2 ^ 64) 0 = List.replicate 8 0 from rfl, List.replicate_append_replicate, List.replicate_append_replicate]
  rw [hg, Int.toNat_natCast, Int.toNat_natCast, decide_eq_true (by omega), decide_eq_true (by omega), decide_eq_true (by simp)]
  rw [padL_len, show Nat.blt 0 (padZ n + 17) = true by simp [Nat.blt]]
  rfl
theorem padP_run (o : SOps) (n : Nat) : runNL (X_mulW2 o) [(6, gPd)] [0,2,3,4,5,6,7,25,26] 200 Try.f11 (bodyOf Try.f11) (laArgs [.v (.u .u64 n)] 0) (laLists [.v (.u .u64 n)]) = padPT n := by
  kernel_rfl
def g_padP (_ : SOps) (args : List LA) : Option (AV × Option Blk) := match args with
  | [.v x0] => (match u64? x0 with
    | some n => some (.slice 0 0 (padL n).length true, some (⟨.bytes (padL n), true⟩))
    | _ => none)
  | _ => none
theorem padP_at : QuietAt Try.prog 11 (lav (g_padP concS)) := by
  refine quietAt_of_runA X_mulW2_ok (L := [(6, gPd)]) (keep := [0,2,3,4,5,6,7,25,26]) Try.func11 (c := bodyOf Try.f11) (by kernel_rfl) (by kernel_rfl) (pd_loops) fun args v h hw => ⟨200, ?_⟩
  unfold g_padP at h
  split at h
  · rename_i x0
    split at h
    · rename_i n hh0
      have ehh0 := u64?_some hh0
      subst ehh0
      rw [← h]
      refine (padP_run concS n).trans ?_
      exact padPT_eq (wf1.u64 (hw.val (a := .u .u64 n) (by simp [laArgs])))
    · cases h
  · cases h
def X_padP (o : SOps) : Cx := { X_mulW2 o with O := addQ (X_mulW2 o).O 11 (lav (g_padP o)) }
theorem X_padP_ok : CxOK Try.prog (X_padP concS) := { X_mulW2_ok with quiet := addQ_ok X_mulW2_ok.quiet padP_at }
end Go.Proofs.Ytmhbhpmfbalbeaa

