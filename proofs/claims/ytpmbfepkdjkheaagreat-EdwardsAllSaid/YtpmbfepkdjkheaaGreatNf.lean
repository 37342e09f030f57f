/- Contracts of the numbers modulo the order, of the document (3): products. -/
import Derived.Test.YtpmbfepkdjkheaaGreatNe
namespace Go.Proofs.YtpmbfepkdjkheaaGreat
open Go Pw Go.RowKit
/-! ### Mul -/
noncomputable abbrev mrL : Func := Tryz.f67
structure S_mi where
  a4 : AV
  a6 : AV
  a7 : AV
  x : Nat
  t : Int
  a : List Nat
  B1 : Blk
  B2 : Blk
  s : List Nat
  B4 : Blk
def d_mi : LoopDef S_mi where
  ts := [2, 4, 5, 6, 7, 8, 9]
  E := fun s => [(2, .ptr 0 0), (4, s.a4), (5, .ptr 3 0), (6, s.a6), (7, s.a7), (8, .u .u8 s.x), (9, .n s.t)]
  M := fun s => [bk (d16V s.a), s.B1, s.B2, bk (d16V s.s), s.B4]
  dec := fun vs mem => match vs, mem with
    | [.ptr 0 0, a4, .ptr 3 0, a6, a7, x8, x9], [B0, B1, B2, B3, B4] => (match u8? x8, int? x9, d16? (unbk B0), d16? (unbk B3) with
      | some x, some t, some a, some s => some ⟨a4, a6, a7, x, t, a, B1, B2, s, B4⟩
      | _, _, _, _ => none)
    | _, _ => none
  ok := fun vs mem s h => by
    split at h
    · split at h
      · rename_i x t a s hh0 hh1 hh2 hh3
        have ehh0 := u8?_some hh0
        subst ehh0
        have ehh1 := int?_some hh1
        subst ehh1
        have ehh2 := unbk_some (d16?_some hh2)
        subst ehh2
        have ehh3 := unbk_some (d16?_some hh3)
        subst ehh3
        cases h; exact ⟨rfl, rfl⟩
      · cases h
    · cases h
def miW (z : S_mi) (l : List Nat) : S_mi := { z with t := w64 (z.t + 1), s := l, x := z.x % 128 * 2 % 2 ^ 8 }
theorem mi_step (d : DOps) (z : S_mi) : codeK (X_dReduce d) [] mrL.ntmps [0,1,2,3,4,5,6,7,8,9,13,20,27] 60 (loopB (bodyOf mrL) 8) (d_mi.E z) (d_mi.M z) (outK d_mi.ts) =
    brn (decide (z.t < 8)) (brn (decide (128 ≤ z.x)) (some (.normal, d_mi.E (miW z (d.add (resp 16 (d.add (resp 16 z.s) (resp 16 z.s))) (resp 16 z.a))), d_mi.M (miW z (d.add (resp 16 (d.add (resp 16 z.s) (resp 16 z.s))) (resp 16 z.a)))))
      (some (.normal, d_mi.E (miW z (d.add (resp 16 z.s) (resp 16 z.s))), d_mi.M (miW z (d.add (resp 16 z.s) (resp 16 z.s)))))) (some (.exit 2, d_mi.E z, d_mi.M z)) := by kernel_rfl
def miI (d : DOps) (z : S_mi) (n : Nat) : S_mi := { z with t := (n : Int), s := (dRn d z.a (z.s, z.x) n).1, x := (dRn d z.a (z.s, z.x) n).2 }
def gMi (d : DOps) : LoopFn := d_mi.fn (fun z => decide (z.t = 0)) (.exit 2) (fun z => { z with t := 8, s := (dRn d z.a (z.s, z.x) 8).1, x := (dRn d z.a (z.s, z.x) 8).2 })
theorem miI_zero (d : DOps) (z : S_mi) (h : z.t = 0) : miI d z 0 = z := by
  unfold miI dRn
  rw [show ((0 : Nat) : Int) = z.t by rw [h]; rfl]
theorem miI_succ (d : DOps) (z : S_mi) {n : Nat} (hn : n < 8) : miW (miI d z n) (dRound d z.a (miI d z n).s (miI d z n).x) = miI d z (n + 1) := by
  have e : w64 ((miI d z n).t + 1) = ((n + 1 : Nat) : Int) := by
    show w64 ((n : Int) + 1) = _
    rw [w64_id (by omega) (by omega)]; rfl
  unfold miW
  rw [e]; rfl
theorem mi_at : LoopAt Tryz.prog mrL.ntmps (loopB (bodyOf mrL) 8) (gMi concD) := by
  refine d_mi.loop (keep := [0,1,2,3,4,5,6,7,8,9,13,20,27]) X_dReduce_ok LoopsOK.nil (by simp) fun z hg => ⟨8, miI concD z, ?_, fun n hn => ⟨60, ?_⟩, 60, ?_⟩
  · exact miI_zero _ z (of_decide_eq_true hg)
  · refine (mi_step concD _).trans ?_
    rw [show (miI concD z n).a = z.a from rfl, round_branch (fun l => some (Ex.normal, d_mi.E (miW (miI concD z n) l), d_mi.M (miW (miI concD z n) l))), miI_succ _ _ hn, show (miI concD z n).t = (n : Int) from rfl, decide_eq_true (by omega), brn_eq, cond_true]
  · refine (mi_step concD _).trans ?_
    rw [show (miI concD z 8).t = ((8 : Nat) : Int) from rfl, decide_eq_false (by omega), brn_eq, cond_false]
    rfl
theorem mi_loops : LoopsOK Tryz.prog mrL.ntmps [(8, gMi concD)] (loopB (bodyOf mrL) 4) := loopsOK_cons LoopsOK.nil (by kernel_rfl) mi_at
structure S_mo where
  i : Int
  a : List Nat
  B1 : Blk
  B2 : Blk
  s : List Nat
  k : List Nat
def d_mo : LoopDef2 S_mo where
  ts := [2, 4, 5, 6, 7]
  E := fun z => [(2, .ptr 0 0), (4, .ptr 2 0), (5, .ptr 3 0), (6, .ptr 4 0), (7, .n z.i)]
  M := fun z => [bk (d16V z.a), z.B1, z.B2, bk (d16V z.s), ⟨.ints .u8 z.k, true⟩]
  Mo := fun z => [bk (d16V z.a), z.B1, z.B2, bk (d16V z.s), ⟨.ints .u8 z.k, true⟩]
  dec := fun vs mem => match vs, mem with
    | [.ptr 0 0, .ptr 2 0, .ptr 3 0, .ptr 4 0, .n i], [A, B1, B2, S, ⟨c, true⟩] => (match d16? (unbk A), d16? (unbk S), blkInts .u8 ⟨c, true⟩ with
      | some a, some s, some k => some ⟨i, a, B1, B2, s, k⟩
      | _, _, _ => none)
    | _, _ => none
  ok := fun vs mem s h => by
    split at h
    · split at h
      · rename_i a s k h1 h2 h3
        have e1 := unbk_some (d16?_some h1)
        have e2 := unbk_some (d16?_some h2)
        subst e1 e2
        cases h
        exact ⟨rfl, .cons (.refl _) (.cons (.refl _) (.cons (.refl _) (.cons (.refl _) (.cons (blkInts_some h3) .nil))))⟩
      · cases h
    · cases h
def moX (z : S_mo) : Nat := 0 + z.i.toNat * 1
def moN (d : DOps) (z : S_mo) : S_mo := { z with i := w64 (z.i - 1), s := byteR d (resp 16 z.a) z.s (z.k.getD (moX z) 0) }
theorem mo_step (d : DOps) (z : S_mo) : codeK (X_dReduce d) [(8, gMi d)] mrL.ntmps [0,1,2,3,4,5,6,7,8,9,13,20,27] 60 (loopB (bodyOf mrL) 4) (d_mo.E z) (d_mo.M z) (outK d_mo.ts) =
    brn (decide (0 ≤ z.i)) (brn (decide (0 ≤ z.i ∧ z.i < 32)) (brn (decide (moX z < z.k.length)) (some (.normal, d_mo.E (moN d z), d_mo.M (moN d z))) none) none) (some (.exit 0, d_mo.E z, d_mo.M z)) := by kernel_rfl
def gMo (d : DOps) : LoopFn := d_mo.fn (fun z => decide (z.i = 31 ∧ z.k.length = 32)) (.exit 0) (fun z => { z with i := -1, s := redD d (resp 16 z.a) z.s z.k })
def moI (d : DOps) (z : S_mo) (j : Nat) : S_mo := { z with i := 31 - (j : Int), s := redD d (resp 16 z.a) z.s (z.k.drop (32 - j)) }
theorem moI_zero (d : DOps) (z : S_mo) (h1 : z.i = 31) (h2 : z.k.length = 32) : moI d z 0 = z := by
  have e1 : (31 : Int) - ((0 : Nat) : Int) = z.i := by omega
  have e2 : z.k.drop (32 - 0) = [] := List.drop_of_length_le (by omega)
  unfold moI
  rw [e1, e2]
  rfl
theorem moI_succ (d : DOps) (z : S_mo) (h2 : z.k.length = 32) {j : Nat} (hj : j < 32) : moX (moI d z j) = 32 - (j + 1) ∧ moN d (moI d z j) = moI d z (j + 1) := by
  have ei : (moI d z j).i = 31 - (j : Int) := rfl
  have hX : moX (moI d z j) = 32 - (j + 1) := by unfold moX; rw [ei]; omega
  refine ⟨hX, ?_⟩
  have e1 : w64 ((moI d z j).i - 1) = 31 - ((j + 1 : Nat) : Int) := by rw [ei, w64_id (by omega) (by omega)]; omega
  have e2 : byteR d (resp 16 (moI d z j).a) (moI d z j).s ((moI d z j).k.getD (32 - (j + 1)) 0) = redD d (resp 16 z.a) z.s (z.k.drop (32 - (j + 1))) := by
    show byteR d (resp 16 z.a) (redD d (resp 16 z.a) z.s (z.k.drop (32 - j))) (z.k.getD (32 - (j + 1)) 0) = _
    have := drop_pred (l := z.k) (k := j) (by omega)
    rw [h2] at this
    rw [this]; rfl
  show { moI d z j with i := w64 ((moI d z j).i - 1), s := byteR d (resp 16 (moI d z j).a) (moI d z j).s ((moI d z j).k.getD (moX (moI d z j)) 0) } = moI d z (j + 1)
  rw [hX, e1, e2]; rfl
theorem moI_end (d : DOps) (z : S_mo) : moI d z 32 = { z with i := -1, s := redD d (resp 16 z.a) z.s z.k } := by
  unfold moI
  rw [Nat.sub_self, List.drop_zero, show (31 : Int) - ((32 : Nat) : Int) = -1 by omega]
theorem mo_at : LoopAt Tryz.prog mrL.ntmps (loopB (bodyOf mrL) 4) (gMo concD) := by
  refine d_mo.loop (keep := [0,1,2,3,4,5,6,7,8,9,13,20,27]) X_dReduce_ok mi_loops (by simp) fun z hg => ⟨32, moI concD z, ?_, .refl _, fun j hj => ⟨60, ?_⟩, 60, ?_⟩
  · obtain ⟨h1, h2⟩ := of_decide_eq_true hg
    exact moI_zero _ z h1 h2
  · obtain ⟨h1, h2⟩ := of_decide_eq_true hg
    obtain ⟨hX, hN⟩ := moI_succ concD z h2 hj
    refine (mo_step concD _).trans ?_
    have ei : (moI concD z j).i = 31 - (j : Int) := rfl
    have ek : (moI concD z j).k.length = 32 := h2
    rw [hN, ei, hX, ek, decide_eq_true (by omega), decide_eq_true (by omega), decide_eq_true (by omega), brn_eq, brn_eq, brn_eq, cond_true, cond_true, cond_true]
  · refine (mo_step concD _).trans ?_
    rw [show (moI concD z 32).i = 31 - ((32 : Nat) : Int) from rfl, decide_eq_false (by omega), brn_eq, cond_false, moI_end]
theorem mr_loops : LoopsOK Tryz.prog mrL.ntmps [(4, gMo concD)] (bodyOf mrL) := loopsOK_cons LoopsOK.nil (by kernel_rfl) mo_at
theorem dMul_run (d : DOps) (a : List Nat) (b : List Nat) : runNL (X_dReduce d) [(4, gMo d)] [0,1,2,3,4,5,6,7,8,9,13,20,27] 200 Tryz.f67 (bodyOf Tryz.f67) (laArgs [.v (d16V a), .v (d16V b)] 0) (laLists [.v (d16V a), .v (d16V b)]) = some (d16V (redD d (resp 16 (resp 16 a)) (resp 16 zeroD) (bytD (resp 16 b)).toList), none) := by
  kernel_rfl
def g_dMul (d : DOps) (args : List LA) : Option (AV × Option Blk) := match args with
  | [.v x0, .v x1] => (match d16? x0, d16? x1 with
    | some a, some b => some (d16V (redD d (resp 16 (resp 16 a)) (resp 16 zeroD) (bytD (resp 16 b)).toList), none)
    | _, _ => none)
  | _ => none
theorem dMul_at : QuietAt Tryz.prog 67 (lav (g_dMul concD)) := by
  refine quietAt_of_runA X_dReduce_ok (L := [(4, gMo concD)]) (keep := [0,1,2,3,4,5,6,7,8,9,13,20,27]) Tryz.func67 (c := bodyOf Tryz.f67) (by kernel_rfl) (by kernel_rfl) (mr_loops) fun args v h hw => ⟨200, ?_⟩
  unfold g_dMul at h
  split at h
  · rename_i x0 x1
    split at h
    · rename_i a b hh0 hh1
      have ehh0 := d16?_some hh0
      subst ehh0
      have ehh1 := d16?_some hh1
      subst ehh1
      rw [← h]
      refine (dMul_run concD a b).trans ?_
      rfl
    · cases h
  · cases h
noncomputable def X_dMul (d : DOps) : Cx := { X_dReduce d with O := addQ (X_dReduce d).O 67 (lav (g_dMul d)) }
theorem X_dMul_ok : CxOK Tryz.prog (X_dMul concD) := { X_dReduce_ok with quiet := addQ_ok X_dReduce_ok.quiet dMul_at }
def wholeC (d : DOps) (k : K32) : Bool := keyEq (bytD (resp 16 (redD d oneD zeroD k.toList))) k
theorem dWhole_run (d : DOps) (k : K32) : runNL (X_dMul d) [] [0,1,2,3,4,10] 200 Tryz.f61 (bodyOf Tryz.f61) (laArgs [.v (keyV k)] 0) (laLists [.v (keyV k)]) = brn (!wholeC d k) (some (.tup [d16V zeroD, .n 191], none)) (some (.tup [d16V (redD d oneD zeroD k.toList), .n 0], none)) := by
  kernel_rfl
def g_dWhole (d : DOps) (args : List LA) : Option (AV × Option Blk) := match args with
  | [.v x0] => (match key? x0 with
    | some k => some (.tup [d16V (bif wholeC d k then redD d oneD zeroD k.toList else zeroD), .n (bif wholeC d k then 0 else 191)], none)
    | _ => none)
  | _ => none
theorem dWhole_at : QuietAt Tryz.prog 61 (lav (g_dWhole concD)) := by
  refine quietAt_of_runA X_dMul_ok (L := []) (keep := [0,1,2,3,4,10]) Tryz.func61 (c := bodyOf Tryz.f61) (by kernel_rfl) (by kernel_rfl) (LoopsOK.nil) fun args v h hw => ⟨200, ?_⟩
  unfold g_dWhole at h
  split at h
  · rename_i x0
    split at h
    · rename_i k hh0
      have ehh0 := key?_some hh0
      subst ehh0
      rw [← h]
      refine (dWhole_run concD k).trans ?_
      rw [brn_eq]
      cases wholeC concD k <;> rfl
    · cases h
  · cases h
noncomputable def X_dWhole (d : DOps) : Cx := { X_dMul d with O := addQ (X_dMul d).O 61 (lav (g_dWhole d)) }
theorem X_dWhole_ok : CxOK Tryz.prog (X_dWhole concD) := { X_dMul_ok with quiet := addQ_ok X_dMul_ok.quiet dWhole_at }
end Go.Proofs.YtpmbfepkdjkheaaGreat

