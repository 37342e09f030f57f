/- Powers of the program's numbers and of the document's. -/
import Derived.Test.YtpmbfepkdjkheaaGreatFg
import Derived.Test.YtpmbfepkdjkheaaGreatPwMd
import Derived.Test.YtpmbfepkdjkheaaGreatPwMc
namespace Go.Proofs.YtpmbfepkdjkheaaGreat
open Go Pw Go.RowKit

/-! ### the program's Power -/
def powBit (x k : Nat) : Bool := decide (x / 2 ^ (min (w64 (7 - (k : Int))).toNat 8) &&& 1 = 1)
def pow8 (o : FOps) (a : L5) (x : Nat) : Nat → L5 → L5
  | 0, r => r
  | k + 1, r => bif powBit x k then o.mul (o.sq (pow8 o a x k r)) a else o.sq (pow8 o a x k r)
def powL (o : FOps) (a : L5) (e : List Nat) : L5 := e.foldr (fun x r => pow8 o a x 8 r) (o.small 1)
/-! ### the document's Power -/
noncomputable abbrev pwR : Func := Tryz.f133
def dbl8 (x : Nat) : Nat → Nat
  | 0 => x
  | k + 1 => dbl8 x k % 128 * 2 % 2 ^ 8
def rpow8 (o : FOps) (a : L4) (x : Nat) : Nat → L4 → L4
  | 0, r => r
  | k + 1, r => bif decide (128 ≤ dbl8 x k) then o.rmul (o.rsq (rpow8 o a x k r)) a else o.rsq (rpow8 o a x k r)
def rpowL (o : FOps) (a : L4) (e : List Nat) : L4 := e.foldr (fun x r => rpow8 o a x 8 r) (o.rsmall 1)
structure S_rpowI where
  v1 : AV
  v4 : AV
  v6 : AV
  x : Nat
  k : Int
  B0 : Blk
  a : L4
  B2 : Blk
  r : L4
def d_rpowI : LoopDef S_rpowI where
  ts := [1, 2, 4, 5, 6, 7, 8]
  E := fun s => [(1, s.v1), (2, .ptr 1 0), (4, s.v4), (5, .ptr 3 0), (6, s.v6), (7, .u .u8 s.x), (8, .n s.k)]
  M := fun s => [s.B0, bk (rnumV s.a), s.B2, bk (rnumV s.r)]
  dec := fun vs mem => match vs, mem with
    | [v1, .ptr 1 0, v4, .ptr 3 0, v6, x7, x8], [B0, B1, B2, B3] => (match u8? x7, int? x8, rnum? (unbk B1), rnum? (unbk B3) with
      | some x, some k, some a, some r => some ⟨v1, v4, v6, x, k, B0, a, B2, r⟩
      | _, _, _, _ => none)
    | _, _ => none
  ok := fun vs mem s h => by
    split at h
    · split at h
      · rename_i x k a r hh0 hh1 hh2 hh3
        have ehh0 := u8?_some hh0
        subst ehh0
        have ehh1 := int?_some hh1
        subst ehh1
        have ehh2 := unbk_some (rnum?_some hh2)
        subst ehh2
        have ehh3 := unbk_some (rnum?_some hh3)
        subst ehh3
        cases h; exact ⟨rfl, rfl⟩
      · cases h
    · cases h
def gRPowI (o : FOps) : LoopFn := d_rpowI.fn (fun s => decide (s.k = 0)) (.exit 2) (fun s => { s with k := 8, x := dbl8 s.x 8, r := rpow8 o s.a s.x 8 s.r })
theorem rpowI_step (o : FOps) (s : S_rpowI) : ∀ k : Nat, k < 8 → codeK (XFOps o) [] pwR.ntmps [0,1,2,4,5,6,7,8,14,22,28] 60 (loopB (bodyOf pwR) 7) (d_rpowI.E { s with k := (k : Int) }) (d_rpowI.M { s with k := (k : Int) }) (outK d_rpowI.ts) =
    bif decide (128 ≤ s.x) then some (.normal, d_rpowI.E { s with k := ((k + 1 : Nat) : Int), x := s.x % 128 * 2 % 2 ^ 8, r := o.rmul (o.rsq s.r) s.a }, d_rpowI.M { s with k := ((k + 1 : Nat) : Int), x := s.x % 128 * 2 % 2 ^ 8, r := o.rmul (o.rsq s.r) s.a }) else some (.normal, d_rpowI.E { s with k := ((k + 1 : Nat) : Int), x := s.x % 128 * 2 % 2 ^ 8, r := o.rsq s.r }, d_rpowI.M { s with k := ((k + 1 : Nat) : Int), x := s.x % 128 * 2 % 2 ^ 8, r := o.rsq s.r })
  | 0, _ => by kernel_rfl
  | 1, _ => by kernel_rfl
  | 2, _ => by kernel_rfl
  | 3, _ => by kernel_rfl
  | 4, _ => by kernel_rfl
  | 5, _ => by kernel_rfl
  | 6, _ => by kernel_rfl
  | 7, _ => by kernel_rfl
theorem rpowI_exit (o : FOps) (s : S_rpowI) : codeK (XFOps o) [] pwR.ntmps [0,1,2,4,5,6,7,8,14,22,28] 60 (loopB (bodyOf pwR) 7) (d_rpowI.E { s with k := 8 }) (d_rpowI.M { s with k := 8 }) (outK d_rpowI.ts) =
    some (.exit 2, d_rpowI.E { s with k := 8 }, d_rpowI.M { s with k := 8 }) := by kernel_rfl
theorem rpowI_at : LoopAt Tryz.prog pwR.ntmps (loopB (bodyOf pwR) 7) (gRPowI concFOps) := by
  refine d_rpowI.loop (keep := [0,1,2,4,5,6,7,8,14,22,28]) XFOpsc_ok LoopsOK.nil (by simp) fun s hg => ⟨8, fun i => { s with k := (i : Int), x := dbl8 s.x i, r := rpow8 concFOps s.a s.x i s.r }, ?_, fun i hi => ⟨60, ?_⟩, 60, ?_⟩
  · have := of_decide_eq_true hg
    cases s; simp_all [rpow8, dbl8]
  · refine (rpowI_step concFOps { s with x := dbl8 s.x i, r := rpow8 concFOps s.a s.x i s.r } i hi).trans ?_
    dsimp only
    rw [show dbl8 s.x (i + 1) = dbl8 s.x i % 128 * 2 % 2 ^ 8 from rfl, show rpow8 concFOps s.a s.x (i + 1) s.r = bif decide (128 ≤ dbl8 s.x i) then concFOps.rmul (concFOps.rsq (rpow8 concFOps s.a s.x i s.r)) s.a else concFOps.rsq (rpow8 concFOps s.a s.x i s.r) from rfl]
    cases decide (128 ≤ dbl8 s.x i)
    · rw [cond_false, cond_false]
    · rw [cond_true, cond_true]
  · exact rpowI_exit concFOps { s with x := dbl8 s.x 8, r := rpow8 concFOps s.a s.x 8 s.r }
structure S_rpowO where
  n : Nat
  v4 : AV
  i : Int
  e : List Nat
  a : L4
  B2 : Blk
  r : L4
def d_rpowO : LoopDef S_rpowO where
  ts := [1, 2, 4, 5, 6]
  E := fun s => [(1, .slice 0 0 s.n false), (2, .ptr 1 0), (4, s.v4), (5, .ptr 3 0), (6, .n s.i)]
  M := fun s => [⟨.bytes s.e, false⟩, bk (rnumV s.a), s.B2, bk (rnumV s.r)]
  dec := fun vs mem => match vs, mem with
    | [.slice 0 0 n false, .ptr 1 0, v4, .ptr 3 0, x6], [⟨.bytes e, false⟩, B1, B2, B3] => (match int? x6, rnum? (unbk B1), rnum? (unbk B3) with
      | some i, some a, some r => some ⟨n, v4, i, e, a, B2, r⟩
      | _, _, _ => none)
    | _, _ => none
  ok := fun vs mem s h => by
    split at h
    · split at h
      · rename_i i a r hh0 hh1 hh2
        have ehh0 := int?_some hh0
        subst ehh0
        have ehh1 := unbk_some (rnum?_some hh1)
        subst ehh1
        have ehh2 := unbk_some (rnum?_some hh2)
        subst ehh2
        cases h; exact ⟨rfl, rfl⟩
      · cases h
    · cases h
def rpowOg (s : S_rpowO) : Bool := decide (s.n = s.e.length ∧ s.i = w64 ((s.e.length : Int) - 1) ∧ s.e.length < 9223372036854775808)
def gRPowO (o : FOps) : LoopFn := d_rpowO.fn rpowOg (.exit 0) (fun s => { s with i := -1, r := s.e.foldr (fun x r => rpow8 o s.a x 8 r) s.r })
theorem rpowO_step (o : FOps) (s : S_rpowO) : codeK (XFOps o) [(7, gRPowI o)] pwR.ntmps [0,1,2,4,5,6,7,8,14,22,28] 60 (loopB (bodyOf pwR) 3) (d_rpowO.E s) (d_rpowO.M s) (outK d_rpowO.ts) =
    bif decide (0 ≤ s.i) then (bif decide (0 ≤ s.i ∧ s.i < (s.n : Int)) then (bif decide (0 + s.i.toNat * 1 < s.e.length) then
      some (.normal, d_rpowO.E { s with i := w64 (s.i - 1), r := rpow8 o s.a (s.e.getD (0 + s.i.toNat * 1) 0) 8 s.r }, d_rpowO.M { s with i := w64 (s.i - 1), r := rpow8 o s.a (s.e.getD (0 + s.i.toNat * 1) 0) 8 s.r }) else none) else none) else some (.exit 0, d_rpowO.E s, d_rpowO.M s) := by kernel_rfl
theorem rpowO_loops : LoopsOK Tryz.prog pwR.ntmps [(7, gRPowI concFOps)] (loopB (bodyOf pwR) 3) :=
  loopsOK_cons LoopsOK.nil (by kernel_rfl) rpowI_at
theorem rpowO_at : LoopAt Tryz.prog pwR.ntmps (loopB (bodyOf pwR) 3) (gRPowO concFOps) := by
  refine d_rpowO.loop (keep := [0,1,2,4,5,6,7,8,14,22,28]) XFOpsc_ok rpowO_loops (by simp) fun s hg => ⟨s.e.length, fun i => { s with i := (s.e.length : Int) - 1 - i, r := (s.e.drop (s.e.length - i)).foldr (fun x r => rpow8 concFOps s.a x 8 r) s.r }, ?_, fun i hi => ⟨60, ?_⟩, 60, ?_⟩
  · obtain ⟨-, h, h4⟩ := of_decide_eq_true hg
    rw [w64_id (by omega) (by omega)] at h
    cases s; simp_all
  · obtain ⟨h1, h2, h4⟩ := of_decide_eq_true hg
    refine (rpowO_step concFOps _).trans ?_
    rw [decide_eq_true (show 0 ≤ ((s.e.length : Nat) : Int) - 1 - i by omega), cond_true, decide_eq_true (show 0 ≤ ((s.e.length : Nat) : Int) - 1 - i ∧ ((s.e.length : Nat) : Int) - 1 - i < (s.n : Int) by omega), cond_true,
      decide_eq_true (show 0 + (((s.e.length : Nat) : Int) - 1 - i).toNat * 1 < s.e.length by omega), cond_true]
    have hd : s.e.drop (s.e.length - (i + 1)) = s.e.getD (s.e.length - 1 - i) 0 :: s.e.drop (s.e.length - i) := by
      rw [show s.e.length - (i + 1) = s.e.length - 1 - i by omega, List.drop_eq_getElem_cons (by omega), show s.e.length - 1 - i + 1 = s.e.length - i by omega,
        List.getD_eq_getElem?_getD, List.getElem?_eq_getElem (by omega)]
      rfl
    dsimp only
    rw [w64_id (by omega) (by omega), hd, List.foldr_cons, show 0 + (((s.e.length : Nat) : Int) - 1 - i).toNat * 1 = s.e.length - 1 - i by omega,
      show ((s.e.length : Nat) : Int) - 1 - ((i + 1 : Nat) : Int) = ((s.e.length : Nat) : Int) - 1 - i - 1 by omega]
  · obtain ⟨h1, h2, h4⟩ := of_decide_eq_true hg
    refine (rpowO_step concFOps _).trans ?_
    rw [decide_eq_false (show ¬ 0 ≤ ((s.e.length : Nat) : Int) - 1 - ((s.e.length : Nat) : Int) by omega), cond_false]
    dsimp only
    rw [Nat.sub_self, List.drop_zero, show ((s.e.length : Nat) : Int) - 1 - ((s.e.length : Nat) : Int) = -1 by omega]
theorem powR_loops : LoopsOK Tryz.prog pwR.ntmps [(3, gRPowO concFOps)] (bodyOf pwR) :=
  loopsOK_cons LoopsOK.nil (by kernel_rfl) rpowO_at
theorem powR_run (o : FOps) (a : L4) (e : List Nat) : runNL (XFOps o) [(3, gRPowO o)] [0,1,2,4,5,6,7,8,14,22,28] 200 Tryz.f133 (bodyOf Tryz.f133) (laArgs [.v (rnumV a), .l e] 0) (laLists [.v (rnumV a), .l e]) = bif decide (e.length = e.length ∧ w64 ((e.length : Int) - 1) = w64 ((e.length : Int) - 1) ∧ e.length < 9223372036854775808) then some (rnumV (rpowL o a e), none) else none := by
  kernel_rfl
def g_powR (o : FOps) (args : List LA) : Option (AV × Option Blk) := match args with
  | [.v x0, .l e] => (match rnum? x0 with
    | some a => some (rnumV (rpowL o a e), none)
    | _ => none)
  | _ => none
theorem powR_at : QuietAt Tryz.prog 133 (lav (g_powR concFOps)) := by
  refine quietAt_of_runA XFOps_ok (L := [(3, gRPowO concFOps)]) (keep := [0,1,2,4,5,6,7,8,14,22,28]) Tryz.func133 (c := bodyOf Tryz.f133) (by kernel_rfl) (by kernel_rfl) (powR_loops) fun args v h hw => ⟨200, ?_⟩
  unfold g_powR at h
  split at h
  · rename_i x0 e
    split at h
    · rename_i a hh0
      have ehh0 := rnum?_some hh0
      subst ehh0
      rw [← h]
      refine (powR_run concFOps a e).trans ?_
      rw [decide_eq_true ⟨rfl, rfl, hw.len 0 (by rfl)⟩, cond_true]
    · cases h
  · cases h
def X_powR (o : FOps) : Cx := { XFOps o with O := addQ (XFOps o).O 133 (lav (g_powR o)) }
theorem X_powR_ok : CxOK Tryz.prog (X_powR concFOps) := { XFOps_ok with quiet := addQ_ok XFOps_ok.quiet powR_at }
end Go.Proofs.YtpmbfepkdjkheaaGreat

