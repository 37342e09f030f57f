/- Contracts of the numbers modulo the order, of the document (2): bits and bytes. -/
import Derived.Test.YtpmbfepkdjkheaaGreatNd
namespace Go.Proofs.YtpmbfepkdjkheaaGreat
open Go Pw Go.RowKit
def dRound (d : DOps) (e s : List Nat) (x : Nat) : List Nat := bif decide (128 ≤ x) then d.add (resp 16 (d.add (resp 16 s) (resp 16 s))) (resp 16 e) else d.add (resp 16 s) (resp 16 s)
def dRn (d : DOps) (e : List Nat) (p : List Nat × Nat) : Nat → List Nat × Nat
  | 0 => p
  | n + 1 => (dRound d e (dRn d e p n).1 (dRn d e p n).2, (dRn d e p n).2 % 128 * 2 % 2 ^ 8)
theorem round_branch {α : Type} (f : List Nat → α) (d : DOps) (e s : List Nat) (x : Nat) : brn (decide (128 ≤ x)) (f (d.add (resp 16 (d.add (resp 16 s) (resp 16 s))) (resp 16 e))) (f (d.add (resp 16 s) (resp 16 s))) = f (dRound d e s x) := by
  unfold dRound
  rw [brn_eq]
  cases decide (128 ≤ x) <;> rfl
/-! ### Reduce -/
noncomputable abbrev rrL : Func := Tryz.f59
structure S_ri where
  a0 : AV
  a2 : AV
  a4 : AV
  x : Nat
  t : Int
  B0 : Blk
  B1 : Blk
  s : List Nat
def d_ri : LoopDef S_ri where
  ts := [0, 2, 3, 4, 5, 6]
  E := fun s => [(0, s.a0), (2, s.a2), (3, .ptr 2 0), (4, s.a4), (5, .u .u8 s.x), (6, .n s.t)]
  M := fun s => [s.B0, s.B1, bk (d16V s.s)]
  dec := fun vs mem => match vs, mem with
    | [a0, a2, .ptr 2 0, a4, x5, x6], [B0, B1, B2] => (match u8? x5, int? x6, d16? (unbk B2) with
      | some x, some t, some s => some ⟨a0, a2, a4, x, t, B0, B1, s⟩
      | _, _, _ => none)
    | _, _ => none
  ok := fun vs mem s h => by
    split at h
    · split at h
      · rename_i x t s hh0 hh1 hh2
        have ehh0 := u8?_some hh0
        subst ehh0
        have ehh1 := int?_some hh1
        subst ehh1
        have ehh2 := unbk_some (d16?_some hh2)
        subst ehh2
        cases h; exact ⟨rfl, rfl⟩
      · cases h
    · cases h
def riW (z : S_ri) (l : List Nat) : S_ri := { z with t := w64 (z.t + 1), s := l, x := z.x % 128 * 2 % 2 ^ 8 }
theorem ri_step (d : DOps) (z : S_ri) : codeK (X_dSub d) [] rrL.ntmps [0,2,3,4,5,6,11,19,26] 60 (loopB (bodyOf rrL) 7) (d_ri.E z) (d_ri.M z) (outK d_ri.ts) =
    brn (decide (z.t < 8)) (brn (decide (128 ≤ z.x)) (some (.normal, d_ri.E (riW z (d.add (resp 16 (d.add (resp 16 z.s) (resp 16 z.s))) (resp 16 oneD))), d_ri.M (riW z (d.add (resp 16 (d.add (resp 16 z.s) (resp 16 z.s))) (resp 16 oneD)))))
      (some (.normal, d_ri.E (riW z (d.add (resp 16 z.s) (resp 16 z.s))), d_ri.M (riW z (d.add (resp 16 z.s) (resp 16 z.s)))))) (some (.exit 2, d_ri.E z, d_ri.M z)) := by kernel_rfl
def riI (d : DOps) (z : S_ri) (n : Nat) : S_ri := { z with t := (n : Int), s := (dRn d oneD (z.s, z.x) n).1, x := (dRn d oneD (z.s, z.x) n).2 }
def gRi (d : DOps) : LoopFn := d_ri.fn (fun z => decide (z.t = 0)) (.exit 2) (fun z => { z with t := 8, s := (dRn d oneD (z.s, z.x) 8).1, x := (dRn d oneD (z.s, z.x) 8).2 })
theorem riI_zero (d : DOps) (z : S_ri) (h : z.t = 0) : riI d z 0 = z := by
  unfold riI dRn
  rw [show ((0 : Nat) : Int) = z.t by rw [h]; rfl]
theorem riI_succ (d : DOps) (z : S_ri) {n : Nat} (hn : n < 8) : riW (riI d z n) (dRound d oneD (riI d z n).s (riI d z n).x) = riI d z (n + 1) := by
  have e : w64 ((riI d z n).t + 1) = ((n + 1 : Nat) : Int) := by
    show w64 ((n : Int) + 1) = _
    rw [w64_id (by omega) (by omega)]; rfl
  unfold riW
  rw [e]; rfl
theorem ri_at : LoopAt Tryz.prog rrL.ntmps (loopB (bodyOf rrL) 7) (gRi concD) := by
  refine d_ri.loop (keep := [0,2,3,4,5,6,11,19,26]) X_dSub_ok LoopsOK.nil (by simp) fun z hg => ⟨8, riI concD z, ?_, fun n hn => ⟨60, ?_⟩, 60, ?_⟩
  · exact riI_zero _ z (of_decide_eq_true hg)
  · refine (ri_step concD _).trans ?_
    rw [round_branch (fun l => some (Ex.normal, d_ri.E (riW (riI concD z n) l), d_ri.M (riW (riI concD z n) l))), riI_succ _ _ hn, show (riI concD z n).t = (n : Int) from rfl, decide_eq_true (by omega), brn_eq, cond_true]
  · refine (ri_step concD _).trans ?_
    rw [show (riI concD z 8).t = ((8 : Nat) : Int) from rfl, decide_eq_false (by omega), brn_eq, cond_false]
    rfl
structure S_ro where
  m : Nat
  i : Int
  b : List Nat
  B1 : Blk
  s : List Nat
def d_ro : LoopDef S_ro where
  ts := [0, 2, 3, 4]
  E := fun s => [(0, .slice 0 0 s.m false), (2, .ptr 1 0), (3, .ptr 2 0), (4, .n s.i)]
  M := fun s => [⟨.bytes s.b, false⟩, s.B1, bk (d16V s.s)]
  dec := fun vs mem => match vs, mem with
    | [.slice 0 0 m false, .ptr 1 0, .ptr 2 0, x4], [⟨.bytes b, false⟩, B1, B2] => (match int? x4, d16? (unbk B2) with
      | some i, some s => some ⟨m, i, b, B1, s⟩
      | _, _ => none)
    | _, _ => none
  ok := fun vs mem s h => by
    split at h
    · split at h
      · rename_i i s hh0 hh1
        have ehh0 := int?_some hh0
        subst ehh0
        have ehh1 := unbk_some (d16?_some hh1)
        subst ehh1
        cases h; exact ⟨rfl, rfl⟩
      · cases h
    · cases h
theorem ri_loops : LoopsOK Tryz.prog rrL.ntmps [(7, gRi concD)] (loopB (bodyOf rrL) 3) := loopsOK_cons LoopsOK.nil (by kernel_rfl) ri_at
def roX (z : S_ro) : Nat := 0 + z.i.toNat * 1
def byteR (d : DOps) (e s : List Nat) (c : Nat) : List Nat := (dRn d e (resp 16 s, c) 8).1
def roN (d : DOps) (z : S_ro) : S_ro := { z with i := w64 (z.i - 1), s := byteR d oneD z.s (z.b.getD (roX z) 0) }
theorem ro_step (d : DOps) (z : S_ro) : codeK (X_dSub d) [(7, gRi d)] rrL.ntmps [0,2,3,4,5,6,11,19,26] 60 (loopB (bodyOf rrL) 3) (d_ro.E z) (d_ro.M z) (outK d_ro.ts) =
    brn (decide (0 ≤ z.i)) (brn (decide (0 ≤ z.i ∧ z.i < (z.m : Int))) (brn (decide (roX z < z.b.length)) (some (.normal, d_ro.E (roN d z), d_ro.M (roN d z))) none) none) (some (.exit 0, d_ro.E z, d_ro.M z)) := by kernel_rfl
def redD (d : DOps) (e s : List Nat) (b : List Nat) : List Nat := b.foldr (fun c s => byteR d e s c) s
def gRo (d : DOps) : LoopFn := d_ro.fn (fun z => decide (z.m = z.b.length ∧ z.i = (z.m : Int) - 1 ∧ z.m < 4611686018427387904)) (.exit 0) (fun z => { z with i := -1, s := redD d oneD z.s z.b })
def roI (d : DOps) (z : S_ro) (k : Nat) : S_ro := { z with i := (z.m : Int) - 1 - (k : Int), s := redD d oneD z.s (z.b.drop (z.m - k)) }
theorem roI_zero (d : DOps) (z : S_ro) (h1 : z.m = z.b.length) (h2 : z.i = (z.m : Int) - 1) : roI d z 0 = z := by
  have e1 : (z.m : Int) - 1 - ((0 : Nat) : Int) = z.i := by omega
  have e2 : z.b.drop (z.m - 0) = [] := by rw [Nat.sub_zero, h1, List.drop_length]
  unfold roI
  rw [e1, e2]
  rfl
theorem roI_succ (d : DOps) (z : S_ro) (h1 : z.m = z.b.length) (h3 : z.m < 4611686018427387904) {k : Nat} (hk : k < z.m) : roX (roI d z k) = z.m - (k + 1) ∧ roN d (roI d z k) = roI d z (k + 1) := by
  have ei : (roI d z k).i = (z.m : Int) - 1 - (k : Int) := rfl
  have hX : roX (roI d z k) = z.m - (k + 1) := by unfold roX; rw [ei]; omega
  refine ⟨hX, ?_⟩
  have e1 : w64 ((roI d z k).i - 1) = (z.m : Int) - 1 - ((k + 1 : Nat) : Int) := by rw [ei, w64_id (by omega) (by omega)]; omega
  have e2 : byteR d oneD (roI d z k).s ((roI d z k).b.getD (z.m - (k + 1)) 0) = redD d oneD z.s (z.b.drop (z.m - (k + 1))) := by
    show byteR d oneD (redD d oneD z.s (z.b.drop (z.m - k))) (z.b.getD (z.m - (k + 1)) 0) = _
    rw [h1, drop_pred (by omega)]; rfl
  show { roI d z k with i := w64 ((roI d z k).i - 1), s := byteR d oneD (roI d z k).s ((roI d z k).b.getD (roX (roI d z k)) 0) } = roI d z (k + 1)
  rw [hX, e1, e2]; rfl
theorem roI_end (d : DOps) (z : S_ro) : roI d z z.m = { z with i := -1, s := redD d oneD z.s z.b } := by
  unfold roI
  rw [Nat.sub_self, List.drop_zero, show (z.m : Int) - 1 - (z.m : Int) = -1 by omega]
theorem ro_at : LoopAt Tryz.prog rrL.ntmps (loopB (bodyOf rrL) 3) (gRo concD) := by
  refine d_ro.loop (keep := [0,2,3,4,5,6,11,19,26]) X_dSub_ok ri_loops (by simp) fun z hg => ⟨z.m, roI concD z, ?_, fun k hk => ⟨60, ?_⟩, 60, ?_⟩
  · obtain ⟨h1, h2, h3⟩ := of_decide_eq_true hg
    exact roI_zero _ z h1 h2
  · obtain ⟨h1, h2, h3⟩ := of_decide_eq_true hg
    obtain ⟨hX, hN⟩ := roI_succ concD z h1 h3 hk
    refine (ro_step concD _).trans ?_
    have ei : (roI concD z k).i = (z.m : Int) - 1 - (k : Int) := rfl
    have em : (roI concD z k).m = z.m := rfl
    have eb : (roI concD z k).b = z.b := rfl
    rw [hN, ei, em, hX, eb, decide_eq_true (by omega), decide_eq_true (by omega), decide_eq_true (by omega), brn_eq, brn_eq, brn_eq, cond_true, cond_true, cond_true]
  · obtain ⟨h1, h2, h3⟩ := of_decide_eq_true hg
    refine (ro_step concD _).trans ?_
    rw [show (roI concD z z.m).i = (z.m : Int) - 1 - (z.m : Int) from rfl, decide_eq_false (by omega), brn_eq, cond_false, roI_end]
theorem rr_loops : LoopsOK Tryz.prog rrL.ntmps [(3, gRo concD)] (bodyOf rrL) := loopsOK_cons LoopsOK.nil (by kernel_rfl) ro_at
theorem dReduce_run (d : DOps) (b : List Nat) : runNL (X_dSub d) [(3, gRo d)] [0,2,3,4,5,6,11,19,26] 200 Tryz.f59 (bodyOf Tryz.f59) (laArgs [.l b] 0) (laLists [.l b]) = bif decide (b.length = b.length ∧ w64 ((b.length : Int) - 1) = (b.length : Int) - 1 ∧ b.length < 4611686018427387904) then some (d16V (redD d oneD (resp 16 zeroD) b), none) else none := by
  kernel_rfl
def u_dReduce (d : DOps) (args : List LA) : Option (AV × Option Blk) := match args with
  | [.l b] => some (d16V (redD d oneD zeroD b), none)
  | _ => none
def c_dReduce (args : List LA) : Bool := match args with
  | [.l b] => decide (b.length < 4611686018427387904)
  | _ => false
def g_dReduce (d : DOps) (args : List LA) : Option (AV × Option Blk) := bif c_dReduce args then u_dReduce d args else none
theorem dReduce_at : QuietAt Tryz.prog 59 (lav (g_dReduce concD)) := by
  refine quietAt_of_runA X_dSub_ok (L := [(3, gRo concD)]) (keep := [0,2,3,4,5,6,11,19,26]) Tryz.func59 (c := bodyOf Tryz.f59) (by kernel_rfl) (by kernel_rfl) (rr_loops) fun args v h hw => ⟨200, ?_⟩
  unfold g_dReduce at h
  have hg := (bif_some h).1
  replace h := (bif_some h).2
  unfold u_dReduce at h
  split at h
  · rename_i b
    replace hg : (decide (b.length < 4611686018427387904)) = true := hg
    rw [← h]
    refine (dReduce_run concD b).trans ?_
    have h := of_decide_eq_true hg
    rw [decide_eq_true ⟨rfl, w64_id (by omega) (by omega), h⟩, cond_true, show resp 16 zeroD = zeroD from rfl]
  · cases h
noncomputable def X_dReduce (d : DOps) : Cx := { X_dSub d with O := addQ (X_dSub d).O 59 (lavG c_dReduce (u_dReduce d)) }
theorem X_dReduce_ok : CxOK Tryz.prog (X_dReduce concD) := { X_dSub_ok with quiet := addQ_ok X_dSub_ok.quiet (lavG_at dReduce_at) }
/-! ### Whole -/
def dWholeV (d : DOps) (k : K32) : List Nat × Int := bif !keyEq (bytD (resp 16 (redD d oneD zeroD k.toList))) k then (zeroD, 191) else (redD d oneD zeroD k.toList, 0)
end Go.Proofs.YtpmbfepkdjkheaaGreat

