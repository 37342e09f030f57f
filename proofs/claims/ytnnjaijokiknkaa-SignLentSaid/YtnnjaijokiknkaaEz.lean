/- The program's functions of layer 2, walked, beside layer 19; what the ladder is, by value. -/
import Derived.Test.YtnnjaijokiknkaaPh
import Derived.Test.YtnnjaijokiknkaaPwMf
namespace Go.Proofs.Ytnnjaijokiknkaa
open Go Pw Go.RowKit
def clampC (k : K32) : K32 := { k with b0 := k.b0 &&& 248, b31 := k.b31 &&& 127 ||| 64 }
theorem cclampP_run (e : EOps) (k : K32) : runNL (X_same19 e) [] [0,1,2] 200 Try.f72 (bodyOf Try.f72) (laArgs [.v (keyV k)] 0) (laLists [.v (keyV k)]) = some (keyV (clampC k), none) := by
  kernel_rfl
def g_cclampP (_ : EOps) (args : List LA) : Option (AV × Option Blk) := match args with
  | [.v x0] => (match key? x0 with
    | some k => some (keyV (clampC k), none)
    | _ => none)
  | _ => none
theorem cclampP_at : QuietAt Try.prog 72 (lav (g_cclampP concE)) := by
  refine quietAt_of_runA X_same19_ok (L := []) (keep := [0,1,2]) Try.func72 (c := bodyOf Try.f72) (by kernel_rfl) (by kernel_rfl) (LoopsOK.nil) fun args v h hw => ⟨200, ?_⟩
  unfold g_cclampP at h
  split at h
  · rename_i x0
    split at h
    · rename_i k hh0
      have ehh0 := key?_some hh0
      subst ehh0
      rw [← h]
      refine (cclampP_run concE k).trans ?_
      rfl
    · cases h
  · cases h
noncomputable def X_cclampP (e : EOps) : Cx := { X_same19 e with O := addQ (X_same19 e).O 72 (lav (g_cclampP e)) }
theorem X_cclampP_ok : CxOK Try.prog (X_cclampP concE) := { X_same19_ok with quiet := addQ_ok X_same19_ok.quiet cclampP_at }
def swapRg (r : Rungs) (on : Bool) : Rungs := ⟨bif on then r.c else r.a, bif on then r.d else r.b, bif on then r.a else r.c, bif on then r.b else r.d⟩
theorem swapP_run (e : EOps) (r : Rungs) (on : Bool) : runNL (X_cclampP e) [] [0,1,2,4] 200 Try.f138 (bodyOf Try.f138) (laArgs [.v (rungsV r), .v (.bool on)] 0) (laLists [.v (rungsV r), .v (.bool on)]) = some (rungsV (swapRg r on), none) := by
  kernel_rfl
def g_swapP (_ : EOps) (args : List LA) : Option (AV × Option Blk) := match args with
  | [.v x0, .v x1] => (match rungs? x0, bool? x1 with
    | some r, some on => some (rungsV (swapRg r on), none)
    | _, _ => none)
  | _ => none
theorem swapP_at : QuietAt Try.prog 138 (lav (g_swapP concE)) := by
  refine quietAt_of_runA X_cclampP_ok (L := []) (keep := [0,1,2,4]) Try.func138 (c := bodyOf Try.f138) (by kernel_rfl) (by kernel_rfl) (LoopsOK.nil) fun args v h hw => ⟨200, ?_⟩
  unfold g_swapP at h
  split at h
  · rename_i x0 x1
    split at h
    · rename_i r on hh0 hh1
      have ehh0 := rungs?_some hh0
      subst ehh0
      have ehh1 := bool?_some hh1
      subst ehh1
      rw [← h]
      refine (swapP_run concE r on).trans ?_
      rfl
    · cases h
  · cases h
noncomputable def X_swapP (e : EOps) : Cx := { X_cclampP e with O := addQ (X_cclampP e).O 138 (lav (g_swapP e)) }
theorem X_swapP_ok : CxOK Try.prog (X_swapP concE) := { X_cclampP_ok with quiet := addQ_ok X_cclampP_ok.quiet swapP_at }
def stepRg (o : FOps) (r : Rungs) (x : L5) : Rungs :=
  let e := o.add r.a r.b
  let f := o.sub r.a r.b
  let m := o.mul (o.sub r.c r.d) e
  let n := o.mul (o.add r.c r.d) f
  let y := o.sq e
  let z := o.sq f
  let diff := o.sub y z
  ⟨o.mul y z, o.mul diff (o.add y (o.times diff 121665)), o.sq (o.add m n), o.mul x (o.sq (o.sub m n))⟩
theorem stepP_run (e : EOps) (r : Rungs) (x : L5) : runNL (X_swapP e) [] [0,1,2,3,4,5,6,7,8,9,10,11] 200 Try.f139 (bodyOf Try.f139) (laArgs [.v (rungsV r), .v (numV x)] 0) (laLists [.v (rungsV r), .v (numV x)]) = some (rungsV (stepRg e.fo r x), none) := by
  kernel_rfl
def g_stepP (e : EOps) (args : List LA) : Option (AV × Option Blk) := match args with
  | [.v x0, .v x1] => (match rungs? x0, num? x1 with
    | some r, some x => some (rungsV (stepRg e.fo r x), none)
    | _, _ => none)
  | _ => none
theorem stepP_at : QuietAt Try.prog 139 (lav (g_stepP concE)) := by
  refine quietAt_of_runA X_swapP_ok (L := []) (keep := [0,1,2,3,4,5,6,7,8,9,10,11]) Try.func139 (c := bodyOf Try.f139) (by kernel_rfl) (by kernel_rfl) (LoopsOK.nil) fun args v h hw => ⟨200, ?_⟩
  unfold g_stepP at h
  split at h
  · rename_i x0 x1
    split at h
    · rename_i r x hh0 hh1
      have ehh0 := rungs?_some hh0
      subst ehh0
      have ehh1 := num?_some hh1
      subst ehh1
      rw [← h]
      refine (stepP_run concE r x).trans ?_
      rfl
    · cases h
  · cases h
noncomputable def X_stepP (e : EOps) : Cx := { X_swapP e with O := addQ (X_swapP e).O 139 (lav (g_stepP e)) }
theorem X_stepP_ok : CxOK Try.prog (X_stepP concE) := { X_swapP_ok with quiet := addQ_ok X_swapP_ok.quiet stepP_at }
def onXc (o : FOps) (x : L5) : L5 := o.add (o.add (o.mul (o.sq x) x) (o.times (o.sq x) 486662)) x
theorem onP_run (e : EOps) (u : K32) : runNL (X_stepP e) [] [0,1,2,3,4,6] 200 Try.f71 (bodyOf Try.f71) (laArgs [.v (keyV u)] 0) (laLists [.v (keyV u)]) = some (.bool (rootB e.fo (onXc e.fo (e.fo.frm u))), none) := by
  kernel_rfl
def g_onP (e : EOps) (args : List LA) : Option (AV × Option Blk) := match args with
  | [.v x0] => (match key? x0 with
    | some u => some (.bool (rootB e.fo (onXc e.fo (e.fo.frm u))), none)
    | _ => none)
  | _ => none
theorem onP_at : QuietAt Try.prog 71 (lav (g_onP concE)) := by
  refine quietAt_of_runA X_stepP_ok (L := []) (keep := [0,1,2,3,4,6]) Try.func71 (c := bodyOf Try.f71) (by kernel_rfl) (by kernel_rfl) (LoopsOK.nil) fun args v h hw => ⟨200, ?_⟩
  unfold g_onP at h
  split at h
  · rename_i x0
    split at h
    · rename_i u hh0
      have ehh0 := key?_some hh0
      subst ehh0
      rw [← h]
      refine (onP_run concE u).trans ?_
      rfl
    · cases h
  · cases h
noncomputable def X_onP (e : EOps) : Cx := { X_stepP e with O := addQ (X_stepP e).O 71 (lav (g_onP e)) }
theorem X_onP_ok : CxOK Try.prog (X_onP concE) := { X_stepP_ok with quiet := addQ_ok X_stepP_ok.quiet onP_at }
/-! ### bits of a key -/
def kbit (k : K32) (t : Nat) : Bool := decide (byteAt k (t / 8) / 2 ^ (min (t % 8) 8) &&& 1 = 1)
/-! ### the ladder -/
noncomputable abbrev scP : Func := Try.f74
noncomputable abbrev btP : Func := Try.f137
noncomputable def mBit (e : EOps) : List AV → Mem → ∀ {ρ : Type}, (AV → Mem → Option ρ) → Option ρ := fun args mem _ K => runKL (X_onP e) [] [0,1,3] 60 btP (bodyOf btP) args mem K
theorem mBit_at : LoudAt Try.prog 137 (mBit concE) := loudAt_of_run X_onP_ok Try.func137 (by kernel_rfl) (by kernel_rfl) LoopsOK.nil
noncomputable def X_loud (e : EOps) : Cx := { X_onP e with M := addM (X_onP e).M 137 (mBit e) }
theorem X_loud_ok : CxOK Try.prog (X_loud concE) := { X_onP_ok with loud := addM_ok X_onP_ok.loud mBit_at }
structure S_scO where
  v4 : AV
  before : Bool
  t : Int
  k : K32
  B1 : Blk
  B2 : Blk
  x : L5
  B4 : Blk
  r : Rungs
def d_scO : LoopDef S_scO where
  ts := [2, 4, 5, 6, 8, 9, 10]
  E := fun s => [(2, .ptr 0 0), (4, s.v4), (5, .fn 137 [.ptr 0 0]), (6, .ptr 3 0), (8, .ptr 5 0), (9, .bool s.before), (10, .n s.t)]
  M := fun s => [bk (keyV s.k), s.B1, s.B2, bk (numV s.x), s.B4, bk (rungsV s.r)]
  dec := fun vs mem => match vs, mem with
    | [.ptr 0 0, v4, .fn 137 [.ptr 0 0], .ptr 3 0, .ptr 5 0, x9, x10], [B0, B1, B2, B3, B4, B5] => (match bool? x9, int? x10, key? (unbk B0), num? (unbk B3), rungs? (unbk B5) with
      | some before, some t, some k, some x, some r => some ⟨v4, before, t, k, B1, B2, x, B4, r⟩
      | _, _, _, _, _ => none)
    | _, _ => none
  ok := fun vs mem s h => by
    split at h
    · split at h
      · rename_i before t k x r hh0 hh1 hh2 hh3 hh4
        have ehh0 := bool?_some hh0
        subst ehh0
        have ehh1 := int?_some hh1
        subst ehh1
        have ehh2 := unbk_some (key?_some hh2)
        subst ehh2
        have ehh3 := unbk_some (num?_some hh3)
        subst ehh3
        have ehh4 := unbk_some (rungs?_some hh4)
        subst ehh4
        cases h; exact ⟨rfl, rfl⟩
      · cases h
    · cases h
theorem scO_step_0 (e : EOps) (s : S_scO) : ∀ j : Nat, j < 8 → codeK (X_loud e) [] scP.ntmps [0,1,2,3,4,5,6,7,8,9,10,11,23] 80 (loopB (bodyOf scP) 8) (d_scO.E { s with t := (((0 + j) : Nat) : Int) }) (d_scO.M { s with t := (((0 + j) : Nat) : Int) }) (outK d_scO.ts) = some (.normal, d_scO.E { s with t := (((0 + j) : Nat) : Int) - 1, before := kbit s.k (0 + j), r := stepRg e.fo (swapRg s.r (!(kbit s.k (0 + j) == s.before))) s.x }, d_scO.M { s with t := (((0 + j) : Nat) : Int) - 1, before := kbit s.k (0 + j), r := stepRg e.fo (swapRg s.r (!(kbit s.k (0 + j) == s.before))) s.x })
  | 0, _ => by kernel_rfl
  | 1, _ => by kernel_rfl
  | 2, _ => by kernel_rfl
  | 3, _ => by kernel_rfl
  | 4, _ => by kernel_rfl
  | 5, _ => by kernel_rfl
  | 6, _ => by kernel_rfl
  | 7, _ => by kernel_rfl
theorem scO_step_1 (e : EOps) (s : S_scO) : ∀ j : Nat, j < 8 → codeK (X_loud e) [] scP.ntmps [0,1,2,3,4,5,6,7,8,9,10,11,23] 80 (loopB (bodyOf scP) 8) (d_scO.E { s with t := (((8 + j) : Nat) : Int) }) (d_scO.M { s with t := (((8 + j) : Nat) : Int) }) (outK d_scO.ts) = some (.normal, d_scO.E { s with t := (((8 + j) : Nat) : Int) - 1, before := kbit s.k (8 + j), r := stepRg e.fo (swapRg s.r (!(kbit s.k (8 + j) == s.before))) s.x }, d_scO.M { s with t := (((8 + j) : Nat) : Int) - 1, before := kbit s.k (8 + j), r := stepRg e.fo (swapRg s.r (!(kbit s.k (8 + j) == s.before))) s.x })
  | 0, _ => by kernel_rfl
  | 1, _ => by kernel_rfl
  | 2, _ => by kernel_rfl
  | 3, _ => by kernel_rfl
  | 4, _ => by kernel_rfl
  | 5, _ => by kernel_rfl
  | 6, _ => by kernel_rfl
  | 7, _ => by kernel_rfl
theorem scO_step_2 (e : EOps) (s : S_scO) : ∀ j : Nat, j < 8 → codeK (X_loud e) [] scP.ntmps [0,1,2,3,4,5,6,7,8,9,10,11,23] 80 (loopB (bodyOf scP) 8) (d_scO.E { s with t := (((16 + j) : Nat) : Int) }) (d_scO.M { s with t := (((16 + j) : Nat) : Int) }) (outK d_scO.ts) = some (.normal, d_scO.E { s with t := (((16 + j) : Nat) : Int) - 1, before := kbit s.k (16 + j), r := stepRg e.fo (swapRg s.r (!(kbit s.k (16 + j) == s.before))) s.x }, d_scO.M { s with t := (((16 + j) : Nat) : Int) - 1, before := kbit s.k (16 + j), r := stepRg e.fo (swapRg s.r (!(kbit s.k (16 + j) == s.before))) s.x })
  | 0, _ => by kernel_rfl
  | 1, _ => by kernel_rfl
  | 2, _ => by kernel_rfl
  | 3, _ => by kernel_rfl
  | 4, _ => by kernel_rfl
  | 5, _ => by kernel_rfl
  | 6, _ => by kernel_rfl
  | 7, _ => by kernel_rfl
theorem scO_step_3 (e : EOps) (s : S_scO) : ∀ j : Nat, j < 8 → codeK (X_loud e) [] scP.ntmps [0,1,2,3,4,5,6,7,8,9,10,11,23] 80 (loopB (bodyOf scP) 8) (d_scO.E { s with t := (((24 + j) : Nat) : Int) }) (d_scO.M { s with t := (((24 + j) : Nat) : Int) }) (outK d_scO.ts) = some (.normal, d_scO.E { s with t := (((24 + j) : Nat) : Int) - 1, before := kbit s.k (24 + j), r := stepRg e.fo (swapRg s.r (!(kbit s.k (24 + j) == s.before))) s.x }, d_scO.M { s with t := (((24 + j) : Nat) : Int) - 1, before := kbit s.k (24 + j), r := stepRg e.fo (swapRg s.r (!(kbit s.k (24 + j) == s.before))) s.x })
  | 0, _ => by kernel_rfl
  | 1, _ => by kernel_rfl
  | 2, _ => by kernel_rfl
  | 3, _ => by kernel_rfl
  | 4, _ => by kernel_rfl
  | 5, _ => by kernel_rfl
  | 6, _ => by kernel_rfl
  | 7, _ => by kernel_rfl
theorem scO_step_4 (e : EOps) (s : S_scO) : ∀ j : Nat, j < 8 → codeK (X_loud e) [] scP.ntmps [0,1,2,3,4,5,6,7,8,9,10,11,23] 80 (loopB (bodyOf scP) 8) (d_scO.E { s with t := (((32 + j) : Nat) : Int) }) (d_scO.M { s with t := (((32 + j) : Nat) : Int) }) (outK d_scO.ts) = some (.normal, d_scO.E { s with t := (((32 + j) : Nat) : Int) - 1, before := kbit s.k (32 + j), r := stepRg e.fo (swapRg s.r (!(kbit s.k (32 + j) == s.before))) s.x }, d_scO.M { s with t := (((32 + j) : Nat) : Int) - 1, before := kbit s.k (32 + j), r := stepRg e.fo (swapRg s.r (!(kbit s.k (32 + j) == s.before))) s.x })
  | 0, _ => by kernel_rfl
  | 1, _ => by kernel_rfl
  | 2, _ => by kernel_rfl
  | 3, _ => by kernel_rfl
  | 4, _ => by kernel_rfl
  | 5, _ => by kernel_rfl
  | 6, _ => by kernel_rfl
  | 7, _ => by kernel_rfl
theorem scO_step_5 (e : EOps) (s : S_scO) : ∀ j : Nat, j < 8 → codeK (X_loud e) [] scP.ntmps [0,1,2,3,4,5,6,7,8,9,10,11,23] 80 (loopB (bodyOf scP) 8) (d_scO.E { s with t := (((40 + j) : Nat) : Int) }) (d_scO.M { s with t := (((40 + j) : Nat) : Int) }) (outK d_scO.ts) = some (.normal, d_scO.E { s with t := (((40 + j) : Nat) : Int) - 1, before := kbit s.k (40 + j), r := stepRg e.fo (swapRg s.r (!(kbit s.k (40 + j) == s.before))) s.x }, d_scO.M { s with t := (((40 + j) : Nat) : Int) - 1, before := kbit s.k (40 + j), r := stepRg e.fo (swapRg s.r (!(kbit s.k (40 + j) == s.before))) s.x })
  | 0, _ => by kernel_rfl
  | 1, _ => by kernel_rfl
  | 2, _ => by kernel_rfl
  | 3, _ => by kernel_rfl
  | 4, _ => by kernel_rfl
  | 5, _ => by kernel_rfl
  | 6, _ => by kernel_rfl
  | 7, _ => by kernel_rfl
theorem scO_step_6 (e : EOps) (s : S_scO) : ∀ j : Nat, j < 8 → codeK (X_loud e) [] scP.ntmps [0,1,2,3,4,5,6,7,8,9,10,11,23] 80 (loopB (bodyOf scP) 8) (d_scO.E { s with t := (((48 + j) : Nat) : Int) }) (d_scO.M { s with t := (((48 + j) : Nat) : Int) }) (outK d_scO.ts) = some (.normal, d_scO.E { s with t := (((48 + j) : Nat) : Int) - 1, before := kbit s.k (48 + j), r := stepRg e.fo (swapRg s.r (!(kbit s.k (48 + j) == s.before))) s.x }, d_scO.M { s with t := (((48 + j) : Nat) : Int) - 1, before := kbit s.k (48 + j), r := stepRg e.fo (swapRg s.r (!(kbit s.k (48 + j) == s.before))) s.x })
  | 0, _ => by kernel_rfl
  | 1, _ => by kernel_rfl
  | 2, _ => by kernel_rfl
  | 3, _ => by kernel_rfl
  | 4, _ => by kernel_rfl
  | 5, _ => by kernel_rfl
  | 6, _ => by kernel_rfl
  | 7, _ => by kernel_rfl
theorem scO_step_7 (e : EOps) (s : S_scO) : ∀ j : Nat, j < 8 → codeK (X_loud e) [] scP.ntmps [0,1,2,3,4,5,6,7,8,9,10,11,23] 80 (loopB (bodyOf scP) 8) (d_scO.E { s with t := (((56 + j) : Nat) : Int) }) (d_scO.M { s with t := (((56 + j) : Nat) : Int) }) (outK d_scO.ts) = some (.normal, d_scO.E { s with t := (((56 + j) : Nat) : Int) - 1, before := kbit s.k (56 + j), r := stepRg e.fo (swapRg s.r (!(kbit s.k (56 + j) == s.before))) s.x }, d_scO.M { s with t := (((56 + j) : Nat) : Int) - 1, before := kbit s.k (56 + j), r := stepRg e.fo (swapRg s.r (!(kbit s.k (56 + j) == s.before))) s.x })
  | 0, _ => by kernel_rfl
  | 1, _ => by kernel_rfl
  | 2, _ => by kernel_rfl
  | 3, _ => by kernel_rfl
  | 4, _ => by kernel_rfl
  | 5, _ => by kernel_rfl
  | 6, _ => by kernel_rfl
  | 7, _ => by kernel_rfl
theorem scO_step_8 (e : EOps) (s : S_scO) : ∀ j : Nat, j < 8 → codeK (X_loud e) [] scP.ntmps [0,1,2,3,4,5,6,7,8,9,10,11,23] 80 (loopB (bodyOf scP) 8) (d_scO.E { s with t := (((64 + j) : Nat) : Int) }) (d_scO.M { s with t := (((64 + j) : Nat) : Int) }) (outK d_scO.ts) = some (.normal, d_scO.E { s with t := (((64 + j) : Nat) : Int) - 1, before := kbit s.k (64 + j), r := stepRg e.fo (swapRg s.r (!(kbit s.k (64 + j) == s.before))) s.x }, d_scO.M { s with t := (((64 + j) : Nat) : Int) - 1, before := kbit s.k (64 + j), r := stepRg e.fo (swapRg s.r (!(kbit s.k (64 + j) == s.before))) s.x })
  | 0, _ => by kernel_rfl
  | 1, _ => by kernel_rfl
  | 2, _ => by kernel_rfl
  | 3, _ => by kernel_rfl
  | 4, _ => by kernel_rfl
  | 5, _ => by kernel_rfl
  | 6, _ => by kernel_rfl
  | 7, _ => by kernel_rfl
theorem scO_step_9 (e : EOps) (s : S_scO) : ∀ j : Nat, j < 8 → codeK (X_loud e) [] scP.ntmps [0,1,2,3,4,5,6,7,8,9,10,11,23] 80 (loopB (bodyOf scP) 8) (d_scO.E { s with t := (((72 + j) : Nat) : Int) }) (d_scO.M { s with t := (((72 + j) : Nat) : Int) }) (outK d_scO.ts) = some (.normal, d_scO.E { s with t := (((72 + j) : Nat) : Int) - 1, before := kbit s.k (72 + j), r := stepRg e.fo (swapRg s.r (!(kbit s.k (72 + j) == s.before))) s.x }, d_scO.M { s with t := (((72 + j) : Nat) : Int) - 1, before := kbit s.k (72 + j), r := stepRg e.fo (swapRg s.r (!(kbit s.k (72 + j) == s.before))) s.x })
  | 0, _ => by kernel_rfl
  | 1, _ => by kernel_rfl
  | 2, _ => by kernel_rfl
  | 3, _ => by kernel_rfl
  | 4, _ => by kernel_rfl
  | 5, _ => by kernel_rfl
  | 6, _ => by kernel_rfl
  | 7, _ => by kernel_rfl
theorem scO_step_10 (e : EOps) (s : S_scO) : ∀ j : Nat, j < 8 → codeK (X_loud e) [] scP.ntmps [0,1,2,3,4,5,6,7,8,9,10,11,23] 80 (loopB (bodyOf scP) 8) (d_scO.E { s with t := (((80 + j) : Nat) : Int) }) (d_scO.M { s with t := (((80 + j) : Nat) : Int) }) (outK d_scO.ts) = some (.normal, d_scO.E { s with t := (((80 + j) : Nat) : Int) - 1, before := kbit s.k (80 + j), r := stepRg e.fo (swapRg s.r (!(kbit s.k (80 + j) == s.before))) s.x }, d_scO.M { s with t := (((80 + j) : Nat) : Int) - 1, before := kbit s.k (80 + j), r := stepRg e.fo (swapRg s.r (!(kbit s.k (80 + j) == s.before))) s.x })
  | 0, _ => by kernel_rfl
  | 1, _ => by kernel_rfl
  | 2, _ => by kernel_rfl
  | 3, _ => by kernel_rfl
  | 4, _ => by kernel_rfl
  | 5, _ => by kernel_rfl
  | 6, _ => by kernel_rfl
  | 7, _ => by kernel_rfl
theorem scO_step_11 (e : EOps) (s : S_scO) : ∀ j : Nat, j < 8 → codeK (X_loud e) [] scP.ntmps [0,1,2,3,4,5,6,7,8,9,10,11,23] 80 (loopB (bodyOf scP) 8) (d_scO.E { s with t := (((88 + j) : Nat) : Int) }) (d_scO.M { s with t := (((88 + j) : Nat) : Int) }) (outK d_scO.ts) = some (.normal, d_scO.E { s with t := (((88 + j) : Nat) : Int) - 1, before := kbit s.k (88 + j), r := stepRg e.fo (swapRg s.r (!(kbit s.k (88 + j) == s.before))) s.x }, d_scO.M { s with t := (((88 + j) : Nat) : Int) - 1, before := kbit s.k (88 + j), r := stepRg e.fo (swapRg s.r (!(kbit s.k (88 + j) == s.before))) s.x })
  | 0, _ => by kernel_rfl
  | 1, _ => by kernel_rfl
  | 2, _ => by kernel_rfl
  | 3, _ => by kernel_rfl
  | 4, _ => by kernel_rfl
  | 5, _ => by kernel_rfl
  | 6, _ => by kernel_rfl
  | 7, _ => by kernel_rfl
theorem scO_step_12 (e : EOps) (s : S_scO) : ∀ j : Nat, j < 8 → codeK (X_loud e) [] scP.ntmps [0,1,2,3,4,5,6,7,8,9,10,11,23] 80 (loopB (bodyOf scP) 8) (d_scO.E { s with t := (((96 + j) : Nat) : Int) }) (d_scO.M { s with t := (((96 + j) : Nat) : Int) }) (outK d_scO.ts) = some (.normal, d_scO.E { s with t := (((96 + j) : Nat) : Int) - 1, before := kbit s.k (96 + j), r := stepRg e.fo (swapRg s.r (!(kbit s.k (96 + j) == s.before))) s.x }, d_scO.M { s with t := (((96 + j) : Nat) : Int) - 1, before := kbit s.k (96 + j), r := stepRg e.fo (swapRg s.r (!(kbit s.k (96 + j) == s.before))) s.x })
  | 0, _ => by kernel_rfl
  | 1, _ => by kernel_rfl
  | 2, _ => by kernel_rfl
  | 3, _ => by kernel_rfl
  | 4, _ => by kernel_rfl
  | 5, _ => by kernel_rfl
  | 6, _ => by kernel_rfl
  | 7, _ => by kernel_rfl
theorem scO_step_13 (e : EOps) (s : S_scO) : ∀ j : Nat, j < 8 → codeK (X_loud e) [] scP.ntmps [0,1,2,3,4,5,6,7,8,9,10,11,23] 80 (loopB (bodyOf scP) 8) (d_scO.E { s with t := (((104 + j) : Nat) : Int) }) (d_scO.M { s with t := (((104 + j) : Nat) : Int) }) (outK d_scO.ts) = some (.normal, d_scO.E { s with t := (((104 + j) : Nat) : Int) - 1, before := kbit s.k (104 + j), r := stepRg e.fo (swapRg s.r (!(kbit s.k (104 + j) == s.before))) s.x }, d_scO.M { s with t := (((104 + j) : Nat) : Int) - 1, before := kbit s.k (104 + j), r := stepRg e.fo (swapRg s.r (!(kbit s.k (104 + j) == s.before))) s.x })
  | 0, _ => by kernel_rfl
  | 1, _ => by kernel_rfl
  | 2, _ => by kernel_rfl
  | 3, _ => by kernel_rfl
  | 4, _ => by kernel_rfl
  | 5, _ => by kernel_rfl
  | 6, _ => by kernel_rfl
  | 7, _ => by kernel_rfl
theorem scO_step_14 (e : EOps) (s : S_scO) : ∀ j : Nat, j < 8 → codeK (X_loud e) [] scP.ntmps [0,1,2,3,4,5,6,7,8,9,10,11,23] 80 (loopB (bodyOf scP) 8) (d_scO.E { s with t := (((112 + j) : Nat) : Int) }) (d_scO.M { s with t := (((112 + j) : Nat) : Int) }) (outK d_scO.ts) = some (.normal, d_scO.E { s with t := (((112 + j) : Nat) : Int) - 1, before := kbit s.k (112 + j), r := stepRg e.fo (swapRg s.r (!(kbit s.k (112 + j) == s.before))) s.x }, d_scO.M { s with t := (((112 + j) : Nat) : Int) - 1, before := kbit s.k (112 + j), r := stepRg e.fo (swapRg s.r (!(kbit s.k (112 + j) == s.before))) s.x })
  | 0, _ => by kernel_rfl
  | 1, _ => by kernel_rfl
  | 2, _ => by kernel_rfl
  | 3, _ => by kernel_rfl
  | 4, _ => by kernel_rfl
  | 5, _ => by kernel_rfl
  | 6, _ => by kernel_rfl
  | 7, _ => by kernel_rfl
theorem scO_step_15 (e : EOps) (s : S_scO) : ∀ j : Nat, j < 8 → codeK (X_loud e) [] scP.ntmps [0,1,2,3,4,5,6,7,8,9,10,11,23] 80 (loopB (bodyOf scP) 8) (d_scO.E { s with t := (((120 + j) : Nat) : Int) }) (d_scO.M { s with t := (((120 + j) : Nat) : Int) }) (outK d_scO.ts) = some (.normal, d_scO.E { s with t := (((120 + j) : Nat) : Int) - 1, before := kbit s.k (120 + j), r := stepRg e.fo (swapRg s.r (!(kbit s.k (120 + j) == s.before))) s.x }, d_scO.M { s with t := (((120 + j) : Nat) : Int) - 1, before := kbit s.k (120 + j), r := stepRg e.fo (swapRg s.r (!(kbit s.k (120 + j) == s.before))) s.x })
  | 0, _ => by kernel_rfl
  | 1, _ => by kernel_rfl
  | 2, _ => by kernel_rfl
  | 3, _ => by kernel_rfl
  | 4, _ => by kernel_rfl
  | 5, _ => by kernel_rfl
  | 6, _ => by kernel_rfl
  | 7, _ => by kernel_rfl
theorem scO_step_16 (e : EOps) (s : S_scO) : ∀ j : Nat, j < 8 → codeK (X_loud e) [] scP.ntmps [0,1,2,3,4,5,6,7,8,9,10,11,23] 80 (loopB (bodyOf scP) 8) (d_scO.E { s with t := (((128 + j) : Nat) : Int) }) (d_scO.M { s with t := (((128 + j) : Nat) : Int) }) (outK d_scO.ts) = some (.normal, d_scO.E { s with t := (((128 + j) : Nat) : Int) - 1, before := kbit s.k (128 + j), r := stepRg e.fo (swapRg s.r (!(kbit s.k (128 + j) == s.before))) s.x }, d_scO.M { s with t := (((128 + j) : Nat) : Int) - 1, before := kbit s.k (128 + j), r := stepRg e.fo (swapRg s.r (!(kbit s.k (128 + j) == s.before))) s.x })
  | 0, _ => by kernel_rfl
  | 1, _ => by kernel_rfl
  | 2, _ => by kernel_rfl
  | 3, _ => by kernel_rfl
  | 4, _ => by kernel_rfl
  | 5, _ => by kernel_rfl
  | 6, _ => by kernel_rfl
  | 7, _ => by kernel_rfl
theorem scO_step_17 (e : EOps) (s : S_scO) : ∀ j : Nat, j < 8 → codeK (X_loud e) [] scP.ntmps [0,1,2,3,4,5,6,7,8,9,10,11,23] 80 (loopB (bodyOf scP) 8) (d_scO.E { s with t := (((136 + j) : Nat) : Int) }) (d_scO.M { s with t := (((136 + j) : Nat) : Int) }) (outK d_scO.ts) = some (.normal, d_scO.E { s with t := (((136 + j) : Nat) : Int) - 1, before := kbit s.k (136 + j), r := stepRg e.fo (swapRg s.r (!(kbit s.k (136 + j) == s.before))) s.x }, d_scO.M { s with t := (((136 + j) : Nat) : Int) - 1, before := kbit s.k (136 + j), r := stepRg e.fo (swapRg s.r (!(kbit s.k (136 + j) == s.before))) s.x })
  | 0, _ => by kernel_rfl
  | 1, _ => by kernel_rfl
  | 2, _ => by kernel_rfl
  | 3, _ => by kernel_rfl
  | 4, _ => by kernel_rfl
  | 5, _ => by kernel_rfl
  | 6, _ => by kernel_rfl
  | 7, _ => by kernel_rfl
theorem scO_step_18 (e : EOps) (s : S_scO) : ∀ j : Nat, j < 8 → codeK (X_loud e) [] scP.ntmps [0,1,2,3,4,5,6,7,8,9,10,11,23] 80 (loopB (bodyOf scP) 8) (d_scO.E { s with t := (((144 + j) : Nat) : Int) }) (d_scO.M { s with t := (((144 + j) : Nat) : Int) }) (outK d_scO.ts) = some (.normal, d_scO.E { s with t := (((144 + j) : Nat) : Int) - 1, before := kbit s.k (144 + j), r := stepRg e.fo (swapRg s.r (!(kbit s.k (144 + j) == s.before))) s.x }, d_scO.M { s with t := (((144 + j) : Nat) : Int) - 1, before := kbit s.k (144 + j), r := stepRg e.fo (swapRg s.r (!(kbit s.k (144 + j) == s.before))) s.x })
  | 0, _ => by kernel_rfl
  | 1, _ => by kernel_rfl
  | 2, _ => by kernel_rfl
  | 3, _ => by kernel_rfl
  | 4, _ => by kernel_rfl
  | 5, _ => by kernel_rfl
  | 6, _ => by kernel_rfl
  | 7, _ => by kernel_rfl
theorem scO_step_19 (e : EOps) (s : S_scO) : ∀ j : Nat, j < 8 → codeK (X_loud e) [] scP.ntmps [0,1,2,3,4,5,6,7,8,9,10,11,23] 80 (loopB (bodyOf scP) 8) (d_scO.E { s with t := (((152 + j) : Nat) : Int) }) (d_scO.M { s with t := (((152 + j) : Nat) : Int) }) (outK d_scO.ts) = some (.normal, d_scO.E { s with t := (((152 + j) : Nat) : Int) - 1, before := kbit s.k (152 + j), r := stepRg e.fo (swapRg s.r (!(kbit s.k (152 + j) == s.before))) s.x }, d_scO.M { s with t := (((152 + j) : Nat) : Int) - 1, before := kbit s.k (152 + j), r := stepRg e.fo (swapRg s.r (!(kbit s.k (152 + j) == s.before))) s.x })
  | 0, _ => by kernel_rfl
  | 1, _ => by kernel_rfl
  | 2, _ => by kernel_rfl
  | 3, _ => by kernel_rfl
  | 4, _ => by kernel_rfl
  | 5, _ => by kernel_rfl
  | 6, _ => by kernel_rfl
  | 7, _ => by kernel_rfl
theorem scO_step_20 (e : EOps) (s : S_scO) : ∀ j : Nat, j < 8 → codeK (X_loud e) [] scP.ntmps [0,1,2,3,4,5,6,7,8,9,10,11,23] 80 (loopB (bodyOf scP) 8) (d_scO.E { s with t := (((160 + j) : Nat) : Int) }) (d_scO.M { s with t := (((160 + j) : Nat) : Int) }) (outK d_scO.ts) = some (.normal, d_scO.E { s with t := (((160 + j) : Nat) : Int) - 1, before := kbit s.k (160 + j), r := stepRg e.fo (swapRg s.r (!(kbit s.k (160 + j) == s.before))) s.x }, d_scO.M { s with t := (((160 + j) : Nat) : Int) - 1, before := kbit s.k (160 + j), r := stepRg e.fo (swapRg s.r (!(kbit s.k (160 + j) == s.before))) s.x })
  | 0, _ => by kernel_rfl
  | 1, _ => by kernel_rfl
  | 2, _ => by kernel_rfl
  | 3, _ => by kernel_rfl
  | 4, _ => by kernel_rfl
  | 5, _ => by kernel_rfl
  | 6, _ => by kernel_rfl
  | 7, _ => by kernel_rfl
theorem scO_step_21 (e : EOps) (s : S_scO) : ∀ j : Nat, j < 8 → codeK (X_loud e) [] scP.ntmps [0,1,2,3,4,5,6,7,8,9,10,11,23] 80 (loopB (bodyOf scP) 8) (d_scO.E { s with t := (((168 + j) : Nat) : Int) }) (d_scO.M { s with t := (((168 + j) : Nat) : Int) }) (outK d_scO.ts) = some (.normal, d_scO.E { s with t := (((168 + j) : Nat) : Int) - 1, before := kbit s.k (168 + j), r := stepRg e.fo (swapRg s.r (!(kbit s.k (168 + j) == s.before))) s.x }, d_scO.M { s with t := (((168 + j) : Nat) : Int) - 1, before := kbit s.k (168 + j), r := stepRg e.fo (swapRg s.r (!(kbit s.k (168 + j) == s.before))) s.x })
  | 0, _ => by kernel_rfl
  | 1, _ => by kernel_rfl
  | 2, _ => by kernel_rfl
  | 3, _ => by kernel_rfl
  | 4, _ => by kernel_rfl
  | 5, _ => by kernel_rfl
  | 6, _ => by kernel_rfl
  | 7, _ => by kernel_rfl
theorem scO_step_22 (e : EOps) (s : S_scO) : ∀ j : Nat, j < 8 → codeK (X_loud e) [] scP.ntmps [0,1,2,3,4,5,6,7,8,9,10,11,23] 80 (loopB (bodyOf scP) 8) (d_scO.E { s with t := (((176 + j) : Nat) : Int) }) (d_scO.M { s with t := (((176 + j) : Nat) : Int) }) (outK d_scO.ts) = some (.normal, d_scO.E { s with t := (((176 + j) : Nat) : Int) - 1, before := kbit s.k (176 + j), r := stepRg e.fo (swapRg s.r (!(kbit s.k (176 + j) == s.before))) s.x }, d_scO.M { s with t := (((176 + j) : Nat) : Int) - 1, before := kbit s.k (176 + j), r := stepRg e.fo (swapRg s.r (!(kbit s.k (176 + j) == s.before))) s.x })
  | 0, _ => by kernel_rfl
  | 1, _ => by kernel_rfl
  | 2, _ => by kernel_rfl
  | 3, _ => by kernel_rfl
  | 4, _ => by kernel_rfl
  | 5, _ => by kernel_rfl
  | 6, _ => by kernel_rfl
  | 7, _ => by kernel_rfl
theorem scO_step_23 (e : EOps) (s : S_scO) : ∀ j : Nat, j < 8 → codeK (X_loud e) [] scP.ntmps [0,1,2,3,4,5,6,7,8,9,10,11,23] 80 (loopB (bodyOf scP) 8) (d_scO.E { s with t := (((184 + j) : Nat) : Int) }) (d_scO.M { s with t := (((184 + j) : Nat) : Int) }) (outK d_scO.ts) = some (.normal, d_scO.E { s with t := (((184 + j) : Nat) : Int) - 1, before := kbit s.k (184 + j), r := stepRg e.fo (swapRg s.r (!(kbit s.k (184 + j) == s.before))) s.x }, d_scO.M { s with t := (((184 + j) : Nat) : Int) - 1, before := kbit s.k (184 + j), r := stepRg e.fo (swapRg s.r (!(kbit s.k (184 + j) == s.before))) s.x })
  | 0, _ => by kernel_rfl
  | 1, _ => by kernel_rfl
  | 2, _ => by kernel_rfl
  | 3, _ => by kernel_rfl
  | 4, _ => by kernel_rfl
  | 5, _ => by kernel_rfl
  | 6, _ => by kernel_rfl
  | 7, _ => by kernel_rfl
theorem scO_step_24 (e : EOps) (s : S_scO) : ∀ j : Nat, j < 8 → codeK (X_loud e) [] scP.ntmps [0,1,2,3,4,5,6,7,8,9,10,11,23] 80 (loopB (bodyOf scP) 8) (d_scO.E { s with t := (((192 + j) : Nat) : Int) }) (d_scO.M { s with t := (((192 + j) : Nat) : Int) }) (outK d_scO.ts) = some (.normal, d_scO.E { s with t := (((192 + j) : Nat) : Int) - 1, before := kbit s.k (192 + j), r := stepRg e.fo (swapRg s.r (!(kbit s.k (192 + j) == s.before))) s.x }, d_scO.M { s with t := (((192 + j) : Nat) : Int) - 1, before := kbit s.k (192 + j), r := stepRg e.fo (swapRg s.r (!(kbit s.k (192 + j) == s.before))) s.x })
  | 0, _ => by kernel_rfl
  | 1, _ => by kernel_rfl
  | 2, _ => by kernel_rfl
  | 3, _ => by kernel_rfl
  | 4, _ => by kernel_rfl
  | 5, _ => by kernel_rfl
  | 6, _ => by kernel_rfl
  | 7, _ => by kernel_rfl
theorem scO_step_25 (e : EOps) (s : S_scO) : ∀ j : Nat, j < 8 → codeK (X_loud e) [] scP.ntmps [0,1,2,3,4,5,6,7,8,9,10,11,23] 80 (loopB (bodyOf scP) 8) (d_scO.E { s with t := (((200 + j) : Nat) : Int) }) (d_scO.M { s with t := (((200 + j) : Nat) : Int) }) (outK d_scO.ts) = some (.normal, d_scO.E { s with t := (((200 + j) : Nat) : Int) - 1, before := kbit s.k (200 + j), r := stepRg e.fo (swapRg s.r (!(kbit s.k (200 + j) == s.before))) s.x }, d_scO.M { s with t := (((200 + j) : Nat) : Int) - 1, before := kbit s.k (200 + j), r := stepRg e.fo (swapRg s.r (!(kbit s.k (200 + j) == s.before))) s.x })
  | 0, _ => by kernel_rfl
  | 1, _ => by kernel_rfl
  | 2, _ => by kernel_rfl
  | 3, _ => by kernel_rfl
  | 4, _ => by kernel_rfl
  | 5, _ => by kernel_rfl
  | 6, _ => by kernel_rfl
  | 7, _ => by kernel_rfl
theorem scO_step_26 (e : EOps) (s : S_scO) : ∀ j : Nat, j < 8 → codeK (X_loud e) [] scP.ntmps [0,1,2,3,4,5,6,7,8,9,10,11,23] 80 (loopB (bodyOf scP) 8) (d_scO.E { s with t := (((208 + j) : Nat) : Int) }) (d_scO.M { s with t := (((208 + j) : Nat) : Int) }) (outK d_scO.ts) = some (.normal, d_scO.E { s with t := (((208 + j) : Nat) : Int) - 1, before := kbit s.k (208 + j), r := stepRg e.fo (swapRg s.r (!(kbit s.k (208 + j) == s.before))) s.x }, d_scO.M { s with t := (((208 + j) : Nat) : Int) - 1, before := kbit s.k (208 + j), r := stepRg e.fo (swapRg s.r (!(kbit s.k (208 + j) == s.before))) s.x })
  | 0, _ => by kernel_rfl
  | 1, _ => by kernel_rfl
  | 2, _ => by kernel_rfl
  | 3, _ => by kernel_rfl
  | 4, _ => by kernel_rfl
  | 5, _ => by kernel_rfl
  | 6, _ => by kernel_rfl
  | 7, _ => by kernel_rfl
theorem scO_step_27 (e : EOps) (s : S_scO) : ∀ j : Nat, j < 8 → codeK (X_loud e) [] scP.ntmps [0,1,2,3,4,5,6,7,8,9,10,11,23] 80 (loopB (bodyOf scP) 8) (d_scO.E { s with t := (((216 + j) : Nat) : Int) }) (d_scO.M { s with t := (((216 + j) : Nat) : Int) }) (outK d_scO.ts) = some (.normal, d_scO.E { s with t := (((216 + j) : Nat) : Int) - 1, before := kbit s.k (216 + j), r := stepRg e.fo (swapRg s.r (!(kbit s.k (216 + j) == s.before))) s.x }, d_scO.M { s with t := (((216 + j) : Nat) : Int) - 1, before := kbit s.k (216 + j), r := stepRg e.fo (swapRg s.r (!(kbit s.k (216 + j) == s.before))) s.x })
  | 0, _ => by kernel_rfl
  | 1, _ => by kernel_rfl
  | 2, _ => by kernel_rfl
  | 3, _ => by kernel_rfl
  | 4, _ => by kernel_rfl
  | 5, _ => by kernel_rfl
  | 6, _ => by kernel_rfl
  | 7, _ => by kernel_rfl
theorem scO_step_28 (e : EOps) (s : S_scO) : ∀ j : Nat, j < 8 → codeK (X_loud e) [] scP.ntmps [0,1,2,3,4,5,6,7,8,9,10,11,23] 80 (loopB (bodyOf scP) 8) (d_scO.E { s with t := (((224 + j) : Nat) : Int) }) (d_scO.M { s with t := (((224 + j) : Nat) : Int) }) (outK d_scO.ts) = some (.normal, d_scO.E { s with t := (((224 + j) : Nat) : Int) - 1, before := kbit s.k (224 + j), r := stepRg e.fo (swapRg s.r (!(kbit s.k (224 + j) == s.before))) s.x }, d_scO.M { s with t := (((224 + j) : Nat) : Int) - 1, before := kbit s.k (224 + j), r := stepRg e.fo (swapRg s.r (!(kbit s.k (224 + j) == s.before))) s.x })
  | 0, _ => by kernel_rfl
  | 1, _ => by kernel_rfl
  | 2, _ => by kernel_rfl
  | 3, _ => by kernel_rfl
  | 4, _ => by kernel_rfl
  | 5, _ => by kernel_rfl
  | 6, _ => by kernel_rfl
  | 7, _ => by kernel_rfl
theorem scO_step_29 (e : EOps) (s : S_scO) : ∀ j : Nat, j < 8 → codeK (X_loud e) [] scP.ntmps [0,1,2,3,4,5,6,7,8,9,10,11,23] 80 (loopB (bodyOf scP) 8) (d_scO.E { s with t := (((232 + j) : Nat) : Int) }) (d_scO.M { s with t := (((232 + j) : Nat) : Int) }) (outK d_scO.ts) = some (.normal, d_scO.E { s with t := (((232 + j) : Nat) : Int) - 1, before := kbit s.k (232 + j), r := stepRg e.fo (swapRg s.r (!(kbit s.k (232 + j) == s.before))) s.x }, d_scO.M { s with t := (((232 + j) : Nat) : Int) - 1, before := kbit s.k (232 + j), r := stepRg e.fo (swapRg s.r (!(kbit s.k (232 + j) == s.before))) s.x })
  | 0, _ => by kernel_rfl
  | 1, _ => by kernel_rfl
  | 2, _ => by kernel_rfl
  | 3, _ => by kernel_rfl
  | 4, _ => by kernel_rfl
  | 5, _ => by kernel_rfl
  | 6, _ => by kernel_rfl
  | 7, _ => by kernel_rfl
theorem scO_step_30 (e : EOps) (s : S_scO) : ∀ j : Nat, j < 8 → codeK (X_loud e) [] scP.ntmps [0,1,2,3,4,5,6,7,8,9,10,11,23] 80 (loopB (bodyOf scP) 8) (d_scO.E { s with t := (((240 + j) : Nat) : Int) }) (d_scO.M { s with t := (((240 + j) : Nat) : Int) }) (outK d_scO.ts) = some (.normal, d_scO.E { s with t := (((240 + j) : Nat) : Int) - 1, before := kbit s.k (240 + j), r := stepRg e.fo (swapRg s.r (!(kbit s.k (240 + j) == s.before))) s.x }, d_scO.M { s with t := (((240 + j) : Nat) : Int) - 1, before := kbit s.k (240 + j), r := stepRg e.fo (swapRg s.r (!(kbit s.k (240 + j) == s.before))) s.x })
  | 0, _ => by kernel_rfl
  | 1, _ => by kernel_rfl
  | 2, _ => by kernel_rfl
  | 3, _ => by kernel_rfl
  | 4, _ => by kernel_rfl
  | 5, _ => by kernel_rfl
  | 6, _ => by kernel_rfl
  | 7, _ => by kernel_rfl
theorem scO_step_31 (e : EOps) (s : S_scO) : ∀ j : Nat, j < 7 → codeK (X_loud e) [] scP.ntmps [0,1,2,3,4,5,6,7,8,9,10,11,23] 80 (loopB (bodyOf scP) 8) (d_scO.E { s with t := (((248 + j) : Nat) : Int) }) (d_scO.M { s with t := (((248 + j) : Nat) : Int) }) (outK d_scO.ts) = some (.normal, d_scO.E { s with t := (((248 + j) : Nat) : Int) - 1, before := kbit s.k (248 + j), r := stepRg e.fo (swapRg s.r (!(kbit s.k (248 + j) == s.before))) s.x }, d_scO.M { s with t := (((248 + j) : Nat) : Int) - 1, before := kbit s.k (248 + j), r := stepRg e.fo (swapRg s.r (!(kbit s.k (248 + j) == s.before))) s.x })
  | 0, _ => by kernel_rfl
  | 1, _ => by kernel_rfl
  | 2, _ => by kernel_rfl
  | 3, _ => by kernel_rfl
  | 4, _ => by kernel_rfl
  | 5, _ => by kernel_rfl
  | 6, _ => by kernel_rfl
theorem scO_step (e : EOps) (s : S_scO) (t : Nat) (ht : t < 255) : codeK (X_loud e) [] scP.ntmps [0,1,2,3,4,5,6,7,8,9,10,11,23] 80 (loopB (bodyOf scP) 8) (d_scO.E { s with t := ((t : Nat) : Int) }) (d_scO.M { s with t := ((t : Nat) : Int) }) (outK d_scO.ts) = some (.normal, d_scO.E { s with t := ((t : Nat) : Int) - 1, before := kbit s.k t, r := stepRg e.fo (swapRg s.r (!(kbit s.k t == s.before))) s.x }, d_scO.M { s with t := ((t : Nat) : Int) - 1, before := kbit s.k t, r := stepRg e.fo (swapRg s.r (!(kbit s.k t == s.before))) s.x }) := by
  by_cases h0 : t < 8
  · have := scO_step_0 e s (t - 0) (by omega)
    rw [show 0 + (t - 0) = t by omega] at this
    exact this
  by_cases h1 : t < 16
  · have := scO_step_1 e s (t - 8) (by omega)
    rw [show 8 + (t - 8) = t by omega] at this
    exact this
  by_cases h2 : t < 24
  · have := scO_step_2 e s (t - 16) (by omega)
    rw [show 16 + (t - 16) = t by omega] at this
    exact this
  by_cases h3 : t < 32
  · have := scO_step_3 e s (t - 24) (by omega)
    rw [show 24 + (t - 24) = t by omega] at this
    exact this
  by_cases h4 : t < 40
  · have := scO_step_4 e s (t - 32) (by omega)
    rw [show 32 + (t - 32) = t by omega] at this
    exact this
  by_cases h5 : t < 48
  · have := scO_step_5 e s (t - 40) (by omega)
    rw [show 40 + (t - 40) = t by omega] at this
    exact this
  by_cases h6 : t < 56
  · have := scO_step_6 e s (t - 48) (by omega)
    rw [show 48 + (t - 48) = t by omega] at this
    exact this
  by_cases h7 : t < 64
  · have := scO_step_7 e s (t - 56) (by omega)
    rw [show 56 + (t - 56) = t by omega] at this
    exact this
  by_cases h8 : t < 72
  · have := scO_step_8 e s (t - 64) (by omega)
    rw [show 64 + (t - 64) = t by omega] at this
    exact this
  by_cases h9 : t < 80
  · have := scO_step_9 e s (t - 72) (by omega)
    rw [show 72 + (t - 72) = t by omega] at this
    exact this
  by_cases h10 : t < 88
  · have := scO_step_10 e s (t - 80) (by omega)
    rw [show 80 + (t - 80) = t by omega] at this
    exact this
  by_cases h11 : t < 96
  · have := scO_step_11 e s (t - 88) (by omega)
    rw [show 88 + (t - 88) = t by omega] at this
    exact this
  by_cases h12 : t < 104
  · have := scO_step_12 e s (t - 96) (by omega)
    rw [show 96 + (t - 96) = t by omega] at this
    exact this
  by_cases h13 : t < 112
  · have := scO_step_13 e s (t - 104) (by omega)
    rw [show 104 + (t - 104) = t by omega] at this
    exact this
  by_cases h14 : t < 120
  · have := scO_step_14 e s (t - 112) (by omega)
    rw [show 112 + (t - 112) = t by omega] at this
    exact this
  by_cases h15 : t < 128
  · have := scO_step_15 e s (t - 120) (by omega)
    rw [show 120 + (t - 120) = t by omega] at this
    exact this
  by_cases h16 : t < 136
  · have := scO_step_16 e s (t - 128) (by omega)
    rw [show 128 + (t - 128) = t by omega] at this
    exact this
  by_cases h17 : t < 144
  · have := scO_step_17 e s (t - 136) (by omega)
    rw [show 136 + (t - 136) = t by omega] at this
    exact this
  by_cases h18 : t < 152
  · have := scO_step_18 e s (t - 144) (by omega)
    rw [show 144 + (t - 144) = t by omega] at this
    exact this
  by_cases h19 : t < 160
  · have := scO_step_19 e s (t - 152) (by omega)
    rw [show 152 + (t - 152) = t by omega] at this
    exact this
  by_cases h20 : t < 168
  · have := scO_step_20 e s (t - 160) (by omega)
    rw [show 160 + (t - 160) = t by omega] at this
    exact this
  by_cases h21 : t < 176
  · have := scO_step_21 e s (t - 168) (by omega)
    rw [show 168 + (t - 168) = t by omega] at this
    exact this
  by_cases h22 : t < 184
  · have := scO_step_22 e s (t - 176) (by omega)
    rw [show 176 + (t - 176) = t by omega] at this
    exact this
  by_cases h23 : t < 192
  · have := scO_step_23 e s (t - 184) (by omega)
    rw [show 184 + (t - 184) = t by omega] at this
    exact this
  by_cases h24 : t < 200
  · have := scO_step_24 e s (t - 192) (by omega)
    rw [show 192 + (t - 192) = t by omega] at this
    exact this
  by_cases h25 : t < 208
  · have := scO_step_25 e s (t - 200) (by omega)
    rw [show 200 + (t - 200) = t by omega] at this
    exact this
  by_cases h26 : t < 216
  · have := scO_step_26 e s (t - 208) (by omega)
    rw [show 208 + (t - 208) = t by omega] at this
    exact this
  by_cases h27 : t < 224
  · have := scO_step_27 e s (t - 216) (by omega)
    rw [show 216 + (t - 216) = t by omega] at this
    exact this
  by_cases h28 : t < 232
  · have := scO_step_28 e s (t - 224) (by omega)
    rw [show 224 + (t - 224) = t by omega] at this
    exact this
  by_cases h29 : t < 240
  · have := scO_step_29 e s (t - 232) (by omega)
    rw [show 232 + (t - 232) = t by omega] at this
    exact this
  by_cases h30 : t < 248
  · have := scO_step_30 e s (t - 240) (by omega)
    rw [show 240 + (t - 240) = t by omega] at this
    exact this
  by_cases h31 : t < 255
  · have := scO_step_31 e s (t - 248) (by omega)
    rw [show 248 + (t - 248) = t by omega] at this
    exact this
  omega
theorem scO_exit (e : EOps) (s : S_scO) : codeK (X_loud e) [] scP.ntmps [0,1,2,3,4,5,6,7,8,9,10,11,23] 80 (loopB (bodyOf scP) 8) (d_scO.E { s with t := -1 }) (d_scO.M { s with t := -1 }) (outK d_scO.ts) =
    some (.exit 0, d_scO.E { s with t := -1 }, d_scO.M { s with t := -1 }) := by kernel_rfl
/-- the ladder after some rounds, from bit 254 down -/
def ladP (o : FOps) (k : K32) (x : L5) (r : Rungs) (b : Bool) : Nat → Rungs × Bool
  | 0 => (r, b)
  | i + 1 => (stepRg o (swapRg (ladP o k x r b i).1 (!(kbit k (254 - i) == (ladP o k x r b i).2))) x, kbit k (254 - i))
def gSc (o : FOps) : LoopFn := d_scO.fn (fun s => decide (s.t = 254)) (.exit 0) (fun s => { s with t := -1, before := (ladP o s.k s.x s.r s.before 255).2, r := (ladP o s.k s.x s.r s.before 255).1 })
theorem scO_at : LoopAt Try.prog scP.ntmps (loopB (bodyOf scP) 8) (gSc concE.fo) := by
  refine d_scO.loop (keep := [0,1,2,3,4,5,6,7,8,9,10,11,23]) X_loud_ok LoopsOK.nil (by simp) fun s hg => ⟨255, fun i => { s with t := 254 - (i : Int), before := (ladP concE.fo s.k s.x s.r s.before i).2, r := (ladP concE.fo s.k s.x s.r s.before i).1 }, ?_, fun i hi => ⟨80, ?_⟩, 80, ?_⟩
  · have := of_decide_eq_true hg
    cases s; simp_all [ladP]
  · have h := scO_step concE { s with before := (ladP concE.fo s.k s.x s.r s.before i).2, r := (ladP concE.fo s.k s.x s.r s.before i).1 } (254 - i) (by omega)
    rw [show (((254 - i : Nat) : Nat) : Int) = 254 - (i : Int) by omega] at h
    dsimp only at h ⊢
    rw [show 254 - ((i + 1 : Nat) : Int) = 254 - (i : Int) - 1 by omega, show ladP concE.fo s.k s.x s.r s.before (i + 1) = (stepRg concE.fo (swapRg (ladP concE.fo s.k s.x s.r s.before i).1 (!(kbit s.k (254 - i) == (ladP concE.fo s.k s.x s.r s.before i).2))) s.x, kbit s.k (254 - i)) from rfl]
    exact h
  · exact scO_exit concE { s with before := (ladP concE.fo s.k s.x s.r s.before 255).2, r := (ladP concE.fo s.k s.x s.r s.before 255).1 }
theorem sc_loops : LoopsOK Try.prog scP.ntmps [(8, gSc concE.fo)] (bodyOf scP) := loopsOK_cons LoopsOK.nil (by kernel_rfl) scO_at
def ladEnd (o : FOps) (k : K32) (x : L5) : Rungs := swapRg (ladP o k x ⟨o.small 1, zero5, x, o.small 1⟩ false 255).1 (ladP o k x ⟨o.small 1, zero5, x, o.small 1⟩ false 255).2
def scaleO (o : FOps) (k u : K32) : K32 := o.bytes (o.mul (ladEnd o (clampC k) (o.frm u)).a (invO o (ladEnd o (clampC k) (o.frm u)).b))
theorem cscaleP_run (e : EOps) (k : K32) (u : K32) : runNL (X_loud e) [(8, gSc e.fo)] [0,1,2,3,4,5,6,7,8,9,10,11,23] 300 Try.f74 (bodyOf Try.f74) (laArgs [.v (keyV k), .v (keyV u)] 0) (laLists [.v (keyV k), .v (keyV u)]) = some (keyV (scaleO e.fo k u), none) := by
  kernel_rfl
def g_cscaleP (e : EOps) (args : List LA) : Option (AV × Option Blk) := match args with
  | [.v x0, .v x1] => (match key? x0, key? x1 with
    | some k, some u => some (keyV (scaleO e.fo k u), none)
    | _, _ => none)
  | _ => none
theorem cscaleP_at : QuietAt Try.prog 74 (lav (g_cscaleP concE)) := by
  refine quietAt_of_runA X_loud_ok (L := [(8, gSc concE.fo)]) (keep := [0,1,2,3,4,5,6,7,8,9,10,11,23]) Try.func74 (c := bodyOf Try.f74) (by kernel_rfl) (by kernel_rfl) (sc_loops) fun args v h hw => ⟨300, ?_⟩
  unfold g_cscaleP at h
  split at h
  · rename_i x0 x1
    split at h
    · rename_i k u hh0 hh1
      have ehh0 := key?_some hh0
      subst ehh0
      have ehh1 := key?_some hh1
      subst ehh1
      rw [← h]
      refine (cscaleP_run concE k u).trans ?_
      rfl
    · cases h
  · cases h
noncomputable def X_cscaleP (e : EOps) : Cx := { X_loud e with O := addQ (X_loud e).O 74 (lav (g_cscaleP e)) }
theorem X_cscaleP_ok : CxOK Try.prog (X_cscaleP concE) := { X_loud_ok with quiet := addQ_ok X_loud_ok.quiet cscaleP_at }
/-! ### bits -/
theorem leL_byteC : ∀ (l : List Nat), (∀ b ∈ l, b < 256) → ∀ j, leL l / 256 ^ j % 256 = l.getD j 0
  | [], _, j => by simp [leL]
  | b :: l, h, 0 => by
    have hb := h b (by simp)
    show (b + 256 * leL l) / 1 % 256 = b
    omega
  | b :: l, h, j + 1 => by
    have hb := h b (by simp)
    have ih := leL_byteC l (fun c hc => h c (by simp [hc])) j
    show (b + 256 * leL l) / 256 ^ (j + 1) % 256 = l.getD j 0
    rw [← ih, Nat.pow_succ, Nat.mul_comm (256 ^ j) 256, ← Nat.div_div_eq_div_mul, show (b + 256 * leL l) / 256 = leL l by omega]
theorem and_oneC (n : Nat) : n &&& 1 = n % 2 := by
  rw [show (1 : Nat) = 2 ^ 1 - 1 from rfl, Nat.and_two_pow_sub_one_eq_mod]
theorem kbit_test {k : K32} (hk : k.wf) (t : Nat) : kbit k t = (leVal k).testBit t := by
  have h := leL_byteC k.toList hk (t / 8)
  unfold kbit byteAt leVal
  rw [← h, Nat.testBit_eq_decide_div_mod_eq, and_oneC]
  generalize leL k.toList = n
  have e : n / 2 ^ t = n / 256 ^ (t / 8) / 2 ^ (t % 8) := by
    rw [Nat.div_div_eq_div_mul, show (256 : Nat) = 2 ^ 8 from rfl, ← Nat.pow_mul, ← Nat.pow_add, Nat.div_add_mod]
  rw [e, show min (t % 8) 8 = t % 8 by omega]
  generalize n / 256 ^ (t / 8) = m
  have : t % 8 = 0 ∨ t % 8 = 1 ∨ t % 8 = 2 ∨ t % 8 = 3 ∨ t % 8 = 4 ∨ t % 8 = 5 ∨ t % 8 = 6 ∨ t % 8 = 7 := by omega
  refine decide_eq_decide.2 ?_
  rcases this with h | h | h | h | h | h | h | h <;> rw [h] <;> simp only [Nat.reducePow] <;> omega
/-! ### the ladder -/
variable {o : FOps}
structure NvG (r : Rungs) (s : RF) : Prop where
  a : NV r.a s.a
  b : NV r.b s.b
  c : NV r.c s.c
  d : NV r.d s.d
theorem NvG.turn {r : Rungs} {s : RF} (h : NvG r s) : NvG (swapRg r true) s.turn := ⟨h.c, h.d, h.a, h.b⟩
theorem NvG.turn' {r : Rungs} {s : RF} (h : NvG (swapRg r true) s) : NvG r s.turn := ⟨h.c, h.d, h.a, h.b⟩
theorem toF_121665C : toF 121665 = (121665 : Fp) := by decide +kernel
theorem toF_486662C : toF 486662 = (486662 : Fp) := by decide +kernel
theorem FGood.step (G : FGood o) {r : Rungs} {s : RF} {x : L5} {u : Fp} (h : NvG r s) (hx : NV x u) : NvG (stepRg o r x) (stepF u s) := by
  have e := G.add h.a h.b
  have f := G.sub h.a h.b
  have m := G.mul (G.sub h.c h.d) e
  have n := G.mul (G.add h.c h.d) f
  have y := G.sq e
  have z := G.sq f
  have w := G.sub y z
  have t := G.times (n := 121665) w (by decide)
  rw [toF_121665C, Fin.mul_comm _ (121665 : Fp)] at t
  exact ⟨G.mul y z, G.mul w (G.add y t), G.sq (G.add m n), G.mul hx (G.sq (G.sub m n))⟩
theorem FGood.lad (G : FGood o) {k : K32} (hk : k.wf) {x : L5} {u : Fp} (hx : NV x u) : ∀ i, NvG (swapRg (ladP o k x ⟨o.small 1, zero5, x, o.small 1⟩ false i).1 (ladP o k x ⟨o.small 1, zero5, x, o.small 1⟩ false i).2) (ladF (leVal k).testBit u i)
  | 0 => ⟨G.one, NV.zero, hx, G.one⟩
  | i + 1 => by
    have ih := G.lad hk hx i
    rw [show ladP o k x ⟨o.small 1, zero5, x, o.small 1⟩ false (i + 1) = (stepRg o (swapRg (ladP o k x ⟨o.small 1, zero5, x, o.small 1⟩ false i).1 (!(kbit k (254 - i) == (ladP o k x ⟨o.small 1, zero5, x, o.small 1⟩ false i).2))) x, kbit k (254 - i)) from rfl,
      ladF, kbit_test hk, roundF]
    generalize ladP o k x ⟨o.small 1, zero5, x, o.small 1⟩ false i = p at *
    obtain ⟨g, b⟩ := p
    generalize ladF (leVal k).testBit u i = s at *
    generalize (leVal k).testBit (254 - i) = c
    dsimp only at ih ⊢
    cases c
    · rw [cond_false]
      cases b
      · exact G.step ih hx
      · exact G.step ih hx
    · rw [cond_true]
      cases b
      · exact (G.step ih.turn hx).turn
      · exact (G.step ih.turn' hx).turn
/-- the number that a key says -/
def numC (u : K32) : Fp := toF (leVal u % B255)
theorem FGood.curve_scale (G : FGood o) {k u : K32} (hk : (clampC k).wf) (hu : u.wf) : (scaleO o k u).wf ∧ leVal (scaleO o k u) = (scaleF (leVal (clampC k)).testBit (numC u)).val := by
  have h : NvG (ladEnd o (clampC k) (o.frm u)) (ladF (leVal (clampC k)).testBit (numC u) 255) := by unfold ladEnd; exact G.lad hk (G.frm hu) 255
  unfold scaleO scaleF
  generalize ladEnd o (clampC k) (o.frm u) = r at *
  generalize ladF (leVal (clampC k)).testBit (numC u) 255 = s at *
  exact G.bytes (G.mul h.a (G.inv h.b))
theorem wF_alt (v : Fp) : v * v * v + v * v * 486662 + v = wF v := by unfold wF; grind
theorem FGood.on_curve (G : FGood o) {u : K32} (hu : u.wf) : rootB o (onXc o (o.frm u)) = hasRoot (wF (numC u)) := by
  have x := G.frm hu
  have h := G.add (G.add (G.mul (G.sq x) x) (G.times (n := 486662) (G.sq x) (by decide))) x
  rw [toF_486662C, wF_alt] at h
  unfold onXc numC
  exact (G.root h).2
/-! ### clamped keys -/
theorem byte_lowC : ∀ b, b < 256 → b &&& 248 = b / 8 * 8 % 256 := by decide +kernel
theorem byte_highC : ∀ b, b < 256 → b &&& 127 ||| 64 = (b % 64 + 64) % 256 := by decide +kernel
theorem clampC_wf {k : K32} (h : k.wf) : (clampC k).wf := by
  intro b hb
  simp only [clampC, K32.toList, List.mem_cons, List.not_mem_nil, or_false] at hb
  have hm : ∀ c ∈ k.toList, c < 256 := h
  simp only [K32.toList, List.mem_cons, List.not_mem_nil, or_false, forall_eq_or_imp, forall_eq] at hm
  rw [byte_lowC _ (by omega), byte_highC _ (by omega)] at hb
  omega
theorem clampC_lt {k : K32} (h : k.wf) : leVal (clampC k) < 2 ^ 255 ∧ leVal (clampC k) % 2 = 0 := by
  have hw := clampC_wf h
  obtain ⟨r, h1, h2⟩ := hi_low hw
  have hm : ∀ c ∈ k.toList, c < 256 := h
  simp only [K32.toList, List.mem_cons, List.not_mem_nil, or_false, forall_eq_or_imp, forall_eq] at hm
  have e31 : (clampC k).b31 = (k.b31 % 64 + 64) % 256 := by show k.b31 &&& 127 ||| 64 = _; exact byte_highC _ (by omega)
  have e0 : (clampC k).b0 = k.b0 / 8 * 8 % 256 := by show k.b0 &&& 248 = _; exact byte_lowC _ (by omega)
  have e255 : (2 : Nat) ^ 255 = 57896044618658097711785492504343953926634992332820282019728792003956564819968 := by decide +kernel
  refine ⟨by rw [h1, e31, e255]; omega, ?_⟩
  have h3 := leL_byteC (clampC k).toList hw 0
  have h4 : (clampC k).toList.getD 0 0 = (clampC k).b0 := rfl
  rw [h4, e0, Nat.pow_zero, Nat.div_one] at h3
  unfold leVal
  omega
/-! ### the curve of layer 19 as the ladder's -/
def CE : LC := ⟨ED, 1, -121666, by decide +kernel, by decide +kernel, by decide +kernel⟩
theorem uOf_CE (P : EPt) : uOf CE P = uP P := by
  show (1 : Fp) * (1 + P.y) * finv (1 - P.y) = (1 + P.y) * finv (1 - P.y)
  rw [Fin.one_mul]
theorem ladder_here {n : Nat} (hn : n < 2 ^ 255) (he : n % 2 = 0) (P : EPt) : scaleF n.testBit (uP P) = uP (P.mul n) := by
  rw [← uOf_CE P]
  exact (scale_of_u (C := CE) hn he P).trans (uOf_CE _)
theorem rt_486664 : ∃ r : Fp, r ≠ 0 ∧ r * r = -486664 :=
  ⟨48802004052532134862652268456126542835229456083994414501085850622543968879637 * 19681161376707505956807079304988542015446066515923890162744021073123829784752, by decide +kernel, by decide +kernel⟩
theorem lift_is {u : Fp} {P : EPt} (h1 : u + 1 ≠ 0) (hy : P.y = (u - 1) * finv (u + 1)) : P.y * (u + 1) = u - 1 := by
  rw [hy]; exact mul_inv_mul h1
theorem two_z {u : Fp} (h : 1 * (u + 1) = u - 1) : (2 : Fp) = 0 := by
  have e : (2 : Fp) = (1 * (u + 1)) - (u - 1) := by clear h; grind
  rw [e, h, Fin.sub_self]
theorem two_zu {u : Fp} (h : -1 * (u + 1) = u - 1) : (2 : Fp) * u = 0 := by
  have e : (2 : Fp) * u = (u - 1) - (-1 * (u + 1)) := by clear h; grind
  rw [e, h, Fin.sub_self]
theorem lift_u {u : Fp} {P : EPt} (hy : P.y * (u + 1) = u - 1) : uP P = u := by
  have hn : 1 - P.y ≠ 0 := by
    intro h0
    have : P.y = 1 := by grind
    rw [this] at hy
    exact fp_two_ne (two_z hy)
  have h := mul_finv hn
  unfold uP
  refine fp_cancel hn ?_
  generalize finv (1 - P.y) = i at *
  generalize P.y = y at *
  grind
theorem yy_one {y d : Fp} (on : y * y - 0 * 0 = 1 + d * 0 * 0 * y * y) : (y - 1) * (y + 1) = 0 := by
  have e : (y - 1) * (y + 1) = (y * y - 0 * 0) - (1 + d * 0 * 0 * y * y) := by clear on; grind
  rw [e, on, Fin.sub_self]
theorem x_ne {u : Fp} {P : EPt} (h0 : u ≠ 0) (hy : P.y * (u + 1) = u - 1) : P.x ≠ 0 := by
  intro hx
  have on := ed_on P
  rw [hx] at on
  have e : (P.y - 1) * (P.y + 1) = 0 := yy_one on
  rcases fp_mul_zero e with h | h
  · have : P.y = 1 := by grind
    rw [this] at hy
    exact fp_two_ne (two_z hy)
  · have : P.y = -1 := by grind
    rw [this] at hy
    have h2 : (2 : Fp) * u = 0 := two_zu hy
    rcases fp_mul_zero h2 with h3 | h3
    · exact fp_two_ne h3
    · exact h0 h3
theorem wf_id {u x y d f : Fp} (on : y * y - x * x = 1 + d * x * x * y * y) (hy : y * (u + 1) = u - 1) (hf : f * (1 + d) = -4) (hg : f * (1 - d) = -973324) : 4 * (x * x * (u * u + 486662 * u + 1)) = 4 * (f * u) := by
  have e1 : x * x * ((u + 1) * (u + 1) + d * ((y * (u + 1)) * (y * (u + 1)))) = (y * (u + 1)) * (y * (u + 1)) - (u + 1) * (u + 1) := by
    have e2 : x * x * ((u + 1) * (u + 1) + d * ((y * (u + 1)) * (y * (u + 1)))) = (y * (u + 1)) * (y * (u + 1)) - (u + 1) * (u + 1) - (u + 1) * (u + 1) * ((y * y - x * x) - (1 + d * x * x * y * y)) := by
      clear on hy hf hg; grind
    rw [e2, on, Fin.sub_self]
    generalize (y * (u + 1)) * (y * (u + 1)) - (u + 1) * (u + 1) = w
    rw [Fin.mul_zero]
    clear on hy hf hg e2; grind
  rw [hy] at e1
  have e3 : f * (x * x * ((u + 1) * (u + 1) + d * ((u - 1) * (u - 1)))) = x * x * ((f * (1 + d)) * (u * u + 1) + 2 * u * (f * (1 - d))) := by clear on hy hf hg e1; grind
  rw [e1, hf, hg] at e3
  have e4 : f * ((u - 1) * (u - 1) - (u + 1) * (u + 1)) = -(4 * (f * u)) := by clear on hy hf hg e1 e3; grind
  have e5 : x * x * (-4 * (u * u + 1) + 2 * u * -973324) = -(4 * (x * x * (u * u + 486662 * u + 1))) := by clear on hy hf hg e1 e3 e4; grind
  rw [e4, e5] at e3
  generalize 4 * (x * x * (u * u + 486662 * u + 1)) = A at *
  generalize 4 * (f * u) = B at *
  clear on hy hf hg e1 e4 e5
  grind
theorem DF_plus : (-486664 : Fp) * (1 + DF) = -4 := by decide +kernel
theorem DF_minus : (-486664 : Fp) * (1 - DF) = -973324 := by decide +kernel
theorem four_ne : (4 : Fp) ≠ 0 := by decide +kernel
theorem wf_here {u : Fp} {P : EPt} (h0 : u ≠ 0) (hy : P.y * (u + 1) = u - 1) : isSq (wF u) := by
  have h := fp_cancel four_ne (wf_id (ed_on P) hy DF_plus DF_minus)
  obtain ⟨r, -, hr⟩ := rt_486664
  have hx := mul_finv (x_ne h0 hy)
  refine ⟨r * u * finv P.x, ?_⟩
  unfold wF
  generalize finv P.x = i at *
  generalize P.x = x at *
  rw [← hr] at h
  have e : u * u * u + 486662 * u * u + u = (x * x * (u * u + 486662 * u + 1)) * u * (i * i) := by
    have e2 : (x * x * (u * u + 486662 * u + 1)) * u * (i * i) = ((x * i) * (x * i)) * (u * u * u + 486662 * u * u + u) := by clear h hx hy; grind
    rw [e2, hx, Fin.one_mul, Fin.one_mul]
  rw [e, h]
  clear h e hx hy; grind
theorem here_of {u : Fp} (h0 : u ≠ 0) (hs : isSq (wF u)) : u + 1 ≠ 0 ∧ ∃ P : EPt, P.y * (u + 1) = u - 1 := by
  have hne : u + 1 ≠ 0 := by
    intro h
    have e : u = -1 := by
      have : u = (u + 1) - 1 := by clear h hs h0; grind
      rw [this, h]; decide +kernel
    subst e
    obtain ⟨v, hv⟩ := hs
    refine nsq_486660 ⟨v, ?_⟩
    rw [hv]; decide +kernel
  refine ⟨hne, ?_⟩
  obtain ⟨v, hv⟩ := hs
  obtain ⟨r, r0, hr⟩ := rt_486664
  have hi := mul_finv r0
  have hw0 : v ≠ 0 := by
    rintro rfl
    exact wF_ne h0 (by rw [← hv]; exact Fin.mul_zero _)
  have hv2 : (-486664 : Fp) * (v * finv r) * (v * finv r) = u * u * u + 486662 * u * u + u := by
    rw [show u * u * u + 486662 * u * u + u = wF u from rfl, ← hv, ← hr]
    generalize finv r = i at *
    have : r * r * (v * i) * (v * i) = ((r * i) * (r * i)) * (v * v) := by clear hi hv hr; grind
    rw [this, hi, Fin.one_mul, Fin.one_mul]
  obtain ⟨P, h1, -⟩ := mk_point (C := CE) (f := -486664) (v := v * finv r) (x := u) (A := 486662) (by decide +kernel) (by decide +kernel) hv2 (by decide +kernel) (fp_mul_ne hw0 (finv_ne r0)) hne
  have h2 : u * (1 - EP.y (E := ED) P) = 1 * (1 + EP.y (E := ED) P) := h1
  refine ⟨P, ?_⟩
  generalize EP.y (E := ED) P = y at *
  rw [Fin.one_mul] at h2
  have e : y * (u + 1) = u - 1 + ((1 + y) - u * (1 - y)) := by clear h1 h2 hv2; grind
  rw [e, h2, Fin.sub_self]
  exact Fin.add_zero _
end Go.Proofs.Ytnnjaijokiknkaa

