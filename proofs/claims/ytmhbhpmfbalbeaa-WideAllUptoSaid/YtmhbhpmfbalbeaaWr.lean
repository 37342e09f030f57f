/- The laws' own questions: alike; written all over. -/
import Derived.Test.YtmhbhpmfbalbeaaWq
namespace Go.Proofs.Ytmhbhpmfbalbeaa
open Go Pw Go.RowKit
/-! ### same -/
noncomputable abbrev smL : Func := Try.f13
structure S_sm where
  n0 : Nat
  n1 : Nat
  i : Int
  a : List Nat
  b : List Nat
def d_sm : LoopDef S_sm where
  ts := [0, 1, 5]
  E := fun s => [(0, .slice 0 0 s.n0 false), (1, .slice 1 0 s.n1 false), (5, .n s.i)]
  M := fun s => [⟨.bytes s.a, false⟩, ⟨.bytes s.b, false⟩]
  dec := fun vs mem => match vs, mem with
    | [.slice 0 0 n0 false, .slice 1 0 n1 false, x5], [⟨.bytes a, false⟩, ⟨.bytes b, false⟩] => (match int? x5 with
      | some i => some ⟨n0, n1, i, a, b⟩
      | _ => none)
    | _, _ => none
  ok := fun vs mem s h => by
    split at h
    · split at h
      · rename_i i hh0
        have ehh0 := int?_some hh0
        subst ehh0
        cases h; exact ⟨rfl, rfl⟩
      · cases h
    · cases h
def smX (s : S_sm) : Nat := 0 + s.i.toNat * 1
def smN (s : S_sm) : S_sm := { s with i := w64 (s.i + 1) }
theorem sm_step (o : SOps) (s : S_sm) : codeK (X_padR o) [] smL.ntmps [0,1,4,5,10,14,25] 60 (loopB (bodyOf smL) 4) (d_sm.E s) (d_sm.M s) (outK d_sm.ts) =
    bif decide (s.i < (s.n0 : Int)) then (bif decide (0 ≤ s.i ∧ s.i < (s.n0 : Int)) then (bif decide (smX s < s.a.length) then (bif decide (0 ≤ s.i ∧ s.i < (s.n1 : Int)) then (bif decide (smX s < s.b.length) then
      (bif !decide (s.a.getD (smX s) 0 = s.b.getD (smX s) 0) then some (.ret, d_sm.E s, d_sm.M s) else some (.normal, d_sm.E (smN s), d_sm.M (smN s))) else none) else none) else none) else none) else some (.exit 0, d_sm.E s, d_sm.M s) := by kernel_rfl
def gSm : LoopFn := d_sm.fn (fun s => decide (s.n0 = s.a.length ∧ s.n1 = s.n0 ∧ s.i = 0 ∧ s.a = s.b ∧ s.n0 < 4611686018427387904)) (.exit 0) (fun s => { s with i := (s.n0 : Int) })
theorem sm_at : LoopAt Try.prog smL.ntmps (loopB (bodyOf smL) 4) gSm := by
  refine d_sm.loop (keep := [0,1,4,5,10,14,25]) X_padR_ok LoopsOK.nil (by simp) fun s hg => ⟨s.n0, fun i => { s with i := (i : Int) }, ?_, fun i hi => ⟨60, ?_⟩, 60, ?_⟩
  · obtain ⟨-, -, h, -⟩ := of_decide_eq_true hg
    cases s; simp_all
  · obtain ⟨h1, h2, h3, h4, h5⟩ := of_decide_eq_true hg
    refine (sm_step concS _).trans ?_
    have hx : smX { s with i := (i : Int) } = i := by unfold smX; dsimp only; omega
    have hN : smN { s with i := (i : Int) } = { s with i := ((i + 1 : Nat) : Int) } := by
      unfold smN
      dsimp only
      rw [w64_id (by omega) (by omega)]; rfl
    rw [hx, hN]
    dsimp only
    rw [← h4, decide_eq_true (show (i : Int) < (s.n0 : Int) by omega), cond_true, decide_eq_true (show (0 : Int) ≤ (i : Int) ∧ (i : Int) < (s.n0 : Int) by omega), cond_true, decide_eq_true (show i < s.a.length by omega), cond_true,
      decide_eq_true (show (0 : Int) ≤ (i : Int) ∧ (i : Int) < (s.n1 : Int) by omega), cond_true, cond_true, decide_eq_true rfl]
    rfl
  · refine (sm_step concS _).trans ?_
    rw [decide_eq_false (show ¬ ((s.n0 : Nat) : Int) < (s.n0 : Int) by omega), cond_false]
theorem sm_loops : LoopsOK Try.prog smL.ntmps [(4, gSm)] (bodyOf smL) := loopsOK_cons LoopsOK.nil (by kernel_rfl) sm_at
def smT (a b : List Nat) : Option (AV × Option Blk) := bif !decide ((a.length : Int) = (b.length : Int)) then some (.bool false, none) else (bif decide (a.length = a.length ∧ b.length = a.length ∧ (0 : Int) = 0 ∧ a = b ∧ a.length < 4611686018427387904) then some (.bool true, none) else none)
theorem sameL_run (o : SOps) (a : List Nat) (b : List Nat) : runNL (X_padR o) [(4, gSm)] [0,1,4,5,10,14,25] 200 Try.f13 (bodyOf Try.f13) (laArgs [.l a, .l b] 0) (laLists [.l a, .l b]) = smT a b := by
  kernel_rfl
def u_sameL (_ : SOps) (args : List LA) : Option (AV × Option Blk) := match args with
  | [.l _, .l _] => some (.bool true, none)
  | _ => none
def c_sameL (args : List LA) : Bool := match args with
  | [.l a, .l b] => decide (a = b ∧ a.length < 4611686018427387904)
  | _ => false
def g_sameL (o : SOps) (args : List LA) : Option (AV × Option Blk) := bif c_sameL args then u_sameL o args else none
theorem sameL_at : QuietAt Try.prog 13 (lav (g_sameL concS)) := by
  refine quietAt_of_runA X_padR_ok (L := [(4, gSm)]) (keep := [0,1,4,5,10,14,25]) Try.func13 (c := bodyOf Try.f13) (by kernel_rfl) (by kernel_rfl) (sm_loops) fun args v h hw => ⟨200, ?_⟩
  unfold g_sameL at h
  have hg := (bif_some h).1
  replace h := (bif_some h).2
  unfold u_sameL at h
  split at h
  · rename_i a b
    replace hg : (decide (a = b ∧ a.length < 4611686018427387904)) = true := hg
    rw [← h]
    refine (sameL_run concS a b).trans ?_
    obtain ⟨h1, h2⟩ := of_decide_eq_true hg
    subst h1
    unfold smT
    rw [decide_eq_true rfl, Bool.not_true, cond_false, decide_eq_true ⟨rfl, rfl, rfl, rfl, h2⟩, cond_true]
  · cases h
def X_sameL (o : SOps) : Cx := { X_padR o with O := addQ (X_padR o).O 13 (lavG c_sameL (u_sameL o)) }
theorem X_sameL_ok : CxOK Try.prog (X_sameL concS) := { X_padR_ok with quiet := addQ_ok X_padR_ok.quiet (lavG_at sameL_at) }
/-! ### full -/
noncomputable abbrev flL : Func := Try.f14
structure S_fl where
  m : Nat
  x : Nat
  i : Int
  l : List Nat
def d_fl : LoopDef S_fl where
  ts := [0, 1, 4]
  E := fun s => [(0, .slice 0 0 s.m true), (1, .u .u8 s.x), (4, .n s.i)]
  M := fun s => [⟨.bytes s.l, true⟩]
  dec := fun vs mem => match vs, mem with
    | [.slice 0 0 m true, x1, x4], [⟨.bytes l, true⟩] => (match u8? x1, int? x4 with
      | some x, some i => some ⟨m, x, i, l⟩
      | _, _ => none)
    | _, _ => none
  ok := fun vs mem s h => by
    split at h
    · split at h
      · rename_i x i hh0 hh1
        have ehh0 := u8?_some hh0
        subst ehh0
        have ehh1 := int?_some hh1
        subst ehh1
        cases h; exact ⟨rfl, rfl⟩
      · cases h
    · cases h
def flN (s : S_fl) : S_fl := { s with i := w64 (s.i + 1), l := s.l.set (0 + s.i.toNat * 1) s.x }
theorem fl_step (o : SOps) (s : S_fl) : codeK (X_sameL o) [] flL.ntmps [0,1,4,5,9,17] 60 (loopB (bodyOf flL) 1) (d_fl.E s) (d_fl.M s) (outK d_fl.ts) =
    bif decide (s.i < (s.m : Int)) then (bif decide (0 ≤ s.i ∧ s.i < (s.m : Int)) then (bif decide (0 + s.i.toNat * 1 < s.l.length) then some (.normal, d_fl.E (flN s), d_fl.M (flN s)) else none) else none) else some (.exit 0, d_fl.E s, d_fl.M s) := by kernel_rfl
def gFl : LoopFn := d_fl.fn (fun s => decide (s.i = 0 ∧ s.m ≤ s.l.length ∧ s.m < 4611686018427387904)) (.exit 0) (fun s => { s with i := (s.m : Int), l := List.replicate s.m s.x ++ s.l.drop s.m })
theorem fill_set {l : List Nat} {i x : Nat} (h : i < l.length) : (List.replicate i x ++ l.drop i).set i x = List.replicate (i + 1) x ++ l.drop (i + 1) := by
  rw [List.set_append_right _ _ (by simp), List.length_replicate, Nat.sub_self, List.drop_eq_getElem_cons h, List.set_cons_zero, List.replicate_succ', List.append_assoc]; rfl
theorem fl_at : LoopAt Try.prog flL.ntmps (loopB (bodyOf flL) 1) gFl := by
  refine d_fl.loop (keep := [0,1,4,5,9,17]) X_sameL_ok LoopsOK.nil (by simp) fun s hg => ⟨s.m, fun i => { s with i := (i : Int), l := List.replicate i s.x ++ s.l.drop i }, ?_, fun i hi => ⟨60, ?_⟩, 60, ?_⟩
  · obtain ⟨h, -⟩ := of_decide_eq_true hg
    cases s; simp_all
  · obtain ⟨h1, h2, h3⟩ := of_decide_eq_true hg
    refine (fl_step concS _).trans ?_
    have hN : flN { s with i := (i : Int), l := List.replicate i s.x ++ s.l.drop i } = { s with i := ((i + 1 : Nat) : Int), l := List.replicate (i + 1) s.x ++ s.l.drop (i + 1) } := by
      unfold flN
      dsimp only
      rw [show 0 + (i : Int).toNat * 1 = i by omega, fill_set (by omega), w64_id (by omega) (by omega)]; rfl
    rw [hN]
    dsimp only
    rw [decide_eq_true (by omega), cond_true, decide_eq_true (by omega), cond_true, decide_eq_true (by simp; omega), cond_true]
  · refine (fl_step concS _).trans ?_
    rw [decide_eq_false (show ¬ ((s.m : Nat) : Int) < (s.m : Int) by omega), cond_false]
structure S_f2 where
  m : Nat
  x : Nat
  t : Int
  l : List Nat
def d_f2 : LoopDefG S_f2 where
  ts := [0, 1, 5]
  n := 1
  src0 := [0]
  srcN := [3]
  srcX := [1]
  E := fun s => [(0, .slice 1 0 s.m true), (1, .u .u8 s.x), (5, .n s.t)]
  M := fun s => [dead, ⟨.bytes s.l, true⟩]
  Mo := fun s => [dead, ⟨.bytes s.l, true⟩]
  dec := fun vs mem => match vs, mem with
    | [.slice 0 0 m true, .u .u8 x, .n t], [⟨.bytes l, true⟩] => some ⟨m, x, t, l⟩
    | _, _ => none
  ok := fun vs mem s h => by
    split at h
    · cases h; exact ⟨rfl, gc_ok rfl rfl _ _ rfl rfl⟩
    · cases h
def f2N (s : S_f2) : S_f2 := { s with m := s.m + 1, t := w64 (s.t + 1), l := List.take s.m (List.drop 0 s.l) ++ [s.x] }
theorem f2_step (o : SOps) (s : S_f2) : codeK (X_sameL o) [] flL.ntmps [0,1,4,5,9,17] 60 (loopB (bodyOf flL) 5) (d_f2.E s) (d_f2.M s) (outG d_f2.ts d_f2.n d_f2.srcN d_f2.srcX) =
    bif decide (s.t < 90) then (bif decide (0 + s.m ≤ s.l.length) then (bif decide (s.m + 1 ≤ maxRoom) then some (.normal, d_f2.E (f2N s), d_f2.M (f2N s)) else none) else none) else some (.exit 2, d_f2.E s, d_f2.M s) := by kernel_rfl
def gF2 : LoopFn := d_f2.fn (fun s => decide (s.t = 0 ∧ s.m ≤ s.l.length ∧ s.m + 90 ≤ maxRoom)) (.exit 2) (fun s => { s with m := s.m + 90, t := 90, l := List.take s.m s.l ++ List.replicate 90 s.x })
def f2L (s : S_f2) : Nat → List Nat
  | 0 => s.l
  | i + 1 => List.take s.m s.l ++ List.replicate (i + 1) s.x
theorem f2_at : LoopAt Try.prog flL.ntmps (loopB (bodyOf flL) 5) gF2 := by
  refine d_f2.loop (keep := [0,1,4,5,9,17]) X_sameL_ok LoopsOK.nil (by simp) fun s hg => ⟨90, fun i => { s with m := s.m + i, t := (i : Int), l := f2L s i }, ?_, .refl _, fun i hi => ⟨60, ?_⟩, 60, ?_⟩
  · obtain ⟨h1, h2⟩ := of_decide_eq_true hg
    cases s; simp_all [f2L]
  · obtain ⟨h1, h2, h3⟩ := of_decide_eq_true hg
    refine (f2_step concS _).trans ?_
    have hl : (List.take s.m s.l).length = s.m := by rw [List.length_take]; omega
    have eN : f2N { s with m := s.m + i, t := (i : Int), l := f2L s i } = { s with m := s.m + (i + 1), t := ((i + 1 : Nat) : Int), l := f2L s (i + 1) } := by
      unfold f2N
      dsimp only
      rw [w64_id (by unfold maxRoom at h3; omega) (by unfold maxRoom at h3; omega)]
      cases i with
      | zero => rfl
      | succ i =>
        unfold f2L
        rw [take_snoc (by simp; omega), List.append_assoc, ← List.replicate_succ', Nat.add_assoc]; rfl
    rw [eN]
    dsimp only
    have hle : 0 + (s.m + i) ≤ (f2L s i).length := by
      cases i with
      | zero => show 0 + (s.m + 0) ≤ s.l.length; omega
      | succ i => unfold f2L; simp; omega
    rw [decide_eq_true (by omega), cond_true, decide_eq_true hle, cond_true, decide_eq_true (by omega), cond_true]
  · refine (f2_step concS _).trans ?_
    dsimp only
    rw [decide_eq_false (show ¬ ((90 : Nat) : Int) < 90 by omega), cond_false]
    rfl
theorem fl_loops : LoopsOK Try.prog flL.ntmps [(1, gFl), (5, gF2)] (bodyOf flL) := loopsOK_cons (loopsOK_cons LoopsOK.nil (by kernel_rfl) f2_at) (by kernel_rfl) fl_at
def selOne : List AV → Mem → Option (List (Option Nat) × Nat × Nat)
  | .slice id _ _ _ :: _, _ => some ([some id], 0, 0)
  | _, _ => none
def gFull : List AV → Mem → Option (Bool × AV × Mem)
  | [.slice 0 0 m true, .u .u8 x], [⟨.bytes l, true⟩] => some (decide (m ≤ l.length ∧ m + 90 ≤ maxRoom), .tup [], [dead, ⟨.bytes (List.replicate (m + 90) x), true⟩])
  | _, _ => none
def flT (m x : Nat) (l : List Nat) : Option (AV × Mem) :=
  bif decide ((0 : Int) = 0 ∧ m ≤ l.length ∧ m < 4611686018427387904) then (bif decide ((0 : Int) = 0 ∧ m ≤ (List.replicate m x ++ l.drop m).length ∧ m + 90 ≤ maxRoom) then some (.tup [], [dead, ⟨.bytes (List.take m (List.replicate m x ++ l.drop m) ++ List.replicate 90 x), true⟩]) else none) else none
theorem full_run (o : SOps) (m x : Nat) (l : List Nat) : runKL (X_sameL o) [(1, gFl), (5, gF2)] [0,1,4,5,9,17] 100 flL (bodyOf flL) [.slice 0 0 m true, .u .u8 x] [⟨.bytes l, true⟩] (fun v m => some (v, m)) = flT m x l := by kernel_rfl
theorem full_at : LoudAt Try.prog 14 (told gFull) := by
  refine told_at X_sameL_ok (keep := [0,1,4,5,9,17]) Try.func14 (c := bodyOf flL) (by kernel_rfl) (by kernel_rfl) fl_loops fun ar mem cd v m h hc hw => ⟨100, ar, mem, _, .refl _, .refl _, ?_, (MemEq.refl _).w⟩
  unfold gFull at h
  split at h
  · rename_i k x l
    cases h
    obtain ⟨h1, h2⟩ := of_decide_eq_true hc
    refine (full_run concS k x l).trans ?_
    unfold flT
    rw [decide_eq_true ⟨rfl, h1, by unfold maxRoom at h2; omega⟩, cond_true, decide_eq_true ⟨rfl, by simp, h2⟩, cond_true, List.take_left' (by simp), List.replicate_append_replicate]
  · cases h
noncomputable def X_full (o : SOps) : Cx := { X_sameL o with M := addM (X_sameL o).M 14 (frame selOne (told gFull)) }
theorem X_full_ok : CxOK Try.prog (X_full concS) := { X_sameL_ok with loud := addM_ok X_sameL_ok.loud (frame_at full_at) }
end Go.Proofs.Ytmhbhpmfbalbeaa

