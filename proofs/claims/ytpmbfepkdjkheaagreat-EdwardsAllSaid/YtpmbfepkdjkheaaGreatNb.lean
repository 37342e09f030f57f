/- Contracts of the numbers modulo the order, of the program (2): over the sums as variables. -/
import Derived.Test.YtpmbfepkdjkheaaGreatNa
namespace Go.Proofs.YtpmbfepkdjkheaaGreat
open Go Pw Go.RowKit
def cmpN (o : NOps) (x y : L4) : Int := bif decide ((o.lsub x y).2 = 1) then -1 else bif isZ (o.lsub x y).1 then 0 else 1
def lessN (o : NOps) (x : L4) : Bool := decide (cmpN o x ordL < 0)
def stepM (o : NOps) (q : Nat) : Nat := ac (o.mul2 q midL).2 (o.mul2 q lowL).1 0
def stepK (o : NOps) (q : Nat) : Nat := add64 (o.mul2 q midL).1 (cc (o.mul2 q midL).2 (o.mul2 q lowL).1 0)
def stepR (o : NOps) (q : Nat) : L4 := ⟨(o.mul2 q lowL).2, stepM o q, stepK o q, 0⟩
def stepN (o : NOps) (x : L4) (c : Nat) : L4 := bif decide ((o.lsub (shiftL x c) (stepR o (stepQ x))).2 = 1) then (o.ladd (o.lsub (shiftL x c) (stepR o (stepQ x))).1 ordL).1 else (o.lsub (shiftL x c) (stepR o (stepQ x))).1
theorem limCmp_run (o : NOps) (x : L4) (y : L4) : runNL (XNOps o) [] [0,1,2,3,4,5,6,13,16] 200 Tryz.f122 (bodyOf Tryz.f122) (laArgs [.v (rnumV x), .v (rnumV y)] 0) (laLists [.v (rnumV x), .v (rnumV y)]) = bif decide ((o.lsub x y).2 = 1) then some (.n (-1), none) else bif isZ (o.lsub x y).1 then some (.n 0, none) else some (.n 1, none) := by
  kernel_rfl
def g_limCmp (o : NOps) (args : List LA) : Option (AV × Option Blk) := match args with
  | [.v x0, .v x1] => (match rnum? x0, rnum? x1 with
    | some x, some y => some (.n (cmpN o x y), none)
    | _, _ => none)
  | _ => none
theorem limCmp_at : QuietAt Tryz.prog 122 (lav (g_limCmp concNOps)) := by
  refine quietAt_of_runA XNOps_ok (L := []) (keep := [0,1,2,3,4,5,6,13,16]) Tryz.func122 (c := bodyOf Tryz.f122) (by kernel_rfl) (by kernel_rfl) (LoopsOK.nil) fun args v h hw => ⟨200, ?_⟩
  unfold g_limCmp at h
  split at h
  · rename_i x0 x1
    split at h
    · rename_i x y hh0 hh1
      have ehh0 := rnum?_some hh0
      subst ehh0
      have ehh1 := rnum?_some hh1
      subst ehh1
      rw [← h]
      refine (limCmp_run concNOps x y).trans ?_
      unfold cmpN
      cases decide ((concNOps.lsub x y).2 = 1) <;> cases isZ (concNOps.lsub x y).1 <;> rfl
    · cases h
  · cases h
def X_limCmp (o : NOps) : Cx := { XNOps o with O := addQ (XNOps o).O 122 (lav (g_limCmp o)) }
theorem X_limCmp_ok : CxOK Tryz.prog (X_limCmp concNOps) := { XNOps_ok with quiet := addQ_ok XNOps_ok.quiet limCmp_at }
theorem limLess_run (o : NOps) (x : L4) : runNL (X_limCmp o) [] [0,1,2] 200 Tryz.f125 (bodyOf Tryz.f125) (laArgs [.v (rnumV x)] 0) (laLists [.v (rnumV x)]) = some (.bool (lessN o x), none) := by
  kernel_rfl
def g_limLess (o : NOps) (args : List LA) : Option (AV × Option Blk) := match args with
  | [.v x0] => (match rnum? x0 with
    | some x => some (.bool (lessN o x), none)
    | _ => none)
  | _ => none
theorem limLess_at : QuietAt Tryz.prog 125 (lav (g_limLess concNOps)) := by
  refine quietAt_of_runA X_limCmp_ok (L := []) (keep := [0,1,2]) Tryz.func125 (c := bodyOf Tryz.f125) (by kernel_rfl) (by kernel_rfl) (LoopsOK.nil) fun args v h hw => ⟨200, ?_⟩
  unfold g_limLess at h
  split at h
  · rename_i x0
    split at h
    · rename_i x hh0
      have ehh0 := rnum?_some hh0
      subst ehh0
      rw [← h]
      refine (limLess_run concNOps x).trans ?_
      rfl
    · cases h
  · cases h
def X_limLess (o : NOps) : Cx := { X_limCmp o with O := addQ (X_limCmp o).O 125 (lav (g_limLess o)) }
theorem X_limLess_ok : CxOK Tryz.prog (X_limLess concNOps) := { X_limCmp_ok with quiet := addQ_ok X_limCmp_ok.quiet limLess_at }
theorem limStep_run (o : NOps) (x : L4) (c : Nat) : runNL (X_limLess o) [] [0,1,2,4,5,6,7,8,9,10,11,12,13,18,72] 200 Tryz.f129 (bodyOf Tryz.f129) (laArgs [.v (rnumV x), .v (.u .u8 c)] 0) (laLists [.v (rnumV x), .v (.u .u8 c)]) = brn (decide ((o.lsub (shiftL x c) (stepR o (stepQ x))).2 = 1)) (some (rnumV (o.ladd (o.lsub (shiftL x c) (stepR o (stepQ x))).1 ordL).1, none)) (some (rnumV (o.lsub (shiftL x c) (stepR o (stepQ x))).1, none)) := by
  kernel_rfl
def g_limStep (o : NOps) (args : List LA) : Option (AV × Option Blk) := match args with
  | [.v x0, .v x1] => (match rnum? x0, u8? x1 with
    | some x, some c => some (rnumV (stepN o x c), none)
    | _, _ => none)
  | _ => none
theorem limStep_at : QuietAt Tryz.prog 129 (lav (g_limStep concNOps)) := by
  refine quietAt_of_runA X_limLess_ok (L := []) (keep := [0,1,2,4,5,6,7,8,9,10,11,12,13,18,72]) Tryz.func129 (c := bodyOf Tryz.f129) (by kernel_rfl) (by kernel_rfl) (LoopsOK.nil) fun args v h hw => ⟨200, ?_⟩
  unfold g_limStep at h
  split at h
  · rename_i x0 x1
    split at h
    · rename_i x c hh0 hh1
      have ehh0 := rnum?_some hh0
      subst ehh0
      have ehh1 := u8?_some hh1
      subst ehh1
      rw [← h]
      refine (limStep_run concNOps x c).trans ?_
      unfold stepN
      cases decide ((concNOps.lsub (shiftL x c) (stepR concNOps (stepQ x))).2 = 1) <;> rfl
    · cases h
  · cases h
def X_limStep (o : NOps) : Cx := { X_limLess o with O := addQ (X_limLess o).O 129 (lav (g_limStep o)) }
theorem X_limStep_ok : CxOK Tryz.prog (X_limStep concNOps) := { X_limLess_ok with quiet := addQ_ok X_limLess_ok.quiet limStep_at }
/-! ### reduced -/
noncomputable abbrev rdL : Func := Tryz.f118
structure S_rd where
  m : Nat
  i : Int
  b : List Nat
  B1 : Blk
  n : L4
def d_rd : LoopDef S_rd where
  ts := [0, 2, 3, 4]
  E := fun s => [(0, .slice 0 0 s.m false), (2, .ptr 1 0), (3, .ptr 2 0), (4, .n s.i)]
  M := fun s => [⟨.bytes s.b, false⟩, s.B1, bk (rnumV s.n)]
  dec := fun vs mem => match vs, mem with
    | [.slice 0 0 m false, .ptr 1 0, .ptr 2 0, x4], [⟨.bytes b, false⟩, B1, B2] => (match int? x4, rnum? (unbk B2) with
      | some i, some n => some ⟨m, i, b, B1, n⟩
      | _, _ => none)
    | _, _ => none
  ok := fun vs mem s h => by
    split at h
    · split at h
      · rename_i i n hh0 hh1
        have ehh0 := int?_some hh0
        subst ehh0
        have ehh1 := unbk_some (rnum?_some hh1)
        subst ehh1
        cases h; exact ⟨rfl, rfl⟩
      · cases h
    · cases h
def rdX (s : S_rd) : Nat := 0 + s.i.toNat * 1
def rdN (o : NOps) (s : S_rd) : S_rd := { s with i := w64 (s.i - 1), n := stepN o s.n (s.b.getD (rdX s) 0) }
theorem rd_step (o : NOps) (s : S_rd) : codeK (X_limStep o) [] rdL.ntmps [0,2,3,4,9] 60 (loopB (bodyOf rdL) 3) (d_rd.E s) (d_rd.M s) (outK d_rd.ts) =
    bif decide (0 ≤ s.i) then gds [decide (0 ≤ s.i ∧ s.i < (s.m : Int)), decide (rdX s < s.b.length)] (some (.normal, d_rd.E (rdN o s), d_rd.M (rdN o s))) else some (.exit 0, d_rd.E s, d_rd.M s) := by kernel_rfl
def redN (o : NOps) (n : L4) (b : List Nat) : L4 := b.foldr (fun c n => stepN o n c) n
def gRd (o : NOps) : LoopFn := d_rd.fn (fun s => decide (s.m = s.b.length ∧ s.i = (s.m : Int) - 1 ∧ s.m < 4611686018427387904)) (.exit 0) (fun s => { s with i := -1, n := redN o s.n s.b })
def rdI (o : NOps) (s : S_rd) (k : Nat) : S_rd := { s with i := (s.m : Int) - 1 - (k : Int), n := redN o s.n (s.b.drop (s.m - k)) }
theorem drop_pred {l : List Nat} {k : Nat} (h : k < l.length) : l.drop (l.length - (k + 1)) = l.getD (l.length - (k + 1)) 0 :: l.drop (l.length - k) := by
  rw [List.drop_eq_getElem_cons (by omega), List.getD_eq_getElem?_getD, List.getElem?_eq_getElem (by omega)]
  congr 2; omega
theorem rdI_zero (o : NOps) (s : S_rd) (h1 : s.m = s.b.length) (h2 : s.i = (s.m : Int) - 1) : rdI o s 0 = s := by
  have e1 : (s.m : Int) - 1 - ((0 : Nat) : Int) = s.i := by omega
  have e2 : s.b.drop (s.m - 0) = [] := by rw [Nat.sub_zero, h1, List.drop_length]
  unfold rdI
  rw [e1, e2]
  rfl
theorem rdI_succ (o : NOps) (s : S_rd) (h1 : s.m = s.b.length) (h3 : s.m < 4611686018427387904) {k : Nat} (hk : k < s.m) : rdX (rdI o s k) = s.m - (k + 1) ∧ rdN o (rdI o s k) = rdI o s (k + 1) := by
  have ei : (rdI o s k).i = (s.m : Int) - 1 - (k : Int) := rfl
  have hX : rdX (rdI o s k) = s.m - (k + 1) := by unfold rdX; rw [ei]; omega
  refine ⟨hX, ?_⟩
  have e1 : w64 ((rdI o s k).i - 1) = (s.m : Int) - 1 - ((k + 1 : Nat) : Int) := by rw [ei, w64_id (by omega) (by omega)]; omega
  have e2 : stepN o (rdI o s k).n ((rdI o s k).b.getD (s.m - (k + 1)) 0) = redN o s.n (s.b.drop (s.m - (k + 1))) := by
    show stepN o (redN o s.n (s.b.drop (s.m - k))) (s.b.getD (s.m - (k + 1)) 0) = _
    rw [h1, drop_pred (by omega)]; rfl
  show { rdI o s k with i := w64 ((rdI o s k).i - 1), n := stepN o (rdI o s k).n ((rdI o s k).b.getD (rdX (rdI o s k)) 0) } = rdI o s (k + 1)
  rw [hX, e1, e2]; rfl
theorem rdI_end (o : NOps) (s : S_rd) : rdI o s s.m = { s with i := -1, n := redN o s.n s.b } := by
  unfold rdI
  rw [Nat.sub_self, List.drop_zero, show (s.m : Int) - 1 - (s.m : Int) = -1 by omega]
theorem rd_at : LoopAt Tryz.prog rdL.ntmps (loopB (bodyOf rdL) 3) (gRd concNOps) := by
  refine d_rd.loop (keep := [0,2,3,4,9]) X_limStep_ok LoopsOK.nil (by simp) fun s hg => ⟨s.m, rdI concNOps s, ?_, fun k hk => ⟨60, ?_⟩, 60, ?_⟩
  · obtain ⟨h1, h2, h3⟩ := of_decide_eq_true hg
    exact rdI_zero _ s h1 h2
  · obtain ⟨h1, h2, h3⟩ := of_decide_eq_true hg
    obtain ⟨hX, hN⟩ := rdI_succ concNOps s h1 h3 hk
    refine (rd_step concNOps _).trans ?_
    have ei : (rdI concNOps s k).i = (s.m : Int) - 1 - (k : Int) := rfl
    have em : (rdI concNOps s k).m = s.m := rfl
    have eb : (rdI concNOps s k).b = s.b := rfl
    rw [hN, ei, em, hX, eb, decide_eq_true (by omega), cond_true, gds_true]
    intro c hc
    simp only [List.mem_cons, List.not_mem_nil, or_false] at hc
    rcases hc with h | h <;> (rw [h]; exact decide_eq_true (by omega))
  · obtain ⟨h1, h2, h3⟩ := of_decide_eq_true hg
    refine (rd_step concNOps _).trans ?_
    rw [show (rdI concNOps s s.m).i = (s.m : Int) - 1 - (s.m : Int) from rfl, decide_eq_false (by omega), cond_false, rdI_end]
theorem rd_loops : LoopsOK Tryz.prog rdL.ntmps [(3, gRd concNOps)] (bodyOf rdL) := loopsOK_cons LoopsOK.nil (by kernel_rfl) rd_at
theorem limReduced_run (o : NOps) (b : List Nat) : runNL (X_limStep o) [(3, gRd o)] [0,2,3,4,9] 200 Tryz.f118 (bodyOf Tryz.f118) (laArgs [.l b] 0) (laLists [.l b]) = bif decide (b.length = b.length ∧ w64 ((b.length : Int) - 1) = (b.length : Int) - 1 ∧ b.length < 4611686018427387904) then some (rnumV (redN o zeroL b), none) else none := by
  kernel_rfl
def u_limReduced (o : NOps) (args : List LA) : Option (AV × Option Blk) := match args with
  | [.l b] => some (rnumV (redN o zeroL b), none)
  | _ => none
def c_limReduced (args : List LA) : Bool := match args with
  | [.l b] => decide (b.length < 4611686018427387904)
  | _ => false
def g_limReduced (o : NOps) (args : List LA) : Option (AV × Option Blk) := bif c_limReduced args then u_limReduced o args else none
theorem limReduced_at : QuietAt Tryz.prog 118 (lav (g_limReduced concNOps)) := by
  refine quietAt_of_runA X_limStep_ok (L := [(3, gRd concNOps)]) (keep := [0,2,3,4,9]) Tryz.func118 (c := bodyOf Tryz.f118) (by kernel_rfl) (by kernel_rfl) (rd_loops) fun args v h hw => ⟨200, ?_⟩
  unfold g_limReduced at h
  have hg := (bif_some h).1
  replace h := (bif_some h).2
  unfold u_limReduced at h
  split at h
  · rename_i b
    replace hg : (decide (b.length < 4611686018427387904)) = true := hg
    rw [← h]
    refine (limReduced_run concNOps b).trans ?_
    have h := of_decide_eq_true hg
    rw [decide_eq_true ⟨rfl, w64_id (by omega) (by omega), h⟩, cond_true]
  · cases h
def X_limReduced (o : NOps) : Cx := { X_limStep o with O := addQ (X_limStep o).O 118 (lavG c_limReduced (u_limReduced o)) }
theorem X_limReduced_ok : CxOK Tryz.prog (X_limReduced concNOps) := { X_limStep_ok with quiet := addQ_ok X_limStep_ok.quiet (lavG_at limReduced_at) }
theorem sReduce_run (o : NOps) (b : List Nat) : runNL (X_limReduced o) [] [0,2] 200 Tryz.f58 (bodyOf Tryz.f58) (laArgs [.l b] 0) (laLists [.l b]) = bif decide (0 + b.length ≤ b.length) then bif decide ((List.take b.length (List.drop 0 b)).length < 4611686018427387904) then some (keyV (o.scal (redN o zeroL (List.take b.length (List.drop 0 b)))), none) else none else none := by
  kernel_rfl
def u_sReduce (o : NOps) (args : List LA) : Option (AV × Option Blk) := match args with
  | [.l b] => some (keyV (o.scal (redN o zeroL b)), none)
  | _ => none
def c_sReduce (args : List LA) : Bool := match args with
  | [.l b] => decide (b.length < 4611686018427387904)
  | _ => false
def g_sReduce (o : NOps) (args : List LA) : Option (AV × Option Blk) := bif c_sReduce args then u_sReduce o args else none
theorem sReduce_at : QuietAt Tryz.prog 58 (lav (g_sReduce concNOps)) := by
  refine quietAt_of_runA X_limReduced_ok (L := []) (keep := [0,2]) Tryz.func58 (c := bodyOf Tryz.f58) (by kernel_rfl) (by kernel_rfl) (LoopsOK.nil) fun args v h hw => ⟨200, ?_⟩
  unfold g_sReduce at h
  have hg := (bif_some h).1
  replace h := (bif_some h).2
  unfold u_sReduce at h
  split at h
  · rename_i b
    replace hg : (decide (b.length < 4611686018427387904)) = true := hg
    rw [← h]
    refine (sReduce_run concNOps b).trans ?_
    rw [List.drop_zero, List.take_length, decide_eq_true (by omega), cond_true, hg, cond_true]
  · cases h
def X_sReduce (o : NOps) : Cx := { X_limReduced o with O := addQ (X_limReduced o).O 58 (lavG c_sReduce (u_sReduce o)) }
theorem X_sReduce_ok : CxOK Tryz.prog (X_sReduce concNOps) := { X_limReduced_ok with quiet := addQ_ok X_limReduced_ok.quiet (lavG_at sReduce_at) }
def wholeN (o : NOps) (k : K32) : K32 × Int := bif decide (0 ≤ cmpN o (o.whole k) ordL) then (zeroK, 191) else (k, 0)
theorem sWhole_run (o : NOps) (k : K32) : runNL (X_sReduce o) [] [0,1,2,3,8] 200 Tryz.f60 (bodyOf Tryz.f60) (laArgs [.v (keyV k)] 0) (laLists [.v (keyV k)]) = bif decide (0 ≤ cmpN o (o.whole k) ordL) then some (.tup [keyV zeroK, .n 191], none) else some (.tup [keyV k, .n 0], none) := by
  kernel_rfl
def g_sWhole (o : NOps) (args : List LA) : Option (AV × Option Blk) := match args with
  | [.v x0] => (match key? x0 with
    | some k => some (.tup [keyV (wholeN o k).1, .n (wholeN o k).2], none)
    | _ => none)
  | _ => none
theorem sWhole_at : QuietAt Tryz.prog 60 (lav (g_sWhole concNOps)) := by
  refine quietAt_of_runA X_sReduce_ok (L := []) (keep := [0,1,2,3,8]) Tryz.func60 (c := bodyOf Tryz.f60) (by kernel_rfl) (by kernel_rfl) (LoopsOK.nil) fun args v h hw => ⟨200, ?_⟩
  unfold g_sWhole at h
  split at h
  · rename_i x0
    split at h
    · rename_i k hh0
      have ehh0 := key?_some hh0
      subst ehh0
      rw [← h]
      refine (sWhole_run concNOps k).trans ?_
      unfold wholeN
      cases decide (0 ≤ cmpN concNOps (concNOps.whole k) ordL) <;> rfl
    · cases h
  · cases h
def X_sWhole (o : NOps) : Cx := { X_sReduce o with O := addQ (X_sReduce o).O 60 (lav (g_sWhole o)) }
theorem X_sWhole_ok : CxOK Tryz.prog (X_sWhole concNOps) := { X_sReduce_ok with quiet := addQ_ok X_sReduce_ok.quiet sWhole_at }
theorem sBytes_run (o : NOps) (k : K32) : runNL (X_sWhole o) [] [0,1,2] 200 Tryz.f22 (bodyOf Tryz.f22) (laArgs [.v (keyV k)] 0) (laLists [.v (keyV k)]) = some (keyV k, none) := by
  kernel_rfl
def g_sBytes (_ : NOps) (args : List LA) : Option (AV × Option Blk) := match args with
  | [.v x0] => (match key? x0 with
    | some k => some (keyV k, none)
    | _ => none)
  | _ => none
theorem sBytes_at : QuietAt Tryz.prog 22 (lav (g_sBytes concNOps)) := by
  refine quietAt_of_runA X_sWhole_ok (L := []) (keep := [0,1,2]) Tryz.func22 (c := bodyOf Tryz.f22) (by kernel_rfl) (by kernel_rfl) (LoopsOK.nil) fun args v h hw => ⟨200, ?_⟩
  unfold g_sBytes at h
  split at h
  · rename_i x0
    split at h
    · rename_i k hh0
      have ehh0 := key?_some hh0
      subst ehh0
      rw [← h]
      refine (sBytes_run concNOps k).trans ?_
      rfl
    · cases h
  · cases h
def X_sBytes (o : NOps) : Cx := { X_sWhole o with O := addQ (X_sWhole o).O 22 (lav (g_sBytes o)) }
theorem X_sBytes_ok : CxOK Tryz.prog (X_sBytes concNOps) := { X_sWhole_ok with quiet := addQ_ok X_sWhole_ok.quiet sBytes_at }
def addN (o : NOps) (a b : K32) : K32 := o.scal (bif !lessN o (o.ladd (o.whole a) (o.whole b)).1 then (o.lsub (o.ladd (o.whole a) (o.whole b)).1 ordL).1 else (o.ladd (o.whole a) (o.whole b)).1)
theorem sAdd_run (o : NOps) (a : K32) (b : K32) : runNL (X_sBytes o) [] [0,1,2,3,4,5,19] 200 Tryz.f62 (bodyOf Tryz.f62) (laArgs [.v (keyV a), .v (keyV b)] 0) (laLists [.v (keyV a), .v (keyV b)]) = bif !lessN o (o.ladd (o.whole a) (o.whole b)).1 then some (keyV (o.scal (o.lsub (o.ladd (o.whole a) (o.whole b)).1 ordL).1), none) else some (keyV (o.scal (o.ladd (o.whole a) (o.whole b)).1), none) := by
  kernel_rfl
def g_sAdd (o : NOps) (args : List LA) : Option (AV × Option Blk) := match args with
  | [.v x0, .v x1] => (match key? x0, key? x1 with
    | some a, some b => some (keyV (addN o a b), none)
    | _, _ => none)
  | _ => none
theorem sAdd_at : QuietAt Tryz.prog 62 (lav (g_sAdd concNOps)) := by
  refine quietAt_of_runA X_sBytes_ok (L := []) (keep := [0,1,2,3,4,5,19]) Tryz.func62 (c := bodyOf Tryz.f62) (by kernel_rfl) (by kernel_rfl) (LoopsOK.nil) fun args v h hw => ⟨200, ?_⟩
  unfold g_sAdd at h
  split at h
  · rename_i x0 x1
    split at h
    · rename_i a b hh0 hh1
      have ehh0 := key?_some hh0
      subst ehh0
      have ehh1 := key?_some hh1
      subst ehh1
      rw [← h]
      refine (sAdd_run concNOps a b).trans ?_
      unfold addN
      cases lessN concNOps (concNOps.ladd (concNOps.whole a) (concNOps.whole b)).1 <;> rfl
    · cases h
  · cases h
def X_sAdd (o : NOps) : Cx := { X_sBytes o with O := addQ (X_sBytes o).O 62 (lav (g_sAdd o)) }
theorem X_sAdd_ok : CxOK Tryz.prog (X_sAdd concNOps) := { X_sBytes_ok with quiet := addQ_ok X_sBytes_ok.quiet sAdd_at }
def subN (o : NOps) (a b : K32) : K32 := o.scal (bif decide ((o.lsub (o.whole a) (o.whole b)).2 = 1) then (o.ladd (o.lsub (o.whole a) (o.whole b)).1 ordL).1 else (o.lsub (o.whole a) (o.whole b)).1)
theorem sSub0_run (o : NOps) (a : K32) (b : K32) : runNL (X_sAdd o) [] [0,1,2,3,4,5,6,18] 200 Tryz.f128 (bodyOf Tryz.f128) (laArgs [.v (keyV a), .v (keyV b)] 0) (laLists [.v (keyV a), .v (keyV b)]) = bif decide ((o.lsub (o.whole a) (o.whole b)).2 = 1) then some (keyV (o.scal (o.ladd (o.lsub (o.whole a) (o.whole b)).1 ordL).1), none) else some (keyV (o.scal (o.lsub (o.whole a) (o.whole b)).1), none) := by
  kernel_rfl
def g_sSub0 (o : NOps) (args : List LA) : Option (AV × Option Blk) := match args with
  | [.v x0, .v x1] => (match key? x0, key? x1 with
    | some a, some b => some (keyV (subN o a b), none)
    | _, _ => none)
  | _ => none
theorem sSub0_at : QuietAt Tryz.prog 128 (lav (g_sSub0 concNOps)) := by
  refine quietAt_of_runA X_sAdd_ok (L := []) (keep := [0,1,2,3,4,5,6,18]) Tryz.func128 (c := bodyOf Tryz.f128) (by kernel_rfl) (by kernel_rfl) (LoopsOK.nil) fun args v h hw => ⟨200, ?_⟩
  unfold g_sSub0 at h
  split at h
  · rename_i x0 x1
    split at h
    · rename_i a b hh0 hh1
      have ehh0 := key?_some hh0
      subst ehh0
      have ehh1 := key?_some hh1
      subst ehh1
      rw [← h]
      refine (sSub0_run concNOps a b).trans ?_
      unfold subN
      cases decide ((concNOps.lsub (concNOps.whole a) (concNOps.whole b)).2 = 1) <;> rfl
    · cases h
  · cases h
def X_sSub0 (o : NOps) : Cx := { X_sAdd o with O := addQ (X_sAdd o).O 128 (lav (g_sSub0 o)) }
theorem X_sSub0_ok : CxOK Tryz.prog (X_sSub0 concNOps) := { X_sAdd_ok with quiet := addQ_ok X_sAdd_ok.quiet sSub0_at }
theorem sSub_run (o : NOps) (a : K32) (b : K32) : runNL (X_sSub0 o) [] [0,1,2,3,4] 200 Tryz.f64 (bodyOf Tryz.f64) (laArgs [.v (keyV a), .v (keyV b)] 0) (laLists [.v (keyV a), .v (keyV b)]) = some (keyV (subN o a b), none) := by
  kernel_rfl
def g_sSub (o : NOps) (args : List LA) : Option (AV × Option Blk) := match args with
  | [.v x0, .v x1] => (match key? x0, key? x1 with
    | some a, some b => some (keyV (subN o a b), none)
    | _, _ => none)
  | _ => none
theorem sSub_at : QuietAt Tryz.prog 64 (lav (g_sSub concNOps)) := by
  refine quietAt_of_runA X_sSub0_ok (L := []) (keep := [0,1,2,3,4]) Tryz.func64 (c := bodyOf Tryz.f64) (by kernel_rfl) (by kernel_rfl) (LoopsOK.nil) fun args v h hw => ⟨200, ?_⟩
  unfold g_sSub at h
  split at h
  · rename_i x0 x1
    split at h
    · rename_i a b hh0 hh1
      have ehh0 := key?_some hh0
      subst ehh0
      have ehh1 := key?_some hh1
      subst ehh1
      rw [← h]
      refine (sSub_run concNOps a b).trans ?_
      rfl
    · cases h
  · cases h
def X_sSub (o : NOps) : Cx := { X_sSub0 o with O := addQ (X_sSub0 o).O 64 (lav (g_sSub o)) }
theorem X_sSub_ok : CxOK Tryz.prog (X_sSub concNOps) := { X_sSub0_ok with quiet := addQ_ok X_sSub0_ok.quiet sSub_at }
theorem sNeg_run (o : NOps) (a : K32) : runNL (X_sSub o) [] [0,1,2] 200 Tryz.f68 (bodyOf Tryz.f68) (laArgs [.v (keyV a)] 0) (laLists [.v (keyV a)]) = some (keyV (subN o zeroK a), none) := by
  kernel_rfl
def g_sNeg (o : NOps) (args : List LA) : Option (AV × Option Blk) := match args with
  | [.v x0] => (match key? x0 with
    | some a => some (keyV (subN o zeroK a), none)
    | _ => none)
  | _ => none
theorem sNeg_at : QuietAt Tryz.prog 68 (lav (g_sNeg concNOps)) := by
  refine quietAt_of_runA X_sSub_ok (L := []) (keep := [0,1,2]) Tryz.func68 (c := bodyOf Tryz.f68) (by kernel_rfl) (by kernel_rfl) (LoopsOK.nil) fun args v h hw => ⟨200, ?_⟩
  unfold g_sNeg at h
  split at h
  · rename_i x0
    split at h
    · rename_i a hh0
      have ehh0 := key?_some hh0
      subst ehh0
      rw [← h]
      refine (sNeg_run concNOps a).trans ?_
      rfl
    · cases h
  · cases h
def X_sNeg (o : NOps) : Cx := { X_sSub o with O := addQ (X_sSub o).O 68 (lav (g_sNeg o)) }
theorem X_sNeg_ok : CxOK Tryz.prog (X_sNeg concNOps) := { X_sSub_ok with quiet := addQ_ok X_sSub_ok.quiet sNeg_at }
theorem sIsZero_run (o : NOps) (a : K32) : runNL (X_sNeg o) [] [0,1,2] 200 Tryz.f24 (bodyOf Tryz.f24) (laArgs [.v (keyV a)] 0) (laLists [.v (keyV a)]) = some (.bool (keyEq a zeroK), none) := by
  kernel_rfl
def g_sIsZero (_ : NOps) (args : List LA) : Option (AV × Option Blk) := match args with
  | [.v x0] => (match key? x0 with
    | some a => some (.bool (keyEq a zeroK), none)
    | _ => none)
  | _ => none
theorem sIsZero_at : QuietAt Tryz.prog 24 (lav (g_sIsZero concNOps)) := by
  refine quietAt_of_runA X_sNeg_ok (L := []) (keep := [0,1,2]) Tryz.func24 (c := bodyOf Tryz.f24) (by kernel_rfl) (by kernel_rfl) (LoopsOK.nil) fun args v h hw => ⟨200, ?_⟩
  unfold g_sIsZero at h
  split at h
  · rename_i x0
    split at h
    · rename_i a hh0
      have ehh0 := key?_some hh0
      subst ehh0
      rw [← h]
      refine (sIsZero_run concNOps a).trans ?_
      rfl
    · cases h
  · cases h
def X_sIsZero (o : NOps) : Cx := { X_sNeg o with O := addQ (X_sNeg o).O 24 (lav (g_sIsZero o)) }
theorem X_sIsZero_ok : CxOK Tryz.prog (X_sIsZero concNOps) := { X_sNeg_ok with quiet := addQ_ok X_sNeg_ok.quiet sIsZero_at }
end Go.Proofs.YtpmbfepkdjkheaaGreat

