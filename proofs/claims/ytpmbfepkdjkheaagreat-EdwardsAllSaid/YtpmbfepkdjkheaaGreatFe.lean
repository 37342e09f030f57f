/- Inverses and roots of the program's numbers and of the document's; the laws' lists. -/
import Derived.Test.YtpmbfepkdjkheaaGreatFd
namespace Go.Proofs.YtpmbfepkdjkheaaGreat
open Go Pw Go.RowKit

def itN {α : Type} (f : α → α) : Nat → α → α
  | 0, x => x
  | n + 1, x => f (itN f n x)
theorem squares2_run (o : FOps) (x : L5) : runNL (X_powR o) [] [0,1,2,4,5,6,7] 900 Tryz.f141 (bodyOf Tryz.f141) (laArgs [.v (numV x), .v (.n 2)] 0) (laLists [.v (numV x), .v (.n 2)]) = some (numV (itN o.sq 2 x), none) := by
  kernel_rfl
theorem squares5_run (o : FOps) (x : L5) : runNL (X_powR o) [] [0,1,2,4,5,6,7] 900 Tryz.f141 (bodyOf Tryz.f141) (laArgs [.v (numV x), .v (.n 5)] 0) (laLists [.v (numV x), .v (.n 5)]) = some (numV (itN o.sq 5 x), none) := by
  kernel_rfl
theorem squares10_run (o : FOps) (x : L5) : runNL (X_powR o) [] [0,1,2,4,5,6,7] 900 Tryz.f141 (bodyOf Tryz.f141) (laArgs [.v (numV x), .v (.n 10)] 0) (laLists [.v (numV x), .v (.n 10)]) = some (numV (itN o.sq 10 x), none) := by
  kernel_rfl
theorem squares20_run (o : FOps) (x : L5) : runNL (X_powR o) [] [0,1,2,4,5,6,7] 900 Tryz.f141 (bodyOf Tryz.f141) (laArgs [.v (numV x), .v (.n 20)] 0) (laLists [.v (numV x), .v (.n 20)]) = some (numV (itN o.sq 20 x), none) := by
  kernel_rfl
theorem squares50_run (o : FOps) (x : L5) : runNL (X_powR o) [] [0,1,2,4,5,6,7] 900 Tryz.f141 (bodyOf Tryz.f141) (laArgs [.v (numV x), .v (.n 50)] 0) (laLists [.v (numV x), .v (.n 50)]) = some (numV (itN o.sq 50 x), none) := by
  kernel_rfl
theorem squares100_run (o : FOps) (x : L5) : runNL (X_powR o) [] [0,1,2,4,5,6,7] 900 Tryz.f141 (bodyOf Tryz.f141) (laArgs [.v (numV x), .v (.n 100)] 0) (laLists [.v (numV x), .v (.n 100)]) = some (numV (itN o.sq 100 x), none) := by
  kernel_rfl
def u_squaresF (o : FOps) (args : List LA) : Option (AV × Option Blk) := match args with
  | [.v x0, .v x1] => (match num? x0, int? x1 with
    | some x, some n => some (numV (itN o.sq n.toNat x), none)
    | _, _ => none)
  | _ => none
def c_squaresF (args : List LA) : Bool := match args with
  | [.v x0, .v x1] => (match num? x0, int? x1 with
    | some _, some n => decide (n = 2 ∨ n = 5 ∨ n = 10 ∨ n = 20 ∨ n = 50 ∨ n = 100)
    | _, _ => false)
  | _ => false
def g_squaresF (o : FOps) (args : List LA) : Option (AV × Option Blk) := bif c_squaresF args then u_squaresF o args else none
theorem squaresF_at : QuietAt Tryz.prog 141 (lav (g_squaresF concFOps)) := by
  refine quietAt_of_runA X_powR_ok (L := []) (keep := [0,1,2,4,5,6,7]) Tryz.func141 (c := bodyOf Tryz.f141) (by kernel_rfl) (by kernel_rfl) (LoopsOK.nil) fun args v h hw => ⟨900, ?_⟩
  unfold g_squaresF at h
  have hg := (bif_some h).1
  replace h := (bif_some h).2
  unfold u_squaresF at h
  split at h
  · rename_i x0 x1
    split at h
    · rename_i x n hh0 hh1
      have ehh0 := num?_some hh0
      subst ehh0
      have ehh1 := int?_some hh1
      subst ehh1
      replace hg : (decide (n = 2 ∨ n = 5 ∨ n = 10 ∨ n = 20 ∨ n = 50 ∨ n = 100)) = true := hg
      rw [← h]
      rcases of_decide_eq_true hg with rfl | rfl | rfl | rfl | rfl | rfl
      · exact squares2_run concFOps x
      · exact squares5_run concFOps x
      · exact squares10_run concFOps x
      · exact squares20_run concFOps x
      · exact squares50_run concFOps x
      · exact squares100_run concFOps x
    · cases h
  · cases h
def X_squaresF (o : FOps) : Cx := { X_powR o with O := addQ (X_powR o).O 141 (lavG c_squaresF (u_squaresF o)) }
theorem X_squaresF_ok : CxOK Tryz.prog (X_squaresF concFOps) := { X_powR_ok with quiet := addQ_ok X_powR_ok.quiet (lavG_at squaresF_at) }
/-- the powers by 2^250 - 1 and by 11 -/
def onesO (o : FOps) (a : L5) : L5 × L5 :=
  let b := o.sq a
  let nine := o.mul (itN o.sq 2 b) a
  let eleven := o.mul nine b
  let five := o.mul (o.sq eleven) nine
  let ten := o.mul (itN o.sq 5 five) five
  let twenty := o.mul (itN o.sq 10 ten) ten
  let fifty := o.mul (itN o.sq 10 (o.mul (itN o.sq 20 twenty) twenty)) ten
  let hundred := o.mul (itN o.sq 50 fifty) fifty
  (o.mul (itN o.sq 50 (o.mul (itN o.sq 100 hundred) hundred)) fifty, eleven)
theorem onesF_run (o : FOps) (a : L5) : runNL (X_squaresF o) [] [0,1,2,3,4,5,6,7,8,9,10,11] 200 Tryz.f140 (bodyOf Tryz.f140) (laArgs [.v (numV a)] 0) (laLists [.v (numV a)]) = some (.tup [numV (onesO o a).1, numV (onesO o a).2], none) := by
  kernel_rfl
def g_onesF (o : FOps) (args : List LA) : Option (AV × Option Blk) := match args with
  | [.v x0] => (match num? x0 with
    | some a => some (.tup [numV (onesO o a).1, numV (onesO o a).2], none)
    | _ => none)
  | _ => none
theorem onesF_at : QuietAt Tryz.prog 140 (lav (g_onesF concFOps)) := by
  refine quietAt_of_runA X_squaresF_ok (L := []) (keep := [0,1,2,3,4,5,6,7,8,9,10,11]) Tryz.func140 (c := bodyOf Tryz.f140) (by kernel_rfl) (by kernel_rfl) (LoopsOK.nil) fun args v h hw => ⟨200, ?_⟩
  unfold g_onesF at h
  split at h
  · rename_i x0
    split at h
    · rename_i a hh0
      have ehh0 := num?_some hh0
      subst ehh0
      rw [← h]
      refine (onesF_run concFOps a).trans ?_
      rfl
    · cases h
  · cases h
def X_onesF (o : FOps) : Cx := { X_squaresF o with O := addQ (X_squaresF o).O 140 (lav (g_onesF o)) }
theorem X_onesF_ok : CxOK Tryz.prog (X_onesF concFOps) := { X_squaresF_ok with quiet := addQ_ok X_squaresF_ok.quiet onesF_at }
def invO (o : FOps) (a : L5) : L5 := o.mul (itN o.sq 5 (onesO o a).1) (onesO o a).2
theorem invF_run (o : FOps) (a : L5) : runNL (X_onesF o) [] [0,1,2,3,4] 200 Tryz.f81 (bodyOf Tryz.f81) (laArgs [.v (numV a)] 0) (laLists [.v (numV a)]) = some (numV (invO o a), none) := by
  kernel_rfl
def g_invF (o : FOps) (args : List LA) : Option (AV × Option Blk) := match args with
  | [.v x0] => (match num? x0 with
    | some a => some (numV (invO o a), none)
    | _ => none)
  | _ => none
theorem invF_at : QuietAt Tryz.prog 81 (lav (g_invF concFOps)) := by
  refine quietAt_of_runA X_onesF_ok (L := []) (keep := [0,1,2,3,4]) Tryz.func81 (c := bodyOf Tryz.f81) (by kernel_rfl) (by kernel_rfl) (LoopsOK.nil) fun args v h hw => ⟨200, ?_⟩
  unfold g_invF at h
  split at h
  · rename_i x0
    split at h
    · rename_i a hh0
      have ehh0 := num?_some hh0
      subst ehh0
      rw [← h]
      refine (invF_run concFOps a).trans ?_
      rfl
    · cases h
  · cases h
def X_invF (o : FOps) : Cx := { X_onesF o with O := addQ (X_onesF o).O 81 (lav (g_invF o)) }
theorem X_invF_ok : CxOK Tryz.prog (X_invF concFOps) := { X_onesF_ok with quiet := addQ_ok X_onesF_ok.quiet invF_at }
def nearO (o : FOps) (a : L5) : L5 := o.mul (itN o.sq 2 (onesO o a).1) a
theorem nearF_run (o : FOps) (a : L5) : runNL (X_invF o) [] [0,1,2,3] 200 Tryz.f165 (bodyOf Tryz.f165) (laArgs [.v (numV a)] 0) (laLists [.v (numV a)]) = some (numV (nearO o a), none) := by
  kernel_rfl
def g_nearF (o : FOps) (args : List LA) : Option (AV × Option Blk) := match args with
  | [.v x0] => (match num? x0 with
    | some a => some (numV (nearO o a), none)
    | _ => none)
  | _ => none
theorem nearF_at : QuietAt Tryz.prog 165 (lav (g_nearF concFOps)) := by
  refine quietAt_of_runA X_invF_ok (L := []) (keep := [0,1,2,3]) Tryz.func165 (c := bodyOf Tryz.f165) (by kernel_rfl) (by kernel_rfl) (LoopsOK.nil) fun args v h hw => ⟨200, ?_⟩
  unfold g_nearF at h
  split at h
  · rename_i x0
    split at h
    · rename_i a hh0
      have ehh0 := num?_some hh0
      subst ehh0
      rw [← h]
      refine (nearF_run concFOps a).trans ?_
      rfl
    · cases h
  · cases h
def X_nearF (o : FOps) : Cx := { X_invF o with O := addQ (X_invF o).O 165 (lav (g_nearF o)) }
theorem X_nearF_ok : CxOK Tryz.prog (X_nearF concFOps) := { X_invF_ok with quiet := addQ_ok X_invF_ok.quiet nearF_at }
def root1 (o : FOps) (a : L5) : L5 := o.mul (nearO o a) a
def root2 (o : FOps) (a : L5) : L5 := o.mul (root1 o a) (o.mul (o.sq (nearO o (o.small 2))) (o.small 2))
def rootT (o : FOps) (a : L5) : L5 := bif !(o.equal (o.sq (root1 o a)) a) then root2 o a else root1 o a
def rootO (o : FOps) (a : L5) : L5 := bif !(o.equal (o.sq (rootT o a)) a) then zero5 else bif o.odd (rootT o a) then o.neg (rootT o a) else rootT o a
def rootB (o : FOps) (a : L5) : Bool := o.equal (o.sq (rootT o a)) a
def rootRun (o : FOps) (a r : L5) : Option (AV × Option Blk) := bif !(o.equal (o.sq r) a) then some (.tup [numV zero5, .bool false], none) else bif o.odd r then some (.tup [numV (o.neg r), .bool true], none) else some (.tup [numV r, .bool true], none)
theorem rootRun_eq (o : FOps) (a : L5) : (bif !(o.equal (o.sq (root1 o a)) a) then rootRun o a (root2 o a) else rootRun o a (root1 o a)) = some (.tup [numV (rootO o a), .bool (rootB o a)], none) := by
  have h : (bif !(o.equal (o.sq (root1 o a)) a) then rootRun o a (root2 o a) else rootRun o a (root1 o a)) = rootRun o a (rootT o a) := by
    unfold rootT
    cases o.equal (o.sq (root1 o a)) a <;> rfl
  rw [h]
  unfold rootRun rootO rootB
  generalize rootT o a = r
  cases o.equal (o.sq r) a <;> cases o.odd r <;> rfl
theorem rootF_run (o : FOps) (a : L5) : runNL (X_nearF o) [] [0,1,2,3,4,5,14,27,30] 200 Tryz.f151 (bodyOf Tryz.f151) (laArgs [.v (numV a)] 0) (laLists [.v (numV a)]) = bif !(o.equal (o.sq (root1 o a)) a) then rootRun o a (root2 o a) else rootRun o a (root1 o a) := by
  kernel_rfl
def g_rootF (o : FOps) (args : List LA) : Option (AV × Option Blk) := match args with
  | [.v x0] => (match num? x0 with
    | some a => some (.tup [numV (rootO o a), .bool (rootB o a)], none)
    | _ => none)
  | _ => none
theorem rootF_at : QuietAt Tryz.prog 151 (lav (g_rootF concFOps)) := by
  refine quietAt_of_runA X_nearF_ok (L := []) (keep := [0,1,2,3,4,5,14,27,30]) Tryz.func151 (c := bodyOf Tryz.f151) (by kernel_rfl) (by kernel_rfl) (LoopsOK.nil) fun args v h hw => ⟨200, ?_⟩
  unfold g_rootF at h
  split at h
  · rename_i x0
    split at h
    · rename_i a hh0
      have ehh0 := num?_some hh0
      subst ehh0
      rw [← h]
      refine (rootF_run concFOps a).trans ?_
      exact rootRun_eq concFOps a
    · cases h
  · cases h
def X_rootF (o : FOps) : Cx := { X_nearF o with O := addQ (X_nearF o).O 151 (lav (g_rootF o)) }
theorem X_rootF_ok : CxOK Tryz.prog (X_rootF concFOps) := { X_nearF_ok with quiet := addQ_ok X_nearF_ok.quiet rootF_at }

/-! ### the document's -/
def numberL (k _l : Int) : List Nat := bif decide (k = 255) then [235, 255, 255, 255, 255, 255, 255, 255, 255, 255, 255, 255, 255, 255, 255, 255, 255, 255, 255, 255, 255, 255, 255, 255, 255, 255, 255, 255, 255, 255, 255, 127] else
  bif decide (k = 252) then [254, 255, 255, 255, 255, 255, 255, 255, 255, 255, 255, 255, 255, 255, 255, 255, 255, 255, 255, 255, 255, 255, 255, 255, 255, 255, 255, 255, 255, 255, 255, 15] else [251, 255, 255, 255, 255, 255, 255, 255, 255, 255, 255, 255, 255, 255, 255, 255, 255, 255, 255, 255, 255, 255, 255, 255, 255, 255, 255, 255, 255, 255, 255, 31]
noncomputable abbrev nbR : Func := Tryz.f134
structure S_nbO where
  k : Int
  v1 : AV
  u : Nat
  i : Int
  b : List Nat
def d_nbO : LoopDef S_nbO where
  ts := [0, 1, 5, 6, 7]
  E := fun s => [(0, .n s.k), (1, s.v1), (5, .slice 0 0 32 true), (6, .u .u8 s.u), (7, .n s.i)]
  M := fun s => [⟨.bytes s.b, true⟩]
  dec := fun vs mem => match vs, mem with
    | [x0, v1, .slice 0 0 32 true, x6, x7], [⟨.bytes b, true⟩] => (match int? x0, u8? x6, int? x7 with
      | some k, some u, some i => some ⟨k, v1, u, i, b⟩
      | _, _, _ => none)
    | _, _ => none
  ok := fun vs mem s h => by
    split at h
    · split at h
      · rename_i k u i hh0 hh1 hh2
        have ehh0 := int?_some hh0
        subst ehh0
        have ehh1 := u8?_some hh1
        subst ehh1
        have ehh2 := int?_some hh2
        subst ehh2
        cases h; exact ⟨rfl, rfl⟩
      · cases h
    · cases h
def nbIx (s : S_nbO) : Nat := 0 + (w64 (s.i.tdiv 8)).toNat * 1
def nbN (s : S_nbO) (u : Nat) : S_nbO := { s with u := u * 2 % 2 ^ 8, i := w64 (s.i + 1), b := s.b.set (nbIx s) ((s.b.getD (nbIx s) 0 + u) % 2 ^ 8) }
def nbT (s : S_nbO) (u : Nat) : Option (Ex × Env × Mem) :=
  bif decide (0 ≤ w64 (s.i.tdiv 8) ∧ w64 (s.i.tdiv 8) < 32) then bif decide (nbIx s < s.b.length) then bif decide (0 ≤ w64 (s.i.tdiv 8) ∧ w64 (s.i.tdiv 8) < 32) then bif decide (nbIx s < s.b.length) then
    some (.normal, d_nbO.E (nbN s u), d_nbO.M (nbN s u)) else none else none else none else none
theorem nbO_step (o : FOps) (s : S_nbO) : codeK (X_rootF o) [] nbR.ntmps [0,1,4,5,6,7,11,16] 60 (loopB (bodyOf nbR) 4) (d_nbO.E s) (d_nbO.M s) (outK d_nbO.ts) =
    bif decide (s.i < s.k) then (bif decide (s.i.tmod 8 = 0) then nbT s 1 else nbT s s.u) else some (.exit 0, d_nbO.E s, d_nbO.M s) := by kernel_rfl
def nbU : Nat → Nat
  | 0 => 1
  | i + 1 => (bif decide (i % 8 = 0) then 1 else nbU i) * 2 % 2 ^ 8
def nbB : Nat → List Nat
  | 0 => List.replicate 32 0
  | i + 1 => (nbB i).set (i / 8) (((nbB i).getD (i / 8) 0 + (bif decide (i % 8 = 0) then 1 else nbU i)) % 2 ^ 8)
theorem nbB_len : ∀ i, (nbB i).length = 32
  | 0 => by rw [nbB]; exact List.length_replicate
  | i + 1 => by rw [nbB, List.length_set]; exact nbB_len i
theorem nbT_some {s : S_nbO} {u i : Nat} (hi : s.i = (i : Int)) (h : i < 256) (hb : s.b.length = 32) :
    nbT s u = some (.normal, d_nbO.E { s with u := u * 2 % 2 ^ 8, i := ((i + 1 : Nat) : Int), b := s.b.set (i / 8) ((s.b.getD (i / 8) 0 + u) % 2 ^ 8) }, d_nbO.M { s with u := u * 2 % 2 ^ 8, i := ((i + 1 : Nat) : Int), b := s.b.set (i / 8) ((s.b.getD (i / 8) 0 + u) % 2 ^ 8) }) := by
  have hd : w64 (s.i.tdiv 8) = ((i / 8 : Nat) : Int) := by
    rw [hi, show ((i : Nat) : Int).tdiv 8 = ((i / 8 : Nat) : Int) from rfl]
    exact w64_id (by omega) (by omega)
  have hx : nbIx s = i / 8 := by unfold nbIx; rw [hd]; omega
  have hn : nbN s u = { s with u := u * 2 % 2 ^ 8, i := ((i + 1 : Nat) : Int), b := s.b.set (i / 8) ((s.b.getD (i / 8) 0 + u) % 2 ^ 8) } := by
    unfold nbN
    rw [hx, hi, w64_id (by omega) (by omega)]
    rfl
  unfold nbT
  rw [hd, hx, hn, decide_eq_true (show (0 : Int) ≤ ((i / 8 : Nat) : Int) ∧ ((i / 8 : Nat) : Int) < 32 by omega), decide_eq_true (show i / 8 < s.b.length by omega)]
  rfl
def gNb : LoopFn := d_nbO.fn (fun s => decide (0 ≤ s.k ∧ s.k < 256 ∧ s.u = 1 ∧ s.i = 0 ∧ s.b = List.replicate 32 0)) (.exit 0) (fun s => { s with i := s.k, u := nbU s.k.toNat, b := nbB s.k.toNat })
theorem nbO_at : LoopAt Tryz.prog nbR.ntmps (loopB (bodyOf nbR) 4) gNb := by
  refine d_nbO.loop (keep := [0,1,4,5,6,7,11,16]) X_rootF_ok LoopsOK.nil (by simp) fun s hg => ⟨s.k.toNat, fun i => { s with i := (i : Int), u := nbU i, b := nbB i }, ?_, fun i hi => ⟨60, ?_⟩, 60, ?_⟩
  · obtain ⟨h0, h1, h2, h3, h4⟩ := of_decide_eq_true hg
    cases s; simp_all [nbU, nbB]
  · obtain ⟨h0, h1, h2, h3, h4⟩ := of_decide_eq_true hg
    refine (nbO_step concFOps _).trans ?_
    dsimp only
    rw [decide_eq_true (show ((i : Nat) : Int) < s.k by omega), cond_true]
    have e1 : decide (((i : Nat) : Int).tmod 8 = 0) = decide (i % 8 = 0) := by
      rw [show ((i : Nat) : Int).tmod 8 = ((i % 8 : Nat) : Int) from rfl]
      exact decide_eq_decide.2 (by omega)
    rw [e1, show nbU (i + 1) = (bif decide (i % 8 = 0) then 1 else nbU i) * 2 % 2 ^ 8 from rfl, show nbB (i + 1) = (nbB i).set (i / 8) (((nbB i).getD (i / 8) 0 + (bif decide (i % 8 = 0) then 1 else nbU i)) % 2 ^ 8) from rfl]
    generalize decide (i % 8 = 0) = c
    cases c
    · rw [cond_false, cond_false]
      exact nbT_some (i := i) rfl (by omega) (nbB_len i)
    · rw [cond_true, cond_true]
      exact nbT_some (i := i) rfl (by omega) (nbB_len i)
  · obtain ⟨h0, h1, h2, h3, h4⟩ := of_decide_eq_true hg
    refine (nbO_step concFOps _).trans ?_
    dsimp only
    rw [decide_eq_false (show ¬ ((s.k.toNat : Nat) : Int) < s.k by omega), cond_false, Int.toNat_of_nonneg h0]
theorem nb_loops : LoopsOK Tryz.prog nbR.ntmps [(4, gNb)] (bodyOf nbR) := loopsOK_cons LoopsOK.nil (by kernel_rfl) nbO_at
theorem number255_run : runNL (X_rootF concFOps) [(4, gNb)] [0,1,4,5,6,7,11,16] 300 nbR (bodyOf nbR) (laArgs [.v (.n 255), .v (.n 21)] 0) (laLists [.v (.n 255), .v (.n 21)]) = some (.slice 0 0 32 true, some ⟨.bytes (numberL 255 21), true⟩) := by
  kernel_rfl
theorem number252_run : runNL (X_rootF concFOps) [(4, gNb)] [0,1,4,5,6,7,11,16] 300 nbR (bodyOf nbR) (laArgs [.v (.n 252), .v (.n 2)] 0) (laLists [.v (.n 252), .v (.n 2)]) = some (.slice 0 0 32 true, some ⟨.bytes (numberL 252 2), true⟩) := by
  kernel_rfl
theorem number253_run : runNL (X_rootF concFOps) [(4, gNb)] [0,1,4,5,6,7,11,16] 300 nbR (bodyOf nbR) (laArgs [.v (.n 253), .v (.n 5)] 0) (laLists [.v (.n 253), .v (.n 5)]) = some (.slice 0 0 32 true, some ⟨.bytes (numberL 253 5), true⟩) := by
  kernel_rfl
def u_numberR (_ : FOps) (args : List LA) : Option (AV × Option Blk) := match args with
  | [.v x0, .v x1] => (match int? x0, int? x1 with
    | some k, some l => some (.slice 0 0 32 true, some (⟨.bytes (numberL k l), true⟩))
    | _, _ => none)
  | _ => none
def c_numberR (args : List LA) : Bool := match args with
  | [.v x0, .v x1] => (match int? x0, int? x1 with
    | some k, some l => decide ((k = 255 ∧ l = 21) ∨ (k = 252 ∧ l = 2) ∨ (k = 253 ∧ l = 5))
    | _, _ => false)
  | _ => false
def g_numberR (o : FOps) (args : List LA) : Option (AV × Option Blk) := bif c_numberR args then u_numberR o args else none
theorem numberR_at : QuietAt Tryz.prog 134 (lav (g_numberR concFOps)) := by
  refine quietAt_of_runA X_rootF_ok (L := [(4, gNb)]) (keep := [0,1,4,5,6,7,11,16]) Tryz.func134 (c := bodyOf Tryz.f134) (by kernel_rfl) (by kernel_rfl) (nb_loops) fun args v h hw => ⟨300, ?_⟩
  unfold g_numberR at h
  have hg := (bif_some h).1
  replace h := (bif_some h).2
  unfold u_numberR at h
  split at h
  · rename_i x0 x1
    split at h
    · rename_i k l hh0 hh1
      have ehh0 := int?_some hh0
      subst ehh0
      have ehh1 := int?_some hh1
      subst ehh1
      replace hg : (decide ((k = 255 ∧ l = 21) ∨ (k = 252 ∧ l = 2) ∨ (k = 253 ∧ l = 5))) = true := hg
      rw [← h]
      rcases of_decide_eq_true hg with ⟨rfl, rfl⟩ | ⟨rfl, rfl⟩ | ⟨rfl, rfl⟩
      · exact number255_run
      · exact number252_run
      · exact number253_run
    · cases h
  · cases h
def X_numberR (o : FOps) : Cx := { X_rootF o with O := addQ (X_rootF o).O 134 (lavG c_numberR (u_numberR o)) }
theorem X_numberR_ok : CxOK Tryz.prog (X_numberR concFOps) := { X_rootF_ok with quiet := addQ_ok X_rootF_ok.quiet (lavG_at numberR_at) }
def rinvO (o : FOps) (a : L4) : L4 := rpowL o a (numberL 255 21)
theorem invR_run (o : FOps) (a : L4) : runNL (X_numberR o) [] [0,1,2] 200 Tryz.f73 (bodyOf Tryz.f73) (laArgs [.v (rnumV a)] 0) (laLists [.v (rnumV a)]) = some (rnumV (rinvO o a), none) := by
  kernel_rfl
def g_invR (o : FOps) (args : List LA) : Option (AV × Option Blk) := match args with
  | [.v x0] => (match rnum? x0 with
    | some a => some (rnumV (rinvO o a), none)
    | _ => none)
  | _ => none
theorem invR_at : QuietAt Tryz.prog 73 (lav (g_invR concFOps)) := by
  refine quietAt_of_runA X_numberR_ok (L := []) (keep := [0,1,2]) Tryz.func73 (c := bodyOf Tryz.f73) (by kernel_rfl) (by kernel_rfl) (LoopsOK.nil) fun args v h hw => ⟨200, ?_⟩
  unfold g_invR at h
  split at h
  · rename_i x0
    split at h
    · rename_i a hh0
      have ehh0 := rnum?_some hh0
      subst ehh0
      rw [← h]
      refine (invR_run concFOps a).trans ?_
      rfl
    · cases h
  · cases h
def X_invR (o : FOps) : Cx := { X_numberR o with O := addQ (X_numberR o).O 73 (lav (g_invR o)) }
theorem X_invR_ok : CxOK Tryz.prog (X_invR concFOps) := { X_numberR_ok with quiet := addQ_ok X_numberR_ok.quiet invR_at }
def rroot1 (o : FOps) (a : L4) : L4 := rpowL o a (numberL 252 2)
def rroot2 (o : FOps) (a : L4) : L4 := o.rmul (rroot1 o a) (rpowL o (o.rsmall 2) (numberL 253 5))
def rrootT (o : FOps) (a : L4) : L4 := bif !(o.requal (o.rsq (rroot1 o a)) a) then rroot2 o a else rroot1 o a
def rrootO (o : FOps) (a : L4) : L4 := bif !(o.requal (o.rsq (rrootT o a)) a) then zeroR else bif o.rodd (rrootT o a) then o.rneg (rrootT o a) else rrootT o a
def rrootB (o : FOps) (a : L4) : Bool := o.requal (o.rsq (rrootT o a)) a
def rrootRun (o : FOps) (a r : L4) : Option (AV × Option Blk) := bif !(o.requal (o.rsq r) a) then some (.tup [rnumV zeroR, .bool false], none) else bif o.rodd r then some (.tup [rnumV (o.rneg r), .bool true], none) else some (.tup [rnumV r, .bool true], none)
theorem rrootRun_eq (o : FOps) (a : L4) : (bif !(o.requal (o.rsq (rroot1 o a)) a) then rrootRun o a (rroot2 o a) else rrootRun o a (rroot1 o a)) = some (.tup [rnumV (rrootO o a), .bool (rrootB o a)], none) := by
  have h : (bif !(o.requal (o.rsq (rroot1 o a)) a) then rrootRun o a (rroot2 o a) else rrootRun o a (rroot1 o a)) = rrootRun o a (rrootT o a) := by
    unfold rrootT
    cases o.requal (o.rsq (rroot1 o a)) a <;> rfl
  rw [h]
  unfold rrootRun rrootO rrootB
  generalize rrootT o a = r
  cases o.requal (o.rsq r) a <;> cases o.rodd r <;> rfl
theorem rootR_run (o : FOps) (a : L4) : runNL (X_invR o) [] [0,1,2,3,4,12,22,25] 200 Tryz.f152 (bodyOf Tryz.f152) (laArgs [.v (rnumV a)] 0) (laLists [.v (rnumV a)]) = bif !(o.requal (o.rsq (rroot1 o a)) a) then rrootRun o a (rroot2 o a) else rrootRun o a (rroot1 o a) := by
  kernel_rfl
def g_rootR (o : FOps) (args : List LA) : Option (AV × Option Blk) := match args with
  | [.v x0] => (match rnum? x0 with
    | some a => some (.tup [rnumV (rrootO o a), .bool (rrootB o a)], none)
    | _ => none)
  | _ => none
theorem rootR_at : QuietAt Tryz.prog 152 (lav (g_rootR concFOps)) := by
  refine quietAt_of_runA X_invR_ok (L := []) (keep := [0,1,2,3,4,12,22,25]) Tryz.func152 (c := bodyOf Tryz.f152) (by kernel_rfl) (by kernel_rfl) (LoopsOK.nil) fun args v h hw => ⟨200, ?_⟩
  unfold g_rootR at h
  split at h
  · rename_i x0
    split at h
    · rename_i a hh0
      have ehh0 := rnum?_some hh0
      subst ehh0
      rw [← h]
      refine (rootR_run concFOps a).trans ?_
      exact rrootRun_eq concFOps a
    · cases h
  · cases h
def X_rootR (o : FOps) : Cx := { X_invR o with O := addQ (X_invR o).O 152 (lav (g_rootR o)) }
theorem X_rootR_ok : CxOK Tryz.prog (X_rootR concFOps) := { X_invR_ok with quiet := addQ_ok X_invR_ok.quiet rootR_at }

/-! ### the laws' lists -/
def primeL (n : Nat) : List Nat := [(237 + (2 ^ 8 - n)) % 2 ^ 8, 255, 255, 255, 255, 255, 255, 255, 255, 255, 255, 255, 255, 255, 255, 255, 255, 255, 255, 255, 255, 255, 255, 255, 255, 255, 255, 255, 255, 255, 255, 127]
def halfL : List Nat := [246, 255, 255, 255, 255, 255, 255, 255, 255, 255, 255, 255, 255, 255, 255, 255, 255, 255, 255, 255, 255, 255, 255, 255, 255, 255, 255, 255, 255, 255, 255, 63]
end Go.Proofs.YtpmbfepkdjkheaaGreat

