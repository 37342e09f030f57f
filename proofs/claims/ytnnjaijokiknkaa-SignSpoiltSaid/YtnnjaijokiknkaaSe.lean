/- Layer 20: the lists that the laws hand in, and look at again. -/
import Derived.Test.YtnnjaijokiknkaaSb
namespace Go.Proofs.Ytnnjaijokiknkaa
open Go Pw Go.RowKit
def mk20 (n : Nat) : List Nat := (List.range n).map fun i => 100 + i
theorem mk20_len (n : Nat) : (mk20 n).length = n := by unfold mk20; simp
theorem mk20_get (n i : Nat) (h : i < n) : (mk20 n)[i]? = some (100 + i) := by
  unfold mk20
  rw [List.getElem?_map, List.getElem?_range h]; rfl
theorem mk20_succ (n : Nat) : mk20 (n + 1) = mk20 n ++ [100 + n] := by
  unfold mk20
  rw [List.range_succ, List.map_append]; rfl
/-! ### hand -/
noncomputable abbrev hdL : Func := Try.f75
structure S_hd where
  n : Nat
  m : Nat
  i : Int
  b : List Nat
  l : List Nat
def d_hd : LoopDef S_hd where
  ts := [0, 3, 4]
  E := fun s => [(0, .slice 0 0 s.n false), (3, .slice 1 0 s.m true), (4, .n s.i)]
  M := fun s => [⟨.bytes s.b, false⟩, ⟨.bytes s.l, true⟩]
  dec := fun vs mem => match vs, mem with
    | [.slice 0 0 n false, .slice 1 0 m true, x4], [⟨.bytes b, false⟩, ⟨.bytes l, true⟩] => (match int? x4 with
      | some i => some ⟨n, m, i, b, l⟩
      | _ => none)
    | _, _ => none
  ok := fun vs mem s h => by
    split at h
    · split at h
      · rename_i i hh0
        have ehh0 := int?_some hh0
        subst ehh0
        cases h; exact ⟨rfl, rfl⟩
      · cases h
    · cases h
def hdX (s : S_hd) : Nat := 0 + (w64 ((s.n : Int) + s.i)).toNat * 1
def hdN (s : S_hd) : S_hd := { s with i := w64 (s.i + 1), l := s.l.set (hdX s) (w64 (100 + s.i) % 256).toNat }
theorem hd_step (g : GOps) (s : S_hd) : codeK (X_lend g) [] hdL.ntmps [0,2,3,4,13] 60 (loopB (bodyOf hdL) 4) (d_hd.E s) (d_hd.M s) (outK d_hd.ts) =
    brn (decide (s.i < 80)) (gds [decide (0 ≤ w64 ((s.n : Int) + s.i) ∧ w64 ((s.n : Int) + s.i) < (s.m : Int)), decide (hdX s < s.l.length)] (some (.normal, d_hd.E (hdN s), d_hd.M (hdN s)))) (some (.exit 0, d_hd.E s, d_hd.M s)) := by kernel_rfl
def hdG (s : S_hd) : Bool := decide (s.i = 0 ∧ s.n = s.b.length ∧ s.m = s.n + 80 ∧ s.l = s.b ++ List.replicate 80 0 ∧ s.n < 4611686018427387904)
def gHd : LoopFn := d_hd.fn hdG (.exit 0) (fun s => { s with i := 80, l := s.b ++ mk20 80 })
def hdI (s : S_hd) (k : Nat) : S_hd := { s with i := (k : Int), l := s.b ++ (mk20 k ++ List.replicate (80 - k) 0) }
theorem set_mid (a b : List Nat) (x y : Nat) : (a ++ x :: b).set a.length y = a ++ y :: b := by
  rw [List.set_append_right _ _ (Nat.le_refl _), Nat.sub_self]; rfl
theorem hdI_succ {s : S_hd} (h2 : s.n = s.b.length) (h5 : s.n < 4611686018427387904) {k : Nat} (hk : k < 80) : hdX (hdI s k) = s.n + k ∧ hdN (hdI s k) = hdI s (k + 1) := by
  have hX : hdX (hdI s k) = s.n + k := by
    show 0 + (w64 ((s.n : Int) + (k : Int))).toNat * 1 = _
    rw [w64_id (by omega) (by omega)]; omega
  refine ⟨hX, ?_⟩
  have e1 : w64 ((hdI s k).i + 1) = ((k + 1 : Nat) : Int) := by
    show w64 ((k : Int) + 1) = _
    rw [w64_id (by omega) (by omega)]; rfl
  have e2 : (w64 (100 + (hdI s k).i) % 256).toNat = 100 + k := by
    show (w64 (100 + (k : Int)) % 256).toNat = _
    rw [w64_id (by omega) (by omega)]; omega
  have e3 : (hdI s k).l.set (s.n + k) (100 + k) = s.b ++ (mk20 (k + 1) ++ List.replicate (80 - (k + 1)) 0) := by
    show (s.b ++ (mk20 k ++ List.replicate (80 - k) 0)).set (s.n + k) (100 + k) = _
    rw [show 80 - k = (80 - (k + 1)) + 1 by omega, List.replicate_succ, ← List.append_assoc, show s.n + k = (s.b ++ mk20 k).length by rw [List.length_append, mk20_len, h2], set_mid, mk20_succ]
    simp
  unfold hdN
  rw [e1, hX, e2, e3]; rfl
theorem hd_at : LoopAt Try.prog hdL.ntmps (loopB (bodyOf hdL) 4) gHd := by
  refine d_hd.loop (keep := [0,2,3,4,13]) X_lend_ok LoopsOK.nil (by simp) fun s hg => ⟨80, hdI s, ?_, fun k hk => ⟨60, ?_⟩, 60, ?_⟩
  · obtain ⟨h1, h2, h3, h4, h5⟩ := of_decide_eq_true hg
    unfold hdI
    rw [show ((0 : Nat) : Int) = s.i by rw [h1]; rfl, show mk20 0 ++ List.replicate (80 - 0) 0 = List.replicate 80 0 from rfl, ← h4]
  · obtain ⟨h1, h2, h3, h4, h5⟩ := of_decide_eq_true hg
    obtain ⟨hX, hN⟩ := hdI_succ h2 h5 hk
    refine (hd_step concGO _).trans ?_
    have ei : (hdI s k).i = (k : Int) := rfl
    have en : (hdI s k).n = s.n := rfl
    have em : (hdI s k).m = s.m := rfl
    have el : (hdI s k).l.length = s.n + 80 := by
      show (s.b ++ (mk20 k ++ List.replicate (80 - k) 0)).length = _
      rw [List.length_append, List.length_append, mk20_len, List.length_replicate, h2]; omega
    rw [hN, gds_true]
    · rw [ei, decide_eq_true (by omega), brn_eq, cond_true]
    · intro c hc
      rw [hX, el, ei, en, em, w64_id (by omega) (by omega)] at hc
      simp only [List.mem_cons, List.not_mem_nil, or_false] at hc
      rcases hc with h | h <;> (rw [h]; exact decide_eq_true (by omega))
  · obtain ⟨h1, h2, h3, h4, h5⟩ := of_decide_eq_true hg
    refine (hd_step concGO _).trans ?_
    rw [show (hdI s 80).i = ((80 : Nat) : Int) from rfl, decide_eq_false (by omega), brn_eq, cond_false]
    have : hdI s 80 = { s with i := 80, l := s.b ++ mk20 80 } := by
      unfold hdI
      rw [show List.replicate (80 - 80) 0 = ([] : List Nat) from rfl, List.append_nil]; rfl
    rw [this]
theorem hd_loops : LoopsOK Try.prog hdL.ntmps [(4, gHd)] (bodyOf hdL) := loopsOK_cons LoopsOK.nil (by kernel_rfl) hd_at
def handL (b : List Nat) : List Nat := b ++ mk20 80
def hdCap (b : List Nat) : Nat := (w64 ((b.length : Int) + 80)).toNat
def hdP (b : List Nat) : List Nat := List.take (hdCap b) (List.take b.length (List.drop 0 b))
def hdZ (b : List Nat) : List Nat := List.replicate (hdCap b) 0
def hdL0 (b : List Nat) : List Nat := List.take 0 (hdZ b) ++ (hdP b ++ List.drop (0 + (hdP b).length) (hdZ b))
def handT (b : List Nat) : Option (AV × Option Blk) := gds [decide (0 ≤ w64 ((b.length : Int) + 80) ∧ w64 ((b.length : Int) + 80) ≤ w64 ((b.length : Int) + 80) ∧ w64 ((b.length : Int) + 80) ≤ 281474976710656),
  decide (0 + b.length ≤ b.length), decide (0 + (hdP b).length ≤ (hdZ b).length), hdG ⟨b.length, hdCap b, 0, b, hdL0 b⟩, Nat.blt 0 (hdCap b)] (some (.slice 0 0 (hdCap b) true, some ⟨.bytes (handL b), true⟩))
theorem handT_eq {b : List Nat} (h : b.length ≤ 140737488351232) : handT b = some (.slice 0 0 (b.length + 80) true, some ⟨.bytes (handL b), true⟩) := by
  have hw : w64 ((b.length : Int) + 80) = (b.length : Int) + 80 := w64_id (by omega) (by omega)
  have hc : hdCap b = b.length + 80 := by unfold hdCap; rw [hw]; omega
  have hp : hdP b = b := by unfold hdP; rw [hc, List.drop_zero, List.take_length, List.take_of_length_le (by omega)]
  have hz : (hdZ b).length = b.length + 80 := by unfold hdZ; rw [List.length_replicate, hc]
  have hl : hdL0 b = b ++ List.replicate 80 0 := by
    unfold hdL0
    rw [hp, List.take_zero, List.nil_append, Nat.zero_add]
    congr 1
    unfold hdZ
    rw [List.drop_replicate, hc]
    congr 1
    omega
  unfold handT
  rw [hw, hc, hp, hz, hl, gds_true]
  intro c hcc
  simp only [List.mem_cons, List.not_mem_nil, or_false] at hcc
  rcases hcc with hh | hh | hh | hh | hh
  · rw [hh]; exact decide_eq_true (by omega)
  · rw [hh]; exact decide_eq_true (by omega)
  · rw [hh]; exact decide_eq_true (by omega)
  · rw [hh]; exact decide_eq_true ⟨rfl, rfl, rfl, rfl, by show b.length < _; omega⟩
  · rw [hh]; rw [Nat.blt_eq]; omega
theorem hand_run (g : GOps) (b : List Nat) : runNL (X_lend g) [(4, gHd)] [0,2,3,4,13] 400 Try.f75 (bodyOf Try.f75) (laArgs [.l b] 0) (laLists [.l b]) = handT b := by
  kernel_rfl
def u_hand (_ : GOps) (args : List LA) : Option (AV × Option Blk) := match args with
  | [.l b] => some (.slice 0 0 (b.length + 80) true, some (⟨.bytes (handL b), true⟩))
  | _ => none
def c_hand (args : List LA) : Bool := match args with
  | [.l b] => decide (b.length ≤ 140737488351232)
  | _ => false
def g_hand (g : GOps) (args : List LA) : Option (AV × Option Blk) := bif c_hand args then u_hand g args else none
theorem hand_at : QuietAt Try.prog 75 (lav (g_hand concGO)) := by
  refine quietAt_of_runA X_lend_ok (L := [(4, gHd)]) (keep := [0,2,3,4,13]) Try.func75 (c := bodyOf Try.f75) (by kernel_rfl) (by kernel_rfl) (hd_loops) fun args v h hw => ⟨400, ?_⟩
  unfold g_hand at h
  have hg := (bif_some h).1
  replace h := (bif_some h).2
  unfold u_hand at h
  split at h
  · rename_i b
    replace hg : (decide (b.length ≤ 140737488351232)) = true := hg
    rw [← h]
    refine (hand_run concGO b).trans ?_
    exact handT_eq (of_decide_eq_true hg)
  · cases h
noncomputable def X_hand (g : GOps) : Cx := { X_lend g with O := addQ (X_lend g).O 75 (lavG c_hand (u_hand g)) }
theorem X_hand_ok : CxOK Try.prog (X_hand concGO) := { X_lend_ok with quiet := addQ_ok X_lend_ok.quiet (lavG_at hand_at) }
/-! ### left -/
noncomputable abbrev lfL : Func := Try.f78
structure S_lf where
  n : Nat
  m : Nat
  i : Int
  l : List Nat
  b : List Nat
def d_lf : LoopDef S_lf where
  ts := [0, 1, 5]
  E := fun s => [(0, .slice 0 0 s.n false), (1, .slice 1 0 s.m false), (5, .n s.i)]
  M := fun s => [⟨.bytes s.l, false⟩, ⟨.bytes s.b, false⟩]
  dec := fun vs mem => match vs, mem with
    | [.slice 0 0 n false, .slice 1 0 m false, x5], [⟨.bytes l, false⟩, ⟨.bytes b, false⟩] => (match int? x5 with
      | some i => some ⟨n, m, i, l, b⟩
      | _ => none)
    | _, _ => none
  ok := fun vs mem s h => by
    split at h
    · split at h
      · rename_i i hh0
        have ehh0 := int?_some hh0
        subst ehh0
        cases h; exact ⟨rfl, rfl⟩
      · cases h
    · cases h
def lfX (s : S_lf) : Nat := 0 + (w64 ((s.m : Int) + s.i)).toNat * 1
def lfN (s : S_lf) : S_lf := { s with i := w64 (s.i + 1) }
theorem lf_step (g : GOps) (s : S_lf) : codeK (X_hand g) [] lfL.ntmps [0,1,4,5,7,20] 60 (loopB (bodyOf lfL) 2) (d_lf.E s) (d_lf.M s) (outK d_lf.ts) =
    brn (decide (s.i < 80)) (gds [decide (0 ≤ w64 ((s.m : Int) + s.i) ∧ w64 ((s.m : Int) + s.i) < (s.n : Int)), decide (lfX s < s.l.length)]
      (brn (!decide (s.l.getD (lfX s) 0 = (w64 (100 + s.i) % 256).toNat)) (some (.ret, d_lf.E s, d_lf.M s)) (some (.normal, d_lf.E (lfN s), d_lf.M (lfN s))))) (some (.exit 0, d_lf.E s, d_lf.M s)) := by kernel_rfl
def gLf : LoopFn := d_lf.fn (fun s => decide (s.i = 0 ∧ s.n = s.l.length ∧ s.m = s.b.length ∧ s.l = s.b ++ mk20 80 ∧ s.m < 4611686018427387904)) (.exit 0) (fun s => { s with i := 80 })
theorem lf_at : LoopAt Try.prog lfL.ntmps (loopB (bodyOf lfL) 2) gLf := by
  refine d_lf.loop (keep := [0,1,4,5,7,20]) X_hand_ok LoopsOK.nil (by simp) fun s hg => ⟨80, fun k => { s with i := (k : Int) }, ?_, fun k hk => ⟨60, ?_⟩, 60, ?_⟩
  · obtain ⟨h1, h2, h3, h4, h5⟩ := of_decide_eq_true hg
    cases s; simp at h1; subst h1; rfl
  · obtain ⟨h1, h2, h3, h4, h5⟩ := of_decide_eq_true hg
    have hl : s.l.length = s.m + 80 := by rw [h4, List.length_append, mk20_len, h3]
    refine (lf_step concGO _).trans ?_
    have hX : lfX { s with i := (k : Int) } = s.m + k := by
      show 0 + (w64 ((s.m : Int) + (k : Int))).toNat * 1 = _
      rw [w64_id (by omega) (by omega)]; omega
    have hN : lfN { s with i := (k : Int) } = { s with i := ((k + 1 : Nat) : Int) } := by
      unfold lfN
      dsimp only
      rw [w64_id (by omega) (by omega)]; rfl
    have hg2 : s.l.getD (s.m + k) 0 = 100 + k := by
      rw [List.getD_eq_getElem?_getD, h4, List.getElem?_append_right (by omega), h3, Nat.add_sub_cancel_left, mk20_get _ _ hk]; rfl
    rw [hX, hN, gds_true]
    · dsimp only
      rw [hg2, decide_eq_true (show (k : Int) < 80 by omega), decide_eq_true (show 100 + k = (w64 (100 + (k : Int)) % 256).toNat by rw [w64_id (by omega) (by omega)]; omega)]
      rfl
    · intro c hc
      dsimp only at hc
      rw [w64_id (by omega) (by omega)] at hc
      simp only [List.mem_cons, List.not_mem_nil, or_false] at hc
      rcases hc with h | h <;> (rw [h]; exact decide_eq_true (by omega))
  · refine (lf_step concGO _).trans ?_
    dsimp only
    rw [show decide (((80 : Nat) : Int) < 80) = false from rfl]
    rfl
theorem lf_loops : LoopsOK Try.prog lfL.ntmps [(2, gLf)] (bodyOf lfL) := loopsOK_cons LoopsOK.nil (by kernel_rfl) lf_at
def leftT (l b : List Nat) : Option (AV × Option Blk) := gds [decide ((0 : Int) = 0 ∧ l.length = l.length ∧ b.length = b.length ∧ l = b ++ mk20 80 ∧ b.length < 4611686018427387904), decide (0 ≤ (b.length : Int) ∧ (b.length : Int) ≤ (l.length : Int)),
  decide (0 + 0 * 1 + ((b.length : Int).toNat - 0) ≤ l.length), decide (0 + b.length ≤ b.length)] (some (.bool ((strOf (List.take ((b.length : Int).toNat - 0) (List.drop (0 + 0 * 1) l))).toList == (strOf (List.take b.length (List.drop 0 b))).toList), none))
theorem leftT_eq {l b : List Nat} (h : l = handL b) (hb : b.length < 4611686018427387904) : leftT l b = some (.bool true, none) := by
  subst h
  have hl : (handL b).length = b.length + 80 := by unfold handL; rw [List.length_append, mk20_len]
  have ht : List.take ((b.length : Int).toNat - 0) (List.drop (0 + 0 * 1) (handL b)) = b := by
    rw [show (b.length : Int).toNat - 0 = b.length by omega, show 0 + 0 * 1 = 0 from rfl, List.drop_zero]
    unfold handL
    rw [List.take_left' rfl]
  unfold leftT
  rw [ht, hl, List.drop_zero, List.take_length, gds_true]
  · rw [beq_self_eq_true]
  · intro c hc
    simp only [List.mem_cons, List.not_mem_nil, or_false] at hc
    rcases hc with hh | hh | hh | hh
    · rw [hh]; exact decide_eq_true ⟨trivial, trivial, trivial, rfl, hb⟩
    · rw [hh]; exact decide_eq_true (by omega)
    · rw [hh]; exact decide_eq_true (by omega)
    · rw [hh]; exact decide_eq_true (by omega)
theorem left_run (g : GOps) (l : List Nat) (b : List Nat) : runNL (X_hand g) [(2, gLf)] [0,1,4,5,7,20] 400 Try.f78 (bodyOf Try.f78) (laArgs [.l l, .l b] 0) (laLists [.l l, .l b]) = leftT l b := by
  kernel_rfl
def u_left (_ : GOps) (args : List LA) : Option (AV × Option Blk) := match args with
  | [.l _, .l _] => some (.bool true, none)
  | _ => none
def c_left (args : List LA) : Bool := match args with
  | [.l l, .l b] => decide (l = handL b ∧ b.length < 4611686018427387904)
  | _ => false
def g_left (g : GOps) (args : List LA) : Option (AV × Option Blk) := bif c_left args then u_left g args else none
theorem left_at : QuietAt Try.prog 78 (lav (g_left concGO)) := by
  refine quietAt_of_runA X_hand_ok (L := [(2, gLf)]) (keep := [0,1,4,5,7,20]) Try.func78 (c := bodyOf Try.f78) (by kernel_rfl) (by kernel_rfl) (lf_loops) fun args v h hw => ⟨400, ?_⟩
  unfold g_left at h
  have hg := (bif_some h).1
  replace h := (bif_some h).2
  unfold u_left at h
  split at h
  · rename_i l b
    replace hg : (decide (l = handL b ∧ b.length < 4611686018427387904)) = true := hg
    rw [← h]
    refine (left_run concGO l b).trans ?_
    obtain ⟨h1, h2⟩ := of_decide_eq_true hg
    exact leftT_eq h1 h2
  · cases h
noncomputable def X_left (g : GOps) : Cx := { X_hand g with O := addQ (X_hand g).O 78 (lavG c_left (u_left g)) }
theorem X_left_ok : CxOK Try.prog (X_left concGO) := { X_hand_ok with quiet := addQ_ok X_hand_ok.quiet (lavG_at left_at) }
end Go.Proofs.Ytnnjaijokiknkaa

