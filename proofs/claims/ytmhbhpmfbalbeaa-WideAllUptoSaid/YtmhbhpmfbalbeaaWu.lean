/- The folds over blocks, of the document and of the law; the document's Sum. Printed by wip/tools/genfold.py. -/
import Derived.Test.YtmhbhpmfbalbeaaWt
namespace Go.Proofs.Ytmhbhpmfbalbeaa
open Go Pw Go.RowKit
structure S_fi where
  n : Nat
  p : Int
  i : Int
  b : List Nat
  B1 : Blk
  B2 : Blk
  x : List Nat
def d_fi : LoopDef2 S_fi where
  ts := [1, 2, 4, 5, 6, 7]
  E := fun s => [(1, .slice 0 0 s.n false), (2, .ptr 1 0), (4, .ptr 2 0), (5, .n s.p), (6, .ptr 3 0), (7, .n s.i)]
  M := fun s => [⟨.bytes s.b, false⟩, s.B1, s.B2, ⟨.bytes s.x, true⟩]
  Mo := fun s => [⟨.bytes s.b, false⟩, s.B1, s.B2, ⟨.bytes s.x, true⟩]
  dec := fun vs mem => match vs, mem with
    | [.slice 0 0 n false, .ptr 1 0, .ptr 2 0, .n p, .ptr 3 0, .n i], [⟨.bytes b, false⟩, B1, B2, ⟨c, true⟩] => (match blkBytes ⟨c, true⟩ with
      | some x => some ⟨n, p, i, b, B1, B2, x⟩
      | none => none)
    | _, _ => none
  ok := fun vs mem s h => by
    split at h
    · split at h
      · rename_i x hx
        cases h
        exact ⟨rfl, .cons (.refl _) (.cons (.refl _) (.cons (.refl _) (.cons (blkBytes_some hx) .nil)))⟩
      · cases h
    · cases h
def fiN (s : S_fi) : S_fi := { s with i := w64 (s.i + 1), x := s.x.set (0 + s.i.toNat * 1) (s.b.getD (0 + (w64 (s.p + s.i)).toNat * 1) 0) }
def fiG (s : S_fi) : Bool := decide (s.i = 0 ∧ 0 ≤ s.p ∧ s.n = s.b.length ∧ s.p.toNat + 128 ≤ s.n ∧ s.x.length = 128 ∧ s.n < 4611686018427387904)
def fiF (s : S_fi) : S_fi := { s with i := 128, x := (s.b.drop s.p.toNat).take 128 }
def gFi : LoopFn := d_fi.fn fiG (.exit 2) fiF
def fiAt (s : S_fi) (i : Nat) : S_fi := { s with i := (i : Int), x := (s.b.drop s.p.toNat).take i ++ s.x.drop i }
theorem fiAt_zero {s : S_fi} (h : fiG s = true) : fiAt s 0 = s := by
  obtain ⟨h1, -⟩ := of_decide_eq_true h
  unfold fiAt
  rw [List.take_zero, List.drop_zero, List.nil_append, show ((0 : Nat) : Int) = s.i by rw [h1]; rfl]
theorem fiAt_fin {s : S_fi} (h : fiG s = true) : fiAt s 128 = fiF s := by
  obtain ⟨h1, h2, h3, h4, h5, h6⟩ := of_decide_eq_true h
  unfold fiAt fiF
  rw [show List.drop 128 s.x = [] from List.drop_eq_nil_of_le (by omega), List.append_nil]
  rfl
theorem fiAt_step {s : S_fi} (h : fiG s = true) {i : Nat} (hi : i < 128) : decide ((fiAt s i).i < 128) = true ∧
    (∀ c ∈ [decide (0 ≤ w64 ((fiAt s i).p + (fiAt s i).i) ∧ w64 ((fiAt s i).p + (fiAt s i).i) < ((fiAt s i).n : Int)), decide (0 + (w64 ((fiAt s i).p + (fiAt s i).i)).toNat * 1 < (fiAt s i).b.length), decide (0 ≤ (fiAt s i).i ∧ (fiAt s i).i < 128), decide (0 + (fiAt s i).i.toNat * 1 < (fiAt s i).x.length)], c = true) ∧
    fiN (fiAt s i) = fiAt s (i + 1) := by
  obtain ⟨h1, h2, h3, h4, h5, h6⟩ := of_decide_eq_true h
  have hi' : (fiAt s i).i = (i : Int) := rfl
  have hp : (fiAt s i).p = s.p := rfl
  have hn : (fiAt s i).n = s.n := rfl
  have hb : (fiAt s i).b = s.b := rfl
  have ht : ((s.b.drop s.p.toNat).take i).length = i := by rw [List.length_take, List.length_drop]; omega
  have hx : (fiAt s i).x.length = 128 := by
    show ((s.b.drop s.p.toNat).take i ++ s.x.drop i).length = 128
    rw [List.length_append, ht, List.length_drop]; omega
  have hw : w64 (s.p + (i : Int)) = s.p + (i : Int) := w64_id (by omega) (by omega)
  refine ⟨by rw [hi']; exact decide_eq_true (by omega), fun c hc => ?_, ?_⟩
  · rw [hi', hp, hn, hb, hx, hw] at hc
    simp only [List.mem_cons, List.not_mem_nil, or_false] at hc
    have b1 : 0 ≤ s.p + (i : Int) ∧ s.p + (i : Int) < (s.n : Int) := by omega
    have b2 : 0 + (s.p + (i : Int)).toNat * 1 < s.b.length := by omega
    have b3 : (0 : Int) ≤ (i : Int) ∧ (i : Int) < 128 := by omega
    have b4 : 0 + (i : Int).toNat * 1 < 128 := by omega
    rcases hc with h | h | h | h
    · rw [h]; exact decide_eq_true b1
    · rw [h]; exact decide_eq_true b2
    · rw [h]; exact decide_eq_true b3
    · rw [h]; exact decide_eq_true b4
  · unfold fiN
    rw [hi', hp, hb, hw]
    have hset : ((s.b.drop s.p.toNat).take i ++ s.x.drop i).set i (s.b.getD (s.p.toNat + i) 0) = (s.b.drop s.p.toNat).take (i + 1) ++ s.x.drop (i + 1) := by
      have hlt : i < (s.b.drop s.p.toNat).length := by rw [List.length_drop]; omega
      rw [List.set_append_right _ _ (by omega), ht, Nat.sub_self, show List.drop i s.x = s.x[i]'(by omega) :: List.drop (i + 1) s.x from List.drop_eq_getElem_cons (by omega), List.set_cons_zero, List.take_succ_eq_append_getElem hlt, List.append_assoc, List.getElem_drop, List.getD_eq_getElem?_getD, List.getElem?_eq_getElem (by omega)]
      rfl
    have e : (fiAt s i).x.set (0 + (i : Int).toNat * 1) (s.b.getD (0 + (s.p + (i : Int)).toNat * 1) 0) = (fiAt s (i + 1)).x := by
      rw [show 0 + (i : Int).toNat * 1 = i by omega, show 0 + (s.p + (i : Int)).toNat * 1 = s.p.toNat + i by omega]; exact hset
    rw [e, w64_id (by omega) (by omega)]
    rfl
structure S_fo where
  n : Nat
  p : Int
  b : List Nat
  w : List Nat
  z : List Nat
def d_fo : LoopDefG S_fo where
  ts := [1, 2, 4, 5]
  n := 3
  src0 := []
  srcN := []
  srcX := []
  E := fun s => [(1, .slice 0 0 s.n false), (2, .ptr 1 0), (4, .ptr 2 0), (5, .n s.p)]
  M := fun s => [⟨.bytes s.b, false⟩, ⟨.cells (arrS .u64 8 s.w), true⟩, ⟨.cells (arrS .u64 8 s.z), true⟩]
  Mo := fun s => [⟨.bytes s.b, false⟩, ⟨.cells (arrS .u64 8 s.w), true⟩, ⟨.cells (arrS .u64 8 s.z), true⟩]
  dec := fun vs mem => match vs, mem with
    | [.slice 0 0 n false, .ptr 1 0, .ptr 2 0, .n p], [⟨.bytes b, false⟩, ⟨.cells [.u .u64 a1, .u .u64 a2, .u .u64 a3, .u .u64 a4, .u .u64 a5, .u .u64 a6, .u .u64 a7, .u .u64 a8], true⟩, ⟨.cells [.u .u64 c1, .u .u64 c2, .u .u64 c3, .u .u64 c4, .u .u64 c5, .u .u64 c6, .u .u64 c7, .u .u64 c8], true⟩] =>
      some ⟨n, p, b, [a1, a2, a3, a4, a5, a6, a7, a8], [c1, c2, c3, c4, c5, c6, c7, c8]⟩
    | _, _ => none
  ok := fun vs mem s h => by
    split at h
    · cases h; exact ⟨rfl, gc_ok rfl rfl _ _ rfl rfl⟩
    · cases h
def foI (s : S_fo) : S_fi := ⟨s.n, s.p, 0, s.b, ⟨.cells (arrS .u64 8 s.w), true⟩, ⟨.cells (arrS .u64 8 s.z), true⟩, List.replicate 128 0⟩
def foG (s : S_fo) : Bool := decide (s.p = 0 ∧ s.n = s.b.length ∧ s.n < 4611686018427387904)
def foF (f : List Nat → List Nat → List Nat) (s : S_fo) : S_fo := { s with p := ((128 * (s.b.length / 128) : Nat) : Int), w := foldAll f s.w s.b }
def foAt (f : List Nat → List Nat → List Nat) (s : S_fo) (i : Nat) : S_fo := { s with p := ((128 * i : Nat) : Int), w := foldB f s.w s.b i }
theorem foAt_zero {f : List Nat → List Nat → List Nat} {s : S_fo} (h : foG s = true) : foAt f s 0 = s := by
  obtain ⟨h1, -⟩ := of_decide_eq_true h
  unfold foAt
  rw [foldB_zero, show ((128 * 0 : Nat) : Int) = s.p by rw [h1]; rfl]
theorem foAt_fin {f : List Nat → List Nat → List Nat} {s : S_fo} (_ : foG s = true) : foAt f s (s.b.length / 128) = foF f s := rfl
theorem foAt_end {f : List Nat → List Nat → List Nat} {s : S_fo} (h : foG s = true) : decide (w64 ((foAt f s (s.b.length / 128)).p + 128) ≤ ((foAt f s (s.b.length / 128)).n : Int)) = false := by
  obtain ⟨h1, h2, h3⟩ := of_decide_eq_true h
  refine decide_eq_false ?_
  show ¬ w64 (((128 * (s.b.length / 128) : Nat) : Int) + 128) ≤ (s.n : Int)
  rw [w64_id (by omega) (by omega)]; omega
theorem foAt_step {f : List Nat → List Nat → List Nat} {s : S_fo} (h : foG s = true) {i : Nat} (hi : i < s.b.length / 128) : decide (w64 ((foAt f s i).p + 128) ≤ ((foAt f s i).n : Int)) = true ∧
    (∀ c ∈ [fiG (foI (foAt f s i)), decide (0 + 128 ≤ (fiF (foI (foAt f s i))).x.length)], c = true) ∧
    ({ foAt f s i with p := w64 ((foAt f s i).p + 128), w := f (resp 8 (foAt f s i).w) (resp 128 (fiF (foI (foAt f s i))).x) } : S_fo) = foAt f s (i + 1) := by
  obtain ⟨h1, h2, h3⟩ := of_decide_eq_true h
  have hx : (fiF (foI (foAt f s i))).x = (s.b.drop (128 * i)).take 128 := by
    show (s.b.drop ((128 * i : Nat) : Int).toNat).take 128 = _
    rw [Int.toNat_natCast]
  have hw : w64 (((128 * i : Nat) : Int) + 128) = ((128 * (i + 1) : Nat) : Int) := by rw [w64_id (by omega) (by omega)]; omega
  refine ⟨decide_eq_true ?_, fun c hc => ?_, ?_⟩
  · show w64 (((128 * i : Nat) : Int) + 128) ≤ (s.n : Int)
    rw [hw]; omega
  · simp only [List.mem_cons, List.not_mem_nil, or_false] at hc
    rcases hc with rfl | rfl
    · refine decide_eq_true ⟨rfl, ?_, h2, ?_, by simp [foI], h3⟩
      · show (0 : Int) ≤ ((128 * i : Nat) : Int); omega
      · show ((128 * i : Nat) : Int).toNat + 128 ≤ s.n; omega
    · rw [hx, List.length_take, List.length_drop]; exact decide_eq_true (by omega)
  · rw [hx]
    show S_fo.mk s.n (w64 (((128 * i : Nat) : Int) + 128)) s.b (f (resp 8 (foldB f s.w s.b i)) (resp 128 ((s.b.drop (128 * i)).take 128))) s.z = _
    rw [hw, ← foldB_succ f s.w s.b i]
    rfl
def foS (h b : List Nat) : S_fo := ⟨b.length, 0, b, resp 8 h, List.replicate 8 0⟩
def foT (f : List Nat → List Nat → List Nat) (h b : List Nat) : Option (AV × Option Blk) := gds [foG (foS h b)] (some (w8V (foF f (foS h b)).w, none))
theorem foT_eq (f : List Nat → List Nat → List Nat) {h b : List Nat} (hl : b.length < 4611686018427387904) : foT f h b = some (w8V (foldAll f (resp 8 h) b), none) := by
  unfold foT
  rw [gds_true]
  · rfl
  · intro c hc
    simp only [List.mem_cons, List.not_mem_nil, or_false] at hc
    subst hc
    exact decide_eq_true ⟨rfl, rfl, hl⟩
/-! ### pawl/pawlref18.Fold -/
noncomputable abbrev frL : Func := Try.f31
theorem fri_step (o : SOps) (s : S_fi) : codeK (X_hashP o) [] frL.ntmps [0,1,2,4,5,6,7,12,16] 60 (loopB (bodyOf frL) 6) (d_fi.E s) (d_fi.M s) (outK d_fi.ts) =
    bif decide (s.i < 128) then gds [decide (0 ≤ w64 (s.p + s.i) ∧ w64 (s.p + s.i) < (s.n : Int)), decide (0 + (w64 (s.p + s.i)).toNat * 1 < s.b.length), decide (0 ≤ s.i ∧ s.i < 128), decide (0 + s.i.toNat * 1 < s.x.length)] (some (.normal, d_fi.E (fiN s), d_fi.M (fiN s)))
    else some (.exit 2, d_fi.E s, d_fi.M s) := by kernel_rfl
theorem fri_at : LoopAt Try.prog frL.ntmps (loopB (bodyOf frL) 6) gFi := by
  refine d_fi.loop (keep := [0,1,2,4,5,6,7,12,16]) X_hashP_ok LoopsOK.nil (by simp) fun s hg => ⟨128, fiAt s, ?_, .refl _, fun i hi => ⟨60, ?_⟩, 60, ?_⟩
  · exact fiAt_zero hg
  · refine (fri_step concS _).trans ?_
    obtain ⟨h1, h2, h3⟩ := fiAt_step hg hi
    rw [h1, cond_true, gds_true h2, h3]
  · refine (fri_step concS _).trans ?_
    rw [decide_eq_false (show ¬ (fiAt s 128).i < 128 by show ¬ ((128 : Nat) : Int) < 128; omega), cond_false, fiAt_fin hg]
def frN (o : SOps) (s : S_fo) : S_fo := { s with p := w64 (s.p + 128), w := o.bR (resp 8 s.w) (resp 128 (fiF (foI s)).x) }
theorem fro_step (o : SOps) (s : S_fo) : codeK (X_hashP o) [(6, gFi)] frL.ntmps [0,1,2,4,5,6,7,12,16] 60 (loopB (bodyOf frL) 2) (d_fo.E s) (d_fo.M s) (outG d_fo.ts d_fo.n d_fo.srcN d_fo.srcX) =
    bif decide (w64 (s.p + 128) ≤ (s.n : Int)) then gds [fiG (foI s), decide (0 + 128 ≤ (fiF (foI s)).x.length)] (some (.normal, d_fo.E (frN o s), d_fo.M (frN o s)))
    else some (.exit 0, d_fo.E s, d_fo.M s) := by kernel_rfl
theorem fri_loops : LoopsOK Try.prog frL.ntmps [(6, gFi)] (loopB (bodyOf frL) 2) := loopsOK_cons LoopsOK.nil (by kernel_rfl) fri_at
def gfr (o : SOps) : LoopFn := d_fo.fn foG (.exit 0) (foF o.bR)
theorem fro_at : LoopAt Try.prog frL.ntmps (loopB (bodyOf frL) 2) (gfr concS) := by
  refine d_fo.loop (keep := [0,1,2,4,5,6,7,12,16]) X_hashP_ok fri_loops (by simp) fun s hg => ⟨s.b.length / 128, foAt concS.bR s, foAt_zero hg, .refl _, fun i hi => ⟨60, ?_⟩, 60, ?_⟩
  · refine (fro_step concS _).trans ?_
    obtain ⟨h1, h2, h3⟩ := foAt_step (f := concS.bR) hg hi
    rw [h1, cond_true, gds_true h2, show frN concS (foAt concS.bR s i) = foAt concS.bR s (i + 1) from h3]
  · refine (fro_step concS _).trans ?_
    rw [foAt_end hg, cond_false, foAt_fin hg]
theorem fr_loops : LoopsOK Try.prog frL.ntmps [(2, gfr concS), (6, gFi)] (bodyOf frL) := loopsOK_cons (loopsOK_cons LoopsOK.nil (by kernel_rfl) fri_at) (by kernel_rfl) fro_at
theorem fr_run (o : SOps) (w : List Nat) (b : List Nat) : runNL (X_hashP o) [(2, gfr o), (6, gFi)] [0,1,2,4,5,6,7,12,16] 200 Try.f31 (bodyOf Try.f31) (laArgs [.v (w8V w), .l b] 0) (laLists [.v (w8V w), .l b]) = foT o.bR w b := by
  kernel_rfl
def u_fr (o : SOps) (args : List LA) : Option (AV × Option Blk) := match args with
  | [.v x0, .l b] => (match w8? x0 with
    | some w => some (w8V (foldAll o.bR (resp 8 w) b), none)
    | _ => none)
  | _ => none
def c_fr (args : List LA) : Bool := match args with
  | [.v x0, .l b] => (match w8? x0 with
    | some _ => decide (b.length < 4611686018427387904)
    | _ => false)
  | _ => false
def g_fr (o : SOps) (args : List LA) : Option (AV × Option Blk) := bif c_fr args then u_fr o args else none
theorem fr_at : QuietAt Try.prog 31 (lav (g_fr concS)) := by
  refine quietAt_of_runA X_hashP_ok (L := [(2, gfr concS), (6, gFi)]) (keep := [0,1,2,4,5,6,7,12,16]) Try.func31 (c := bodyOf Try.f31) (by kernel_rfl) (by kernel_rfl) (fr_loops) fun args v h hw => ⟨200, ?_⟩
  unfold g_fr at h
  have hg := (bif_some h).1
  replace h := (bif_some h).2
  unfold u_fr at h
  split at h
  · rename_i x0 b
    split at h
    · rename_i w hh0
      have ehh0 := w8?_some hh0
      subst ehh0
      replace hg : (decide (b.length < 4611686018427387904)) = true := hg
      rw [← h]
      refine (fr_run concS w b).trans ?_
      exact foT_eq _ (of_decide_eq_true hg)
    · cases h
  · cases h
noncomputable def X_fr (o : SOps) : Cx := { X_hashP o with O := addQ (X_hashP o).O 31 (lavG c_fr (u_fr o)) }
theorem X_fr_ok : CxOK Try.prog (X_fr concS) := { X_hashP_ok with quiet := addQ_ok X_hashP_ok.quiet (lavG_at fr_at) }
/-! ### pawl/pawllaw18.words -/
noncomputable abbrev fpL : Func := Try.f28
theorem fpi_step (o : SOps) (s : S_fi) : codeK (X_fr o) [] fpL.ntmps [0,1,2,4,5,6,7,12,16] 60 (loopB (bodyOf fpL) 6) (d_fi.E s) (d_fi.M s) (outK d_fi.ts) =
    bif decide (s.i < 128) then gds [decide (0 ≤ w64 (s.p + s.i) ∧ w64 (s.p + s.i) < (s.n : Int)), decide (0 + (w64 (s.p + s.i)).toNat * 1 < s.b.length), decide (0 ≤ s.i ∧ s.i < 128), decide (0 + s.i.toNat * 1 < s.x.length)] (some (.normal, d_fi.E (fiN s), d_fi.M (fiN s)))
    else some (.exit 2, d_fi.E s, d_fi.M s) := by kernel_rfl
theorem fpi_at : LoopAt Try.prog fpL.ntmps (loopB (bodyOf fpL) 6) gFi := by
  refine d_fi.loop (keep := [0,1,2,4,5,6,7,12,16]) X_fr_ok LoopsOK.nil (by simp) fun s hg => ⟨128, fiAt s, ?_, .refl _, fun i hi => ⟨60, ?_⟩, 60, ?_⟩
  · exact fiAt_zero hg
  · refine (fpi_step concS _).trans ?_
    obtain ⟨h1, h2, h3⟩ := fiAt_step hg hi
    rw [h1, cond_true, gds_true h2, h3]
  · refine (fpi_step concS _).trans ?_
    rw [decide_eq_false (show ¬ (fiAt s 128).i < 128 by show ¬ ((128 : Nat) : Int) < 128; omega), cond_false, fiAt_fin hg]
def fpN (o : SOps) (s : S_fo) : S_fo := { s with p := w64 (s.p + 128), w := o.bP (resp 8 s.w) (resp 128 (fiF (foI s)).x) }
theorem fpo_step (o : SOps) (s : S_fo) : codeK (X_fr o) [(6, gFi)] fpL.ntmps [0,1,2,4,5,6,7,12,16] 60 (loopB (bodyOf fpL) 2) (d_fo.E s) (d_fo.M s) (outG d_fo.ts d_fo.n d_fo.srcN d_fo.srcX) =
    bif decide (w64 (s.p + 128) ≤ (s.n : Int)) then gds [fiG (foI s), decide (0 + 128 ≤ (fiF (foI s)).x.length)] (some (.normal, d_fo.E (fpN o s), d_fo.M (fpN o s)))
    else some (.exit 0, d_fo.E s, d_fo.M s) := by kernel_rfl
theorem fpi_loops : LoopsOK Try.prog fpL.ntmps [(6, gFi)] (loopB (bodyOf fpL) 2) := loopsOK_cons LoopsOK.nil (by kernel_rfl) fpi_at
def gfp (o : SOps) : LoopFn := d_fo.fn foG (.exit 0) (foF o.bP)
theorem fpo_at : LoopAt Try.prog fpL.ntmps (loopB (bodyOf fpL) 2) (gfp concS) := by
  refine d_fo.loop (keep := [0,1,2,4,5,6,7,12,16]) X_fr_ok fpi_loops (by simp) fun s hg => ⟨s.b.length / 128, foAt concS.bP s, foAt_zero hg, .refl _, fun i hi => ⟨60, ?_⟩, 60, ?_⟩
  · refine (fpo_step concS _).trans ?_
    obtain ⟨h1, h2, h3⟩ := foAt_step (f := concS.bP) hg hi
    rw [h1, cond_true, gds_true h2, show fpN concS (foAt concS.bP s i) = foAt concS.bP s (i + 1) from h3]
  · refine (fpo_step concS _).trans ?_
    rw [foAt_end hg, cond_false, foAt_fin hg]
theorem fp_loops : LoopsOK Try.prog fpL.ntmps [(2, gfp concS), (6, gFi)] (bodyOf fpL) := loopsOK_cons (loopsOK_cons LoopsOK.nil (by kernel_rfl) fpi_at) (by kernel_rfl) fpo_at
theorem fp_run (o : SOps) (w : List Nat) (b : List Nat) : runNL (X_fr o) [(2, gfp o), (6, gFi)] [0,1,2,4,5,6,7,12,16] 200 Try.f28 (bodyOf Try.f28) (laArgs [.v (w8V w), .l b] 0) (laLists [.v (w8V w), .l b]) = foT o.bP w b := by
  kernel_rfl
def u_fp (o : SOps) (args : List LA) : Option (AV × Option Blk) := match args with
  | [.v x0, .l b] => (match w8? x0 with
    | some w => some (w8V (foldAll o.bP (resp 8 w) b), none)
    | _ => none)
  | _ => none
def c_fp (args : List LA) : Bool := match args with
  | [.v x0, .l b] => (match w8? x0 with
    | some _ => decide (b.length < 4611686018427387904)
    | _ => false)
  | _ => false
def g_fp (o : SOps) (args : List LA) : Option (AV × Option Blk) := bif c_fp args then u_fp o args else none
theorem fp_at : QuietAt Try.prog 28 (lav (g_fp concS)) := by
  refine quietAt_of_runA X_fr_ok (L := [(2, gfp concS), (6, gFi)]) (keep := [0,1,2,4,5,6,7,12,16]) Try.func28 (c := bodyOf Try.f28) (by kernel_rfl) (by kernel_rfl) (fp_loops) fun args v h hw => ⟨200, ?_⟩
  unfold g_fp at h
  have hg := (bif_some h).1
  replace h := (bif_some h).2
  unfold u_fp at h
  split at h
  · rename_i x0 b
    split at h
    · rename_i w hh0
      have ehh0 := w8?_some hh0
      subst ehh0
      replace hg : (decide (b.length < 4611686018427387904)) = true := hg
      rw [← h]
      refine (fp_run concS w b).trans ?_
      exact foT_eq _ (of_decide_eq_true hg)
    · cases h
  · cases h
noncomputable def X_fp (o : SOps) : Cx := { X_fr o with O := addQ (X_fr o).O 28 (lavG c_fp (u_fp o)) }
theorem X_fp_ok : CxOK Try.prog (X_fp concS) := { X_fr_ok with quiet := addQ_ok X_fr_ok.quiet (lavG_at fp_at) }
theorem bytesWR_run (o : SOps) (w : List Nat) : runNL (X_fp o) [] [0,1,2,3,4,6] 600 Try.f30 (bodyOf Try.f30) (laArgs [.v (w8V w)] 0) (laLists [.v (w8V w)]) = some (b64V (bytesW w), none) := by
  kernel_rfl
def g_bytesWR (_ : SOps) (args : List LA) : Option (AV × Option Blk) := match args with
  | [.v x0] => (match w8? x0 with
    | some w => some (b64V (bytesW w), none)
    | _ => none)
  | _ => none
theorem bytesWR_at : QuietAt Try.prog 30 (lav (g_bytesWR concS)) := by
  refine quietAt_of_runA X_fp_ok (L := []) (keep := [0,1,2,3,4,6]) Try.func30 (c := bodyOf Try.f30) (by kernel_rfl) (by kernel_rfl) (LoopsOK.nil) fun args v h hw => ⟨600, ?_⟩
  unfold g_bytesWR at h
  split at h
  · rename_i x0
    split at h
    · rename_i w hh0
      have ehh0 := w8?_some hh0
      subst ehh0
      rw [← h]
      refine (bytesWR_run concS w).trans ?_
      rfl
    · cases h
  · cases h
noncomputable def X_bytesWR (o : SOps) : Cx := { X_fp o with O := addQ (X_fp o).O 30 (lav (g_bytesWR o)) }
theorem X_bytesWR_ok : CxOK Try.prog (X_bytesWR concS) := { X_fp_ok with quiet := addQ_ok X_fp_ok.quiet bytesWR_at }
end Go.Proofs.Ytmhbhpmfbalbeaa

