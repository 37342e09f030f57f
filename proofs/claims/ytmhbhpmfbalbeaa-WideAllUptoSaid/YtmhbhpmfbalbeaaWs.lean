/- Contract of Write: bytes put behind those that came. -/
import Derived.Test.YtmhbhpmfbalbeaaWq
import Derived.Test.YtmhbhpmfbalbeaaPwWr
import Derived.Test.YtmhbhpmfbalbeaaPwMg
namespace Go.Proofs.Ytmhbhpmfbalbeaa
open Go Pw Go.RowKit
noncomputable abbrev wrL : Func := Try.f22
def rAV : Bool → Nat → AV
  | true, n => .slice 2 0 n true
  | false, _ => .nils
def hshC (w : List Nat) (r : AV) (size : Nat) : List AV := arrS .u64 8 w ++ [r, .u .u64 size]
structure S_w where
  k : Bool
  rl : Nat
  w : List Nat
  size : Nat
  off : Nat
  len : Nat
  bl : List Nat
  wr : Bool
  rest : List Nat
  one : List Nat
def d_w : LoopDef2 S_w where
  ts := [0, 1, 4]
  E := fun s => [(0, .ptr 0 0), (1, .slice 1 s.off s.len false), (4, .ptr 3 0)]
  M := fun s => [⟨.cells (hshC s.w (rAV s.k s.rl) s.size), true⟩, ⟨.bytes s.bl, s.wr⟩, ⟨.bytes s.rest, true⟩, ⟨.bytes s.one, true⟩]
  Mo := fun s => [⟨.cells (hshC s.w (rAV s.k s.rl) s.size), true⟩, ⟨.bytes s.bl, s.wr⟩, ⟨.bytes s.rest, true⟩, ⟨.bytes s.one, true⟩]
  dec := fun vs mem => match vs, mem with
    | [.ptr 0 0, .slice 1 off len false, .ptr 3 0], [⟨.cells [.u .u64 a, .u .u64 b, .u .u64 c, .u .u64 d, .u .u64 e, .u .u64 f, .u .u64 g, .u .u64 h, .slice 2 0 rl true, .u .u64 size], true⟩, ⟨.bytes bl, wr⟩, ⟨.bytes rest, true⟩, ⟨one, true⟩] => (match blkBytes ⟨one, true⟩ with
      | some o => some ⟨true, rl, [a, b, c, d, e, f, g, h], size, off, len, bl, wr, rest, o⟩
      | none => none)
    | _, _ => none
  ok := fun vs mem s h => by
    split at h
    · split at h
      · rename_i o ho
        cases h
        exact ⟨rfl, .cons (.refl _) (.cons (.refl _) (.cons (.refl _) (.cons (blkBytes_some ho) .nil)))⟩
      · cases h
    · cases h
def wrB (s : S_w) : List Nat := List.take s.len (List.drop s.off s.bl)
def wrR (s : S_w) : List Nat := List.take s.rl (List.drop 0 s.rest)
def wrN (o : SOps) (r : List Nat) (s : S_w) : S_w := { s with k := false, w := o.bP (resp 8 s.w) (resp 128 (wP2 s.one r (wrB s))), off := s.off + wM r (wrB s) * 1, len := s.len - wM r (wrB s), one := wP2 s.one r (wrB s) }
def wrG (r : List Nat) (s : S_w) : List Bool := [decide (s.off + s.len ≤ s.bl.length), decide (0 + wN r * 1 + (wL2 r (wrB s)).length ≤ (wP1 s.one r).length), decide (0 + 128 ≤ (wP2 s.one r (wrB s)).length), decide (0 ≤ ((wL2 r (wrB s)).length : Int) ∧ ((wL2 r (wrB s)).length : Int) ≤ (s.len : Int))]
theorem w_stepT (o : SOps) (s : S_w) : codeK (X_padR o) [] wrL.ntmps [0,1,4,5,6,25] 60 (loopB (bodyOf wrL) 2) (d_w.E { s with k := true }) (d_w.M { s with k := true }) (outK d_w.ts) =
    bif decide (128 ≤ w64 ((s.rl : Int) + (s.len : Int))) then
      gds (decide (0 + s.rl ≤ s.rest.length) :: decide (0 + 0 * 1 + (wL1 (wrR s)).length ≤ s.one.length) :: decide (0 ≤ ((wL1 (wrR s)).length : Int) ∧ ((wL1 (wrR s)).length : Int) ≤ 128) :: wrG (wrR s) s) (some (.normal, d_w.E (wrN o (wrR s) s), d_w.M (wrN o (wrR s) s)))
    else some (.exit 0, d_w.E { s with k := true }, d_w.M { s with k := true }) := by kernel_rfl
theorem w_stepF (o : SOps) (s : S_w) : codeK (X_padR o) [] wrL.ntmps [0,1,4,5,6,25] 60 (loopB (bodyOf wrL) 2) (d_w.E { s with k := false }) (d_w.M { s with k := false }) (outK d_w.ts) =
    bif decide (128 ≤ w64 (0 + (s.len : Int))) then gds (wrG [] s) (some (.normal, d_w.E (wrN o [] s), d_w.M (wrN o [] s)))
    else some (.exit 0, d_w.E { s with k := false }, d_w.M { s with k := false }) := by kernel_rfl
def wS (s : S_w) : List Nat := s.rest ++ wrB s
def wAt (o : SOps) (s : S_w) : Nat → S_w
  | 0 => s
  | i + 1 => { s with k := false, w := foldB o.bP s.w (wS s) (i + 1), off := s.off + (128 * (i + 1) - s.rl), len := s.len - (128 * (i + 1) - s.rl), one := ((wS s).drop (128 * i)).take 128 }
theorem wAt_succ (o : SOps) (s : S_w) (i : Nat) : wAt o s (i + 1) = { s with k := false, w := foldB o.bP s.w (wS s) (i + 1), off := s.off + (128 * (i + 1) - s.rl), len := s.len - (128 * (i + 1) - s.rl), one := ((wS s).drop (128 * i)).take 128 } := rfl
theorem foldB_one (f : List Nat → List Nat → List Nat) (w s : List Nat) : foldB f w s (0 + 1) = f (resp 8 w) (resp 128 (s.take 128)) := rfl
def wEnd (o : SOps) (s : S_w) : S_w := { s with k := false, w := foldB o.bP s.w (wS s) ((wS s).length / 128), off := s.off + (128 * ((wS s).length / 128) - s.rl), len := s.len - (128 * ((wS s).length / 128) - s.rl), one := ((wS s).drop (128 * ((wS s).length / 128 - 1))).take 128 }
def wg (s : S_w) : Bool := decide (s.k = true ∧ s.rl = s.rest.length ∧ s.rl < 128 ∧ s.off + s.len ≤ s.bl.length ∧ s.one.length = 128 ∧ s.bl.length < 4611686018427387904)
theorem wg_of {s : S_w} (h : wg s = true) : s.k = true ∧ s.rl = s.rest.length ∧ s.rl < 128 ∧ s.off + s.len ≤ s.bl.length ∧ s.one.length = 128 ∧ s.bl.length < 4611686018427387904 := of_decide_eq_true h
theorem wrB_len {s : S_w} (h : s.off + s.len ≤ s.bl.length) : (wrB s).length = s.len := by unfold wrB; rw [List.length_take, List.length_drop]; omega
theorem wS_len {s : S_w} (h : wg s = true) : (wS s).length = s.rl + s.len := by
  obtain ⟨_, h1, _, h3, _⟩ := wg_of h
  unfold wS; rw [List.length_append, wrB_len h3]; omega
theorem wr_guard {r : List Nat} {s : S_w} (h1 : s.off + s.len ≤ s.bl.length) (h2 : r.length < 128) (h3 : 128 ≤ r.length + s.len) (h4 : s.one.length = 128) : ∀ c ∈ wrG r s, c = true := by
  have hb : (wrB s).length = s.len := wrB_len h1
  have hl := wL2_len (bb := wrB s) h2 (by omega)
  have h5 : (wP1 s.one r).length = 128 := by rw [wP1_eq h2, List.length_append, List.length_drop]; omega
  have h6 : (wP2 s.one r (wrB s)).length = 128 := by rw [wP2_eq h4 h2 (by omega), List.length_take, List.length_append]; omega
  intro c hc
  unfold wrG at hc
  simp only [List.mem_cons, List.not_mem_nil, or_false] at hc
  rw [hl, h5, h6, wN_eq h2] at hc
  rcases hc with rfl | rfl | rfl | rfl <;> exact decide_eq_true (by omega)
theorem wAt_B {o : SOps} {s : S_w} (h : wg s = true) (i : Nat) (hi : s.rl ≤ 128 * (i + 1)) : wrB (wAt o s (i + 1)) = (wS s).drop (128 * (i + 1)) := by
  obtain ⟨_, h1, _, h3, _⟩ := wg_of h
  unfold wS
  rw [List.drop_append, List.drop_eq_nil_of_le (by omega), List.nil_append, ← h1]
  show List.take (s.len - (128 * (i + 1) - s.rl)) (List.drop (s.off + (128 * (i + 1) - s.rl)) s.bl) = List.drop (128 * (i + 1) - s.rl) (List.take s.len (List.drop s.off s.bl))
  rw [List.drop_take, List.drop_drop]
theorem w_step0 {s : S_w} (h : wg s = true) (hN : 128 ≤ s.rl + s.len) : codeK (X_padR concS) [] wrL.ntmps [0,1,4,5,6,25] 60 (loopB (bodyOf wrL) 2) (d_w.E s) (d_w.M s) (outK d_w.ts) = some (.normal, d_w.E (wAt concS s 1), d_w.M (wAt concS s 1)) := by
  obtain ⟨h0, h1, h2, h3, h4, h5⟩ := wg_of h
  have hr : wrR s = s.rest := by unfold wrR; rw [List.drop_zero, List.take_of_length_le (by omega)]
  have hs : s = { s with k := true } := by cases s; simp at h0; subst h0; rfl
  have hb : (wrB s).length = s.len := wrB_len h3
  have e := w_stepT concS s
  rw [← hs, hr] at e
  rw [e, w64_id (by omega) (by omega), decide_eq_true (by omega), cond_true, gds_true]
  · have hN' : wrN concS s.rest s = wAt concS s 1 := by
      have e1 : s.off + wM s.rest (wrB s) * 1 = s.off + (128 * (0 + 1) - s.rl) := by rw [wM_eq (by omega) (by omega)]; omega
      have e2 : s.len - wM s.rest (wrB s) = s.len - (128 * (0 + 1) - s.rl) := by rw [wM_eq (by omega) (by omega)]; omega
      have e3 : wP2 s.one s.rest (wrB s) = ((wS s).drop (128 * 0)).take 128 := by rw [wP2_eq h4 (by omega) (by omega)]; rfl
      have e4 : concS.bP (resp 8 s.w) (resp 128 (wP2 s.one s.rest (wrB s))) = foldB concS.bP s.w (wS s) (0 + 1) := by rw [foldB_one, e3]; rfl
      unfold wrN
      rw [e4, e1, e2, e3]
      exact (wAt_succ concS s 0).symm
    rw [hN']
  · intro c hc
    rcases List.mem_cons.1 hc with rfl | hc
    · exact decide_eq_true (by omega)
    · rcases List.mem_cons.1 hc with rfl | hc
      · rw [wL1_eq (by omega)]; exact decide_eq_true (by omega)
      · rcases List.mem_cons.1 hc with rfl | hc
        · rw [wL1_eq (by omega)]; exact decide_eq_true (by omega)
        · exact wr_guard h3 (by omega) (by omega) h4 c hc
theorem w_stepS {s : S_w} (h : wg s = true) (i : Nat) (hN : i + 1 < (wS s).length / 128) : codeK (X_padR concS) [] wrL.ntmps [0,1,4,5,6,25] 60 (loopB (bodyOf wrL) 2) (d_w.E (wAt concS s (i + 1))) (d_w.M (wAt concS s (i + 1))) (outK d_w.ts) = some (.normal, d_w.E (wAt concS s (i + 2)), d_w.M (wAt concS s (i + 2))) := by
  obtain ⟨h0, h1, h2, h3, h4, h5⟩ := wg_of h
  have hl := wS_len h
  have hlen : (wAt concS s (i + 1)).len = s.len - (128 * (i + 1) - s.rl) := rfl
  have hB := wAt_B (o := concS) h i (by omega)
  have hBl : ((wS s).drop (128 * (i + 1))).length = s.rl + s.len - 128 * (i + 1) := by rw [List.length_drop, hl]
  have hone : (wAt concS s (i + 1)).one.length = 128 := by
    show (((wS s).drop (128 * i)).take 128).length = 128
    rw [List.length_take, List.length_drop, hl]; omega
  have e : codeK (X_padR concS) [] wrL.ntmps [0,1,4,5,6,25] 60 (loopB (bodyOf wrL) 2) (d_w.E (wAt concS s (i + 1))) (d_w.M (wAt concS s (i + 1))) (outK d_w.ts) = _ := w_stepF concS (wAt concS s (i + 1))
  rw [e, hlen, w64_id (by omega) (by omega), decide_eq_true (by omega), cond_true, gds_true]
  · have hN' : wrN concS [] (wAt concS s (i + 1)) = wAt concS s (i + 2) := by
      have q1 : 128 ≤ ([] : List Nat).length + ((wS s).drop (128 * (i + 1))).length := by rw [hBl]; simp; omega
      have e1 : (wAt concS s (i + 1)).off + wM [] ((wS s).drop (128 * (i + 1))) * 1 = s.off + (128 * (i + 1 + 1) - s.rl) := by
        rw [wM_eq (by decide) q1, show (wAt concS s (i + 1)).off = s.off + (128 * (i + 1) - s.rl) from rfl]; simp; omega
      have e2 : (wAt concS s (i + 1)).len - wM [] ((wS s).drop (128 * (i + 1))) = s.len - (128 * (i + 1 + 1) - s.rl) := by
        rw [wM_eq (by decide) q1, hlen]; simp; omega
      have e3 : wP2 (wAt concS s (i + 1)).one [] ((wS s).drop (128 * (i + 1))) = ((wS s).drop (128 * (i + 1))).take 128 := by rw [wP2_eq hone (by decide) q1, List.nil_append]
      have e4 : concS.bP (resp 8 (wAt concS s (i + 1)).w) (resp 128 (((wS s).drop (128 * (i + 1))).take 128)) = foldB concS.bP s.w (wS s) (i + 1 + 1) := rfl
      unfold wrN
      rw [hB, e1, e2, e3, e4]
      exact (wAt_succ concS s (i + 1)).symm
    rw [hN']
  · refine wr_guard ?_ (by decide) ?_ hone
    · show s.off + (128 * (i + 1) - s.rl) + (s.len - (128 * (i + 1) - s.rl)) ≤ s.bl.length; omega
    · show 128 ≤ 0 + (s.len - (128 * (i + 1) - s.rl)); omega
theorem wEnd_at {o : SOps} {s : S_w} (h : 128 ≤ (wS s).length) : wAt o s ((wS s).length / 128) = wEnd o s := by
  obtain ⟨n, hn⟩ : ∃ n, (wS s).length / 128 = n + 1 := ⟨(wS s).length / 128 - 1, by omega⟩
  unfold wEnd
  rw [hn]; rfl
theorem w_fin {s : S_w} (h : wg s = true) (hN : 128 ≤ s.rl + s.len) : codeK (X_padR concS) [] wrL.ntmps [0,1,4,5,6,25] 60 (loopB (bodyOf wrL) 2) (d_w.E (wEnd concS s)) (d_w.M (wEnd concS s)) (outK d_w.ts) = some (.exit 0, d_w.E (wEnd concS s), d_w.M (wEnd concS s)) := by
  obtain ⟨h0, h1, h2, h3, h4, h5⟩ := wg_of h
  have hl := wS_len h
  have hlen : (wEnd concS s).len = s.len - (128 * ((wS s).length / 128) - s.rl) := rfl
  have e : codeK (X_padR concS) [] wrL.ntmps [0,1,4,5,6,25] 60 (loopB (bodyOf wrL) 2) (d_w.E (wEnd concS s)) (d_w.M (wEnd concS s)) (outK d_w.ts) = _ := w_stepF concS (wEnd concS s)
  rw [e, hlen, w64_id (by omega) (by omega), decide_eq_false (by omega), cond_false]
  rfl
theorem w_fin0 {s : S_w} (h : wg s = true) (hN : ¬ 128 ≤ s.rl + s.len) : codeK (X_padR concS) [] wrL.ntmps [0,1,4,5,6,25] 60 (loopB (bodyOf wrL) 2) (d_w.E s) (d_w.M s) (outK d_w.ts) = some (.exit 0, d_w.E { s with k := true }, d_w.M { s with k := true }) := by
  obtain ⟨h0, h1, h2, h3, h4, h5⟩ := wg_of h
  have hs : s = { s with k := true } := by cases s; simp at h0; subst h0; rfl
  have e := w_stepT concS s
  rw [← hs] at e
  rw [e, w64_id (by omega) (by omega), decide_eq_false (by omega), cond_false, ← hs]
def gWr (o : SOps) : LoopFn := fun env mem _ K => match d_w.dec (live d_w.ts env) mem with
  | some s => bif wg s then (bif decide (128 ≤ s.rl + s.len) then K (.exit 0) (d_w.E (wEnd o s)) (d_w.Mo (wEnd o s)) else K (.exit 0) (d_w.E { s with k := true }) (d_w.Mo { s with k := true })) else none
  | none => none
theorem wr_at : LoopAt Try.prog wrL.ntmps (loopB (bodyOf wrL) 2) (gWr concS) := by
  refine loopAt_of_steps2 (keep := [0,1,4,5,6,25]) X_padR_ok LoopsOK.nil fun env mem ρ K r hg => ?_
  unfold gWr at hg
  split at hg
  · rename_i s hs
    obtain ⟨hw, hg⟩ := bif_some hg
    obtain ⟨h1, h2⟩ := d_w.ok _ _ _ hs
    rcases bif_both hg with ⟨hc, hk⟩ | ⟨hc, hk⟩
    · have hc := of_decide_eq_true hc
      have hl := wS_len hw
      refine ⟨d_w.ts, (wS s).length / 128, fun i => d_w.E (wAt concS s i), fun i => d_w.M (wAt concS s i), .exit 0, _, d_w.M (wEnd concS s), _, ?_, h2, by simp, .refl _, hk, fun i hi => ⟨60, d_w.ts, ?_⟩, 60, d_w.ts, ?_⟩
      · show _ = d_w.E s
        rw [prune_live, h1]
      · cases i with
        | zero => exact w_step0 hw hc
        | succ i => exact w_stepS hw i hi
      · show codeK _ _ _ _ _ _ (d_w.E (wAt concS s ((wS s).length / 128))) (d_w.M (wAt concS s ((wS s).length / 128))) _ = _
        rw [wEnd_at (by omega)]
        exact w_fin hw hc
    · have hc := of_decide_eq_false hc
      refine ⟨d_w.ts, 0, fun _ => d_w.E s, fun _ => d_w.M s, .exit 0, _, d_w.M { s with k := true }, _, ?_, h2, by simp, .refl _, hk, fun i hi => by omega, 60, d_w.ts, w_fin0 hw hc⟩
      show _ = d_w.E s
      rw [prune_live, h1]
  · cases hg
theorem wh_loops : LoopsOK Try.prog wrL.ntmps [(2, gWr concS)] (bodyOf wrL) := loopsOK_cons LoopsOK.nil (by kernel_rfl) wr_at
/-! ### the whole call -/
def wS0 (w : List Nat) (rl size off len : Nat) (bl rest : List Nat) (wr : Bool) : S_w := ⟨true, rl, resp 8 w, (size + len % 18446744073709551616) % 2 ^ 64, off, len, bl, wr, rest, List.replicate 128 0⟩
def memA (e : S_w) : Mem := [⟨.cells (hshC e.w (.slice 4 0 (wrB e).length true) e.size), true⟩, ⟨.bytes e.bl, e.wr⟩, ⟨.bytes e.rest, true⟩, ⟨.bytes e.one, true⟩, ⟨.bytes (wrB e), true⟩]
def memB (s : S_w) : Mem := [⟨.cells (hshC s.w (.slice 4 0 (s.rl + (wrB s).length) true) s.size), true⟩, ⟨.bytes s.bl, s.wr⟩, dead, ⟨.bytes s.one, true⟩, ⟨.bytes (wrR s ++ wrB s), true⟩]
def wrT (o : SOps) (s : S_w) : Option (AV × Mem) :=
  gds [wg s] (bif decide (128 ≤ s.rl + s.len) then gds [decide ((wEnd o s).off + (wEnd o s).len ≤ (wEnd o s).bl.length), decide ((wrB (wEnd o s)).length ≤ maxRoom)] (some (.tup [], memA (wEnd o s)))
    else gds [decide (s.off + s.len ≤ s.bl.length), decide (0 + s.rl ≤ s.rest.length), decide (s.rl + (wrB s).length ≤ maxRoom)] (some (.tup [], memB s)))
theorem write_run (o : SOps) (w : List Nat) (rl size off len : Nat) (bl rest : List Nat) (wr : Bool) : runKL (X_padR o) [(2, gWr o)] [0,1,4,5,6,25] 60 wrL (bodyOf wrL) [.ptr 0 0, .slice 1 off len false] [⟨.cells (hshC w (.slice 2 0 rl true) size), true⟩, ⟨.bytes bl, wr⟩, ⟨.bytes rest, true⟩] (fun v m => some (v, m)) = wrT o (wS0 w rl size off len bl rest wr) := by kernel_rfl
/-- all bytes that are not in whole blocks yet -/
def wAll (off len : Nat) (bl rest : List Nat) : List Nat := rest ++ List.take len (List.drop off bl)
def wNum (off len : Nat) (bl rest : List Nat) : Nat := (wAll off len bl rest).length / 128
def wTail (off len : Nat) (bl rest : List Nat) : List Nat := (wAll off len bl rest).drop (128 * wNum off len bl rest)
def wMem (o : SOps) (w : List Nat) (size off len : Nat) (bl rest : List Nat) (B1 : Blk) : Mem :=
  [⟨.cells (hshC (foldB o.bP w (wAll off len bl rest) (wNum off len bl rest)) (.slice 4 0 (wTail off len bl rest).length true) ((size + len % 18446744073709551616) % 2 ^ 64)), true⟩, B1, dead, dead, ⟨.bytes (wTail off len bl rest), true⟩]
def wCond (rl off len : Nat) (bl rest : List Nat) : Bool := decide (rl = rest.length ∧ rl < 128 ∧ off + len ≤ bl.length ∧ bl.length + 128 ≤ maxRoom)
def gWrite (o : SOps) : List AV → Mem → Option (Bool × AV × Mem)
  | [.ptr 0 0, .slice 1 off len _], [⟨.cells [.u .u64 a, .u .u64 b, .u .u64 c, .u .u64 d, .u .u64 e, .u .u64 f, .u .u64 g, .u .u64 h, .slice 2 0 rl true, .u .u64 size], true⟩, B1, ⟨.bytes rest, true⟩] => (match blkBytes B1 with
    | some bl => some (wCond rl off len bl rest, .tup [], wMem o [a, b, c, d, e, f, g, h] size off len bl rest B1)
    | none => none)
  | _, _ => none
theorem write_at : LoudAt Try.prog 22 (told (gWrite concS)) := by
  refine told_at X_padR_ok (keep := [0,1,4,5,6,25]) Try.func22 (c := bodyOf wrL) (by kernel_rfl) (by kernel_rfl) wh_loops fun ar mem cd v m h hc hw => ?_
  unfold gWrite at h
  split at h
  · rename_i off len ap a b c d e f g hh rl size B1 rest
    split at h
    · rename_i bl hbl
      cases h
      obtain ⟨h1, h2, h3, h4⟩ := of_decide_eq_true hc
      generalize hw8 : [a, b, c, d, e, f, g, hh] = w
      have hwl : resp 8 w = w := by subst hw8; rfl
      refine ⟨60, [.ptr 0 0, .slice 1 off len false], [⟨.cells (hshC w (.slice 2 0 rl true) size), true⟩, ⟨.bytes bl, B1.wr⟩, ⟨.bytes rest, true⟩], ?_⟩
      have hmem : MemEq [⟨.cells [.u .u64 a, .u .u64 b, .u .u64 c, .u .u64 d, .u .u64 e, .u .u64 f, .u .u64 g, .u .u64 hh, .slice 2 0 rl true, .u .u64 size], true⟩, B1, ⟨.bytes rest, true⟩] [⟨.cells (hshC w (.slice 2 0 rl true) size), true⟩, ⟨.bytes bl, B1.wr⟩, ⟨.bytes rest, true⟩] := by
        subst hw8
        exact .cons (.refl _) (.cons (blkBytes_some hbl) (.cons (.refl _) .nil))
      have hB1 : BlkEq ⟨.bytes bl, B1.wr⟩ B1 := (blkBytes_some hbl).symm
      have hwg : wg (wS0 w rl size off len bl rest B1.wr) = true := decide_eq_true ⟨rfl, h1, h2, h3, by simp [wS0], by show bl.length < _; unfold maxRoom at h4; omega⟩
      have hS : wS (wS0 w rl size off len bl rest B1.wr) = wAll off len bl rest := rfl
      have hSl : (wAll off len bl rest).length = rl + len := wS_len hwg
      have run := write_run concS w rl size off len bl rest B1.wr
      unfold wrT at run
      rw [gds, hwg, cond_true, gds] at run
      by_cases hN : 128 ≤ rl + len
      · rw [show decide (128 ≤ (wS0 w rl size off len bl rest B1.wr).rl + (wS0 w rl size off len bl rest B1.wr).len) = true from decide_eq_true hN, cond_true] at run
        have hT : wrB (wEnd concS (wS0 w rl size off len bl rest B1.wr)) = wTail off len bl rest := by
          obtain ⟨n, hn⟩ : ∃ n, (wAll off len bl rest).length / 128 = n + 1 := ⟨(wAll off len bl rest).length / 128 - 1, by omega⟩
          rw [← wEnd_at (by rw [hS]; omega), hS, hn, wAt_B hwg n (by show rl ≤ _; omega), hS]
          unfold wTail wNum
          rw [hn]
        have hTl : (wTail off len bl rest).length ≤ 127 := by unfold wTail wNum; rw [List.length_drop]; omega
        rw [gds_true] at run
        · refine ⟨_, .cons (.ap (.refl _)), hmem, run, ?_⟩
          unfold memA wMem
          rw [hT]
          have e1 : (wEnd concS (wS0 w rl size off len bl rest B1.wr)).w = foldB concS.bP w (wAll off len bl rest) (wNum off len bl rest) := by
            show foldB concS.bP (resp 8 w) (wAll off len bl rest) ((wAll off len bl rest).length / 128) = _
            rw [hwl]; rfl
          rw [e1]
          exact .of (.refl _) (.of hB1 (.kill (.kill (.of (.refl _) .nil))))
        · intro c hcc
          simp only [List.mem_cons, List.not_mem_nil, or_false] at hcc
          rcases hcc with rfl | rfl
          · refine decide_eq_true ?_
            show off + (128 * ((wAll off len bl rest).length / 128) - rl) + (len - (128 * ((wAll off len bl rest).length / 128) - rl)) ≤ bl.length
            omega
          · rw [hT]; exact decide_eq_true (by unfold maxRoom; omega)
      · rw [show decide (128 ≤ (wS0 w rl size off len bl rest B1.wr).rl + (wS0 w rl size off len bl rest B1.wr).len) = false from decide_eq_false hN, cond_false] at run
        have hb : (wrB (wS0 w rl size off len bl rest B1.wr)).length = len := wrB_len h3
        have hr : wrR (wS0 w rl size off len bl rest B1.wr) = rest := by
          show List.take rl (List.drop 0 rest) = rest
          rw [List.drop_zero, List.take_of_length_le (by omega)]
        have hn : wNum off len bl rest = 0 := by unfold wNum; omega
        have hT : wTail off len bl rest = rest ++ wrB (wS0 w rl size off len bl rest B1.wr) := by
          unfold wTail; rw [hn, Nat.mul_zero, List.drop_zero]; rfl
        rw [gds_true] at run
        · refine ⟨_, .cons (.ap (.refl _)), hmem, run, ?_⟩
          unfold memB wMem
          rw [hT, hn, hr]
          have e1 : (wS0 w rl size off len bl rest B1.wr).w = foldB concS.bP w (wAll off len bl rest) 0 := hwl
          have e2 : (wS0 w rl size off len bl rest B1.wr).rl + (wrB (wS0 w rl size off len bl rest B1.wr)).length = (rest ++ wrB (wS0 w rl size off len bl rest B1.wr)).length := by
            rw [List.length_append, hb]; show rl + len = _; omega
          rw [e1, e2]
          exact .of (.refl _) (.of hB1 (.kill (.kill (.of (.refl _) .nil))))
        · intro c hcc
          simp only [List.mem_cons, List.not_mem_nil, or_false] at hcc
          rcases hcc with rfl | rfl | rfl
          · exact decide_eq_true h3
          · refine decide_eq_true ?_
            show 0 + rl ≤ rest.length; omega
          · rw [hb]
            refine decide_eq_true ?_
            show rl + len ≤ maxRoom; omega
    · cases h
  · cases h
def selW : List AV → Mem → Option (List (Option Nat) × Nat × Nat)
  | [.ptr hid 0, b], mem => (match nth mem hid with
    | some ⟨.cells cs, true⟩ => (match nth cs 8 with
      | some r => some ([some hid, (match b with | .slice id _ _ _ => some id | _ => none), (match r with | .slice id _ _ _ => some id | _ => none)], 1, 2)
      | none => none)
    | _ => none)
  | _, _ => none
noncomputable def X_write (o : SOps) : Cx := { X_padR o with M := addM (X_padR o).M 22 (frame selW (told (gWrite o))) }
theorem X_write_ok : CxOK Try.prog (X_write concS) := { X_padR_ok with loud := addM_ok X_padR_ok.loud (frame_at write_at) }
end Go.Proofs.Ytmhbhpmfbalbeaa

