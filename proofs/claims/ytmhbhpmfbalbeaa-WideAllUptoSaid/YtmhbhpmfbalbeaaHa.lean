/- WidePieces: the walk. -/
import Derived.Test.YtmhbhpmfbalbeaaWx
import Derived.Test.YtmhbhpmfbalbeaaPwMk
import Derived.Test.YtmhbhpmfbalbeaaPwMh
import Derived.Test.YtmhbhpmfbalbeaaPwMj
namespace Go.Proofs.Ytmhbhpmfbalbeaa
open Go Pw Go.RowKit
noncomputable abbrev wpF : Func := Try.f10
noncomputable def mSz (o : SOps) : LoudFn := fun args mem _ K => runKL (X_hashR o) [] [0,2] 60 Try.f24 (bodyOf Try.f24) args mem K
theorem mSz_at : LoudAt Try.prog 24 (mSz concS) := loudAt_of_run X_hashR_ok Try.func24 (by kernel_rfl) (by kernel_rfl) LoopsOK.nil
/-! ### Sum of a Hash that has taken nothing yet -/
def sumNT (o : SOps) (w : List Nat) (size : Nat) : Option (AV × Option Blk) :=
  gds [wCond 0 0 (padL size).length (padL size) []] (some (b64V (bytesW (foldB o.bP (resp 8 w) (wAll 0 (padL size).length (padL size) []) (wNum 0 (padL size).length (padL size) []))), none))
theorem sumN_run (o : SOps) (w : List Nat) (size : Nat) : runG (X_cop o) [] [0,2,3,4,5,6,7,20,21,22,25,26] 400 Try.f18 (bodyOf Try.f18) [.ptr 0 0] [⟨.cells (hshC w .nils size), false⟩] = sumNT o w size := by kernel_rfl
def gSum2 (o : SOps) : List AV → Mem → Option (Bool × AV × Option Blk)
  | [.ptr 0 0], [⟨.cells [.u .u64 a, .u .u64 b, .u .u64 c, .u .u64 d, .u .u64 e, .u .u64 f, .u .u64 g, .u .u64 h, .nils, .u .u64 size], false⟩] => some (true, b64V (sumV o [a, b, c, d, e, f, g, h] size []), none)
  | [.ptr 1 0], [⟨.bytes rest, false⟩, ⟨.cells [.u .u64 a, .u .u64 b, .u .u64 c, .u .u64 d, .u .u64 e, .u .u64 f, .u .u64 g, .u .u64 h, .slice 0 0 rl false, .u .u64 size], false⟩] => some (decide (rl = rest.length ∧ rl < 128), b64V (sumV o [a, b, c, d, e, f, g, h] size rest), none)
  | _, _ => none
theorem sum2_at : QuietAt Try.prog 18 (grab (gSum2 concS)) := by
  refine quietAt_of_runG X_cop_ok (keep := [0,2,3,4,5,6,7,20,21,22,25,26]) Try.func18 (c := bodyOf Try.f18) (by kernel_rfl) (by kernel_rfl) LoopsOK.nil fun ar ms cd v nb h hc hw => ?_
  unfold gSum2 at h
  split at h
  · rename_i a b c d e f g hh size
    cases h
    generalize hw8 : [a, b, c, d, e, f, g, hh] = w
    have hwl : resp 8 w = w := by subst hw8; rfl
    refine ⟨400, [⟨.cells (hshC w .nils size), false⟩], by subst hw8; exact .refl _, ?_⟩
    refine (sumN_run concS w size).trans ?_
    have hz : padZ size < 128 := Nat.mod_lt _ (by decide)
    have hl := padL_len size
    unfold sumNT
    rw [gds_true, hwl]
    · unfold sumV wNum wAll
      rw [List.drop_zero, List.take_length]
    · intro x hx
      simp only [List.mem_cons, List.not_mem_nil, or_false] at hx
      rw [hx]
      exact decide_eq_true ⟨rfl, by omega, by omega, by unfold maxRoom; omega⟩
  · rename_i rest a b c d e f g hh rl size
    cases h
    obtain ⟨h1, h2⟩ := of_decide_eq_true hc
    generalize hw8 : [a, b, c, d, e, f, g, hh] = w
    have hwl : resp 8 w = w := by subst hw8; rfl
    refine ⟨400, [⟨.bytes rest, false⟩, ⟨.cells (hshC w (.slice 0 0 rl false) size), false⟩], by subst hw8; exact .refl _, ?_⟩
    refine (sumP_run concS w rl size rest).trans ?_
    have hr : List.take rl (List.drop 0 rest) = rest := by rw [List.drop_zero, List.take_of_length_le (by omega)]
    have hz : padZ size < 128 := Nat.mod_lt _ (by decide)
    have hl := padL_len size
    unfold sumT
    rw [hr, gds_true, hwl]
    · unfold sumV wNum wAll
      rw [List.drop_zero, List.take_length]
    · intro x hx
      simp only [List.mem_cons, List.not_mem_nil, or_false] at hx
      rcases hx with rfl | rfl | rfl
      · exact decide_eq_true (by omega)
      · exact decide_eq_true (by unfold maxRoom; omega)
      · exact decide_eq_true ⟨rfl, by omega, by omega, by unfold maxRoom; omega⟩
  · cases h
noncomputable def X_wp (o : SOps) : Cx := { X_hashR o with O := addQ (X_hashR o).O 18 (grab (gSum2 o)), M := addM (X_hashR o).M 24 (mSz o) }
theorem X_wp_ok : CxOK Try.prog (X_wp concS) := { X_hashR_ok with quiet := addQ_ok X_hashR_ok.quiet sum2_at, loud := addM_ok X_hashR_ok.loud mSz_at }
/-- a hash under way: the words, how many bytes came, those that fill no block yet -/
structure HS where
  w : List Nat
  size : Nat
  rest : List Nat
def rV : Bool → Nat → AV
  | true, n => .slice 5 0 n true
  | false, _ => .nils
def rB : Bool → List Nat → Blk
  | true, l => ⟨.bytes l, true⟩
  | false, _ => Pw.dead
def wpE (n m wl : Nat) (i : Int) : Env := [(0, .slice 0 0 n false), (1, .slice 1 0 m false), (5, .ptr 3 0), (6, .slice 4 0 wl true), (7, .n i)]
def wpM (B0 B1 : Blk) (k : Bool) (s : HS) (whole : List Nat) (tl : Mem) : Mem := B0 :: B1 :: Pw.dead :: ⟨.cells (hshC s.w (rV k s.rest.length) s.size), true⟩ :: ⟨.bytes whole, true⟩ :: rB k s.rest :: tl
def rS (k : Bool) (s : HS) : List Nat := bif k then s.rest else []
def pT (p : List Nat) : List Nat := List.take p.length (List.drop 0 p)
def pJ (x : List Nat) : List Nat := List.take 0 (List.drop 0 []) ++ x
def pP (p : List Nat) : List Nat := pJ (pT p)
def pL (p : List Nat) : Nat := 0 + (pT p).length
/-- the hash behind one piece -/
def hsS (o : SOps) (s : HS) (r p : List Nat) : HS := ⟨foldB o.bP (resp 8 s.w) (wAll 0 (pL p) (pP p) r) (wNum 0 (pL p) (pP p) r), (s.size + pL p % 18446744073709551616) % 2 ^ 64, wTail 0 (pL p) (pP p) r⟩
def wpW (whole p : List Nat) : List Nat := List.take whole.length (List.drop 0 whole) ++ pT p
def wpN (whole p : List Nat) : Nat := whole.length + (pT p).length
def wpG (n p0 : Nat) (i : Int) (r p whole : List Nat) : List Bool := [decide (0 ≤ i ∧ i < (n : Int)), Nat.beq (0 + i.toNat * 1) p0, decide (0 + p.length ≤ p.length), decide (0 + (pT p).length ≤ maxRoom), wCond r.length 0 (pL p) (pP p) r,
  decide (0 ≤ i ∧ i < (n : Int)), Nat.beq (0 + i.toNat * 1) p0, decide (0 + p.length ≤ p.length), decide (0 + whole.length ≤ whole.length), decide (whole.length + (pT p).length ≤ maxRoom)]
def wpT (whole p : List Nat) : List Nat := List.take (wpN whole p) (List.drop 0 (wpW whole p))
def wpU (whole p : List Nat) : List Nat := List.take (0 + (wpT whole p).length) (List.drop 0 (pJ (wpT whole p)))
def wpH (s : HS) (whole p : List Nat) : List Bool := [decide (0 + s.rest.length ≤ s.rest.length), decide (s.rest.length = (List.take s.rest.length (List.drop 0 s.rest)).length ∧ s.rest.length < 128), decide (0 + wpN whole p ≤ (wpW whole p).length), decide (0 + (wpT whole p).length ≤ maxRoom),
  decide (0 + (0 + (wpT whole p).length) ≤ (pJ (wpT whole p)).length), decide ((wpU whole p).length + 128 ≤ maxRoom)]
def wpA (o : SOps) (s : HS) (whole p : List Nat) : Bool := eqW 64 (sumV o (resp 8 s.w) s.size (List.take s.rest.length (List.drop 0 s.rest))) (hashV o (wpU whole p))
def wpK (n m : Nat) (i : Int) (s : HS) (whole : List Nat) (wl : Nat) : Option (Ex × Env × Mem) := some (.normal, wpE n m wl (w64 (i + 1)), wpM Pw.dead Pw.dead true s whole [])
noncomputable def wpR (o : SOps) (n m p0 : Nat) (i : Int) (k : Bool) (s : HS) (whole p : List Nat) (x : Option (Ex × Env × Mem)) : Option (Ex × Env × Mem) :=
  brn (decide (i < (n : Int))) (gds (wpG n p0 i (rS k s) p whole) (brn (decide (i < (m : Int))) x (wpK n m i (hsS o s (rS k s) p) (wpW whole p) (wpN whole p)))) (some (.exit 0, wpE n m whole.length i, wpM Pw.dead Pw.dead k s whole []))
noncomputable def wpX (o : SOps) (n m p0 : Nat) (i : Int) (k b : Bool) (s : HS) (whole p : List Nat) : Option (Ex × Env × Mem) :=
  gds [decide (0 ≤ i ∧ i < (m : Int)), Nat.beq (0 + i.toNat * 1) p0] (brn b (gds (wpH (hsS o s (rS k s) p) whole p) (brn (!wpA o (hsS o s (rS k s) p) whole p) none (wpK n m i (hsS o s (rS k s) p) (wpW whole p) (wpN whole p)))) (wpK n m i (hsS o s (rS k s) p) (wpW whole p) (wpN whole p)))
theorem wp_step (o : SOps) (n m p0 : Nat) (i : Int) (b : Bool) (s : HS) (whole p : List Nat) : ∀ k : Bool, codeK (X_wp o) [] wpF.ntmps [0,1,4,5,6,7,12,13,14,15,20,42,43,44,45,48,49,50,51,52,53,54,55,62,63,64,65,66,67] 100 (loopB (bodyOf wpF) 6) (wpE n m whole.length i) (wpM ⟨.win p0 [.slice 6 0 p.length false], false⟩ ⟨.win p0 [.bool b], false⟩ k s whole [⟨.bytes p, false⟩]) (outP [0, 1, 5, 6, 7] 4 [0, 1] [11, 10] [4, 5]) =
  wpR o n m p0 i k s whole p (wpX o n m p0 i k b s whole p)
  | true => by kernel_rfl
  | false => by kernel_rfl
theorem wp_stepD (o : SOps) (n m p0 : Nat) (i : Int) (s : HS) (whole p : List Nat) : ∀ k : Bool, codeK (X_wp o) [] wpF.ntmps [0,1,4,5,6,7,12,13,14,15,20,42,43,44,45,48,49,50,51,52,53,54,55,62,63,64,65,66,67] 100 (loopB (bodyOf wpF) 6) (wpE n m whole.length i) (wpM ⟨.win p0 [.slice 6 0 p.length false], false⟩ Pw.dead k s whole [⟨.bytes p, false⟩]) (outP [0, 1, 5, 6, 7] 4 [0, 1] [11, 10] [4, 5]) =
  wpR o n m p0 i k s whole p (gds [decide (0 ≤ i ∧ i < (m : Int))] none)
  | true => by kernel_rfl
  | false => by kernel_rfl
theorem wp_last (o : SOps) (n m : Nat) (i : Int) (s : HS) (whole : List Nat) (h : ¬ i < (n : Int)) : ∀ k : Bool, codeK (X_wp o) [] wpF.ntmps [0,1,4,5,6,7,12,13,14,15,20,42,43,44,45,48,49,50,51,52,53,54,55,62,63,64,65,66,67] 100 (loopB (bodyOf wpF) 6) (wpE n m whole.length i) (wpM Pw.dead Pw.dead k s whole []) (outP [0, 1, 5, 6, 7] 4 [0, 1] [11, 10] [4, 5]) =
  some (.exit 0, wpE n m whole.length i, wpM Pw.dead Pw.dead k s whole []) := by
  have e : ∀ k : Bool, codeK (X_wp o) [] wpF.ntmps [0,1,4,5,6,7,12,13,14,15,20,42,43,44,45,48,49,50,51,52,53,54,55,62,63,64,65,66,67] 100 (loopB (bodyOf wpF) 6) (wpE n m whole.length i) (wpM Pw.dead Pw.dead k s whole []) (outP [0, 1, 5, 6, 7] 4 [0, 1] [11, 10] [4, 5]) =
      brn (decide (i < (n : Int))) (gds [decide (0 ≤ i ∧ i < (n : Int))] none) (some (.exit 0, wpE n m whole.length i, wpM Pw.dead Pw.dead k s whole []))
    | true => by kernel_rfl
    | false => by kernel_rfl
  intro k
  rw [e, brn_eq, decide_eq_false h, cond_false]
/-! ### what a hash under way has taken -/
structure HSI (o : SOps) (s : HS) (t : List Nat) : Prop where
  w : resp 8 s.w = resp 8 (foldAll o.bP SW t)
  size : s.size = t.length
  rest : s.rest = t.drop (128 * (t.length / 128))
  len : t.length + 512 ≤ maxRoom
def hs0 : HS := ⟨SW, 0, []⟩
theorem HSI.zero (o : SOps) : HSI o hs0 [] := ⟨rfl, rfl, rfl, by decide⟩
theorem HSI.rest_len {o : SOps} {s : HS} {t : List Nat} (h : HSI o s t) : s.rest.length = t.length % 128 := by
  rw [h.rest, List.length_drop]; omega
theorem pT_eq (p : List Nat) : pT p = p := by unfold pT; rw [List.drop_zero, List.take_length]
theorem pJ_eq (x : List Nat) : pJ x = x := by unfold pJ; rw [List.take_zero, List.nil_append]
theorem pP_eq (p : List Nat) : pP p = p := by unfold pP; rw [pT_eq, pJ_eq]
theorem pL_eq (p : List Nat) : pL p = p.length := by unfold pL; rw [pT_eq, Nat.zero_add]
theorem wpW_eq (whole p : List Nat) : wpW whole p = whole ++ p := by unfold wpW; rw [pT_eq, List.drop_zero, List.take_length]
theorem wpN_eq (whole p : List Nat) : wpN whole p = (whole ++ p).length := by unfold wpN; rw [pT_eq, List.length_append]
theorem wpT_eq (whole p : List Nat) : wpT whole p = whole ++ p := by unfold wpT; rw [wpW_eq, wpN_eq, List.drop_zero, List.take_length]
theorem wpU_eq (whole p : List Nat) : wpU whole p = whole ++ p := by unfold wpU; rw [wpT_eq, pJ_eq, Nat.zero_add, List.drop_zero, List.take_length]
theorem HSI.step {o : SOps} {s : HS} {t p : List Nat} (h : HSI o s t) (hl : (t ++ p).length + 512 ≤ maxRoom) : HSI o (hsS o s s.rest p) (t ++ p) := by
  have hm : maxRoom = 175921860444160 := rfl
  have ha : wAll 0 p.length p s.rest = s.rest ++ p := by unfold wAll; rw [List.drop_zero, List.take_length]
  have hlen : (t ++ p).length = t.length + p.length := List.length_append
  unfold hsS
  rw [pP_eq, pL_eq]
  refine ⟨?_, ?_, ?_, hl⟩
  · show resp 8 (foldB o.bP (resp 8 s.w) (wAll 0 p.length p s.rest) ((wAll 0 p.length p s.rest).length / 128)) = _
    rw [ha, h.w, (foldB_resp _ _ _ _).1]
    rw [foldAll_app, ← h.rest]
    rfl
  · show (s.size + p.length % 18446744073709551616) % 2 ^ 64 = _
    rw [h.size]
    omega
  · show (wAll 0 p.length p s.rest).drop (128 * ((wAll 0 p.length p s.rest).length / 128)) = _
    rw [ha, List.length_append, h.rest_len]
    have e1 : 128 * ((t ++ p).length / 128) = 128 * (t.length / 128) + 128 * ((t.length % 128 + p.length) / 128) := by omega
    have e2 : List.drop (128 * (t.length / 128)) (t ++ p) = s.rest ++ p := by rw [List.drop_append_of_le_length (by omega), ← h.rest]
    rw [e1, ← List.drop_drop, e2]
theorem HSI.fin {o : SOps} {s : HS} {t : List Nat} (h : HSI o s t) : sumV o (resp 8 s.w) s.size (List.take s.rest.length (List.drop 0 s.rest)) = hashV o t := by
  have hr : List.take s.rest.length (List.drop 0 s.rest) = s.rest := by rw [List.drop_zero, List.take_length]
  rw [hr, h.w, h.size]
  unfold sumV hashV
  rw [bytesW_fold, foldAll_app, ← h.rest]
  rfl
/-- one round -/
theorem wp_go {o : SOps} {n m p0 : Nat} {i : Int} {k : Bool} {s : HS} {whole p : List Nat} {x : Option (Ex × Env × Mem)} (h : HSI o s whole) (hl : (whole ++ p).length + 512 ≤ maxRoom) (hr : rS k s = s.rest) (h0 : 0 ≤ i) (h1 : i < (n : Int)) (h2 : Nat.beq (0 + i.toNat * 1) p0 = true)
    (hx : i < (m : Int) → x = wpK n m i (hsS o s s.rest p) (whole ++ p) (whole ++ p).length) :
    wpR o n m p0 i k s whole p x = wpK n m i (hsS o s s.rest p) (whole ++ p) (whole ++ p).length := by
  have hm : maxRoom = 175921860444160 := rfl
  have hlen : (whole ++ p).length = whole.length + p.length := List.length_append
  have hrl := h.rest_len
  unfold wpR
  rw [brn_eq, decide_eq_true h1, cond_true, gds_true, hr, wpW_eq, wpN_eq, brn_eq]
  · by_cases hi : i < (m : Int)
    · rw [decide_eq_true hi, cond_true, hx hi]
    · rw [decide_eq_false hi, cond_false]
  · intro c hc
    unfold wpG at hc
    rw [hr, pT_eq, pL_eq, pP_eq, h2] at hc
    simp only [List.mem_cons, List.not_mem_nil, or_false] at hc
    rcases hc with hc | hc | hc | hc | hc | hc | hc | hc | hc | hc <;> rw [hc]
    · exact decide_eq_true ⟨h0, h1⟩
    · exact decide_eq_true (by omega)
    · exact decide_eq_true (by omega)
    · exact decide_eq_true ⟨rfl, by omega, by omega, by omega⟩
    · exact decide_eq_true ⟨h0, h1⟩
    · exact decide_eq_true (by omega)
    · exact decide_eq_true (by omega)
    · exact decide_eq_true (by omega)
theorem wp_goX {o : SOps} {n m p0 : Nat} {i : Int} {k b : Bool} {s : HS} {whole p : List Nat} (h : HSI o s whole) (hl : (whole ++ p).length + 512 ≤ maxRoom) (hr : rS k s = s.rest) (h0 : 0 ≤ i) (h1 : i < (m : Int)) (h2 : Nat.beq (0 + i.toNat * 1) p0 = true) :
    wpX o n m p0 i k b s whole p = wpK n m i (hsS o s s.rest p) (whole ++ p) (whole ++ p).length := by
  have hm : maxRoom = 175921860444160 := rfl
  have hs := h.step (p := p) hl
  have hrl := hs.rest_len
  unfold wpX
  rw [hr, wpW_eq, wpN_eq, gds_true, brn_eq]
  · cases b with
    | false => rw [cond_false]
    | true =>
      have ha : wpA o (hsS o s s.rest p) whole p = true := by
        unfold wpA
        rw [hs.fin, wpU_eq]
        exact eqW_self _ _
      rw [cond_true, gds_true, ha]
      · rfl
      · intro c hc
        unfold wpH at hc
        rw [wpT_eq, wpU_eq, wpW_eq, wpN_eq, pJ_eq, List.drop_zero, List.take_length] at hc
        simp only [List.mem_cons, List.not_mem_nil, or_false] at hc
        rcases hc with hc | hc | hc | hc | hc | hc <;> rw [hc]
        · exact decide_eq_true (by omega)
        · exact decide_eq_true ⟨trivial, by omega⟩
        · exact decide_eq_true (by omega)
        · exact decide_eq_true (by omega)
        · exact decide_eq_true (by omega)
        · exact decide_eq_true (by omega)
  · intro c hc
    rw [h2] at hc
    simp only [List.mem_cons, List.not_mem_nil, or_false] at hc
    rcases hc with hc | hc <;> rw [hc]
    exact decide_eq_true ⟨h0, h1⟩
end Go.Proofs.Ytmhbhpmfbalbeaa

