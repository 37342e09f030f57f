/- The law EdwardsPoints: what Parse takes lies on the curve, by layer 1: it answers true for every input. No conditions. -/
import Derived.Test.YtnnjaijokiknkaaPh
namespace Go.Proofs.Ytnnjaijokiknkaa
open Go Pw Go.RowKit
def gpY (o : FOps) (b : K32) : L5 := o.frm (mask2 b)
def gpD (o : FOps) : L5 := o.mul (o.neg (o.small 121665)) (invO o (o.small 121666))
def gpW (o : FOps) (b : K32) : L5 := o.mul (o.sub (o.sq (gpY o b)) (o.small 1)) (invO o (o.add (o.mul (gpD o) (o.sq (gpY o b))) (o.small 1)))
noncomputable def gpZ (e : EOps) (b : K32) : Option (AV × Option Blk) := brn (decide ((e.parse b).2 = 190)) (some (.bool (e.isn (e.parse b).1), none)) noB
noncomputable def gpX (e : EOps) (b : K32) (v : Bool) : Option (AV × Option Blk) := brn (!(decide ((e.parse b).2 = 0) == v)) noB (brn (decide ((e.parse b).2 = 0)) (brn (keyEq (e.bytes (e.parse b).1) b) (some (.bool true, none)) (gpZ e b)) (gpZ e b))
noncomputable def gpT (e : EOps) (b : K32) : Option (AV × Option Blk) := brn (!allId (livesL19 e)) noB
  (brn (rootB e.fo (gpW e.fo b)) (brn (keyEq (e.fo.bytes (gpY e.fo b)) (mask2 b)) (brn (e.fo.isZero (rootO e.fo (gpW e.fo b))) (gpX e b (!(hi2 b))) (gpX e b (!false))) (gpX e b false)) (gpX e b false))
theorem lawGP_run (e : EOps) (b : K32) : runNL (X_same19 e) [] [0,1,2,3,4,5,6,7,8,9,10,11,13,54,55,56,57,60,61,62,63,64,65,67,71,72,73,74,77,78,79,80,81,82] 500 Try.f8 (bodyOf Try.f8) (laArgs [.v (keyV b)] 0) (laLists [.v (keyV b)]) = gpT e b := by kernel_rfl
theorem gpD_id : (-121665 : Fp) * finv 121666 = DF := by
  have h1 : (121666 : Fp) ≠ 0 := by decide +kernel
  have h2 := mul_finv h1
  have h3 := DF_eq
  generalize finv (121666 : Fp) = w at *
  generalize DF = d at *
  generalize (121666 : Fp) = a at *
  generalize (-121665 : Fp) = c at *
  grind
theorem toF_a : toF 121665 = 121665 := by decide +kernel
theorem toF_b : toF 121666 = 121666 := by decide +kernel
theorem gp_true {e : EOps} (H : EGood e) (G : FGood e.fo) {b : K32} (hb : b.wf) : gpT e b = some (.bool true, none) := by
  obtain ⟨mw, mv⟩ := mask_val hb
  have hy : NV (gpY e.fo b) (toF (leVal b % B255)) := by
    have := G.frm mw
    rw [mv, Nat.mod_mod] at this
    exact this
  have hd : NV (gpD e.fo) DF := by
    have h1 := G.small (n := 121665) (by decide)
    have h2 := G.small (n := 121666) (by decide)
    rw [toF_a] at h1
    rw [toF_b] at h2
    have h3 := G.mul (G.neg h1) (G.inv h2)
    rw [gpD_id] at h3
    exact h3
  have hw : NV (gpW e.fo b) (xxOf (toF (leVal b % B255))) := G.mul (G.sub (G.sq hy) G.one) (G.inv (G.add (G.mul hd (G.sq hy)) G.one))
  obtain ⟨hr, hroot⟩ := G.root hw
  obtain ⟨bw, bv⟩ := G.bytes hy
  have ek : keyEq (e.fo.bytes (gpY e.fo b)) (mask2 b) = decide (leVal b % B255 < PP) := by
    rw [key_eq_iff bw mw, bv, mv, toF_val]
    refine decide_eq_decide.2 ⟨fun h => ?_, fun h => Nat.mod_eq_of_lt h⟩
    rw [← h]; exact Nat.mod_lt _ PP_pos
  have ez := G.isZero hr
  have eh := (hi_val hb).2
  have key : ∀ v : Bool, (v = true ↔ ∃ P, EncK b P) → gpX e b v = some (.bool true, none) := by
    intro v hv
    unfold gpX gpZ
    rcases H.parse hb with ⟨P, h1, h2, h3⟩ | ⟨h1, h2, h3⟩
    · rw [hv.2 ⟨P, h1⟩, h2, encK_same (H.bytes h3) h1]
      rfl
    · have : v = false := by
        cases v
        · rfl
        · obtain ⟨P, hP⟩ := hv.1 rfl
          exact absurd hP (h1 P)
      rw [this, h2, H.isn h3, decide_eq_true rfl]
      rfl
  generalize hvv : toF (leVal b % B255) = v at *
  have none_sq : ∀ P, EncK b P → isSq (xxOf v) := fun P hP => by
    have := hP.point
    rw [hvv] at this
    exact Classical.byContradiction fun h => found_none h P this
  unfold gpT
  rw [H.lives]
  show brn (rootB e.fo (gpW e.fo b)) _ _ = _
  rw [hroot, ek, ez, eh, brn_eq, brn_eq, brn_eq]
  by_cases hs : isSq (xxOf v)
  · rw [(hasRoot_iff _).2 hs, cond_true]
    by_cases hl : leVal b % B255 < PP
    · rw [decide_eq_true hl, cond_true]
      have some_pt : ∀ odd : Bool, decide (leVal b / B255 = 1) = odd → ¬ (rootF (xxOf v) = 0 ∧ odd = true) → ∃ P, EncK b P := fun odd ho hn => by
        obtain ⟨P, hP, -, -⟩ := found_some hs hn
        rw [← hvv, ← ho] at hP
        exact ⟨P, EncK.of_point hb hP hl⟩
      by_cases h0 : rootF (xxOf v) = 0
      · rw [decide_eq_true h0, cond_true]
        refine key _ ⟨fun h => ?_, fun ⟨P, hP⟩ => ?_⟩
        · refine some_pt false ?_ (fun h' => by cases h'.2)
          cases hh : decide (leVal b / B255 = 1)
          · rfl
          · rw [hh] at h; cases h
        · have hp := hP.point
          rw [hvv] at hp
          cases hh : decide (leVal b / B255 = 1)
          · rfl
          · rw [hh] at hp
            exact absurd hp (found_zero hs h0 P)
      · rw [decide_eq_false h0, cond_false]
        exact key _ ⟨fun _ => some_pt _ rfl (fun h' => h0 h'.1), fun _ => rfl⟩
    · rw [decide_eq_false hl, cond_false]
      exact key _ ⟨fun h => (by cases h), fun ⟨P, hP⟩ => absurd hP.y_lt hl⟩
  · rw [Bool.eq_false_iff.2 (fun h => hs ((hasRoot_iff _).1 h)), cond_false]
    exact key _ ⟨fun h => (by cases h), fun ⟨P, hP⟩ => absurd (none_sq P hP) hs⟩
theorem concE_fo : concE.fo = concFOps := by kernel_rfl
theorem concEF : FGood concE.fo := concE_fo ▸ concGood
noncomputable abbrev XLq : Cx := X_same19 concE
theorem XLq_ok : CxOK Try.prog XLq := X_same19_ok
set_option maxRecDepth 100000 in
theorem edwardsPoints_lifted (os : Os) (started : os.Started) (H : Type) (enc : TypeId × Value → H) :
    ReturnsInHanded {} Try.checked os 8 .any (Rows.edwardsPointsSpec.pre6 enc Try.prog Try.f8 Rows.edwardsPointsRow.domain false) (Rows.edwardsPointsSpec.post enc Try.prog Try.f8 false true false false) := by
  refine law_lifted (C := Try.checked) (tb := 4) (by kernel_rfl) started (by kernel_rfl) Try.func8
    (ChangeSpec.witness6 (enc := enc) (C := Try.checked) false ⟨#[], #[.agg #[.int .u8 0, .int .u8 0, .int .u8 0, .int .u8 0, .int .u8 0, .int .u8 0, .int .u8 0, .int .u8 0, .int .u8 0, .int .u8 0, .int .u8 0, .int .u8 0, .int .u8 0, .int .u8 0, .int .u8 0, .int .u8 0, .int .u8 0, .int .u8 0, .int .u8 0, .int .u8 0, .int .u8 0, .int .u8 0, .int .u8 0, .int .u8 0, .int .u8 0, .int .u8 0, .int .u8 0, .int .u8 0, .int .u8 0, .int .u8 0, .int .u8 0, .int .u8 0]], []⟩ 8 (by kernel_rfl) (by kernel_rfl) (by kernel_rfl) (by kernel_rfl)) rfl ?_ (by kernel_rfl) (by kernel_rfl) (by kernel_rfl) (by kernel_rfl) ?_
  · intro ds h
    match ds, h with | [d0], _ => rfl
  · intro W base args ds p hval hsz hA hlt hw
    obtain ⟨args⟩ := args
    match args, hsz, hval with
    | [a0], hsz, hval =>
      obtain ⟨b, wb, rb⟩ := argKey (t := 23) (by kernel_rfl) (hval 0 _ a0 (by kernel_rfl) rfl)
      exact law_runN XLq_ok Try.func8 (by kernel_rfl) LoopsOK.nil ((lawGP_run concE b).trans (gp_true concEG concEF wb)) (NSt.empty W) (.cons _ _ _ _ (rb _) .nil)
theorem edwardsPoints_facts : joinedFacts Try.pinned.checked.prog 8 Try.f8 Rows.edwardsPointsSpec Rows.edwardsPointsRow = true := by
  show joinedFacts Try.prog 8 Try.f8 Rows.edwardsPointsSpec Rows.edwardsPointsRow = true
  unfold joinedFacts
  rw [liftsF, heardF, enterF, makeF]
  kernel_rfl
theorem edwardsPoints_holds : Rows.EdwardsPointsSaid :=
  OpenClaim.holds_of_wide 8 Try.f8 rfl rfl rfl rfl rfl rfl rfl ⟨rfl, rfl, rfl, rfl, rfl⟩ rfl rfl rfl rfl rfl (by kernel_rfl) Try.func8 edwardsPoints_facts
    (of_decide_eq_true (by kernel_rfl)) (by unfold Func.isWrapper; first | (rw [if_pos (by decide +kernel)]; kernel_rfl) | (rw [if_neg (by decide +kernel)]; exact ⟨rfl, rfl⟩))
    (fun os started H enc _ => edwardsPoints_lifted os started H enc)
#print axioms edwardsPoints_holds
end Go.Proofs.Ytnnjaijokiknkaa

