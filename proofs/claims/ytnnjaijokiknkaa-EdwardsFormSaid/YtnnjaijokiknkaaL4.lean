/- The law EdwardsForm: a point's bytes say just it: it answers true for every input. No conditions. -/
import Derived.Test.YtnnjaijokiknkaaPh
namespace Go.Proofs.Ytnnjaijokiknkaa
open Go Pw Go.RowKit
def sE (k : List Nat) : List Nat := List.take k.length (List.drop 0 k)
theorem sE_eq (k : List Nat) : sE k = k := by unfold sE; rw [List.drop_zero, List.take_length]
def efQ (e : EOps) (a : K32) (k : List Nat) : Rungs := e.padd (e.parse a).1 (e.scale e.base (sE k))
noncomputable def efT (e : EOps) (a b : K32) (k : List Nat) : Option (AV × Option Blk) := brn (!allId (livesL19 e)) noB (gds [decide (0 + k.length ≤ k.length), decide ((sE k).length < 4611686018427387904)]
  (orB [!decide ((e.parse (e.bytes (efQ e a k))).2 = 0), !allId (sameL19 e (e.parse (e.bytes (efQ e a k))).1 (efQ e a k))] noB
    (brn (!decide ((e.parse b).2 = 0)) (some (.bool true, none)) (some (.bool (keyEq (e.bytes (e.parse b).1) b), none)))))
theorem lawEF_run (e : EOps) (a b : K32) (k : List Nat) : runNL (X_same19 e) [] [0,1,2,3,4,6,7,9,10,11,12,13,15,35,36,37,38,39,48,49,50,51] 500 Try.f11 (bodyOf Try.f11) (laArgs [.v (keyV a), .v (keyV b), .l k] 0) (laLists [.v (keyV a), .v (keyV b), .l k]) = efT e a b k := by kernel_rfl
theorem ef_true {e : EOps} (H : EGood e) {a b : K32} {k : List Nat} (ha : a.wf) (hb : b.wf) (hk : ∀ c ∈ k, c < 256) (lk : k.length ≤ 140737488351232) : efT e a b k = some (.bool true, none) := by
  obtain ⟨P, p⟩ : ∃ P, PO (e.parse a).1 P := by
    rcases H.parse ha with ⟨P, -, -, h⟩ | ⟨-, -, h⟩
    · exact ⟨P, h⟩
    · exact ⟨_, h⟩
  have hq : PO (efQ e a k) (P.add (BP.mul (leB k))) := by
    unfold efQ
    rw [sE_eq]
    exact H.padd p (H.scale H.base hk)
  have hB := H.bytes hq
  unfold efT
  rw [H.lives, sE_eq]
  show gds _ _ = _
  rw [gds_true]
  · rcases H.parse hB.wf with ⟨Q, h1, h2, h3⟩ | ⟨h1, h2, h3⟩
    · have e1 : Q = P.add (BP.mul (leB k)) := h1.inj hB
      rw [h2, H.same h3 hq, decide_eq_true e1]
      show brn _ _ _ = _
      rcases H.parse hb with ⟨R, g1, g2, g3⟩ | ⟨g1, g2, g3⟩
      · rw [g2, encK_same (H.bytes g3) g1]; rfl
      · rw [g2]; rfl
    · exact absurd hB (h1 _)
  · intro c hc
    simp only [List.mem_cons, List.not_mem_nil, or_false] at hc
    rcases hc with h | h <;> (rw [h]; exact decide_eq_true (by omega))
noncomputable abbrev XLf : Cx := X_same19 concE
theorem XLf_ok : CxOK Try.prog XLf := X_same19_ok
set_option maxRecDepth 100000 in
theorem edwardsForm_lifted (os : Os) (started : os.Started) (H : Type) (enc : TypeId × Value → H) :
    ReturnsInHanded {} Try.checked os 11 .any (Rows.edwardsFormSpec.pre6 enc Try.prog Try.f11 Rows.edwardsFormRow.domain false) (Rows.edwardsFormSpec.post enc Try.prog Try.f11 false true false false) := by
  refine law_lifted (C := Try.checked) (tb := 4) (by kernel_rfl) started (by kernel_rfl) Try.func11
    (ChangeSpec.witness6 (enc := enc) (C := Try.checked) false ⟨#[], #[.agg #[.int .u8 0, .int .u8 0, .int .u8 0, .int .u8 0, .int .u8 0, .int .u8 0, .int .u8 0, .int .u8 0, .int .u8 0, .int .u8 0, .int .u8 0, .int .u8 0, .int .u8 0, .int .u8 0, .int .u8 0, .int .u8 0, .int .u8 0, .int .u8 0, .int .u8 0, .int .u8 0, .int .u8 0, .int .u8 0, .int .u8 0, .int .u8 0, .int .u8 0, .int .u8 0, .int .u8 0, .int .u8 0, .int .u8 0, .int .u8 0, .int .u8 0, .int .u8 0], .agg #[.int .u8 0, .int .u8 0, .int .u8 0, .int .u8 0, .int .u8 0, .int .u8 0, .int .u8 0, .int .u8 0, .int .u8 0, .int .u8 0, .int .u8 0, .int .u8 0, .int .u8 0, .int .u8 0, .int .u8 0, .int .u8 0, .int .u8 0, .int .u8 0, .int .u8 0, .int .u8 0, .int .u8 0, .int .u8 0, .int .u8 0, .int .u8 0, .int .u8 0, .int .u8 0, .int .u8 0, .int .u8 0, .int .u8 0, .int .u8 0, .int .u8 0, .int .u8 0], .slice none 0 0], []⟩ 8 (by kernel_rfl) (by kernel_rfl) (by kernel_rfl) (by kernel_rfl)) rfl ?_ (by kernel_rfl) (by kernel_rfl) (by kernel_rfl) (by kernel_rfl) ?_
  · intro ds h
    match ds, h with | [d0, d1, d2], _ => rfl
  · intro W base args ds p hval hsz hA hlt hw
    obtain ⟨args⟩ := args
    match args, hsz, hval with
    | [a0, a1, a2], hsz, hval =>
      have n0 := NSt.empty W
      obtain ⟨a, wa, ra⟩ := argKey (t := 23) (by kernel_rfl) (hval 0 _ a0 (by kernel_rfl) rfl)
      obtain ⟨b, wb, rb⟩ := argKey (t := 23) (by kernel_rfl) (hval 1 _ a1 (by kernel_rfl) rfl)
      obtain ⟨_, _, tk, uk⟩ := trod_get hA hw 2 _ a2 (by kernel_rfl) rfl
      obtain ⟨k, wk, lk, fk⟩ := argBytes (t := 24) (by kernel_rfl) (hval 2 _ a2 (by kernel_rfl) rfl) tk uk
      obtain ⟨_, x1, n1, rk⟩ := n0.arg fk
      exact law_runN XLf_ok Try.func11 (by kernel_rfl) LoopsOK.nil ((lawEF_run concE a b k).trans (ef_true concEG wa wb wk lk)) n1 (.cons _ _ _ _ (ra _) (.cons _ _ _ _ (rb _) (.cons _ _ _ _ rk .nil)))
theorem edwardsForm_facts : joinedFacts Try.pinned.checked.prog 11 Try.f11 Rows.edwardsFormSpec Rows.edwardsFormRow = true := by
  show joinedFacts Try.prog 11 Try.f11 Rows.edwardsFormSpec Rows.edwardsFormRow = true
  unfold joinedFacts
  rw [liftsF, heardF, enterF, makeF]
  kernel_rfl
theorem edwardsForm_holds : Rows.EdwardsFormSaid :=
  OpenClaim.holds_of_wide 11 Try.f11 rfl rfl rfl rfl rfl rfl rfl ⟨rfl, rfl, rfl, rfl, rfl⟩ rfl rfl rfl rfl rfl (by kernel_rfl) Try.func11 edwardsForm_facts
    (of_decide_eq_true (by kernel_rfl)) (by unfold Func.isWrapper; first | (rw [if_pos (by decide +kernel)]; kernel_rfl) | (rw [if_neg (by decide +kernel)]; exact ⟨rfl, rfl⟩))
    (fun os started H enc _ => edwardsForm_lifted os started H enc)
#print axioms edwardsForm_holds
end Go.Proofs.Ytnnjaijokiknkaa

