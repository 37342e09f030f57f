/- The law EdwardsParses: Parse and Lift of any bytes are the document's: it answers true for every input. No conditions. -/
import Derived.Test.YtnnjaijokiknkaaPh
namespace Go.Proofs.Ytnnjaijokiknkaa
open Go Pw Go.RowKit
def epL (e : EOps) (b : K32) (odd : Bool) : List Bool := [decide ((e.parse b).2 = (e.rparse b).2), decide ((e.lift b odd).2 = (e.rlift b odd).2), keyEq (e.bytes (e.parse b).1) (e.rbytes (e.rparse b).1), keyEq (e.bytes (e.lift b odd).1) (e.rbytes (e.rlift b odd).1), keyEq (e.bytes e.base) (e.rbytes e.rbase)]
theorem lawEP_run (e : EOps) (b : K32) (odd : Bool) : runNL (X_same19 e) [] [0,1,2,4,5,6,7,8,9,10,11,12,39,40,41,44,45,46,47,48,51,52,53,54,55,58,59,60,61,62] 500 Try.f7 (bodyOf Try.f7) (laArgs [.v (keyV b), .v (.bool odd)] 0) (laLists [.v (keyV b), .v (.bool odd)]) = chB (epL e b odd) := by kernel_rfl
theorem ep_true {e : EOps} (H : EGood e) {b : K32} (hb : b.wf) (odd : Bool) : chB (epL e b odd) = some (.bool true, none) := by
  have hp : (e.parse b).2 = (e.rparse b).2 ∧ keyEq (e.bytes (e.parse b).1) (e.rbytes (e.rparse b).1) = true := by
    rcases H.parse hb with ⟨P, h1, h2, h3⟩ | ⟨h1, h2, h3⟩ <;> rcases H.rparse hb with ⟨Q, g1, g2, g3⟩ | ⟨g1, g2, g3⟩
    · have : P = Q := h1.inj g1
      subst this
      exact ⟨by rw [h2, g2], encK_same (H.bytes h3) (H.rbytes g3)⟩
    · exact absurd h1 (g1 P)
    · exact absurd g1 (h1 Q)
    · exact ⟨by rw [h2, g2], encK_same (H.bytes h3) (H.rbytes g3)⟩
  have hl : (e.lift b odd).2 = (e.rlift b odd).2 ∧ keyEq (e.bytes (e.lift b odd).1) (e.rbytes (e.rlift b odd).1) = true := by
    rcases H.lift odd hb with ⟨P, h1, h2, h3⟩ | ⟨h1, h2, h3⟩ <;> rcases H.rlift odd hb with ⟨Q, g1, g2, g3⟩ | ⟨g1, g2, g3⟩
    · have : P = Q := h1.pt.uniq g1.pt
      subst this
      exact ⟨by rw [h2, g2], encK_same (H.bytes h3) (H.rbytes g3)⟩
    · exact absurd h1 (g1 P)
    · exact absurd g1 (h1 Q)
    · exact ⟨by rw [h2, g2], encK_same (H.bytes h3) (H.rbytes g3)⟩
  refine chB_true fun c hc => ?_
  unfold epL at hc
  rw [hp.2, hl.2, encK_same (H.bytes H.base) (H.rbytes H.rbase), decide_eq_true hp.1, decide_eq_true hl.1] at hc
  simp only [List.mem_cons, List.not_mem_nil, or_false, or_self] at hc
  exact hc
noncomputable abbrev XLp : Cx := X_same19 concE
theorem XLp_ok : CxOK Try.prog XLp := X_same19_ok
set_option maxRecDepth 100000 in
theorem edwardsParses_lifted (os : Os) (started : os.Started) (H : Type) (enc : TypeId × Value → H) :
    ReturnsInHanded {} Try.checked os 7 .any (Rows.edwardsParsesSpec.pre6 enc Try.prog Try.f7 Rows.edwardsParsesRow.domain false) (Rows.edwardsParsesSpec.post enc Try.prog Try.f7 false true false false) := by
  refine law_lifted (C := Try.checked) (tb := 4) (by kernel_rfl) started (by kernel_rfl) Try.func7
    (ChangeSpec.witness6 (enc := enc) (C := Try.checked) false ⟨#[], #[.agg #[.int .u8 0, .int .u8 0, .int .u8 0, .int .u8 0, .int .u8 0, .int .u8 0, .int .u8 0, .int .u8 0, .int .u8 0, .int .u8 0, .int .u8 0, .int .u8 0, .int .u8 0, .int .u8 0, .int .u8 0, .int .u8 0, .int .u8 0, .int .u8 0, .int .u8 0, .int .u8 0, .int .u8 0, .int .u8 0, .int .u8 0, .int .u8 0, .int .u8 0, .int .u8 0, .int .u8 0, .int .u8 0, .int .u8 0, .int .u8 0, .int .u8 0, .int .u8 0], .bool false], []⟩ 8 (by kernel_rfl) (by kernel_rfl) (by kernel_rfl) (by kernel_rfl)) rfl ?_ (by kernel_rfl) (by kernel_rfl) (by kernel_rfl) (by kernel_rfl) ?_
  · intro ds h
    match ds, h with | [d0, d1], _ => rfl
  · intro W base args ds p hval hsz hA hlt hw
    obtain ⟨args⟩ := args
    match args, hsz, hval with
    | [a0, a1], hsz, hval =>
      obtain ⟨b, wb, rb⟩ := argKey (t := 23) (by kernel_rfl) (hval 0 _ a0 (by kernel_rfl) rfl)
      obtain ⟨odd, rodd⟩ := argBool (t := 4) (by kernel_rfl) (hval 1 _ a1 (by kernel_rfl) rfl)
      exact law_runN XLp_ok Try.func7 (by kernel_rfl) LoopsOK.nil ((lawEP_run concE b odd).trans (ep_true concEG wb odd)) (NSt.empty W) (.cons _ _ _ _ (rb _) (.cons _ _ _ _ (rodd _) .nil))
theorem edwardsParses_facts : joinedFacts Try.pinned.checked.prog 7 Try.f7 Rows.edwardsParsesSpec Rows.edwardsParsesRow = true := by
  show joinedFacts Try.prog 7 Try.f7 Rows.edwardsParsesSpec Rows.edwardsParsesRow = true
  unfold joinedFacts
  rw [liftsF, heardF, enterF, makeF]
  kernel_rfl
theorem edwardsParses_holds : Rows.EdwardsParsesSaid :=
  OpenClaim.holds_of_wide 7 Try.f7 rfl rfl rfl rfl rfl rfl rfl ⟨rfl, rfl, rfl, rfl, rfl⟩ rfl rfl rfl rfl rfl (by kernel_rfl) Try.func7 edwardsParses_facts
    (of_decide_eq_true (by kernel_rfl)) (by unfold Func.isWrapper; first | (rw [if_pos (by decide +kernel)]; kernel_rfl) | (rw [if_neg (by decide +kernel)]; exact ⟨rfl, rfl⟩))
    (fun os started H enc _ => edwardsParses_lifted os started H enc)
#print axioms edwardsParses_holds
end Go.Proofs.Ytnnjaijokiknkaa

