/- The law EdwardsGroup: the points are a group: it answers true for every input. No conditions. -/
import Derived.Test.YtnnjaijokiknkaaPh
namespace Go.Proofs.Ytnnjaijokiknkaa
open Go Pw Go.RowKit
def sm (e : EOps) (p q : Rungs) : Bool := allId (sameL19 e p q)
def egA (e : EOps) (p q r : Rungs) : List Bool := [!sm e (e.padd p q) (e.padd q p), !sm e (e.padd (e.padd p q) r) (e.padd p (e.padd q r)), !sm e (e.padd p zeroP) p]
def egB (e : EOps) (p q : Rungs) : List Bool := [e.isn (e.padd p (e.pneg p)), sm e (e.psub p q) (e.padd p (e.pneg q)), sm e (e.dbl p) (e.padd p p), sm e (e.padd (e.psub p q) q) p]
noncomputable def egT (e : EOps) (p q r : Rungs) : Option (AV × Option Blk) := brn (!allId (livesL19 e)) noB (orB (egA e p q r) noB (chB (egB e p q)))
theorem lawEG_run (e : EOps) (a b c : K32) : runNL (X_same19 e) [] [0,1,2,3,4,5,6,7,9,11,13,15,41,42,43,44,45,46,47,48,49,50,51,52,55,56,57,58,59,60,61,68,69,70,71,72,73,74,75,78,79,80,81,82,83,86,87,88,89,90,91,92] 500 Try.f9 (bodyOf Try.f9) (laArgs [.v (keyV a), .v (keyV b), .v (keyV c)] 0) (laLists [.v (keyV a), .v (keyV b), .v (keyV c)]) = egT e (e.parse a).1 (e.parse b).1 (e.parse c).1 := by kernel_rfl
theorem EGood.any {e : EOps} (H : EGood e) {k : K32} (hk : k.wf) : ∃ P, PO (e.parse k).1 P := by
  rcases H.parse hk with ⟨P, -, -, h⟩ | ⟨-, -, h⟩
  · exact ⟨P, h⟩
  · exact ⟨_, h⟩
theorem eg_true {e : EOps} (H : EGood e) {a b c : K32} (ha : a.wf) (hb : b.wf) (hc : c.wf) : egT e (e.parse a).1 (e.parse b).1 (e.parse c).1 = some (.bool true, none) := by
  obtain ⟨P, p⟩ := H.any ha
  obtain ⟨Q, q⟩ := H.any hb
  obtain ⟨R, r⟩ := H.any hc
  generalize (e.parse a).1 = x at *
  generalize (e.parse b).1 = y at *
  generalize (e.parse c).1 = z at *
  have s : ∀ {u v : Rungs} {U V : EPt}, PO u U → PO v V → U = V → sm e u v = true := fun hu hv h => by
    unfold sm
    rw [H.same hu hv, decide_eq_true h]
  unfold egT
  rw [H.lives]
  show orB (egA e x y z) noB (chB (egB e x y)) = _
  have pq := H.padd p q
  have a1 := s pq (H.padd q p) (EP.add_comm P Q)
  have a2 := s (H.padd pq r) (H.padd p (H.padd q r)) (EP.add_assoc P Q R)
  have a3 := s (H.padd p PO.zero) p (EP.add_zero P)
  have b1 : e.isn (e.padd x (e.pneg x)) = true := by rw [H.isn (H.padd p (H.pneg p))]; exact decide_eq_true (EP.add_neg P)
  have b2 := s (H.psub p q) (H.padd p (H.pneg q)) rfl
  have b3 := s (H.dbl p) (H.padd p p) rfl
  have b4 := s (H.padd (H.psub p q) q) p (by rw [EP.add_assoc, EP.neg_add, EP.add_zero])
  rw [orB_false]
  · refine chB_true fun c hc => ?_
    unfold egB at hc
    rw [b1, b2, b3, b4] at hc
    simp only [List.mem_cons, List.not_mem_nil, or_false, or_self] at hc
    exact hc
  · intro c hc
    unfold egA at hc
    rw [a1, a2, a3] at hc
    simp only [List.mem_cons, List.not_mem_nil, or_false, or_self] at hc
    exact hc
noncomputable abbrev XLg : Cx := X_same19 concE
theorem XLg_ok : CxOK Try.prog XLg := X_same19_ok
set_option maxRecDepth 100000 in
theorem edwardsGroup_lifted (os : Os) (started : os.Started) (H : Type) (enc : TypeId × Value → H) :
    ReturnsInHanded {} Try.checked os 9 .any (Rows.edwardsGroupSpec.pre6 enc Try.prog Try.f9 Rows.edwardsGroupRow.domain false) (Rows.edwardsGroupSpec.post enc Try.prog Try.f9 false true false false) := by
  refine law_lifted (C := Try.checked) (tb := 4) (by kernel_rfl) started (by kernel_rfl) Try.func9
    (ChangeSpec.witness6 (enc := enc) (C := Try.checked) false ⟨#[], #[.agg #[.int .u8 0, .int .u8 0, .int .u8 0, .int .u8 0, .int .u8 0, .int .u8 0, .int .u8 0, .int .u8 0, .int .u8 0, .int .u8 0, .int .u8 0, .int .u8 0, .int .u8 0, .int .u8 0, .int .u8 0, .int .u8 0, .int .u8 0, .int .u8 0, .int .u8 0, .int .u8 0, .int .u8 0, .int .u8 0, .int .u8 0, .int .u8 0, .int .u8 0, .int .u8 0, .int .u8 0, .int .u8 0, .int .u8 0, .int .u8 0, .int .u8 0, .int .u8 0], .agg #[.int .u8 0, .int .u8 0, .int .u8 0, .int .u8 0, .int .u8 0, .int .u8 0, .int .u8 0, .int .u8 0, .int .u8 0, .int .u8 0, .int .u8 0, .int .u8 0, .int .u8 0, .int .u8 0, .int .u8 0, .int .u8 0, .int .u8 0, .int .u8 0, .int .u8 0, .int .u8 0, .int .u8 0, .int .u8 0, .int .u8 0, .int .u8 0, .int .u8 0, .int .u8 0, .int .u8 0, .int .u8 0, .int .u8 0, .int .u8 0, .int .u8 0, .int .u8 0], .agg #[.int .u8 0, .int .u8 0, .int .u8 0, .int .u8 0, .int .u8 0, .int .u8 0, .int .u8 0, .int .u8 0, .int .u8 0, .int .u8 0, .int .u8 0, .int .u8 0, .int .u8 0, .int .u8 0, .int .u8 0, .int .u8 0, .int .u8 0, .int .u8 0, .int .u8 0, .int .u8 0, .int .u8 0, .int .u8 0, .int .u8 0, .int .u8 0, .int .u8 0, .int .u8 0, .int .u8 0, .int .u8 0, .int .u8 0, .int .u8 0, .int .u8 0, .int .u8 0]], []⟩ 8 (by kernel_rfl) (by kernel_rfl) (by kernel_rfl) (by kernel_rfl)) rfl ?_ (by kernel_rfl) (by kernel_rfl) (by kernel_rfl) (by kernel_rfl) ?_
  · intro ds h
    match ds, h with | [d0, d1, d2], _ => rfl
  · intro W base args ds p hval hsz hA hlt hw
    obtain ⟨args⟩ := args
    match args, hsz, hval with
    | [a0, a1, a2], hsz, hval =>
      obtain ⟨a, wa, ra⟩ := argKey (t := 23) (by kernel_rfl) (hval 0 _ a0 (by kernel_rfl) rfl)
      obtain ⟨b, wb, rb⟩ := argKey (t := 23) (by kernel_rfl) (hval 1 _ a1 (by kernel_rfl) rfl)
      obtain ⟨c, wc, rc⟩ := argKey (t := 23) (by kernel_rfl) (hval 2 _ a2 (by kernel_rfl) rfl)
      exact law_runN XLg_ok Try.func9 (by kernel_rfl) LoopsOK.nil ((lawEG_run concE a b c).trans (eg_true concEG wa wb wc)) (NSt.empty W) (.cons _ _ _ _ (ra _) (.cons _ _ _ _ (rb _) (.cons _ _ _ _ (rc _) .nil)))
theorem edwardsGroup_facts : joinedFacts Try.pinned.checked.prog 9 Try.f9 Rows.edwardsGroupSpec Rows.edwardsGroupRow = true := by
  show joinedFacts Try.prog 9 Try.f9 Rows.edwardsGroupSpec Rows.edwardsGroupRow = true
  unfold joinedFacts
  rw [liftsF, heardF, enterF, makeF]
  kernel_rfl
theorem edwardsGroup_holds : Rows.EdwardsGroupSaid :=
  OpenClaim.holds_of_wide 9 Try.f9 rfl rfl rfl rfl rfl rfl rfl ⟨rfl, rfl, rfl, rfl, rfl⟩ rfl rfl rfl rfl rfl (by kernel_rfl) Try.func9 edwardsGroup_facts
    (of_decide_eq_true (by kernel_rfl)) (by unfold Func.isWrapper; first | (rw [if_pos (by decide +kernel)]; kernel_rfl) | (rw [if_neg (by decide +kernel)]; exact ⟨rfl, rfl⟩))
    (fun os started H enc _ => edwardsGroup_lifted os started H enc)
#print axioms edwardsGroup_holds
end Go.Proofs.Ytnnjaijokiknkaa

