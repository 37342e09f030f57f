/- The law FieldPowers: the same power by the program and by the document, the list that is lent as it was: it answers true for every input. No conditions. -/
import Derived.Test.YtccmlapcijjmpaaFj
import Derived.Test.YtccmlapcijjmpaaFt
import Derived.Test.YtccmlapcijjmpaaFf
import Derived.Test.YtccmlapcijjmpaaPwMd
namespace Go.Proofs.Ytccmlapcijjmpaa
open Go Pw Go.RowKit Go.ChangeShapes
theorem trod_get {H : Type} {enc : TypeId × Value → H} {P : Program} {W : World} : ∀ {ts : List TypeId} {vs : List Value} {ds : List (DataW H)} {p : List MemPlace}, DataW.TrodAll enc P W 0 (fun _ => true) true ts vs ds p →
    (DataW.weightsEach P ts ds).all (· ≤ reachBytes) = true → ∀ (i : Nat) (t : TypeId) (v : Value), ts[i]? = some t → vs[i]? = some v → ∃ d q, DataW.Trod enc P W 0 (fun _ => true) true t v d q ∧ (d.weights P t).all (· ≤ reachBytes) = true
  | [], _, _, _, _, _, _, _, _, h, _ => by simp at h
  | t :: ts, vs, ds, p, h, hw, i, t', v', h1, h2 => by
    obtain ⟨v, vs, d, ds, q, q', rfl, rfl, rfl, h3, h4⟩ := trodAll_cons h
    unfold DataW.weightsEach at hw
    rw [List.all_append, Bool.and_eq_true] at hw
    cases i with
    | zero =>
      simp only [List.getElem?_cons_zero, Option.some.injEq] at h1 h2
      subst h1
      subst h2
      exact ⟨d, q, h3, hw.1⟩
    | succ i => exact trod_get h4 hw.2 i t' v' (by simpa using h1) (by simpa using h2)
def fpwT (o : FOps) (p : K32) (b : List Nat) : Option (AV × Option Blk) :=
  bif decide (0 + b.length ≤ b.length) then (bif decide ((List.take b.length b).length + 32 ≤ 175921860444160) then (bif decide (0 + b.length ≤ b.length) then some (.bool (keyEq (o.bytes (powL o (o.frm p) (List.take b.length b))) (o.rbytes (rpowL o (o.rfrm p) (List.take b.length b)))), none) else none) else none) else none
theorem lawPW_run (o : FOps) (p : K32) (b : List Nat) : runNL (X_raisedL o) [] [0,1,2,4,5,6,16,17,18,19,20,21,22,23] 100 Try.f7 (bodyOf Try.f7) (laArgs [.v (keyV p), .l b] 0) (laLists [.v (keyV p), .l b]) = fpwT o p b := by kernel_rfl
theorem fpwT_true {p : K32} (hp : p.wf) {b : List Nat} (hb : ∀ x ∈ b, x < 256) (hl : b.length ≤ 140737488351232) : fpwT concFOps p b = some (.bool true, none) := by
  have e : keyEq (concFOps.bytes (powL concFOps (concFOps.frm p) b)) (concFOps.rbytes (rpowL concFOps (concFOps.rfrm p) b)) = keyEq (bytesS (powL concFOps (fromS p) b)) (bytesR4 (rpowL concFOps (fromR p) b)) := by kernel_rfl
  unfold fpwT
  rw [List.take_length, e, (sim_pow (Sim.from hp) hb).key, decide_eq_true (by omega), cond_true, decide_eq_true (by omega), cond_true, cond_true]
noncomputable abbrev XP : Cx := X_raisedL concFOps
theorem XP_ok : CxOK Try.prog XP := X_raisedL_ok
set_option maxRecDepth 100000 in
theorem fieldPowers_lifted (os : Os) (started : os.Started) (H : Type) (enc : TypeId × Value → H) :
    ReturnsInHanded {} Try.checked os 7 .any (Rows.fieldPowersSpec.pre6 enc Try.prog Try.f7 Rows.fieldPowersRow.domain false) (Rows.fieldPowersSpec.post enc Try.prog Try.f7 false true false false) := by
  refine law_lifted (C := Try.checked) (tb := 4) (by kernel_rfl) started (by kernel_rfl) Try.func7
    (ChangeSpec.witness6 (enc := enc) (C := Try.checked) false ⟨#[], #[.agg #[.int .u8 0, .int .u8 0, .int .u8 0, .int .u8 0, .int .u8 0, .int .u8 0, .int .u8 0, .int .u8 0, .int .u8 0, .int .u8 0, .int .u8 0, .int .u8 0, .int .u8 0, .int .u8 0, .int .u8 0, .int .u8 0, .int .u8 0, .int .u8 0, .int .u8 0, .int .u8 0, .int .u8 0, .int .u8 0, .int .u8 0, .int .u8 0, .int .u8 0, .int .u8 0, .int .u8 0, .int .u8 0, .int .u8 0, .int .u8 0, .int .u8 0, .int .u8 0], .slice none 0 0], []⟩ 8 (by kernel_rfl) (by kernel_rfl) (by kernel_rfl) (by kernel_rfl)) rfl ?_ (by kernel_rfl) (by kernel_rfl) (by kernel_rfl) (by kernel_rfl) ?_
  · intro ds h
    match ds, h with | [d0, d1], _ => rfl
  · intro W base args ds p hval hsz hA hlt hw
    obtain ⟨args⟩ := args
    match args, hsz, hval with
    | [a0, a1], hsz, hval =>
      have n0 := NSt.empty W
      obtain ⟨p, wp, rp⟩ := argKey (t := 23) (by kernel_rfl) (hval 0 _ a0 (by kernel_rfl) rfl)
      obtain ⟨_, _, tb, ub⟩ := trod_get hA hw 1 _ a1 (by kernel_rfl) rfl
      obtain ⟨b, wb, lb, fb⟩ := argBytes (t := 48) (by kernel_rfl) (hval 1 _ a1 (by kernel_rfl) rfl) tb ub
      obtain ⟨_, x1, n1, rb⟩ := n0.arg fb
      exact law_runN XP_ok Try.func7 (by kernel_rfl) LoopsOK.nil ((lawPW_run concFOps p b).trans (fpwT_true wp wb lb)) n1 (.cons _ _ _ _ (rp _) (.cons _ _ _ _ rb .nil))
theorem fieldPowers_facts : joinedFacts Try.pinned.checked.prog 7 Try.f7 Rows.fieldPowersSpec Rows.fieldPowersRow = true := by
  show joinedFacts Try.prog 7 Try.f7 Rows.fieldPowersSpec Rows.fieldPowersRow = true
  unfold joinedFacts
  rw [liftsF, heardF, enterF, makeF]
  kernel_rfl
theorem fieldPowers_holds : Rows.FieldPowersSaid :=
  OpenClaim.holds_of_wide 7 Try.f7 rfl rfl rfl rfl rfl rfl rfl ⟨rfl, rfl, rfl, rfl, rfl⟩ rfl rfl rfl rfl rfl (by kernel_rfl) Try.func7 fieldPowers_facts
    (of_decide_eq_true (by kernel_rfl)) (by unfold Func.isWrapper; first | (rw [if_pos (by decide +kernel)]; kernel_rfl) | (rw [if_neg (by decide +kernel)]; exact ⟨rfl, rfl⟩))
    (fun os started H enc _ => fieldPowers_lifted os started H enc)
#print axioms fieldPowers_holds
end Go.Proofs.Ytccmlapcijjmpaa

