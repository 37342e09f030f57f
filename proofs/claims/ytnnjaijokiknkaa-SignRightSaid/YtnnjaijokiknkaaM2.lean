/- The law SignRight: what was signed is taken: it answers true for every input. No conditions. -/
import Derived.Test.YtnnjaijokiknkaaSx
namespace Go.Proofs.Ytnnjaijokiknkaa
open Go Pw Go.RowKit
def srF (s : List Nat) : Int := bif is32 (tkL s.length s) then 0 else 3
noncomputable def srT (g : GOps) (s b : List Nat) : Option (AV × Option Blk) :=
  gds [decide (0 + s.length ≤ s.length), decide (0 + s.length ≤ s.length), decide (0 + b.length ≤ b.length), decide ((tkL b.length b).length + 512 ≤ maxRoom)]
   (brn (!decide ((s.length : Int) = 32))
    (brn (decide (srF s = 3)) (brn (decide (srF s = 3)) (brn (keyEq (pubV g (tkL s.length s)) zeroK) (some (.bool (eqW 64 (signV g (tkL s.length s) (tkL b.length b)) zero64), none)) noB) noB) noB)
    (brn (decide (srF s = 0)) (brn (decide (srF s = 0)) (gds [decide (0 + b.length ≤ b.length), decide ((tkL b.length b).length + 512 ≤ maxRoom)]
      (brn (decide (checkV g (pubV g (tkL s.length s)) (tkL b.length b) (resp 64 (signV g (tkL s.length s) (tkL b.length b))) = 0)) (some (.bool true, none)) noB)) noB) noB))
theorem lawSR_run (g : GOps) (s b : List Nat) : runNL (X_vectors20 g) [] [0,1,4,5,6,7,8,22,26,27,30,31,32,35,36,37,42,43,46,47,48,49,50,53] 500 Try.f16 (bodyOf Try.f16) (laArgs [.l s, .l b] 0) (laLists [.l s, .l b]) = srT g s b := by kernel_rfl
theorem sr_true {g : GOps} (H : GGood g) {s b : List Nat} (lb : b.length ≤ 140737488351232) : srT g s b = some (.bool true, none) := by
  have hm : maxRoom = 175921860444160 := rfl
  have hg : b.length + 512 ≤ maxRoom := by omega
  unfold srT srF
  rw [tkL_eq, tkL_eq, decide_eq_true hg, gds_true]
  · show brn (!is32 s) _ _ = _
    cases h : is32 s
    · have hp : pubV g s = zeroK := by unfold pubV; rw [h]; rfl
      have hv : signV g s b = zero64 := by unfold signV; rw [h]; rfl
      rw [hp, hv]
      rfl
    · rw [right_check H h, decide_eq_true (show 0 + b.length ≤ b.length by omega)]
      rfl
  · intro c hc
    simp only [List.mem_cons, List.not_mem_nil, or_false] at hc
    rcases hc with h | h | h | h
    all_goals first | exact h | (rw [h]; exact decide_eq_true (by omega))
noncomputable abbrev XM2 : Cx := X_vectors20 concGO
theorem XM2_ok : CxOK Try.prog XM2 := X_vectors20_ok
set_option maxRecDepth 100000 in
theorem signRight_lifted (os : Os) (started : os.Started) (H : Type) (enc : TypeId × Value → H) :
    ReturnsInHanded {} Try.checked os 16 .any (Rows.signRightSpec.pre6 enc Try.prog Try.f16 Rows.signRightRow.domain false) (Rows.signRightSpec.post enc Try.prog Try.f16 false true false false) := by
  refine law_lifted (C := Try.checked) (tb := 4) (by kernel_rfl) started (by kernel_rfl) Try.func16
    (ChangeSpec.witness6 (enc := enc) (C := Try.checked) false ⟨#[], #[.slice none 0 0, .slice none 0 0], []⟩ 8 (by kernel_rfl) (by kernel_rfl) (by kernel_rfl) (by kernel_rfl)) rfl ?_ (by kernel_rfl) (by kernel_rfl) (by kernel_rfl) (by kernel_rfl) ?_
  · intro ds h
    match ds, h with | [d0, d1], _ => rfl
  · intro W base args ds p hval hsz hA hlt hw
    obtain ⟨args⟩ := args
    match args, hsz, hval with
    | [a0, a1], hsz, hval =>
      have n0 := NSt.empty W
      obtain ⟨_, _, ts, us⟩ := trod_get hA hw 0 _ a0 (by kernel_rfl) rfl
      obtain ⟨s, ws, ls, fs⟩ := argBytes (t := 24) (by kernel_rfl) (hval 0 _ a0 (by kernel_rfl) rfl) ts us
      obtain ⟨_, x1, n1, rs⟩ := n0.arg fs
      obtain ⟨_, _, tb, ub⟩ := trod_get hA hw 1 _ a1 (by kernel_rfl) rfl
      obtain ⟨b, wb, lb, fb⟩ := argBytes (t := 24) (by kernel_rfl) (hval 1 _ a1 (by kernel_rfl) rfl) tb ub
      obtain ⟨_, x2, n2, rb⟩ := n1.arg fb
      exact law_runN XM2_ok Try.func16 (by kernel_rfl) LoopsOK.nil ((lawSR_run concGO s b).trans (sr_true concGG lb)) n2 (.cons _ _ _ _ (R.ext x2 rs) (.cons _ _ _ _ rb .nil))
theorem signRight_facts : joinedFacts Try.pinned.checked.prog 16 Try.f16 Rows.signRightSpec Rows.signRightRow = true := by
  show joinedFacts Try.prog 16 Try.f16 Rows.signRightSpec Rows.signRightRow = true
  unfold joinedFacts
  rw [liftsF, heardF, enterF, makeF]
  kernel_rfl
theorem signRight_holds : Rows.SignRightSaid :=
  OpenClaim.holds_of_wide 16 Try.f16 rfl rfl rfl rfl rfl rfl rfl ⟨rfl, rfl, rfl, rfl, rfl⟩ rfl rfl rfl rfl rfl (by kernel_rfl) Try.func16 signRight_facts
    (of_decide_eq_true (by kernel_rfl)) (by unfold Func.isWrapper; first | (rw [if_pos (by decide +kernel)]; kernel_rfl) | (rw [if_neg (by decide +kernel)]; exact ⟨rfl, rfl⟩))
    (fun os started H enc _ => signRight_lifted os started H enc)
#print axioms signRight_holds
end Go.Proofs.Ytnnjaijokiknkaa

