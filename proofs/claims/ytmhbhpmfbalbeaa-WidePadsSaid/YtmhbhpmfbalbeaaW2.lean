/- The law WidePads: Pad is the document's, and each time new memory: it answers true for every input. No conditions. -/
import Derived.Test.YtmhbhpmfbalbeaaFt
import Derived.Test.YtmhbhpmfbalbeaaWr
namespace Go.Proofs.Ytmhbhpmfbalbeaa
open Go Pw Go.RowKit Go.ChangeShapes
def wpT (n : Nat) : Option (AV × Option Blk) :=
  let a := decide (0 + (padL n).length ≤ (padL n).length)
  let c := c_sameL [LA.l (List.take (padL n).length (List.drop 0 (padL n))), LA.l (List.take (padL n).length (List.drop 0 (padL n)))]
  gds [a, a, c, a, a, c, decide ((padL n).length ≤ (padL n).length ∧ (padL n).length + 90 ≤ maxRoom), a, a, c, a, a, c] (some (.bool true, none))
theorem lawWP_run (o : SOps) (n : Nat) : runNL (X_full o) [] [0,2,3,4,5,17,18,19,20,21,28,29,30,31] 100 Try.f3 (bodyOf Try.f3) (laArgs [.v (.u .u64 n)] 0) (laLists [.v (.u .u64 n)]) = wpT n := by kernel_rfl
theorem wpT_true (n : Nat) : wpT n = some (.bool true, none) := by
  have hz : padZ n < 128 := Nat.mod_lt _ (by decide)
  have hl := padL_len n
  have ha : decide (0 + (padL n).length ≤ (padL n).length) = true := decide_eq_true (by omega)
  have hc : c_sameL [LA.l (List.take (padL n).length (List.drop 0 (padL n))), LA.l (List.take (padL n).length (List.drop 0 (padL n)))] = true :=
    decide_eq_true (by rw [List.drop_zero, List.take_length]; exact ⟨rfl, by omega⟩)
  unfold wpT
  rw [ha, hc, decide_eq_true (by unfold maxRoom; omega)]
  rfl
noncomputable abbrev XP : Cx := X_full concS
theorem XP_ok : CxOK Try.prog XP := X_full_ok
set_option maxRecDepth 100000 in
theorem widePads_lifted (os : Os) (started : os.Started) (H : Type) (enc : TypeId × Value → H) :
    ReturnsInHanded {} Try.checked os 3 .any (Rows.widePadsSpec.pre6 enc Try.prog Try.f3 Rows.widePadsRow.domain false) (Rows.widePadsSpec.post enc Try.prog Try.f3 false true false false) := by
  refine law_lifted (C := Try.checked) (tb := 4) (by kernel_rfl) started (by kernel_rfl) Try.func3
    (ChangeSpec.witness6 (enc := enc) (C := Try.checked) false ⟨#[], #[.int .u64 0], []⟩ 8 (by kernel_rfl) (by kernel_rfl) (by kernel_rfl) (by kernel_rfl)) rfl ?_ (by kernel_rfl) (by kernel_rfl) (by kernel_rfl) (by kernel_rfl) ?_
  · intro ds h
    match ds, h with | [d0], _ => rfl
  · intro W base args ds p hval hsz hA hlt hw
    obtain ⟨args⟩ := args
    match args, hsz, hval with
    | [a0], hsz, hval =>
      obtain ⟨n, wn, rn⟩ := argU (k := .u64) (t := 22) (d := .int .u64) (by kernel_rfl) (by kernel_rfl) rfl (hval 0 _ a0 (by kernel_rfl) rfl)
      exact law_runN XP_ok Try.func3 (by kernel_rfl) LoopsOK.nil ((lawWP_run concS n).trans (wpT_true n)) (NSt.empty W) (.cons _ _ _ _ (rn _) .nil)
theorem widePads_facts : joinedFacts Try.pinned.checked.prog 3 Try.f3 Rows.widePadsSpec Rows.widePadsRow = true := by
  show joinedFacts Try.prog 3 Try.f3 Rows.widePadsSpec Rows.widePadsRow = true
  unfold joinedFacts
  rw [liftsF, heardF, enterF, makeF]
  kernel_rfl
theorem widePads_holds : Rows.WidePadsSaid :=
  OpenClaim.holds_of_wide 3 Try.f3 rfl rfl rfl rfl rfl rfl rfl ⟨rfl, rfl, rfl, rfl, rfl⟩ rfl rfl rfl rfl rfl (by kernel_rfl) Try.func3 widePads_facts
    (of_decide_eq_true (by kernel_rfl)) (by unfold Func.isWrapper; first | (rw [if_pos (by decide +kernel)]; kernel_rfl) | (rw [if_neg (by decide +kernel)]; exact ⟨rfl, rfl⟩))
    (fun os started H enc _ => widePads_lifted os started H enc)
#print axioms widePads_holds
end Go.Proofs.Ytmhbhpmfbalbeaa

