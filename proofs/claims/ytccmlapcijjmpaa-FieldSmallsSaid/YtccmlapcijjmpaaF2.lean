/- The law FieldSmalls: Small and Times of any numbers are the document's: it answers true for every input. No conditions. -/
import Derived.Test.YtccmlapcijjmpaaRows
import Derived.Test.YtccmlapcijjmpaaFc
namespace Go.Proofs.Ytccmlapcijjmpaa
open Go Pw Go.RowKit

def fsL (n m : Nat) : List Bool := [keyEq (bytesS (smallS n)) (bytesR4 (smallR n)), keyEq (bytesS (timesS (smallS n) m)) (bytesR4 (timesR (smallR n) m))]
theorem lawFS_run (n : Nat) (m : Nat) : runQ X_askedL [0,1,4,5,6,17,18,19,20,21,22,23,24,25] 100 Try.f4 (bodyOf Try.f4) [.u .u64 n, .u .u32 m] = andR (fsL n m) := by
  kernel_rfl
set_option maxRecDepth 100000 in
theorem fieldSmalls_lifted (os : Os) (started : os.Started) (H : Type) (enc : TypeId × Value → H) :
    ReturnsInHanded {} Try.checked os 4 .any (Rows.fieldSmallsSpec.pre6 enc Try.prog Try.f4 Rows.fieldSmallsRow.domain false) (Rows.fieldSmallsSpec.post enc Try.prog Try.f4 false true false false) := by
  refine law_lifted (C := Try.checked) (tb := 4) (by kernel_rfl) started (by kernel_rfl) Try.func4
    (ChangeSpec.witness6 (enc := enc) (C := Try.checked) false ⟨#[], #[.int .u64 0, .int .u32 0], []⟩ 8 (by kernel_rfl) (by kernel_rfl) (by kernel_rfl) (by kernel_rfl)) rfl ?_ (by kernel_rfl) (by kernel_rfl) (by kernel_rfl) (by kernel_rfl) ?_
  · intro ds h
    match ds, h with | [d0, d1], _ => rfl
  · intro W base args ds p hval hsz hA hlt hw
    obtain ⟨args⟩ := args
    match args, hsz, hval with
    | [a0, a1], hsz, hval =>
      obtain ⟨n, wn, rn⟩ := argU (k := .u64) (t := 24) (d := .int .u64) (by kernel_rfl) (by kernel_rfl) rfl (hval 0 _ a0 (by kernel_rfl) rfl)
      obtain ⟨m, wm, rm⟩ := argU (k := .u32) (t := 35) (d := .int .u32) (by kernel_rfl) (by kernel_rfl) rfl (hval 1 _ a1 (by kernel_rfl) rfl)
      exact law_run X_askedL_ok Try.func4 (by kernel_rfl) ((lawFS_run n m).trans (andR_true (by unfold fsL; rw [(Sim.small wn).key, ((Sim.small wn).times wm).key]; simp))) (.cons _ _ _ _ (rn _) (.cons _ _ _ _ (rm _) .nil))
theorem fieldSmalls_holds : Rows.FieldSmallsSaid :=
  OpenClaim.holds_of_wide 4 Try.f4 rfl rfl rfl rfl rfl rfl rfl ⟨rfl, rfl, rfl, rfl, rfl⟩ rfl rfl rfl rfl rfl (by kernel_rfl) Try.func4 (by kernel_rfl)
    (of_decide_eq_true (by kernel_rfl)) (by unfold Func.isWrapper; first | (rw [if_pos (by decide +kernel)]; kernel_rfl) | (rw [if_neg (by decide +kernel)]; exact ⟨rfl, rfl⟩))
    (fun os started H enc _ => fieldSmalls_lifted os started H enc)
#print axioms fieldSmalls_holds

end Go.Proofs.Ytccmlapcijjmpaa

