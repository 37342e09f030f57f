/- The law FieldRoots: Root and Invert of any number are the document's: it answers true for every input. No conditions. -/
import Derived.Test.YtccmlapcijjmpaaFt
import Derived.Test.YtccmlapcijjmpaaFf
namespace Go.Proofs.Ytccmlapcijjmpaa
open Go Pw Go.RowKit

def frtL (o : FOps) (p : K32) : List Bool := [rootB o (o.frm p) == rrootB o (o.rfrm p), keyEq (o.bytes (rootO o (o.frm p))) (o.rbytes (rrootO o (o.rfrm p))), keyEq (o.bytes (invO o (o.frm p))) (o.rbytes (rinvO o (o.rfrm p)))]
theorem lawFRt_run (o : FOps) (p : K32) : runQ (X_halfLaw o) [0,1,2,3,4,5,6,7,8,27,28,29,30,31,34,35,36,37,38,39,40] 100 Try.f10 (bodyOf Try.f10) [keyV p] = andR (frtL o p) := by
  kernel_rfl
abbrev XH : Cx := X_halfLaw concFOps
theorem XH_ok : CxOK Try.prog XH := X_halfLaw_ok
theorem frtL_eq (p : K32) : frtL concFOps p = [rootB concFOps (fromS p) == rrootB concFOps (fromR p), keyEq (bytesS (rootO concFOps (fromS p))) (bytesR4 (rrootO concFOps (fromR p))), keyEq (bytesS (invO concFOps (fromS p))) (bytesR4 (rinvO concFOps (fromR p)))] := by kernel_rfl
theorem frt_true {p : K32} (hp : p.wf) : andR (frtL concFOps p) = some (.bool true) := by
  refine andR_true ?_
  rw [frtL_eq, (sim_root (Sim.from hp)).2, (sim_root (Sim.from hp)).1.key, (sim_inv (Sim.from hp)).key]
  generalize rrootB concFOps (fromR p) = c
  cases c <;> decide
set_option maxRecDepth 100000 in
theorem fieldRoots_lifted (os : Os) (started : os.Started) (H : Type) (enc : TypeId × Value → H) :
    ReturnsInHanded {} Try.checked os 10 .any (Rows.fieldRootsSpec.pre6 enc Try.prog Try.f10 Rows.fieldRootsRow.domain false) (Rows.fieldRootsSpec.post enc Try.prog Try.f10 false true false false) := by
  refine law_lifted (C := Try.checked) (tb := 4) (by kernel_rfl) started (by kernel_rfl) Try.func10
    (ChangeSpec.witness6 (enc := enc) (C := Try.checked) false ⟨#[], #[.agg #[.int .u8 0, .int .u8 0, .int .u8 0, .int .u8 0, .int .u8 0, .int .u8 0, .int .u8 0, .int .u8 0, .int .u8 0, .int .u8 0, .int .u8 0, .int .u8 0, .int .u8 0, .int .u8 0, .int .u8 0, .int .u8 0, .int .u8 0, .int .u8 0, .int .u8 0, .int .u8 0, .int .u8 0, .int .u8 0, .int .u8 0, .int .u8 0, .int .u8 0, .int .u8 0, .int .u8 0, .int .u8 0, .int .u8 0, .int .u8 0, .int .u8 0, .int .u8 0]], []⟩ 8 (by kernel_rfl) (by kernel_rfl) (by kernel_rfl) (by kernel_rfl)) rfl ?_ (by kernel_rfl) (by kernel_rfl) (by kernel_rfl) (by kernel_rfl) ?_
  · intro ds h
    match ds, h with | [d0], _ => rfl
  · intro W base args ds p hval hsz hA hlt hw
    obtain ⟨args⟩ := args
    match args, hsz, hval with
    | [a0], hsz, hval =>
      obtain ⟨p, wp, rp⟩ := argKey (t := 23) (by kernel_rfl) (hval 0 _ a0 (by kernel_rfl) rfl)
      exact law_run XH_ok Try.func10 (by kernel_rfl) ((lawFRt_run concFOps p).trans (frt_true wp)) (.cons _ _ _ _ (rp _) .nil)
theorem fieldRoots_facts : joinedFacts Try.pinned.checked.prog 10 Try.f10 Rows.fieldRootsSpec Rows.fieldRootsRow = true := by
  show joinedFacts Try.prog 10 Try.f10 Rows.fieldRootsSpec Rows.fieldRootsRow = true
  unfold joinedFacts
  rw [liftsF, heardF, enterF, makeF]
  kernel_rfl
theorem fieldRoots_holds : Rows.FieldRootsSaid :=
  OpenClaim.holds_of_wide 10 Try.f10 rfl rfl rfl rfl rfl rfl rfl ⟨rfl, rfl, rfl, rfl, rfl⟩ rfl rfl rfl rfl rfl (by kernel_rfl) Try.func10 fieldRoots_facts
    (of_decide_eq_true (by kernel_rfl)) (by unfold Func.isWrapper; first | (rw [if_pos (by decide +kernel)]; kernel_rfl) | (rw [if_neg (by decide +kernel)]; exact ⟨rfl, rfl⟩))
    (fun os started H enc _ => fieldRoots_lifted os started H enc)
#print axioms fieldRoots_holds
end Go.Proofs.Ytccmlapcijjmpaa

