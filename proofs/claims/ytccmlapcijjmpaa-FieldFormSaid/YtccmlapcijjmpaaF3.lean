/- The law FieldForm: a number has one form: it answers true for every input. No conditions. -/
import Derived.Test.YtccmlapcijjmpaaFt
import Derived.Test.YtccmlapcijjmpaaFg
namespace Go.Proofs.Ytccmlapcijjmpaa
open Go Pw Go.RowKit

def foA (p q : K32) : L5 := subS (mulS (fromS p) (fromS q)) (fromS q)
def foL (p q : K32) : List Bool := [livesS p, livesS q, sameS (fromS (bytesS (foA p q))) (foA p q), keyEq (belowS (bytesS (foA p q))) (bytesS (foA p q)), oddS (foA p q) == decide ((bytesS (foA p q)).b0 % 2 = 1)]
def foAo (o : FOps) (p q : K32) : L5 := o.sub (o.mul (o.frm p) (o.frm q)) (o.frm q)
def foLo (o : FOps) (p q : K32) : List Bool := [o.lives p, o.lives q, o.same (o.frm (o.bytes (foAo o p q))) (foAo o p q), keyEq (o.below (o.bytes (foAo o p q))) (o.bytes (foAo o p q)), o.odd (foAo o p q) == decide ((o.bytes (foAo o p q)).b0 % 2 = 1)]
theorem lawFO_run (o : FOps) (p : K32) (q : K32) : runQ (XFOps o) [0,1,2,3,4,5,17,18,21,22,23,24,25,28,29,30,31,32,33,36,37,38,39,40,41,42,43] 100 Try.f5 (bodyOf Try.f5) [keyV p, keyV q] = andR (foLo o p q) := by
  kernel_rfl
theorem b0_parity (k : K32) : leVal k % 2 = k.b0 % 2 := by
  show leL k.toList % 2 = _
  simp only [leL, K32.toList]
  omega
theorem lawFO_true {p q : K32} (hp : p.wf) (hq : q.wf) : andR (foL p q) = some (.bool true) := by
  have hok : ok5 (foA p q) := sub_ok (mul_ok (from_ok hp) (from_ok hq)) (from_ok hq)
  have h1 : sameS (fromS (bytesS (foA p q))) (foA p q) = true := same_true (from_ok (bytesS_wf _)) hok (from_bytes_fv hok)
  have h2 : keyEq (belowS (bytesS (foA p q))) (bytesS (foA p q)) = true := by
    rw [key_eq_iff (below_val32 (bytesS_wf _)).1 (bytesS_wf _), (below_val32 (bytesS_wf _)).2, bytes_lt hok, leVal_bytes hok]
    exact decide_eq_true (Nat.mod_mod _ _)
  have h3 : (oddS (foA p q) == decide ((bytesS (foA p q)).b0 % 2 = 1)) = true := by
    rw [oddS_eq hok.wf, ← b0_parity, leVal_bytes hok]
    exact beq_self_eq_true _
  refine andR_true ?_
  unfold foL
  rw [h1, h2, h3, lives_true hp, lives_true hq]
  simp
theorem foLo_conc (p q : K32) : foLo concFOps p q = foL p q := rfl
set_option maxRecDepth 100000 in
theorem fieldForm_lifted (os : Os) (started : os.Started) (H : Type) (enc : TypeId × Value → H) :
    ReturnsInHanded {} Try.checked os 5 .any (Rows.fieldFormSpec.pre6 enc Try.prog Try.f5 Rows.fieldFormRow.domain false) (Rows.fieldFormSpec.post enc Try.prog Try.f5 false true false false) := by
  refine law_lifted (C := Try.checked) (tb := 4) (by kernel_rfl) started (by kernel_rfl) Try.func5
    (ChangeSpec.witness6 (enc := enc) (C := Try.checked) false ⟨#[], #[.agg #[.int .u8 0, .int .u8 0, .int .u8 0, .int .u8 0, .int .u8 0, .int .u8 0, .int .u8 0, .int .u8 0, .int .u8 0, .int .u8 0, .int .u8 0, .int .u8 0, .int .u8 0, .int .u8 0, .int .u8 0, .int .u8 0, .int .u8 0, .int .u8 0, .int .u8 0, .int .u8 0, .int .u8 0, .int .u8 0, .int .u8 0, .int .u8 0, .int .u8 0, .int .u8 0, .int .u8 0, .int .u8 0, .int .u8 0, .int .u8 0, .int .u8 0, .int .u8 0], .agg #[.int .u8 0, .int .u8 0, .int .u8 0, .int .u8 0, .int .u8 0, .int .u8 0, .int .u8 0, .int .u8 0, .int .u8 0, .int .u8 0, .int .u8 0, .int .u8 0, .int .u8 0, .int .u8 0, .int .u8 0, .int .u8 0, .int .u8 0, .int .u8 0, .int .u8 0, .int .u8 0, .int .u8 0, .int .u8 0, .int .u8 0, .int .u8 0, .int .u8 0, .int .u8 0, .int .u8 0, .int .u8 0, .int .u8 0, .int .u8 0, .int .u8 0, .int .u8 0]], []⟩ 8 (by kernel_rfl) (by kernel_rfl) (by kernel_rfl) (by kernel_rfl)) rfl ?_ (by kernel_rfl) (by kernel_rfl) (by kernel_rfl) (by kernel_rfl) ?_
  · intro ds h
    match ds, h with | [d0, d1], _ => rfl
  · intro W base args ds p hval hsz hA hlt hw
    obtain ⟨args⟩ := args
    match args, hsz, hval with
    | [a0, a1], hsz, hval =>
      obtain ⟨p, wp, rp⟩ := argKey (t := 23) (by kernel_rfl) (hval 0 _ a0 (by kernel_rfl) rfl)
      obtain ⟨q, wq, rq⟩ := argKey (t := 23) (by kernel_rfl) (hval 1 _ a1 (by kernel_rfl) rfl)
      exact law_run XFOpsc_ok Try.func5 (by kernel_rfl) ((lawFO_run concFOps p q).trans (by rw [foLo_conc]; exact lawFO_true wp wq)) (.cons _ _ _ _ (rp _) (.cons _ _ _ _ (rq _) .nil))
theorem fieldForm_facts : joinedFacts Try.pinned.checked.prog 5 Try.f5 Rows.fieldFormSpec Rows.fieldFormRow = true := by
  show joinedFacts Try.prog 5 Try.f5 Rows.fieldFormSpec Rows.fieldFormRow = true
  unfold joinedFacts
  rw [liftsF, heardF, enterF, makeF]
  kernel_rfl
theorem fieldForm_holds : Rows.FieldFormSaid :=
  OpenClaim.holds_of_wide 5 Try.f5 rfl rfl rfl rfl rfl rfl rfl ⟨rfl, rfl, rfl, rfl, rfl⟩ rfl rfl rfl rfl rfl (by kernel_rfl) Try.func5 fieldForm_facts
    (of_decide_eq_true (by kernel_rfl)) (by unfold Func.isWrapper; first | (rw [if_pos (by decide +kernel)]; kernel_rfl) | (rw [if_neg (by decide +kernel)]; exact ⟨rfl, rfl⟩))
    (fun os started H enc _ => fieldForm_lifted os started H enc)
#print axioms fieldForm_holds

end Go.Proofs.Ytccmlapcijjmpaa

