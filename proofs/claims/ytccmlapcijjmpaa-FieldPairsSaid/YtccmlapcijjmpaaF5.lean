/- The law FieldPairs: sum, difference, product, opposite, square, Swap and the questions are the document's: it answers true for every input. No conditions. -/
import Derived.Test.YtccmlapcijjmpaaFt
import Derived.Test.YtccmlapcijjmpaaFg
namespace Go.Proofs.Ytccmlapcijjmpaa
open Go Pw Go.RowKit

def fpL1 (a b : L5) (x y : L4) : List Bool := [!(keyEq (bytesS (addS a b)) (bytesR4 (addR x y))), !(keyEq (bytesS (subS a b)) (bytesR4 (subR x y))), !(keyEq (bytesS (mulS a b)) (bytesR4 (mulR x y)))]
def fpL2 (a : L5) (x : L4) : List Bool := [!(keyEq (bytesS (negS a)) (bytesR4 (negR x))), !(keyEq (bytesS (sqS a)) (bytesR4 (mulR x x)))]
def fpT (a b : L5) (x y : L4) (c : Bool) : Option AV := orF (fpL1 a b x y) (some (.bool false)) (orF (fpL2 a x) (some (.bool false)) (andR [askedS a b x y, askedS (bif c then b else a) (bif c then a else b) (bif c then y else x) (bif c then x else y)]))
def fpO1 (o : FOps) (a b : L5) (x y : L4) : List Bool := [!(keyEq (o.bytes (o.add a b)) (o.rbytes (o.radd x y))), !(keyEq (o.bytes (o.sub a b)) (o.rbytes (o.rsub x y))), !(keyEq (o.bytes (o.mul a b)) (o.rbytes (o.rmul x y)))]
def fpO2 (o : FOps) (a : L5) (x : L4) : List Bool := [!(keyEq (o.bytes (o.neg a)) (o.rbytes (o.rneg x))), !(keyEq (o.bytes (o.sq a)) (o.rbytes (o.rsq x)))]
def fpTo (o : FOps) (a b : L5) (x y : L4) (c : Bool) : Option AV := orF (fpO1 o a b x y) (some (.bool false)) (orF (fpO2 o a x) (some (.bool false)) (andR [o.asked a b x y, o.asked (bif c then b else a) (bif c then a else b) (bif c then y else x) (bif c then x else y)]))
theorem fpTo_conc (a b : L5) (x y : L4) (c : Bool) : fpTo concFOps a b x y c = fpT a b x y c := rfl
theorem lawFP_run (o : FOps) (p : K32) (q : K32) (c : Bool) : runQ (XFOps o) [0,1,2,3,4,6,7,8,9,10,11,12,13,14,33,34,35,36,37,38,39,40,41,44,45,46,47,48,49,50,51,52,53,62,63,64,65,66,67,68,69,90,91,92,93,94] 100 Try.f8 (bodyOf Try.f8) [keyV p, keyV q, .bool c] = fpTo o (o.frm p) (o.frm q) (o.rfrm p) (o.rfrm q) c := by
  kernel_rfl
theorem fpT_true {a b : L5} {x y : L4} {c : Bool} (h : Sim a x) (h' : Sim b y) : fpT a b x y c = some (.bool true) := by
  unfold fpT fpL1 fpL2
  rw [(h.add h').key, (h.sub h').key, (h.mul h').key, h.neg.key, h.sq.key, asked_true h h', asked_true (h'.ite h) (h.ite h')]
  rfl
set_option maxRecDepth 100000 in
theorem fieldPairs_lifted (os : Os) (started : os.Started) (H : Type) (enc : TypeId × Value → H) :
    ReturnsInHanded {} Try.checked os 8 .any (Rows.fieldPairsSpec.pre6 enc Try.prog Try.f8 Rows.fieldPairsRow.domain false) (Rows.fieldPairsSpec.post enc Try.prog Try.f8 false true false false) := by
  refine law_lifted (C := Try.checked) (tb := 4) (by kernel_rfl) started (by kernel_rfl) Try.func8
    (ChangeSpec.witness6 (enc := enc) (C := Try.checked) false ⟨#[], #[.agg #[.int .u8 0, .int .u8 0, .int .u8 0, .int .u8 0, .int .u8 0, .int .u8 0, .int .u8 0, .int .u8 0, .int .u8 0, .int .u8 0, .int .u8 0, .int .u8 0, .int .u8 0, .int .u8 0, .int .u8 0, .int .u8 0, .int .u8 0, .int .u8 0, .int .u8 0, .int .u8 0, .int .u8 0, .int .u8 0, .int .u8 0, .int .u8 0, .int .u8 0, .int .u8 0, .int .u8 0, .int .u8 0, .int .u8 0, .int .u8 0, .int .u8 0, .int .u8 0], .agg #[.int .u8 0, .int .u8 0, .int .u8 0, .int .u8 0, .int .u8 0, .int .u8 0, .int .u8 0, .int .u8 0, .int .u8 0, .int .u8 0, .int .u8 0, .int .u8 0, .int .u8 0, .int .u8 0, .int .u8 0, .int .u8 0, .int .u8 0, .int .u8 0, .int .u8 0, .int .u8 0, .int .u8 0, .int .u8 0, .int .u8 0, .int .u8 0, .int .u8 0, .int .u8 0, .int .u8 0, .int .u8 0, .int .u8 0, .int .u8 0, .int .u8 0, .int .u8 0], .bool false], []⟩ 8 (by kernel_rfl) (by kernel_rfl) (by kernel_rfl) (by kernel_rfl)) rfl ?_ (by kernel_rfl) (by kernel_rfl) (by kernel_rfl) (by kernel_rfl) ?_
  · intro ds h
    match ds, h with | [d0, d1, d2], _ => rfl
  · intro W base args ds p hval hsz hA hlt hw
    obtain ⟨args⟩ := args
    match args, hsz, hval with
    | [a0, a1, a2], hsz, hval =>
      obtain ⟨p, wp, rp⟩ := argKey (t := 23) (by kernel_rfl) (hval 0 _ a0 (by kernel_rfl) rfl)
      obtain ⟨q, wq, rq⟩ := argKey (t := 23) (by kernel_rfl) (hval 1 _ a1 (by kernel_rfl) rfl)
      obtain ⟨c, rc⟩ := argBool (t := 4) (by kernel_rfl) (hval 2 _ a2 (by kernel_rfl) rfl)
      exact law_run XFOpsc_ok Try.func8 (by kernel_rfl) ((lawFP_run concFOps p q c).trans ((fpTo_conc _ _ _ _ _).trans (fpT_true (Sim.from wp) (Sim.from wq)))) (.cons _ _ _ _ (rp _) (.cons _ _ _ _ (rq _) (.cons _ _ _ _ (rc _) .nil)))
theorem fieldPairs_facts : joinedFacts Try.pinned.checked.prog 8 Try.f8 Rows.fieldPairsSpec Rows.fieldPairsRow = true := by
  show joinedFacts Try.prog 8 Try.f8 Rows.fieldPairsSpec Rows.fieldPairsRow = true
  unfold joinedFacts
  rw [liftsF, heardF, enterF, makeF]
  kernel_rfl
theorem fieldPairs_holds : Rows.FieldPairsSaid :=
  OpenClaim.holds_of_wide 8 Try.f8 rfl rfl rfl rfl rfl rfl rfl ⟨rfl, rfl, rfl, rfl, rfl⟩ rfl rfl rfl rfl rfl (by kernel_rfl) Try.func8 fieldPairs_facts
    (of_decide_eq_true (by kernel_rfl)) (by unfold Func.isWrapper; first | (rw [if_pos (by decide +kernel)]; kernel_rfl) | (rw [if_neg (by decide +kernel)]; exact ⟨rfl, rfl⟩))
    (fun os started H enc _ => fieldPairs_lifted os started H enc)
#print axioms fieldPairs_holds
end Go.Proofs.Ytccmlapcijjmpaa

