/- The law EdwardsScales: a multiple of a point is the document's, and the bytes handed in stay: it answers true for every input. No conditions. -/
import Derived.Test.YtnnjaijokiknkaaLw
namespace Go.Proofs.Ytnnjaijokiknkaa
open Go Pw Go.RowKit
def eC (k : List Nat) : List Nat := List.take k.length (List.drop 0 (k ++ marks 32))
def eA (k : List Nat) : List Nat := List.take (k.length + 32) (List.drop 0 (k ++ marks 32))
def eK (k : List Nat) : List Nat := List.take k.length (List.drop 0 k)
def eTwo : List Nat := List.take 1 (List.drop 0 [Int.toNat 2])
noncomputable def esT (e : EOps) (a : K32) (k : List Nat) : Option (AV × Option Blk) :=
  gds [decide (k.length = k.length ∧ k.length + 32 ≤ maxRoom), decide (0 + k.length ≤ (k ++ marks 32).length), decide ((eC k).length < 4611686018427387904), decide (0 + k.length ≤ k.length), decide ((eK k).length < 4611686018427387904)]
   (brn (keyEq (e.bytes (e.scale (e.parse a).1 (eC k))) (e.rbytes (e.rscale (e.rparse a).1 (eK k))))
    (gds [decide (0 + (k.length + 32) ≤ (k ++ marks 32).length), decide (0 + k.length ≤ k.length), keptOk (eA k) (eK k)] (some (.bool (keyEq (e.bytes (e.scale e.base eTwo)) (e.rbytes (e.rdbl e.rbase))), none))) noB)
theorem lawES_run (e : EOps) (a : K32) (k : List Nat) : runNL (X_lent e) [] [0,1,2,4,5,7,9,10,11,38,39,40,43,44,45,46,47,48,49,50] 500 Try.f10 (bodyOf Try.f10) (laArgs [.v (keyV a), .l k] 0) (laLists [.v (keyV a), .l k]) = esT e a k := by kernel_rfl
theorem es_true {e : EOps} (H : EGood e) {a : K32} {k : List Nat} (ha : a.wf) (hk : ∀ c ∈ k, c < 256) (lk : k.length ≤ 140737488351232) : esT e a k = some (.bool true, none) := by
  have hm : maxRoom = 175921860444160 := rfl
  have hK : (k ++ marks 32).length = k.length + 32 := by rw [List.length_append, marks_len]
  have eq1 : eC k = k := by unfold eC; rw [List.drop_zero, List.take_left]
  have eq2 : eA k = k ++ marks 32 := by unfold eA; rw [List.drop_zero, ← hK, List.take_length]
  have eq3 : eK k = k := by unfold eK; rw [List.drop_zero, List.take_length]
  have h1 : keyEq (e.bytes (e.scale (e.parse a).1 k)) (e.rbytes (e.rscale (e.rparse a).1 k)) = true := by
    rcases H.parse ha with ⟨P, p1, -, p2⟩ | ⟨p1, -, p2⟩
    · rcases H.rparse ha with ⟨Q, q1, -, q2⟩ | ⟨q1, -, -⟩
      · have e1 : P = Q := p1.inj q1
        subst e1
        rw [encK_same (H.bytes (H.scale p2 hk)) (H.rbytes (H.rscale q2 hk))]
      · exact absurd p1 (q1 P)
    · rcases H.rparse ha with ⟨Q, q1, -, -⟩ | ⟨-, -, q2⟩
      · exact absurd q1 (p1 Q)
      · rw [encK_same (H.bytes (H.scale p2 hk)) (H.rbytes (H.rscale q2 hk))]
  have h2 : keyEq (e.bytes (e.scale e.base eTwo)) (e.rbytes (e.rdbl e.rbase)) = true := by
    have hb := H.scale (b := eTwo) H.base (by decide)
    rw [show leB eTwo = 2 from rfl, show (2 : Nat) = 1 + 1 from rfl, EP.mul_add, EP.mul_one] at hb
    rw [encK_same (H.bytes hb) (H.rbytes (H.rdbl H.rbase))]
  unfold esT
  rw [eq1, eq2, eq3, h1, h2, gds_true]
  · show gds _ _ = _
    rw [gds_true]
    intro c hc
    simp only [List.mem_cons, List.not_mem_nil, or_false] at hc
    rcases hc with h | h | h
    · rw [h]; exact decide_eq_true (by omega)
    · rw [h]; exact decide_eq_true (by omega)
    · rw [h]; exact decide_eq_true ⟨rfl, by omega⟩
  · intro c hc
    simp only [List.mem_cons, List.not_mem_nil, or_false] at hc
    rcases hc with h | h | h | h | h
    · rw [h]; exact decide_eq_true ⟨trivial, by omega⟩
    all_goals (rw [h]; exact decide_eq_true (by omega))
noncomputable abbrev XLx : Cx := X_lent concE
theorem XLx_ok : CxOK Try.prog XLx := X_lent_ok
set_option maxRecDepth 100000 in
theorem edwardsScales_lifted (os : Os) (started : os.Started) (H : Type) (enc : TypeId × Value → H) :
    ReturnsInHanded {} Try.checked os 10 .any (Rows.edwardsScalesSpec.pre6 enc Try.prog Try.f10 Rows.edwardsScalesRow.domain false) (Rows.edwardsScalesSpec.post enc Try.prog Try.f10 false true false false) := by
  refine law_lifted (C := Try.checked) (tb := 4) (by kernel_rfl) started (by kernel_rfl) Try.func10
    (ChangeSpec.witness6 (enc := enc) (C := Try.checked) false ⟨#[], #[.agg #[.int .u8 0, .int .u8 0, .int .u8 0, .int .u8 0, .int .u8 0, .int .u8 0, .int .u8 0, .int .u8 0, .int .u8 0, .int .u8 0, .int .u8 0, .int .u8 0, .int .u8 0, .int .u8 0, .int .u8 0, .int .u8 0, .int .u8 0, .int .u8 0, .int .u8 0, .int .u8 0, .int .u8 0, .int .u8 0, .int .u8 0, .int .u8 0, .int .u8 0, .int .u8 0, .int .u8 0, .int .u8 0, .int .u8 0, .int .u8 0, .int .u8 0, .int .u8 0], .slice none 0 0], []⟩ 8 (by kernel_rfl) (by kernel_rfl) (by kernel_rfl) (by kernel_rfl)) rfl ?_ (by kernel_rfl) (by kernel_rfl) (by kernel_rfl) (by kernel_rfl) ?_
  · intro ds h
    match ds, h with | [d0, d1], _ => rfl
  · intro W base args ds p hval hsz hA hlt hw
    obtain ⟨args⟩ := args
    match args, hsz, hval with
    | [a0, a1], hsz, hval =>
      have n0 := NSt.empty W
      obtain ⟨a, wa, ra⟩ := argKey (t := 23) (by kernel_rfl) (hval 0 _ a0 (by kernel_rfl) rfl)
      obtain ⟨_, _, tk, uk⟩ := trod_get hA hw 1 _ a1 (by kernel_rfl) rfl
      obtain ⟨k, wk, lk, fk⟩ := argBytes (t := 24) (by kernel_rfl) (hval 1 _ a1 (by kernel_rfl) rfl) tk uk
      obtain ⟨_, x1, n1, rk⟩ := n0.arg fk
      exact law_runN XLx_ok Try.func10 (by kernel_rfl) LoopsOK.nil ((lawES_run concE a k).trans (es_true concEG wa wk lk)) n1 (.cons _ _ _ _ (ra _) (.cons _ _ _ _ rk .nil))
theorem edwardsScales_facts : joinedFacts Try.pinned.checked.prog 10 Try.f10 Rows.edwardsScalesSpec Rows.edwardsScalesRow = true := by
  show joinedFacts Try.prog 10 Try.f10 Rows.edwardsScalesSpec Rows.edwardsScalesRow = true
  unfold joinedFacts
  rw [liftsF, heardF, enterF, makeF]
  kernel_rfl
theorem edwardsScales_holds : Rows.EdwardsScalesSaid :=
  OpenClaim.holds_of_wide 10 Try.f10 rfl rfl rfl rfl rfl rfl rfl ⟨rfl, rfl, rfl, rfl, rfl⟩ rfl rfl rfl rfl rfl (by kernel_rfl) Try.func10 edwardsScales_facts
    (of_decide_eq_true (by kernel_rfl)) (by unfold Func.isWrapper; first | (rw [if_pos (by decide +kernel)]; kernel_rfl) | (rw [if_neg (by decide +kernel)]; exact ⟨rfl, rfl⟩))
    (fun os started H enc _ => edwardsScales_lifted os started H enc)
#print axioms edwardsScales_holds
end Go.Proofs.Ytnnjaijokiknkaa

