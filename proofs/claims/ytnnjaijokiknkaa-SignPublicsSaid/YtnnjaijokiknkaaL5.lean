/- The law SignPublics: every Public of any bytes is the document's; they stay: it answers true for every input. No conditions. -/
import Derived.Test.YtnnjaijokiknkaaSg
namespace Go.Proofs.Ytnnjaijokiknkaa
open Go Pw Go.RowKit
def spA (s : List Nat) : List Nat := handL (tkL s.length s)
def spI (s : List Nat) : List Nat := List.take ((s.length : Int).toNat - 0) (List.drop (0 + 0 * 1) (spA s))
def spL (s : List Nat) : List Nat := List.take ((tkL s.length s).length + 80) (List.drop 0 (spA s))
noncomputable def spT (g : GOps) (s : List Nat) : Option (AV × Option Blk) := gds [decide (0 + s.length ≤ s.length), decide ((tkL s.length s).length ≤ 140737488351232), decide (0 ≤ (s.length : Int) ∧ (s.length : Int) ≤ (((tkL s.length s).length + 80 : Nat) : Int)),
    decide (0 + 0 * 1 + ((s.length : Int).toNat - 0) ≤ (spA s).length), decide (0 + s.length ≤ s.length)]
  (brn (keyEq (pubV g (spI s)) (rpubV g (tkL s.length s))) (brn (decide ((bif is32 (spI s) then (0 : Int) else 3) = bif is32 (tkL s.length s) then 0 else 3))
    (gds [decide (0 + ((tkL s.length s).length + 80) ≤ (spA s).length), decide (0 + s.length ≤ s.length), decide (spL s = handL (tkL s.length s) ∧ (tkL s.length s).length < 4611686018427387904)] (some (.bool true, none))) noB) noB)
theorem lawSP_run (g : GOps) (s : List Nat) : runNL (X_rpub g) [] [0,2,3,4,5,6,7,27,28,29,32,33,34] 500 Try.f13 (bodyOf Try.f13) (laArgs [.l s] 0) (laLists [.l s]) = spT g s := by kernel_rfl
theorem hand_len (b : List Nat) : (handL b).length = b.length + 80 := by unfold handL; rw [List.length_append, mk20_len]
theorem hand_take (b : List Nat) : List.take ((b.length : Int).toNat - 0) (List.drop (0 + 0 * 1) (handL b)) = b := by
  rw [show (b.length : Int).toNat - 0 = b.length by omega, show 0 + 0 * 1 = 0 from rfl, List.drop_zero]
  unfold handL
  rw [List.take_left' rfl]
theorem hand_all (b : List Nat) : List.take (b.length + 80) (List.drop 0 (handL b)) = handL b := by
  rw [List.drop_zero, ← hand_len, List.take_length]
theorem sp_true {g : GOps} (H : GGood g) {s : List Nat} (hs : ∀ c ∈ s, c < 256) (ls : s.length ≤ 140737488351232) : spT g s = some (.bool true, none) := by
  have eA : spA s = handL s := by unfold spA; rw [tkL_eq]
  have eI : spI s = s := by unfold spI; rw [eA, hand_take]
  have eL : spL s = handL s := by unfold spL; rw [tkL_eq, eA, hand_all]
  unfold spT
  rw [eA, eI, eL, tkL_eq, hand_len, gds_true]
  · rw [H.pub_eq hs, keyEq_self, decide_eq_true rfl]
    show gds _ _ = _
    rw [gds_true]
    intro c hc
    simp only [List.mem_cons, List.not_mem_nil, or_false] at hc
    rcases hc with h | h | h
    · rw [h]; exact decide_eq_true (by omega)
    · rw [h]; exact decide_eq_true (by omega)
    · rw [h]; exact decide_eq_true ⟨trivial, by omega⟩
  · intro c hc
    simp only [List.mem_cons, List.not_mem_nil, or_false] at hc
    rcases hc with h | h | h | h | h <;> (rw [h]; exact decide_eq_true (by omega))
noncomputable abbrev XLu : Cx := X_rpub concGO
theorem XLu_ok : CxOK Try.prog XLu := X_rpub_ok
set_option maxRecDepth 100000 in
theorem signPublics_lifted (os : Os) (started : os.Started) (H : Type) (enc : TypeId × Value → H) :
    ReturnsInHanded {} Try.checked os 13 .any (Rows.signPublicsSpec.pre6 enc Try.prog Try.f13 Rows.signPublicsRow.domain false) (Rows.signPublicsSpec.post enc Try.prog Try.f13 false true false false) := by
  refine law_lifted (C := Try.checked) (tb := 4) (by kernel_rfl) started (by kernel_rfl) Try.func13
    (ChangeSpec.witness6 (enc := enc) (C := Try.checked) false ⟨#[], #[.slice none 0 0], []⟩ 8 (by kernel_rfl) (by kernel_rfl) (by kernel_rfl) (by kernel_rfl)) rfl ?_ (by kernel_rfl) (by kernel_rfl) (by kernel_rfl) (by kernel_rfl) ?_
  · intro ds h
    match ds, h with | [d0], _ => rfl
  · intro W base args ds p hval hsz hA hlt hw
    obtain ⟨args⟩ := args
    match args, hsz, hval with
    | [a0], hsz, hval =>
      have n0 := NSt.empty W
      obtain ⟨_, _, ts, us⟩ := trod_get hA hw 0 _ a0 (by kernel_rfl) rfl
      obtain ⟨s, ws, ls, fs⟩ := argBytes (t := 24) (by kernel_rfl) (hval 0 _ a0 (by kernel_rfl) rfl) ts us
      obtain ⟨_, x1, n1, rs⟩ := n0.arg fs
      exact law_runN XLu_ok Try.func13 (by kernel_rfl) LoopsOK.nil ((lawSP_run concGO s).trans (sp_true concGG ws ls)) n1 (.cons _ _ _ _ rs .nil)
theorem signPublics_facts : joinedFacts Try.pinned.checked.prog 13 Try.f13 Rows.signPublicsSpec Rows.signPublicsRow = true := by
  show joinedFacts Try.prog 13 Try.f13 Rows.signPublicsSpec Rows.signPublicsRow = true
  unfold joinedFacts
  rw [liftsF, heardF, enterF, makeF]
  kernel_rfl
theorem signPublics_holds : Rows.SignPublicsSaid :=
  OpenClaim.holds_of_wide 13 Try.f13 rfl rfl rfl rfl rfl rfl rfl ⟨rfl, rfl, rfl, rfl, rfl⟩ rfl rfl rfl rfl rfl (by kernel_rfl) Try.func13 signPublics_facts
    (of_decide_eq_true (by kernel_rfl)) (by unfold Func.isWrapper; first | (rw [if_pos (by decide +kernel)]; kernel_rfl) | (rw [if_neg (by decide +kernel)]; exact ⟨rfl, rfl⟩))
    (fun os started H enc _ => signPublics_lifted os started H enc)
#print axioms signPublics_holds
end Go.Proofs.Ytnnjaijokiknkaa

