/- The law WideBlocks: Block of any words and bytes is the document's: it answers true for every input. No conditions. -/
import Derived.Test.YtmhbhpmfbalbeaaFt
import Derived.Test.YtmhbhpmfbalbeaaWd
import Derived.Test.YtmhbhpmfbalbeaaPwMg
namespace Go.Proofs.Ytmhbhpmfbalbeaa
open Go Pw Go.RowKit
theorem lawWB_run (o : SOps) (h : List Nat) (b : List Nat) : runQ (XS o) [0,1,2,3,4] 100 Try.f5 (bodyOf Try.f5) [w8V h, b128V b] = some (.bool (eqW 8 (o.bP (resp 8 h) (resp 128 b)) (o.bR (resp 8 h) (resp 128 b)))) := by
  kernel_rfl
abbrev XC : Cx := XS concS
theorem XC_ok : CxOK Try.prog XC := XS_ok
theorem wb_true {h b : List Nat} (hh : ∀ x ∈ h, x < 2 ^ 64) (hb : ∀ x ∈ b, x < 256) (lh : h.length = 8) (lb : b.length = 128) : eqW 8 (concS.bP (resp 8 h) (resp 128 b)) (concS.bR (resp 8 h) (resp 128 b)) = true := by
  rw [resp_eq lh, resp_eq lb, show concS.bP h b = concS.bR h b from block_eq (wfW_of hh) (wfB_of hb)]
  exact eqW_self _ _
set_option maxRecDepth 100000 in
theorem wideBlocks_lifted (os : Os) (started : os.Started) (H : Type) (enc : TypeId × Value → H) :
    ReturnsInHanded {} Try.checked os 5 .any (Rows.wideBlocksSpec.pre6 enc Try.prog Try.f5 Rows.wideBlocksRow.domain false) (Rows.wideBlocksSpec.post enc Try.prog Try.f5 false true false false) := by
  refine law_lifted (C := Try.checked) (tb := 4) (by kernel_rfl) started (by kernel_rfl) Try.func5
    (ChangeSpec.witness6 (enc := enc) (C := Try.checked) false ⟨#[], #[.agg #[.int .u64 0, .int .u64 0, .int .u64 0, .int .u64 0, .int .u64 0, .int .u64 0, .int .u64 0, .int .u64 0], .agg #[.int .u8 0, .int .u8 0, .int .u8 0, .int .u8 0, .int .u8 0, .int .u8 0, .int .u8 0, .int .u8 0, .int .u8 0, .int .u8 0, .int .u8 0, .int .u8 0, .int .u8 0, .int .u8 0, .int .u8 0, .int .u8 0, .int .u8 0, .int .u8 0, .int .u8 0, .int .u8 0, .int .u8 0, .int .u8 0, .int .u8 0, .int .u8 0, .int .u8 0, .int .u8 0, .int .u8 0, .int .u8 0, .int .u8 0, .int .u8 0, .int .u8 0, .int .u8 0, .int .u8 0, .int .u8 0, .int .u8 0, .int .u8 0, .int .u8 0, .int .u8 0, .int .u8 0, .int .u8 0, .int .u8 0, .int .u8 0, .int .u8 0, .int .u8 0, .int .u8 0, .int .u8 0, .int .u8 0, .int .u8 0, .int .u8 0, .int .u8 0, .int .u8 0, .int .u8 0, .int .u8 0, .int .u8 0, .int .u8 0, .int .u8 0, .int .u8 0, .int .u8 0, .int .u8 0, .int .u8 0, .int .u8 0, .int .u8 0, .int .u8 0, .int .u8 0, .int .u8 0, .int .u8 0, .int .u8 0, .int .u8 0, .int .u8 0, .int .u8 0, .int .u8 0, .int .u8 0, .int .u8 0, .int .u8 0, .int .u8 0, .int .u8 0, .int .u8 0, .int .u8 0, .int .u8 0, .int .u8 0, .int .u8 0, .int .u8 0, .int .u8 0, .int .u8 0, .int .u8 0, .int .u8 0, .int .u8 0, .int .u8 0, .int .u8 0, .int .u8 0, .int .u8 0, .int .u8 0, .int .u8 0, .int .u8 0, .int .u8 0, .int .u8 0, .int .u8 0, .int .u8 0, .int .u8 0, .int .u8 0, .int .u8 0, .int .u8 0, .int .u8 0, .int .u8 0, .int .u8 0, .int .u8 0, .int .u8 0, .int .u8 0, .int .u8 0, .int .u8 0, .int .u8 0, .int .u8 0, .int .u8 0, .int .u8 0, .int .u8 0, .int .u8 0, .int .u8 0, .int .u8 0, .int .u8 0, .int .u8 0, .int .u8 0, .int .u8 0, .int .u8 0, .int .u8 0, .int .u8 0, .int .u8 0, .int .u8 0, .int .u8 0]], []⟩ 8 (by kernel_rfl) (by kernel_rfl) (by kernel_rfl) (by kernel_rfl)) rfl ?_ (by kernel_rfl) (by kernel_rfl) (by kernel_rfl) (by kernel_rfl) ?_
  · intro ds h
    match ds, h with | [d0, d1], _ => rfl
  · intro W base args ds p hval hsz hA hlt hw
    obtain ⟨args⟩ := args
    match args, hsz, hval with
    | [a0, a1], hsz, hval =>
      obtain ⟨h, lh, wh, rh⟩ := argArr (k := .u64) (n := 8) (t := 29) (by kernel_rfl) rfl (hval 0 _ a0 (by kernel_rfl) rfl)
      obtain ⟨b, lb, wb, rb⟩ := argArr (k := .u8) (n := 128) (t := 30) (by kernel_rfl) rfl (hval 1 _ a1 (by kernel_rfl) rfl)
      exact law_run XC_ok Try.func5 (by kernel_rfl) ((lawWB_run concS h b).trans (by rw [wb_true wh wb lh lb])) (.cons _ _ _ _ (rh _) (.cons _ _ _ _ (rb _) .nil))
theorem wideBlocks_facts : joinedFacts Try.pinned.checked.prog 5 Try.f5 Rows.wideBlocksSpec Rows.wideBlocksRow = true := by
  show joinedFacts Try.prog 5 Try.f5 Rows.wideBlocksSpec Rows.wideBlocksRow = true
  unfold joinedFacts
  rw [liftsF, heardF, enterF, makeF]
  kernel_rfl
theorem wideBlocks_holds : Rows.WideBlocksSaid :=
  OpenClaim.holds_of_wide 5 Try.f5 rfl rfl rfl rfl rfl rfl rfl ⟨rfl, rfl, rfl, rfl, rfl⟩ rfl rfl rfl rfl rfl (by kernel_rfl) Try.func5 wideBlocks_facts
    (of_decide_eq_true (by kernel_rfl)) (by unfold Func.isWrapper; first | (rw [if_pos (by decide +kernel)]; kernel_rfl) | (rw [if_neg (by decide +kernel)]; exact ⟨rfl, rfl⟩))
    (fun os started H enc _ => wideBlocks_lifted os started H enc)
#print axioms wideBlocks_holds
end Go.Proofs.Ytmhbhpmfbalbeaa

