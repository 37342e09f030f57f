/- The law EdwardsScalars: numbers of any bytes, and their sum, difference, product and opposite, are the document's: it answers true for every input. No conditions. -/
import Derived.Test.YtnnjaijokiknkaaNg
import Derived.Test.YtnnjaijokiknkaaNh
namespace Go.Proofs.Ytnnjaijokiknkaa
open Go Pw Go.RowKit
theorem brn_skip {α : Type} {c : Bool} (h : c = true) (x y : α) : brn (!c) x y = y := by rw [h]; rfl
theorem sT_eq (a : List Nat) : sT a = a := by unfold sT; rw [List.drop_zero, List.take_length]
theorem pA_val {a : List Nat} (h : ∀ c ∈ a, c < 256) : NK (pA concNOps a) (leB a % LN) := by
  unfold pA
  rw [sT_eq]
  exact NK.red h
theorem dR_val {a : List Nat} (h : ∀ c ∈ a, c < 256) : ND (dR concD a) (leB a % LN) := by
  unfold dR
  rw [sT_eq]
  exact ND.red h
theorem zeroD_resp : resp 16 zeroD = zeroD := zeroD_ok.resp
theorem seven_val : keyEq (concNOps.scal (redN concNOps zeroL (List.take 1 (List.drop 0 [7])))) sevenK = true := by
  have h : NK (concNOps.scal (redN concNOps zeroL [7])) (leB [7] % LN) := NK.red (by intro c hc; simp at hc; omega)
  have h7 : NK sevenK (leB [7] % LN) := ⟨by intro b hb; simp [sevenK, K32.toList] at hb; omega, by decide +kernel, Nat.mod_lt _ LN_pos⟩
  rw [keyEq_iff]
  exact decide_eq_true (h.inj h7)
theorem esT_true {a b : List Nat} {k : K32} (ha : ∀ c ∈ a, c < 256) (hb : ∀ c ∈ b, c < 256) (la : a.length ≤ 140737488351232) (lb : b.length ≤ 140737488351232) (hk : k.wf) :
    esT concNOps concD a b k = some (.bool true, none) := by
  have pa := pA_val ha
  have pb := pA_val hb
  have da := dR_val ha
  have db := dR_val hb
  have ew : wholeN concNOps k = bif decide (leVal k < LN) then (k, 0) else (zeroK, 191) := wholeN_val hk
  have ec := wholeC_val hk
  unfold esT
  rw [gds_true]
  · rw [ew, ec]
    rw [brn_skip (by by_cases h : leVal k < LN <;> simp [h])]
    rw [brn_skip (by
      by_cases h : leVal k < LN
      · rw [decide_eq_true h, cond_true, cond_true]
        have h1 := ND.red (b := k.toList) hk
        rw [leB_key, Nat.mod_eq_of_lt h] at h1
        exact same_key ⟨hk, rfl, h⟩ h1
      · rw [decide_eq_false h, cond_false, cond_false]
        exact same_key NK.zero ND.zero)]
    rw [brn_skip (same_key pa da)]
    rw [da.resp, db.resp, da.resp, db.resp]
    rw [brn_skip (same_key (pa.add pb) (da.add db))]
    rw [db.neg.resp]
    rw [brn_skip (by
      have h1 := pa.sub pb
      have h2 := da.add db.neg
      rw [Nat.add_mod_mod] at h2
      exact same_key h1 h2)]
    rw [da.resp, zeroD_resp]
    rw [brn_skip (by
      have h2 := ND.mul da (db.key).1 (db.key).2
      rw [db.resp] at h2
      exact same_key (pa.mul pb) h2)]
    rw [brn_skip (same_key pa.neg da.neg)]
    rw [seven_val]
  · intro c hc
    rw [sT_eq, sT_eq] at hc
    simp only [List.mem_cons, List.not_mem_nil, or_false] at hc
    rcases hc with h | h | h | h | h | h | h | h <;> (rw [h]; exact decide_eq_true (by omega))
noncomputable abbrev XLc : Cx := XL concNOps concD
theorem XLc_ok : CxOK Try.prog XLc := XL_ok
set_option maxRecDepth 100000 in
theorem edwardsScalars_lifted (os : Os) (started : os.Started) (H : Type) (enc : TypeId × Value → H) :
    ReturnsInHanded {} Try.checked os 4 .any (Rows.edwardsScalarsSpec.pre6 enc Try.prog Try.f4 Rows.edwardsScalarsRow.domain false) (Rows.edwardsScalarsSpec.post enc Try.prog Try.f4 false true false false) := by
  refine law_lifted (C := Try.checked) (tb := 4) (by kernel_rfl) started (by kernel_rfl) Try.func4
    (ChangeSpec.witness6 (enc := enc) (C := Try.checked) false ⟨#[], #[.slice none 0 0, .slice none 0 0, .agg #[.int .u8 0, .int .u8 0, .int .u8 0, .int .u8 0, .int .u8 0, .int .u8 0, .int .u8 0, .int .u8 0, .int .u8 0, .int .u8 0, .int .u8 0, .int .u8 0, .int .u8 0, .int .u8 0, .int .u8 0, .int .u8 0, .int .u8 0, .int .u8 0, .int .u8 0, .int .u8 0, .int .u8 0, .int .u8 0, .int .u8 0, .int .u8 0, .int .u8 0, .int .u8 0, .int .u8 0, .int .u8 0, .int .u8 0, .int .u8 0, .int .u8 0, .int .u8 0]], []⟩ 8 (by kernel_rfl) (by kernel_rfl) (by kernel_rfl) (by kernel_rfl)) rfl ?_ (by kernel_rfl) (by kernel_rfl) (by kernel_rfl) (by kernel_rfl) ?_
  · intro ds h
    match ds, h with | [d0, d1, d2], _ => rfl
  · intro W base args ds p hval hsz hA hlt hw
    obtain ⟨args⟩ := args
    match args, hsz, hval with
    | [a0, a1, a2], hsz, hval =>
      have n0 := NSt.empty W
      obtain ⟨_, _, ta, ua⟩ := trod_get hA hw 0 _ a0 (by kernel_rfl) rfl
      obtain ⟨a, wa, la, fa⟩ := argBytes (t := 24) (by kernel_rfl) (hval 0 _ a0 (by kernel_rfl) rfl) ta ua
      obtain ⟨_, x1, n1, ra⟩ := n0.arg fa
      obtain ⟨_, _, tb, ub⟩ := trod_get hA hw 1 _ a1 (by kernel_rfl) rfl
      obtain ⟨b, wb, lb, fb⟩ := argBytes (t := 24) (by kernel_rfl) (hval 1 _ a1 (by kernel_rfl) rfl) tb ub
      obtain ⟨_, x2, n2, rb⟩ := n1.arg fb
      obtain ⟨k, wk, rk⟩ := argKey (t := 23) (by kernel_rfl) (hval 2 _ a2 (by kernel_rfl) rfl)
      exact law_runN XLc_ok Try.func4 (by kernel_rfl) LoopsOK.nil ((lawES_run concNOps concD a b k).trans (esT_true wa wb la lb wk)) n2 (.cons _ _ _ _ (R.ext x2 ra) (.cons _ _ _ _ rb (.cons _ _ _ _ (rk _) .nil)))
theorem edwardsScalars_facts : joinedFacts Try.pinned.checked.prog 4 Try.f4 Rows.edwardsScalarsSpec Rows.edwardsScalarsRow = true := by
  show joinedFacts Try.prog 4 Try.f4 Rows.edwardsScalarsSpec Rows.edwardsScalarsRow = true
  unfold joinedFacts
  rw [liftsF, heardF, enterF, makeF]
  kernel_rfl
theorem edwardsScalars_holds : Rows.EdwardsScalarsSaid :=
  OpenClaim.holds_of_wide 4 Try.f4 rfl rfl rfl rfl rfl rfl rfl ⟨rfl, rfl, rfl, rfl, rfl⟩ rfl rfl rfl rfl rfl (by kernel_rfl) Try.func4 edwardsScalars_facts
    (of_decide_eq_true (by kernel_rfl)) (by unfold Func.isWrapper; first | (rw [if_pos (by decide +kernel)]; kernel_rfl) | (rw [if_neg (by decide +kernel)]; exact ⟨rfl, rfl⟩))
    (fun os started H enc _ => edwardsScalars_lifted os started H enc)
#print axioms edwardsScalars_holds
end Go.Proofs.Ytnnjaijokiknkaa

