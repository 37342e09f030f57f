/- The law SignChecks: every Check, of any key, bytes and signature, is the document's; the bytes stay; written over, the same list is checked as it is now: it answers true for every input. No conditions. -/
import Derived.Test.YtnnjaijokiknkaaGreatSk
namespace Go.Proofs.YtnnjaijokiknkaaGreat
open Go Pw Go.RowKit
noncomputable def scT (g : GOps) (k : K32) (b t : List Nat) : Option (AV × Option Blk) := gds [decide (0 + b.length ≤ b.length), decide ((tkL b.length b).length ≤ 140737488351232), decide (0 ≤ (b.length : Int) ∧ (b.length : Int) ≤ (((tkL b.length b).length + 80 : Nat) : Int)),
    decide (0 + 0 * 1 + ((b.length : Int).toNat - 0) ≤ (hnA b).length), decide ((hnI b).length + 512 ≤ maxRoom), decide (0 + b.length ≤ b.length), decide ((tkL b.length b).length + 512 ≤ maxRoom)]
  (brn (!decide (checkV g k (hnI b) (resp 64 t) = rcheckV g k (tkL b.length b) (resp 64 t))) noB
    (gds [decide (0 + ((tkL b.length b).length + 80) ≤ (hnA b).length), decide (0 + b.length ≤ b.length), decide (hnL b = handL (tkL b.length b) ∧ (tkL b.length b).length < 4611686018427387904),
      decide (b.length = b.length ∧ (tkL b.length b).length + 80 = (hnA b).length ∧ b.length ≤ (tkL b.length b).length + 80 ∧ b.length ≤ 281474976710656), decide (0 ≤ (b.length : Int) ∧ (b.length : Int) ≤ (((tkL b.length b).length + 80 : Nat) : Int)),
      decide (0 + 0 * 1 + ((b.length : Int).toNat - 0) ≤ (wrA b).length), decide ((wrI b).length + 512 ≤ maxRoom), decide (0 + b.length ≤ (turnL b).length), decide ((tkL b.length (turnL b)).length + 512 ≤ maxRoom)]
      (some (.bool (decide (checkV g k (wrI b) (resp 64 t) = rcheckV g k (tkL b.length (turnL b)) (resp 64 t))), none))))
theorem lawSC_run (g : GOps) (k : K32) (b t : List Nat) : runNL (X_turn g) [] [0,1,2,3,5,6,7,8,9,26,27,28,29,30] 500 Tryz.f7 (bodyOf Tryz.f7) (laArgs [.v (keyV k), .l b, .v (b64V t)] 0) (laLists [.v (keyV k), .l b, .v (b64V t)]) = scT g k b t := by kernel_rfl
theorem sc_true {g : GOps} (H : GGood g) (D : DGood g) {k : K32} (hk : k.wf) {b t : List Nat} (hb : ∀ c ∈ b, c < 256) (lb : b.length ≤ 140737488351232) (lt : t.length = 64) (ht : ∀ c ∈ t, c < 256) : scT g k b t = some (.bool true, none) := by
  have hm : maxRoom = 175921860444160 := rfl
  unfold scT
  rw [hnI_eq, hnL_eq, wrI_eq, wrA_len, tkT_eq, turnL_len, hnA_eq, tkL_eq, resp_eq lt, hand_len, gds_true]
  · rw [check_eq H D hk hb ht, check_eq H D hk (turnL_lt hb) ht, decide_eq_true rfl, decide_eq_true rfl]
    show gds _ _ = _
    rw [gds_true]
    intro c hc
    simp only [List.mem_cons, List.not_mem_nil, or_false] at hc
    rcases hc with h | h | h | h | h | h | h | h | h
    · rw [h]; exact decide_eq_true (by omega)
    · rw [h]; exact decide_eq_true (by omega)
    · rw [h]; exact decide_eq_true ⟨trivial, by omega⟩
    · rw [h]; exact decide_eq_true ⟨trivial, trivial, by omega, by omega⟩
    all_goals (rw [h]; exact decide_eq_true (by omega))
  · intro c hc
    simp only [List.mem_cons, List.not_mem_nil, or_false] at hc
    rcases hc with h | h | h | h | h | h | h <;> (rw [h]; exact decide_eq_true (by omega))
noncomputable abbrev XLc : Cx := X_turn concGO
theorem XLc_ok : CxOK Tryz.prog XLc := X_turn_ok
set_option maxRecDepth 100000 in
theorem signChecks_lifted (os : Os) (started : os.Started) (H : Type) (enc : TypeId × Value → H) :
    ReturnsInHanded {} Tryz.checked os 7 .any (Rows.signChecksSpec.pre6 enc Tryz.prog Tryz.f7 Rows.signChecksRow.domain false) (Rows.signChecksSpec.post enc Tryz.prog Tryz.f7 false true false false) := by
  refine law_lifted (C := Tryz.checked) (tb := 4) (by kernel_rfl) started (by kernel_rfl) Tryz.func7
    (ChangeSpec.witness6 (enc := enc) (C := Tryz.checked) false ⟨#[], #[.agg #[.int .u8 0, .int .u8 0, .int .u8 0, .int .u8 0, .int .u8 0, .int .u8 0, .int .u8 0, .int .u8 0, .int .u8 0, .int .u8 0, .int .u8 0, .int .u8 0, .int .u8 0, .int .u8 0, .int .u8 0, .int .u8 0, .int .u8 0, .int .u8 0, .int .u8 0, .int .u8 0, .int .u8 0, .int .u8 0, .int .u8 0, .int .u8 0, .int .u8 0, .int .u8 0, .int .u8 0, .int .u8 0, .int .u8 0, .int .u8 0, .int .u8 0, .int .u8 0], .slice none 0 0, .agg #[.int .u8 0, .int .u8 0, .int .u8 0, .int .u8 0, .int .u8 0, .int .u8 0, .int .u8 0, .int .u8 0, .int .u8 0, .int .u8 0, .int .u8 0, .int .u8 0, .int .u8 0, .int .u8 0, .int .u8 0, .int .u8 0, .int .u8 0, .int .u8 0, .int .u8 0, .int .u8 0, .int .u8 0, .int .u8 0, .int .u8 0, .int .u8 0, .int .u8 0, .int .u8 0, .int .u8 0, .int .u8 0, .int .u8 0, .int .u8 0, .int .u8 0, .int .u8 0, .int .u8 0, .int .u8 0, .int .u8 0, .int .u8 0, .int .u8 0, .int .u8 0, .int .u8 0, .int .u8 0, .int .u8 0, .int .u8 0, .int .u8 0, .int .u8 0, .int .u8 0, .int .u8 0, .int .u8 0, .int .u8 0, .int .u8 0, .int .u8 0, .int .u8 0, .int .u8 0, .int .u8 0, .int .u8 0, .int .u8 0, .int .u8 0, .int .u8 0, .int .u8 0, .int .u8 0, .int .u8 0, .int .u8 0, .int .u8 0, .int .u8 0, .int .u8 0]], []⟩ 8 (by kernel_rfl) (by kernel_rfl) (by kernel_rfl) (by kernel_rfl)) rfl ?_ (by kernel_rfl) (by kernel_rfl) (by kernel_rfl) (by kernel_rfl) ?_
  · intro ds h
    match ds, h with | [d0, d1, d2], _ => rfl
  · intro W base args ds p hval hsz hA hlt hw
    obtain ⟨args⟩ := args
    match args, hsz, hval with
    | [a0, a1, a2], hsz, hval =>
      have n0 := NSt.empty W
      obtain ⟨k, wk, rk⟩ := argKey (t := 38) (by kernel_rfl) (hval 0 _ a0 (by kernel_rfl) rfl)
      obtain ⟨_, _, tb, ub⟩ := trod_get hA hw 1 _ a1 (by kernel_rfl) rfl
      obtain ⟨b, wb, lb, fb⟩ := argBytes (t := 50) (by kernel_rfl) (hval 1 _ a1 (by kernel_rfl) rfl) tb ub
      obtain ⟨_, x1, n1, rb⟩ := n0.arg fb
      obtain ⟨t, lt, wt, rt⟩ := argArr (k := .u8) (n := 64) (t := 65) (by kernel_rfl) rfl (hval 2 _ a2 (by kernel_rfl) rfl)
      exact law_runN XLc_ok Tryz.func7 (by kernel_rfl) LoopsOK.nil ((lawSC_run concGO k b t).trans (sc_true concGG concDG wk wb lb lt (by simpa [IntKind.bits] using wt))) n1 (.cons _ _ _ _ (rk _) (.cons _ _ _ _ rb (.cons _ _ _ _ (rt _) .nil)))
theorem signChecks_facts : joinedFacts Tryz.pinned.checked.prog 7 Tryz.f7 Rows.signChecksSpec Rows.signChecksRow = true := by
  show joinedFacts Tryz.prog 7 Tryz.f7 Rows.signChecksSpec Rows.signChecksRow = true
  unfold joinedFacts
  rw [liftsF, heardF, enterF, makeF]
  kernel_rfl
theorem signChecks_holds : Rows.SignChecksSaid :=
  OpenClaim.holds_of_wide 7 Tryz.f7 rfl rfl rfl rfl rfl rfl rfl ⟨rfl, rfl, rfl, rfl, rfl⟩ rfl rfl rfl rfl rfl (by kernel_rfl) Tryz.func7 signChecks_facts
    (of_decide_eq_true (by kernel_rfl)) (by unfold Func.isWrapper; first | (rw [if_pos (by decide +kernel)]; kernel_rfl) | (rw [if_neg (by decide +kernel)]; exact ⟨rfl, rfl⟩))
    (fun os started H enc _ => signChecks_lifted os started H enc)
#print axioms signChecks_holds
end Go.Proofs.YtnnjaijokiknkaaGreat

