/- The law SignHonours: every Honour, of any key, bytes and signature, is the document's: it answers true for every input. No conditions. -/
import Derived.Test.YtnnjaijokiknkaaGreatSj
namespace Go.Proofs.YtnnjaijokiknkaaGreat
open Go Pw Go.RowKit
noncomputable def shT (g : GOps) (k : K32) (b t : List Nat) : Option (AV × Option Blk) := gds [decide (0 + b.length ≤ b.length), decide ((tkL b.length b).length ≤ 140737488351232), decide (0 ≤ (b.length : Int) ∧ (b.length : Int) ≤ (((tkL b.length b).length + 80 : Nat) : Int)),
    decide (0 + 0 * 1 + ((b.length : Int).toNat - 0) ≤ (hnA b).length), decide ((hnI b).length + 512 ≤ maxRoom), decide (0 + b.length ≤ b.length), decide ((tkL b.length b).length + 512 ≤ maxRoom)]
  (brn (decide (honourV g k (hnI b) (resp 64 t) = rhonourV g k (tkL b.length b) (resp 64 t)))
    (gds [decide (0 + ((tkL b.length b).length + 80) ≤ (hnA b).length), decide (0 + b.length ≤ b.length), decide (hnL b = handL (tkL b.length b) ∧ (tkL b.length b).length < 4611686018427387904)] (some (.bool true, none))) noB)
theorem lawSH_run (g : GOps) (k : K32) (b t : List Nat) : runNL (X_rhonour g) [] [0,1,2,3,5,6,7,23,24,25] 500 Tryz.f6 (bodyOf Tryz.f6) (laArgs [.v (keyV k), .l b, .v (b64V t)] 0) (laLists [.v (keyV k), .l b, .v (b64V t)]) = shT g k b t := by kernel_rfl
theorem sh_true {g : GOps} (H : GGood g) (D : DGood g) {k : K32} (hk : k.wf) {b t : List Nat} (hb : ∀ c ∈ b, c < 256) (lb : b.length ≤ 140737488351232) (lt : t.length = 64) (ht : ∀ c ∈ t, c < 256) : shT g k b t = some (.bool true, none) := by
  have hm : maxRoom = 175921860444160 := rfl
  unfold shT
  rw [hnI_eq, hnL_eq, hnA_eq, tkL_eq, resp_eq lt, hand_len, gds_true]
  · rw [honour_eq H D hk hb ht, decide_eq_true rfl]
    show gds _ _ = _
    rw [gds_true]
    intro c hc
    simp only [List.mem_cons, List.not_mem_nil, or_false] at hc
    rcases hc with h | h | h
    · rw [h]; exact decide_eq_true (by omega)
    · rw [h]; exact decide_eq_true (by omega)
    · rw [h]; exact decide_eq_true ⟨trivial, by omega⟩
  · intro c hc
    simp only [List.mem_cons, List.not_mem_nil, or_false] at hc
    rcases hc with h | h | h | h | h | h | h <;> (rw [h]; exact decide_eq_true (by omega))
noncomputable abbrev XLh : Cx := X_rhonour concGO
theorem XLh_ok : CxOK Tryz.prog XLh := X_rhonour_ok
set_option maxRecDepth 100000 in
theorem signHonours_lifted (os : Os) (started : os.Started) (H : Type) (enc : TypeId × Value → H) :
    ReturnsInHanded {} Tryz.checked os 6 .any (Rows.signHonoursSpec.pre6 enc Tryz.prog Tryz.f6 Rows.signHonoursRow.domain false) (Rows.signHonoursSpec.post enc Tryz.prog Tryz.f6 false true false false) := by
  refine law_lifted (C := Tryz.checked) (tb := 4) (by kernel_rfl) started (by kernel_rfl) Tryz.func6
    (ChangeSpec.witness6 (enc := enc) (C := Tryz.checked) false ⟨#[], #[.agg #[.int .u8 0, .int .u8 0, .int .u8 0, .int .u8 0, .int .u8 0, .int .u8 0, .int .u8 0, .int .u8 0, .int .u8 0, .int .u8 0, .int .u8 0, .int .u8 0, .int .u8 0, .int .u8 0, .int .u8 0, .int .u8 0, .int .u8 0, .int .u8 0, .int .u8 0, .int .u8 0, .int .u8 0, .int .u8 0, .int .u8 0, .int .u8 0, .int .u8 0, .int .u8 0, .int .u8 0, .int .u8 0, .int .u8 0, .int .u8 0, .int .u8 0, .int .u8 0], .slice none 0 0, .agg #[.int .u8 0, .int .u8 0, .int .u8 0, .int .u8 0, .int .u8 0, .int .u8 0, .int .u8 0, .int .u8 0, .int .u8 0, .int .u8 0, .int .u8 0, .int .u8 0, .int .u8 0, .int .u8 0, .int .u8 0, .int .u8 0, .int .u8 0, .int .u8 0, .int .u8 0, .int .u8 0, .int .u8 0, .int .u8 0, .int .u8 0, .int .u8 0, .int .u8 0, .int .u8 0, .int .u8 0, .int .u8 0, .int .u8 0, .int .u8 0, .int .u8 0, .int .u8 0, .int .u8 0, .int .u8 0, .int .u8 0, .int .u8 0, .int .u8 0, .int .u8 0, .int .u8 0, .int .u8 0, .int .u8 0, .int .u8 0, .int .u8 0, .int .u8 0, .int .u8 0, .int .u8 0, .int .u8 0, .int .u8 0, .int .u8 0, .int .u8 0, .int .u8 0, .int .u8 0, .int .u8 0, .int .u8 0, .int .u8 0, .int .u8 0, .int .u8 0, .int .u8 0, .int .u8 0, .int .u8 0, .int .u8 0, .int .u8 0, .int .u8 0, .int .u8 0]], []⟩ 8 (by kernel_rfl) (by kernel_rfl) (by kernel_rfl) (by kernel_rfl)) rfl ?_ (by kernel_rfl) (by kernel_rfl) (by kernel_rfl) (by kernel_rfl) ?_
  · intro ds h
    match ds, h with | [d0, d1, d2], _ => rfl
  · intro W base args ds p hval hsz hA hlt hw
    obtain ⟨args⟩ := args
    match args, hsz, hval with
    | [a0, a1, a2], hsz, hval =>
      have n0 := NSt.empty W
      obtain ⟨k, wk, rk⟩ := argKey (t := 38) (by kernel_rfl) (hval 0 _ a0 (by kernel_rfl) rfl)
      obtain ⟨_, _, tb, ub⟩ := trod_get hA hw 1 _ a1 (by kernel_rfl) rfl
      obtain ⟨b, wb, lb, fb⟩ := argBytes (t := 50) (by kernel_rfl) (hval 1 _ a1 (by kernel_rfl) rfl) tb ub
      obtain ⟨_, x1, n1, rb⟩ := n0.arg fb
      obtain ⟨t, lt, wt, rt⟩ := argArr (k := .u8) (n := 64) (t := 65) (by kernel_rfl) rfl (hval 2 _ a2 (by kernel_rfl) rfl)
      exact law_runN XLh_ok Tryz.func6 (by kernel_rfl) LoopsOK.nil ((lawSH_run concGO k b t).trans (sh_true concGG concDG wk wb lb lt (by simpa [IntKind.bits] using wt))) n1 (.cons _ _ _ _ (rk _) (.cons _ _ _ _ rb (.cons _ _ _ _ (rt _) .nil)))
theorem signHonours_facts : joinedFacts Tryz.pinned.checked.prog 6 Tryz.f6 Rows.signHonoursSpec Rows.signHonoursRow = true := by
  show joinedFacts Tryz.prog 6 Tryz.f6 Rows.signHonoursSpec Rows.signHonoursRow = true
  unfold joinedFacts
  rw [liftsF, heardF, enterF, makeF]
  kernel_rfl
theorem signHonours_holds : Rows.SignHonoursSaid :=
  OpenClaim.holds_of_wide 6 Tryz.f6 rfl rfl rfl rfl rfl rfl rfl ⟨rfl, rfl, rfl, rfl, rfl⟩ rfl rfl rfl rfl rfl (by kernel_rfl) Tryz.func6 signHonours_facts
    (of_decide_eq_true (by kernel_rfl)) (by unfold Func.isWrapper; first | (rw [if_pos (by decide +kernel)]; kernel_rfl) | (rw [if_neg (by decide +kernel)]; exact ⟨rfl, rfl⟩))
    (fun os started H enc _ => signHonours_lifted os started H enc)
#print axioms signHonours_holds
end Go.Proofs.YtnnjaijokiknkaaGreat

