/- The law SignLends: every Lend is the document's; what is handed in stays: it answers true for every input. No conditions. -/
import Derived.Test.YtnnjaijokiknkaaGreatSj
namespace Go.Proofs.YtnnjaijokiknkaaGreat
open Go Pw Go.RowKit
noncomputable def slT (g : GOps) (k : K32) (b m : List Nat) : Option (AV × Option Blk) := gds [decide (0 + b.length ≤ b.length), decide ((tkL b.length b).length ≤ 140737488351232), decide (0 + m.length ≤ m.length), decide ((tkL m.length m).length ≤ 140737488351232),
    decide (0 ≤ (b.length : Int) ∧ (b.length : Int) ≤ (((tkL b.length b).length + 80 : Nat) : Int)), decide (0 ≤ (m.length : Int) ∧ (m.length : Int) ≤ (((tkL m.length m).length + 80 : Nat) : Int)),
    decide (0 + 0 * 1 + ((b.length : Int).toNat - 0) ≤ (hnA b).length), decide (0 + 0 * 1 + ((m.length : Int).toNat - 0) ≤ (hnA m).length), decide ((hnI b).length + 512 ≤ maxRoom),
    decide (0 + b.length ≤ b.length), decide (0 + m.length ≤ m.length), decide ((tkL b.length b).length + 512 ≤ maxRoom)]
  (brn (eqW 64 (lendV g k (hnI b) (hnI m)) (rlendV g k (tkL b.length b) (tkL m.length m))) (brn (decide ((bif is64 (hnI m) then (0 : Int) else 3) = bif is64 (tkL m.length m) then 0 else 3))
    (gds [decide (0 + ((tkL b.length b).length + 80) ≤ (hnA b).length), decide (0 + b.length ≤ b.length), decide (hnL b = handL (tkL b.length b) ∧ (tkL b.length b).length < 4611686018427387904),
      decide (0 + ((tkL m.length m).length + 80) ≤ (hnA m).length), decide (0 + m.length ≤ m.length), decide (hnL m = handL (tkL m.length m) ∧ (tkL m.length m).length < 4611686018427387904)] (some (.bool true, none))) noB) noB)
theorem lawSL_run (g : GOps) (k : K32) (b m : List Nat) : runNL (X_rlend g) [] [0,1,2,3,6,7,8,9,10,11,12,41,42,43,46,47,48,51,52,53] 500 Tryz.f5 (bodyOf Tryz.f5) (laArgs [.v (keyV k), .l b, .l m] 0) (laLists [.v (keyV k), .l b, .l m]) = slT g k b m := by kernel_rfl
theorem sl_true {g : GOps} (H : GGood g) (D : DGood g) {k : K32} (hk : k.wf) {b m : List Nat} (hb : ∀ c ∈ b, c < 256) (lb : b.length ≤ 140737488351232) (hm : ∀ c ∈ m, c < 256) (lm : m.length ≤ 140737488351232) : slT g k b m = some (.bool true, none) := by
  have hx : maxRoom = 175921860444160 := rfl
  unfold slT
  rw [hnI_eq, hnI_eq, hnL_eq, hnL_eq, hnA_eq, hnA_eq, tkL_eq, tkL_eq, hand_len, hand_len, gds_true]
  · rw [lend_eq H D hk hb hm, eqW_self, decide_eq_true rfl]
    show gds _ _ = _
    rw [gds_true]
    intro c hc
    simp only [List.mem_cons, List.not_mem_nil, or_false] at hc
    rcases hc with h | h | h | h | h | h
    · rw [h]; exact decide_eq_true (by omega)
    · rw [h]; exact decide_eq_true (by omega)
    · rw [h]; exact decide_eq_true ⟨trivial, by omega⟩
    · rw [h]; exact decide_eq_true (by omega)
    · rw [h]; exact decide_eq_true (by omega)
    · rw [h]; exact decide_eq_true ⟨trivial, by omega⟩
  · intro c hc
    simp only [List.mem_cons, List.not_mem_nil, or_false] at hc
    rcases hc with h | h | h | h | h | h | h | h | h | h | h | h <;> (rw [h]; exact decide_eq_true (by omega))
noncomputable abbrev XLl : Cx := X_rlend concGO
theorem XLl_ok : CxOK Tryz.prog XLl := X_rlend_ok
set_option maxRecDepth 100000 in
theorem signLends_lifted (os : Os) (started : os.Started) (H : Type) (enc : TypeId × Value → H) :
    ReturnsInHanded {} Tryz.checked os 5 .any (Rows.signLendsSpec.pre6 enc Tryz.prog Tryz.f5 Rows.signLendsRow.domain false) (Rows.signLendsSpec.post enc Tryz.prog Tryz.f5 false true false false) := by
  refine law_lifted (C := Tryz.checked) (tb := 4) (by kernel_rfl) started (by kernel_rfl) Tryz.func5
    (ChangeSpec.witness6 (enc := enc) (C := Tryz.checked) false ⟨#[], #[.agg #[.int .u8 0, .int .u8 0, .int .u8 0, .int .u8 0, .int .u8 0, .int .u8 0, .int .u8 0, .int .u8 0, .int .u8 0, .int .u8 0, .int .u8 0, .int .u8 0, .int .u8 0, .int .u8 0, .int .u8 0, .int .u8 0, .int .u8 0, .int .u8 0, .int .u8 0, .int .u8 0, .int .u8 0, .int .u8 0, .int .u8 0, .int .u8 0, .int .u8 0, .int .u8 0, .int .u8 0, .int .u8 0, .int .u8 0, .int .u8 0, .int .u8 0, .int .u8 0], .slice none 0 0, .slice none 0 0], []⟩ 8 (by kernel_rfl) (by kernel_rfl) (by kernel_rfl) (by kernel_rfl)) rfl ?_ (by kernel_rfl) (by kernel_rfl) (by kernel_rfl) (by kernel_rfl) ?_
  · intro ds h
    match ds, h with | [d0, d1, d2], _ => rfl
  · intro W base args ds p hval hsz hA hlt hw
    obtain ⟨args⟩ := args
    match args, hsz, hval with
    | [a0, a1, a2], hsz, hval =>
      have n0 := NSt.empty W
      obtain ⟨k, wk, rk⟩ := argKey (t := 38) (by kernel_rfl) (hval 0 _ a0 (by kernel_rfl) rfl)
      obtain ⟨_, _, tb, ub⟩ := trod_get hA hw 1 _ a1 (by kernel_rfl) rfl
      obtain ⟨b, wb, lb, fb⟩ := argBytes (t := 50) (by kernel_rfl) (hval 1 _ a1 (by kernel_rfl) rfl) tb ub
      obtain ⟨_, x1, n1, rb⟩ := n0.arg fb
      obtain ⟨_, _, tm, um⟩ := trod_get hA hw 2 _ a2 (by kernel_rfl) rfl
      obtain ⟨m, wm, lm, fm⟩ := argBytes (t := 50) (by kernel_rfl) (hval 2 _ a2 (by kernel_rfl) rfl) tm um
      obtain ⟨_, x2, n2, rm⟩ := n1.arg fm
      exact law_runN XLl_ok Tryz.func5 (by kernel_rfl) LoopsOK.nil ((lawSL_run concGO k b m).trans (sl_true concGG concDG wk wb lb wm lm)) n2 (.cons _ _ _ _ (rk _) (.cons _ _ _ _ (R.ext x2 rb) (.cons _ _ _ _ rm .nil)))
theorem signLends_facts : joinedFacts Tryz.pinned.checked.prog 5 Tryz.f5 Rows.signLendsSpec Rows.signLendsRow = true := by
  show joinedFacts Tryz.prog 5 Tryz.f5 Rows.signLendsSpec Rows.signLendsRow = true
  unfold joinedFacts
  rw [liftsF, heardF, enterF, makeF]
  kernel_rfl
theorem signLends_holds : Rows.SignLendsSaid :=
  OpenClaim.holds_of_wide 5 Tryz.f5 rfl rfl rfl rfl rfl rfl rfl ⟨rfl, rfl, rfl, rfl, rfl⟩ rfl rfl rfl rfl rfl (by kernel_rfl) Tryz.func5 signLends_facts
    (of_decide_eq_true (by kernel_rfl)) (by unfold Func.isWrapper; first | (rw [if_pos (by decide +kernel)]; kernel_rfl) | (rw [if_neg (by decide +kernel)]; exact ⟨rfl, rfl⟩))
    (fun os started H enc _ => signLends_lifted os started H enc)
#print axioms signLends_holds
end Go.Proofs.YtnnjaijokiknkaaGreat

