/- The law SignDresses: Honour is Check of the lifted point: it answers true for every input. No conditions. -/
import Derived.Test.YtnnjaijokiknkaaSx
namespace Go.Proofs.Ytnnjaijokiknkaa
open Go Pw Go.RowKit
def sdG (b : List Nat) : List Bool := [decide (0 + b.length ≤ b.length), decide ((tkL b.length b).length + 512 ≤ maxRoom)]
noncomputable def sdT (g : GOps) (u : K32) (b t : List Nat) : Option (AV × Option Blk) :=
  gds (sdG b) (brn (!decide ((g.e.lift u false).2 = 0)) (some (.bool (decide (honourV g u (tkL b.length b) (resp 64 t) = 190)), none))
    (brn (!keyEq (g.e.fo.bytes (g.e.fo.frm u)) u) (some (.bool (decide (honourV g u (tkL b.length b) (resp 64 t) = 190)), none))
      (gds (sdG b) (some (.bool (decide (honourV g u (tkL b.length b) (resp 64 t) = checkV g (g.e.bytes (g.e.lift u false).1) (tkL b.length b) (resp 64 t))), none)))))
theorem lawSD_run (g : GOps) (u : K32) (b t : List Nat) : runNL (X_vectors20 g) [] [0,1,2,3,5,6,7,8,9,11,24,25,26,27,28,29] 500 Try.f3 (bodyOf Try.f3) (laArgs [.v (keyV u), .l b, .v (b64V t)] 0) (laLists [.v (keyV u), .l b, .v (b64V t)]) = sdT g u b t := by kernel_rfl
theorem hold_same {g : GOps} (H : GGood g) {p q : Rungs} {P : EPt} (hp : PO p P) (hq : PO q P) {b t : List Nat} (ht : (keyAt t 32).wf) : holdV g p b t = holdV g q b t := by
  have e1 : g.e.small p = g.e.small q := by rw [H.e.small hp, H.e.small hq]
  have e2 : g.e.bytes p = g.e.bytes q := (H.e.bytes hp).uniq (H.e.bytes hq)
  have e3 : hlC g p b t = hlC g q b t := by unfold hlC; rw [e2]
  have hc : NK (hlC g q b t) _ := red_any H _
  have hw : (hlW g t).1.wf := by
    unfold hlW
    rw [H.e.swhole ht]
    cases decide (leVal (keyAt t 32) < LN)
    · exact zeroK_wf
    · exact ht
  have e4 : hlB g p b t = hlB g q b t := by
    have h1 := H.e.bytes (H.e.psub (H.e.times H.e.base hw) (H.e.times hp hc.wf))
    have h2 := H.e.bytes (H.e.psub (H.e.times H.e.base hw) (H.e.times hq hc.wf))
    unfold hlB
    rw [e3]
    exact h1.uniq h2
  unfold holdV
  rw [e1, e4]
theorem sd_true {g : GOps} (H : GGood g) {u : K32} {b t : List Nat} (hu : u.wf) (lb : b.length ≤ 140737488351232) (ht : ∀ c ∈ t, c < 256) : sdT g u b t = some (.bool true, none) := by
  have hm : maxRoom = 175921860444160 := rfl
  have hg : ∀ c ∈ sdG b, c = true := by
    intro c hc
    unfold sdG at hc
    rw [tkL_eq] at hc
    simp only [List.mem_cons, List.not_mem_nil, or_false] at hc
    rcases hc with h | h <;> (rw [h]; exact decide_eq_true (by omega))
  have hr : ∀ c ∈ resp 64 t, c < 256 := by
    intro c hc
    unfold resp at hc
    obtain ⟨i, -, rfl⟩ := List.mem_map.1 hc
    rw [List.getD_eq_getElem?_getD]
    by_cases hi : i < t.length
    · rw [List.getElem?_eq_getElem hi]; exact ht _ (List.getElem_mem hi)
    · rw [List.getElem?_eq_none (by omega)]; decide
  unfold sdT
  rw [gds_true hg, gds_true hg, tkL_eq]
  generalize resp 64 t = r at *
  rcases H.e.lift false hu with ⟨P, h1, h2, h3⟩ | ⟨h1, h2, h3⟩
  · have hB := H.e.bytes h3
    obtain ⟨g1, g2⟩ := enc_inj hB (H.e.parse hB.wf)
    have e := hold_same H h3 g2 (b := b) (t := r) (keyAt_wf hr 32)
    have hon : honourV g u b r = bif keyEq (g.e.fo.bytes (g.e.fo.frm u)) u && true then holdV g (g.e.lift u false).1 b r else 190 := by
      unfold honourV hnK
      rw [h2]; rfl
    have hch : checkV g (g.e.bytes (g.e.lift u false).1) b r = holdV g (g.e.lift u false).1 b r := by
      unfold checkV
      rw [g1, e]; rfl
    rw [hon, hch, h2]
    show brn (!keyEq (g.e.fo.bytes (g.e.fo.frm u)) u) _ _ = _
    cases keyEq (g.e.fo.bytes (g.e.fo.frm u)) u
    · rfl
    · show some (AV.bool (decide (holdV g (g.e.lift u false).1 b r = holdV g (g.e.lift u false).1 b r)), none) = _
      rw [decide_eq_true rfl]
  · have hon : honourV g u b r = 190 := by
      unfold honourV
      rw [h2]
      cases hnK g u <;> rfl
    rw [hon, h2]
    rfl
noncomputable abbrev XM3 : Cx := X_vectors20 concGO
theorem XM3_ok : CxOK Try.prog XM3 := X_vectors20_ok
set_option maxRecDepth 100000 in
theorem signDresses_lifted (os : Os) (started : os.Started) (H : Type) (enc : TypeId × Value → H) :
    ReturnsInHanded {} Try.checked os 3 .any (Rows.signDressesSpec.pre6 enc Try.prog Try.f3 Rows.signDressesRow.domain false) (Rows.signDressesSpec.post enc Try.prog Try.f3 false true false false) := by
  refine law_lifted (C := Try.checked) (tb := 4) (by kernel_rfl) started (by kernel_rfl) Try.func3
    (ChangeSpec.witness6 (enc := enc) (C := Try.checked) false ⟨#[], #[.agg #[.int .u8 0, .int .u8 0, .int .u8 0, .int .u8 0, .int .u8 0, .int .u8 0, .int .u8 0, .int .u8 0, .int .u8 0, .int .u8 0, .int .u8 0, .int .u8 0, .int .u8 0, .int .u8 0, .int .u8 0, .int .u8 0, .int .u8 0, .int .u8 0, .int .u8 0, .int .u8 0, .int .u8 0, .int .u8 0, .int .u8 0, .int .u8 0, .int .u8 0, .int .u8 0, .int .u8 0, .int .u8 0, .int .u8 0, .int .u8 0, .int .u8 0, .int .u8 0], .slice none 0 0, .agg #[.int .u8 0, .int .u8 0, .int .u8 0, .int .u8 0, .int .u8 0, .int .u8 0, .int .u8 0, .int .u8 0, .int .u8 0, .int .u8 0, .int .u8 0, .int .u8 0, .int .u8 0, .int .u8 0, .int .u8 0, .int .u8 0, .int .u8 0, .int .u8 0, .int .u8 0, .int .u8 0, .int .u8 0, .int .u8 0, .int .u8 0, .int .u8 0, .int .u8 0, .int .u8 0, .int .u8 0, .int .u8 0, .int .u8 0, .int .u8 0, .int .u8 0, .int .u8 0, .int .u8 0, .int .u8 0, .int .u8 0, .int .u8 0, .int .u8 0, .int .u8 0, .int .u8 0, .int .u8 0, .int .u8 0, .int .u8 0, .int .u8 0, .int .u8 0, .int .u8 0, .int .u8 0, .int .u8 0, .int .u8 0, .int .u8 0, .int .u8 0, .int .u8 0, .int .u8 0, .int .u8 0, .int .u8 0, .int .u8 0, .int .u8 0, .int .u8 0, .int .u8 0, .int .u8 0, .int .u8 0, .int .u8 0, .int .u8 0, .int .u8 0, .int .u8 0]], []⟩ 8 (by kernel_rfl) (by kernel_rfl) (by kernel_rfl) (by kernel_rfl)) rfl ?_ (by kernel_rfl) (by kernel_rfl) (by kernel_rfl) (by kernel_rfl) ?_
  · intro ds h
    match ds, h with | [d0, d1, d2], _ => rfl
  · intro W base args ds p hval hsz hA hlt hw
    obtain ⟨args⟩ := args
    match args, hsz, hval with
    | [a0, a1, a2], hsz, hval =>
      have n0 := NSt.empty W
      obtain ⟨u, wu, ru⟩ := argKey (t := 23) (by kernel_rfl) (hval 0 _ a0 (by kernel_rfl) rfl)
      obtain ⟨_, _, tb, ub⟩ := trod_get hA hw 1 _ a1 (by kernel_rfl) rfl
      obtain ⟨b, wb, lb, fb⟩ := argBytes (t := 24) (by kernel_rfl) (hval 1 _ a1 (by kernel_rfl) rfl) tb ub
      obtain ⟨_, x1, n1, rb⟩ := n0.arg fb
      obtain ⟨t, lt, wt, rt⟩ := argArr (k := .u8) (n := 64) (t := 26) (by kernel_rfl) rfl (hval 2 _ a2 (by kernel_rfl) rfl)
      exact law_runN XM3_ok Try.func3 (by kernel_rfl) LoopsOK.nil ((lawSD_run concGO u b t).trans (sd_true concGG wu lb (by simpa [IntKind.bits] using wt))) n1 (.cons _ _ _ _ (ru _) (.cons _ _ _ _ rb (.cons _ _ _ _ (rt _) .nil)))
theorem signDresses_facts : joinedFacts Try.pinned.checked.prog 3 Try.f3 Rows.signDressesSpec Rows.signDressesRow = true := by
  show joinedFacts Try.prog 3 Try.f3 Rows.signDressesSpec Rows.signDressesRow = true
  unfold joinedFacts
  rw [liftsF, heardF, enterF, makeF]
  kernel_rfl
theorem signDresses_holds : Rows.SignDressesSaid :=
  OpenClaim.holds_of_wide 3 Try.f3 rfl rfl rfl rfl rfl rfl rfl ⟨rfl, rfl, rfl, rfl, rfl⟩ rfl rfl rfl rfl rfl (by kernel_rfl) Try.func3 signDresses_facts
    (of_decide_eq_true (by kernel_rfl)) (by unfold Func.isWrapper; first | (rw [if_pos (by decide +kernel)]; kernel_rfl) | (rw [if_neg (by decide +kernel)]; exact ⟨rfl, rfl⟩))
    (fun os started H enc _ => signDresses_lifted os started H enc)
#print axioms signDresses_holds
end Go.Proofs.Ytnnjaijokiknkaa

