/- The law SignParts: through layers 2, 18 and 19: what a signature says: it answers true for every input. No conditions. -/
import Derived.Test.YtnnjaijokiknkaaSz
namespace Go.Proofs.Ytnnjaijokiknkaa
open Go Pw Go.RowKit
def spC (s : List Nat) : Bool := !decide ((bif is32 s then (0 : Int) else 3) = 0)
noncomputable def spE (g : GOps) (p : K32) (t b bb : List Nat) : Option (AV × Option Blk) :=
  brn (!decide ((g.e.parse (keyAt t 0)).2 = 0)) noB (brn (!decide ((g.e.swhole (keyAt t 32)).2 = 0)) noB (brn (!decide ((g.e.parse p).2 = 0)) noB
    (gds (catG (keyAt t 0).toList p.toList b bb)
      (brn (g.e.equal (g.e.times g.e.base (g.e.swhole (keyAt t 32)).1) (g.e.padd (g.e.parse (keyAt t 0)).1 (g.e.times (g.e.parse p).1 (redG g (catX (keyAt t 0).toList p.toList bb))))) (some (.bool true, none)) noB))))
noncomputable def spT (g : GOps) (s b ss bb : List Nat) : Option (AV × Option Blk) :=
  brn (!decide ((s.length : Int) = 32)) (some (.bool true, none))
    (gds [decide (0 + s.length ≤ s.length), decide (ss.length + 128 ≤ maxRoom), decide (0 + s.length ≤ s.length), decide (0 + s.length ≤ s.length), decide (0 + b.length ≤ b.length), decide (bb.length + 512 ≤ maxRoom)]
      (brn (spC ss) noB (brn (spC ss) noB (brn (!keyEq (pubV g ss) (g.e.bytes (g.e.scale g.e.base (clampS (keyAt (g.hash ss) 0)).toList))) noB
        (spE g (pubV g ss) (signV g ss bb) b bb)))))
theorem lawSP_run (g : GOps) (s b : List Nat) : runNL (X_vectors20 g) [] [0,1,4,5,6,7,8,9,10,11,12,13,14,15,16,17,18,19,22,45,46,49,50,51,52,53,54,55,80,81,84,85,86,106] 900 Try.f18 (bodyOf Try.f18) (laArgs [.l s, .l b] 0) (laLists [.l s, .l b]) = spT g s b (tkL s.length s) (tkL b.length b) := by kernel_rfl
theorem eqn2 (a c r : Nat) : BP.mul ((r + c * (a % LN) % LN) % LN) = (BP.mul r).add ((BP.mul a).mul c) := by
  have h := eqn a c r
  rw [← h, EP.add_assoc, EP.neg_add, EP.add_zero]
theorem sp_made {g : GOps} (H : GGood g) {r s a : K32} {n m : Nat} {b : List Nat} (hr : NK r n) (hs : NK s (8 * m % LN)) (ha : EncK a (BP.mul (8 * m))) (lb : b.length ≤ 140737488351232) :
    spE g a (madeV g r s a b) b b = some (.bool true, none) := by
  obtain ⟨h1, h2⟩ := enc_inj ha (H.e.parse ha.wf)
  have hP : EncK (mdP g r) (BP.mul n) := by
    have := H.e.bytes (H.e.times H.e.base hr.wf)
    rwa [hr.val] at this
  obtain ⟨h3, h4⟩ := enc_inj hP (H.e.parse hP.wf)
  have hc : NK (mdC g r a b) _ := red_any H _
  have hS : NK (mdS g r s a b) _ := H.e.sadd hr (H.e.smul hc hs)
  have hw : g.e.swhole (mdS g r s a b) = (mdS g r s a b, 0) := by
    rw [H.e.swhole hS.wf, hS.val, decide_eq_true hS.lt, cond_true]
  have e1 : redG g (catX (mdP g r).toList a.toList b) = mdC g r a b := by
    rw [catX_eq]
    rfl
  have he : g.e.equal (g.e.times g.e.base (mdS g r s a b)) (g.e.padd (g.e.parse (mdP g r)).1 (g.e.times (g.e.parse a).1 (mdC g r a b))) = true := by
    rw [H.e.equal (H.e.times H.e.base hS.wf) (H.e.padd h4 (H.e.times h2 hc.wf)), hS.val, hc.val]
    exact decide_eq_true (eqn2 _ _ _)
  unfold spE madeV
  rw [key_0, key_32, gds_true (catG_ok lb), h3, hw, h1, e1, he]
  rfl
theorem sp_true {g : GOps} (H : GGood g) {s b : List Nat} (lb : b.length ≤ 140737488351232) : spT g s b (tkL s.length s) (tkL b.length b) = some (.bool true, none) := by
  have hm : maxRoom = 175921860444160 := rfl
  rw [tkL_eq, tkL_eq]
  show brn (!is32 s) _ _ = _
  cases h : is32 s
  · rfl
  · have hl := is32_iff.1 h
    have hkw : (keyAt (g.hash s) 0).wf := keyAt_wf (H.hb s).1 0
    obtain ⟨m, e, h0, hm2⟩ := sec_bounds hkw
    have ew : (secK g s).wf := clampS_wf hkw
    have ev : leVal (secK g s) = 8 * m := e
    have hA := H.e.bytes (H.e.scale (b := (secK g s).toList) H.e.base ew)
    rw [leB_key, ev] at hA
    have hs : NK (sgS g s) (8 * m % LN) := by
      have := H.e.sred (b := (secK g s).toList) ew
      rw [leB_key, ev] at this
      exact this
    have hp : pubV g s = pubK g s := by unfold pubV; rw [h]; rfl
    have hv : signV g s b = madeV g (sgR g s b) (sgS g s) (pubK g s) b := by unfold signV; rw [h]; rfl
    have hk : keyEq (pubK g s) (g.e.bytes (g.e.scale g.e.base (clampS (keyAt (g.hash s) 0)).toList)) = true := keyEq_self _
    have hc : spC s = false := by unfold spC; rw [h]; rfl
    have hE := sp_made H (red_any H (preL g s ++ b)) hs hA lb
    rw [hp, hv, hk, hc, gds_true]
    · exact hE
    · intro c hc
      simp only [List.mem_cons, List.not_mem_nil, or_false] at hc
      rcases hc with h | h | h | h | h | h <;> (rw [h]; exact decide_eq_true (by omega))
noncomputable abbrev XM7 : Cx := X_vectors20 concGO
theorem XM7_ok : CxOK Try.prog XM7 := X_vectors20_ok
set_option maxRecDepth 100000 in
theorem signParts_lifted (os : Os) (started : os.Started) (H : Type) (enc : TypeId × Value → H) :
    ReturnsInHanded {} Try.checked os 18 .any (Rows.signPartsSpec.pre6 enc Try.prog Try.f18 Rows.signPartsRow.domain false) (Rows.signPartsSpec.post enc Try.prog Try.f18 false true false false) := by
  refine law_lifted (C := Try.checked) (tb := 4) (by kernel_rfl) started (by kernel_rfl) Try.func18
    (ChangeSpec.witness6 (enc := enc) (C := Try.checked) false ⟨#[], #[.slice none 0 0, .slice none 0 0], []⟩ 8 (by kernel_rfl) (by kernel_rfl) (by kernel_rfl) (by kernel_rfl)) rfl ?_ (by kernel_rfl) (by kernel_rfl) (by kernel_rfl) (by kernel_rfl) ?_
  · intro ds h
    match ds, h with | [d0, d1], _ => rfl
  · intro W base args ds p hval hsz hA hlt hw
    obtain ⟨args⟩ := args
    match args, hsz, hval with
    | [a0, a1], hsz, hval =>
      have n0 := NSt.empty W
      obtain ⟨_, _, ts, us⟩ := trod_get hA hw 0 _ a0 (by kernel_rfl) rfl
      obtain ⟨s, ws, ls, fs⟩ := argBytes (t := 24) (by kernel_rfl) (hval 0 _ a0 (by kernel_rfl) rfl) ts us
      obtain ⟨_, x1, n1, rs⟩ := n0.arg fs
      obtain ⟨_, _, tb, ub⟩ := trod_get hA hw 1 _ a1 (by kernel_rfl) rfl
      obtain ⟨b, wb, lb, fb⟩ := argBytes (t := 24) (by kernel_rfl) (hval 1 _ a1 (by kernel_rfl) rfl) tb ub
      obtain ⟨_, x2, n2, rb⟩ := n1.arg fb
      exact law_runN XM7_ok Try.func18 (by kernel_rfl) LoopsOK.nil ((lawSP_run concGO s b).trans (sp_true concGG lb)) n2 (.cons _ _ _ _ (R.ext x2 rs) (.cons _ _ _ _ rb .nil))
theorem signParts_facts : joinedFacts Try.pinned.checked.prog 18 Try.f18 Rows.signPartsSpec Rows.signPartsRow = true := by
  show joinedFacts Try.prog 18 Try.f18 Rows.signPartsSpec Rows.signPartsRow = true
  unfold joinedFacts
  rw [liftsF, heardF, enterF, makeF]
  kernel_rfl
theorem signParts_holds : Rows.SignPartsSaid :=
  OpenClaim.holds_of_wide 18 Try.f18 rfl rfl rfl rfl rfl rfl rfl ⟨rfl, rfl, rfl, rfl, rfl⟩ rfl rfl rfl rfl rfl (by kernel_rfl) Try.func18 signParts_facts
    (of_decide_eq_true (by kernel_rfl)) (by unfold Func.isWrapper; first | (rw [if_pos (by decide +kernel)]; kernel_rfl) | (rw [if_neg (by decide +kernel)]; exact ⟨rfl, rfl⟩))
    (fun os started H enc _ => signParts_lifted os started H enc)
#print axioms signParts_holds
end Go.Proofs.Ytnnjaijokiknkaa

