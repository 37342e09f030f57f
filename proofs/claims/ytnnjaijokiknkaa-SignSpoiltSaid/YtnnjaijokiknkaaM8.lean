/- The law SignSpoilt: whatever is turned: Check takes it just if the equation holds: it answers true for every input. No conditions. -/
import Derived.Test.YtnnjaijokiknkaaSz
namespace Go.Proofs.Ytnnjaijokiknkaa
open Go Pw Go.RowKit
def ssB (g : GOps) (k : K32) (bb t : List Nat) : K32 := g.e.bytes (g.e.psub (g.e.times g.e.base (g.e.swhole (keyAt t 32)).1) (g.e.times (g.e.parse k).1 (redG g (catX (keyAt t 0).toList k.toList bb))))
noncomputable def ssT (g : GOps) (k : K32) (b t bb u : List Nat) : Option (AV × Option Blk) :=
  gds [decide (0 + b.length ≤ b.length), decide (bb.length + 512 ≤ maxRoom)]
    (brn (!decide ((g.e.parse k).2 = 0)) (some (.bool (!decide (checkV g k bb u = 0)), none)) (brn (g.e.small (g.e.parse k).1) (some (.bool (!decide (checkV g k bb u = 0)), none))
      (brn (!decide ((g.e.swhole (keyAt t 32)).2 = 0)) (some (.bool (!decide (checkV g k bb u = 0)), none))
        (gds (catG (keyAt t 0).toList k.toList b bb)
          (brn (decide (checkV g k bb u = 0) == keyEq (ssB g k bb t) (keyAt t 0)) (some (.bool (decide (checkV g k bb u = 201) == !keyEq (ssB g k bb t) (keyAt t 0)), none)) noB)))))
theorem lawSS_run (g : GOps) (k : K32) (b t : List Nat) : runNL (X_vectors20 g) [] [0,1,2,3,5,6,7,8,9,10,11,12,13,14,15,17,41,42,45,46,47,74,75,76,77,78] 900 Try.f19 (bodyOf Try.f19) (laArgs [.v (keyV k), .l b, .v (b64V t)] 0) (laLists [.v (keyV k), .l b, .v (b64V t)]) = ssT g k b t (tkL b.length b) (resp 64 t) := by kernel_rfl
theorem keyAt_resp (t : List Nat) : keyAt (resp 64 t) 0 = keyAt t 0 ∧ keyAt (resp 64 t) 32 = keyAt t 32 := ⟨rfl, rfl⟩
theorem ss_true {g : GOps} (H : GGood g) {k : K32} {b t : List Nat} (hk : k.wf) (lb : b.length ≤ 140737488351232) : ssT g k b t (tkL b.length b) (resp 64 t) = some (.bool true, none) := by
  have hm : maxRoom = 175921860444160 := rfl
  rw [tkL_eq]
  unfold ssT
  rw [gds_true (l := [decide (0 + b.length ≤ b.length), decide (b.length + 512 ≤ maxRoom)])]
  · rcases H.e.parse hk with ⟨P, h1, h2, h3⟩ | ⟨-, h2, -⟩
    · have hB : g.e.bytes (g.e.parse k).1 = k := (H.e.bytes h3).uniq h1
      have e1 : checkV g k b (resp 64 t) = holdV g (g.e.parse k).1 b (resp 64 t) := by
        unfold checkV
        rw [h2]; rfl
      have e2 : hlB g (g.e.parse k).1 b (resp 64 t) = ssB g k b t := by
        unfold hlB ssB hlC hlW
        rw [hB, (keyAt_resp t).1, (keyAt_resp t).2, catX_eq]
      have e3 : holdV g (g.e.parse k).1 b (resp 64 t) = bif g.e.small (g.e.parse k).1 then 200 else bif !decide ((g.e.swhole (keyAt t 32)).2 = 0) then 191 else bif !keyEq (ssB g k b t) (keyAt t 0) then 201 else 0 := by
        unfold holdV
        rw [e2, (keyAt_resp t).1]
        rfl
      rw [e1, e3, h2, gds_true (catG_ok lb)]
      generalize ssB g k b t = x
      generalize g.e.small (g.e.parse k).1 = c1
      generalize decide ((g.e.swhole (keyAt t 32)).2 = 0) = c2
      generalize keyEq x (keyAt t 0) = c3
      cases c1 <;> cases c2 <;> cases c3 <;> rfl
    · have e1 : checkV g k b (resp 64 t) = 190 := by
        unfold checkV
        rw [h2]; rfl
      rw [e1, h2]
      rfl
  · intro c hc
    simp only [List.mem_cons, List.not_mem_nil, or_false] at hc
    rcases hc with h | h <;> (rw [h]; exact decide_eq_true (by omega))
noncomputable abbrev XM8 : Cx := X_vectors20 concGO
theorem XM8_ok : CxOK Try.prog XM8 := X_vectors20_ok
set_option maxRecDepth 100000 in
theorem signSpoilt_lifted (os : Os) (started : os.Started) (H : Type) (enc : TypeId × Value → H) :
    ReturnsInHanded {} Try.checked os 19 .any (Rows.signSpoiltSpec.pre6 enc Try.prog Try.f19 Rows.signSpoiltRow.domain false) (Rows.signSpoiltSpec.post enc Try.prog Try.f19 false true false false) := by
  refine law_lifted (C := Try.checked) (tb := 4) (by kernel_rfl) started (by kernel_rfl) Try.func19
    (ChangeSpec.witness6 (enc := enc) (C := Try.checked) false ⟨#[], #[.agg #[.int .u8 0, .int .u8 0, .int .u8 0, .int .u8 0, .int .u8 0, .int .u8 0, .int .u8 0, .int .u8 0, .int .u8 0, .int .u8 0, .int .u8 0, .int .u8 0, .int .u8 0, .int .u8 0, .int .u8 0, .int .u8 0, .int .u8 0, .int .u8 0, .int .u8 0, .int .u8 0, .int .u8 0, .int .u8 0, .int .u8 0, .int .u8 0, .int .u8 0, .int .u8 0, .int .u8 0, .int .u8 0, .int .u8 0, .int .u8 0, .int .u8 0, .int .u8 0], .slice none 0 0, .agg #[.int .u8 0, .int .u8 0, .int .u8 0, .int .u8 0, .int .u8 0, .int .u8 0, .int .u8 0, .int .u8 0, .int .u8 0, .int .u8 0, .int .u8 0, .int .u8 0, .int .u8 0, .int .u8 0, .int .u8 0, .int .u8 0, .int .u8 0, .int .u8 0, .int .u8 0, .int .u8 0, .int .u8 0, .int .u8 0, .int .u8 0, .int .u8 0, .int .u8 0, .int .u8 0, .int .u8 0, .int .u8 0, .int .u8 0, .int .u8 0, .int .u8 0, .int .u8 0, .int .u8 0, .int .u8 0, .int .u8 0, .int .u8 0, .int .u8 0, .int .u8 0, .int .u8 0, .int .u8 0, .int .u8 0, .int .u8 0, .int .u8 0, .int .u8 0, .int .u8 0, .int .u8 0, .int .u8 0, .int .u8 0, .int .u8 0, .int .u8 0, .int .u8 0, .int .u8 0, .int .u8 0, .int .u8 0, .int .u8 0, .int .u8 0, .int .u8 0, .int .u8 0, .int .u8 0, .int .u8 0, .int .u8 0, .int .u8 0, .int .u8 0, .int .u8 0]], []⟩ 8 (by kernel_rfl) (by kernel_rfl) (by kernel_rfl) (by kernel_rfl)) rfl ?_ (by kernel_rfl) (by kernel_rfl) (by kernel_rfl) (by kernel_rfl) ?_
  · intro ds h
    match ds, h with | [d0, d1, d2], _ => rfl
  · intro W base args ds p hval hsz hA hlt hw
    obtain ⟨args⟩ := args
    match args, hsz, hval with
    | [a0, a1, a2], hsz, hval =>
      have n0 := NSt.empty W
      obtain ⟨k, wk, rk⟩ := argKey (t := 23) (by kernel_rfl) (hval 0 _ a0 (by kernel_rfl) rfl)
      obtain ⟨_, _, tb, ub⟩ := trod_get hA hw 1 _ a1 (by kernel_rfl) rfl
      obtain ⟨b, wb, lb, fb⟩ := argBytes (t := 24) (by kernel_rfl) (hval 1 _ a1 (by kernel_rfl) rfl) tb ub
      obtain ⟨_, x1, n1, rb⟩ := n0.arg fb
      obtain ⟨t, lt, wt, rt⟩ := argArr (k := .u8) (n := 64) (t := 26) (by kernel_rfl) rfl (hval 2 _ a2 (by kernel_rfl) rfl)
      exact law_runN XM8_ok Try.func19 (by kernel_rfl) LoopsOK.nil ((lawSS_run concGO k b t).trans (ss_true concGG wk lb)) n1 (.cons _ _ _ _ (rk _) (.cons _ _ _ _ rb (.cons _ _ _ _ (rt _) .nil)))
theorem signSpoilt_facts : joinedFacts Try.pinned.checked.prog 19 Try.f19 Rows.signSpoiltSpec Rows.signSpoiltRow = true := by
  show joinedFacts Try.prog 19 Try.f19 Rows.signSpoiltSpec Rows.signSpoiltRow = true
  unfold joinedFacts
  rw [liftsF, heardF, enterF, makeF]
  kernel_rfl
theorem signSpoilt_holds : Rows.SignSpoiltSaid :=
  OpenClaim.holds_of_wide 19 Try.f19 rfl rfl rfl rfl rfl rfl rfl ⟨rfl, rfl, rfl, rfl, rfl⟩ rfl rfl rfl rfl rfl (by kernel_rfl) Try.func19 signSpoilt_facts
    (of_decide_eq_true (by kernel_rfl)) (by unfold Func.isWrapper; first | (rw [if_pos (by decide +kernel)]; kernel_rfl) | (rw [if_neg (by decide +kernel)]; exact ⟨rfl, rfl⟩))
    (fun os started H enc _ => signSpoilt_lifted os started H enc)
#print axioms signSpoilt_holds
end Go.Proofs.Ytnnjaijokiknkaa

