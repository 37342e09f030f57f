/- Layer 20: the document's Public; what the variables stand for. -/
import Derived.Test.YtnnjaijokiknkaaSf
namespace Go.Proofs.Ytnnjaijokiknkaa
open Go Pw Go.RowKit
def rpubK (g : GOps) (seed : List Nat) : K32 := g.e.rbytes (g.e.rscale g.e.rbase (rsecK g seed).toList)
def rpubV (g : GOps) (seed : List Nat) : K32 := bif is32 seed then rpubK g seed else zeroK
noncomputable def rpubT (g : GOps) (seed : List Nat) : Option (AV × Option Blk) := brn (!is32 seed) (some (.tup [keyV zeroK, .n 3], none)) (gds [decide (0 + seed.length ≤ seed.length), decide ((tkL seed.length seed).length + 256 ≤ maxRoom)] (some (.tup [keyV (rpubK g (tkL seed.length seed)), .n 0], none)))
theorem rpubT_eq (g : GOps) (seed : List Nat) : rpubT g seed = some (.tup [keyV (rpubV g seed), .n (bif is32 seed then 0 else 3)], none) := by
  unfold rpubT rpubV
  cases h : is32 seed
  · rfl
  · have hl := is32_iff.1 h
    have hm : maxRoom = 175921860444160 := rfl
    rw [tkL_eq, decide_eq_true (show 0 + seed.length ≤ seed.length by omega), decide_eq_true (show seed.length + 256 ≤ maxRoom by omega)]
    rfl
theorem rpub_run (g : GOps) (seed : List Nat) : runNL (X_rparts g) [] [0,2,3,4,8] 400 Try.f77 (bodyOf Try.f77) (laArgs [.l seed] 0) (laLists [.l seed]) = rpubT g seed := by
  kernel_rfl
def g_rpub (g : GOps) (args : List LA) : Option (AV × Option Blk) := match args with
  | [.l seed] => some (.tup [keyV (rpubV g seed), .n (bif is32 seed then 0 else 3)], none)
  | _ => none
theorem rpub_at : QuietAt Try.prog 77 (lav (g_rpub concGO)) := by
  refine quietAt_of_runA X_rparts_ok (L := []) (keep := [0,2,3,4,8]) Try.func77 (c := bodyOf Try.f77) (by kernel_rfl) (by kernel_rfl) (LoopsOK.nil) fun args v h hw => ⟨400, ?_⟩
  unfold g_rpub at h
  split at h
  · rename_i seed
    rw [← h]
    refine (rpub_run concGO seed).trans ?_
    exact rpubT_eq concGO seed
  · cases h
noncomputable def X_rpub (g : GOps) : Cx := { X_rparts g with O := addQ (X_rparts g).O 77 (lav (g_rpub g)) }
theorem X_rpub_ok : CxOK Try.prog (X_rpub concGO) := { X_rparts_ok with quiet := addQ_ok X_rparts_ok.quiet rpub_at }
/-! ### what the variables stand for -/
structure GGood (g : GOps) : Prop where
  e : EGood g.e
  f : FGood g.e.fo
  hash : ∀ {b : List Nat}, (∀ c ∈ b, c < 256) → g.hash b = g.rhash b
  hb : ∀ b : List Nat, (∀ c ∈ g.hash b, c < 256) ∧ (g.hash b).length = 64
theorem concE_fo' : concE.fo = concFOps := by kernel_rfl
theorem bytesW_lt (w : List Nat) : ∀ c ∈ bytesW w, c < 256 := by
  intro c hc
  unfold bytesW at hc
  obtain ⟨i, -, rfl⟩ := List.mem_map.1 hc
  exact Nat.mod_lt _ (by decide)
theorem concGG : GGood concGO where
  e := concEG
  f := by
    show FGood concE.fo
    rw [concE_fo']; exact concGood
  hash h := hash_eq h
  hb b := ⟨bytesW_lt _, bytesW_len _⟩
theorem keyAt_wf {t : List Nat} (h : ∀ c ∈ t, c < 256) (o : Nat) : (keyAt t o).wf := by
  have hg : ∀ i, t.getD i 0 < 256 := fun i => by
    rw [List.getD_eq_getElem?_getD]
    by_cases hi : i < t.length
    · rw [List.getElem?_eq_getElem hi]; exact h _ (List.getElem_mem hi)
    · rw [List.getElem?_eq_none (by omega)]; decide
  intro b hb
  simp only [keyAt, K32.ofFn, K32.toList, List.mem_cons, List.not_mem_nil, or_false] at hb
  rcases hb with h | h | h | h | h | h | h | h | h | h | h | h | h | h | h | h | h | h | h | h | h | h | h | h | h | h | h | h | h | h | h | h <;> (rw [h]; exact hg _)
theorem byte_low : ∀ b, b < 256 → b &&& 248 = b / 8 * 8 % 256 := by decide +kernel
theorem byte_high : ∀ b, b < 256 → b &&& 127 ||| 64 = (b % 64 + 64) % 256 := by decide +kernel
theorem clamp_eq {k : K32} (h : k.wf) : clampS k = clampR k := by
  unfold clampS clampR
  rw [byte_low _ (h k.b0 (by simp [K32.toList])), byte_high _ (h k.b31 (by simp [K32.toList]))]
theorem clampR_wf {k : K32} (h : k.wf) : (clampR k).wf := by
  intro b hb
  simp only [clampR, K32.toList, List.mem_cons, List.not_mem_nil, or_false] at hb
  have hm : ∀ c ∈ k.toList, c < 256 := h
  simp only [K32.toList, List.mem_cons, List.not_mem_nil, or_false, forall_eq_or_imp, forall_eq] at hm
  omega
theorem clampS_wf {k : K32} (h : k.wf) : (clampS k).wf := by rw [clamp_eq h]; exact clampR_wf h
variable {g : GOps}
theorem GGood.sec (H : GGood g) {seed : List Nat} (hs : ∀ c ∈ seed, c < 256) : (secK g seed).wf ∧ rsecK g seed = secK g seed := by
  have hw := keyAt_wf (H.hb seed).1 0
  refine ⟨clampS_wf hw, ?_⟩
  unfold rsecK secK
  rw [← H.hash hs, clamp_eq hw]
theorem GGood.pub (H : GGood g) {seed : List Nat} (hs : ∀ c ∈ seed, c < 256) : EncK (pubK g seed) (BP.mul (leVal (secK g seed))) := by
  have hw := (H.sec hs).1
  have h := H.e.bytes (H.e.scale (b := (secK g seed).toList) H.e.base hw)
  rwa [leB_key] at h
theorem GGood.rpub (H : GGood g) {seed : List Nat} (hs : ∀ c ∈ seed, c < 256) : EncK (rpubK g seed) (BP.mul (leVal (secK g seed))) := by
  obtain ⟨hw, he⟩ := H.sec hs
  have h := H.e.rbytes (H.e.rscale (b := (rsecK g seed).toList) H.e.rbase (by rw [he]; exact hw))
  rw [leB_key, he] at h
  unfold rpubK
  rw [he]
  exact h
theorem GGood.pub_eq (H : GGood g) {seed : List Nat} (hs : ∀ c ∈ seed, c < 256) : pubV g seed = rpubV g seed := by
  unfold pubV rpubV
  rw [(H.pub hs).uniq (H.rpub hs)]
end Go.Proofs.Ytnnjaijokiknkaa

