/- The document's Sum; the two hashes are one. -/
import Derived.Test.YtmhbhpmfbalbeaaWu
import Derived.Test.YtmhbhpmfbalbeaaPwMg
namespace Go.Proofs.Ytmhbhpmfbalbeaa
open Go Pw Go.RowKit
def hashR (o : SOps) (b : List Nat) : List Nat := bytesW (foldAll o.bR SW (b ++ padL b.length))
def hrT (o : SOps) (b : List Nat) : Option (AV × Option Blk) :=
  let lb := List.take b.length (List.drop 0 b)
  let p := padL (b.length % 18446744073709551616)
  let pl := List.take p.length (List.drop 0 p)
  let l1 := List.take 0 (List.drop 0 []) ++ lb
  let n1 := 0 + lb.length
  let l2 := List.take n1 (List.drop 0 l1) ++ pl
  let n2 := n1 + pl.length
  let l3 := List.take n2 (List.drop 0 l2)
  gds [decide (0 + b.length ≤ b.length), decide (0 + lb.length ≤ maxRoom), decide (0 + p.length ≤ p.length), decide (0 + n1 ≤ l1.length), decide (n1 + pl.length ≤ maxRoom), decide (0 + n2 ≤ l2.length), decide (l3.length < 4611686018427387904)]
    (some (b64V (bytesW (resp 8 (foldAll o.bR (resp 8 SW) l3))), none))
theorem SW_resp : resp 8 SW = SW := rfl
theorem hrT_eq (o : SOps) {b : List Nat} (h : b.length + 256 ≤ maxRoom) : hrT o b = some (b64V (hashR o b), none) := by
  have hm : maxRoom = 175921860444160 := rfl
  have hz : padZ b.length < 128 := Nat.mod_lt _ (by decide)
  have hp := padL_len b.length
  have e0 : b.length % 18446744073709551616 = b.length := by omega
  have e1 : List.take (0 + b.length) b = b := by rw [Nat.zero_add, List.take_length]
  have e2 : List.take (0 + b.length + (padL b.length).length) (b ++ padL b.length) = b ++ padL b.length := List.take_of_length_le (by rw [List.length_append]; omega)
  unfold hrT
  simp only [e0, List.drop_zero, List.take_length, List.take_zero, List.nil_append, e1, e2]
  rw [gds_true, bytesW_resp, SW_resp]
  · rfl
  · intro c hc
    simp only [List.mem_cons, List.not_mem_nil, or_false] at hc
    have hl : (b ++ padL b.length).length = b.length + (padL b.length).length := List.length_append
    rcases hc with rfl | rfl | rfl | rfl | rfl | rfl | rfl <;> exact decide_eq_true (by omega)
theorem hashR_run (o : SOps) (b : List Nat) : runNL (X_bytesWR o) [] [0,2] 400 Try.f19 (bodyOf Try.f19) (laArgs [.l b] 0) (laLists [.l b]) = hrT o b := by
  kernel_rfl
def u_hashR (o : SOps) (args : List LA) : Option (AV × Option Blk) := match args with
  | [.l b] => some (b64V (hashR o b), none)
  | _ => none
def c_hashR (args : List LA) : Bool := match args with
  | [.l b] => decide (b.length + 256 ≤ maxRoom)
  | _ => false
def g_hashR (o : SOps) (args : List LA) : Option (AV × Option Blk) := bif c_hashR args then u_hashR o args else none
theorem hashR_at : QuietAt Try.prog 19 (lav (g_hashR concS)) := by
  refine quietAt_of_runA X_bytesWR_ok (L := []) (keep := [0,2]) Try.func19 (c := bodyOf Try.f19) (by kernel_rfl) (by kernel_rfl) (LoopsOK.nil) fun args v h hw => ⟨400, ?_⟩
  unfold g_hashR at h
  have hg := (bif_some h).1
  replace h := (bif_some h).2
  unfold u_hashR at h
  split at h
  · rename_i b
    replace hg : (decide (b.length + 256 ≤ maxRoom)) = true := hg
    rw [← h]
    refine (hashR_run concS b).trans ?_
    exact hrT_eq concS (of_decide_eq_true hg)
  · cases h
noncomputable def X_hashR (o : SOps) : Cx := { X_bytesWR o with O := addQ (X_bytesWR o).O 19 (lavG c_hashR (u_hashR o)) }
theorem X_hashR_ok : CxOK Try.prog (X_hashR concS) := { X_bytesWR_ok with quiet := addQ_ok X_bytesWR_ok.quiet (lavG_at hashR_at) }
/-! ### in plain -/
theorem SW_wf : wfW SW := wfW_of (by decide)
theorem wfB_drop {s : List Nat} (h : ∀ x ∈ s, x < 256) (i : Nat) : wfB (resp 128 ((s.drop i).take 128)) := wfB_of fun x hx => by
  unfold resp at hx
  obtain ⟨j, _, rfl⟩ := List.mem_map.1 hx
  exact wfB_of (fun y hy => h y (List.mem_of_mem_drop (List.mem_of_mem_take hy))) j
theorem wfW_resp {w : List Nat} (h : wfW w) : wfW (resp 8 w) := wfW_of fun x hx => by
  unfold resp at hx
  obtain ⟨j, _, rfl⟩ := List.mem_map.1 hx
  exact h j
theorem foldB_eq {w s : List Nat} (hw : wfW w) (hs : ∀ x ∈ s, x < 256) (i : Nat) : foldB blockP w s i = foldB blockR w s i ∧ wfW (foldB blockR w s i) := by
  induction i with
  | zero => rw [foldB_zero, foldB_zero]; exact ⟨Eq.refl _, hw⟩
  | succ i ih =>
    rw [foldB_succ, foldB_succ, ih.1, block_eq (wfW_resp ih.2) (wfB_drop hs _)]
    exact ⟨Eq.refl _, blockR_wf _ _⟩
theorem foldAll_eq {w s : List Nat} (hw : wfW w) (hs : ∀ x ∈ s, x < 256) : foldAll blockP w s = foldAll blockR w s := (foldB_eq hw hs _).1
theorem beW_bytes (x i : Nat) : ∀ y ∈ beW x i, y < 256 := by
  intro y hy
  unfold beW at hy
  obtain ⟨j, _, rfl⟩ := List.mem_map.1 hy
  split
  · exact Nat.mod_lt _ (by decide)
  · decide
theorem padL_bytes (n : Nat) : ∀ x ∈ padL n, x < 256 := by
  intro x hx
  unfold padL pdT at hx
  rcases List.mem_cons.1 hx with rfl | hx
  · decide
  · rcases List.mem_append.1 hx with h | h
    · rw [(List.mem_replicate.1 h).2]; decide
    · rcases List.mem_append.1 h with h | h
      · exact beW_bytes _ _ x h
      · exact beW_bytes _ _ x h
theorem app_bytes {a b : List Nat} (ha : ∀ x ∈ a, x < 256) (hb : ∀ x ∈ b, x < 256) : ∀ x ∈ a ++ b, x < 256 := fun x hx => (List.mem_append.1 hx).elim (ha x) (hb x)
theorem hash_eq {b : List Nat} (hb : ∀ x ∈ b, x < 256) : hashV concS b = hashR concS b := by
  show bytesW (foldAll blockP SW (b ++ padL b.length)) = bytesW (foldAll blockR SW (b ++ padL b.length))
  rw [foldAll_eq SW_wf (app_bytes hb (padL_bytes _))]
end Go.Proofs.Ytmhbhpmfbalbeaa

