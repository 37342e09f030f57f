/- Layer 20: the hash of some pieces. -/
import Derived.Test.YtnnjaijokiknkaaWv
namespace Go.Proofs.Ytnnjaijokiknkaa
open Go Pw Go.RowKit
/-- a hash under way: the words, how many bytes came, those that fill no block yet -/
structure HS where
  w : List Nat
  size : Nat
  rest : List Nat
def hs0 : HS := ⟨SW, 0, []⟩
def hsW (o : SOps) (s : HS) (l : Nat) (p : List Nat) : HS := ⟨resp 8 (foldB o.bP s.w (wAll 0 l p s.rest) (wNum 0 l p s.rest)), (s.size + l % 18446744073709551616) % 2 ^ 64, wTail 0 l p s.rest⟩
def hsC (s : HS) (l : Nat) (p : List Nat) : Bool := wCond s.rest.length 0 l p s.rest
def hsE (s : HS) : List Bool := [decide (0 + s.rest.length ≤ s.rest.length), decide (s.rest.length = (List.take s.rest.length (List.drop 0 s.rest)).length ∧ s.rest.length < 128)]
def hsV (o : SOps) (s : HS) : Option (AV × Option Blk) := some (b64V (sumV o s.w s.size (List.take s.rest.length (List.drop 0 s.rest))), none)
def h2T (o : SOps) (p0 p1 : List Nat) (l0 l1 : Nat) : Option (AV × Option Blk) := gds ([hsC hs0 l0 p0, hsC (hsW o hs0 l0 p0) l1 p1] ++ hsE (hsW o (hsW o hs0 l0 p0) l1 p1)) (hsV o (hsW o (hsW o hs0 l0 p0) l1 p1))
def h3T (o : SOps) (p0 p1 p2 : List Nat) (l0 l1 l2 : Nat) : Option (AV × Option Blk) := gds ([hsC hs0 l0 p0, hsC (hsW o hs0 l0 p0) l1 p1, hsC (hsW o (hsW o hs0 l0 p0) l1 p1) l2 p2] ++ hsE (hsW o (hsW o (hsW o hs0 l0 p0) l1 p1) l2 p2)) (hsV o (hsW o (hsW o (hsW o hs0 l0 p0) l1 p1) l2 p2))
def h4T (o : SOps) (p0 p1 p2 p3 : List Nat) (l0 l1 l2 l3 : Nat) : Option (AV × Option Blk) := gds ([hsC hs0 l0 p0, hsC (hsW o hs0 l0 p0) l1 p1, hsC (hsW o (hsW o hs0 l0 p0) l1 p1) l2 p2, hsC (hsW o (hsW o (hsW o hs0 l0 p0) l1 p1) l2 p2) l3 p3] ++ hsE (hsW o (hsW o (hsW o (hsW o hs0 l0 p0) l1 p1) l2 p2) l3 p3)) (hsV o (hsW o (hsW o (hsW o (hsW o hs0 l0 p0) l1 p1) l2 p2) l3 p3))
theorem hashed2_run (o : SOps) (p0 p1 : List Nat) (l0 l1 : Nat) : runG (X_hashR o) [] [0,2,3,5,7,8,9,10] 500 Try.f150 (bodyOf Try.f150) [.slice 2 0 2 false] [⟨.bytes p0, false⟩, ⟨.bytes p1, false⟩, ⟨.cells [.slice 0 0 l0 false, .slice 1 0 l1 false], false⟩] = h2T o p0 p1 l0 l1 := by kernel_rfl
theorem hashed3_run (o : SOps) (p0 p1 p2 : List Nat) (l0 l1 l2 : Nat) : runG (X_hashR o) [] [0,2,3,5,7,8,9,10] 500 Try.f150 (bodyOf Try.f150) [.slice 3 0 3 false] [⟨.bytes p0, false⟩, ⟨.bytes p1, false⟩, ⟨.bytes p2, false⟩, ⟨.cells [.slice 0 0 l0 false, .slice 1 0 l1 false, .slice 2 0 l2 false], false⟩] = h3T o p0 p1 p2 l0 l1 l2 := by kernel_rfl
theorem hashed4_run (o : SOps) (p0 p1 p2 p3 : List Nat) (l0 l1 l2 l3 : Nat) : runG (X_hashR o) [] [0,2,3,5,7,8,9,10] 500 Try.f150 (bodyOf Try.f150) [.slice 4 0 4 false] [⟨.bytes p0, false⟩, ⟨.bytes p1, false⟩, ⟨.bytes p2, false⟩, ⟨.bytes p3, false⟩, ⟨.cells [.slice 0 0 l0 false, .slice 1 0 l1 false, .slice 2 0 l2 false, .slice 3 0 l3 false], false⟩] = h4T o p0 p1 p2 p3 l0 l1 l2 l3 := by kernel_rfl
/-- what a hash under way has taken -/
structure HSI (o : SOps) (s : HS) (t : List Nat) : Prop where
  w : s.w = resp 8 (foldAll o.bP SW t)
  size : s.size = t.length
  rest : s.rest = t.drop (128 * (t.length / 128))
  len : t.length + 256 ≤ maxRoom
theorem HSI.zero (o : SOps) : HSI o hs0 [] := ⟨rfl, rfl, rfl, by decide⟩
theorem HSI.rest_len {o : SOps} {s : HS} {t : List Nat} (h : HSI o s t) : s.rest.length = t.length % 128 := by
  rw [h.rest, List.length_drop]; omega
theorem HSI.cond {o : SOps} {s : HS} {t p : List Nat} (h : HSI o s t) (hl : p.length + 256 ≤ maxRoom) : hsC s p.length p = true :=
  decide_eq_true ⟨rfl, by rw [h.rest_len]; omega, by omega, by omega⟩
theorem HSI.write {o : SOps} {s : HS} {t p : List Nat} (h : HSI o s t) (hl : (t ++ p).length + 256 ≤ maxRoom) : HSI o (hsW o s p.length p) (t ++ p) := by
  have hm : maxRoom = 175921860444160 := rfl
  have ha : wAll 0 p.length p s.rest = s.rest ++ p := by unfold wAll; rw [List.drop_zero, List.take_length]
  have hlen : (t ++ p).length = t.length + p.length := List.length_append
  refine ⟨?_, ?_, ?_, hl⟩
  · show resp 8 (foldB o.bP s.w (wAll 0 p.length p s.rest) ((wAll 0 p.length p s.rest).length / 128)) = _
    rw [ha, h.w, (foldB_resp _ _ _ _).1]
    rw [foldAll_app, ← h.rest]
    rfl
  · show (s.size + p.length % 18446744073709551616) % 2 ^ 64 = _
    rw [h.size]
    omega
  · show (wAll 0 p.length p s.rest).drop (128 * ((wAll 0 p.length p s.rest).length / 128)) = _
    rw [ha, List.length_append, h.rest_len]
    have e1 : 128 * ((t ++ p).length / 128) = 128 * (t.length / 128) + 128 * ((t.length % 128 + p.length) / 128) := by omega
    have e2 : List.drop (128 * (t.length / 128)) (t ++ p) = s.rest ++ p := by rw [List.drop_append_of_le_length (by omega), ← h.rest]
    rw [e1, ← List.drop_drop, e2]
theorem HSI.fin {o : SOps} {s : HS} {t : List Nat} (h : HSI o s t) : (∀ c ∈ hsE s, c = true) ∧ hsV o s = some (b64V (hashV o t), none) := by
  have hm : maxRoom = 175921860444160 := rfl
  have hr : List.take s.rest.length (List.drop 0 s.rest) = s.rest := by rw [List.drop_zero, List.take_length]
  refine ⟨fun c hc => ?_, ?_⟩
  · unfold hsE at hc
    rw [hr] at hc
    simp only [List.mem_cons, List.not_mem_nil, or_false] at hc
    rcases hc with h1 | h1
    · rw [h1]; exact decide_eq_true (by omega)
    · rw [h1]; exact decide_eq_true ⟨trivial, by rw [h.rest_len]; omega⟩
  · unfold hsV
    rw [hr, h.w, h.size]
    unfold sumV hashV
    rw [bytesW_fold, foldAll_app, ← h.rest]
    rfl
theorem gds_app {α : Type} {x : Option α} {l m : List Bool} (h : ∀ c ∈ l, c = true) (h' : ∀ c ∈ m, c = true) : gds (l ++ m) x = x := gds_true fun c hc => (List.mem_append.1 hc).elim (h c) (h' c)
theorem h2T_eq (o : SOps) {p0 p1 : List Nat} (h : (p0 ++ p1).length + 256 ≤ maxRoom) : h2T o p0 p1 p0.length p1.length = some (b64V (hashV o (p0 ++ p1)), none) := by
  have hl : (p0 ++ p1).length = p0.length + p1.length := List.length_append
  have i1 : HSI o _ p0 := (HSI.zero o).write (p := p0) (by rw [List.nil_append]; omega)
  have i2 := i1.write (p := p1) (by omega)
  obtain ⟨e1, e2⟩ := i2.fin
  unfold h2T
  rw [gds_app _ e1, e2]
  intro c hc
  rw [(HSI.zero o).cond (by omega), i1.cond (by omega)] at hc
  simp only [List.mem_cons, List.not_mem_nil, or_false, or_self] at hc
  exact hc
theorem h3T_eq (o : SOps) {p0 p1 p2 : List Nat} (h : (p0 ++ p1 ++ p2).length + 256 ≤ maxRoom) : h3T o p0 p1 p2 p0.length p1.length p2.length = some (b64V (hashV o (p0 ++ p1 ++ p2)), none) := by
  have hl : (p0 ++ p1).length = p0.length + p1.length := List.length_append
  have hl2 : (p0 ++ p1 ++ p2).length = (p0 ++ p1).length + p2.length := List.length_append
  have i1 : HSI o _ p0 := (HSI.zero o).write (p := p0) (by rw [List.nil_append]; omega)
  have i2 := i1.write (p := p1) (by omega)
  have i3 := i2.write (p := p2) (by omega)
  obtain ⟨e1, e2⟩ := i3.fin
  unfold h3T
  rw [gds_app _ e1, e2]
  intro c hc
  rw [(HSI.zero o).cond (by omega), i1.cond (by omega), i2.cond (by omega)] at hc
  simp only [List.mem_cons, List.not_mem_nil, or_false, or_self] at hc
  exact hc
theorem h4T_eq (o : SOps) {p0 p1 p2 p3 : List Nat} (h : (p0 ++ p1 ++ p2 ++ p3).length + 256 ≤ maxRoom) : h4T o p0 p1 p2 p3 p0.length p1.length p2.length p3.length = some (b64V (hashV o (p0 ++ p1 ++ p2 ++ p3)), none) := by
  have hl : (p0 ++ p1).length = p0.length + p1.length := List.length_append
  have hl2 : (p0 ++ p1 ++ p2).length = (p0 ++ p1).length + p2.length := List.length_append
  have hl3 : (p0 ++ p1 ++ p2 ++ p3).length = (p0 ++ p1 ++ p2).length + p3.length := List.length_append
  have i1 : HSI o _ p0 := (HSI.zero o).write (p := p0) (by rw [List.nil_append]; omega)
  have i2 := i1.write (p := p1) (by omega)
  have i3 := i2.write (p := p2) (by omega)
  have i4 := i3.write (p := p3) (by omega)
  obtain ⟨e1, e2⟩ := i4.fin
  unfold h4T
  rw [gds_app _ e1, e2]
  intro c hc
  rw [(HSI.zero o).cond (by omega), i1.cond (by omega), i2.cond (by omega), i3.cond (by omega)] at hc
  simp only [List.mem_cons, List.not_mem_nil, or_false, or_self] at hc
  exact hc
def gHashed (f : List Nat → List Nat) : List AV → Mem → Option (Bool × AV × Option Blk)
  | [.slice 2 0 2 false], [⟨.bytes p0, false⟩, ⟨.bytes p1, false⟩, ⟨.cells [.slice 0 0 l0 false, .slice 1 0 l1 false], false⟩] => some (decide (l0 = p0.length ∧ l1 = p1.length ∧ (p0 ++ p1).length + 256 ≤ maxRoom), b64V (f (p0 ++ p1)), none)
  | [.slice 3 0 3 false], [⟨.bytes p0, false⟩, ⟨.bytes p1, false⟩, ⟨.bytes p2, false⟩, ⟨.cells [.slice 0 0 l0 false, .slice 1 0 l1 false, .slice 2 0 l2 false], false⟩] => some (decide (l0 = p0.length ∧ l1 = p1.length ∧ l2 = p2.length ∧ (p0 ++ p1 ++ p2).length + 256 ≤ maxRoom), b64V (f (p0 ++ p1 ++ p2)), none)
  | [.slice 4 0 4 false], [⟨.bytes p0, false⟩, ⟨.bytes p1, false⟩, ⟨.bytes p2, false⟩, ⟨.bytes p3, false⟩, ⟨.cells [.slice 0 0 l0 false, .slice 1 0 l1 false, .slice 2 0 l2 false, .slice 3 0 l3 false], false⟩] => some (decide (l0 = p0.length ∧ l1 = p1.length ∧ l2 = p2.length ∧ l3 = p3.length ∧ (p0 ++ p1 ++ p2 ++ p3).length + 256 ≤ maxRoom), b64V (f (p0 ++ p1 ++ p2 ++ p3)), none)
  | _, _ => none
theorem hashed_at : QuietAt Try.prog 150 (grab (gHashed (hashV concS))) := by
  refine quietAt_of_runG X_hashR_ok (keep := [0,2,3,5,7,8,9,10]) Try.func150 (c := bodyOf Try.f150) (by kernel_rfl) (by kernel_rfl) LoopsOK.nil fun ar ms cd v nb h hc hw => ?_
  unfold gHashed at h
  split at h
  · cases h
    obtain ⟨rfl, rfl, hl⟩ := of_decide_eq_true hc
    exact ⟨500, _, .refl _, (hashed2_run concS _ _ _ _).trans (h2T_eq concS hl)⟩
  · cases h
    obtain ⟨rfl, rfl, rfl, hl⟩ := of_decide_eq_true hc
    exact ⟨500, _, .refl _, (hashed3_run concS _ _ _ _ _ _).trans (h3T_eq concS hl)⟩
  · cases h
    obtain ⟨rfl, rfl, rfl, rfl, hl⟩ := of_decide_eq_true hc
    exact ⟨500, _, .refl _, (hashed4_run concS _ _ _ _ _ _ _ _).trans (h4T_eq concS hl)⟩
  · cases h
end Go.Proofs.Ytnnjaijokiknkaa

