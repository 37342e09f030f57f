/- EdwardsAll: the loop over what is asked. -/
import Derived.Test.YtpmbfepkdjkheaaGreatIo
namespace Go.Proofs.YtpmbfepkdjkheaaGreat
open Go Pw Go.RowKit
def opLE (q : OpE) : List LA := .v (.n q.kind) :: .v (.n q.to) :: .v (.n q.a) :: .v (.n q.b) :: (q.key.toList.map (fun x => LA.v (.u .u8 x)) ++ [.l q.data, .v (.bool q.flag), .v (.n q.other)])
structure S_ea where
  n : Nat
  i : Int
  w : WE
def d_ea : LoopDefP S_ea 2 where
  ts := [0, 3, 5]
  ks := [0]
  src0 := []
  srcN := []
  srcX := []
  E := fun s => eaE s.n s.i
  M := fun s => eaM s.w
  Mo := fun s => eaM s.w
  dec := fun vs mem => match vs, mem with
    | [.slice 0 0 n false, .ptr 1 0, .n i], [_, ⟨.cells c, true⟩] => (match wC? c with
      | some w => some ⟨n, i, w⟩
      | _ => none)
    | _, _ => none
  ok := by
    intro vs mem s h
    split at h
    · rename_i n i B c
      split at h
      · rename_i w hw
        cases h
        rw [wC?_some hw]
        exact ⟨eaM w, eaE n i, eaM w, .kill (.of (.refl _) .nil), by kernel_rfl, rfl, .of (.refl _) (.of (.refl _) .nil)⟩
      · cases h
    · cases h
def zP4 : V4 Rungs := ⟨zeroP, zeroP, zeroP, zeroP⟩
def nU (A : AOps) : Pt3 := ⟨⟨0, 0, 0, 0⟩, A.e.fo.rsmall 1, A.e.fo.rsmall 1⟩
def W0 (A : AOps) : WE := ⟨zP4, ⟨nU A, nU A, nU A, nU A⟩, ⟨zeroK, zeroK, zeroK, zeroK⟩, ⟨zeroD, zeroD, zeroD, zeroD⟩⟩
noncomputable def isP (p : Prop) : Bool := @decide p (Classical.propDecidable p)
theorem isP_true {p : Prop} (h : p) : isP p = true := @decide_eq_true p (Classical.propDecidable p) h
theorem of_isP {p : Prop} (h : isP p = true) : p := @of_decide_eq_true p (Classical.propDecidable p) h
noncomputable def eaAll (F : OpE → WE → EW) (G : OpE → WE → NW) (z : WE) (qs : List OpE) : WE := qs.foldl (fun w q => eaW F G q w) z
theorem eaAll_inv {A : AOps} (G : AGood A) (t : Int → N4) {qs : List OpE} (h : ∀ q ∈ qs, q.ok) {z : WE} (hz : WInv z) : WInv (eaAll (epF0 A t) (enF0 A t) z qs) := by
  unfold eaAll
  induction qs generalizing z with
  | nil => exact hz
  | cons q qs ih => exact ih (fun x hx => h x (by simp [hx])) (eaW_inv G (h q (by simp)) t hz)
theorem W0_inv {A : AOps} (h : RR (nU A) (EP.zero ED)) : WInv (W0 A) where
  pt j := ⟨EP.zero ED, by cases j <;> exact PO.zero, by cases j <;> exact h⟩
  nm j := ⟨0, by cases j <;> exact NK.zero, by cases j <;> exact ND.zero⟩
theorem nU_conc : nU concA = neuR concFOps := by kernel_rfl
theorem nU_ok : RR (nU concA) (EP.zero ED) := by rw [nU_conc]; exact concGood.rneu
noncomputable def eaGd (A : AOps) (qs : List OpE) (s : S_ea) : Bool := isP (s.n = qs.length ∧ s.i = 0 ∧ qs.length < 9223372036854775808 ∧ s.w = W0 A)
noncomputable def eaFin (F : OpE → WE → EW) (G : OpE → WE → NW) (qs : List OpE) (s : S_ea) : S_ea := ⟨s.n, (s.n : Int), eaAll F G s.w qs⟩
noncomputable def gEa (A : AOps) (F : OpE → WE → EW) (G : OpE → WE → NW) (qs : List OpE) : LoopFn := d_ea.fn (eaGd A qs) (.exit 2) (eaFin F G qs)
abbrev eaΦ (qs : List OpE) : Fact 2 := factR 2 0 39 (by decide) (qs.map opLE)
noncomputable abbrev cF : OpE → WE → EW := epF0 concA atN
noncomputable abbrev cG : OpE → WE → NW := enF0 concA atN
noncomputable def eaAtS (qs : List OpE) (n j : Nat) : S_ea := ⟨n, (j : Int), eaAll cF cG (W0 concA) (qs.take j)⟩
theorem eaAtS_E (qs : List OpE) (n j : Nat) : d_ea.E (eaAtS qs n j) = eaE n (j : Int) := rfl
theorem eaAtS_M (qs : List OpE) (n j : Nat) {z : WE} (h : eaAll cF cG (W0 concA) (qs.take j) = z) : d_ea.M (eaAtS qs n j) = eaM z := by subst h; rfl
theorem opLE_args (q : OpE) (n : Nat) : laArgs (opLE q) n = opC q n q.data.length := by kernel_rfl
theorem gEa_at {qs : List OpE} (hq : ∀ q ∈ qs, q.ok) : LoopAtP Tryz.prog (eaΦ qs) eaF.ntmps eaB (gEa concA cF cG qs) := by
  refine d_ea.loop (keep := [0,2,3,4,5,6,7,8,9,10,11,12,16,28,50,51,52,53,54,55,56,57,58,77,78,79,80,81,84,85,86,87,88,89,90,91,92,93,94,95,96,97,98,99,100,101,108,109,110,111,112,115,116,117,118,119,120,121,122,123,124,125,126,127,128,129,132,133,134,135,136,137,138,139,140,141,142,143,144,145,146,147]) X_ea_ok LoopsOK.nil (by simp) fun s hg => ?_
  unfold eaGd at hg
  obtain ⟨h1, h2, h3, h4⟩ := of_isP hg
  refine ⟨qs.length, eaAtS qs s.n, ?_, ?_, fun j hj => ?_, ?_⟩
  · obtain ⟨n, i, w⟩ := s
    subst h2
    subst h4
    rfl
  · exact .of (.refl _) (.of (.refl _) .nil)
  · obtain ⟨q, hqj⟩ : ∃ q, qs[j]? = some q := ⟨qs[j], List.getElem?_eq_getElem hj⟩
    have hqo := hq q (List.mem_of_getElem? hqj)
    have hrec : (qs.map opLE)[j]? = some (opLE q) := by rw [List.getElem?_map, hqj]; rfl
    generalize hs : eaAll cF cG (W0 concA) (qs.take j) = z
    have hz : WInv z := hs ▸ eaAll_inv concAG atN (fun x hx => hq x (List.mem_of_mem_take hx)) (W0_inv nU_ok)
    have hnext : eaAll cF cG (W0 concA) (qs.take (j + 1)) = eaW cF cG q z := by
      rw [List.take_add_one, hqj]
      show List.foldl _ _ (qs.take j ++ [q]) = _
      rw [List.foldl_append, ← hs]
      rfl
    have hi : w64 ((j : Int) + 1) = ((j + 1 : Nat) : Int) := by
      rw [w64_id (by omega) (by omega)]; omega
    refine ⟨eaM1 (j * 39) q z, eaM (eaW cF cG q z), 100, ?_, ?_, ?_⟩
    · rw [eaAtS_E, eaAtS_M qs s.n j hs]
      have := tells_rec (n := 2) (k := 0) (sz := 39) (hk := by decide) (nt := eaF.ntmps) (env := eaE s.n (j : Int)) (mem := eaM z) hrec (show 0 < 2 by decide)
      rw [opLE_args] at this
      exact this
    · rw [eaAtS_E, eaAtS_E]
      refine (ea_round_ok concAG atN s.n (j * 39) (j : Int) hqo hz (by omega) (by omega) ?_).trans ?_
      · rw [show 0 + (j : Int).toNat * 39 = j * 39 by omega]
        exact Nat.beq_refl _
      · rw [hi]
    · rw [eaAtS_M qs s.n (j + 1) hnext]
      exact .of (.refl _) (.of (.refl _) .nil)
  · generalize hs : eaAll cF cG (W0 concA) (qs.take qs.length) = z
    have hf : d_ea.M (eaFin cF cG qs s) = eaM z := by
      rw [List.take_length] at hs
      subst hs
      obtain ⟨n, i, w⟩ := s
      subst h4
      rfl
    have hE : d_ea.E (eaFin cF cG qs s) = eaE s.n (qs.length : Int) := by
      rw [← h1]; rfl
    refine ⟨eaM z, 100, ?_, ?_⟩
    · rw [eaAtS_E, eaAtS_M qs s.n qs.length hs, hE]
      exact ea_last concA atN cF cG s.n (qs.length : Int) _ (by omega)
    · rw [hf]
      exact .of (.refl _) (.of (.refl _) .nil)
end Go.Proofs.YtpmbfepkdjkheaaGreat

