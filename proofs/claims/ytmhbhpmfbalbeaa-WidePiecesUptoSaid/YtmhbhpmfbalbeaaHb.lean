/- WidePieces: the loop. -/
import Derived.Test.YtmhbhpmfbalbeaaHa
namespace Go.Proofs.Ytmhbhpmfbalbeaa
open Go Pw Go.RowKit
structure S_wp where
  k : Bool
  n : Nat
  m : Nat
  i : Int
  s : HS
  whole : List Nat
def d_wp : LoopDefP S_wp 4 where
  ts := [0, 1, 5, 6, 7]
  ks := [0, 1]
  src0 := [4, 2]
  srcN := [11, 10]
  srcX := [4, 5]
  E := fun s => wpE s.n s.m s.whole.length s.i
  M := fun s => wpM Pw.dead Pw.dead s.k s.s s.whole []
  Mo := fun s => wpM Pw.dead Pw.dead s.k s.s s.whole []
  dec := fun vs mem => match vs, mem with
    | [.slice 0 0 n false, .slice 1 0 m false, .ptr 3 0, .slice 4 0 0 true, .n i], [_, _, _, ⟨.cells [.u .u64 a, .u .u64 b, .u .u64 c, .u .u64 d, .u .u64 e, .u .u64 f, .u .u64 g, .u .u64 h, .nils, .u .u64 size], true⟩, ⟨.bytes [], true⟩] => some ⟨false, n, m, i, ⟨[a, b, c, d, e, f, g, h], size, []⟩, []⟩
    | _, _ => none
  ok := by
    intro vs mem s h
    split at h
    · rename_i n m i B0 B1 B2 a b c d e f g h' size
      cases h
      exact ⟨[Pw.dead, Pw.dead, Pw.dead, ⟨.cells (hshC [a, b, c, d, e, f, g, h'] .nils size), true⟩, ⟨.bytes [], true⟩], wpE n m 0 i, wpM Pw.dead Pw.dead false ⟨[a, b, c, d, e, f, g, h'], size, []⟩ [] [], .kill (.kill (.kill (.of (.refl _) (.of (.refl _) .nil)))), by kernel_rfl, rfl,
        .of (.refl _) (.of (.refl _) (.of (.refl _) (.of (.refl _) (.of (.refl _) (.of (.refl _) .nil)))))⟩
    · cases h
def kOf : Nat → Bool
  | 0 => false
  | _ + 1 => true
def wpSt (o : SOps) (z : HS × List Nat) (p : List Nat) : HS × List Nat := (hsS o z.1 z.1.rest p, z.2 ++ p)
def wpAll (o : SOps) (ps : List (List Nat)) : HS × List Nat := ps.foldl (wpSt o) (hs0, [])
def wpGd (ps : List (List Nat)) (aks : List Bool) (s : S_wp) : Bool := decide (s.n = ps.length ∧ s.m = aks.length ∧ s.i = 0 ∧ s.k = false ∧ s.s.w = SW ∧ s.s.size = 0 ∧ s.s.rest = [] ∧ s.whole = [])
noncomputable def wpFin (o : SOps) (ps : List (List Nat)) (s : S_wp) : S_wp := ⟨kOf ps.length, s.n, s.m, (s.n : Int), (wpAll o ps).1, (wpAll o ps).2⟩
noncomputable def gWp (o : SOps) (ps : List (List Nat)) (aks : List Bool) : LoopFn := d_wp.fn (wpGd ps aks) (.exit 0) (wpFin o ps)
theorem wp_inv (o : SOps) : ∀ (ps : List (List Nat)) (z : HS × List Nat), HSI o z.1 z.2 → z.2.length + ps.flatten.length + 512 ≤ maxRoom → HSI o (ps.foldl (wpSt o) z).1 (ps.foldl (wpSt o) z).2 ∧ (ps.foldl (wpSt o) z).2 = z.2 ++ ps.flatten
  | [], z, h, _ => ⟨h, by simp⟩
  | p :: ps, z, h, hl => by
    simp only [List.flatten_cons, List.length_append] at hl
    obtain ⟨h1, h2⟩ := wp_inv o ps (wpSt o z p) (h.step (p := p) (by rw [List.length_append]; omega)) (by
      show (z.2 ++ p).length + _ + 512 ≤ _
      rw [List.length_append]; omega)
    refine ⟨h1, h2.trans ?_⟩
    show (z.2 ++ p) ++ ps.flatten = _
    rw [List.flatten_cons, List.append_assoc]
theorem wp_all (o : SOps) {ps : List (List Nat)} (h : ps.flatten.length + 512 ≤ maxRoom) : HSI o (wpAll o ps).1 (wpAll o ps).2 ∧ (wpAll o ps).2 = ps.flatten := by
  obtain ⟨h1, h2⟩ := wp_inv o ps (hs0, []) (HSI.zero o) (by simpa using h)
  rw [List.nil_append] at h2
  exact ⟨h1, h2⟩
theorem take_flat (ps : List (List Nat)) (j : Nat) : (ps.take j).flatten.length ≤ ps.flatten.length := by
  have e := congrArg List.flatten (List.take_append_drop j ps)
  rw [List.flatten_append] at e
  have := congrArg List.length e
  rw [List.length_append] at this
  omega
abbrev wpΦ (ps : List (List Nat)) (aks : List Bool) : Fact 4 := (factR 4 0 1 (by decide) (ps.map fun p => [LA.l p])).and (factR 4 1 1 (by decide) (aks.map fun b => [LA.v (.bool b)]))
noncomputable def wpAt (ps : List (List Nat)) (n m j : Nat) : S_wp := ⟨kOf j, n, m, (j : Int), (wpAll concS (ps.take j)).1, (wpAll concS (ps.take j)).2⟩
theorem wpAt_E (ps : List (List Nat)) (n m j : Nat) {z : HS × List Nat} (h : wpAll concS (ps.take j) = z) : d_wp.E (wpAt ps n m j) = wpE n m z.2.length (j : Int) := by subst h; rfl
theorem wpAt_M (ps : List (List Nat)) (n m j : Nat) {z : HS × List Nat} (h : wpAll concS (ps.take j) = z) : d_wp.M (wpAt ps n m j) = wpM Pw.dead Pw.dead (kOf j) z.1 z.2 [] := by subst h; rfl
theorem memW_refl : ∀ m : Mem, MemW m m
  | [] => .nil
  | _ :: m => .of (.refl _) (memW_refl m)
theorem gWp_at {ps : List (List Nat)} {aks : List Bool} (hl : ps.flatten.length + 512 ≤ maxRoom) (hn : ps.length < 9223372036854775807) : LoopAtP Try.prog (wpΦ ps aks) wpF.ntmps (loopB (bodyOf wpF) 6) (gWp concS ps aks) := by
  refine d_wp.loop (keep := [0,1,4,5,6,7,12,13,14,15,20,42,43,44,45,48,49,50,51,52,53,54,55,62,63,64,65,66,67]) X_wp_ok LoopsOK.nil (by simp) fun s hg => ?_
  obtain ⟨h1, h2, h3, h4, h5, h6, h7, h8⟩ := of_decide_eq_true hg
  refine ⟨ps.length, wpAt ps s.n s.m, ?_, ?_, fun j hj => ?_, ?_⟩
  · obtain ⟨k, n, m, i, ⟨w, size, rest⟩, whole⟩ := s
    dsimp only at h1 h2 h3 h4 h5 h6 h7 h8
    subst h3 h4 h5 h6 h7 h8
    rfl
  · exact memW_refl _
  · obtain ⟨p, hp⟩ : ∃ p, ps[j]? = some p := ⟨ps[j], List.getElem?_eq_getElem hj⟩
    generalize hz : wpAll concS (ps.take j) = z
    have hnext : wpAll concS (ps.take (j + 1)) = wpSt concS z p := by
      rw [List.take_add_one, hp]
      show List.foldl _ _ (ps.take j ++ [p]) = _
      rw [List.foldl_append, ← hz]
      rfl
    have ht := take_flat ps (j + 1)
    have ht0 := take_flat ps j
    obtain ⟨hi, hf⟩ := wp_all concS (ps := ps.take j) (by omega)
    obtain ⟨_, hf'⟩ := wp_all concS (ps := ps.take (j + 1)) (by omega)
    rw [hz] at hi hf
    rw [hnext] at hf'
    have hlen : (z.2 ++ p).length + 512 ≤ maxRoom := by
      have : (z.2 ++ p) = (ps.take (j + 1)).flatten := hf'
      rw [this]; omega
    have hr : rS (kOf j) z.1 = z.1.rest := by
      cases j with
      | zero =>
        have : z.1.rest = [] := by rw [← hz]; rfl
        rw [this]; rfl
      | succ j => rfl
    have hw : w64 ((j : Int) + 1) = ((j + 1 : Nat) : Int) := by
      rw [w64_id (by omega) (by omega)]; omega
    have hb : Nat.beq (0 + (j : Int).toNat * 1) (j * 1) = true := by
      rw [show 0 + (j : Int).toNat * 1 = j * 1 by omega]
      exact Nat.beq_refl _
    have hrec : (ps.map fun p => [LA.l p])[j]? = some [LA.l p] := by rw [List.getElem?_map, hp]; rfl
    have hK : wpK s.n s.m (j : Int) (hsS concS z.1 z.1.rest p) (z.2 ++ p) (z.2 ++ p).length = some (.normal, d_wp.E (wpAt ps s.n s.m (j + 1)), d_wp.M (wpAt ps s.n s.m (j + 1))) := by
      rw [wpAt_E ps s.n s.m (j + 1) hnext, wpAt_M ps s.n s.m (j + 1) hnext]
      unfold wpK
      rw [hw]; rfl
    by_cases hj2 : j < aks.length
    · obtain ⟨b, hbb⟩ : ∃ b, aks[j]? = some b := ⟨aks[j], List.getElem?_eq_getElem hj2⟩
      have hrec2 : (aks.map fun b => [LA.v (.bool b)])[j]? = some [LA.v (.bool b)] := by rw [List.getElem?_map, hbb]; rfl
      refine ⟨wpM ⟨.win (j * 1) [.slice 6 0 p.length false], false⟩ ⟨.win (j * 1) [.bool b], false⟩ (kOf j) z.1 z.2 [⟨.bytes p, false⟩], d_wp.M (wpAt ps s.n s.m (j + 1)), 100, ?_, ?_, memW_refl _⟩
      · rw [wpAt_E ps s.n s.m j hz, wpAt_M ps s.n s.m j hz]
        have t1 := Tells.of (Ψ := wpΦ ps aks) (fun _ _ h => h.2) (tells_rec (n := 4) (k := 1) (sz := 1) (hk := by decide) (nt := wpF.ntmps) (env := wpE s.n s.m z.2.length (j : Int)) (mem := wpM Pw.dead Pw.dead (kOf j) z.1 z.2 []) hrec2 (show 1 < 6 by decide))
        have t2 := Tells.of (Ψ := wpΦ ps aks) (fun _ _ h => h.1) (tells_rec (n := 4) (k := 0) (sz := 1) (hk := by decide) (nt := wpF.ntmps) (env := wpE s.n s.m z.2.length (j : Int)) (mem := wpM Pw.dead ⟨.win (j * 1) [.bool b], false⟩ (kOf j) z.1 z.2 []) hrec (show 0 < 6 by decide))
        exact t1.trans t2
      · rw [wpAt_E ps s.n s.m j hz]
        refine (wp_step concS s.n s.m (j * 1) (j : Int) b z.1 z.2 p (kOf j)).trans ?_
        refine (wp_go hi hlen hr (by omega) (by omega) hb fun h => ?_).trans hK
        rw [wp_goX hi hlen hr (by omega) h hb]
    · refine ⟨wpM ⟨.win (j * 1) [.slice 6 0 p.length false], false⟩ Pw.dead (kOf j) z.1 z.2 [⟨.bytes p, false⟩], d_wp.M (wpAt ps s.n s.m (j + 1)), 100, ?_, ?_, memW_refl _⟩
      · rw [wpAt_E ps s.n s.m j hz, wpAt_M ps s.n s.m j hz]
        exact Tells.of (Ψ := wpΦ ps aks) (fun _ _ h => h.1) (tells_rec (n := 4) (k := 0) (sz := 1) (hk := by decide) (nt := wpF.ntmps) (env := wpE s.n s.m z.2.length (j : Int)) (mem := wpM Pw.dead Pw.dead (kOf j) z.1 z.2 []) hrec (show 0 < 6 by decide))
      · rw [wpAt_E ps s.n s.m j hz]
        refine (wp_stepD concS s.n s.m (j * 1) (j : Int) z.1 z.2 p (kOf j)).trans ?_
        exact (wp_go hi hlen hr (by omega) (by omega) hb fun h => absurd h (by omega)).trans hK
  · generalize hz : wpAll concS (ps.take ps.length) = z
    have hf : d_wp.M (wpFin concS ps s) = wpM Pw.dead Pw.dead (kOf ps.length) z.1 z.2 [] := by
      rw [List.take_length] at hz
      subst hz; rfl
    have hE : d_wp.E (wpFin concS ps s) = wpE s.n s.m z.2.length (ps.length : Int) := by
      rw [List.take_length] at hz
      subst hz
      rw [← h1]; rfl
    refine ⟨wpM Pw.dead Pw.dead (kOf ps.length) z.1 z.2 [], 100, ?_, ?_⟩
    · rw [wpAt_E ps s.n s.m ps.length hz, wpAt_M ps s.n s.m ps.length hz, hE]
      exact wp_last concS s.n s.m (ps.length : Int) z.1 z.2 (by omega) (kOf ps.length)
    · rw [hf]; exact memW_refl _
end Go.Proofs.Ytmhbhpmfbalbeaa

