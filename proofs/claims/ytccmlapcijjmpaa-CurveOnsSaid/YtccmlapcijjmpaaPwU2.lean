/- A part of the proof: PwU2. -/
import Derived.Test.YtccmlapcijjmpaaPwEvU
namespace Pw
open Go

theorem wfN.mem {args : List AV} {ls : List (List Nat)} (h : wfN args ls) : wfL args := by
  obtain ⟨σ, w, vs, _, hr⟩ := h
  exact ⟨σ, vs, hr⟩

theorem wfL_all {l : List AV} (h : wfL l) : ∀ a ∈ l, wf1 a := by
  obtain ⟨σ, m, h⟩ := h
  induction l generalizing m with
  | nil => simp
  | cons x l ih =>
    cases h with
    | cons _ v _ m h1 h2 =>
      intro a ha
      cases ha with
      | head => exact ⟨σ, v, h1⟩
      | tail _ ha => exact ih m h2 a ha

theorem laArgs_list : ∀ (las : List LA) (n : Nat) (l : List Nat), l ∈ laLists las → ∃ k, AV.slice k 0 l.length false ∈ laArgs las n
  | .v a :: r, n, l, h => by
    obtain ⟨k, hk⟩ := laArgs_list r n l h
    exact ⟨k, by simp [laArgs, hk]⟩
  | .l b :: r, n, l, h => by
    simp only [laLists, List.mem_cons] at h
    rcases h with rfl | h
    · exact ⟨n, by simp [laArgs]⟩
    · obtain ⟨k, hk⟩ := laArgs_list r (n + 1) l h
      exact ⟨k, by simp [laArgs, hk]⟩

/-- lists are short enough -/
theorem wfA.len {las : List LA} (h : wfA las) (i : Nat) {l : List Nat} (hl : (laLists las)[i]? = some l) : l.length < 9223372036854775808 := by
  obtain ⟨k, hk⟩ := laArgs_list las 0 l (List.mem_of_getElem? hl)
  obtain ⟨σ, v, hv⟩ := wfL_all (wfN.mem h) _ hk
  generalize he : l.length = n at hv
  cases hv with
  | slice _ _ _ _ cap b δ s hσ h1 h2 h3 => omega
  | slic0 => omega

/-- and their bytes are bytes -/
theorem wfA.bytes {las : List LA} (h : wfA las) (i : Nat) {l : List Nat} (hl : (laLists las)[i]? = some l) : ∀ b ∈ l, b < 256 := by
  intro b hb
  have hmem := List.mem_of_getElem? hl
  obtain ⟨σ, w, vs, hn, hr⟩ := h
  have key : ∀ (las : List LA) (n : Nat) (pre : List (List Nat)) (vs : List Value), pre.length = n → NSt w σ (pre ++ laLists las) → RL σ (laArgs las n) vs → l ∈ laLists las → b < 256 := by
    intro las
    induction las with
    | nil => intro n pre vs _ _ _ hm; simp [laLists] at hm
    | cons x r ih =>
      intro n pre vs hp hn hr hm
      cases x with
      | v a =>
        simp only [laArgs] at hr
        cases hr with | cons _ v _ vs' h1 h2 =>
        exact ih n pre vs' hp hn h2 hm
      | l c =>
        simp only [laArgs] at hr
        cases hr with | cons _ v _ vs' h1 h2 =>
        simp only [laLists, List.mem_cons] at hm
        rcases hm with rfl | hm
        · have hlen : 0 < l.length := List.length_pos_of_mem hb
          generalize he : l.length = m at h1
          cases h1 with
          | slic0 => omega
          | slice _ _ _ _ cap bb δ s hσ q1 q2 q3 =>
            have hg : (pre ++ laLists (.l l :: r))[n]? = some l := by
              rw [List.getElem?_append_right (by omega), hp, Nat.sub_self]; rfl
            obtain ⟨-, hbr⟩ := hn.blk _ _ _ _ _ hσ hg
            obtain ⟨j, hj⟩ := List.mem_iff_getElem?.1 hb
            obtain ⟨C, e, lo, hi, g1, g2, g3, g4, g5⟩ := hbr.ex
            obtain ⟨rv, -, hv⟩ := g4 j (.u .u8 b) (by simp [blkOf, Cont.at?, hj])
            cases hv with | u _ _ _ hb' => simpa [IntKind.bits] using hb'
        · exact ih (n + 1) (pre ++ [c]) vs' (by simp [hp]) (by simpa [laLists] using hn) h2 hm
  exact key las 0 [] vs rfl (by simpa using hn) hr hmem

theorem wfA.val {las : List LA} (h : wfA las) {a : AV} (ha : a ∈ laArgs las 0) : wf1 a := wfL_all (wfN.mem h) a ha

end Pw
namespace Pw
open Go
variable {P : Program} {ρ : Type}

/-! ### contracts with a condition that need not be settled at once -/

theorem bytesK_bind (c : Cont) (off n : Nat) (K : List Nat → Option ρ) : c.bytesK off n K = (c.bytesK off n some).bind K := by
  unfold Cont.bytesK
  split
  · rename_i l
    cases h : decide (off + n ≤ l.length) <;> rfl
  · split
    · rename_i l _
      cases h : (Nat.beq l.length n && Nat.ble (off + n) _) <;> rfl
    · rfl
theorem sliceBytesK_bind (mem : Mem) (x : AV) (K : List Nat → Option ρ) : sliceBytesK mem x K = (sliceBytesK mem x some).bind K := by
  unfold sliceBytesK
  split
  · rfl
  · split
    · exact bytesK_bind _ _ _ _
    · rfl
  · rfl
theorem normL_bind (mem : Mem) : ∀ (args : List AV) (ρ : Type) (K : List LA → Option ρ), normL mem args K = (normL mem args some).bind K
  | [], ρ, K => rfl
  | a :: rest, ρ, K => by
    have key : ∀ x : LA, (normL mem rest fun las => K (x :: las)) = (normL mem rest fun las => some (x :: las)).bind K := by
      intro x
      rw [normL_bind mem rest ρ (fun las => K (x :: las)), normL_bind mem rest (List LA) (fun las => some (x :: las))]
      cases normL mem rest some <;> rfl
    unfold normL
    split
    · rename_i id off len ap
      rw [sliceBytesK_bind mem _ (fun l => normL mem rest fun las => K (LA.l l :: las)), sliceBytesK_bind mem _ (fun l => normL mem rest fun las => some (LA.l l :: las))]
      cases sliceBytesK mem (AV.slice id off len ap) some with
      | none => rfl
      | some l => exact key _
    · exact key _
    · split
      · exact key _
      · rfl

def lavG (c : List LA → Bool) (g : List LA → Option (AV × Option Blk)) : List AV → Mem → ∀ {ρ : Type}, (AV → Option Blk → Option ρ) → Option ρ := fun args mem _ K =>
  normL mem args fun las => bif c las then (match g las with
    | some (v, none) => K v none
    | some (v, some B) => (match v.move 0 mem.length with
      | some v' => K v' (some B)
      | none => none)
    | none => none) else none

theorem lavG_at {f : FuncId} {c : List LA → Bool} {g : List LA → Option (AV × Option Blk)} (h : QuietAt P f (lav fun las => bif c las then g las else none)) : QuietAt P f (lavG c g) := by
  intro args mem ρ K r hr
  refine h args mem ρ K r ?_
  rw [← hr]
  unfold lav lavG
  rw [normL_bind mem args ρ, normL_bind mem args ρ (fun las => bif c las then (match g las with
    | some (v, none) => K v none
    | some (v, some B) => (match v.move 0 mem.length with
      | some v' => K v' (some B)
      | none => none)
    | none => none) else none)]
  cases normL mem args some with
  | none => rfl
  | some las =>
    simp only [Option.bind_some]
    cases c las <;> rfl
end Pw
