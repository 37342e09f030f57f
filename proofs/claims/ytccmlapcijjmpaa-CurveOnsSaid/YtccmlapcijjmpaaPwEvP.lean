/- A part of the proof: PwEvP. -/
import Derived.Test.YtccmlapcijjmpaaPwEvO
namespace Pw
open Go Go.RowKit

variable {P : Program}

section draw
variable (ops : Array Oper) (env0 : Env) (vs : Nat → AV) (effs : Nat → Eff)

def En (S : Nat → Bool) : Nat → Env
  | 0 => env0
  | k + 1 => if S k = true then (match (ops[k]?).bind (·.dst) with
    | some d => (d, vs k) :: En S k
    | none => En S k) else En S k

def Al : Nat → Mem
  | 0 => []
  | k + 1 => match effs k with
    | .alloc B => Al k ++ [B]
    | _ => Al k

def Gm (base : Mem) (S : Nat → Bool) : Nat → Mem
  | 0 => base
  | k + 1 => match effs k with
    | .store id B => if S k = true then (Gm base S k).set id B else Gm base S k
    | _ => Gm base S k

variable {ops env0 vs effs}

theorem look_cons (d t : Nat) (v : AV) (env : Env) : look t ((d, v) :: env) = if d = t then v else look t env := by
  simp only [look]
  by_cases e : d = t
  · subst e
    have : Nat.beq d d = true := Nat.beq_refl d
    rw [this, cond_true, if_pos rfl]
  · have hb : Nat.beq d t = false := by
      cases hb : Nat.beq d t with
      | false => rfl
      | true => exact absurd (Nat.eq_of_beq_eq_true hb) e
    rw [hb, cond_false, if_neg e]

theorem En_congr {S S' : Nat → Bool} {t : Nat} : ∀ (k : Nat), (∀ i, i < k → (ops[i]?).bind (·.dst) = some t → S i = S' i) → look t (En ops env0 vs S k) = look t (En ops env0 vs S' k)
  | 0, _ => rfl
  | k + 1, h => by
    have ih := En_congr k fun i hi => h i (by omega)
    simp only [En]
    cases hd : (ops[k]?).bind (·.dst) with
    | none => (try dsimp only); split <;> split <;> exact ih
    | some d =>
      try dsimp only
      by_cases e : d = t
      · subst e
        have hk := h k (by omega) hd
        rw [hk]
        split
        · rw [look_cons, look_cons]; simp
        · exact ih
      · split <;> split <;> (first | (rw [look_cons, look_cons, if_neg e, if_neg e]; exact ih) | (rw [look_cons, if_neg e]; exact ih) | exact ih)

/-- operations from a place on that are not of the set leave the slots alone -/
theorem En_skip {S : Nat → Bool} {j : Nat} : ∀ (k : Nat), j ≤ k → (∀ i, j ≤ i → i < k → S i = false) → En ops env0 vs S k = En ops env0 vs S j
  | 0, h, _ => by rw [Nat.le_zero.1 h]
  | k + 1, h, hS => by
    by_cases e : j = k + 1
    · rw [e]
    · simp only [En, hS k (by omega) (by omega), Bool.false_eq_true, if_false]
      exact En_skip k (by omega) fun i h1 h2 => hS i h1 (by omega)

theorem Gm_congr {base : Mem} {S S' : Nat → Bool} : ∀ (k : Nat), (∀ i id B, i < k → effs i = .store id B → S i = S' i) → Gm effs base S k = Gm effs base S' k
  | 0, _ => rfl
  | k + 1, h => by
    have ih := Gm_congr (base := base) (S := S) (S' := S') k fun i id B hi => h i id B (by omega)
    simp only [Gm]
    cases he : effs k with
    | store id B => (try dsimp only); rw [h k id B (by omega) he, ih]
    | none => exact ih
    | alloc B => exact ih

theorem Gm_skip {base : Mem} {S : Nat → Bool} {j : Nat} : ∀ (k : Nat), j ≤ k → (∀ i id B, j ≤ i → i < k → effs i = .store id B → S i = false) → Gm effs base S k = Gm effs base S j
  | 0, h, _ => by rw [Nat.le_zero.1 h]
  | k + 1, h, hS => by
    by_cases e : j = k + 1
    · rw [e]
    · have ih := Gm_skip (base := base) (S := S) (j := j) k (by omega) fun i id B h1 h2 => hS i id B h1 (by omega)
      simp only [Gm]
      cases he : effs k with
      | store id B => simp only [hS k id B (by omega) (by omega) he, Bool.false_eq_true, if_false]; exact ih
      | none => exact ih
      | alloc B => exact ih

theorem GmLen {base : Mem} {S : Nat → Bool} : ∀ (k : Nat), (Gm effs base S k).length = base.length
  | 0 => rfl
  | k + 1 => by
    have ih := GmLen (base := base) (S := S) k
    simp only [Gm]
    cases effs k with
    | store id B => (try dsimp only); split <;> simp [ih]
    | none => exact ih
    | alloc B => exact ih

theorem Gm_at {base : Mem} {S S' : Nat → Bool} {id : Nat} : ∀ (k : Nat), (∀ i B, i < k → effs i = .store id B → S i = S' i) → (Gm effs base S k)[id]? = (Gm effs base S' k)[id]?
  | 0, _ => rfl
  | k + 1, h => by
    have ih := Gm_at (base := base) (S := S) (S' := S') (id := id) k fun i B hi => h i B (by omega)
    simp only [Gm]
    cases he : effs k with
    | none => exact ih
    | alloc B => exact ih
    | store id' B =>
      dsimp only
      by_cases e : id' = id
      · subst e
        rw [h k B (by omega) he]
        split
        · simp only [List.getElem?_set, if_true]
          rw [GmLen (S := S) k, GmLen (S := S') k]
        · exact ih
      · have key : ∀ (S0 : Nat → Bool), (if S0 k = true then (Gm effs base S0 k).set id' B else Gm effs base S0 k)[id]? = (Gm effs base S0 k)[id]? := by
          intro S0
          split
          · exact List.getElem?_set_ne e
          · rfl
        rw [key S, key S']; exact ih

theorem Gm_skip_at {base : Mem} {S : Nat → Bool} {j id : Nat} : ∀ (k : Nat), j ≤ k → (∀ i B, j ≤ i → i < k → effs i = .store id B → S i = false) → (Gm effs base S k)[id]? = (Gm effs base S j)[id]?
  | 0, h, _ => by rw [Nat.le_zero.1 h]
  | k + 1, h, hS => by
    by_cases e : j = k + 1
    · rw [e]
    · have ih := Gm_skip_at (base := base) (S := S) (j := j) (id := id) k (by omega) fun i B h1 h2 => hS i B h1 (by omega)
      simp only [Gm]
      cases he : effs k with
      | none => exact ih
      | alloc B => exact ih
      | store id' B =>
        dsimp only
        by_cases e' : id' = id
        · subst e'
          rw [hS k B (by omega) (by omega) he]
          exact ih
        · split
          · rw [List.getElem?_set_ne e']; exact ih
          · exact ih

theorem Gm_length {base : Mem} {S : Nat → Bool} : ∀ (k : Nat), (Gm effs base S k).length = base.length
  | 0 => rfl
  | k + 1 => by
    have ih := Gm_length (base := base) (S := S) k
    simp only [Gm]
    cases effs k with
    | store id B => (try dsimp only); split <;> simp [ih]
    | none => exact ih
    | alloc B => exact ih

theorem Gm_keep {base : Mem} {S : Nat → Bool} {N : Nat} : ∀ (k : Nat), (∀ i id B, i < k → S i = true → effs i = .store id B → id ≠ N) → (Gm effs base S k)[N]? = base[N]?
  | 0, _ => rfl
  | k + 1, h => by
    have ih := Gm_keep (base := base) (S := S) (N := N) k fun i id B hi => h i id B (by omega)
    simp only [Gm]
    cases he : effs k with
    | store id B =>
      try dsimp only
      split
      · rename_i hs; rw [List.getElem?_set_ne (h k id B (by omega) hs he)]; exact ih
      · exact ih
    | none => exact ih
    | alloc B => exact ih

theorem Al_prefix {j : Nat} : ∀ (k : Nat), j ≤ k → ∃ e, Al effs k = Al effs j ++ e
  | 0, h => ⟨[], by rw [Nat.le_zero.1 h]; simp⟩
  | k + 1, h => by
    by_cases e : j = k + 1
    · exact ⟨[], by rw [e]; simp⟩
    · obtain ⟨e, he⟩ := Al_prefix (j := j) k (by omega)
      simp only [Al]
      cases effs k with
      | alloc B => exact ⟨e ++ [B], by simp [he]⟩
      | none => exact ⟨e, he⟩
      | store id B => exact ⟨e, he⟩
end draw

section
variable {nt : Nat} {ops : Array Oper} {envs : Nat → Env} {mems : Nat → Mem} {vs : Nat → AV} {effs : Nat → Eff} {bs : Nat → Bool} {fs : List (Option Nat)}

abbrev AllLex (P : Program) (nt : Nat) (ops : Array Oper) (envs : Nat → Env) (mems : Nat → Mem) (vs : Nat → AV) (effs : Nat → Eff) (bs : Nat → Bool) (fs : List (Option Nat)) : Prop :=
  ∀ i o, ops[i]? = some o → LexAt P nt ops o (envs i) (envs (i + 1)) (mems i) (mems (i + 1)) (vs i) (effs i) (bs i) (fs.getD i none)

theorem op_at {k : Nat} (h : k < ops.size) : ∃ o, ops[k]? = some o := ⟨ops[k], by simp [h]⟩

theorem envs_En (hl : AllLex P nt ops envs mems vs effs bs fs) : ∀ (k : Nat), k ≤ ops.size → ∀ t, look t (envs k) = look t (En ops (envs 0) vs (fun _ => true) k)
  | 0, _, _ => rfl
  | k + 1, h, t => by
    obtain ⟨o, ho⟩ := op_at (ops := ops) (k := k) (by omega)
    have ih := envs_En hl k (by omega) t
    rw [(hl k o ho).lk t]
    simp only [En, if_true, ho, Option.bind_some]
    cases hd : o.dst with
    | none => simpa using ih
    | some d =>
      simp only [look_cons, Option.some.injEq]
      split
      · rfl
      · exact ih

theorem mems_length (hl : AllLex P nt ops envs mems vs effs bs fs) : ∀ (k : Nat), k ≤ ops.size → (mems k).length = (mems 0).length + (Al effs k).length
  | 0, _ => by simp [Al]
  | k + 1, h => by
    obtain ⟨o, ho⟩ := op_at (ops := ops) (k := k) (by omega)
    have ih := mems_length hl k (by omega)
    rw [(hl k o ho).mm]
    simp only [Al]
    cases effs k with
    | alloc B => simp [Eff.on, ih]; omega
    | none => simpa [Eff.on] using ih
    | store id B => simpa [Eff.on, setNth_eq] using ih

theorem mems_prefix (hl : AllLex P nt ops envs mems vs effs bs fs) : ∀ (k : Nat), k ≤ ops.size → ∀ (id : Nat) (B : Blk), (mems k)[id]? = some B →
    (Gm effs (mems 0 ++ Al effs ops.size) (fun _ => true) k)[id]? = some B
  | 0, _, id, B, h => by
    simp only [Gm]
    rw [List.getElem?_append_left (List.getElem?_eq_some_iff.1 h).1]; exact h
  | k + 1, hk, id, B, h => by
    obtain ⟨o, ho⟩ := op_at (ops := ops) (k := k) (by omega)
    have ih := mems_prefix hl k (by omega)
    have hlen := mems_length hl k (by omega)
    rw [(hl k o ho).mm] at h
    have hsl := (hl k o ho).stl
    simp only [Gm]
    cases he : effs k with
    | none => rw [he] at h; simp only [Eff.on] at h; exact ih id B h
    | store id' B' =>
      rw [he] at h
      simp only [Eff.on, setNth_eq] at h
      simp only [if_true]
      by_cases e : id' = id
      · subst e
        have hlt := hsl id' B' he
        rw [List.getElem?_set_self hlt] at h
        have : id' < (Gm effs (mems 0 ++ Al effs ops.size) (fun _ => true) k).length := (List.getElem?_eq_some_iff.1 (ih id' _ (List.getElem?_eq_getElem hlt))).1
        rw [List.getElem?_set_self this]; exact h
      · rw [List.getElem?_set_ne e] at h ⊢; exact ih id B h
    | alloc B' =>
      rw [he] at h
      simp only [Eff.on] at h
      try dsimp only
      rcases Nat.lt_or_ge id (mems k).length with hlt | hge
      · rw [List.getElem?_append_left hlt] at h; exact ih id B h
      · rw [List.getElem?_append_right hge] at h
        have h0 : id = (mems k).length ∧ B' = B := by
          cases hd : id - (mems k).length with
          | zero => rw [hd] at h; simp at h; exact ⟨by omega, h⟩
          | succ n => rw [hd] at h; simp at h
        obtain ⟨rfl, rfl⟩ := h0
        rw [Gm_keep k fun i id B hi _ hs => ?_]
        · obtain ⟨e, hee⟩ := Al_prefix (effs := effs) (j := k + 1) ops.size hk
          simp only [Al, he] at hee
          rw [hee, hlen, List.getElem?_append_right (by omega), show (mems 0).length + (Al effs k).length - (mems 0).length = (Al effs k).length by omega]
          rw [List.append_assoc, List.getElem?_append_right (Nat.le_refl _), Nat.sub_self]
          simp
        · obtain ⟨oi, hoi⟩ := op_at (ops := ops) (k := i) (by omega)
          have h1 := (hl i oi hoi).stl id B hs
          have h2 := mems_length hl i (by omega)
          obtain ⟨e, hee⟩ := Al_prefix (effs := effs) (j := i) k (by omega)
          rw [hee, List.length_append] at hlen
          omega

theorem mems_end (hl : AllLex P nt ops envs mems vs effs bs fs) : Gm effs (mems 0 ++ Al effs ops.size) (fun _ => true) ops.size = mems ops.size := by
  have hlen := mems_length hl ops.size (Nat.le_refl _)
  refine List.ext_getElem? fun id => ?_
  rcases Nat.lt_or_ge id (mems ops.size).length with h | h
  · rw [List.getElem?_eq_getElem h]
    exact mems_prefix hl ops.size (Nat.le_refl _) id _ (List.getElem?_eq_getElem h)
  · rw [List.getElem?_eq_none h, List.getElem?_eq_none (by rw [Gm_length, List.length_append]; omega)]

end
end Pw
