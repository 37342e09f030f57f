/- A part of the proof: PwEvB. -/
import Derived.Test.YtccmlapcijjmpaaPwEvA
namespace Pw
open Go

/-! ### tables of types -/

inductive Ty where
  | bool | int (k : IntKind) | str | ptr
  | slice (e : Nat)
  | arr (n e : Nat)
  | struct (fs : List (Nat × Nat))
  | other

structure TE where
  ty : Ty
  size : Nat
  bytes : Nat
  zero : Option (List AV)
  eqp : Option IntKind

def tyOf : TypeDesc → Ty
  | .bool => .bool
  | .int k => .int k
  | .string => .str
  | .pointer _ => .ptr
  | .slice e => .slice e
  | .array n e => .arr n e
  | .struct fs => .struct (fs.toList.map fun f => (f.offset, f.type))
  | _ => .other

/-- the cells of fields that lie one behind the other -/
def plainFields (f : TypeId → Option Nat) : List Field → Nat → Option Nat
  | [], off => some off
  | g :: r, off => match f g.type with
    | some m => if 0 < m ∧ g.name ≠ "_" ∧ g.offset = off then plainFields f r (off + m) else none
    | none => none

/-- the cells of a type whose equality is that of its cells, numbers of one kind -/
def plainCells (P : Program) (kd : IntKind) : Nat → TypeId → Option Nat
  | 0, _ => none
  | d + 1, t =>
    match P.underlying t with
    | some (.int k) => if k = kd ∧ P.cellsOf t = 1 then some 1 else none
    | some (.array n e) => (plainCells P kd d e).bind fun m => if 0 < m ∧ P.cellsOf e = m ∧ P.cellsOf t = n * m then some (n * m) else none
    | some (.struct fs) =>
      if P.stoodInHeld t then none else
      (plainFields (plainCells P kd d) fs.toList 0).bind fun s => if P.cellsOf t = s then some s else none
    | _ => none

def otherTE : TE := { ty := .other, size := 0, bytes := 0, zero := none, eqp := none }

def entOf (P : Program) (t : Nat) : TE :=
  match P.info? t, P.underlying t with
  | some i, some d => { ty := tyOf d, size := i.size, bytes := i.bytes, zero := i.zero.map fun v => v.cells.toList.map ofVal,
                        eqp := if P.eqGuardType P.depth t then none else if (plainCells P .u8 8 t).isSome then some .u8 else if (plainCells P .u64 8 t).isSome then some .u64 else if (plainCells P .u32 8 t).isSome then some .u32 else none }
  | _, _ => otherTE

def teAt : List (Nat × TE) → Nat → TE
  | [], _ => otherTE
  | (s, e) :: r, t => bif Nat.beq s t then e else teAt r t

def TabOK (P : Program) (T : List (Nat × TE)) : Prop := ∀ t, (teAt T t).ty ≠ .other → teAt T t = entOf P t

theorem tab_of (P : Program) (ids : List Nat) : TabOK P (ids.map fun t => (t, entOf P t)) := by
  intro t ht
  induction ids with
  | nil => simp [teAt, otherTE] at ht
  | cons s r ih =>
    simp only [List.map, teAt] at ht ⊢
    by_cases h : s = t
    · subst h; simp [Nat.beq_refl]
    · have hb : Nat.beq s t = false := by
        cases hb : Nat.beq s t with
        | false => rfl
        | true => exact absurd (Nat.eq_of_beq_eq_true hb) h
      rw [hb] at ht ⊢; exact ih ht

/-- what the table says of a type -/
structure Known (P : Program) (t : Nat) (e : TE) : Prop where
  info : ∃ i, P.info? t = some i ∧ i.size = e.size ∧ i.bytes = e.bytes ∧ (i.zero.map fun v => v.cells.toList.map ofVal) = e.zero
  under : ∃ d, P.underlying t = some d ∧ tyOf d = e.ty
  eq : ∀ kd, e.eqp = some kd → ∃ m, plainCells P kd 8 t = some m ∧ P.eqGuardType P.depth t = false

variable {P : Program} {T : List (Nat × TE)}

theorem TabOK.known (hT : TabOK P T) {t : Nat} (h : (teAt T t).ty ≠ .other) : Known P t (teAt T t) := by
  have he := hT t h
  rw [he] at h ⊢
  unfold entOf at h ⊢
  split
  · rename_i i d h1 h2
    refine ⟨⟨i, h1, rfl, rfl, rfl⟩, ⟨d, h2, rfl⟩, fun kd hq => ?_⟩
    dsimp only at hq
    split at hq
    · cases hq
    · rename_i hg
      have hg' : P.eqGuardType P.depth t = false := by simpa using hg
      split at hq
      · rename_i h3; obtain ⟨m, hm⟩ := Option.isSome_iff_exists.1 h3; cases hq; exact ⟨m, hm, hg'⟩
      · split at hq
        · rename_i h3; obtain ⟨m, hm⟩ := Option.isSome_iff_exists.1 h3; cases hq; exact ⟨m, hm, hg'⟩
        · split at hq
          · rename_i h3; obtain ⟨m, hm⟩ := Option.isSome_iff_exists.1 h3; cases hq; exact ⟨m, hm, hg'⟩
          · cases hq
  · rename_i hx
    split at h
    · rename_i i d h1 h2; exact absurd h2 (hx i d h1)
    · simp [otherTE] at h

theorem Known.arr {t : Nat} {e : TE} {n el : Nat} (k : Known P t e) (h : e.ty = .arr n el) : P.underlying t = some (.array n el) := by
  obtain ⟨d, hd, hty⟩ := k.under
  rw [h] at hty; cases d <;> simp [tyOf] at hty; rw [hd, hty.1, hty.2]
theorem Known.slice {t : Nat} {e : TE} {el : Nat} (k : Known P t e) (h : e.ty = .slice el) : P.underlying t = some (.slice el) := by
  obtain ⟨d, hd, hty⟩ := k.under
  rw [h] at hty; cases d <;> simp [tyOf] at hty; rw [hd, hty]
theorem Known.int {t : Nat} {e : TE} {kd : IntKind} (k : Known P t e) (h : e.ty = .int kd) : P.underlying t = some (.int kd) := by
  obtain ⟨d, hd, hty⟩ := k.under
  rw [h] at hty; cases d <;> simp [tyOf] at hty; rw [hd, hty]
theorem Known.bool {t : Nat} {e : TE} (k : Known P t e) (h : e.ty = .bool) : P.underlying t = some .bool := by
  obtain ⟨d, hd, hty⟩ := k.under
  rw [h] at hty; cases d <;> simp [tyOf] at hty; rw [hd]
theorem Known.str {t : Nat} {e : TE} (k : Known P t e) (h : e.ty = .str) : P.underlying t = some .string := by
  obtain ⟨d, hd, hty⟩ := k.under
  rw [h] at hty; cases d <;> simp [tyOf] at hty; rw [hd]
theorem Known.ptr {t : Nat} {e : TE} (k : Known P t e) (h : e.ty = .ptr) : ∃ el, P.underlying t = some (.pointer el) := by
  obtain ⟨d, hd, hty⟩ := k.under
  rw [h] at hty; cases d <;> simp [tyOf] at hty; exact ⟨_, hd⟩
theorem Known.struct {t : Nat} {e : TE} {fs : List (Nat × Nat)} (k : Known P t e) (h : e.ty = .struct fs) :
    ∃ fa, P.underlying t = some (.struct fa) ∧ fa.toList.map (fun f => (f.offset, f.type)) = fs := by
  obtain ⟨d, hd, hty⟩ := k.under
  rw [h] at hty; cases d <;> simp [tyOf] at hty; exact ⟨_, hd, by simpa using hty⟩

section runs
variable {w : World} {t : Nat} {e : TE}
theorem run_under {d : TypeDesc} (h : P.underlying t = some d) : (underlying t).run P w = .ok d w := by
  simp [underlying, h]
theorem Known.run_info (k : Known P t e) : ∃ i, (typeInfo t).run P w = .ok i w ∧ i.size = e.size ∧ i.bytes = e.bytes ∧ (i.zero.map fun v => v.cells.toList.map ofVal) = e.zero := by
  obtain ⟨i, h, r⟩ := k.info
  exact ⟨i, by simp [typeInfo, h], r⟩
theorem Known.run_size (k : Known P t e) : (Go.sizeOf t).run P w = .ok e.size w := by
  obtain ⟨i, h, h1, -⟩ := k.run_info (w := w)
  simp [Go.sizeOf, h, h1]
theorem Known.run_zero (k : Known P t e) {z : List AV} (hz : e.zero = some z) : ∃ v, (zeroValue t).run P w = .ok v w ∧ ∀ σ, RL σ z v.cells.toList := by
  obtain ⟨i, h, -, -, h3⟩ := k.run_info (w := w)
  rw [hz] at h3
  cases hv : i.zero with
  | none => simp [hv] at h3
  | some v =>
    simp only [hv, Option.map_some, Option.some.injEq] at h3
    refine ⟨v, by simp [zeroValue, h, hv], fun σ => ?_⟩
    rw [← h3]
    generalize v.cells.toList = l
    induction l with
    | nil => exact .nil
    | cons x l ih => exact .cons _ _ _ _ (ofVal_R σ x) ih

def Ty.agg : Ty → Bool
  | .arr .. | .struct _ => true
  | _ => false

theorem Known.run_isAgg (k : Known P t e) : (isAgg t).run P w = .ok e.ty.agg w := by
  obtain ⟨d, hd, hty⟩ := k.under
  rw [← hty]
  cases d <;> simp [isAgg, run_under hd, tyOf, Ty.agg]
end runs

end Pw
