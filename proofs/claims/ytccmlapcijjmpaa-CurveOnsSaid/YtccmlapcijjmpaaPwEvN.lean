/- A part of the proof: PwEvN. -/
import Derived.Test.YtccmlapcijjmpaaPwEvM
namespace Pw
open Go Go.RowKit

variable {P : Program} {T : List (Nat × TE)} {ρ : Type}

/-! ### a region whose order is drawn -/

/-- the slots that an operation names -/
def named (o : Oper) : List Nat :=
  o.op.operands.toList.filterMap fun x => match x with
    | .tmp t => some t
    | _ => none

def dstIn (d : Option Nat) (l : List Nat) : Bool :=
  match d with
  | none => false
  | some d => l.any fun t => Nat.beq d t

def slotIn (d : Option Nat) (g : Option Nat) : Bool :=
  match d, g with
  | some a, some b => Nat.beq a b
  | _, _ => false

/-- may two operations not change places? -/
def disj : Option Nat → Option Nat → Bool
  | some a, some b => !Nat.beq a b
  | _, _ => false

def conf (ops : Array Oper) (x y : Oper × Option Nat) : Bool :=
  dstIn x.1.dst (named y.1) || dstIn y.1.dst (named x.1) || slotIn x.1.dst (gslot ops y.1) || slotIn y.1.dst (gslot ops x.1) || slotIn x.1.dst y.1.dst ||
    ((isStore x.1.op || isStore y.1.op) && ((memOp x.1.op && memOp y.1.op) && !disj x.2 y.2))

def zipF : List Oper → List (Option Nat) → List (Oper × Option Nat)
  | [], _ => []
  | o :: l, [] => (o, none) :: zipF l []
  | o :: l, f :: fs => (o, f) :: zipF l fs

theorem zipF_get : ∀ (l : List Oper) (fs : List (Option Nat)) (i : Nat), (zipF l fs)[i]? = (l[i]?).map fun o => (o, fs.getD i none)
  | [], fs, i => by cases fs <;> simp [zipF]
  | o :: l, [], 0 => by simp [zipF]
  | o :: l, [], i + 1 => by simp [zipF, zipF_get l []]
  | o :: l, f :: fs, 0 => by simp [zipF]
  | o :: l, f :: fs, i + 1 => by simp [zipF, zipF_get l fs]

def maskOf (acc : List Nat) (o : Oper) : Nat :=
  o.after.toList.foldl (fun s e => if Region.binds .any e then s ||| 2 ^ e.on ||| (acc.getD e.on 0) else s) 0

def masks : List Oper → List Nat → List Nat
  | [], acc => acc
  | o :: l, acc => masks l (acc ++ [maskOf acc o])

def confRow (ops : Array Oper) (l : List (Oper × Option Nat)) (mask : Nat) (y : Oper × Option Nat) : Nat → Bool
  | i => match l with
    | [] => true
    | x :: r => (!conf ops x y || mask.testBit i) && confRow ops r mask y (i + 1)

def confAll (ops : Array Oper) (all : List (Oper × Option Nat)) : List (Oper × Option Nat) → List Nat → Nat → Bool
  | o :: l, m :: ms, j => confRow ops (all.take j) m o 0 && confAll ops all l ms (j + 1)
  | _, _, _ => true

def edgesOk : List Oper → Nat → Bool
  | [], _ => true
  | o :: l, i => (o.after.toList.all fun e => !Region.binds .any e || Nat.ble (e.on + 1) i) && edgesOk l (i + 1)

def regOk (ops : Array Oper) (fs : List (Option Nat)) : Bool := edgesOk ops.toList 0 && confAll ops (zipF ops.toList fs) (zipF ops.toList fs) (masks ops.toList []) 0

/-- no operation of `l` that `y` must wait for is free of it -/
theorem confRow_spec {ops : Array Oper} {mask : Nat} {y : Oper × Option Nat} : ∀ {l : List (Oper × Option Nat)} {i : Nat}, confRow ops l mask y i = true → ∀ k x, l[k]? = some x → conf ops x y = true → mask.testBit (i + k) = true
  | [], _, _, k, x, hx, _ => by simp at hx
  | z :: r, i, h, k, x, hx, hc => by
    unfold confRow at h
    simp only [Bool.and_eq_true, Bool.or_eq_true, Bool.not_eq_true'] at h
    cases k with
    | zero =>
      simp only [List.getElem?_cons_zero, Option.some.injEq] at hx
      subst hx
      rcases h.1 with h1 | h1
      · rw [hc] at h1; cases h1
      · simpa using h1
    | succ k =>
      have := confRow_spec h.2 k x (by simpa using hx) hc
      rwa [show i + 1 + k = i + (k + 1) by omega] at this

theorem confAll_spec {ops : Array Oper} {all : List (Oper × Option Nat)} : ∀ {l : List (Oper × Option Nat)} {ms : List Nat} {j : Nat}, confAll ops all l ms j = true → ∀ k y m, l[k]? = some y → ms[k]? = some m →
    ∀ i x, i < j + k → all[i]? = some x → conf ops x y = true → m.testBit i = true
  | [], _, _, _, k, y, m, hy, _, _, _, _, _, _ => by simp at hy
  | _ :: _, [], _, _, k, y, m, _, hm, _, _, _, _, _ => by simp at hm
  | o :: l, m0 :: ms, j, h, k, y, m, hy, hm, i, x, hi, hx, hc => by
    unfold confAll at h
    simp only [Bool.and_eq_true] at h
    cases k with
    | zero =>
      simp only [List.getElem?_cons_zero, Option.some.injEq] at hy hm
      subst hy; subst hm
      have := confRow_spec h.1 i x (by rw [List.getElem?_take, if_pos (by omega)]; exact hx) hc
      simpa using this
    | succ k =>
      exact confAll_spec h.2 k y m (by simpa using hy) (by simpa using hm) i x (by omega) hx hc

theorem masks_length : ∀ (l : List Oper) (acc : List Nat), (masks l acc).length = acc.length + l.length
  | [], acc => by simp [masks]
  | o :: l, acc => by simp [masks, masks_length l]; omega

theorem masks_get : ∀ (l : List Oper) (acc : List Nat) (i : Nat), i < acc.length → (masks l acc)[i]? = acc[i]?
  | [], acc, i, _ => rfl
  | o :: l, acc, i, h => by
    simp only [masks]
    rw [masks_get l _ i (by simp; omega), List.getElem?_append_left h]

/-- a set of operations that holds what each of them waits for -/
def Closed (ops : Array Oper) (S : Nat → Bool) : Prop :=
  ∀ i o, ops[i]? = some o → S i = true → ∀ e ∈ o.after.toList, Region.binds .any e = true → S e.on = true

theorem maskOf_spec {S : Nat → Bool} {acc : List Nat} {o : Oper} (hacc : ∀ (i m : Nat), acc[i]? = some m → S i = true → ∀ j, m.testBit j = true → S j = true)
    (he : ∀ e ∈ o.after.toList, Region.binds .any e = true → S e.on = true) : ∀ j, (maskOf acc o).testBit j = true → S j = true := by
  unfold maskOf
  have key : ∀ (l : List Edge) (s : Nat), (∀ e ∈ l, Region.binds .any e = true → S e.on = true) → (∀ j, s.testBit j = true → S j = true) →
      ∀ j, (l.foldl (fun s e => if Region.binds .any e then s ||| 2 ^ e.on ||| (acc.getD e.on 0) else s) s).testBit j = true → S j = true := by
    intro l
    induction l with
    | nil => intro s _ hs j hj; exact hs j hj
    | cons e l ih =>
      intro s hl hs
      simp only [List.foldl_cons]
      refine ih _ (fun e' he' => hl e' (by simp [he'])) fun j hj => ?_
      split at hj
      · rename_i hb
        have hS := hl e (by simp) hb
        simp only [Nat.testBit_or, Bool.or_eq_true] at hj
        rcases hj with (h1 | h1) | h1
        · exact hs j h1
        · rw [Nat.testBit_two_pow] at h1
          have : e.on = j := by simpa using h1
          rw [← this]; exact hS
        · rw [List.getD_eq_getElem?_getD] at h1
          cases hm : acc[e.on]? with
          | none => rw [hm] at h1; simp at h1
          | some m => rw [hm] at h1; exact hacc _ _ hm hS j (by simpa using h1)
      · exact hs j hj
  exact key _ 0 he (by simp)

theorem masks_spec {ops : Array Oper} {S : Nat → Bool} (hS : Closed ops S) : ∀ (l : List Oper) (acc : List Nat), (∀ k, l[k]? = ops[acc.length + k]?) →
    (∀ (i m : Nat), acc[i]? = some m → S i = true → ∀ j, m.testBit j = true → S j = true) →
    ∀ (i m : Nat), (masks l acc)[i]? = some m → S i = true → ∀ j, m.testBit j = true → S j = true
  | [], acc, _, hacc => hacc
  | o :: l, acc, hl, hacc => by
    simp only [masks]
    have ho : ops[acc.length]? = some o := by have := hl 0; simpa using this.symm
    refine masks_spec hS l _ (fun k => by
      have := hl (k + 1)
      rw [List.length_append, List.length_cons, List.length_nil, show acc.length + (0 + 1) + k = acc.length + (k + 1) by omega]; simpa using this) fun i m hm hi => ?_
    rcases Nat.lt_or_ge i acc.length with h | h
    · rw [List.getElem?_append_left h] at hm; exact hacc i m hm hi
    · rw [List.getElem?_append_right h] at hm
      cases hd : i - acc.length with
      | zero =>
        rw [hd] at hm
        simp only [List.getElem?_cons_zero, Option.some.injEq] at hm
        have hia : i = acc.length := by omega
        subst hia; subst hm
        exact maskOf_spec hacc (hS _ _ ho hi)
      | succ n => rw [hd] at hm; simp at hm

/-- what the check of a region gives: operations that conflict stand in the text's order, whatever the draw is -/
theorem regOk_order {ops : Array Oper} {fs : List (Option Nat)} (h : regOk ops fs = true) {S : Nat → Bool} (hS : Closed ops S) {i j : Nat} {x y : Oper} (hij : i < j) (hx : ops[i]? = some x) (hy : ops[j]? = some y) (hc : conf ops (x, fs.getD i none) (y, fs.getD j none) = true)
    (hj : S j = true ∨ ∀ e ∈ y.after.toList, Region.binds .any e = true → S e.on = true) : S i = true := by
  simp only [regOk, Bool.and_eq_true] at h
  have hx'' : ops.toList[i]? = some x := by simpa using hx
  have hy' : ops.toList[j]? = some y := by simpa using hy
  have hx' : (zipF ops.toList fs)[i]? = some (x, fs.getD i none) := by rw [zipF_get, hx'']; rfl
  have hy2 : (zipF ops.toList fs)[j]? = some (y, fs.getD j none) := by rw [zipF_get, hy']; rfl
  have hjl : j < ops.toList.length := (List.getElem?_eq_some_iff.1 hy').1
  have hml := masks_length ops.toList []
  have hm : (masks ops.toList [])[j]? = some ((masks ops.toList [])[j]'(by rw [hml]; simpa using hjl)) := List.getElem?_eq_getElem _
  have hbit := confAll_spec h.2 j _ _ hy2 hm i _ (by omega) hx' hc
  rcases hj with hj | hj
  · exact masks_spec hS ops.toList [] (fun k => by simp) (fun i m hm => by simp at hm) j _ hm hj i hbit
  · -- the mask of an operation that is ready
    have hsplit : ∀ (l : List Oper) (acc : List Nat), (∀ k, l[k]? = ops[acc.length + k]?) → (∀ (i m : Nat), acc[i]? = some m → S i = true → ∀ j, m.testBit j = true → S j = true) →
        acc.length ≤ j → ∀ m, (masks l acc)[j]? = some m → ∀ b, m.testBit b = true → S b = true := by
      intro l
      induction l with
      | nil => intro acc _ _ hle m hm; simp only [masks] at hm; have := (List.getElem?_eq_some_iff.1 hm).1; omega
      | cons o l ih =>
        intro acc hl hacc hle m hm
        have ho : ops[acc.length]? = some o := by have := hl 0; simpa using this.symm
        simp only [masks] at hm
        have hl' : ∀ k, l[k]? = ops[(acc ++ [maskOf acc o]).length + k]? := fun k => by
          have := hl (k + 1)
          rw [List.length_append, List.length_cons, List.length_nil, show acc.length + (0 + 1) + k = acc.length + (k + 1) by omega]; simpa using this
        by_cases e : acc.length = j
        · rw [masks_get l _ j (by simp; omega), List.getElem?_append_right (by omega), show j - acc.length = 0 by omega] at hm
          simp only [List.getElem?_cons_zero, Option.some.injEq] at hm
          subst hm
          have hyo : y = o := by rw [← e] at hy; rw [ho] at hy; exact (Option.some.inj hy).symm
          subst hyo
          exact maskOf_spec hacc hj
        · refine ih _ hl' (fun i m hm hi => ?_) (by simp; omega) m hm
          rcases Nat.lt_or_ge i acc.length with h' | h'
          · rw [List.getElem?_append_left h'] at hm; exact hacc i m hm hi
          · rw [List.getElem?_append_right h'] at hm
            cases hd : i - acc.length with
            | zero =>
              rw [hd] at hm
              simp only [List.getElem?_cons_zero, Option.some.injEq] at hm
              have hia : i = acc.length := by omega
              subst hia; subst hm
              exact maskOf_spec hacc (hS _ _ ho hi)
            | succ n => rw [hd] at hm; simp at hm
    exact hsplit ops.toList [] (fun k => by simp) (fun i m hm => by simp at hm) (Nat.zero_le _) _ hm i hbit

end Pw
