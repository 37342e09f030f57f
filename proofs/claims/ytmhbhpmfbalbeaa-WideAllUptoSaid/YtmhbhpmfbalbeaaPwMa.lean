/- A part of the proof, for all claims alike: PwEvA, PwEvB, PwEvC, PwEvD, PwEvE, PwEvF, PwEvG. -/
import Derived.WalkKit
import Derived.ChangeKeysEq
namespace Pw
open Go

/-- Abstract values: what the evaluator computes with. -/
inductive AV where
  | bool (b : Bool)
  | u (k : IntKind) (n : Nat)
  | n (i : Int)
  | str (s : ByteArray)
  | ptr (id off : Nat)
  | nilp
  | slice (id off len : Nat) (ap : Bool)
  | nils
  | emp
  | fn (f : FuncId) (caps : List AV)
  | agg (cs : List AV)
  | tup (vs : List AV)
  | unk
  deriving Inhabited

/-- where the evaluator's blocks lie: the block, the cell at which it begins there, how many cells there are from there on -/
abbrev Ren := Nat → Option (Nat × Nat × Nat)

mutual
inductive R (σ : Ren) : AV → Value → Prop
  | bool (b : Bool) : R σ (.bool b) (.bool b)
  | u (k : IntKind) (n : Nat) : k.signed = false → n < 2 ^ k.bits → R σ (.u k n) (.int k (n : Int))
  | n (i : Int) : -9223372036854775808 ≤ i → i < 9223372036854775808 → R σ (.n i) (.int .i64 i)
  | str (s : ByteArray) : R σ (.str s) (.string s)
  | ptr (id off b δ s : Nat) : σ id = some (b, δ, s) → R σ (.ptr id off) (.pointer (some ⟨b, δ + off, none⟩))
  | nilp : R σ .nilp (.pointer none)
  | slice (id off len : Nat) (ap : Bool) (cap b δ s : Nat) : σ id = some (b, δ, s) → len ≤ cap → cap < 9223372036854775808 → (ap = true → off + cap ≤ s) → R σ (.slice id off len ap) (.slice (some ⟨b, δ + off, none⟩) len cap)
  | slic0 (id off : Nat) (ap : Bool) (a : Option Addr) : R σ (.slice id off 0 ap) (.slice a 0 0)
  | nils : R σ .nils (.slice none 0 0)
  | emp (a : Option Addr) : R σ .emp (.slice a 0 0)
  | fn (f : FuncId) (caps : List AV) (arr : Array Value) : RL σ caps arr.toList → R σ (.fn f caps) (.func (.func f) #[] arr)
  | agg (cs : List AV) (arr : Array Value) : RL σ cs arr.toList → R σ (.agg cs) (.agg arr)
  | tup (cs : List AV) (arr : Array Value) : RL σ cs arr.toList → R σ (.tup cs) (.tuple arr)
  | unk (v : Value) : R σ .unk v
inductive RL (σ : Ren) : List AV → List Value → Prop
  | nil : RL σ [] []
  | cons (a : AV) (v : Value) (l : List AV) (m : List Value) : R σ a v → RL σ l m → RL σ (a :: l) (v :: m)
end

def AV.scalar : AV → Bool
  | .agg _ | .tup _ | .unk => false
  | _ => true

theorem R.oneCell {σ : Ren} {a : AV} {v : Value} (h : R σ a v) (hs : a.scalar = true) : v.oneCell' = true := by
  cases h <;> simp_all [AV.scalar, Value.oneCell']

def Ext (σ σ' : Ren) : Prop := ∀ i p, σ i = some p → σ' i = some p
theorem Ext.refl (σ : Ren) : Ext σ σ := fun _ _ h => h
theorem Ext.trans {a b c : Ren} (h : Ext a b) (k : Ext b c) : Ext a c := fun i p hp => k i p (h i p hp)

mutual
theorem R.ext {σ σ' : Ren} (h : Ext σ σ') : {a : AV} → {v : Value} → R σ a v → R σ' a v
  | _, _, .bool b => .bool b
  | _, _, .u k n a b => .u k n a b
  | _, _, .n i a b => .n i a b
  | _, _, .str s => .str s
  | _, _, .ptr id off b δ s e => .ptr id off b δ s (h _ _ e)
  | _, _, .nilp => .nilp
  | _, _, .slice id off len ap cap b δ s e l c d => .slice id off len ap cap b δ s (h _ _ e) l c d
  | _, _, .slic0 id off ap a => .slic0 id off ap a
  | _, _, .nils => .nils
  | _, _, .emp a => .emp a
  | _, _, .fn f caps arr l => .fn f caps arr (RL.ext h l)
  | _, _, .agg cs arr l => .agg cs arr (RL.ext h l)
  | _, _, .tup cs arr l => .tup cs arr (RL.ext h l)
  | _, _, .unk v => .unk v
theorem RL.ext {σ σ' : Ren} (h : Ext σ σ') : {l : List AV} → {m : List Value} → RL σ l m → RL σ' l m
  | _, _, .nil => .nil
  | _, _, .cons a v l m x y => .cons a v l m (R.ext h x) (RL.ext h y)
end

/-- a value that names no block -/
def AV.closed : AV → Bool
  | .bool _ | .u .. | .n _ | .str _ | .nilp | .nils | .emp => true
  | .agg cs | .tup cs => all cs
  | _ => false
where all : List AV → Bool
  | [] => true
  | a :: l => match a.closed with | true => all l | false => false

mutual
theorem R.closed' {σ σ' : Ren} : {a : AV} → {v : Value} → R σ a v → a.closed = true → R σ' a v
  | _, _, .bool b, _ => .bool b
  | _, _, .u k n a b, _ => .u k n a b
  | _, _, .n i a b, _ => .n i a b
  | _, _, .str s, _ => .str s
  | _, _, .nilp, _ => .nilp
  | _, _, .nils, _ => .nils
  | _, _, .emp a, _ => .emp a
  | _, _, .agg cs arr l, hc => .agg cs arr (RL.closed' l (by simpa [AV.closed] using hc))
  | _, _, .tup cs arr l, hc => .tup cs arr (RL.closed' l (by simpa [AV.closed] using hc))
  | _, _, .ptr .., hc => by simp [AV.closed] at hc
  | _, _, .slice .., hc => by simp [AV.closed] at hc
  | _, _, .slic0 .., hc => by simp [AV.closed] at hc
  | _, _, .fn .., hc => by simp [AV.closed] at hc
  | _, _, .unk v, hc => by simp [AV.closed] at hc
theorem RL.closed' {σ σ' : Ren} : {l : List AV} → {m : List Value} → RL σ l m → AV.closed.all l = true → RL σ' l m
  | _, _, .nil, _ => .nil
  | _, _, .cons a v l m x y, hc =>
    have h2 : a.closed = true ∧ AV.closed.all l = true := by
      unfold AV.closed.all at hc; split at hc <;> simp_all
    .cons a v l m (R.closed' x h2.1) (RL.closed' y h2.2)
end
theorem R.closed {σ σ' : Ren} {a : AV} {v : Value} (hc : a.closed = true) (h : R σ a v) : R σ' a v := h.closed' hc
theorem RL.closed {σ σ' : Ren} {l : List AV} {m : List Value} (hc : AV.closed.all l = true) (h : RL σ l m) : RL σ' l m := h.closed' hc

theorem RL.length {σ : Ren} {l : List AV} {m : List Value} (h : RL σ l m) : l.length = m.length := by
  induction l generalizing m with
  | nil => cases h; rfl
  | cons a l ih => cases h with | cons _ _ _ m' _ h2 => simp [ih h2]

theorem RL.get {σ : Ren} {l : List AV} {m : List Value} (h : RL σ l m) {i : Nat} {a : AV} (ha : l[i]? = some a) : ∃ v, m[i]? = some v ∧ R σ a v := by
  induction l generalizing m i with
  | nil => simp at ha
  | cons x l ih =>
    cases h with
    | cons _ v _ m' hx h2 =>
      cases i with
      | zero => simp at ha; subst ha; exact ⟨v, rfl, hx⟩
      | succ i => simp at ha; obtain ⟨v', h3, h4⟩ := ih h2 ha; exact ⟨v', by simpa using h3, h4⟩

theorem RL.append {σ : Ren} {l l' : List AV} {m m' : List Value} (h : RL σ l m) (h' : RL σ l' m') : RL σ (l ++ l') (m ++ m') := by
  induction l generalizing m with
  | nil => cases h; simpa using h'
  | cons x l ih => cases h with | cons _ v _ m1 hx h2 => exact .cons _ _ _ _ hx (ih h2)

theorem RL.take {σ : Ren} {l : List AV} {m : List Value} (h : RL σ l m) (k : Nat) : RL σ (l.take k) (m.take k) := by
  induction l generalizing m k with
  | nil => cases h; simpa using RL.nil
  | cons x l ih =>
    cases h with
    | cons _ v _ m1 hx h2 =>
      cases k with
      | zero => simpa using RL.nil
      | succ k => simpa using RL.cons _ _ _ _ hx (ih h2 k)

theorem RL.drop {σ : Ren} {l : List AV} {m : List Value} (h : RL σ l m) (k : Nat) : RL σ (l.drop k) (m.drop k) := by
  induction l generalizing m k with
  | nil => cases h; simpa using RL.nil
  | cons x l ih =>
    cases h with
    | cons _ v _ m1 hx h2 =>
      cases k with
      | zero => simpa using RL.cons _ _ _ _ hx h2
      | succ k => simpa using ih h2 k

theorem RL.of_get {σ : Ren} : ∀ {l : List AV} {m : List Value}, l.length = m.length → (∀ (i : Nat) (a : AV) (v : Value), l[i]? = some a → m[i]? = some v → R σ a v) → RL σ l m
  | [], [], _, _ => .nil
  | [], _ :: _, h, _ => by simp at h
  | _ :: _, [], h, _ => by simp at h
  | a :: l, v :: m, h, hr => .cons _ _ _ _ (hr 0 a v rfl rfl) (RL.of_get (by simpa using h) fun i a' v' h1 h2 => hr (i + 1) a' v' (by simpa using h1) (by simpa using h2))

/-! ### constants -/

def ofVal : Value → AV
  | .bool b => .bool b
  | .int k i => match k with
    | .i64 => bif decide (-9223372036854775808 ≤ i ∧ i < 9223372036854775808) then .n i else .unk
    | .u8 | .u16 | .u32 | .u64 => bif decide (0 ≤ i ∧ i.toNat < 2 ^ k.bits) then .u k i.toNat else .unk
    | _ => .unk
  | .string s => .str s
  | .pointer none => .nilp
  | .slice none 0 0 => .nils
  | _ => .unk

theorem ofVal_R (σ : Ren) (v : Value) : R σ (ofVal v) v := by
  cases v with
  | int k i =>
    have key : ∀ k : IntKind, k.signed = false → R σ (bif decide (0 ≤ i ∧ i.toNat < 2 ^ k.bits) then .u k i.toNat else .unk) (.int k i) := by
      intro k hk
      by_cases h : 0 ≤ i ∧ i.toNat < 2 ^ k.bits
      · rw [decide_eq_true h]
        have := R.u (σ := σ) k i.toNat hk h.2
        rwa [Int.toNat_of_nonneg h.1] at this
      · rw [decide_eq_false h]; exact .unk _
    cases k <;> first
      | exact key _ rfl
      | (simp only [ofVal]
         by_cases h : -9223372036854775808 ≤ i ∧ i < 9223372036854775808
         · rw [decide_eq_true h]; exact .n _ h.1 h.2
         · rw [decide_eq_false h]; exact .unk _)
      | exact .unk _
  | bool b => exact .bool b
  | string s => exact .str s
  | pointer a => cases a with | none => exact .nilp | some a => exact .unk _
  | slice a l c =>
    unfold ofVal
    split <;> first | exact .unk _ | skip
    all_goals first | (rename_i h; cases h; exact .nils) | simp_all
  | _ => exact .unk _

end Pw

namespace Pw
open Go

/-! ### tables of types -/

inductive Ty where
  | bool | int (k : IntKind) | str | ptr
  | slice (e : Nat)
  | arr (n e : Nat)
  | struct (fs : List (Nat × Nat))
  | other

structure TE where
  ty : Ty
  size : Nat
  bytes : Nat
  zero : Option (List AV)
  eqp : Option IntKind

def tyOf : TypeDesc → Ty
  | .bool => .bool
  | .int k => .int k
  | .string => .str
  | .pointer _ => .ptr
  | .slice e => .slice e
  | .array n e => .arr n e
  | .struct fs => .struct (fs.toList.map fun f => (f.offset, f.type))
  | _ => .other

/-- the cells of fields that lie one behind the other -/
def plainFields (f : TypeId → Option Nat) : List Field → Nat → Option Nat
  | [], off => some off
  | g :: r, off => match f g.type with
    | some m => if 0 < m ∧ g.name ≠ "_" ∧ g.offset = off then plainFields f r (off + m) else none
    | none => none

/-- the cells of a type whose equality is that of its cells, numbers of one kind -/
def plainCells (P : Program) (kd : IntKind) : Nat → TypeId → Option Nat
  | 0, _ => none
  | d + 1, t =>
    match P.underlying t with
    | some (.int k) => if k = kd ∧ P.cellsOf t = 1 then some 1 else none
    | some (.array n e) => (plainCells P kd d e).bind fun m => if 0 < m ∧ P.cellsOf e = m ∧ P.cellsOf t = n * m then some (n * m) else none
    | some (.struct fs) =>
      if P.stoodInHeld t then none else
      (plainFields (plainCells P kd d) fs.toList 0).bind fun s => if P.cellsOf t = s then some s else none
    | _ => none

def otherTE : TE := { ty := .other, size := 0, bytes := 0, zero := none, eqp := none }

def entOf (P : Program) (t : Nat) : TE :=
  match P.info? t, P.underlying t with
  | some i, some d => { ty := tyOf d, size := i.size, bytes := i.bytes, zero := i.zero.map fun v => v.cells.toList.map ofVal,
                        eqp := if P.eqGuardType P.depth t then none else if (plainCells P .u8 8 t).isSome then some .u8 else if (plainCells P .u64 8 t).isSome then some .u64 else if (plainCells P .u32 8 t).isSome then some .u32 else none }
  | _, _ => otherTE

def teAt : List (Nat × TE) → Nat → TE
  | [], _ => otherTE
  | (s, e) :: r, t => bif Nat.beq s t then e else teAt r t

def TabOK (P : Program) (T : List (Nat × TE)) : Prop := ∀ t, (teAt T t).ty ≠ .other → teAt T t = entOf P t

theorem tab_of (P : Program) (ids : List Nat) : TabOK P (ids.map fun t => (t, entOf P t)) := by
  intro t ht
  induction ids with
  | nil => simp [teAt, otherTE] at ht
  | cons s r ih =>
    simp only [List.map, teAt] at ht ⊢
    by_cases h : s = t
    · subst h; simp [Nat.beq_refl]
    · have hb : Nat.beq s t = false := by
        cases hb : Nat.beq s t with
        | false => rfl
        | true => exact absurd (Nat.eq_of_beq_eq_true hb) h
      rw [hb] at ht ⊢; exact ih ht

/-- what the table says of a type -/
structure Known (P : Program) (t : Nat) (e : TE) : Prop where
  info : ∃ i, P.info? t = some i ∧ i.size = e.size ∧ i.bytes = e.bytes ∧ (i.zero.map fun v => v.cells.toList.map ofVal) = e.zero
  under : ∃ d, P.underlying t = some d ∧ tyOf d = e.ty
  eq : ∀ kd, e.eqp = some kd → ∃ m, plainCells P kd 8 t = some m ∧ P.eqGuardType P.depth t = false

variable {P : Program} {T : List (Nat × TE)}

theorem TabOK.known (hT : TabOK P T) {t : Nat} (h : (teAt T t).ty ≠ .other) : Known P t (teAt T t) := by
  have he := hT t h
  rw [he] at h ⊢
  unfold entOf at h ⊢
  split
  · rename_i i d h1 h2
    refine ⟨⟨i, h1, rfl, rfl, rfl⟩, ⟨d, h2, rfl⟩, fun kd hq => ?_⟩
    dsimp only at hq
    split at hq
    · cases hq
    · rename_i hg
      have hg' : P.eqGuardType P.depth t = false := by simpa using hg
      split at hq
      · rename_i h3; obtain ⟨m, hm⟩ := Option.isSome_iff_exists.1 h3; cases hq; exact ⟨m, hm, hg'⟩
      · split at hq
        · rename_i h3; obtain ⟨m, hm⟩ := Option.isSome_iff_exists.1 h3; cases hq; exact ⟨m, hm, hg'⟩
        · split at hq
          · rename_i h3; obtain ⟨m, hm⟩ := Option.isSome_iff_exists.1 h3; cases hq; exact ⟨m, hm, hg'⟩
          · cases hq
  · rename_i hx
    split at h
    · rename_i i d h1 h2; exact absurd h2 (hx i d h1)
    · simp [otherTE] at h

theorem Known.arr {t : Nat} {e : TE} {n el : Nat} (k : Known P t e) (h : e.ty = .arr n el) : P.underlying t = some (.array n el) := by
  obtain ⟨d, hd, hty⟩ := k.under
  rw [h] at hty; cases d <;> simp [tyOf] at hty; rw [hd, hty.1, hty.2]
theorem Known.slice {t : Nat} {e : TE} {el : Nat} (k : Known P t e) (h : e.ty = .slice el) : P.underlying t = some (.slice el) := by
  obtain ⟨d, hd, hty⟩ := k.under
  rw [h] at hty; cases d <;> simp [tyOf] at hty; rw [hd, hty]
theorem Known.int {t : Nat} {e : TE} {kd : IntKind} (k : Known P t e) (h : e.ty = .int kd) : P.underlying t = some (.int kd) := by
  obtain ⟨d, hd, hty⟩ := k.under
  rw [h] at hty; cases d <;> simp [tyOf] at hty; rw [hd, hty]
theorem Known.bool {t : Nat} {e : TE} (k : Known P t e) (h : e.ty = .bool) : P.underlying t = some .bool := by
  obtain ⟨d, hd, hty⟩ := k.under
  rw [h] at hty; cases d <;> simp [tyOf] at hty; rw [hd]
theorem Known.str {t : Nat} {e : TE} (k : Known P t e) (h : e.ty = .str) : P.underlying t = some .string := by
  obtain ⟨d, hd, hty⟩ := k.under
  rw [h] at hty; cases d <;> simp [tyOf] at hty; rw [hd]
theorem Known.ptr {t : Nat} {e : TE} (k : Known P t e) (h : e.ty = .ptr) : ∃ el, P.underlying t = some (.pointer el) := by
  obtain ⟨d, hd, hty⟩ := k.under
  rw [h] at hty; cases d <;> simp [tyOf] at hty; exact ⟨_, hd⟩
theorem Known.struct {t : Nat} {e : TE} {fs : List (Nat × Nat)} (k : Known P t e) (h : e.ty = .struct fs) :
    ∃ fa, P.underlying t = some (.struct fa) ∧ fa.toList.map (fun f => (f.offset, f.type)) = fs := by
  obtain ⟨d, hd, hty⟩ := k.under
  rw [h] at hty; cases d <;> simp [tyOf] at hty; exact ⟨_, hd, by simpa using hty⟩

section runs
variable {w : World} {t : Nat} {e : TE}
theorem run_under {d : TypeDesc} (h : P.underlying t = some d) : (underlying t).run P w = .ok d w := by
  simp [underlying, h]
theorem Known.run_info (k : Known P t e) : ∃ i, (typeInfo t).run P w = .ok i w ∧ i.size = e.size ∧ i.bytes = e.bytes ∧ (i.zero.map fun v => v.cells.toList.map ofVal) = e.zero := by
  obtain ⟨i, h, r⟩ := k.info
  exact ⟨i, by simp [typeInfo, h], r⟩
theorem Known.run_size (k : Known P t e) : (Go.sizeOf t).run P w = .ok e.size w := by
  obtain ⟨i, h, h1, -⟩ := k.run_info (w := w)
  simp [Go.sizeOf, h, h1]
theorem Known.run_zero (k : Known P t e) {z : List AV} (hz : e.zero = some z) : ∃ v, (zeroValue t).run P w = .ok v w ∧ ∀ σ, RL σ z v.cells.toList := by
  obtain ⟨i, h, -, -, h3⟩ := k.run_info (w := w)
  rw [hz] at h3
  cases hv : i.zero with
  | none => simp [hv] at h3
  | some v =>
    simp only [hv, Option.map_some, Option.some.injEq] at h3
    refine ⟨v, by simp [zeroValue, h, hv], fun σ => ?_⟩
    rw [← h3]
    generalize v.cells.toList = l
    induction l with
    | nil => exact .nil
    | cons x l ih => exact .cons _ _ _ _ (ofVal_R σ x) ih

def Ty.agg : Ty → Bool
  | .arr .. | .struct _ => true
  | _ => false

theorem Known.run_isAgg (k : Known P t e) : (isAgg t).run P w = .ok e.ty.agg w := by
  obtain ⟨d, hd, hty⟩ := k.under
  rw [← hty]
  cases d <;> simp [isAgg, run_under hd, tyOf, Ty.agg]
end runs

end Pw

namespace Pw
open Go

/-- a number of 64 bits with a sign; told so that the kernel does not count up to 2^63 where it is not a numeral -/
def w64 (x : Int) : Int := match x with
  | .ofNat n => bif Nat.ble n 9223372036854775807 then .ofNat n else (.ofNat n + 9223372036854775808) % 18446744073709551616 - 9223372036854775808
  | .negSucc n => bif Nat.ble n 9223372036854775807 then .negSucc n else (.negSucc n + 9223372036854775808) % 18446744073709551616 - 9223372036854775808

theorem w64_eq (x : Int) : w64 x = (x + 9223372036854775808) % 18446744073709551616 - 9223372036854775808 := by
  unfold w64
  cases x with
  | ofNat n =>
    dsimp only
    cases h : Nat.ble n 9223372036854775807 with
    | true =>
      have := Nat.le_of_ble_eq_true h
      rw [cond_true, Int.ofNat_eq_natCast]; omega
    | false => rw [cond_false]
  | negSucc n =>
    dsimp only
    cases h : Nat.ble n 9223372036854775807 with
    | true =>
      have := Nat.le_of_ble_eq_true h
      rw [cond_true]; omega
    | false => rw [cond_false]

theorem wrap_w64 (x : Int) : IntKind.i64.wrap x = w64 x := by
  rw [w64_eq]
  simp only [IntKind.wrap, IntKind.bits, IntKind.signed]
  simp
  split <;> omega
theorem w64_lo (x : Int) : -9223372036854775808 ≤ w64 x := by rw [w64_eq]; omega
theorem w64_hi (x : Int) : w64 x < 9223372036854775808 := by rw [w64_eq]; omega
theorem w64_id {x : Int} (h1 : -9223372036854775808 ≤ x) (h2 : x < 9223372036854775808) : w64 x = x := by rw [w64_eq]; omega

theorem wrap_u {k : IntKind} (hk : k.signed = false) (x : Int) : k.wrap x = x % (2 ^ k.bits : Int) := by
  simp [IntKind.wrap, hk]
theorem wrap_nat {k : IntKind} (hk : k.signed = false) (n : Nat) : k.wrap (n : Int) = ((n % 2 ^ k.bits : Nat) : Int) := by
  rw [wrap_u hk]; simp

variable {P : Program} {T : List (Nat × TE)} {ρ : Type}

def sz (T : List (Nat × TE)) (t : Nat) : Option Nat :=
  match (teAt T t).ty with
  | .other => none
  | _ => some (teAt T t).size

theorem sz_known (hT : TabOK P T) {t n : Nat} (h : sz T t = some n) : Known P t (teAt T t) ∧ (teAt T t).size = n := by
  unfold sz at h
  split at h
  · cases h
  · rename_i hx; exact ⟨hT.known (fun e => hx e), by simpa using h⟩

def idxK (x : AV) (len : Nat) (K : Nat → Option ρ) : Option ρ :=
  match x with
  | .n i => bif decide (0 ≤ i ∧ i < (len : Int)) then K i.toNat else none
  | .u _ m => bif decide (m < len) then K m else none
  | _ => none

theorem bif_some {c : Bool} {x : Option ρ} {r : ρ} (h : (bif c then x else none) = some r) : c = true ∧ x = some r := by
  cases c <;> simp_all

theorem idxK_sound {x : AV} {len : Nat} {K : Nat → Option ρ} {r : ρ} (h : idxK x len K = some r) :
    ∃ m, m < len ∧ K m = some r ∧ ∀ (σ : Ren) (v : Value), R σ x v → ∃ k, v = .int k (m : Int) := by
  unfold idxK at h
  split at h
  · rename_i i
    obtain ⟨hc, hk⟩ := bif_some h
    have hc' := of_decide_eq_true hc
    refine ⟨i.toNat, by omega, hk, fun σ v hv => ?_⟩
    cases hv
    exact ⟨_, by rw [Int.toNat_of_nonneg hc'.1]⟩
  · rename_i m
    obtain ⟨hc, hk⟩ := bif_some h
    refine ⟨m, of_decide_eq_true hc, hk, fun σ v hv => ?_⟩
    cases hv; exact ⟨_, rfl⟩
  · cases h

/-! ### integer operations -/

def binU (op : BinOp) (k : IntKind) (a b : Nat) (K : AV → Option ρ) : Option ρ :=
  match op with
  | .add => K (.u k ((a + b) % 2 ^ k.bits))
  | .sub => K (.u k ((a + (2 ^ k.bits - b)) % 2 ^ k.bits))
  | .mul => K (.u k (a * b % 2 ^ k.bits))
  | .quo => bif decide (b = 0) then none else K (.u k (a / b))
  | .rem => bif decide (b = 0) then none else K (.u k (a % b))
  | .and => K (.u k (a &&& b))
  | .or => K (.u k (a ||| b))
  | .xor => K (.u k (a ^^^ b))
  | .andNot => K (.u k (a &&& (2 ^ k.bits - 1 - b)))
  | .eql => K (.bool (decide (a = b)))
  | .neq => K (.bool (!decide (a = b)))
  | .lss => K (.bool (decide (a < b)))
  | .leq => K (.bool (decide (a ≤ b)))
  | .gtr => K (.bool (decide (b < a)))
  | .geq => K (.bool (decide (b ≤ a)))
  | _ => none

def binN (op : BinOp) (a b : Int) (K : AV → Option ρ) : Option ρ :=
  match op with
  | .add => K (.n (w64 (a + b)))
  | .sub => K (.n (w64 (a - b)))
  | .mul => K (.n (w64 (a * b)))
  | .quo => bif decide (b = 0) then none else K (.n (w64 (a.tdiv b)))
  | .rem => bif decide (b = 0) then none else K (.n (a.tmod b))
  | .eql => K (.bool (decide (a = b)))
  | .neq => K (.bool (!decide (a = b)))
  | .lss => K (.bool (decide (a < b)))
  | .leq => K (.bool (decide (a ≤ b)))
  | .gtr => K (.bool (decide (b < a)))
  | .geq => K (.bool (decide (b ≤ a)))
  | _ => none

theorem toNat_ofInt {w a : Nat} (ha : a < 2 ^ w) : (BitVec.ofInt w (a : Int)).toNat = a := by
  simp only [BitVec.toNat_ofInt]
  have : ((a : Int) % ((2 ^ w : Nat) : Int)) = (a : Int) := Int.emod_eq_of_lt (by omega) (by exact_mod_cast ha)
  rw [this]; rfl

theorem bits_lt {k : IntKind} (n : Nat) (h : n < 2 ^ k.bits) (hk : k.signed = false) : k.wrap (n : Int) = (n : Int) := by
  rw [wrap_nat hk, Nat.mod_eq_of_lt h]

theorem binU_sound {op : BinOp} {k : IntKind} {a b : Nat} {K : AV → Option ρ} {r : ρ}
    (h : binU op k a b K = some r) (hs : op ≠ .shl ∧ op ≠ .shr) :
    ∃ v, K v = some r ∧ ∀ (_ : k.signed = false) (_ : a < 2 ^ k.bits) (_ : b < 2 ^ k.bits) (t : TypeId) (w : World), ∃ rv, (binOp op t (.int k a) (.int k b)).run P w = .ok rv w ∧ ∀ σ, R σ v rv := by
  have hpos : 0 < 2 ^ k.bits := Nat.two_pow_pos _
  cases op <;> simp only [binU] at h <;> first
    | (cases h; done)
    | (exact absurd rfl hs.1)
    | (exact absurd rfl hs.2)
    | skip
  case add =>
    refine ⟨_, h, fun hk ha hb t w => ⟨_, by simp [binOp, Op.intArith]; rfl, fun σ => ?_⟩⟩
    rw [show ((a : Int) + (b : Int)) = ((a + b : Nat) : Int) from by omega, wrap_nat hk]
    exact .u k _ hk (Nat.mod_lt _ hpos)
  case sub =>
    refine ⟨_, h, fun hk ha hb t w => ⟨_, by simp [binOp, Op.intArith]; rfl, fun σ => ?_⟩⟩
    have : k.wrap ((a : Int) - (b : Int)) = (((a + (2 ^ k.bits - b)) % 2 ^ k.bits : Nat) : Int) := by
      rw [wrap_u hk, Int.natCast_emod, Int.natCast_add, Int.natCast_sub (Nat.le_of_lt hb)]
      have h2 : ((2 ^ k.bits : Nat) : Int) = (2 : Int) ^ k.bits := by simp
      rw [h2, show (a : Int) + ((2 : Int) ^ k.bits - (b : Int)) = ((a : Int) - b) + (2 : Int) ^ k.bits from by omega, Int.add_emod_right]
    rw [this]; exact .u k _ hk (Nat.mod_lt _ hpos)
  case mul =>
    refine ⟨_, h, fun hk ha hb t w => ⟨_, by simp [binOp, Op.intArith]; rfl, fun σ => ?_⟩⟩
    rw [show ((a : Int) * (b : Int)) = ((a * b : Nat) : Int) from by simp, wrap_nat hk]
    exact .u k _ hk (Nat.mod_lt _ hpos)
  case quo =>
    by_cases h0 : b = 0
    · simp [h0] at h
    · simp only [h0, decide_false, cond_false] at h
      refine ⟨_, h, fun hk ha hb t w => ⟨.int k ((a / b : Nat) : Int), ?_, fun σ => .u k _ hk (Nat.lt_of_le_of_lt (Nat.div_le_self _ _) ha)⟩⟩
      have h0' : (b : Int) ≠ 0 := by omega
      simp only [binOp, Op.intDiv, ne_eq, not_true_eq_false, if_false, h0', Sem.run_pure]
      rw [show ((a : Int).tdiv (b : Int)) = ((a / b : Nat) : Int) from by simp, wrap_nat hk,
        Nat.mod_eq_of_lt (Nat.lt_of_le_of_lt (Nat.div_le_self _ _) ha)]
  case rem =>
    by_cases h0 : b = 0
    · simp [h0] at h
    · simp only [h0, decide_false, cond_false] at h
      refine ⟨_, h, fun hk ha hb t w => ⟨.int k ((a % b : Nat) : Int), ?_, fun σ => .u k _ hk (Nat.lt_of_le_of_lt (Nat.mod_le _ _) ha)⟩⟩
      have h0' : (b : Int) ≠ 0 := by omega
      simp only [binOp, Op.intDiv, ne_eq, not_true_eq_false, if_false, h0', Sem.run_pure]
      rw [show ((a : Int).tmod (b : Int)) = ((a % b : Nat) : Int) from by rw [Int.tmod_eq_emod_of_nonneg (by omega)]; simp]
  case and =>
    refine ⟨_, h, fun hk ha hb t w => ?_⟩
    have hlt : a &&& b < 2 ^ k.bits := Nat.lt_of_le_of_lt Nat.and_le_left ha
    refine ⟨.int k ((a &&& b : Nat) : Int), ?_, fun σ => .u k _ hk hlt⟩
    simp only [binOp, Op.intBits, ne_eq, not_true_eq_false, if_false, Sem.run_pure, BitVec.toNat_and, toNat_ofInt ha, toNat_ofInt hb, bits_lt _ hlt hk]
  case or =>
    refine ⟨_, h, fun hk ha hb t w => ?_⟩
    have hlt : a ||| b < 2 ^ k.bits := Nat.or_lt_two_pow ha hb
    refine ⟨.int k ((a ||| b : Nat) : Int), ?_, fun σ => .u k _ hk hlt⟩
    simp only [binOp, Op.intBits, ne_eq, not_true_eq_false, if_false, Sem.run_pure, BitVec.toNat_or, toNat_ofInt ha, toNat_ofInt hb, bits_lt _ hlt hk]
  case xor =>
    refine ⟨_, h, fun hk ha hb t w => ?_⟩
    have hlt : a ^^^ b < 2 ^ k.bits := Nat.xor_lt_two_pow ha hb
    refine ⟨.int k ((a ^^^ b : Nat) : Int), ?_, fun σ => .u k _ hk hlt⟩
    simp only [binOp, Op.intBits, ne_eq, not_true_eq_false, if_false, Sem.run_pure, BitVec.toNat_xor, toNat_ofInt ha, toNat_ofInt hb, bits_lt _ hlt hk]
  case andNot =>
    refine ⟨_, h, fun hk ha hb t w => ?_⟩
    have hlt : a &&& (2 ^ k.bits - 1 - b) < 2 ^ k.bits := Nat.lt_of_le_of_lt Nat.and_le_left ha
    refine ⟨.int k ((a &&& (2 ^ k.bits - 1 - b) : Nat) : Int), ?_, fun σ => .u k _ hk hlt⟩
    simp only [binOp, Op.intBits, ne_eq, not_true_eq_false, if_false, Sem.run_pure, BitVec.toNat_and, BitVec.toNat_not, toNat_ofInt ha, toNat_ofInt hb, bits_lt _ hlt hk]
  case eql =>
    refine ⟨_, h, fun hk ha hb t w => ⟨_, by simp [binOp, Op.intCmp]; rfl, fun σ => ?_⟩⟩
    rw [show decide (a = b) = decide ((a : Int) = (b : Int)) from by congr 1; exact propext (by omega)]; exact .bool _
  case neq =>
    refine ⟨_, h, fun hk ha hb t w => ⟨.bool (!decide (a = b)), ?_, fun σ => .bool _⟩⟩
    simp only [binOp, Op.intCmp, ne_eq, not_true_eq_false, if_false, Sem.run_pure]
    congr 2
    by_cases e : a = b
    · subst e; simp
    · have : ((a : Int) == (b : Int)) = false := by rw [beq_eq_false_iff_ne]; omega
      simp [e, bne, this]
  case lss =>
    refine ⟨_, h, fun hk ha hb t w => ⟨_, by simp [binOp, Op.intCmp]; rfl, fun σ => ?_⟩⟩
    rw [show decide (a < b) = decide ((a : Int) < (b : Int)) from by simp]; exact .bool _
  case leq =>
    refine ⟨_, h, fun hk ha hb t w => ⟨_, by simp [binOp, Op.intCmp]; rfl, fun σ => ?_⟩⟩
    rw [show decide (a ≤ b) = decide ((a : Int) ≤ (b : Int)) from by simp]; exact .bool _
  case gtr =>
    refine ⟨_, h, fun hk ha hb t w => ⟨_, by simp [binOp, Op.intCmp]; rfl, fun σ => ?_⟩⟩
    rw [show decide (b < a) = decide ((b : Int) < (a : Int)) from by simp]; exact .bool _
  case geq =>
    refine ⟨_, h, fun hk ha hb t w => ⟨_, by simp [binOp, Op.intCmp]; rfl, fun σ => ?_⟩⟩
    rw [show decide (b ≤ a) = decide ((b : Int) ≤ (a : Int)) from by simp]; exact .bool _

theorem binN_sound {op : BinOp} {a b : Int} {K : AV → Option ρ} {r : ρ}
    (h : binN op a b K = some r) (hs : op ≠ .shl ∧ op ≠ .shr) :
    ∃ v, K v = some r ∧ ∀ (_ : -9223372036854775808 ≤ a) (_ : a < 9223372036854775808) (t : TypeId) (w : World), ∃ rv, (binOp op t (.int .i64 a) (.int .i64 b)).run P w = .ok rv w ∧ ∀ σ, R σ v rv := by
  cases op <;> simp only [binN] at h <;> first
    | (cases h; done)
    | (exact absurd rfl hs.1)
    | (exact absurd rfl hs.2)
    | skip
  case add => exact ⟨_, h, fun ha0 ha t w => ⟨.int .i64 (w64 (a + b)), by simp [binOp, Op.intArith, wrap_w64], fun σ => .n _ (w64_lo _) (w64_hi _)⟩⟩
  case sub => exact ⟨_, h, fun ha0 ha t w => ⟨.int .i64 (w64 (a - b)), by simp [binOp, Op.intArith, wrap_w64], fun σ => .n _ (w64_lo _) (w64_hi _)⟩⟩
  case mul => exact ⟨_, h, fun ha0 ha t w => ⟨.int .i64 (w64 (a * b)), by simp [binOp, Op.intArith, wrap_w64], fun σ => .n _ (w64_lo _) (w64_hi _)⟩⟩
  case quo =>
    by_cases h0 : b = 0
    · simp [h0] at h
    · simp only [h0, decide_false, cond_false] at h
      exact ⟨_, h, fun ha0 ha t w => ⟨.int .i64 (w64 (a.tdiv b)), by simp [binOp, Op.intDiv, wrap_w64, h0], fun σ => .n _ (w64_lo _) (w64_hi _)⟩⟩
  case rem =>
    by_cases h0 : b = 0
    · simp [h0] at h
    · simp only [h0, decide_false, cond_false] at h
      refine ⟨_, h, fun ha0 ha t w => ⟨.int .i64 (a.tmod b), by simp [binOp, Op.intDiv, h0], fun σ => .n _ (by have habs := Int.natAbs_tmod a b; have hle := Nat.mod_le a.natAbs b.natAbs; omega) ?_⟩⟩
      have habs := Int.natAbs_tmod a b
      have hle := Nat.mod_le a.natAbs b.natAbs
      have hneg := Int.neg_tmod a b
      rcases Int.le_total 0 a with h | h
      · omega
      · have h2 : 0 ≤ (-a).tmod b := Int.tmod_nonneg b (by omega)
        omega
  case eql =>
    refine ⟨_, h, fun ha0 ha t w => ⟨.bool (decide (a = b)), ?_, fun σ => .bool _⟩⟩
    simp only [binOp, Op.intCmp, ne_eq, not_true_eq_false, if_false, Sem.run_pure]
    rfl
  case neq =>
    refine ⟨_, h, fun ha0 ha t w => ⟨.bool (!decide (a = b)), ?_, fun σ => .bool _⟩⟩
    simp only [binOp, Op.intCmp, ne_eq, not_true_eq_false, if_false, Sem.run_pure]
    rfl
  case lss => exact ⟨_, h, fun ha0 ha t w => ⟨.bool (decide (a < b)), by simp [binOp, Op.intCmp], fun σ => .bool _⟩⟩
  case leq => exact ⟨_, h, fun ha0 ha t w => ⟨.bool (decide (a ≤ b)), by simp [binOp, Op.intCmp], fun σ => .bool _⟩⟩
  case gtr => exact ⟨_, h, fun ha0 ha t w => ⟨.bool (decide (b < a)), by simp [binOp, Op.intCmp], fun σ => .bool _⟩⟩
  case geq => exact ⟨_, h, fun ha0 ha t w => ⟨.bool (decide (b ≤ a)), by simp [binOp, Op.intCmp], fun σ => .bool _⟩⟩

/-- shifts of unsigned numbers -/
def shK (op : BinOp) (k : IntKind) (a n : Nat) (K : AV → Option ρ) : Option ρ :=
  match op with
  | .shl => K (.u k (a * 2 ^ (min n k.bits) % 2 ^ k.bits))
  | .shr => K (.u k (a / 2 ^ (min n k.bits)))
  | _ => none

theorem shK_sound {op : BinOp} {k : IntKind} {a n : Nat} {K : AV → Option ρ} {r : ρ}
    (h : shK op k a n K = some r) :
    ∃ v, K v = some r ∧ ∀ (_ : k.signed = false) (_ : a < 2 ^ k.bits) (t : TypeId) (yk : IntKind) (w : World), ∃ rv, (binOp op t (.int k a) (.int yk (n : Int))).run P w = .ok rv w ∧ ∀ σ, R σ v rv := by
  unfold shK at h
  have hn : ¬ ((n : Int) < 0) := by omega
  split at h
  · refine ⟨_, h, fun hk ha t yk w => ⟨.int k ((a * 2 ^ (min n k.bits) % 2 ^ k.bits : Nat) : Int), ?_, fun σ => .u k _ hk (Nat.mod_lt _ (Nat.two_pow_pos _))⟩⟩
    simp only [binOp, Op.shift, hn, if_false, Int.toNat_natCast, Sem.run_pure]
    rw [show ((a : Int) * 2 ^ (min n k.bits)) = ((a * 2 ^ (min n k.bits) : Nat) : Int) from by simp, wrap_nat hk]
  · refine ⟨_, h, fun hk ha t yk w => ⟨.int k ((a / 2 ^ (min n k.bits) : Nat) : Int), ?_, fun σ => .u k _ hk (Nat.lt_of_le_of_lt (Nat.div_le_self _ _) ha)⟩⟩
    simp only [binOp, Op.shift, hn, if_false, Int.toNat_natCast, Sem.run_pure]
    have h2 : (0 : Int) ≤ 2 ^ min n k.bits := Int.pow_nonneg (by omega)
    rw [Int.fdiv_eq_ediv_of_nonneg _ h2]
    rw [show ((a / 2 ^ min n k.bits : Nat) : Int) = (a : Int) / 2 ^ min n k.bits from by simp]
  · exact absurd h (by simp)

end Pw

namespace Pw
open Go

variable {P : Program} {T : List (Nat × TE)} {ρ : Type}

def cellEq (kd : IntKind) : AV → AV → Option Bool
  | .u k a, .u k' b => bif decide (k = kd ∧ k' = kd) then some (decide (a = b)) else none
  | _, _ => none

def eqCells (kd : IntKind) : List AV → List AV → Option Bool
  | [], [] => some true
  | a :: l, b :: m => match cellEq kd a b with
    | some x => match eqCells kd l m with
      | some y => some (x && y)
      | none => none
    | none => none
  | _, _ => none

theorem eqCells_cons {kd : IntKind} {a b : AV} {l m : List AV} {c : Bool} (h : eqCells kd (a :: l) (b :: m) = some c) :
    ∃ x y, cellEq kd a b = some x ∧ eqCells kd l m = some y ∧ c = (x && y) := by
  unfold eqCells at h
  split at h
  · rename_i x hx
    split at h
    · rename_i y hy
      exact ⟨x, y, hx, hy, by simpa using h.symm⟩
    · cases h
  · cases h

theorem eqCells_split {kd : IntKind} : ∀ {as bs : List AV} {c : Bool} (k : Nat), eqCells kd as bs = some c →
    ∃ x y, eqCells kd (as.take k) (bs.take k) = some x ∧ eqCells kd (as.drop k) (bs.drop k) = some y ∧ c = (x && y)
  | [], [], c, k, h => by simp [eqCells] at h; subst h; exact ⟨true, true, by simp [eqCells], by simp [eqCells], rfl⟩
  | [], _ :: _, _, _, h => by simp [eqCells] at h
  | _ :: _, [], _, _, h => by simp [eqCells] at h
  | a :: as, b :: bs, c, 0, h => ⟨true, c, by simp [eqCells], by simpa using h, by simp⟩
  | a :: as, b :: bs, c, k + 1, h => by
    obtain ⟨x, y, h1, h2, rfl⟩ := eqCells_cons h
    obtain ⟨x', y', h3, h4, rfl⟩ := eqCells_split k h2
    refine ⟨x && x', y', ?_, by simpa using h4, by cases x <;> simp⟩
    simp [eqCells, h1, h3]

/-- the value of a type that some cells make -/
def mkv (P : Program) (t : TypeId) (xs : List Value) : Value :=
  match P.underlying t with
  | some (.array ..) | some (.struct _) => .agg xs.toArray
  | _ => xs.headD undef

theorem cellsOf_info {t : TypeId} {d : TypeDesc} (h : P.underlying t = some d) : ∃ i, P.info? t = some i ∧ i.size = P.cellsOf t := by
  obtain ⟨i, hi⟩ := info_of_underlying h
  exact ⟨i, hi, by simp [Program.cellsOf, hi]⟩

theorem plainCells_info {kd : IntKind} {d : Nat} {t : TypeId} {m : Nat} (h : plainCells P kd d t = some m) : P.cellsOf t = m ∧ (∃ u, P.underlying t = some u) := by
  cases d with
  | zero => simp [plainCells] at h
  | succ d =>
    unfold plainCells at h
    split at h
    · rename_i hu; split at h <;> simp_all
    · rename_i n e hu
      cases hp : plainCells P kd d e with
      | none => simp [hp] at h
      | some m' =>
        simp only [hp, Option.bind_some] at h
        split at h
        · rename_i hc; simp at h; exact ⟨by rw [hc.2.2, h], _, hu⟩
        · cases h
    · rename_i fs hu
      split at h
      · cases h
      · generalize (plainFields _ fs.toList 0) = r at h
        cases r with
        | none => simp at h
        | some s =>
          simp only [Option.bind_some] at h
          split at h
          · rename_i hc; simp at h; exact ⟨by rw [hc, h], _, hu⟩
          · cases h
    · cases h

theorem run_part {t : TypeId} {u : TypeDesc} (hu : P.underlying t = some u) {arr : Array Value} {off : Nat} (h : off + P.cellsOf t ≤ arr.size) (h1 : 0 < P.cellsOf t) (w : World) :
    (part t arr off).run P w = .ok (mkv P t ((arr.toList.drop off).take (P.cellsOf t))) w := by
  obtain ⟨i, hi, hsz⟩ := cellsOf_info hu
  have hscal : ∀ v : Value, arr[off]? = some v → ((arr.toList.drop off).take (P.cellsOf t)).headD undef = v := by
    intro v hv
    have h3 : arr.toList[off]? = some v := by simpa using hv
    obtain ⟨n, hn⟩ : ∃ n, P.cellsOf t = n + 1 := ⟨P.cellsOf t - 1, by omega⟩
    rw [hn]
    have : arr.toList.drop off = v :: arr.toList.drop (off + 1) := by
      rw [List.drop_eq_getElem_cons (by simp; omega)]
      congr 1
      rw [List.getElem?_eq_getElem (by simp; omega)] at h3
      simpa using h3
    rw [this]; rfl
  have hsome : ∃ v, arr[off]? = some v := ⟨arr[off]'(by omega), by simp⟩
  obtain ⟨v, hv⟩ := hsome
  have hz : (Go.sizeOf t).run P w = .ok (P.cellsOf t) w := by simp [Go.sizeOf, typeInfo, hi, hsz]
  have hv2 := hscal v hv
  cases u <;> simp only [part, isAgg, run_under hu, mkv, hu, hv, hz, hv2, Sem.run_bind, Sem.run_pure, Result.andThen_ok, Bool.false_eq_true, if_false, if_true, Sem.run_ite]
  all_goals (congr 2; apply Array.ext'; simp)

theorem cellEq_sound {σ : Ren} {kd : IntKind} {a b : AV} {c : Bool} {x y : Value} (h : cellEq kd a b = some c) (hx : R σ a x) (hy : R σ b y) {t : TypeId} (hu : P.underlying t = some (.int kd))
    (d : Nat) (w : World) : (Op.equalIn (d + 1) t x y).run P w = .ok c w := by
  unfold cellEq at h
  split at h
  · obtain ⟨h1, h2⟩ := bif_some h
    obtain ⟨rfl, rfl⟩ := of_decide_eq_true h1
    rename_i p _ q
    cases hx; cases hy
    simp only [Op.equalIn, Sem.run_bind, run_under hu, Result.andThen_ok, if_true, Sem.run_pure]
    simp only [Option.some.injEq] at h2; subst h2
    congr 1
    by_cases e : p = q
    · subst e; simp
    · simp only [e, decide_false]; rw [beq_eq_false_iff_ne]; omega
  · cases h

theorem mkv_int {t : TypeId} {kd : IntKind} (hu : P.underlying t = some (.int kd)) (v : Value) (l : List Value) : mkv P t (v :: l) = v := by simp [mkv, hu]

theorem RL.slices {σ : Ren} {as : List AV} {xs : List Value} (h : RL σ as xs) (i m : Nat) : RL σ ((as.drop i).take m) ((xs.drop i).take m) := (h.drop i).take m

theorem eqItems_sound {kd : IntKind} {σ : Ren} {el : TypeId} {u : TypeDesc} {m n e : Nat} (hu : P.underlying el = some u) (hm : P.cellsOf el = m) (h0 : 0 < m)
    (ih : ∀ (as bs : List AV) (c : Bool) (xs ys : List Value), as.length = m → bs.length = m → eqCells kd as bs = some c → RL σ as xs → RL σ bs ys → ∀ w : World,
      (Op.equalIn e el (mkv P el xs) (mkv P el ys)).run P w = .ok c w)
    {as bs : List AV} {xs ys : List Value} (ha : as.length = n * m) (hb : bs.length = n * m) (hx : RL σ as xs) (hy : RL σ bs ys) (w : World) :
    ∀ (cnt i : Nat) (c : Bool), i + cnt = n → eqCells kd (as.drop (i * m)) (bs.drop (i * m)) = some c →
      (Op.eqItems e el m xs.toArray ys.toArray (List.range' i cnt)).run P w = .ok c w
  | 0, i, c, hi, hc => by
    have h1 : as.drop (i * m) = [] := by rw [List.drop_eq_nil_iff, ha, show i = n by omega]; exact Nat.le_refl _
    have h2 : bs.drop (i * m) = [] := by rw [List.drop_eq_nil_iff, hb, show i = n by omega]; exact Nat.le_refl _
    rw [h1, h2] at hc
    simp only [eqCells, Option.some.injEq] at hc
    subst hc
    simp [Op.eqItems]
  | cnt + 1, i, c, hi, hc => by
    obtain ⟨x, y, h1, h2, rfl⟩ := eqCells_split m hc
    have hle : i * m + m ≤ n * m := by
      have : (i + 1) * m ≤ n * m := Nat.mul_le_mul_right _ (by omega)
      rwa [Nat.add_mul, Nat.one_mul] at this
    have hxl := hx.length
    have hyl := hy.length
    rw [List.drop_drop, List.drop_drop, show i * m + m = (i + 1) * m by rw [Nat.add_mul, Nat.one_mul]] at h2
    have p1 := run_part (P := P) hu (arr := xs.toArray) (off := i * m) (by simp only [List.size_toArray]; omega) (by omega) w
    have p2 := run_part (P := P) hu (arr := ys.toArray) (off := i * m) (by simp only [List.size_toArray]; omega) (by omega) w
    have hl1 : ((as.drop (i * m)).take m).length = m := by rw [List.length_take, List.length_drop]; omega
    have hl2 : ((bs.drop (i * m)).take m).length = m := by rw [List.length_take, List.length_drop]; omega
    have h3 := ih _ _ _ _ _ hl1 hl2 h1 (hx.slices (i * m) m) (hy.slices (i * m) m) w
    have h4 := eqItems_sound hu hm h0 ih ha hb hx hy w cnt (i + 1) y (by omega) h2
    simp only [hm] at p1 p2
    simp only [List.range'_succ, Op.eqItems, Sem.run_bind, p1, p2, Result.andThen_ok, h3, Sem.run_ite]
    cases x <;> simp [h4]

theorem eqFields_sound {kd : IntKind} {σ : Ren} {d e : Nat} 
    (ih : ∀ (t : TypeId) (m : Nat), plainCells P kd d t = some m → ∀ (as bs : List AV) (c : Bool) (xs ys : List Value), as.length = m → bs.length = m → eqCells kd as bs = some c → RL σ as xs → RL σ bs ys → ∀ w : World,
      (Op.equalIn e t (mkv P t xs) (mkv P t ys)).run P w = .ok c w)
    {as bs : List AV} {xs ys : List Value} (hx : RL σ as xs) (hy : RL σ bs ys) (w : World) :
    ∀ (fs : List Field) (off s : Nat) (c : Bool), plainFields (plainCells P kd d) fs off = some s → as.length = s → bs.length = s → eqCells kd (as.drop off) (bs.drop off) = some c →
      (Op.eqFields e xs.toArray ys.toArray fs).run P w = .ok c w
  | [], off, s, c, hp, ha, hb, hc => by
    simp only [plainFields, Option.some.injEq] at hp
    subst hp
    rw [List.drop_of_length_le (by omega), List.drop_of_length_le (by omega)] at hc
    simp only [eqCells, Option.some.injEq] at hc
    subst hc
    simp [Op.eqFields]
  | g :: fs, off, s, c, hp, ha, hb, hc => by
    unfold plainFields at hp
    split at hp
    · rename_i m hm
      split at hp
      · rename_i hcond
        obtain ⟨h0, hn, hoff⟩ := hcond
        have hge : ∀ (fs : List Field) (off s : Nat), plainFields (plainCells P kd d) fs off = some s → off ≤ s := by
          intro fs
          induction fs with
          | nil => intro off s h; simp only [plainFields, Option.some.injEq] at h; omega
          | cons g fs ihf =>
            intro off s h
            unfold plainFields at h
            split at h
            · split at h
              · have := ihf _ _ h; omega
              · cases h
            · cases h
        have hs := hge _ _ _ hp
        obtain ⟨x, y, h1, h2, rfl⟩ := eqCells_split m hc
        rw [List.drop_drop, List.drop_drop] at h2
        obtain ⟨hsz, u, hu⟩ := plainCells_info hm
        have hxl := hx.length
        have hyl := hy.length
        have p1 := run_part (P := P) hu (arr := xs.toArray) (off := off) (by simp only [List.size_toArray]; omega) (by omega) w
        have p2 := run_part (P := P) hu (arr := ys.toArray) (off := off) (by simp only [List.size_toArray]; omega) (by omega) w
        have hl1 : ((as.drop off).take m).length = m := by rw [List.length_take, List.length_drop]; omega
        have hl2 : ((bs.drop off).take m).length = m := by rw [List.length_take, List.length_drop]; omega
        have h3 := ih _ _ hm _ _ _ _ _ hl1 hl2 h1 (hx.slices off m) (hy.slices off m) w
        have h4 := eqFields_sound ih hx hy w fs (off + m) s y hp ha hb h2
        simp only [hsz] at p1 p2
        simp only [Op.eqFields, hn, ne_eq, not_false_eq_true, if_true, hoff, Sem.run_bind, p1, p2, Result.andThen_ok, h3, Sem.run_ite]
        cases x <;> simp [h4]
      · cases hp
    · cases hp

theorem eqIn_sound {kd : IntKind} {σ : Ren} : ∀ (d : Nat) (t : TypeId) (m : Nat), plainCells P kd d t = some m → ∀ (e : Nat), d ≤ e →
    ∀ (as bs : List AV) (c : Bool) (xs ys : List Value), as.length = m → bs.length = m → eqCells kd as bs = some c → RL σ as xs → RL σ bs ys → ∀ w : World,
    (Op.equalIn e t (mkv P t xs) (mkv P t ys)).run P w = .ok c w
  | 0, _, _, h, _, _, _, _, _, _, _, _, _, _, _, _, _ => by simp [plainCells] at h
  | d + 1, t, m, h, e, he, as, bs, c, xs, ys, ha, hb, hc, hx, hy, w => by
    obtain ⟨e, rfl⟩ : ∃ e', e = e' + 1 := ⟨e - 1, by omega⟩
    have h0 := h
    unfold plainCells at h
    split at h
    · rename_i k hu
      split at h
      · rename_i hk
        obtain ⟨rfl, -⟩ := hk
        simp only [Option.some.injEq] at h
        subst h
        obtain ⟨a, rfl⟩ := List.length_eq_one_iff.1 ha
        obtain ⟨b, rfl⟩ := List.length_eq_one_iff.1 hb
        cases hx with | cons _ x _ l1 hx _ => cases hy with | cons _ y _ l2 hy _ =>
        rw [mkv_int hu, mkv_int hu]
        obtain ⟨c1, c2, h1, h2, rfl⟩ := eqCells_cons hc
        simp only [eqCells, Option.some.injEq] at h2
        subst h2
        rw [Bool.and_true]
        exact cellEq_sound h1 hx hy hu e w
      · cases h
    · rename_i n el hu
      cases hp : plainCells P kd d el with
      | none => simp [hp] at h
      | some m' =>
        simp only [hp, Option.bind_some] at h
        split at h
        · rename_i hc1
          simp only [Option.some.injEq] at h
          obtain ⟨hsz, u, hu2⟩ := plainCells_info hp
          have hmx : mkv P t xs = .agg xs.toArray := by simp [mkv, hu]
          have hmy : mkv P t ys = .agg ys.toArray := by simp [mkv, hu]
          rw [hmx, hmy]
          obtain ⟨i, hi⟩ := info_of_underlying hu2
          rw [run_equalIn_array w e xs.toArray ys.toArray hu hi, hsz, List.range_eq_range']
          exact eqItems_sound hu2 hsz hc1.1 (fun as bs c xs ys => eqIn_sound d el m' hp e (by omega) as bs c xs ys) (by rw [ha, h]) (by rw [hb, h]) hx hy w n 0 c (by omega) (by simpa using hc)
        · cases h
    · rename_i fs hu
      split at h
      · cases h
      · rename_i hst
        cases hp : plainFields (plainCells P kd d) fs.toList 0 with
        | none => simp [hp] at h
        | some s =>
          simp only [hp, Option.bind_some] at h
          split at h
          · simp only [Option.some.injEq] at h
            have hmx : mkv P t xs = .agg xs.toArray := by simp [mkv, hu]
            have hmy : mkv P t ys = .agg ys.toArray := by simp [mkv, hu]
            have hfs : P.fieldsOf t = fs := by simp [Program.fieldsOf, hu]
            rw [hmx, hmy, run_equalIn_struct w e t xs.toArray ys.toArray (by rw [hfs]; exact hu) (by simpa using hst), hfs]
            exact eqFields_sound (fun t m hm as bs c xs ys => eqIn_sound d t m hm e (by omega) as bs c xs ys) hx hy w fs.toList 0 s c hp (by omega) (by omega) (by simpa using hc)
          · cases h
    · cases h

end Pw

namespace Pw
open Go

variable {P : Program} {T : List (Nat × TE)} {ρ : Type}

/-! ### operations that touch no memory -/

/-- two strings, one behind the other -/
def catS (a b : ByteArray) : ByteArray := ⟨⟨a.data.toList ++ b.data.toList⟩⟩
theorem catS_eq (a b : ByteArray) : a ++ b = catS a b := by
  have : (a ++ b).data = a.data ++ b.data := by simp
  cases h : a ++ b with
  | mk d =>
    rw [h] at this
    simp only at this
    subst this
    simp only [catS]
    congr 1
    exact Array.ext' (by simp)

def binK (T : List (Nat × TE)) (op : BinOp) (t : Nat) (x y : AV) (K : AV → Option ρ) : Option ρ :=
  match op, x, y with
  | .shl, .u k a, .u _ b => shK .shl k a b K
  | .shr, .u k a, .u _ b => shK .shr k a b K
  | .shl, .u k a, .n b => bif decide (0 ≤ b) then shK .shl k a b.toNat K else none
  | .shr, .u k a, .n b => bif decide (0 ≤ b) then shK .shr k a b.toNat K else none
  | .shl, _, _ => none
  | .shr, _, _ => none
  | op, .u k a, .u k' b => bif decide (k = k') then binU op k a b K else none
  | op, .n a, .n b => binN op a b K
  | .eql, .agg xs, .agg ys => match (teAt T t).eqp with
    | some kd => bif (teAt T t).ty.agg && (Nat.beq xs.length (teAt T t).size && Nat.beq ys.length (teAt T t).size) then
        (match eqCells kd xs ys with | some c => K (.bool c) | none => none) else none
    | none => none
  | .neq, .agg xs, .agg ys => match (teAt T t).eqp with
    | some kd => bif (teAt T t).ty.agg && (Nat.beq xs.length (teAt T t).size && Nat.beq ys.length (teAt T t).size) then
        (match eqCells kd xs ys with | some c => K (.bool (!c)) | none => none) else none
    | none => none
  | .eql, .bool a, .bool b => match (teAt T t).ty with | .bool => K (.bool (a == b)) | _ => none
  | .neq, .bool a, .bool b => match (teAt T t).ty with | .bool => K (.bool (!(a == b))) | _ => none
  | .eql, .str a, .str b => K (.bool (a.toList == b.toList))
  | .neq, .str a, .str b => K (.bool (!(a.toList == b.toList)))
  | .add, .str a, .str b => bif decide (a.size + b.size < 9223372036854775808) then K (.str (catS a b)) else none
  | .eql, .ptr _ _, .nilp => match (teAt T t).ty with | .ptr => K (.bool false) | _ => none
  | .neq, .ptr _ _, .nilp => match (teAt T t).ty with | .ptr => K (.bool true) | _ => none
  | _, _, _ => none

theorem eqGuard_scalar {op : BinOp} {t : TypeId} {x y : Operand} {a b : Value} (h : ∀ cs, a ≠ .agg cs) (h' : a ≠ .nilIface) (w : World) :
    (eqGuard op t x y a b).run P w = .ok () w := by
  unfold eqGuard
  cases op <;> simp <;> cases a <;> first
    | (exact absurd rfl (h _))
    | (exact absurd rfl h')
    | rfl

theorem eqGuard_agg {op : BinOp} {t : TypeId} {x y : Operand} {xs ys : Array Value} (h : P.eqGuardType P.depth t = false) (w : World) :
    (eqGuard op t x y (.agg xs) (.agg ys)).run P w = .ok () w := by
  unfold eqGuard
  cases op <;> simp [h]

theorem Ty.agg_cases {y : Ty} (h : y.agg = true) : (∃ n e, y = .arr n e) ∨ ∃ fs, y = .struct fs := by
  cases y <;> simp_all [Ty.agg]

theorem Known.agg_under {t : Nat} {e : TE} (k : Known P t e) (h : e.ty.agg = true) : (∃ n el, P.underlying t = some (.array n el)) ∨ ∃ fs, P.underlying t = some (.struct fs) := by
  rcases Ty.agg_cases h with ⟨n, el, he⟩ | ⟨fs, he⟩
  · exact .inl ⟨n, el, k.arr he⟩
  · obtain ⟨fa, hfa, -⟩ := k.struct he
    exact .inr ⟨fa, hfa⟩

theorem mkv_agg {t : TypeId} (hagg : (∃ n e, P.underlying t = some (.array n e)) ∨ ∃ fs, P.underlying t = some (.struct fs)) (xs : Array Value) : mkv P t xs.toList = .agg xs := by
  rcases hagg with ⟨n, e, hu⟩ | ⟨fs, hu⟩ <;> simp [mkv, hu]

theorem ty_agg_ne {y : Ty} (h : y.agg = true) : y ≠ .other := by intro e; subst e; simp [Ty.agg] at h

theorem Known.cellsOf {t : Nat} {e : TE} (k : Known P t e) : P.cellsOf t = e.size := by
  obtain ⟨i, hi, h, -⟩ := k.info
  simp [Program.cellsOf, hi, h]

theorem eq_agg_sound (hT : TabOK P T) {t : Nat} {kd : IntKind} (hagg : (teAt T t).ty.agg = true) (he : (teAt T t).eqp = some kd) {xs ys : List AV} {c : Bool} (h : eqCells kd xs ys = some c)
    (h1 : xs.length = (teAt T t).size) (h2 : ys.length = (teAt T t).size) {σ : Ren} {x y : Value} (hx : R σ (.agg xs) x) (hy : R σ (.agg ys) y) (w : World) :
    ∃ xa ya, x = .agg xa ∧ y = .agg ya ∧ P.eqGuardType P.depth t = false ∧ (Op.equal t x y).run P w = .ok c w := by
  have k := hT.known (ty_agg_ne hagg)
  obtain ⟨m, hm, hg⟩ := k.eq kd he
  have hu := k.agg_under hagg
  have hsz := (plainCells_info hm).1
  rw [k.cellsOf] at hsz
  cases hx with | agg _ xa hx =>
  cases hy with | agg _ ya hy =>
  refine ⟨xa, ya, rfl, rfl, hg, ?_⟩
  have := eqIn_sound 8 t m hm Op.maxDepth (by simp [Op.maxDepth]) xs ys c xa.toList ya.toList (by omega) (by omega) h hx hy w
  rwa [mkv_agg hu, mkv_agg hu] at this

theorem run_guarded {op : BinOp} {t : TypeId} {x y : Operand} {va vb rv : Value} {w : World} (h : ∀ cs, va ≠ .agg cs) (h' : va ≠ .nilIface) (hr : (binOp op t va vb).run P w = .ok rv w) :
    (do eqGuard op t x y va vb; binOp op t va vb : Sem Value).run P w = .ok rv w := by
  rw [Sem.run_bind, eqGuard_scalar h h']; exact hr

theorem run_equal_ptr {t el : TypeId} (hu : P.underlying t = some (.pointer el)) (a : Addr) (w : World) : (Op.equal t (.pointer (some a)) (.pointer none)).run P w = .ok false w := by
  show (Op.equalIn (9999 + 1) t _ _).run P w = _
  generalize 9999 = d
  simp [Op.equalIn, run_under hu]

theorem binK_sound (hT : TabOK P T) {op : BinOp} {t : Nat} {a b : AV} {K : AV → Option ρ} {r : ρ} (h : binK T op t a b K = some r) :
    ∃ v, K v = some r ∧ ∀ (σ : Ren) (x y : Operand) (va vb : Value) (w : World), R σ a va → R σ b vb →
      ∃ rv, (do eqGuard op t x y va vb; binOp op t va vb : Sem Value).run P w = .ok rv w ∧ R σ v rv := by
  unfold binK at h
  split at h
  case h_1 k a k' b =>
    obtain ⟨v, hv, hs⟩ := shK_sound (P := P) h
    refine ⟨v, hv, fun σ x y va vb w ha hb => ?_⟩
    cases ha with | u _ _ hk hlt =>
    cases hb with | u _ _ hk' hlt' =>
    obtain ⟨rv, hr, hR⟩ := hs hk hlt t k' w
    exact ⟨rv, run_guarded (by simp) (by simp) hr, hR σ⟩
  case h_2 k a k' b =>
    obtain ⟨v, hv, hs⟩ := shK_sound (P := P) h
    refine ⟨v, hv, fun σ x y va vb w ha hb => ?_⟩
    cases ha with | u _ _ hk hlt =>
    cases hb with | u _ _ hk' hlt' =>
    obtain ⟨rv, hr, hR⟩ := hs hk hlt t k' w
    exact ⟨rv, run_guarded (by simp) (by simp) hr, hR σ⟩
  case h_3 k a b =>
    obtain ⟨h1, h2⟩ := bif_some h
    have h1' := of_decide_eq_true h1
    obtain ⟨v, hv, hs⟩ := shK_sound (P := P) h2
    refine ⟨v, hv, fun σ x y va vb w ha hb => ?_⟩
    cases ha with | u _ _ hk hlt =>
    cases hb with | n _ h3 h4 =>
    obtain ⟨rv, hr, hR⟩ := hs hk hlt t .i64 w
    rw [Int.toNat_of_nonneg h1'] at hr
    exact ⟨rv, run_guarded (by simp) (by simp) hr, hR σ⟩
  case h_4 k a b =>
    obtain ⟨h1, h2⟩ := bif_some h
    have h1' := of_decide_eq_true h1
    obtain ⟨v, hv, hs⟩ := shK_sound (P := P) h2
    refine ⟨v, hv, fun σ x y va vb w ha hb => ?_⟩
    cases ha with | u _ _ hk hlt =>
    cases hb with | n _ h3 h4 =>
    obtain ⟨rv, hr, hR⟩ := hs hk hlt t .i64 w
    rw [Int.toNat_of_nonneg h1'] at hr
    exact ⟨rv, run_guarded (by simp) (by simp) hr, hR σ⟩
  case h_5 => cases h
  case h_6 => cases h
  case h_7 op k a k' b hx1 hx2 hx3 hx4 =>
    obtain ⟨h1, h2⟩ := bif_some h
    have h1' := of_decide_eq_true h1
    subst h1'
    obtain ⟨v, hv, hs⟩ := binU_sound (P := P) h2 ⟨fun e => by subst e; simp_all, fun e => by subst e; simp_all⟩
    refine ⟨v, hv, fun σ x y va vb w ha hb => ?_⟩
    cases ha with | u _ _ hk hlt =>
    cases hb with | u _ _ hk' hlt' =>
    obtain ⟨rv, hr, hR⟩ := hs hk hlt hlt' t w
    exact ⟨rv, run_guarded (by simp) (by simp) hr, hR σ⟩
  case h_8 op a b hx1 hx2 =>
    obtain ⟨v, hv, hs⟩ := binN_sound (P := P) h ⟨fun e => by subst e; simp_all, fun e => by subst e; simp_all⟩
    refine ⟨v, hv, fun σ x y va vb w ha hb => ?_⟩
    cases ha with | n _ h1 h2 =>
    cases hb with | n _ h3 h4 =>
    obtain ⟨rv, hr, hR⟩ := hs h1 h2 t w
    exact ⟨rv, run_guarded (by simp) (by simp) hr, hR σ⟩
  case h_9 xs ys =>
    split at h
    · rename_i kd hkd
      obtain ⟨h1, h2⟩ := bif_some h
      simp only [Bool.and_eq_true] at h1
      split at h2
      · rename_i c hc
        refine ⟨_, h2, fun σ x y va vb w ha hb => ?_⟩
        obtain ⟨xa, ya, rfl, rfl, hg, he⟩ := eq_agg_sound hT h1.1 hkd hc (Nat.eq_of_beq_eq_true h1.2.1) (Nat.eq_of_beq_eq_true h1.2.2) ha hb w
        exact ⟨.bool c, by rw [Sem.run_bind, eqGuard_agg hg]; simp [binOp, he], .bool c⟩
      · cases h2
    · cases h
  case h_10 xs ys =>
    split at h
    · rename_i kd hkd
      obtain ⟨h1, h2⟩ := bif_some h
      simp only [Bool.and_eq_true] at h1
      split at h2
      · rename_i c hc
        refine ⟨_, h2, fun σ x y va vb w ha hb => ?_⟩
        obtain ⟨xa, ya, rfl, rfl, hg, he⟩ := eq_agg_sound hT h1.1 hkd hc (Nat.eq_of_beq_eq_true h1.2.1) (Nat.eq_of_beq_eq_true h1.2.2) ha hb w
        exact ⟨.bool (!c), by rw [Sem.run_bind, eqGuard_agg hg]; simp [binOp, he], .bool _⟩
      · cases h2
    · cases h
  case h_11 a b =>
    split at h
    · rename_i hty
      have hu := (hT.known (t := t) (by rw [hty]; simp)).bool hty
      refine ⟨_, h, fun σ x y va vb w ha hb => ?_⟩
      cases ha; cases hb
      exact ⟨.bool (a == b), run_guarded (by simp) (by simp) (by simp [binOp, run_equal_bool w t a b hu]), .bool _⟩
    · cases h
  case h_12 a b =>
    split at h
    · rename_i hty
      have hu := (hT.known (t := t) (by rw [hty]; simp)).bool hty
      refine ⟨_, h, fun σ x y va vb w ha hb => ?_⟩
      cases ha; cases hb
      exact ⟨.bool (!(a == b)), run_guarded (by simp) (by simp) (by simp [binOp, run_equal_bool w t a b hu]), .bool _⟩
    · cases h
  case h_13 a b =>
    refine ⟨_, h, fun σ x y va vb w ha hb => ?_⟩
    cases ha; cases hb
    exact ⟨.bool (a.toList == b.toList), run_guarded (by simp) (by simp) (by simp [binOp, Op.stringOp]), .bool _⟩
  case h_14 a b =>
    refine ⟨_, h, fun σ x y va vb w ha hb => ?_⟩
    cases ha; cases hb
    exact ⟨.bool (!(a.toList == b.toList)), run_guarded (by simp) (by simp) (by simp [binOp, Op.stringOp]), .bool _⟩
  case h_15 a b =>
    obtain ⟨hc, h⟩ := bif_some h
    have hc := of_decide_eq_true hc
    refine ⟨_, h, fun σ x y va vb w ha hb => ?_⟩
    cases ha; cases hb
    have hn : ¬ ((a.size + b.size : Nat) : Int) > IntKind.i64.max := by
      have : IntKind.i64.max = 9223372036854775807 := rfl
      omega
    exact ⟨.string (a ++ b), run_guarded (by simp) (by simp) (by simp only [binOp, Op.stringOp]; rw [if_neg hn]; rfl), by rw [catS_eq]; exact .str _⟩
  case h_16 =>
    split at h
    · rename_i hty
      obtain ⟨el, hu⟩ := (hT.known (t := t) (by rw [hty]; simp)).ptr hty
      refine ⟨_, h, fun σ x y va vb w ha hb => ?_⟩
      cases ha; cases hb
      exact ⟨.bool false, run_guarded (by simp) (by simp) (by simp [binOp, run_equal_ptr hu]), .bool _⟩
    · cases h
  case h_17 =>
    split at h
    · rename_i hty
      obtain ⟨el, hu⟩ := (hT.known (t := t) (by rw [hty]; simp)).ptr hty
      refine ⟨_, h, fun σ x y va vb w ha hb => ?_⟩
      cases ha; cases hb
      exact ⟨.bool true, run_guarded (by simp) (by simp) (by simp [binOp, run_equal_ptr hu]), .bool _⟩
    · cases h
  case h_18 => cases h

end Pw

namespace Pw
open Go

variable {P : Program} {T : List (Nat × TE)} {ρ : Type}

def AV.cells : AV → List AV
  | .agg cs => cs
  | v => [v]

def allScalar : List AV → Bool
  | [] => true
  | a :: l => match a.scalar with | true => allScalar l | false => false

theorem allScalar_mem : ∀ {l : List AV}, allScalar l = true → ∀ a ∈ l, a.scalar = true
  | [], _, _, h => by simp at h
  | a :: l, h, b, hb => by
    unfold allScalar at h
    split at h
    · rename_i h1
      cases hb with
      | head => exact h1
      | tail _ hb => exact allScalar_mem h b hb
    · cases h

/-- a value whose cells are known -/
def AV.isC : AV → Bool
  | .agg _ => true
  | .tup _ | .unk => false
  | _ => true

theorem R.cells {σ : Ren} {a : AV} {v : Value} (h : R σ a v) (hs : a.isC = true) : RL σ a.cells v.cells.toList := by
  cases h <;> simp_all [AV.isC, AV.cells, Value.cells] <;> first
    | exact .cons _ _ _ _ (.bool _) .nil
    | exact .cons _ _ _ _ (.u _ _ ‹_› ‹_›) .nil
    | exact .cons _ _ _ _ (.n _ ‹_› ‹_›) .nil
    | exact .cons _ _ _ _ (.str _) .nil
    | exact .cons _ _ _ _ (.ptr _ _ _ _ _ ‹_›) .nil
    | exact .cons _ _ _ _ .nilp .nil
    | exact .cons _ _ _ _ (.slice _ _ _ _ _ _ _ _ ‹_› ‹_› ‹_› ‹_›) .nil
    | exact .cons _ _ _ _ (.slic0 _ _ _ _) .nil
    | exact .cons _ _ _ _ .nils .nil
    | exact .cons _ _ _ _ (.emp _) .nil
    | exact .cons _ _ _ _ (.fn _ _ _ ‹_›) .nil

/-- cells with others in the place of some -/
def splice (cs : List AV) (off : Nat) (vs : List AV) : List AV := cs.take off ++ (vs ++ cs.drop (off + vs.length))

def fillA (place : Nat → Option (Nat × Nat)) (cells : List AV) : List (Nat × AV) → Option (List AV)
  | [] => some cells
  | (i, v) :: rest => match place i with
    | none => none
    | some (off, size) =>
      bif Nat.beq v.cells.length size && (Nat.ble (off + size) cells.length && v.isC) then fillA place (splice cells off v.cells) rest else none

theorem foldl_set (off : Nat) : ∀ (vs : List Value) (j : Nat) (cells : Array Value), off + j + vs.length ≤ cells.size →
    ((vs.zipIdx j).foldl (fun cs (x : Value × Nat) => cs.setIfInBounds (off + x.2) x.1) cells).toList = cells.toList.take (off + j) ++ (vs ++ cells.toList.drop (off + j + vs.length))
  | [], j, cells, _ => by simp
  | v :: vs, j, cells, h => by
    simp only [List.length_cons] at h
    simp only [List.zipIdx_cons, List.foldl_cons]
    rw [foldl_set off vs (j + 1) (cells.setIfInBounds (off + j) v) (by simp; omega)]
    simp only [Array.toList_setIfInBounds, List.length_cons]
    have e1 : List.take (off + (j + 1)) (cells.toList.set (off + j) v) = List.take (off + j) cells.toList ++ [v] := by
      rw [show off + (j + 1) = off + j + 1 by omega, List.take_succ_eq_append_getElem (by simp; omega)]
      simp [List.take_set_of_le]
    have e2 : List.drop (off + (j + 1) + vs.length) (cells.toList.set (off + j) v) = List.drop (off + j + (vs.length + 1)) cells.toList := by
      rw [List.drop_set_of_lt (by omega)]; congr 1; omega
    rw [e1, e2]; simp

theorem RL.splice {σ : Ren} {cs vs : List AV} {cr vr : List Value} (h : RL σ cs cr) (hv : RL σ vs vr) (off : Nat) :
    RL σ (Pw.splice cs off vs) (cr.take off ++ (vr ++ cr.drop (off + vr.length))) := by
  unfold Pw.splice
  rw [hv.length]
  exact (h.take off).append (hv.append (h.drop _))

theorem fillA_sound {σ : Ren} {ev : Operand → AV} {re : Operand → Value} {placeR placeA : Nat → Option (Nat × Nat)} (hp : ∀ i p, placeA i = some p → placeR i = some p) :
    ∀ (l : List (Nat × Operand)) (cs : List AV) (cells : Array Value) (res : List AV), (∀ x ∈ l, R σ (ev x.2) (re x.2)) → RL σ cs cells.toList →
      fillA placeA cs (l.map fun x => (x.1, ev x.2)) = some res →
      ∃ ra, Instr.fill placeR cells (l.map fun x => (x.1, re x.2)) = some ra ∧ RL σ res ra.toList
  | [], cs, cells, res, _, hc, h => by
    simp only [List.map_nil, fillA, Option.some.injEq] at h
    subst h
    exact ⟨cells, rfl, hc⟩
  | (i, x) :: l, cs, cells, res, hl, hc, h => by
    simp only [List.map_cons, fillA] at h
    split at h
    · cases h
    · rename_i off size hpl
      obtain ⟨hb, hf⟩ := bif_some h
      simp only [Bool.and_eq_true] at hb
      obtain ⟨h1, h2, h3⟩ := hb
      have h1 := Nat.eq_of_beq_eq_true h1
      have h2 := Nat.le_of_ble_eq_true h2
      have hx := hl (i, x) (by simp)
      have hcl := hx.cells h3
      have hlen := hcl.length
      have hcs := hc.length
      simp only [Array.length_toList] at hlen hcs
      have hset := foldl_set off (re x).cells.toList 0 cells (by simp; omega)
      obtain ⟨ra, hra, hR⟩ := fillA_sound hp l (splice cs off (ev x).cells)
        ((re x).cells.zipIdx.foldl (fun cs (c, j) => cs.setIfInBounds (off + j) c) cells) res (fun y hy => hl y (by simp [hy]))
        (by
          rw [← Array.foldl_toList, Array.toList_zipIdx, hset]
          simpa using hc.splice hcl off) hf
      refine ⟨ra, ?_, hR⟩
      simp only [List.map_cons, Instr.fill, hp _ _ hpl]
      rw [if_neg (by simp; omega)]
      exact hra


/-! ### conversions between kinds of numbers, and one operand -/

def convK (kd : IntKind) (x : AV) (K : AV → Option ρ) : Option ρ :=
  match kd, x with
  | .i64, .n i => K (.n i)
  | .i64, .u k m => bif decide (k.bits < 64) then K (.n ((m : Nat) : Int)) else K (.n (w64 ((m : Nat) : Int)))
  | .u8, .u k m => bif decide (k.bits ≤ 8) then K (.u .u8 m) else K (.u .u8 (m % 2 ^ 8))
  | .u16, .u k m => bif decide (k.bits ≤ 16) then K (.u .u16 m) else K (.u .u16 (m % 2 ^ 16))
  | .u32, .u k m => bif decide (k.bits ≤ 32) then K (.u .u32 m) else K (.u .u32 (m % 2 ^ 32))
  | .u64, .u k m => bif decide (k.bits ≤ 64) then K (.u .u64 m) else K (.u .u64 (m % 2 ^ 64))
  | .u8, .n i => K (.u .u8 (i % 256).toNat)
  | .u16, .n i => K (.u .u16 (i % 65536).toNat)
  | .u32, .n i => K (.u .u32 (i % 4294967296).toNat)
  | .u64, .n i => K (.u .u64 (i % 18446744073709551616).toNat)
  | _, _ => none

theorem bif_both {c : Bool} {x y : Option ρ} {r : ρ} (h : (bif c then x else y) = some r) : (c = true ∧ x = some r) ∨ (c = false ∧ y = some r) := by
  cases c <;> simp_all

theorem conv_u {kd k : IntKind} {m : Nat} (hs : kd.signed = false) (h : m < 2 ^ k.bits) (hk : k.bits ≤ kd.bits) {σ : Ren} : R σ (.u kd m) (.int kd (kd.wrap (m : Int))) := by
  have hlt : m < 2 ^ kd.bits := Nat.lt_of_lt_of_le h (Nat.pow_le_pow_right (by omega) hk)
  rw [wrap_nat hs, Nat.mod_eq_of_lt hlt]; exact .u kd m hs hlt
theorem conv_um {kd : IntKind} {m : Nat} (hs : kd.signed = false) {σ : Ren} : R σ (.u kd (m % 2 ^ kd.bits)) (.int kd (kd.wrap (m : Int))) := by
  rw [wrap_nat hs]; exact .u kd _ hs (Nat.mod_lt _ (Nat.two_pow_pos _))
theorem conv_n {kd : IntKind} (i : Int) (hs : kd.signed = false) {σ : Ren} {q : Int} (hq : q = 2 ^ kd.bits) : R σ (.u kd (i % q).toNat) (.int kd (kd.wrap i)) := by
  subst hq
  have hpos : (0 : Int) < 2 ^ kd.bits := Int.pow_pos (by omega)
  have h0 := Int.emod_nonneg i (Int.ne_of_gt hpos)
  have h1 := Int.emod_lt_of_pos i hpos
  rw [wrap_u hs]
  have := R.u (σ := σ) kd (i % 2 ^ kd.bits).toNat hs (by
    have h2 : (((i % 2 ^ kd.bits).toNat : Nat) : Int) < ((2 ^ kd.bits : Nat) : Int) := by
      rw [Int.toNat_of_nonneg h0]; simpa using h1
    exact_mod_cast h2)
  rwa [Int.toNat_of_nonneg h0] at this

theorem convU {kd k : IntKind} {m q : Nat} {K : AV → Option ρ} {r : ρ} (hs : kd.signed = false) (hq : kd.bits = q) (h : (bif decide (k.bits ≤ q) then K (.u kd m) else K (.u kd (m % 2 ^ q))) = some r) :
    ∃ v, K v = some r ∧ ∀ (σ : Ren) (vx : Value), R σ (.u k m) vx → ∃ k n, vx = .int k n ∧ R σ v (.int kd (kd.wrap n)) := by
  subst hq
  rcases bif_both h with ⟨hc, h⟩ | ⟨hc, h⟩
  · refine ⟨_, h, fun σ vx hx => ?_⟩
    cases hx with | u _ _ hk hlt =>
    exact ⟨_, _, rfl, conv_u hs hlt (of_decide_eq_true hc)⟩
  · refine ⟨_, h, fun σ vx hx => ?_⟩
    cases hx with | u _ _ hk hlt =>
    exact ⟨_, _, rfl, conv_um hs⟩

theorem convK_sound {kd : IntKind} {x : AV} {K : AV → Option ρ} {r : ρ} (h : convK kd x K = some r) :
    ∃ v, K v = some r ∧ ∀ (σ : Ren) (vx : Value), R σ x vx → ∃ k n, vx = .int k n ∧ R σ v (.int kd (kd.wrap n)) := by
  unfold convK at h
  split at h
  · exact ⟨_, h, fun σ vx hx => by cases hx with | n _ h1 h2 => exact ⟨_, _, rfl, by rw [wrap_w64, w64_id h1 h2]; exact .n _ h1 h2⟩⟩
  · rename_i k m
    rcases bif_both h with ⟨hc, h⟩ | ⟨hc, h⟩
    · refine ⟨_, h, fun σ vx hx => ?_⟩
      cases hx with | u _ _ hk hlt =>
      have hb := of_decide_eq_true hc
      have h2 : m < 2 ^ 63 := Nat.lt_of_lt_of_le hlt (Nat.pow_le_pow_right (by omega) (by omega))
      refine ⟨_, _, rfl, ?_⟩
      rw [wrap_w64, w64_id (by omega) (by omega)]
      exact .n _ (by omega) (by omega)
    · refine ⟨_, h, fun σ vx hx => ?_⟩
      cases hx with | u _ _ hk hlt =>
      exact ⟨_, _, rfl, by rw [wrap_w64]; exact .n _ (w64_lo _) (w64_hi _)⟩
  all_goals first
    | (cases h; done)
    | (exact convU (kd := .u8) rfl rfl h)
    | (exact convU (kd := .u16) rfl rfl h)
    | (exact convU (kd := .u32) rfl rfl h)
    | (exact convU (kd := .u64) rfl rfl h)
    | (refine ⟨_, h, fun σ vx hx => ?_⟩
       cases hx with | n _ h1 h2 =>
       exact ⟨_, _, rfl, conv_n _ rfl rfl⟩)

def unK (op : UnOp) (x : AV) (K : AV → Option ρ) : Option ρ :=
  match op, x with
  | .not, .bool b => K (.bool (!b))
  | .neg, .n i => K (.n (w64 (0 - i)))
  | .xor, .u k m => K (.u k (2 ^ k.bits - 1 - m))
  | _, _ => none

theorem unK_sound {op : UnOp} {x : AV} {K : AV → Option ρ} {r : ρ} (h : unK op x K = some r) :
    ∃ v, K v = some r ∧ ∀ (σ : Ren) (vx : Value) (w : World), R σ x vx → ∃ rv, (Op.unary op vx).run P w = .ok rv w ∧ R σ v rv := by
  unfold unK at h
  split at h
  · exact ⟨_, h, fun σ vx w hx => by cases hx; exact ⟨.bool _, by simp [Op.unary], .bool _⟩⟩
  · rename_i i
    refine ⟨_, h, fun σ vx w hx => ?_⟩
    cases hx with | n _ h1 h2 =>
    exact ⟨.int .i64 (w64 (0 - i)), by simp [Op.unary, Op.intArith, wrap_w64], .n _ (w64_lo _) (w64_hi _)⟩
  · rename_i k m
    refine ⟨_, h, fun σ vx w hx => ?_⟩
    cases hx with | u _ _ hk hlt =>
    have hpos : 0 < 2 ^ k.bits := Nat.two_pow_pos _
    have hl : 2 ^ k.bits - 1 - m < 2 ^ k.bits := by omega
    refine ⟨.int k ((2 ^ k.bits - 1 - m : Nat) : Int), ?_, .u k _ hk hl⟩
    have hmax : k.max = ((2 ^ k.bits - 1 : Nat) : Int) := by
      simp only [IntKind.max, hk, Bool.false_eq_true, if_false]
      rw [Int.natCast_sub hpos]; simp
    simp only [Op.unary, Op.intBits, hk, Bool.false_eq_true, if_false, hmax, Sem.run_pure, BitVec.toNat_xor]
    rw [toNat_ofInt (by omega), toNat_ofInt hlt]
    have : (2 ^ k.bits - 1) ^^^ m = 2 ^ k.bits - 1 - m := by
      rw [Nat.xor_comm]
      have h3 := BitVec.toNat_not (x := BitVec.ofNat k.bits m)
      rw [BitVec.not_def, BitVec.toNat_xor] at h3
      simp only [BitVec.toNat_allOnes, BitVec.toNat_ofNat, Nat.mod_eq_of_lt hlt] at h3
      rw [Nat.xor_comm]; exact h3
    rw [this, bits_lt _ hl hk]
  · cases h

end Pw

namespace Pw
open Go

variable {P : Program} {T : List (Nat × TE)} {ρ : Type}

def nth {α : Type} : List α → Nat → Option α
  | [], _ => none
  | a :: _, 0 => some a
  | _ :: l, n + 1 => nth l n
theorem nth_eq {α : Type} : ∀ (l : List α) (n : Nat), nth l n = l[n]?
  | [], _ => by simp [nth]
  | _ :: _, 0 => by simp [nth]
  | _ :: l, n + 1 => by simp [nth, nth_eq l n]

/-- a part of cells, as a value -/
def partA (T : List (Nat × TE)) (t : Nat) (cs : List AV) (off : Nat) : Option AV :=
  match (teAt T t).ty with
  | .other => none
  | .arr .. | .struct _ => some (.agg ((cs.drop off).take (teAt T t).size))
  | _ => nth cs off

theorem partA_sound (hT : TabOK P T) {t off : Nat} {cs : List AV} {v : AV} (h : partA T t cs off = some v) {σ : Ren} {arr : Array Value} (hr : RL σ cs arr.toList) (w : World) :
    ∃ rv, (part t arr off).run P w = .ok rv w ∧ R σ v rv := by
  unfold partA at h
  have hcell : ∀ (hne : (teAt T t).ty ≠ .other) (hag : (teAt T t).ty.agg = false), nth cs off = some v → ∃ rv, (part t arr off).run P w = .ok rv w ∧ R σ v rv := by
    intro hne hag hn
    have k := hT.known hne
    rw [nth_eq] at hn
    obtain ⟨rv, h1, h2⟩ := hr.get hn
    have h1' : arr[off]? = some rv := by simpa using h1
    exact ⟨rv, by simp [part, k.run_isAgg, hag, h1'], h2⟩
  have hagg : ∀ (hag : (teAt T t).ty.agg = true), v = .agg ((cs.drop off).take (teAt T t).size) → ∃ rv, (part t arr off).run P w = .ok rv w ∧ R σ v rv := by
    intro hag hv
    subst hv
    have k := hT.known (ty_agg_ne hag)
    refine ⟨.agg (arr.extract off (off + (teAt T t).size)), by simp [part, k.run_isAgg, hag, k.run_size], .agg _ _ ?_⟩
    have := hr.slices off (teAt T t).size
    simpa [List.drop_take, Array.toList_extract] using this
  split at h
  · cases h
  · rename_i hty; exact hagg (by rw [hty]; rfl) (by simpa using h.symm)
  · rename_i hty; exact hagg (by rw [hty]; rfl) (by simpa using h.symm)
  · rename_i h1 h2 h3
    refine hcell (fun e => h1 e) ?_ h
    cases hty : (teAt T t).ty <;> first | rfl | (exact absurd hty (h2 _ _)) | (exact absurd hty (h3 _)) 

/-- a bound of a slice -/
def bndK (x : Option AV) (dflt hi : Nat) (K : Nat → Option ρ) : Option ρ :=
  match x with
  | none => K dflt
  | some (.n i) => bif decide (0 ≤ i ∧ i ≤ (hi : Int)) then K i.toNat else none
  | some (.u _ m) => bif decide (m ≤ hi) then K m else none
  | _ => none

def placesA (T : List (Nat × TE)) : List (Nat × Nat) → Option (List (Nat × Nat))
  | [] => some []
  | (o, ft) :: r => match sz T ft with
    | some s => match placesA T r with
      | some l => some ((o, s) :: l)
      | none => none
    | none => none

theorem placesA_sound (hT : TabOK P T) (w : World) : ∀ (fs : List Field) (l : List (Nat × Nat)), placesA T (fs.map fun f => (f.offset, f.type)) = some l →
    (fs.mapM fun f => do pure (f.offset, ← Go.sizeOf f.type) : Sem (List (Nat × Nat))).run P w = .ok l w
  | [], l, h => by simp only [List.map_nil, placesA, Option.some.injEq] at h; subst h; simp
  | f :: fs, l, h => by
    simp only [List.map_cons, placesA] at h
    split at h
    · rename_i s hs
      split at h
      · rename_i l' hl
        simp only [Option.some.injEq] at h
        subst h
        obtain ⟨k, hk⟩ := sz_known hT hs
        have ih := placesA_sound hT w fs l' hl
        rw [List.mapM_cons]
        have h1 : (do pure (f.offset, ← Go.sizeOf f.type) : Sem (Nat × Nat)).run P w = .ok (f.offset, s) w := by simp [k.run_size, hk]
        rw [Sem.run_bind, h1]
        simp only [Result.andThen_ok]
        rw [Sem.run_bind, ih]
        simp
      · cases h
    · cases h

def pureK (T : List (Nat × TE)) (ev : Operand → AV) (o : Op) (K : AV → Option ρ) : Option ρ :=
  match o with
  | .move x | .assign x => K (ev x)
  | .pick c a b => match ev c with
    | .bool t => bif t then K (ev a) else K (ev b)
    | _ => none
  | .build t parts => match (teAt T t).zero with
    | none => none
    | some z => match (teAt T t).ty with
      | .struct fs => (match placesA T fs with
        | some pl => (match fillA (nth pl) z (parts.toList.map fun x => (x.1, ev x.2)) with
          | some cs => K (.agg cs)
          | none => none)
        | none => none)
      | .arr _ e => (match sz T e with
        | some s => (match fillA (fun i => some (i * s, s)) z (parts.toList.map fun x => (x.1, ev x.2)) with
          | some cs => K (.agg cs)
          | none => none)
        | none => none)
      | _ => none
  | .nilCheck x => match ev x with
    | .ptr id off => K (.ptr id off)
    | .fn f c => K (.fn f c)
    | _ => none
  | .binOp op t x y _ => binK T op t (ev x) (ev y) K
  | .unOp op _ x => unK op (ev x) K
  | .convert src dst x => match (teAt T src).ty, (teAt T dst).ty with
    | .int _, .int kd => convK kd (ev x) K
    | _, _ => none
  | .fieldAddr t x f => match (teAt T t).ty, ev x with
    | .struct fs, .ptr id off => (match nth fs f with
      | some (o, ft) => (match sz T ft with | some (_ + 1) => K (.ptr id (off + o)) | _ => none)
      | none => none)
    | _, _ => none
  | .field t x f => match (teAt T t).ty, ev x with
    | .struct fs, .agg cs => (match nth fs f with
      | some (o, ft) => (match partA T ft cs o with | some v => K v | none => none)
      | none => none)
    | _, _ => none
  | .indexAddr t x i => match (teAt T t).ty, ev x with
    | .arr n e, .ptr id off => (match sz T e with
      | some s => idxK (ev i) n fun m => K (.ptr id (off + m * s))
      | none => none)
    | .slice e, .slice id off len _ap => (match sz T e with
      | some s => idxK (ev i) len fun m => K (.ptr id (off + m * s))
      | none => none)
    | _, _ => none
  | .index t x i => match (teAt T t).ty, ev x with
    | .arr n e, .agg cs => (match sz T e with
      | some s => idxK (ev i) n fun m => (match partA T e cs (m * s) with | some v => K v | none => none)
      | none => none)
    | .str, .str s => idxK (ev i) s.size fun m => (match s[m]? with | some b => K (.u .u8 b.toNat) | none => none)
    | _, _ => none
  | .extract x i => match ev x with
    | .tup vs => (match nth vs i with | some v => K v | none => none)
    | _ => none
  | .slice t x lo hi none => match (teAt T t).ty, ev x with
    | .arr n e, .ptr id off => (match sz T e with
      | some s => bif decide (n < 9223372036854775808) then bndK (hi.map ev) n n fun h => bndK (lo.map ev) 0 h fun l => K (.slice id (off + l * s) (h - l) false) else none
      | none => none)
    | .slice e, .slice id off len ap => (match sz T e with
      | some s => bndK (hi.map ev) len len fun h => bndK (lo.map ev) 0 h fun l => K (.slice id (off + l * s) (h - l) (ap && Nat.beq s 1))
      | none => none)
    | .slice e, .nils => (match sz T e with
      | some _ => bndK (hi.map ev) 0 0 fun h => bndK (lo.map ev) 0 h fun _ => K .nils
      | none => none)
    | .str, .str s => bndK (hi.map ev) s.size s.size fun h => bndK (lo.map ev) 0 h fun l => K (.str (s.extract l h))
    | _, _ => none
  | .slice t x lo hi (some mx) => match (teAt T t).ty, ev x with
    | .arr n e, .ptr id off => (match sz T e with
      | some s => bif decide (n < 9223372036854775808) && hi.isSome then bndK (some (ev mx)) n n fun m => bndK (hi.map ev) m m fun h => bndK (lo.map ev) 0 h fun l =>
          K (.slice id (off + l * s) (h - l) false) else none
      | none => none)
    | .slice e, .slice id off len ap => (match sz T e with
      | some s => bif hi.isSome then bndK (some (ev mx)) len len fun m => bndK (hi.map ev) m m fun h => bndK (lo.map ev) 0 h fun l =>
          K (.slice id (off + l * s) (h - l) (ap && Nat.beq s 1)) else none
      | none => none)
    | _, _ => none
  | .makeFunc (.func f) first caps => bif first.toList.isEmpty then K (.fn f (caps.toList.map ev)) else none
  | .sliceToArrayPointer t x => match (teAt T t).ty, ev x with
    | .arr n _, .slice id off len _ => bif decide (0 < n ∧ n ≤ len) then K (.ptr id off) else none
    | _, _ => none
  | _ => none

theorem add_addr (b x n : Nat) : (⟨b, x, none⟩ : Addr).add n = ⟨b, x + n, none⟩ := by
  unfold Addr.add
  split
  · rename_i h; subst h; rfl
  · rfl

theorem bndK_sound {x : Option AV} {dflt hi : Nat} {K : Nat → Option ρ} {r : ρ} (h : bndK x dflt hi K = some r) :
    ∃ m, K m = some r ∧ ((x = none ∧ m = dflt) ∨ ∃ a, x = some a ∧ m ≤ hi ∧ ∀ (σ : Ren) (v : Value), R σ a v → ∃ k, v = .int k (m : Int)) := by
  unfold bndK at h
  split at h
  · exact ⟨_, h, .inl ⟨rfl, rfl⟩⟩
  · rename_i i
    obtain ⟨hc, hk⟩ := bif_some h
    have hc' := of_decide_eq_true hc
    refine ⟨_, hk, .inr ⟨_, rfl, by omega, fun σ v hv => ?_⟩⟩
    cases hv
    exact ⟨_, by rw [Int.toNat_of_nonneg hc'.1]⟩
  · rename_i m
    obtain ⟨hc, hk⟩ := bif_some h
    refine ⟨_, hk, .inr ⟨_, rfl, of_decide_eq_true hc, fun σ v hv => ?_⟩⟩
    cases hv; exact ⟨_, rfl⟩
  · cases h

theorem run_sliceBound {k : IntKind} {m y : Nat} (h : m ≤ y) (c : BoundsCode) (w : World) : (Instr.sliceBound (.int k (m : Int)) y c).run P w = .ok m w := by
  simp [Instr.sliceBound, asIntOf, h]

theorem run_bounds {ev : Operand → AV} {re : Operand → Value} {σ : Ren} {lo hi : Option Operand} (hlo : ∀ x, lo = some x → R σ (ev x) (re x)) (hhi : ∀ x, hi = some x → R σ (ev x) (re x))
    {len cap h l : Nat} (hcap : len ≤ cap) (b : Bool)
    (hh : (hi.map ev = none ∧ h = len) ∨ ∃ a, hi.map ev = some a ∧ h ≤ len ∧ ∀ (σ : Ren) (v : Value), R σ a v → ∃ k, v = .int k (h : Int))
    (hl : (lo.map ev = none ∧ l = 0) ∨ ∃ a, lo.map ev = some a ∧ l ≤ h ∧ ∀ (σ : Ren) (v : Value), R σ a v → ∃ k, v = .int k (l : Int)) (w : World) :
    (Instr.sliceBounds b len cap (lo.map re) (hi.map re) none).run P w = .ok (l, h, cap) w ∧ l ≤ h ∧ h ≤ len := by
  have h1 : h ≤ len := by rcases hh with ⟨_, rfl⟩ | ⟨_, _, h, _⟩ <;> omega
  have h2 : l ≤ h := by rcases hl with ⟨_, rfl⟩ | ⟨_, _, h, _⟩ <;> omega
  refine ⟨?_, h2, h1⟩
  unfold Instr.sliceBounds
  simp only [Sem.run_bind, Sem.run_pure, Result.andThen_ok]
  cases hi with
  | none =>
    have : h = len := by rcases hh with ⟨_, h⟩ | ⟨_, h, _⟩ <;> simp_all
    subst this
    simp only [Option.map_none]
    cases lo with
    | none =>
      have : l = 0 := by rcases hl with ⟨_, h⟩ | ⟨_, h, _⟩ <;> simp_all
      subst this; simp
    | some x =>
      obtain ⟨k, hk⟩ : ∃ k, re x = .int k (l : Int) := by
        rcases hl with ⟨h, _⟩ | ⟨_, h, _, h3⟩
        · simp at h
        · simp at h; subst h; exact h3 _ _ (hlo x rfl)
      simp [hk, run_sliceBound h2]
  | some y =>
    obtain ⟨k, hk⟩ : ∃ k, re y = .int k (h : Int) := by
      rcases hh with ⟨h, _⟩ | ⟨_, h, _, h3⟩
      · simp at h
      · simp at h; subst h; exact h3 _ _ (hhi y rfl)
    have hb := fun c => run_sliceBound (P := P) (k := k) (Nat.le_trans h1 hcap) c w
    simp only [Option.map_some, hk, Sem.run_bind, hb]
    simp only [Result.andThen_ok]
    cases lo with
    | none =>
      have : l = 0 := by rcases hl with ⟨_, h⟩ | ⟨_, h, _⟩ <;> simp_all
      subst this; simp
    | some x =>
      obtain ⟨k', hk'⟩ : ∃ k, re x = .int k (l : Int) := by
        rcases hl with ⟨h, _⟩ | ⟨_, h, _, h3⟩
        · simp at h
        · simp at h; subst h; exact h3 _ _ (hlo x rfl)
      simp [hk', run_sliceBound h2]

theorem run_bounds3 {ev : Operand → AV} {re : Operand → Value} {σ : Ren} {lo : Option Operand} {hi mx : Operand} (hlo : ∀ x, lo = some x → R σ (ev x) (re x)) (hhi : R σ (ev hi) (re hi)) (hmx : R σ (ev mx) (re mx))
    {len cap h l m : Nat} (hcap : len ≤ cap) (b : Bool)
    (hm : m ≤ len ∧ ∀ (σ : Ren) (v : Value), R σ (ev mx) v → ∃ k, v = .int k (m : Int))
    (hh : h ≤ m ∧ ∀ (σ : Ren) (v : Value), R σ (ev hi) v → ∃ k, v = .int k (h : Int))
    (hl : (lo.map ev = none ∧ l = 0) ∨ ∃ a, lo.map ev = some a ∧ l ≤ h ∧ ∀ (σ : Ren) (v : Value), R σ a v → ∃ k, v = .int k (l : Int)) (w : World) :
    (Instr.sliceBounds b len cap (lo.map re) (some (re hi)) (some (re mx))).run P w = .ok (l, h, m) w ∧ l ≤ h := by
  have h2 : l ≤ h := by rcases hl with ⟨_, rfl⟩ | ⟨_, _, h, _⟩ <;> omega
  refine ⟨?_, h2⟩
  obtain ⟨k1, e1⟩ := hm.2 _ _ hmx
  obtain ⟨k2, e2⟩ := hh.2 _ _ hhi
  unfold Instr.sliceBounds
  simp only [Sem.run_bind, e1, e2, run_sliceBound (Nat.le_trans hm.1 hcap), run_sliceBound hh.1, Result.andThen_ok]
  cases lo with
  | none =>
    have : l = 0 := by rcases hl with ⟨_, h⟩ | ⟨_, h, _⟩ <;> simp_all
    subst this; simp
  | some x =>
    obtain ⟨k', hk'⟩ : ∃ k, re x = .int k (l : Int) := by
      rcases hl with ⟨h, _⟩ | ⟨_, h, _, h3⟩
      · simp at h
      · simp at h; subst h; exact h3 _ _ (hlo x rfl)
    simp [hk', run_sliceBound h2]


theorem slice_val {σ : Ren} {id off b δ z l h m s : Nat} (hσ : σ id = some (b, δ, z)) (hl : l ≤ h) (hm : h ≤ m) (h63 : m < 9223372036854775808) {ap : Bool} (hz : ap = true → off + l * s + (m - l) ≤ z) :
    R σ (.slice id (off + l * s) (h - l) ap) (.slice (some (if m = l then ⟨b, δ + off, none⟩ else (⟨b, δ + off, none⟩ : Addr).add (l * s))) (h - l) (m - l)) := by
  by_cases e2 : m = l
  · subst e2
    have e : h - m = 0 := by omega
    rw [e, Nat.sub_self]; exact .slic0 _ _ _ _
  · rw [if_neg e2, add_addr, Nat.add_assoc]
    exact .slice _ _ _ _ _ _ _ _ hσ (by omega) (by omega) (fun h => by have := hz h; omega)

theorem pureK_sound (hT : TabOK P T) {ev : Operand → AV} {o : Oper} {K : AV → Option ρ} {r : ρ} (h : pureK T ev o.op K = some r) :
    ∃ v, K v = some r ∧ ∀ (σ : Ren) (re : Operand → Value) (w : World), (∀ x ∈ o.op.operands.toList, R σ (ev x) (re x)) →
      ∃ rv, (execOp re o).run P w = .ok (.value rv) w ∧ R σ v rv := by
  cases ho : o.op <;> rw [ho] at h <;> simp only [pureK] at h <;> try (cases h; done)
  case move x => exact ⟨_, h, fun σ re w hr => ⟨re x, by simp [execOp, ho], hr x (by simp [Op.operands])⟩⟩
  case assign x => exact ⟨_, h, fun σ re w hr => ⟨re x, by simp [execOp, ho], hr x (by simp [Op.operands])⟩⟩
  case pick c a b =>
    split at h
    · rename_i t hc
      cases t
      · refine ⟨_, h, fun σ re w hr => ?_⟩
        have h1 := hr c (by simp [Op.operands])
        rw [hc] at h1
        cases h1' : re c <;> rw [h1'] at h1 <;> cases h1
        exact ⟨re b, by simp [execOp, ho, h1', asBool], hr b (by simp [Op.operands])⟩
      · refine ⟨_, h, fun σ re w hr => ?_⟩
        have h1 := hr c (by simp [Op.operands])
        rw [hc] at h1
        cases h1' : re c <;> rw [h1'] at h1 <;> cases h1
        exact ⟨re a, by simp [execOp, ho, h1', asBool], hr a (by simp [Op.operands])⟩
    · cases h
  case build t parts =>
    split at h
    · cases h
    · rename_i z hz
      split at h
      · rename_i fs hty
        split at h
        · rename_i pl hpl
          split at h
          · rename_i cs hcs
            refine ⟨_, h, fun σ re w hr => ?_⟩
            have k := hT.known (t := t) (by rw [hty]; simp)
            obtain ⟨fa, hfa, hfs⟩ := k.struct hty
            subst hfs
            obtain ⟨zv, hzr, hzR⟩ := k.run_zero (w := w) hz
            have hpr := placesA_sound hT w fa.toList pl hpl
            obtain ⟨ra, hra, hR⟩ := fillA_sound (σ := σ) (ev := ev) (re := re) (placeR := fun i => pl.toArray[i]?) (placeA := nth pl) (fun i p hp => by simpa [nth_eq] using hp)
              parts.toList z zv.cells cs (fun x hx => hr x.2 (by simp only [Op.operands]; simp; exact ⟨x.1, by simpa using hx⟩)) (hzR σ) hcs
            refine ⟨.agg ra, ?_, .agg _ _ hR⟩
            simp only [execOp, ho, Instr.build, Sem.run_bind, hzr, Result.andThen_ok, run_under hfa, Array.mapM_eq_mapM_toList, Sem.run_map, hpr]
            rw [show (Array.map (fun (x : Nat × Operand) => (x.1, re x.2)) parts).toList = parts.toList.map fun x => (x.1, re x.2) from by simp]
            simp only [hra, Sem.run_pure, Result.andThen_ok]
          · cases h
        · cases h
      · rename_i n e hty
        split at h
        · rename_i s hs
          split at h
          · rename_i cs hcs
            refine ⟨_, h, fun σ re w hr => ?_⟩
            have k := hT.known (t := t) (by rw [hty]; simp)
            obtain ⟨ke, hke⟩ := sz_known hT hs
            obtain ⟨zv, hzr, hzR⟩ := k.run_zero (w := w) hz
            obtain ⟨ra, hra, hR⟩ := fillA_sound (σ := σ) (ev := ev) (re := re) (placeR := fun i => some (i * s, s)) (placeA := fun i => some (i * s, s)) (fun i p hp => hp)
              parts.toList z zv.cells cs (fun x hx => hr x.2 (by simp only [Op.operands]; simp; exact ⟨x.1, by simpa using hx⟩)) (hzR σ) hcs
            refine ⟨.agg ra, ?_, .agg _ _ hR⟩
            simp only [execOp, ho, Instr.build, Sem.run_bind, hzr, Result.andThen_ok, run_under (k.arr hty), ke.run_size, hke]
            rw [show (Array.map (fun (x : Nat × Operand) => (x.1, re x.2)) parts).toList = parts.toList.map fun x => (x.1, re x.2) from by simp]
            simp only [hra, Sem.run_pure, Result.andThen_ok]
          · cases h
        · cases h
      · cases h
  case nilCheck x =>
    split at h
    · rename_i id off hx
      refine ⟨_, h, fun σ re w hr => ?_⟩
      have h1 := hr x (by simp [Op.operands])
      rw [hx] at h1
      generalize hv : re x = v at h1
      cases h1 with | ptr _ _ b δ z hs => exact ⟨_, by simp [execOp, ho, hv], .ptr _ _ b δ z hs⟩
    · rename_i f c hx
      refine ⟨_, h, fun σ re w hr => ?_⟩
      have h1 := hr x (by simp [Op.operands])
      rw [hx] at h1
      generalize hv : re x = v at h1
      cases h1 with | fn _ _ arr hs => exact ⟨_, by simp [execOp, ho, hv], .fn _ _ arr hs⟩
    · cases h
  case binOp op t x y yt =>
    obtain ⟨v, hv, hs⟩ := binK_sound hT h
    refine ⟨v, hv, fun σ re w hr => ?_⟩
    obtain ⟨rv, h1, h2⟩ := hs σ x y (re x) (re y) w (hr x (by simp [Op.operands])) (hr y (by simp [Op.operands]))
    refine ⟨rv, ?_, h2⟩
    simp only [execOp, ho]
    rw [Sem.run_bind, h1]; rfl
  case unOp op t x =>
    obtain ⟨v, hv, hs⟩ := unK_sound (P := P) h
    refine ⟨v, hv, fun σ re w hr => ?_⟩
    obtain ⟨rv, h1, h2⟩ := hs σ (re x) w (hr x (by simp [Op.operands]))
    exact ⟨rv, by simp [execOp, ho, h1], h2⟩
  case convert src dst x =>
    split at h
    · rename_i k1 kd hs hd
      obtain ⟨v, hv, hc⟩ := convK_sound h
      refine ⟨v, hv, fun σ re w hr => ?_⟩
      obtain ⟨k, n, h1, h2⟩ := hc σ (re x) (hr x (by simp [Op.operands]))
      have us := (hT.known (t := src) (by rw [hs]; simp)).int hs
      have ud := (hT.known (t := dst) (by rw [hd]; simp)).int hd
      exact ⟨_, by simp [execOp, ho, convert, run_under us, run_under ud, h1, Conv.intToInt], h2⟩
    · cases h
  case fieldAddr t x f =>
    split at h
    · rename_i fs id off hty hx
      split at h
      · rename_i o ft hn
        split at h
        · rename_i s hs
          refine ⟨_, h, fun σ re w hr => ?_⟩
          have h1 := hr x (by simp [Op.operands])
          rw [hx] at h1
          generalize hv : re x = v at h1
          cases h1 with | ptr _ _ b δ z hσ =>
          have k := hT.known (t := t) (by rw [hty]; simp)
          obtain ⟨fa, hfa, hfs⟩ := k.struct hty
          subst hfs
          rw [nth_eq, List.getElem?_map] at hn
          cases hg : fa.toList[f]? with
          | none => simp [hg] at hn
          | some g =>
            simp only [hg, Option.map_some, Option.some.injEq, Prod.mk.injEq] at hn
            obtain ⟨rfl, rfl⟩ := hn
            have hg' : fa[f]? = some g := by simpa using hg
            obtain ⟨kf, hkf⟩ := sz_known hT hs
            refine ⟨.pointer (some ⟨b, δ + (off + g.offset), none⟩), ?_, .ptr _ _ b δ z hσ⟩
            simp only [execOp, ho, hv, Instr.fieldAt, Instr.sureAddr, Sem.run_bind, run_under hfa, Result.andThen_ok, hg', Sem.run_pure, fieldPlace, kf.run_size, hkf, add_addr]
            simp [Nat.add_assoc]
        · cases h
      · cases h
    · cases h
  case field t x f =>
    split at h
    · rename_i fs cs hty hx
      split at h
      · rename_i o ft hn
        split at h
        · rename_i v hp
          refine ⟨_, h, fun σ re w hr => ?_⟩
          have h1 := hr x (by simp [Op.operands])
          rw [hx] at h1
          generalize hv : re x = vx at h1
          cases h1 with | agg _ arr hR =>
          have k := hT.known (t := t) (by rw [hty]; simp)
          obtain ⟨fa, hfa, hfs⟩ := k.struct hty
          subst hfs
          rw [nth_eq, List.getElem?_map] at hn
          cases hg : fa.toList[f]? with
          | none => simp [hg] at hn
          | some g =>
            simp only [hg, Option.map_some, Option.some.injEq, Prod.mk.injEq] at hn
            obtain ⟨rfl, rfl⟩ := hn
            have hg' : fa[f]? = some g := by simpa using hg
            obtain ⟨rv, h2, h3⟩ := partA_sound hT hp hR w
            exact ⟨rv, by simp [execOp, ho, hv, Instr.field, run_under hfa, hg', asAgg, h2], h3⟩
        · cases h
      · cases h
    · cases h
  case indexAddr t x i =>
    split at h
    · rename_i n e id off hty hx
      split at h
      · rename_i s hs
        obtain ⟨m, hm, hk, hi⟩ := idxK_sound h
        refine ⟨_, hk, fun σ re w hr => ?_⟩
        have h1 := hr x (by simp [Op.operands])
        rw [hx] at h1
        generalize hv : re x = v at h1
        cases h1 with | ptr _ _ b δ z hσ =>
        obtain ⟨ki, hki⟩ := hi σ (re i) (hr i (by simp [Op.operands]))
        have k := hT.known (t := t) (by rw [hty]; simp)
        obtain ⟨ke, hke⟩ := sz_known hT hs
        have ua := k.arr hty
        refine ⟨.pointer (some ⟨b, δ + (off + m * s), none⟩), ?_, .ptr _ _ b δ z hσ⟩
        have hm' : (m : Int) < (n : Int) := by omega
        simp only [execOp, ho, hv, hki, Instr.indexAt, Instr.sureAddr, asIntOf, Sem.run_bind, run_under ua, Result.andThen_ok, Sem.run_pure]
        simp [hm', ke.run_size, hke, add_addr, Nat.add_assoc]
      · cases h
    · rename_i e id off len ap hty hx
      split at h
      · rename_i s hs
        obtain ⟨m, hm, hk, hi⟩ := idxK_sound h
        refine ⟨_, hk, fun σ re w hr => ?_⟩
        have h1 := hr x (by simp [Op.operands])
        rw [hx] at h1
        generalize hv : re x = v at h1
        cases h1 with
        | slic0 => omega
        | slice _ _ _ _ cap b δ z hσ hcap hc63 hz =>
          obtain ⟨ki, hki⟩ := hi σ (re i) (hr i (by simp [Op.operands]))
          have k := hT.known (t := t) (by rw [hty]; simp)
          obtain ⟨ke, hke⟩ := sz_known hT hs
          have ua := k.slice hty
          refine ⟨.pointer (some ⟨b, δ + (off + m * s), none⟩), ?_, .ptr _ _ b δ z hσ⟩
          have hm' : (m : Int) < (len : Int) := by omega
          simp only [execOp, ho, hv, hki, Instr.indexAt, asIntOf, Sem.run_bind, run_under ua, Result.andThen_ok, Sem.run_pure]
          simp [hm', ke.run_size, hke, add_addr, Nat.add_assoc]
      · cases h
    · cases h
  case index t x i =>
    split at h
    · rename_i n e cs hty hx
      split at h
      · rename_i s hs
        obtain ⟨m, hm, hk, hi⟩ := idxK_sound h
        split at hk
        · rename_i v hp
          refine ⟨_, hk, fun σ re w hr => ?_⟩
          have h1 := hr x (by simp [Op.operands])
          rw [hx] at h1
          generalize hv : re x = vx at h1
          cases h1 with | agg _ arr hR =>
          obtain ⟨ki, hki⟩ := hi σ (re i) (hr i (by simp [Op.operands]))
          have k := hT.known (t := t) (by rw [hty]; simp)
          obtain ⟨ke, hke⟩ := sz_known hT hs
          have ua := k.arr hty
          obtain ⟨rv, h2, h3⟩ := partA_sound hT hp hR w
          have hm' : (m : Int) < (n : Int) := by omega
          refine ⟨rv, ?_, h3⟩
          simp only [execOp, ho, hv, hki, Instr.index, asIntOf, Sem.run_bind, run_under ua, Result.andThen_ok, Sem.run_pure]
          simp [hm', ke.run_size, hke, h2]
        · cases hk
      · cases h
    · rename_i s hty hx
      obtain ⟨m, hm, hk, hi⟩ := idxK_sound h
      split at hk
      · rename_i b hb
        refine ⟨_, hk, fun σ re w hr => ?_⟩
        have h1 := hr x (by simp [Op.operands])
        rw [hx] at h1
        generalize hv : re x = vx at h1
        cases h1 with | str _ =>
        obtain ⟨ki, hki⟩ := hi σ (re i) (hr i (by simp [Op.operands]))
        have k := hT.known (t := t) (by rw [hty]; simp)
        have ua := k.str hty
        refine ⟨.int .u8 (b.toNat : Int), ?_, .u _ _ rfl (by simpa [IntKind.bits] using b.toNat_lt)⟩
        simp only [execOp, ho, hv, hki, Instr.index, asIntOf, Sem.run_bind, run_under ua, Result.andThen_ok, Sem.run_pure]
        simp [hb]
      · cases hk
    · cases h
  case extract x i =>
    split at h
    · rename_i vs hx
      split at h
      · rename_i v hn
        refine ⟨_, h, fun σ re w hr => ?_⟩
        have h1 := hr x (by simp [Op.operands])
        rw [hx] at h1
        generalize hv : re x = vx at h1
        cases h1 with | tup _ arr hR =>
        rw [nth_eq] at hn
        obtain ⟨rv, h2, h3⟩ := hR.get hn
        have h2' : arr[i]? = some rv := by simpa using h2
        exact ⟨rv, by simp [execOp, ho, hv, Instr.extract, h2'], h3⟩
      · cases h
    · cases h
  case slice t x lo hi mx =>
    cases mx with
    | none =>
      have hops : ∀ {σ : Ren} {re : Operand → Value}, (∀ x ∈ o.op.operands.toList, R σ (ev x) (re x)) → R σ (ev x) (re x) ∧ (∀ y, lo = some y → R σ (ev y) (re y)) ∧ (∀ y, hi = some y → R σ (ev y) (re y)) := by
        intro σ re hr
        rw [ho] at hr
        refine ⟨hr x (by simp [Op.operands]), fun y hy => hr y ?_, fun y hy => hr y ?_⟩
        · subst hy; simp [Op.operands]
        · subst hy; simp [Op.operands]
      rw [ho] at hops
      simp only at h
      split at h
      · rename_i n e id off hty hx
        split at h
        · rename_i s hs
          obtain ⟨hn, h⟩ := bif_some h
          have hn := of_decide_eq_true hn
          obtain ⟨hh, h, c1⟩ := bndK_sound h
          obtain ⟨ll, h, c2⟩ := bndK_sound h
          refine ⟨_, h, fun σ re w hr => ?_⟩
          obtain ⟨h1, h2, h3⟩ := hops hr
          rw [hx] at h1
          generalize hv : re x = v at h1
          cases h1 with | ptr _ _ b δ z hσ =>
          obtain ⟨ke, hke⟩ := sz_known hT hs
          have ua := (hT.known (t := t) (by rw [hty]; simp)).arr hty
          obtain ⟨r1, r2, r3⟩ := run_bounds (P := P) h2 h3 (Nat.le_refl n) false c1 c2 w
          refine ⟨_, ?_, slice_val (m := n) hσ r2 r3 hn (by simp)⟩
          simp only [execOp, ho, hv, Instr.sliceAt, Sem.run_bind, run_under ua, Result.andThen_ok, Instr.sureAddr, Sem.run_pure, Option.map_none, r1, ke.run_size, hke]
        · cases h
      · rename_i e id off len ap hty hx
        split at h
        · rename_i s hs
          obtain ⟨hh, h, c1⟩ := bndK_sound h
          obtain ⟨ll, h, c2⟩ := bndK_sound h
          refine ⟨_, h, fun σ re w hr => ?_⟩
          obtain ⟨h1, h2, h3⟩ := hops hr
          rw [hx] at h1
          generalize hv : re x = v at h1
          obtain ⟨ke, hke⟩ := sz_known hT hs
          have ua := (hT.known (t := t) (by rw [hty]; simp)).slice hty
          cases h1 with
          | slice _ _ _ _ cap b δ z hσ hcap hc63 hz =>
            obtain ⟨r1, r2, r3⟩ := run_bounds (P := P) h2 h3 hcap true c1 c2 w
            refine ⟨_, ?_, slice_val (m := cap) hσ r2 (Nat.le_trans r3 hcap) hc63 (fun h => by simp only [Bool.and_eq_true] at h; have := hz h.1; have := Nat.eq_of_beq_eq_true h.2; subst this; omega)⟩
            simp only [execOp, ho, hv, Instr.sliceAt, Instr.slice, Sem.run_bind, run_under ua, Result.andThen_ok, Sem.run_pure, Option.map_none, r1, ke.run_size, hke]
            congr 3
            split <;> simp
          | slic0 _ _ _ a =>
            obtain ⟨r1, r2, r3⟩ := run_bounds (P := P) h2 h3 (Nat.le_refl 0) true c1 c2 w
            have e1 : hh = 0 := by omega
            have e2 : ll = 0 := by omega
            subst e1; subst e2
            refine ⟨.slice (if 0 = 0 then a else a.map (·.add (0 * s))) (0 - 0) (0 - 0), ?_, .slic0 _ _ _ _⟩
            simp only [execOp, ho, hv, Instr.sliceAt, Instr.slice, Sem.run_bind, run_under ua, Result.andThen_ok, Sem.run_pure, Option.map_none, r1, ke.run_size, hke]
        · cases h
      · rename_i e hty hx
        split at h
        case h_2 => cases h
        rename_i s hs
        obtain ⟨hh, h, c1⟩ := bndK_sound h
        obtain ⟨ll, h, c2⟩ := bndK_sound h
        refine ⟨_, h, fun σ re w hr => ?_⟩
        obtain ⟨h1, h2, h3⟩ := hops hr
        rw [hx] at h1
        generalize hv : re x = v at h1
        obtain ⟨ke, hke⟩ := sz_known hT hs
        cases h1 with | nils =>
        have ua := (hT.known (t := t) (by rw [hty]; simp)).slice hty
        obtain ⟨r1, r2, r3⟩ := run_bounds (P := P) h2 h3 (Nat.le_refl 0) true c1 c2 w
        have e1 : hh = 0 := by omega
        have e2 : ll = 0 := by omega
        subst e1; subst e2
        refine ⟨.slice none 0 0, ?_, .nils⟩
        simp only [execOp, ho, hv, Instr.sliceAt, Instr.slice, Sem.run_bind, run_under ua, Result.andThen_ok, Sem.run_pure, Option.map_none, r1, ke.run_size, hke]
        simp
      · rename_i s hty hx
        obtain ⟨hh, h, c1⟩ := bndK_sound h
        obtain ⟨ll, h, c2⟩ := bndK_sound h
        refine ⟨_, h, fun σ re w hr => ?_⟩
        obtain ⟨h1, h2, h3⟩ := hops hr
        rw [hx] at h1
        generalize hv : re x = v at h1
        cases h1 with | str _ =>
        have ua := (hT.known (t := t) (by rw [hty]; simp)).str hty
        obtain ⟨r1, r2, r3⟩ := run_bounds (P := P) h2 h3 (Nat.le_refl s.size) false c1 c2 w
        refine ⟨_, ?_, .str _⟩
        simp only [execOp, ho, hv, Instr.sliceAt, Instr.slice, Sem.run_bind, run_under ua, Result.andThen_ok, Sem.run_pure, Option.map_none, Option.isSome_none, Bool.false_eq_true, if_false, r1]
      · cases h
    | some mx =>
      have hops : ∀ {σ : Ren} {re : Operand → Value}, (∀ x ∈ o.op.operands.toList, R σ (ev x) (re x)) → R σ (ev x) (re x) ∧ (∀ y, lo = some y → R σ (ev y) (re y)) ∧ (∀ y, hi = some y → R σ (ev y) (re y)) ∧ R σ (ev mx) (re mx) := by
        intro σ re hr
        rw [ho] at hr
        refine ⟨hr x (by simp [Op.operands]), fun y hy => hr y ?_, fun y hy => hr y ?_, hr mx (by simp [Op.operands])⟩
        · subst hy; simp [Op.operands]
        · subst hy; simp [Op.operands]
      rw [ho] at hops
      simp only at h
      split at h
      · rename_i n e id off hty hx
        split at h
        · rename_i s hs
          obtain ⟨hn, h⟩ := bif_some h
          simp only [Bool.and_eq_true] at hn
          have hn1 := of_decide_eq_true hn.1
          cases hi with
          | none => simp at hn
          | some hi =>
          obtain ⟨mm, h, c0⟩ := bndK_sound h
          obtain ⟨hh, h, c1⟩ := bndK_sound h
          obtain ⟨ll, h, c2⟩ := bndK_sound h
          refine ⟨_, h, fun σ re w hr => ?_⟩
          obtain ⟨h1, h2, h3, h4⟩ := hops hr
          rw [hx] at h1
          generalize hv : re x = v at h1
          cases h1 with | ptr _ _ b δ z hσ =>
          obtain ⟨ke, hke⟩ := sz_known hT hs
          have ua := (hT.known (t := t) (by rw [hty]; simp)).arr hty
          have c0' : mm ≤ n ∧ ∀ (σ : Ren) (v : Value), R σ (ev mx) v → ∃ k, v = .int k (mm : Int) := by
            rcases c0 with ⟨h, _⟩ | ⟨a, h, hle, hf⟩
            · simp at h
            · simp at h; subst h; exact ⟨hle, hf⟩
          have c1' : hh ≤ mm ∧ ∀ (σ : Ren) (v : Value), R σ (ev hi) v → ∃ k, v = .int k (hh : Int) := by
            rcases c1 with ⟨h, _⟩ | ⟨a, h, hle, hf⟩
            · simp at h
            · simp at h; subst h; exact ⟨hle, hf⟩
          obtain ⟨r1, r2⟩ := run_bounds3 (P := P) h2 (h3 hi rfl) h4 (Nat.le_refl n) false c0' c1' c2 w
          refine ⟨_, ?_, slice_val (m := mm) hσ r2 c1'.1 (by omega) (by simp)⟩
          simp only [execOp, ho, hv, Instr.sliceAt, Sem.run_bind, run_under ua, Result.andThen_ok, Instr.sureAddr, Sem.run_pure, Option.map_some, r1, ke.run_size, hke]
        · cases h
      · rename_i e id off len ap hty hx
        split at h
        · rename_i s hs
          obtain ⟨hn, h⟩ := bif_some h
          cases hi with
          | none => simp at hn
          | some hi =>
          obtain ⟨mm, h, c0⟩ := bndK_sound h
          obtain ⟨hh, h, c1⟩ := bndK_sound h
          obtain ⟨ll, h, c2⟩ := bndK_sound h
          refine ⟨_, h, fun σ re w hr => ?_⟩
          obtain ⟨h1, h2, h3, h4⟩ := hops hr
          rw [hx] at h1
          generalize hv : re x = v at h1
          obtain ⟨ke, hke⟩ := sz_known hT hs
          have ua := (hT.known (t := t) (by rw [hty]; simp)).slice hty
          have c0' : mm ≤ len ∧ ∀ (σ : Ren) (v : Value), R σ (ev mx) v → ∃ k, v = .int k (mm : Int) := by
            rcases c0 with ⟨h, _⟩ | ⟨a, h, hle, hf⟩
            · simp at h
            · simp at h; subst h; exact ⟨hle, hf⟩
          have c1' : hh ≤ mm ∧ ∀ (σ : Ren) (v : Value), R σ (ev hi) v → ∃ k, v = .int k (hh : Int) := by
            rcases c1 with ⟨h, _⟩ | ⟨a, h, hle, hf⟩
            · simp at h
            · simp at h; subst h; exact ⟨hle, hf⟩
          cases h1 with
          | slice _ _ _ _ cap b δ z hσ hcap hc63 hz =>
            obtain ⟨r1, r2⟩ := run_bounds3 (P := P) h2 (h3 hi rfl) h4 hcap true c0' c1' c2 w
            refine ⟨_, ?_, slice_val (m := mm) hσ r2 c1'.1 (by omega) (fun h => by simp only [Bool.and_eq_true] at h; have := hz h.1; have := Nat.eq_of_beq_eq_true h.2; subst this; omega)⟩
            simp only [execOp, ho, hv, Instr.sliceAt, Instr.slice, Sem.run_bind, run_under ua, Result.andThen_ok, Sem.run_pure, Option.map_some, r1, ke.run_size, hke]
            congr 3
            split <;> simp
          | slic0 _ _ _ a =>
            obtain ⟨r1, r2⟩ := run_bounds3 (P := P) h2 (h3 hi rfl) h4 (Nat.le_refl 0) true c0' c1' c2 w
            have e1 : hh = 0 := by omega
            have e2 : ll = 0 := by omega
            have e3 : mm = 0 := by omega
            subst e1; subst e2; subst e3
            refine ⟨.slice (if 0 = 0 then a else a.map (·.add (0 * s))) (0 - 0) (0 - 0), ?_, .slic0 _ _ _ _⟩
            simp only [execOp, ho, hv, Instr.sliceAt, Instr.slice, Sem.run_bind, run_under ua, Result.andThen_ok, Sem.run_pure, Option.map_some, r1, ke.run_size, hke]
        · cases h
      · cases h
  case makeFunc fn first caps =>
    cases fn <;> simp only at h <;> try (cases h; done)
    rename_i f
    obtain ⟨hc, hk⟩ := bif_some h
    refine ⟨_, hk, fun σ re w hr => ?_⟩
    have hfirst : first = #[] := by
      have : first.toList = [] := by simpa using hc
      exact Array.ext' (by simpa using this)
    refine ⟨.func (.func f) #[] (caps.map re), by simp [execOp, ho, Instr.makeFunc, hfirst], .fn _ _ _ ?_⟩
    have hall : ∀ x ∈ caps.toList, R σ (ev x) (re x) := fun x hx => hr x (by simp [Op.operands]; right; simpa using hx)
    rw [Array.toList_map]
    generalize caps.toList = l at hall
    induction l with
    | nil => exact .nil
    | cons y l ih => exact .cons _ _ _ _ (hall y (by simp)) (ih fun x hx => hall x (by simp [hx]))
  case sliceToArrayPointer t x =>
    split at h
    · rename_i n e id off len _ hty hx
      obtain ⟨hc, hk⟩ := bif_some h
      have hc' := of_decide_eq_true hc
      refine ⟨_, hk, fun σ re w hr => ?_⟩
      have h1 := hr x (by simp [Op.operands])
      rw [hx] at h1
      generalize hv : re x = v at h1
      cases h1 with
      | slic0 => omega
      | slice _ _ _ _ cap b δ z hσ hcap hc63 hz =>
        have k := hT.known (t := t) (by rw [hty]; simp)
        have ua := k.arr hty
        refine ⟨_, ?_, .ptr _ _ b δ z hσ⟩
        simp [execOp, ho, hv, Instr.arrayAt, run_under ua, Nat.not_lt.2 hc'.2]
    · cases h

end Pw
