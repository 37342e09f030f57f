/- A part of the proof: PwEvA. -/
import Derived.WalkKit
namespace Pw
open Go

/-- Abstract values: what the evaluator computes with. -/
inductive AV where
  | bool (b : Bool)
  | u (k : IntKind) (n : Nat)
  | n (i : Int)
  | str (s : ByteArray)
  | ptr (id off : Nat)
  | nilp
  | slice (id off len : Nat) (ap : Bool)
  | nils
  | fn (f : FuncId) (caps : List AV)
  | agg (cs : List AV)
  | tup (vs : List AV)
  | unk
  deriving Inhabited

/-- where the evaluator's blocks lie: the block, the cell at which it begins there, how many cells there are from there on -/
abbrev Ren := Nat → Option (Nat × Nat × Nat)

mutual
inductive R (σ : Ren) : AV → Value → Prop
  | bool (b : Bool) : R σ (.bool b) (.bool b)
  | u (k : IntKind) (n : Nat) : k.signed = false → n < 2 ^ k.bits → R σ (.u k n) (.int k (n : Int))
  | n (i : Int) : -9223372036854775808 ≤ i → i < 9223372036854775808 → R σ (.n i) (.int .i64 i)
  | str (s : ByteArray) : R σ (.str s) (.string s)
  | ptr (id off b δ s : Nat) : σ id = some (b, δ, s) → R σ (.ptr id off) (.pointer (some ⟨b, δ + off, none⟩))
  | nilp : R σ .nilp (.pointer none)
  | slice (id off len : Nat) (ap : Bool) (cap b δ s : Nat) : σ id = some (b, δ, s) → len ≤ cap → cap < 9223372036854775808 → (ap = true → off + cap ≤ s) → R σ (.slice id off len ap) (.slice (some ⟨b, δ + off, none⟩) len cap)
  | slic0 (id off : Nat) (ap : Bool) (a : Option Addr) : R σ (.slice id off 0 ap) (.slice a 0 0)
  | nils : R σ .nils (.slice none 0 0)
  | fn (f : FuncId) (caps : List AV) (arr : Array Value) : RL σ caps arr.toList → R σ (.fn f caps) (.func (.func f) #[] arr)
  | agg (cs : List AV) (arr : Array Value) : RL σ cs arr.toList → R σ (.agg cs) (.agg arr)
  | tup (cs : List AV) (arr : Array Value) : RL σ cs arr.toList → R σ (.tup cs) (.tuple arr)
  | unk (v : Value) : R σ .unk v
inductive RL (σ : Ren) : List AV → List Value → Prop
  | nil : RL σ [] []
  | cons (a : AV) (v : Value) (l : List AV) (m : List Value) : R σ a v → RL σ l m → RL σ (a :: l) (v :: m)
end

def AV.scalar : AV → Bool
  | .agg _ | .tup _ | .unk => false
  | _ => true

theorem R.oneCell {σ : Ren} {a : AV} {v : Value} (h : R σ a v) (hs : a.scalar = true) : v.oneCell' = true := by
  cases h <;> simp_all [AV.scalar, Value.oneCell']

def Ext (σ σ' : Ren) : Prop := ∀ i p, σ i = some p → σ' i = some p
theorem Ext.refl (σ : Ren) : Ext σ σ := fun _ _ h => h
theorem Ext.trans {a b c : Ren} (h : Ext a b) (k : Ext b c) : Ext a c := fun i p hp => k i p (h i p hp)

mutual
theorem R.ext {σ σ' : Ren} (h : Ext σ σ') : {a : AV} → {v : Value} → R σ a v → R σ' a v
  | _, _, .bool b => .bool b
  | _, _, .u k n a b => .u k n a b
  | _, _, .n i a b => .n i a b
  | _, _, .str s => .str s
  | _, _, .ptr id off b δ s e => .ptr id off b δ s (h _ _ e)
  | _, _, .nilp => .nilp
  | _, _, .slice id off len ap cap b δ s e l c d => .slice id off len ap cap b δ s (h _ _ e) l c d
  | _, _, .slic0 id off ap a => .slic0 id off ap a
  | _, _, .nils => .nils
  | _, _, .fn f caps arr l => .fn f caps arr (RL.ext h l)
  | _, _, .agg cs arr l => .agg cs arr (RL.ext h l)
  | _, _, .tup cs arr l => .tup cs arr (RL.ext h l)
  | _, _, .unk v => .unk v
theorem RL.ext {σ σ' : Ren} (h : Ext σ σ') : {l : List AV} → {m : List Value} → RL σ l m → RL σ' l m
  | _, _, .nil => .nil
  | _, _, .cons a v l m x y => .cons a v l m (R.ext h x) (RL.ext h y)
end

/-- a value that names no block -/
def AV.closed : AV → Bool
  | .bool _ | .u .. | .n _ | .str _ | .nilp | .nils => true
  | .agg cs | .tup cs => all cs
  | _ => false
where all : List AV → Bool
  | [] => true
  | a :: l => match a.closed with | true => all l | false => false

mutual
theorem R.closed' {σ σ' : Ren} : {a : AV} → {v : Value} → R σ a v → a.closed = true → R σ' a v
  | _, _, .bool b, _ => .bool b
  | _, _, .u k n a b, _ => .u k n a b
  | _, _, .n i a b, _ => .n i a b
  | _, _, .str s, _ => .str s
  | _, _, .nilp, _ => .nilp
  | _, _, .nils, _ => .nils
  | _, _, .agg cs arr l, hc => .agg cs arr (RL.closed' l (by simpa [AV.closed] using hc))
  | _, _, .tup cs arr l, hc => .tup cs arr (RL.closed' l (by simpa [AV.closed] using hc))
  | _, _, .ptr .., hc => by simp [AV.closed] at hc
  | _, _, .slice .., hc => by simp [AV.closed] at hc
  | _, _, .slic0 .., hc => by simp [AV.closed] at hc
  | _, _, .fn .., hc => by simp [AV.closed] at hc
  | _, _, .unk v, hc => by simp [AV.closed] at hc
theorem RL.closed' {σ σ' : Ren} : {l : List AV} → {m : List Value} → RL σ l m → AV.closed.all l = true → RL σ' l m
  | _, _, .nil, _ => .nil
  | _, _, .cons a v l m x y, hc =>
    have h2 : a.closed = true ∧ AV.closed.all l = true := by
      unfold AV.closed.all at hc; split at hc <;> simp_all
    .cons a v l m (R.closed' x h2.1) (RL.closed' y h2.2)
end
theorem R.closed {σ σ' : Ren} {a : AV} {v : Value} (hc : a.closed = true) (h : R σ a v) : R σ' a v := h.closed' hc
theorem RL.closed {σ σ' : Ren} {l : List AV} {m : List Value} (hc : AV.closed.all l = true) (h : RL σ l m) : RL σ' l m := h.closed' hc

theorem RL.length {σ : Ren} {l : List AV} {m : List Value} (h : RL σ l m) : l.length = m.length := by
  induction l generalizing m with
  | nil => cases h; rfl
  | cons a l ih => cases h with | cons _ _ _ m' _ h2 => simp [ih h2]

theorem RL.get {σ : Ren} {l : List AV} {m : List Value} (h : RL σ l m) {i : Nat} {a : AV} (ha : l[i]? = some a) : ∃ v, m[i]? = some v ∧ R σ a v := by
  induction l generalizing m i with
  | nil => simp at ha
  | cons x l ih =>
    cases h with
    | cons _ v _ m' hx h2 =>
      cases i with
      | zero => simp at ha; subst ha; exact ⟨v, rfl, hx⟩
      | succ i => simp at ha; obtain ⟨v', h3, h4⟩ := ih h2 ha; exact ⟨v', by simpa using h3, h4⟩

theorem RL.append {σ : Ren} {l l' : List AV} {m m' : List Value} (h : RL σ l m) (h' : RL σ l' m') : RL σ (l ++ l') (m ++ m') := by
  induction l generalizing m with
  | nil => cases h; simpa using h'
  | cons x l ih => cases h with | cons _ v _ m1 hx h2 => exact .cons _ _ _ _ hx (ih h2)

theorem RL.take {σ : Ren} {l : List AV} {m : List Value} (h : RL σ l m) (k : Nat) : RL σ (l.take k) (m.take k) := by
  induction l generalizing m k with
  | nil => cases h; simpa using RL.nil
  | cons x l ih =>
    cases h with
    | cons _ v _ m1 hx h2 =>
      cases k with
      | zero => simpa using RL.nil
      | succ k => simpa using RL.cons _ _ _ _ hx (ih h2 k)

theorem RL.drop {σ : Ren} {l : List AV} {m : List Value} (h : RL σ l m) (k : Nat) : RL σ (l.drop k) (m.drop k) := by
  induction l generalizing m k with
  | nil => cases h; simpa using RL.nil
  | cons x l ih =>
    cases h with
    | cons _ v _ m1 hx h2 =>
      cases k with
      | zero => simpa using RL.cons _ _ _ _ hx h2
      | succ k => simpa using ih h2 k

theorem RL.of_get {σ : Ren} : ∀ {l : List AV} {m : List Value}, l.length = m.length → (∀ (i : Nat) (a : AV) (v : Value), l[i]? = some a → m[i]? = some v → R σ a v) → RL σ l m
  | [], [], _, _ => .nil
  | [], _ :: _, h, _ => by simp at h
  | _ :: _, [], h, _ => by simp at h
  | a :: l, v :: m, h, hr => .cons _ _ _ _ (hr 0 a v rfl rfl) (RL.of_get (by simpa using h) fun i a' v' h1 h2 => hr (i + 1) a' v' (by simpa using h1) (by simpa using h2))

/-! ### constants -/

def ofVal : Value → AV
  | .bool b => .bool b
  | .int k i => match k with
    | .i64 => bif decide (-9223372036854775808 ≤ i ∧ i < 9223372036854775808) then .n i else .unk
    | .u8 | .u16 | .u32 | .u64 => bif decide (0 ≤ i ∧ i.toNat < 2 ^ k.bits) then .u k i.toNat else .unk
    | _ => .unk
  | .string s => .str s
  | .pointer none => .nilp
  | .slice none 0 0 => .nils
  | _ => .unk

theorem ofVal_R (σ : Ren) (v : Value) : R σ (ofVal v) v := by
  cases v with
  | int k i =>
    have key : ∀ k : IntKind, k.signed = false → R σ (bif decide (0 ≤ i ∧ i.toNat < 2 ^ k.bits) then .u k i.toNat else .unk) (.int k i) := by
      intro k hk
      by_cases h : 0 ≤ i ∧ i.toNat < 2 ^ k.bits
      · rw [decide_eq_true h]
        have := R.u (σ := σ) k i.toNat hk h.2
        rwa [Int.toNat_of_nonneg h.1] at this
      · rw [decide_eq_false h]; exact .unk _
    cases k <;> first
      | exact key _ rfl
      | (simp only [ofVal]
         by_cases h : -9223372036854775808 ≤ i ∧ i < 9223372036854775808
         · rw [decide_eq_true h]; exact .n _ h.1 h.2
         · rw [decide_eq_false h]; exact .unk _)
      | exact .unk _
  | bool b => exact .bool b
  | string s => exact .str s
  | pointer a => cases a with | none => exact .nilp | some a => exact .unk _
  | slice a l c =>
    unfold ofVal
    split <;> first | exact .unk _ | skip
    all_goals first | (rename_i h; cases h; exact .nils) | simp_all
  | _ => exact .unk _

end Pw
