/- A part of the proof, for all claims alike: PwNum, PwNumV, PwNumW, PwNumX, PwNumY. -/
import Derived.Test.YtmhbhpmfbalbeaaPwMe
import Derived.Test.YtmhbhpmfbalbeaaPwMg
import Derived.Test.YtmhbhpmfbalbeaaPwMf
namespace Pw
open Go

/-! ### numbers modulo the order, of the program: four words -/

def addL (x y : L4) : L4 := ⟨ac x.a y.a 0, ac x.b y.b (addC0 x y), ac x.c y.c (addC1 x y), ac x.d y.d (addC2 x y)⟩
def addLc (x y : L4) : Nat := cc x.d y.d (addC2 x y)
def ordL : L4 := ⟨6346243789798364141, 1503914060200516822, 0, 1152921504606846976⟩
def rncV (p : L4 × Nat) : AV := .tup [rnumV p.1, .u .u64 p.2]
/-- a branch whose head is not 'cond': the kernel compares no conditions by mistake -/
noncomputable def brn {α : Type} (c : Bool) (t f : α) : α := @Bool.rec (fun _ => α) f t c
theorem brn_eq {α : Type} (c : Bool) (t f : α) : brn c t f = bif c then t else f := by cases c <;> rfl
def u2V (p : Nat × Nat) : AV := .tup [.u .u64 p.1, .u .u64 p.2]
def isZ (x : L4) : Bool := decide (x.a = 0) && (decide (x.b = 0) && (decide (x.c = 0) && (decide (x.d = 0) && true)))
def wholeL (k : K32) : L4 := ⟨((((((((0 ||| shl64 k.b0 0) ||| shl64 k.b1 8) ||| shl64 k.b2 16) ||| shl64 k.b3 24) ||| shl64 k.b4 32) ||| shl64 k.b5 40) ||| shl64 k.b6 48) ||| shl64 k.b7 56), ((((((((0 ||| shl64 k.b8 0) ||| shl64 k.b9 8) ||| shl64 k.b10 16) ||| shl64 k.b11 24) ||| shl64 k.b12 32) ||| shl64 k.b13 40) ||| shl64 k.b14 48) ||| shl64 k.b15 56), ((((((((0 ||| shl64 k.b16 0) ||| shl64 k.b17 8) ||| shl64 k.b18 16) ||| shl64 k.b19 24) ||| shl64 k.b20 32) ||| shl64 k.b21 40) ||| shl64 k.b22 48) ||| shl64 k.b23 56), ((((((((0 ||| shl64 k.b24 0) ||| shl64 k.b25 8) ||| shl64 k.b26 16) ||| shl64 k.b27 24) ||| shl64 k.b28 32) ||| shl64 k.b29 40) ||| shl64 k.b30 48) ||| shl64 k.b31 56)⟩
def zeroL : L4 := ⟨0, 0, 0, 0⟩
def lowL : Nat := 6346243789798364141
def midL : Nat := 1503914060200516822
/-- eight bits more -/
def shiftL (x : L4) (c : Nat) : L4 := ⟨shl64 x.a 8 ||| c, shl64 x.b 8 ||| x.a / 2 ^ 56, shl64 x.c 8 ||| x.b / 2 ^ 56, (shl64 x.d 8 ||| x.c / 2 ^ 56) &&& 1152921504606846975⟩
def stepQ (x : L4) : Nat := x.d / 2 ^ 52

/-! ### numbers modulo the order, of the document: sixteen digits -/

def d16V (l : List Nat) : AV := arrV .u32 16 l
def d16? (v : AV) : Option (List Nat) := arr? .u32 16 v
theorem d16?_some {v : AV} {l : List Nat} (h : d16? v = some l) : v = d16V l := (arr?_some h).1
def ordD : List Nat := [54253, 23797, 25370, 22546, 40150, 41719, 63966, 5342, 0, 0, 0, 0, 0, 0, 0, 4096]
def oneD : List Nat := [1, 0, 0, 0, 0, 0, 0, 0, 0, 0, 0, 0, 0, 0, 0, 0]
def zeroD : List Nat := [0, 0, 0, 0, 0, 0, 0, 0, 0, 0, 0, 0, 0, 0, 0, 0]
def add32 (x y : Nat) : Nat := (x + y) % 2 ^ 32
def sub32 (x y : Nat) : Nat := (x + (2 ^ 32 - y)) % 2 ^ 32
/-- is a below b, looked at from digit i downwards -/
def ltD (a b : List Nat) : Nat → Bool
  | 0 => false
  | i + 1 => bif decide (a.getD i 0 = b.getD i 0) then ltD a b i else decide (a.getD i 0 < b.getD i 0)
def isZU (a : List Nat) (n : Nat) : Nat → Bool
  | 0 => true
  | i + 1 => decide (a.getD (n - (i + 1)) 0 = 0) && isZU a n i
/-- a digit taken off a digit, with what was lent -/
def taD (x l b : Nat) : Nat := sub32 (sub32 (add32 x 65536) l) b
def lnD1 (a b : List Nat) : Nat := sub32 1 (taD (a.getD 0 0) (b.getD 0 0) 0 / 65536)
def lnD2 (a b : List Nat) : Nat := sub32 1 (taD (a.getD 1 0) (b.getD 1 0) (lnD1 a b) / 65536)
def lnD3 (a b : List Nat) : Nat := sub32 1 (taD (a.getD 2 0) (b.getD 2 0) (lnD2 a b) / 65536)
def lnD4 (a b : List Nat) : Nat := sub32 1 (taD (a.getD 3 0) (b.getD 3 0) (lnD3 a b) / 65536)
def lnD5 (a b : List Nat) : Nat := sub32 1 (taD (a.getD 4 0) (b.getD 4 0) (lnD4 a b) / 65536)
def lnD6 (a b : List Nat) : Nat := sub32 1 (taD (a.getD 5 0) (b.getD 5 0) (lnD5 a b) / 65536)
def lnD7 (a b : List Nat) : Nat := sub32 1 (taD (a.getD 6 0) (b.getD 6 0) (lnD6 a b) / 65536)
def lnD8 (a b : List Nat) : Nat := sub32 1 (taD (a.getD 7 0) (b.getD 7 0) (lnD7 a b) / 65536)
def lnD9 (a b : List Nat) : Nat := sub32 1 (taD (a.getD 8 0) (b.getD 8 0) (lnD8 a b) / 65536)
def lnD10 (a b : List Nat) : Nat := sub32 1 (taD (a.getD 9 0) (b.getD 9 0) (lnD9 a b) / 65536)
def lnD11 (a b : List Nat) : Nat := sub32 1 (taD (a.getD 10 0) (b.getD 10 0) (lnD10 a b) / 65536)
def lnD12 (a b : List Nat) : Nat := sub32 1 (taD (a.getD 11 0) (b.getD 11 0) (lnD11 a b) / 65536)
def lnD13 (a b : List Nat) : Nat := sub32 1 (taD (a.getD 12 0) (b.getD 12 0) (lnD12 a b) / 65536)
def lnD14 (a b : List Nat) : Nat := sub32 1 (taD (a.getD 13 0) (b.getD 13 0) (lnD13 a b) / 65536)
def lnD15 (a b : List Nat) : Nat := sub32 1 (taD (a.getD 14 0) (b.getD 14 0) (lnD14 a b) / 65536)
def minuD (a b : List Nat) : List Nat := [taD (a.getD 0 0) (b.getD 0 0) 0 % 65536, taD (a.getD 1 0) (b.getD 1 0) (lnD1 a b) % 65536, taD (a.getD 2 0) (b.getD 2 0) (lnD2 a b) % 65536, taD (a.getD 3 0) (b.getD 3 0) (lnD3 a b) % 65536, taD (a.getD 4 0) (b.getD 4 0) (lnD4 a b) % 65536, taD (a.getD 5 0) (b.getD 5 0) (lnD5 a b) % 65536, taD (a.getD 6 0) (b.getD 6 0) (lnD6 a b) % 65536, taD (a.getD 7 0) (b.getD 7 0) (lnD7 a b) % 65536, taD (a.getD 8 0) (b.getD 8 0) (lnD8 a b) % 65536, taD (a.getD 9 0) (b.getD 9 0) (lnD9 a b) % 65536, taD (a.getD 10 0) (b.getD 10 0) (lnD10 a b) % 65536, taD (a.getD 11 0) (b.getD 11 0) (lnD11 a b) % 65536, taD (a.getD 12 0) (b.getD 12 0) (lnD12 a b) % 65536, taD (a.getD 13 0) (b.getD 13 0) (lnD13 a b) % 65536, taD (a.getD 14 0) (b.getD 14 0) (lnD14 a b) % 65536, taD (a.getD 15 0) (b.getD 15 0) (lnD15 a b) % 65536]
def onceD (a : List Nat) : List Nat := bif ltD (resp 16 a) (resp 16 ordD) 16 then a else minuD a ordD
def suD (x y c : Nat) : Nat := add32 (add32 x y) c
def crD1 (a b : List Nat) : Nat := suD (a.getD 0 0) (b.getD 0 0) 0 / 65536
def crD2 (a b : List Nat) : Nat := suD (a.getD 1 0) (b.getD 1 0) (crD1 a b) / 65536
def crD3 (a b : List Nat) : Nat := suD (a.getD 2 0) (b.getD 2 0) (crD2 a b) / 65536
def crD4 (a b : List Nat) : Nat := suD (a.getD 3 0) (b.getD 3 0) (crD3 a b) / 65536
def crD5 (a b : List Nat) : Nat := suD (a.getD 4 0) (b.getD 4 0) (crD4 a b) / 65536
def crD6 (a b : List Nat) : Nat := suD (a.getD 5 0) (b.getD 5 0) (crD5 a b) / 65536
def crD7 (a b : List Nat) : Nat := suD (a.getD 6 0) (b.getD 6 0) (crD6 a b) / 65536
def crD8 (a b : List Nat) : Nat := suD (a.getD 7 0) (b.getD 7 0) (crD7 a b) / 65536
def crD9 (a b : List Nat) : Nat := suD (a.getD 8 0) (b.getD 8 0) (crD8 a b) / 65536
def crD10 (a b : List Nat) : Nat := suD (a.getD 9 0) (b.getD 9 0) (crD9 a b) / 65536
def crD11 (a b : List Nat) : Nat := suD (a.getD 10 0) (b.getD 10 0) (crD10 a b) / 65536
def crD12 (a b : List Nat) : Nat := suD (a.getD 11 0) (b.getD 11 0) (crD11 a b) / 65536
def crD13 (a b : List Nat) : Nat := suD (a.getD 12 0) (b.getD 12 0) (crD12 a b) / 65536
def crD14 (a b : List Nat) : Nat := suD (a.getD 13 0) (b.getD 13 0) (crD13 a b) / 65536
def crD15 (a b : List Nat) : Nat := suD (a.getD 14 0) (b.getD 14 0) (crD14 a b) / 65536
def sumD (a b : List Nat) : List Nat := [suD (a.getD 0 0) (b.getD 0 0) 0 % 65536, suD (a.getD 1 0) (b.getD 1 0) (crD1 a b) % 65536, suD (a.getD 2 0) (b.getD 2 0) (crD2 a b) % 65536, suD (a.getD 3 0) (b.getD 3 0) (crD3 a b) % 65536, suD (a.getD 4 0) (b.getD 4 0) (crD4 a b) % 65536, suD (a.getD 5 0) (b.getD 5 0) (crD5 a b) % 65536, suD (a.getD 6 0) (b.getD 6 0) (crD6 a b) % 65536, suD (a.getD 7 0) (b.getD 7 0) (crD7 a b) % 65536, suD (a.getD 8 0) (b.getD 8 0) (crD8 a b) % 65536, suD (a.getD 9 0) (b.getD 9 0) (crD9 a b) % 65536, suD (a.getD 10 0) (b.getD 10 0) (crD10 a b) % 65536, suD (a.getD 11 0) (b.getD 11 0) (crD11 a b) % 65536, suD (a.getD 12 0) (b.getD 12 0) (crD12 a b) % 65536, suD (a.getD 13 0) (b.getD 13 0) (crD13 a b) % 65536, suD (a.getD 14 0) (b.getD 14 0) (crD14 a b) % 65536, suD (a.getD 15 0) (b.getD 15 0) (crD15 a b) % 65536]
def bytD (l : List Nat) : K32 := K32.ofFn fun j => bif Nat.beq (j % 2) 0 then l.getD (j / 2) 0 % 256 % 2 ^ 8 else l.getD (j / 2) 0 / 256 % 2 ^ 8
noncomputable def ltR (a b : List Nat) : Nat → Option (AV × Option Blk)
  | 0 => some (.bool false, none)
  | i + 1 => brn (!decide (a.getD i 0 = b.getD i 0)) (some (.bool (decide (a.getD i 0 < b.getD i 0)), none)) (ltR a b i)
theorem ltR_eq (a b : List Nat) : ∀ i, ltR a b i = some (.bool (ltD a b i), none)
  | 0 => rfl
  | i + 1 => by
    unfold ltR ltD
    rw [ltR_eq a b i, brn_eq]
    cases decide (a.getD i 0 = b.getD i 0) <;> rfl
noncomputable def isZR (a : List Nat) (n : Nat) : Nat → Option (AV × Option Blk)
  | 0 => some (.bool true, none)
  | i + 1 => brn (!decide (a.getD (n - (i + 1)) 0 = 0)) (some (.bool false, none)) (isZR a n i)
theorem isZR_eq (a : List Nat) (n : Nat) : ∀ i, isZR a n i = some (.bool (isZU a n i), none)
  | 0 => rfl
  | i + 1 => by
    unfold isZR isZU
    rw [isZR_eq a n i, brn_eq]
    cases decide (a.getD (n - (i + 1)) 0 = 0) <;> rfl
structure DOps where
  ord : List Nat
  lt : List Nat → List Nat → Bool
  once : List Nat → List Nat
  add : List Nat → List Nat → List Nat
  isz : List Nat → Bool
  neg : List Nat → List Nat
def concD : DOps where
  ord := ordD
  lt := fun a b => ltD a b 16
  once := fun a => bif ltD (resp 16 a) (resp 16 ordD) 16 then a else minuD a ordD
  add := fun a b => onceD (sumD a b)
  isz := fun a => isZU a 16 16
  neg := fun a => bif isZU (resp 16 a) 16 16 then a else minuD ordD a
theorem brn_some {α β : Type} (c : Bool) (f : α → β) (x y : α) : brn c (some (f x)) (some (f y)) = some (f (bif c then x else y)) := by rw [brn_eq]; cases c <;> rfl
def d16E (l : List Nat) : AV := .agg (l.map (AV.u .u32))
theorem d16E_eq {l : List Nat} (h : l.length = 16) : d16E l = d16V l := by
  unfold d16E d16V arrV
  rw [arrS_eq _ h]
theorem brn_d16 (c : Bool) (x y : List Nat) (h : y.length = 16) : brn c (some (d16V x, none)) (some (d16E y, none)) = some (d16V (bif c then x else y), (none : Option Blk)) := by
  rw [d16E_eq h, brn_eq]; cases c <;> rfl
end Pw

namespace Pw
open Go

/-! ### numbers modulo the order, by value -/

def LN : Nat := 7237005577332262213973186563042994240857116359379907606001950938285454250989
theorem ordL_val : val4 ordL = LN := by decide +kernel
theorem ordL_wf : ordL.wf := by unfold L4.wf ordL; decide
theorem addL_val {x y : L4} (hx : x.wf) (hy : y.wf) : val4 (addL x y) + B256 * addLc x y = val4 x + val4 y ∧ (addL x y).wf ∧ addLc x y ≤ 1 := by
  obtain ⟨x1, x2, x3, x4⟩ := hx
  obtain ⟨y1, y2, y3, y4⟩ := hy
  have a1 := ac_cc x.a y.a 0
  have a2 := ac_cc x.b y.b (addC0 x y)
  have a3 := ac_cc x.c y.c (addC1 x y)
  have a4 := ac_cc x.d y.d (addC2 x y)
  have f1 := a1.1
  have f2 := a2.1
  have f3 := a3.1
  have f4 := a4.1
  have w : (addL x y).wf := ⟨a1.2, a2.2, a3.2, a4.2⟩
  have g1 := a1.2
  have g2 := a2.2
  have g3 := a3.2
  have g4 := a4.2
  clear a1 a2 a3 a4
  refine ⟨?_, w, ?_⟩
  · simp only [val4, addL, addLc, addC2, addC1, addC0, B256] at *
    generalize cc x.a y.a 0 = p1 at *
    generalize cc x.b y.b p1 = p2 at *
    generalize cc x.c y.c p2 = p3 at *
    generalize cc x.d y.d p3 = p4 at *
    generalize ac x.a y.a 0 = q1 at *
    generalize ac x.b y.b p1 = q2 at *
    generalize ac x.c y.c p2 = q3 at *
    generalize ac x.d y.d p3 = q4 at *
    omega
  · simp only [addLc, addC2, addC1, addC0] at *
    generalize cc x.a y.a 0 = p1 at *
    generalize cc x.b y.b p1 = p2 at *
    generalize cc x.c y.c p2 = p3 at *
    generalize cc x.d y.d p3 = p4 at *
    generalize ac x.a y.a 0 = q1 at *
    generalize ac x.b y.b p1 = q2 at *
    generalize ac x.c y.c p2 = q3 at *
    generalize ac x.d y.d p3 = q4 at *
    clear w
    omega
theorem isZ_val {x : L4} (h : x.wf) : isZ x = decide (val4 x = 0) := by
  obtain ⟨h1, h2, h3, h4⟩ := h
  unfold isZ
  by_cases hz : val4 x = 0
  · rw [decide_eq_true hz]
    unfold val4 at hz
    rw [decide_eq_true (by omega), decide_eq_true (by omega), decide_eq_true (by omega), decide_eq_true (by omega)]; rfl
  · rw [decide_eq_false hz]
    by_cases ha : x.a = 0
    · by_cases hb : x.b = 0
      · by_cases hc : x.c = 0
        · have hd : x.d ≠ 0 := fun hd => hz (by unfold val4; omega)
          rw [decide_eq_false hd]; simp
        · rw [decide_eq_false hc]; simp
      · rw [decide_eq_false hb]; simp
    · rw [decide_eq_false ha]; simp
/-- what is borrowed tells which is less -/
theorem minB_lt {x y : L4} (hx : x.wf) (hy : y.wf) : decide (minB x y = 1) = decide (val4 x < val4 y) := by
  obtain ⟨e, w, hb⟩ := min_val hx hy
  have h1 := w.lt
  have h2 := hx.lt
  have h3 := hy.lt
  by_cases h : minB x y = 1
  · rw [h] at e
    rw [decide_eq_true h, decide_eq_true]
    unfold B256 at *; omega
  · have h0 : minB x y = 0 := by omega
    rw [h0] at e
    rw [decide_eq_false h, decide_eq_false]
    unfold B256 at *; omega
/-- a sum of two numbers below the order, brought below it -/
theorem sum_red {x y : L4} (hx : x.wf) (hy : y.wf) (lx : val4 x < LN) (ly : val4 y < LN) : (addL x y).wf ∧ val4 (addL x y) = val4 x + val4 y := by
  obtain ⟨e, w, hc⟩ := addL_val hx hy
  have hw := w.lt
  have h0 : addLc x y = 0 := by unfold B256 LN at *; omega
  rw [h0] at e
  exact ⟨w, by omega⟩
/-- the order taken off -/
theorem off_red {x : L4} (hx : x.wf) (l1 : LN ≤ val4 x) : (minD x ordL).wf ∧ val4 (minD x ordL) = val4 x - LN := by
  obtain ⟨e, w, hb⟩ := min_val hx ordL_wf
  have hw := w.lt
  have hx2 := hx.lt
  rw [ordL_val] at e
  have h0 : minB x ordL = 0 := by
    have := minB_lt hx ordL_wf
    rw [ordL_val, decide_eq_false (show ¬ val4 x < LN by omega)] at this
    have := of_decide_eq_false this
    omega
  rw [h0] at e
  exact ⟨w, by omega⟩
/-- the order put on after a borrow -/
theorem on_red {x y : L4} (hx : x.wf) (hy : y.wf) (hlt : val4 x < val4 y) (hle : val4 y - val4 x ≤ LN) : (addL (minD x y) ordL).wf ∧ val4 (addL (minD x y) ordL) = val4 x + LN - val4 y := by
  obtain ⟨e, w, hb⟩ := min_val hx hy
  have h1 : minB x y = 1 := by
    have := minB_lt hx hy
    rw [decide_eq_true hlt] at this
    exact of_decide_eq_true this
  rw [h1] at e
  obtain ⟨e2, w2, hc⟩ := addL_val w ordL_wf
  rw [ordL_val] at e2
  have hw := w.lt
  have hw2 := w2.lt
  refine ⟨w2, ?_⟩
  rcases (show addLc (minD x y) ordL = 0 ∨ addLc (minD x y) ordL = 1 by omega) with h | h <;> rw [h] at e2 <;> unfold B256 LN at * <;> omega
theorem shift_word {a c : Nat} (hc : c < 256) : shl64 a 8 ||| c = a % 72057594037927936 * 256 + c := by
  have e : shl64 a 8 = a % 72057594037927936 * 2 ^ 8 := by
    show a * 2 ^ 8 % 2 ^ 64 = _
    omega
  rw [e, or_low 8 (by omega)]
theorem shift_val {x : L4} (hx : x.wf) {c : Nat} (hc : c < 256) : (shiftL x c).wf ∧ stepQ x * 7237005577332262213973186563042994240829374041602535252466099000494570602496 + val4 (shiftL x c) = val4 x * 256 + c := by
  obtain ⟨h1, h2, h3, h4⟩ := hx
  have ea : (shiftL x c).a = x.a % 72057594037927936 * 256 + c := shift_word hc
  have eb : (shiftL x c).b = x.b % 72057594037927936 * 256 + x.a / 2 ^ 56 := shift_word (by omega)
  have ec : (shiftL x c).c = x.c % 72057594037927936 * 256 + x.b / 2 ^ 56 := shift_word (by omega)
  have ed : (shiftL x c).d = (x.d % 72057594037927936 * 256 + x.c / 2 ^ 56) % 1152921504606846976 := by
    show (shl64 x.d 8 ||| x.c / 2 ^ 56) &&& 1152921504606846975 = _
    rw [shift_word (by omega), show (1152921504606846975 : Nat) = 2 ^ 60 - 1 from rfl, Nat.and_two_pow_sub_one_eq_mod]
  refine ⟨⟨by rw [ea]; omega, by rw [eb]; omega, by rw [ec]; omega, by rw [ed]; omega⟩, ?_⟩
  unfold val4 stepQ
  rw [ea, eb, ec, ed]
  omega
def stepRV (q : Nat) : L4 := ⟨mul64 q lowL, ac (mul64 q midL) (mulHi q lowL) 0, add64 (mulHi q midL) (cc (mul64 q midL) (mulHi q lowL) 0), 0⟩
theorem stepRV_val {q : Nat} (hq : q < 4096) : (stepRV q).wf ∧ val4 (stepRV q) = q * 27742317777372353535851937790883648493 := by
  have e1 := mul_split (x := q) (y := lowL) (by omega) (by decide)
  have e2 := mul_split (x := q) (y := midL) (by omega) (by decide)
  have e3 := ac_cc (mul64 q midL) (mulHi q lowL) 0
  have b1 : mul64 q lowL < 18446744073709551616 := Nat.mod_lt _ (by decide)
  have b2 : mul64 q midL < 18446744073709551616 := Nat.mod_lt _ (by decide)
  have f3 := e3.1
  have f4 := e3.2
  unfold stepRV
  unfold add64
  generalize cc (mul64 q midL) (mulHi q lowL) 0 = p at *
  generalize ac (mul64 q midL) (mulHi q lowL) 0 = r at *
  generalize mul64 q lowL = u at *
  generalize mul64 q midL = v at *
  generalize mulHi q lowL = s at *
  generalize mulHi q midL = t at *
  unfold lowL at e1
  unfold midL at e2
  clear e3
  have hs : s < 4096 := by omega
  have ht : t < 4096 := by omega
  have hp : p ≤ 1 := by omega
  refine ⟨⟨by show u < _; omega, by show r < _; omega, by show (t + p) % 2 ^ 64 < _; omega, by show 0 < _; omega⟩, ?_⟩
  simp only [val4]
  rw [show (t + p) % 2 ^ 64 = t + p by omega]
  omega
theorem shift_lt {x : L4} (hx : x.wf) {c : Nat} (hc : c < 256) : val4 (shiftL x c) < 7237005577332262213973186563042994240829374041602535252466099000494570602496 := by
  obtain ⟨w1, w2, w3, w4⟩ := (shift_val hx hc).1
  have ed : (shiftL x c).d < 1152921504606846976 := by
    show (shl64 x.d 8 ||| x.c / 2 ^ 56) &&& 1152921504606846975 < _
    rw [show (1152921504606846975 : Nat) = 2 ^ 60 - 1 from rfl, Nat.and_two_pow_sub_one_eq_mod]
    exact Nat.mod_lt _ (by decide)
  unfold val4
  omega
theorem mod_of {n N q r : Nat} (h : N = q * n + r) (hr : r < n) : N % n = r := by rw [h, Nat.mul_comm, Nat.mul_add_mod, Nat.mod_eq_of_lt hr]
theorem mod_step (n a c : Nat) : (a % n * 256 + c) % n = (c + 256 * a) % n := by
  rw [Nat.add_mod, Nat.mul_mod, Nat.mod_mod, ← Nat.mul_mod, ← Nat.add_mod, Nat.mul_comm a, Nat.add_comm]
theorem arith1 (q V m : Nat) (e : V = q * 27742317777372353535851937790883648493 + m) : q * 7237005577332262213973186563042994240829374041602535252466099000494570602496 + V = q * LN + m := by
  unfold LN; omega
theorem arith2 (q V R : Nat) (e : R = (q + 1) * 27742317777372353535851937790883648493) (hl : R ≤ LN) : (q + 1) * 7237005577332262213973186563042994240829374041602535252466099000494570602496 + V = q * LN + (V + LN - R) := by
  unfold LN at *; omega
def stepLV (x : L4) (c : Nat) : L4 := bif decide (minB (shiftL x c) (stepRV (stepQ x)) = 1) then addL (minD (shiftL x c) (stepRV (stepQ x))) ordL else minD (shiftL x c) (stepRV (stepQ x))
theorem stepLV_val {x : L4} (hx : x.wf) (lx : val4 x < LN) {c : Nat} (hc : c < 256) : (stepLV x c).wf ∧ val4 (stepLV x c) = (val4 x * 256 + c) % LN := by
  have hq : stepQ x < 4096 := by
    obtain ⟨h1, h2, h3, h4⟩ := hx
    unfold stepQ; omega
  have hq2 : stepQ x ≤ 512 := by
    unfold val4 LN at lx
    unfold stepQ; omega
  obtain ⟨wA, eA⟩ := shift_val hx hc
  obtain ⟨wR, eR⟩ := stepRV_val hq
  have lA := shift_lt hx hc
  have hb := minB_lt wA wR
  unfold stepLV
  rw [hb]
  by_cases h : val4 (shiftL x c) < val4 (stepRV (stepQ x))
  · obtain ⟨w, e⟩ := on_red wA wR h (by rw [eR] at *; unfold LN; omega)
    rw [decide_eq_true h, cond_true]
    refine ⟨w, ?_⟩
    rw [e, ← eA]
    obtain ⟨q', hq'⟩ : ∃ q', stepQ x = q' + 1 := ⟨stepQ x - 1, by
      have : stepQ x ≠ 0 := fun h0 => by rw [eR, h0] at h; omega
      omega⟩
    rw [hq'] at eR h ⊢
    exact (mod_of (arith2 q' _ _ eR (by rw [eR]; unfold LN; omega)) (by omega)).symm
  · obtain ⟨e, w, hm⟩ := min_val wA wR
    rw [decide_eq_false h, cond_false]
    have h0 : minB (shiftL x c) (stepRV (stepQ x)) = 0 := by
      rw [decide_eq_false h] at hb
      have := of_decide_eq_false hb
      omega
    rw [h0, Nat.mul_zero, Nat.add_zero] at e
    refine ⟨w, ?_⟩
    rw [← eA]
    have lw : val4 (minD (shiftL x c) (stepRV (stepQ x))) < LN := by unfold LN; omega
    have en : stepQ x * 7237005577332262213973186563042994240829374041602535252466099000494570602496 + val4 (shiftL x c) = stepQ x * LN + val4 (minD (shiftL x c) (stepRV (stepQ x))) := by
      exact arith1 _ _ _ (by rw [e, eR])
    exact (mod_of en lw).symm
end Pw

namespace Pw
open Go
/-- bytes, the first counts one -/
def leB : List Nat → Nat
  | [] => 0
  | c :: l => c + 256 * leB l
def redV (n : L4) (b : List Nat) : L4 := b.foldr (fun c n => stepLV n c) n
theorem redV_cons (n : L4) (c : Nat) (b : List Nat) : redV n (c :: b) = stepLV (redV n b) c := by
  unfold redV
  rw [List.foldr_cons]
theorem leB_cons (c : Nat) (b : List Nat) : leB (c :: b) = c + 256 * leB b := rfl
theorem zeroL_wf : zeroL.wf := by unfold L4.wf zeroL; decide
theorem zeroL_val : val4 zeroL = 0 := by decide +kernel
theorem LN_pos : 0 < LN := by unfold LN; omega
theorem redV_val {b : List Nat} (h : ∀ c ∈ b, c < 256) : (redV zeroL b).wf ∧ val4 (redV zeroL b) = leB b % LN := by
  induction b with
  | nil =>
    unfold redV leB
    rw [List.foldr_nil, zeroL_val, Nat.zero_mod]
    exact ⟨zeroL_wf, rfl⟩
  | cons c b ih =>
    obtain ⟨w, e⟩ := ih fun x hx => h x (by simp [hx])
    obtain ⟨w2, e2⟩ := stepLV_val w (by rw [e]; exact Nat.mod_lt _ LN_pos) (h c (by simp))
    rw [redV_cons, leB_cons]
    refine ⟨w2, ?_⟩
    rw [e2, e]
    exact mod_step LN (leB b) c
end Pw

namespace Pw
open Go

/-! ### numbers modulo the order: bytes and products of the program, by value -/

theorem leB_eq : ∀ l : List Nat, leB l = leL l
  | [] => rfl
  | c :: l => by rw [leB, leL, leB_eq l]
theorem leB_key (k : K32) : leB k.toList = leVal k := leB_eq _
theorem key_bytes {k : K32} (h : k.wf) : ∀ c ∈ k.toList, c < 256 := h
theorem leB_app : ∀ (a b : List Nat), leB (a ++ b) = leB a + 256 ^ a.length * leB b
  | [], b => by show leB b = leB [] + 256 ^ 0 * leB b; simp [leB]
  | c :: a, b => by
    rw [List.cons_append, leB, leB, leB_app a b, List.length_cons, Nat.pow_succ, Nat.mul_add, Nat.add_assoc, Nat.mul_comm (256 ^ a.length) 256, Nat.mul_assoc]
theorem leB_lt : ∀ {l : List Nat}, (∀ c ∈ l, c < 256) → leB l < 256 ^ l.length
  | [], _ => by decide
  | c :: l, h => by
    have h1 := h c (by simp)
    have h2 := leB_lt (l := l) fun x hx => h x (by simp [hx])
    rw [leB, List.length_cons, Nat.pow_succ]; omega
theorem leVal_lt {k : K32} (h : k.wf) : leVal k < B256 := by
  have := leB_lt h
  rw [leB_key, show k.toList.length = 32 from rfl, show (256 : Nat) ^ 32 = B256 by decide +kernel] at this
  exact this
theorem shl_byte {acc c s : Nat} (hs : s ≤ 56) (hc : c < 256) (ha : acc < 2 ^ s) : acc ||| shl64 c s = acc + c * 2 ^ s := by
  have e1 : c * 2 ^ s % 2 ^ 64 = c * 2 ^ s := by
    refine Nat.mod_eq_of_lt ?_
    have h1 : c * 2 ^ s ≤ 255 * 2 ^ 56 := Nat.mul_le_mul (by omega) (Nat.pow_le_pow_right (by decide) hs)
    exact Nat.lt_of_le_of_lt h1 (by decide)
  show acc ||| c * 2 ^ s % 2 ^ 64 = _
  rw [e1, or_low' s ha, Nat.add_comm]
theorem word8 {c0 c1 c2 c3 c4 c5 c6 c7 : Nat} (h0 : c0 < 256) (h1 : c1 < 256) (h2 : c2 < 256) (h3 : c3 < 256) (h4 : c4 < 256) (h5 : c5 < 256) (h6 : c6 < 256) (h7 : c7 < 256) :
    ((((((((0 ||| shl64 c0 0) ||| shl64 c1 8) ||| shl64 c2 16) ||| shl64 c3 24) ||| shl64 c4 32) ||| shl64 c5 40) ||| shl64 c6 48) ||| shl64 c7 56) =
      c0 + c1 * 256 + c2 * 65536 + c3 * 16777216 + c4 * 4294967296 + c5 * 1099511627776 + c6 * 281474976710656 + c7 * 72057594037927936 := by
  rw [shl_byte (s := 0) (by decide) h0 (by decide), shl_byte (s := 8) (by decide) h1 (by omega), shl_byte (s := 16) (by decide) h2 (by omega), shl_byte (s := 24) (by decide) h3 (by omega),
    shl_byte (s := 32) (by decide) h4 (by omega), shl_byte (s := 40) (by decide) h5 (by omega), shl_byte (s := 48) (by decide) h6 (by omega), shl_byte (s := 56) (by decide) h7 (by omega)]
  omega
theorem wholeL_val {k : K32} (h : k.wf) : (wholeL k).wf ∧ val4 (wholeL k) = leVal k := by
  obtain ⟨h0, h1, h2, h3, h4, h5, h6, h7, h8, h9, h10, h11, h12, h13, h14, h15, h16, h17, h18, h19, h20, h21, h22, h23, h24, h25, h26, h27, h28, h29, h30, h31⟩ := h.all
  have e1 := word8 h0 h1 h2 h3 h4 h5 h6 h7
  have e2 := word8 h8 h9 h10 h11 h12 h13 h14 h15
  have e3 := word8 h16 h17 h18 h19 h20 h21 h22 h23
  have e4 := word8 h24 h25 h26 h27 h28 h29 h30 h31
  replace e1 : (wholeL k).a = _ := e1
  replace e2 : (wholeL k).b = _ := e2
  replace e3 : (wholeL k).c = _ := e3
  replace e4 : (wholeL k).d = _ := e4
  refine ⟨⟨?_, ?_, ?_, ?_⟩, ?_⟩
  · rw [e1]; omega
  · rw [e2]; omega
  · rw [e3]; omega
  · rw [e4]; omega
  · unfold val4
    rw [e1, e2, e3, e4]
    simp only [leVal, leL, K32.toList]
    omega
/-- a key says a number below 2^256 -/
theorem bytesR4_key {x : L4} (h : x.wf) : (bytesR4 x).wf ∧ leVal (bytesR4 x) = val4 x := ⟨bytesR_wf x, bytesR_val h⟩
def byts8V (l : Nat) : List Nat := [l / 2 ^ 0 % 2 ^ 8, l / 2 ^ 8 % 2 ^ 8, l / 2 ^ 16 % 2 ^ 8, l / 2 ^ 24 % 2 ^ 8, l / 2 ^ 32 % 2 ^ 8, l / 2 ^ 40 % 2 ^ 8, l / 2 ^ 48 % 2 ^ 8, l / 2 ^ 56 % 2 ^ 8]
theorem byts8V_lt {l : Nat} : ∀ c ∈ byts8V l, c < 256 := by
  intro c hc
  simp only [byts8V, List.mem_cons, List.not_mem_nil, or_false] at hc
  rcases hc with h | h | h | h | h | h | h | h <;> rw [h] <;> exact Nat.mod_lt _ (by decide)
theorem byts8V_val {l : Nat} (h : l < 18446744073709551616) : leB (byts8V l) = l := by
  simp only [byts8V, leB]
  omega
theorem leB_byts8 {l : Nat} (h : l < 18446744073709551616) (r : List Nat) : leB (byts8V l ++ r) = l + 18446744073709551616 * leB r := by
  rw [leB_app, byts8V_val h, show (byts8V l).length = 8 from rfl, show (256 : Nat) ^ 8 = 18446744073709551616 by decide +kernel]
def tmLV (w c k : Nat) : Nat := ac (mul64 w c) k 0
def tmCV (w c k : Nat) : Nat := add64 (mulHi w c) (cc (mul64 w c) k 0)
theorem tmV_val {w c k : Nat} (hw : w < 18446744073709551616) (hc : c < 256) (hk : k < 256) : tmLV w c k + 18446744073709551616 * tmCV w c k = w * c + k ∧ tmLV w c k < 18446744073709551616 ∧ tmCV w c k < 256 := by
  have e1 := mul_split hw (show c < 18446744073709551616 by omega)
  have e2 := ac_cc (mul64 w c) k 0
  have b1 : mul64 w c < 18446744073709551616 := Nat.mod_lt _ (by decide)
  have f3 := e2.1
  have f4 := e2.2
  have hp : w * c ≤ 18446744073709551615 * 255 := Nat.mul_le_mul (by omega) (by omega)
  unfold tmLV tmCV
  unfold add64
  generalize cc (mul64 w c) k 0 = p at *
  generalize ac (mul64 w c) k 0 = r at *
  generalize mul64 w c = u at *
  generalize mulHi w c = t at *
  clear e2
  have ht : t < 256 := by omega
  have hp : p ≤ 1 := by omega
  rw [show (t + p) % 2 ^ 64 = t + p by omega]
  refine ⟨by omega, f4, by omega⟩
def timesV (x : L4) (c : Nat) : List Nat := byts8V (tmLV x.a c 0) ++ (byts8V (tmLV x.b c (tmCV x.a c 0)) ++ (byts8V (tmLV x.c c (tmCV x.b c (tmCV x.a c 0))) ++ (byts8V (tmLV x.d c (tmCV x.c c (tmCV x.b c (tmCV x.a c 0)))) ++ [tmCV x.d c (tmCV x.c c (tmCV x.b c (tmCV x.a c 0))) % 2 ^ 8])))
theorem timesV_val {x : L4} (hx : x.wf) {c : Nat} (hc : c < 256) : leB (timesV x c) = val4 x * c ∧ (∀ b ∈ timesV x c, b < 256) ∧ (timesV x c).length = 33 := by
  obtain ⟨h1, h2, h3, h4⟩ := hx
  obtain ⟨a1, a2, a3⟩ := tmV_val h1 hc (show 0 < 256 by decide)
  obtain ⟨b1, b2, b3⟩ := tmV_val h2 hc a3
  obtain ⟨c1, c2, c3⟩ := tmV_val h3 hc b3
  obtain ⟨d1, d2, d3⟩ := tmV_val h4 hc c3
  refine ⟨?_, ?_, rfl⟩
  · unfold timesV
    rw [leB_byts8 a2, leB_byts8 b2, leB_byts8 c2, leB_byts8 d2]
    rw [leB, leB, Nat.mod_eq_of_lt (show _ < 2 ^ 8 from d3)]
    unfold val4
    generalize tmCV x.d c (tmCV x.c c (tmCV x.b c (tmCV x.a c 0))) = p4 at *
    generalize tmLV x.d c (tmCV x.c c (tmCV x.b c (tmCV x.a c 0))) = q4 at *
    generalize tmLV x.c c (tmCV x.b c (tmCV x.a c 0)) = q3 at *
    generalize tmCV x.c c (tmCV x.b c (tmCV x.a c 0)) = p3 at *
    generalize tmLV x.b c (tmCV x.a c 0) = q2 at *
    generalize tmCV x.b c (tmCV x.a c 0) = p2 at *
    generalize tmLV x.a c 0 = q1 at *
    generalize tmCV x.a c 0 = p1 at *
    rw [Nat.add_mul, Nat.add_mul, Nat.add_mul, Nat.mul_assoc, Nat.mul_assoc, Nat.mul_assoc]
    generalize x.a * c = u1 at *
    generalize x.b * c = u2 at *
    generalize x.c * c = u3 at *
    generalize x.d * c = u4 at *
    omega
  · unfold timesV
    intro b hb
    simp only [List.mem_append] at hb
    rcases hb with h | h | h | h | h
    · exact byts8V_lt b h
    · exact byts8V_lt b h
    · exact byts8V_lt b h
    · exact byts8V_lt b h
    · simp only [List.mem_cons, List.not_mem_nil, or_false] at h
      rw [h]; exact Nat.mod_lt _ (by decide)

/-! ### numbers of the document, by value -/

def leD : List Nat → Nat
  | [] => 0
  | c :: l => c + 65536 * leD l
def okD (l : List Nat) : Prop := l.length = 16 ∧ ∀ c ∈ l, c < 65536
def valD (l : List Nat) : Nat := leD l
theorem leD_lt : ∀ {l : List Nat}, (∀ c ∈ l, c < 65536) → leD l < 65536 ^ l.length
  | [], _ => by decide
  | c :: l, h => by
    have h1 := h c (by simp)
    have h2 := leD_lt (l := l) fun x hx => h x (by simp [hx])
    rw [leD, List.length_cons, Nat.pow_succ]; omega
theorem okD.lt {l : List Nat} (h : okD l) : valD l < B256 := by
  have := leD_lt h.2
  rw [h.1, show (65536 : Nat) ^ 16 = B256 by decide +kernel] at this
  exact this
theorem okD.cases {l : List Nat} (h : okD l) : ∃ d0 d1 d2 d3 d4 d5 d6 d7 d8 d9 d10 d11 d12 d13 d14 d15, l = [d0, d1, d2, d3, d4, d5, d6, d7, d8, d9, d10, d11, d12, d13, d14, d15] ∧
    (d0 < 65536 ∧ d1 < 65536 ∧ d2 < 65536 ∧ d3 < 65536 ∧ d4 < 65536 ∧ d5 < 65536 ∧ d6 < 65536 ∧ d7 < 65536 ∧ d8 < 65536 ∧ d9 < 65536 ∧ d10 < 65536 ∧ d11 < 65536 ∧ d12 < 65536 ∧ d13 < 65536 ∧ d14 < 65536 ∧ d15 < 65536) := by
  obtain ⟨h1, h2⟩ := h
  match l, h1, h2 with
  | [d0, d1, d2, d3, d4, d5, d6, d7, d8, d9, d10, d11, d12, d13, d14, d15], _, h2 =>
    refine ⟨d0, d1, d2, d3, d4, d5, d6, d7, d8, d9, d10, d11, d12, d13, d14, d15, rfl, ?_⟩
    refine ⟨?_, ?_, ?_, ?_, ?_, ?_, ?_, ?_, ?_, ?_, ?_, ?_, ?_, ?_, ?_, ?_⟩ <;> (apply h2; simp)
theorem okD.resp {l : List Nat} (h : okD l) : resp 16 l = l := resp_eq h.1
theorem okD.get {l : List Nat} (h : okD l) (i : Nat) : l.getD i 0 < 65536 := by
  rw [List.getD_eq_getElem?_getD]
  by_cases hi : i < l.length
  · rw [List.getElem?_eq_getElem hi]
    exact h.2 _ (List.getElem_mem hi)
  · rw [List.getElem?_eq_none (by omega)]; decide
theorem ordD_ok : okD ordD := ⟨rfl, by decide⟩
theorem ordD_val : valD ordD = LN := by decide +kernel
theorem oneD_ok : okD oneD := ⟨rfl, by decide⟩
theorem oneD_val : valD oneD = 1 := by decide +kernel
theorem zeroD_ok : okD zeroD := ⟨rfl, by decide⟩
theorem zeroD_val : valD zeroD = 0 := by decide +kernel
theorem valD_spell (l : List Nat) (h : l.length = 16) : valD l = l.getD 0 0 + 65536 * (l.getD 1 0 + 65536 * (l.getD 2 0 + 65536 * (l.getD 3 0 + 65536 * (l.getD 4 0 + 65536 * (l.getD 5 0 + 65536 * (l.getD 6 0 + 65536 * (l.getD 7 0 + 65536 * (l.getD 8 0 + 65536 * (l.getD 9 0 + 65536 * (l.getD 10 0 + 65536 * (l.getD 11 0 + 65536 * (l.getD 12 0 + 65536 * (l.getD 13 0 + 65536 * (l.getD 14 0 + 65536 * l.getD 15 0)))))))))))))) := by
  match l, h with
  | [d0, d1, d2, d3, d4, d5, d6, d7, d8, d9, d10, d11, d12, d13, d14, d15], _ => rfl
theorem bytD_wf (l : List Nat) : (bytD l).wf := by
  intro b hb
  simp only [bytD, K32.ofFn, K32.toList, List.mem_cons, List.not_mem_nil, or_false] at hb
  rcases hb with h | h | h | h | h | h | h | h | h | h | h | h | h | h | h | h | h | h | h | h | h | h | h | h | h | h | h | h | h | h | h | h <;> (rw [h]; exact Nat.mod_lt _ (by decide))
theorem dig2 {d r : Nat} (h : d < 65536) : d % 256 % 2 ^ 8 + 256 * (d / 256 % 2 ^ 8 + 256 * r) = d + 65536 * r := by omega
theorem bytD_val {l : List Nat} (h : okD l) : leVal (bytD l) = valD l := by
  rw [valD_spell l h.1]
  rw [← dig2 (h.get 0), ← dig2 (h.get 1), ← dig2 (h.get 2), ← dig2 (h.get 3), ← dig2 (h.get 4), ← dig2 (h.get 5), ← dig2 (h.get 6), ← dig2 (h.get 7), ← dig2 (h.get 8), ← dig2 (h.get 9), ← dig2 (h.get 10), ← dig2 (h.get 11), ← dig2 (h.get 12), ← dig2 (h.get 13), ← dig2 (h.get 14)]
  have e15 : l.getD 15 0 = l.getD 15 0 % 256 % 2 ^ 8 + 256 * (l.getD 15 0 / 256 % 2 ^ 8 + 256 * 0) := by
    rw [dig2 (h.get 15)]; rfl
  rw [e15]
  rfl
theorem su_val {x y c : Nat} (hx : x < 65536) (hy : y < 65536) (hc : c ≤ 1) : suD x y c % 65536 + 65536 * (suD x y c / 65536) = x + y + c ∧ suD x y c % 65536 < 65536 ∧ suD x y c / 65536 ≤ 1 := by
  unfold suD add32; omega
end Pw

namespace Pw
open Go

/-! ### sums and differences of the document's numbers, digit by digit, by value -/

theorem stepC {q p x y c S K X Y : Nat} (h : q + 65536 * p = x + y + c) (k : S + K = X + Y + p) : q + 65536 * S + 65536 * K = x + 65536 * X + (y + 65536 * Y) + c := by omega
theorem stepL {q l c x p S L X K : Nat} (h : q + l + c = x + 65536 * p) (k : S + L + p = X + K) : q + 65536 * S + (l + 65536 * L) + c = x + 65536 * X + 65536 * K := by omega
theorem valD_list (d0 d1 d2 d3 d4 d5 d6 d7 d8 d9 d10 d11 d12 d13 d14 d15 : Nat) : valD [d0, d1, d2, d3, d4, d5, d6, d7, d8, d9, d10, d11, d12, d13, d14, d15] = d0 + 65536 * (d1 + 65536 * (d2 + 65536 * (d3 + 65536 * (d4 + 65536 * (d5 + 65536 * (d6 + 65536 * (d7 + 65536 * (d8 + 65536 * (d9 + 65536 * (d10 + 65536 * (d11 + 65536 * (d12 + 65536 * (d13 + 65536 * (d14 + 65536 * d15)))))))))))))) := rfl
theorem b256_nest (c : Nat) : B256 * c = 65536 * (65536 * (65536 * (65536 * (65536 * (65536 * (65536 * (65536 * (65536 * (65536 * (65536 * (65536 * (65536 * (65536 * (65536 * (65536 * c))))))))))))))) := by unfold B256; omega
theorem sumD_digits {a b : List Nat} (ha : okD a) (hb : okD b) : okD (sumD a b) ∧ ∃ c, valD (sumD a b) + B256 * c = valD a + valD b := by
  have s0 : suD (a.getD 0 0) (b.getD 0 0) 0 % 65536 + 65536 * (crD1 a b) = a.getD 0 0 + b.getD 0 0 + 0 ∧ suD (a.getD 0 0) (b.getD 0 0) 0 % 65536 < 65536 ∧ crD1 a b ≤ 1 := su_val (ha.get 0) (hb.get 0) (show (0 : Nat) ≤ 1 by decide)
  have s1 : suD (a.getD 1 0) (b.getD 1 0) (crD1 a b) % 65536 + 65536 * (crD2 a b) = a.getD 1 0 + b.getD 1 0 + (crD1 a b) ∧ suD (a.getD 1 0) (b.getD 1 0) (crD1 a b) % 65536 < 65536 ∧ crD2 a b ≤ 1 := su_val (ha.get 1) (hb.get 1) s0.2.2
  have s2 : suD (a.getD 2 0) (b.getD 2 0) (crD2 a b) % 65536 + 65536 * (crD3 a b) = a.getD 2 0 + b.getD 2 0 + (crD2 a b) ∧ suD (a.getD 2 0) (b.getD 2 0) (crD2 a b) % 65536 < 65536 ∧ crD3 a b ≤ 1 := su_val (ha.get 2) (hb.get 2) s1.2.2
  have s3 : suD (a.getD 3 0) (b.getD 3 0) (crD3 a b) % 65536 + 65536 * (crD4 a b) = a.getD 3 0 + b.getD 3 0 + (crD3 a b) ∧ suD (a.getD 3 0) (b.getD 3 0) (crD3 a b) % 65536 < 65536 ∧ crD4 a b ≤ 1 := su_val (ha.get 3) (hb.get 3) s2.2.2
  have s4 : suD (a.getD 4 0) (b.getD 4 0) (crD4 a b) % 65536 + 65536 * (crD5 a b) = a.getD 4 0 + b.getD 4 0 + (crD4 a b) ∧ suD (a.getD 4 0) (b.getD 4 0) (crD4 a b) % 65536 < 65536 ∧ crD5 a b ≤ 1 := su_val (ha.get 4) (hb.get 4) s3.2.2
  have s5 : suD (a.getD 5 0) (b.getD 5 0) (crD5 a b) % 65536 + 65536 * (crD6 a b) = a.getD 5 0 + b.getD 5 0 + (crD5 a b) ∧ suD (a.getD 5 0) (b.getD 5 0) (crD5 a b) % 65536 < 65536 ∧ crD6 a b ≤ 1 := su_val (ha.get 5) (hb.get 5) s4.2.2
  have s6 : suD (a.getD 6 0) (b.getD 6 0) (crD6 a b) % 65536 + 65536 * (crD7 a b) = a.getD 6 0 + b.getD 6 0 + (crD6 a b) ∧ suD (a.getD 6 0) (b.getD 6 0) (crD6 a b) % 65536 < 65536 ∧ crD7 a b ≤ 1 := su_val (ha.get 6) (hb.get 6) s5.2.2
  have s7 : suD (a.getD 7 0) (b.getD 7 0) (crD7 a b) % 65536 + 65536 * (crD8 a b) = a.getD 7 0 + b.getD 7 0 + (crD7 a b) ∧ suD (a.getD 7 0) (b.getD 7 0) (crD7 a b) % 65536 < 65536 ∧ crD8 a b ≤ 1 := su_val (ha.get 7) (hb.get 7) s6.2.2
  have s8 : suD (a.getD 8 0) (b.getD 8 0) (crD8 a b) % 65536 + 65536 * (crD9 a b) = a.getD 8 0 + b.getD 8 0 + (crD8 a b) ∧ suD (a.getD 8 0) (b.getD 8 0) (crD8 a b) % 65536 < 65536 ∧ crD9 a b ≤ 1 := su_val (ha.get 8) (hb.get 8) s7.2.2
  have s9 : suD (a.getD 9 0) (b.getD 9 0) (crD9 a b) % 65536 + 65536 * (crD10 a b) = a.getD 9 0 + b.getD 9 0 + (crD9 a b) ∧ suD (a.getD 9 0) (b.getD 9 0) (crD9 a b) % 65536 < 65536 ∧ crD10 a b ≤ 1 := su_val (ha.get 9) (hb.get 9) s8.2.2
  have s10 : suD (a.getD 10 0) (b.getD 10 0) (crD10 a b) % 65536 + 65536 * (crD11 a b) = a.getD 10 0 + b.getD 10 0 + (crD10 a b) ∧ suD (a.getD 10 0) (b.getD 10 0) (crD10 a b) % 65536 < 65536 ∧ crD11 a b ≤ 1 := su_val (ha.get 10) (hb.get 10) s9.2.2
  have s11 : suD (a.getD 11 0) (b.getD 11 0) (crD11 a b) % 65536 + 65536 * (crD12 a b) = a.getD 11 0 + b.getD 11 0 + (crD11 a b) ∧ suD (a.getD 11 0) (b.getD 11 0) (crD11 a b) % 65536 < 65536 ∧ crD12 a b ≤ 1 := su_val (ha.get 11) (hb.get 11) s10.2.2
  have s12 : suD (a.getD 12 0) (b.getD 12 0) (crD12 a b) % 65536 + 65536 * (crD13 a b) = a.getD 12 0 + b.getD 12 0 + (crD12 a b) ∧ suD (a.getD 12 0) (b.getD 12 0) (crD12 a b) % 65536 < 65536 ∧ crD13 a b ≤ 1 := su_val (ha.get 12) (hb.get 12) s11.2.2
  have s13 : suD (a.getD 13 0) (b.getD 13 0) (crD13 a b) % 65536 + 65536 * (crD14 a b) = a.getD 13 0 + b.getD 13 0 + (crD13 a b) ∧ suD (a.getD 13 0) (b.getD 13 0) (crD13 a b) % 65536 < 65536 ∧ crD14 a b ≤ 1 := su_val (ha.get 13) (hb.get 13) s12.2.2
  have s14 : suD (a.getD 14 0) (b.getD 14 0) (crD14 a b) % 65536 + 65536 * (crD15 a b) = a.getD 14 0 + b.getD 14 0 + (crD14 a b) ∧ suD (a.getD 14 0) (b.getD 14 0) (crD14 a b) % 65536 < 65536 ∧ crD15 a b ≤ 1 := su_val (ha.get 14) (hb.get 14) s13.2.2
  have s15 : suD (a.getD 15 0) (b.getD 15 0) (crD15 a b) % 65536 + 65536 * (suD (a.getD 15 0) (b.getD 15 0) (crD15 a b) / 65536) = a.getD 15 0 + b.getD 15 0 + (crD15 a b) ∧ suD (a.getD 15 0) (b.getD 15 0) (crD15 a b) % 65536 < 65536 ∧ suD (a.getD 15 0) (b.getD 15 0) (crD15 a b) / 65536 ≤ 1 := su_val (ha.get 15) (hb.get 15) s14.2.2
  refine ⟨⟨rfl, ?_⟩, suD (a.getD 15 0) (b.getD 15 0) (crD15 a b) / 65536, ?_⟩
  · intro c hc
    simp only [sumD, List.mem_cons, List.not_mem_nil, or_false] at hc
    rcases hc with h | h | h | h | h | h | h | h | h | h | h | h | h | h | h | h
    · rw [h]; exact s0.2.1
    · rw [h]; exact s1.2.1
    · rw [h]; exact s2.2.1
    · rw [h]; exact s3.2.1
    · rw [h]; exact s4.2.1
    · rw [h]; exact s5.2.1
    · rw [h]; exact s6.2.1
    · rw [h]; exact s7.2.1
    · rw [h]; exact s8.2.1
    · rw [h]; exact s9.2.1
    · rw [h]; exact s10.2.1
    · rw [h]; exact s11.2.1
    · rw [h]; exact s12.2.1
    · rw [h]; exact s13.2.1
    · rw [h]; exact s14.2.1
    · rw [h]; exact s15.2.1
  · rw [valD_spell a ha.1, valD_spell b hb.1, show valD (sumD a b) = valD [suD (a.getD 0 0) (b.getD 0 0) 0 % 65536, suD (a.getD 1 0) (b.getD 1 0) (crD1 a b) % 65536, suD (a.getD 2 0) (b.getD 2 0) (crD2 a b) % 65536, suD (a.getD 3 0) (b.getD 3 0) (crD3 a b) % 65536, suD (a.getD 4 0) (b.getD 4 0) (crD4 a b) % 65536, suD (a.getD 5 0) (b.getD 5 0) (crD5 a b) % 65536, suD (a.getD 6 0) (b.getD 6 0) (crD6 a b) % 65536, suD (a.getD 7 0) (b.getD 7 0) (crD7 a b) % 65536, suD (a.getD 8 0) (b.getD 8 0) (crD8 a b) % 65536, suD (a.getD 9 0) (b.getD 9 0) (crD9 a b) % 65536, suD (a.getD 10 0) (b.getD 10 0) (crD10 a b) % 65536, suD (a.getD 11 0) (b.getD 11 0) (crD11 a b) % 65536, suD (a.getD 12 0) (b.getD 12 0) (crD12 a b) % 65536, suD (a.getD 13 0) (b.getD 13 0) (crD13 a b) % 65536, suD (a.getD 14 0) (b.getD 14 0) (crD14 a b) % 65536, suD (a.getD 15 0) (b.getD 15 0) (crD15 a b) % 65536] by unfold sumD; rfl, valD_list]
    have h := (stepC s0.1 (stepC s1.1 (stepC s2.1 (stepC s3.1 (stepC s4.1 (stepC s5.1 (stepC s6.1 (stepC s7.1 (stepC s8.1 (stepC s9.1 (stepC s10.1 (stepC s11.1 (stepC s12.1 (stepC s13.1 (stepC s14.1 s15.1)))))))))))))))
    rw [Nat.add_zero] at h
    rw [b256_nest]
    exact h
theorem ta_val {x l b : Nat} (hx : x < 65536) (hl : l < 65536) (hb : b ≤ 1) : taD x l b % 65536 + l + b = x + 65536 * sub32 1 (taD x l b / 65536) ∧ taD x l b % 65536 < 65536 ∧ sub32 1 (taD x l b / 65536) ≤ 1 := by
  have e1 : add32 x 65536 = x + 65536 := by unfold add32; omega
  have e2 : sub32 (x + 65536) l = x + 65536 - l := by unfold sub32; omega
  have e3 : sub32 (x + 65536 - l) b = x + 65536 - l - b := by unfold sub32; omega
  have e : taD x l b = x + 65536 - l - b := by unfold taD; rw [e1, e2, e3]
  rw [e]
  have e4 : sub32 1 ((x + 65536 - l - b) / 65536) = 1 - (x + 65536 - l - b) / 65536 := by unfold sub32; omega
  rw [e4]; omega
theorem minuD_digits {a b : List Nat} (ha : okD a) (hb : okD b) : okD (minuD a b) ∧ ∃ c, valD (minuD a b) + valD b = valD a + B256 * c := by
  have s0 : taD (a.getD 0 0) (b.getD 0 0) 0 % 65536 + b.getD 0 0 + 0 = a.getD 0 0 + 65536 * (lnD1 a b) ∧ taD (a.getD 0 0) (b.getD 0 0) 0 % 65536 < 65536 ∧ lnD1 a b ≤ 1 := by
    rw [show lnD1 a b = sub32 1 (taD (a.getD 0 0) (b.getD 0 0) 0 / 65536) from rfl]
    exact ta_val (ha.get 0) (hb.get 0) (show (0 : Nat) ≤ 1 by decide)
  have s1 : taD (a.getD 1 0) (b.getD 1 0) (lnD1 a b) % 65536 + b.getD 1 0 + (lnD1 a b) = a.getD 1 0 + 65536 * (lnD2 a b) ∧ taD (a.getD 1 0) (b.getD 1 0) (lnD1 a b) % 65536 < 65536 ∧ lnD2 a b ≤ 1 := by
    rw [show lnD2 a b = sub32 1 (taD (a.getD 1 0) (b.getD 1 0) (lnD1 a b) / 65536) from rfl]
    exact ta_val (ha.get 1) (hb.get 1) s0.2.2
  have s2 : taD (a.getD 2 0) (b.getD 2 0) (lnD2 a b) % 65536 + b.getD 2 0 + (lnD2 a b) = a.getD 2 0 + 65536 * (lnD3 a b) ∧ taD (a.getD 2 0) (b.getD 2 0) (lnD2 a b) % 65536 < 65536 ∧ lnD3 a b ≤ 1 := by
    rw [show lnD3 a b = sub32 1 (taD (a.getD 2 0) (b.getD 2 0) (lnD2 a b) / 65536) from rfl]
    exact ta_val (ha.get 2) (hb.get 2) s1.2.2
  have s3 : taD (a.getD 3 0) (b.getD 3 0) (lnD3 a b) % 65536 + b.getD 3 0 + (lnD3 a b) = a.getD 3 0 + 65536 * (lnD4 a b) ∧ taD (a.getD 3 0) (b.getD 3 0) (lnD3 a b) % 65536 < 65536 ∧ lnD4 a b ≤ 1 := by
    rw [show lnD4 a b = sub32 1 (taD (a.getD 3 0) (b.getD 3 0) (lnD3 a b) / 65536) from rfl]
    exact ta_val (ha.get 3) (hb.get 3) s2.2.2
  have s4 : taD (a.getD 4 0) (b.getD 4 0) (lnD4 a b) % 65536 + b.getD 4 0 + (lnD4 a b) = a.getD 4 0 + 65536 * (lnD5 a b) ∧ taD (a.getD 4 0) (b.getD 4 0) (lnD4 a b) % 65536 < 65536 ∧ lnD5 a b ≤ 1 := by
    rw [show lnD5 a b = sub32 1 (taD (a.getD 4 0) (b.getD 4 0) (lnD4 a b) / 65536) from rfl]
    exact ta_val (ha.get 4) (hb.get 4) s3.2.2
  have s5 : taD (a.getD 5 0) (b.getD 5 0) (lnD5 a b) % 65536 + b.getD 5 0 + (lnD5 a b) = a.getD 5 0 + 65536 * (lnD6 a b) ∧ taD (a.getD 5 0) (b.getD 5 0) (lnD5 a b) % 65536 < 65536 ∧ lnD6 a b ≤ 1 := by
    rw [show lnD6 a b = sub32 1 (taD (a.getD 5 0) (b.getD 5 0) (lnD5 a b) / 65536) from rfl]
    exact ta_val (ha.get 5) (hb.get 5) s4.2.2
  have s6 : taD (a.getD 6 0) (b.getD 6 0) (lnD6 a b) % 65536 + b.getD 6 0 + (lnD6 a b) = a.getD 6 0 + 65536 * (lnD7 a b) ∧ taD (a.getD 6 0) (b.getD 6 0) (lnD6 a b) % 65536 < 65536 ∧ lnD7 a b ≤ 1 := by
    rw [show lnD7 a b = sub32 1 (taD (a.getD 6 0) (b.getD 6 0) (lnD6 a b) / 65536) from rfl]
    exact ta_val (ha.get 6) (hb.get 6) s5.2.2
  have s7 : taD (a.getD 7 0) (b.getD 7 0) (lnD7 a b) % 65536 + b.getD 7 0 + (lnD7 a b) = a.getD 7 0 + 65536 * (lnD8 a b) ∧ taD (a.getD 7 0) (b.getD 7 0) (lnD7 a b) % 65536 < 65536 ∧ lnD8 a b ≤ 1 := by
    rw [show lnD8 a b = sub32 1 (taD (a.getD 7 0) (b.getD 7 0) (lnD7 a b) / 65536) from rfl]
    exact ta_val (ha.get 7) (hb.get 7) s6.2.2
  have s8 : taD (a.getD 8 0) (b.getD 8 0) (lnD8 a b) % 65536 + b.getD 8 0 + (lnD8 a b) = a.getD 8 0 + 65536 * (lnD9 a b) ∧ taD (a.getD 8 0) (b.getD 8 0) (lnD8 a b) % 65536 < 65536 ∧ lnD9 a b ≤ 1 := by
    rw [show lnD9 a b = sub32 1 (taD (a.getD 8 0) (b.getD 8 0) (lnD8 a b) / 65536) from rfl]
    exact ta_val (ha.get 8) (hb.get 8) s7.2.2
  have s9 : taD (a.getD 9 0) (b.getD 9 0) (lnD9 a b) % 65536 + b.getD 9 0 + (lnD9 a b) = a.getD 9 0 + 65536 * (lnD10 a b) ∧ taD (a.getD 9 0) (b.getD 9 0) (lnD9 a b) % 65536 < 65536 ∧ lnD10 a b ≤ 1 := by
    rw [show lnD10 a b = sub32 1 (taD (a.getD 9 0) (b.getD 9 0) (lnD9 a b) / 65536) from rfl]
    exact ta_val (ha.get 9) (hb.get 9) s8.2.2
  have s10 : taD (a.getD 10 0) (b.getD 10 0) (lnD10 a b) % 65536 + b.getD 10 0 + (lnD10 a b) = a.getD 10 0 + 65536 * (lnD11 a b) ∧ taD (a.getD 10 0) (b.getD 10 0) (lnD10 a b) % 65536 < 65536 ∧ lnD11 a b ≤ 1 := by
    rw [show lnD11 a b = sub32 1 (taD (a.getD 10 0) (b.getD 10 0) (lnD10 a b) / 65536) from rfl]
    exact ta_val (ha.get 10) (hb.get 10) s9.2.2
  have s11 : taD (a.getD 11 0) (b.getD 11 0) (lnD11 a b) % 65536 + b.getD 11 0 + (lnD11 a b) = a.getD 11 0 + 65536 * (lnD12 a b) ∧ taD (a.getD 11 0) (b.getD 11 0) (lnD11 a b) % 65536 < 65536 ∧ lnD12 a b ≤ 1 := by
    rw [show lnD12 a b = sub32 1 (taD (a.getD 11 0) (b.getD 11 0) (lnD11 a b) / 65536) from rfl]
    exact ta_val (ha.get 11) (hb.get 11) s10.2.2
  have s12 : taD (a.getD 12 0) (b.getD 12 0) (lnD12 a b) % 65536 + b.getD 12 0 + (lnD12 a b) = a.getD 12 0 + 65536 * (lnD13 a b) ∧ taD (a.getD 12 0) (b.getD 12 0) (lnD12 a b) % 65536 < 65536 ∧ lnD13 a b ≤ 1 := by
    rw [show lnD13 a b = sub32 1 (taD (a.getD 12 0) (b.getD 12 0) (lnD12 a b) / 65536) from rfl]
    exact ta_val (ha.get 12) (hb.get 12) s11.2.2
  have s13 : taD (a.getD 13 0) (b.getD 13 0) (lnD13 a b) % 65536 + b.getD 13 0 + (lnD13 a b) = a.getD 13 0 + 65536 * (lnD14 a b) ∧ taD (a.getD 13 0) (b.getD 13 0) (lnD13 a b) % 65536 < 65536 ∧ lnD14 a b ≤ 1 := by
    rw [show lnD14 a b = sub32 1 (taD (a.getD 13 0) (b.getD 13 0) (lnD13 a b) / 65536) from rfl]
    exact ta_val (ha.get 13) (hb.get 13) s12.2.2
  have s14 : taD (a.getD 14 0) (b.getD 14 0) (lnD14 a b) % 65536 + b.getD 14 0 + (lnD14 a b) = a.getD 14 0 + 65536 * (lnD15 a b) ∧ taD (a.getD 14 0) (b.getD 14 0) (lnD14 a b) % 65536 < 65536 ∧ lnD15 a b ≤ 1 := by
    rw [show lnD15 a b = sub32 1 (taD (a.getD 14 0) (b.getD 14 0) (lnD14 a b) / 65536) from rfl]
    exact ta_val (ha.get 14) (hb.get 14) s13.2.2
  have s15 : taD (a.getD 15 0) (b.getD 15 0) (lnD15 a b) % 65536 + b.getD 15 0 + (lnD15 a b) = a.getD 15 0 + 65536 * (sub32 1 (taD (a.getD 15 0) (b.getD 15 0) (lnD15 a b) / 65536)) ∧ taD (a.getD 15 0) (b.getD 15 0) (lnD15 a b) % 65536 < 65536 ∧ sub32 1 (taD (a.getD 15 0) (b.getD 15 0) (lnD15 a b) / 65536) ≤ 1 := by
    exact ta_val (ha.get 15) (hb.get 15) s14.2.2
  refine ⟨⟨rfl, ?_⟩, sub32 1 (taD (a.getD 15 0) (b.getD 15 0) (lnD15 a b) / 65536), ?_⟩
  · intro c hc
    simp only [minuD, List.mem_cons, List.not_mem_nil, or_false] at hc
    rcases hc with h | h | h | h | h | h | h | h | h | h | h | h | h | h | h | h
    · rw [h]; exact s0.2.1
    · rw [h]; exact s1.2.1
    · rw [h]; exact s2.2.1
    · rw [h]; exact s3.2.1
    · rw [h]; exact s4.2.1
    · rw [h]; exact s5.2.1
    · rw [h]; exact s6.2.1
    · rw [h]; exact s7.2.1
    · rw [h]; exact s8.2.1
    · rw [h]; exact s9.2.1
    · rw [h]; exact s10.2.1
    · rw [h]; exact s11.2.1
    · rw [h]; exact s12.2.1
    · rw [h]; exact s13.2.1
    · rw [h]; exact s14.2.1
    · rw [h]; exact s15.2.1
  · rw [valD_spell a ha.1, valD_spell b hb.1, show valD (minuD a b) = valD [taD (a.getD 0 0) (b.getD 0 0) 0 % 65536, taD (a.getD 1 0) (b.getD 1 0) (lnD1 a b) % 65536, taD (a.getD 2 0) (b.getD 2 0) (lnD2 a b) % 65536, taD (a.getD 3 0) (b.getD 3 0) (lnD3 a b) % 65536, taD (a.getD 4 0) (b.getD 4 0) (lnD4 a b) % 65536, taD (a.getD 5 0) (b.getD 5 0) (lnD5 a b) % 65536, taD (a.getD 6 0) (b.getD 6 0) (lnD6 a b) % 65536, taD (a.getD 7 0) (b.getD 7 0) (lnD7 a b) % 65536, taD (a.getD 8 0) (b.getD 8 0) (lnD8 a b) % 65536, taD (a.getD 9 0) (b.getD 9 0) (lnD9 a b) % 65536, taD (a.getD 10 0) (b.getD 10 0) (lnD10 a b) % 65536, taD (a.getD 11 0) (b.getD 11 0) (lnD11 a b) % 65536, taD (a.getD 12 0) (b.getD 12 0) (lnD12 a b) % 65536, taD (a.getD 13 0) (b.getD 13 0) (lnD13 a b) % 65536, taD (a.getD 14 0) (b.getD 14 0) (lnD14 a b) % 65536, taD (a.getD 15 0) (b.getD 15 0) (lnD15 a b) % 65536] by unfold minuD; rfl, valD_list]
    have h := (stepL s0.1 (stepL s1.1 (stepL s2.1 (stepL s3.1 (stepL s4.1 (stepL s5.1 (stepL s6.1 (stepL s7.1 (stepL s8.1 (stepL s9.1 (stepL s10.1 (stepL s11.1 (stepL s12.1 (stepL s13.1 (stepL s14.1 s15.1)))))))))))))))
    rw [Nat.add_zero] at h
    rw [b256_nest]
    exact h
theorem sumD_val {a b : List Nat} (ha : okD a) (hb : okD b) (hl : valD a + valD b < B256) : okD (sumD a b) ∧ valD (sumD a b) = valD a + valD b := by
  obtain ⟨h1, c, h2⟩ := sumD_digits ha hb
  refine ⟨h1, ?_⟩
  have h3 := h1.lt
  unfold B256 at *
  omega
theorem minuD_val {a b : List Nat} (ha : okD a) (hb : okD b) (hl : valD b ≤ valD a) : okD (minuD a b) ∧ valD (minuD a b) = valD a - valD b := by
  obtain ⟨h1, c, h2⟩ := minuD_digits ha hb
  refine ⟨h1, ?_⟩
  have h3 := h1.lt
  have h4 := ha.lt
  unfold B256 at *
  omega

/-! ### the questions -/

def valN (a : List Nat) : Nat → Nat
  | 0 => 0
  | i + 1 => valN a i + 65536 ^ i * a.getD i 0
theorem valN_lt {a : List Nat} (ha : okD a) : ∀ i, valN a i < 65536 ^ i
  | 0 => by show 0 < 1; decide
  | i + 1 => by
    have h1 := valN_lt ha i
    have h2 := ha.get i
    have h3 : 65536 ^ i * a.getD i 0 ≤ 65536 ^ i * 65535 := Nat.mul_le_mul_left _ (by omega)
    rw [valN, Nat.pow_succ]
    omega
theorem valN_val {a : List Nat} (ha : okD a) : valN a 16 = valD a := by
  rw [valD_spell a ha.1]
  simp only [valN]
  omega
theorem ltD_val {a b : List Nat} (ha : okD a) (hb : okD b) : ∀ i, ltD a b i = decide (valN a i < valN b i)
  | 0 => rfl
  | i + 1 => by
    have ih := ltD_val ha hb i
    have h1 := valN_lt ha i
    have h2 := valN_lt hb i
    rw [ltD, valN, valN, ih]
    by_cases h : a.getD i 0 = b.getD i 0
    · rw [decide_eq_true h, cond_true, h]
      by_cases h' : valN a i < valN b i
      · rw [decide_eq_true h', decide_eq_true (by omega)]
      · rw [decide_eq_false h', decide_eq_false (by omega)]
    · rw [decide_eq_false h, cond_false]
      by_cases h' : a.getD i 0 < b.getD i 0
      · have h3 : 65536 ^ i * (a.getD i 0 + 1) ≤ 65536 ^ i * b.getD i 0 := Nat.mul_le_mul_left _ h'
        rw [decide_eq_true h', decide_eq_true (by rw [Nat.mul_succ] at h3; omega)]
      · have h3 : 65536 ^ i * (b.getD i 0 + 1) ≤ 65536 ^ i * a.getD i 0 := Nat.mul_le_mul_left _ (by omega)
        rw [decide_eq_false h', decide_eq_false (by rw [Nat.mul_succ] at h3; omega)]
theorem ltD_val16 {a b : List Nat} (ha : okD a) (hb : okD b) : ltD a b 16 = decide (valD a < valD b) := by rw [ltD_val ha hb, valN_val ha, valN_val hb]
theorem isZU_16 (a : List Nat) : isZU a 16 16 = (decide (a.getD 0 0 = 0) && (decide (a.getD 1 0 = 0) && (decide (a.getD 2 0 = 0) && (decide (a.getD 3 0 = 0) && (decide (a.getD 4 0 = 0) && (decide (a.getD 5 0 = 0) && (decide (a.getD 6 0 = 0) && (decide (a.getD 7 0 = 0) && (decide (a.getD 8 0 = 0) && (decide (a.getD 9 0 = 0) && (decide (a.getD 10 0 = 0) && (decide (a.getD 11 0 = 0) && (decide (a.getD 12 0 = 0) && (decide (a.getD 13 0 = 0) && (decide (a.getD 14 0 = 0) && (decide (a.getD 15 0 = 0) && true)))))))))))))))) := rfl
theorem zstep {d r : Nat} (h : d + 65536 * r = 0) : d = 0 ∧ r = 0 := by omega
theorem isZU_val {a : List Nat} (ha : okD a) : isZU a 16 16 = decide (valD a = 0) := by
  rw [isZU_16, valD_spell a ha.1]
  by_cases h : valD a = 0
  · rw [valD_spell a ha.1] at h
    rw [decide_eq_true h]
    have z0 := zstep h
    have z1 := zstep z0.2
    have z2 := zstep z1.2
    have z3 := zstep z2.2
    have z4 := zstep z3.2
    have z5 := zstep z4.2
    have z6 := zstep z5.2
    have z7 := zstep z6.2
    have z8 := zstep z7.2
    have z9 := zstep z8.2
    have z10 := zstep z9.2
    have z11 := zstep z10.2
    have z12 := zstep z11.2
    have z13 := zstep z12.2
    have z14 := zstep z13.2
    rw [z0.1, z1.1, z2.1, z3.1, z4.1, z5.1, z6.1, z7.1, z8.1, z9.1, z10.1, z11.1, z12.1, z13.1, z14.1, z14.2]
    rfl
  · rw [valD_spell a ha.1] at h
    rw [decide_eq_false h]
    rw [Bool.eq_false_iff]
    intro h'
    simp only [Bool.and_eq_true, decide_eq_true_eq] at h'
    obtain ⟨h0, h1, h2, h3, h4, h5, h6, h7, h8, h9, h10, h11, h12, h13, h14, h15, -⟩ := h'
    exact h (by rw [h0, h1, h2, h3, h4, h5, h6, h7, h8, h9, h10, h11, h12, h13, h14, h15])

/-! ### the operations -/

theorem onceD_val {a : List Nat} (ha : okD a) (hl : valD a < LN + LN) : okD (onceD a) ∧ valD (onceD a) = valD a % LN := by
  unfold onceD
  rw [ha.resp, ordD_ok.resp, ltD_val16 ha ordD_ok, ordD_val]
  by_cases h : valD a < LN
  · rw [decide_eq_true h, cond_true]
    exact ⟨ha, (Nat.mod_eq_of_lt h).symm⟩
  · rw [decide_eq_false h, cond_false]
    obtain ⟨h1, h2⟩ := minuD_val ha ordD_ok (by rw [ordD_val]; omega)
    refine ⟨h1, ?_⟩
    rw [h2, ordD_val, Nat.mod_eq_sub_mod (by omega), Nat.mod_eq_of_lt (by omega)]
/-- a number of the document, below the order -/
structure ND (l : List Nat) (n : Nat) : Prop where
  ok : okD l
  val : valD l = n
  lt : n < LN
theorem LN2_lt : LN + LN < B256 := by unfold LN B256; omega
theorem ND.zero : ND zeroD 0 := ⟨zeroD_ok, zeroD_val, LN_pos⟩
theorem ND.one : ND oneD 1 := ⟨oneD_ok, oneD_val, by unfold LN; omega⟩
theorem ND.resp {l : List Nat} {n : Nat} (h : ND l n) : resp 16 l = l := h.ok.resp
theorem ND.add {a b : List Nat} {m n : Nat} (ha : ND a m) (hb : ND b n) : ND (concD.add a b) ((m + n) % LN) := by
  have h1 := ha.lt
  have h2 := hb.lt
  obtain ⟨s1, s2⟩ := sumD_val ha.ok hb.ok (by rw [ha.val, hb.val]; have := LN2_lt; omega)
  obtain ⟨o1, o2⟩ := onceD_val s1 (by rw [s2, ha.val, hb.val]; omega)
  exact ⟨o1, by rw [show concD.add a b = onceD (sumD a b) from rfl, o2, s2, ha.val, hb.val], Nat.mod_lt _ LN_pos⟩
theorem ND.neg {a : List Nat} {m : Nat} (ha : ND a m) : ND (concD.neg a) ((LN - m) % LN) := by
  have h1 := ha.lt
  show ND (bif isZU (Pw.resp 16 a) 16 16 then a else minuD ordD a) _
  rw [ha.ok.resp, isZU_val ha.ok, ha.val]
  by_cases h : m = 0
  · rw [decide_eq_true h, cond_true]
    subst h
    rw [Nat.sub_zero, Nat.mod_self]
    exact ha
  · rw [decide_eq_false h, cond_false]
    obtain ⟨m1, m2⟩ := minuD_val ordD_ok ha.ok (by rw [ordD_val, ha.val]; omega)
    exact ⟨m1, by rw [m2, ordD_val, ha.val, Nat.mod_eq_of_lt (by omega)], Nat.mod_lt _ LN_pos⟩
theorem ND.key {a : List Nat} {m : Nat} (ha : ND a m) : (bytD (Pw.resp 16 a)).wf ∧ leVal (bytD (Pw.resp 16 a)) = m := by
  rw [ha.ok.resp]
  exact ⟨bytD_wf a, by rw [bytD_val ha.ok, ha.val]⟩
theorem ND.isz {a : List Nat} {m : Nat} (ha : ND a m) : concD.isz a = decide (m = 0) := by
  show isZU a 16 16 = _
  rw [isZU_val ha.ok, ha.val]
end Pw
