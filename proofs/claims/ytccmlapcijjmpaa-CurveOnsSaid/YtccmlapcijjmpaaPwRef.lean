/- A part of the proof: PwRef. -/
import Derived.Test.YtccmlapcijjmpaaPwKey
namespace Pw
open Go

/-! ### the program's From, least, Bytes -/

def from_a (k : K32) : Nat := (((((((0 ||| (shl64 k.b0 0 &&& M51)) ||| (shl64 k.b1 8 &&& M51)) ||| (shl64 k.b2 16 &&& M51)) ||| (shl64 k.b3 24 &&& M51)) ||| (shl64 k.b4 32 &&& M51)) ||| (shl64 k.b5 40 &&& M51)) ||| (shl64 k.b6 48 &&& M51))
def from_b (k : K32) : Nat := (((((((0 ||| k.b6 / 2 ^ 3) ||| (shl64 k.b7 5 &&& M51)) ||| (shl64 k.b8 13 &&& M51)) ||| (shl64 k.b9 21 &&& M51)) ||| (shl64 k.b10 29 &&& M51)) ||| (shl64 k.b11 37 &&& M51)) ||| (shl64 k.b12 45 &&& M51))
def from_c (k : K32) : Nat := ((((((((0 ||| k.b12 / 2 ^ 6) ||| (shl64 k.b13 2 &&& M51)) ||| (shl64 k.b14 10 &&& M51)) ||| (shl64 k.b15 18 &&& M51)) ||| (shl64 k.b16 26 &&& M51)) ||| (shl64 k.b17 34 &&& M51)) ||| (shl64 k.b18 42 &&& M51)) ||| (shl64 k.b19 50 &&& M51))
def from_d (k : K32) : Nat := (((((((0 ||| k.b19 / 2 ^ 1) ||| (shl64 k.b20 7 &&& M51)) ||| (shl64 k.b21 15 &&& M51)) ||| (shl64 k.b22 23 &&& M51)) ||| (shl64 k.b23 31 &&& M51)) ||| (shl64 k.b24 39 &&& M51)) ||| (shl64 k.b25 47 &&& M51))
def from_e (k : K32) : Nat := (((((((0 ||| k.b25 / 2 ^ 4) ||| (shl64 k.b26 4 &&& M51)) ||| (shl64 k.b27 12 &&& M51)) ||| (shl64 k.b28 20 &&& M51)) ||| (shl64 k.b29 28 &&& M51)) ||| (shl64 k.b30 36 &&& M51)) ||| (shl64 (k.b31 &&& 127) 44 &&& M51))
def fromS (k : K32) : L5 := settledS ⟨from_a k, from_b k, from_c k, from_d k, from_e k⟩

def leastOf (w : L5) : L5 :=
  let c0 := add64 w.a 19 / 2 ^ 51
  let c1 := add64 w.b c0 / 2 ^ 51
  let c2 := add64 w.c c1 / 2 ^ 51
  let c3 := add64 w.d c2 / 2 ^ 51
  let c4 := add64 w.e c3 / 2 ^ 51
  let a := add64 w.a (mul64 19 c4)
  let b := add64 w.b (a / 2 ^ 51)
  let c := add64 w.c (b / 2 ^ 51)
  let d := add64 w.d (c / 2 ^ 51)
  let e := add64 w.e (d / 2 ^ 51)
  ⟨a &&& M51, b &&& M51, c &&& M51, d &&& M51, e &&& M51⟩
def leastS (x : L5) : L5 := leastOf (settledS x)

def bytesOf (w : L5) : K32 := ⟨(w.a / 2 ^ 0) % 2 ^ 8, (w.a / 2 ^ 8) % 2 ^ 8, (w.a / 2 ^ 16) % 2 ^ 8, (w.a / 2 ^ 24) % 2 ^ 8, (w.a / 2 ^ 32) % 2 ^ 8, (w.a / 2 ^ 40) % 2 ^ 8, (w.a / 2 ^ 48 ||| shl64 w.b 3) % 2 ^ 8, (w.b / 2 ^ 5) % 2 ^ 8, (w.b / 2 ^ 13) % 2 ^ 8, (w.b / 2 ^ 21) % 2 ^ 8, (w.b / 2 ^ 29) % 2 ^ 8, (w.b / 2 ^ 37) % 2 ^ 8, (w.b / 2 ^ 45 ||| shl64 w.c 6) % 2 ^ 8, (w.c / 2 ^ 2) % 2 ^ 8, (w.c / 2 ^ 10) % 2 ^ 8, (w.c / 2 ^ 18) % 2 ^ 8, (w.c / 2 ^ 26) % 2 ^ 8, (w.c / 2 ^ 34) % 2 ^ 8, (w.c / 2 ^ 42) % 2 ^ 8, (w.c / 2 ^ 50 ||| shl64 w.d 1) % 2 ^ 8, (w.d / 2 ^ 7) % 2 ^ 8, (w.d / 2 ^ 15) % 2 ^ 8, (w.d / 2 ^ 23) % 2 ^ 8, (w.d / 2 ^ 31) % 2 ^ 8, (w.d / 2 ^ 39) % 2 ^ 8, (w.d / 2 ^ 47 ||| shl64 w.e 4) % 2 ^ 8, (w.e / 2 ^ 4) % 2 ^ 8, (w.e / 2 ^ 12) % 2 ^ 8, (w.e / 2 ^ 20) % 2 ^ 8, (w.e / 2 ^ 28) % 2 ^ 8, (w.e / 2 ^ 36) % 2 ^ 8, (w.e / 2 ^ 44) % 2 ^ 8⟩
def bytesS (x : L5) : K32 := bytesOf (leastS x)
def zeroK : K32 := ⟨0, 0, 0, 0, 0, 0, 0, 0, 0, 0, 0, 0, 0, 0, 0, 0, 0, 0, 0, 0, 0, 0, 0, 0, 0, 0, 0, 0, 0, 0, 0, 0⟩
def equalS (x y : L5) : Bool := keyEq (bytesS x) (bytesS y)
def isZeroS (x : L5) : Bool := keyEq (bytesS x) zeroK
def oddS (x : L5) : Bool := decide ((leastS x).a &&& 1 = 1)

/-! ### the document's numbers: four digits -/

structure L4 where
  a : Nat
  b : Nat
  c : Nat
  d : Nat
  deriving DecidableEq

def rnumV (x : L4) : AV := .agg [.u .u64 x.a, .u .u64 x.b, .u .u64 x.c, .u .u64 x.d]
def rnum? : AV → Option L4
  | .agg [.u .u64 a, .u .u64 b, .u .u64 c, .u .u64 d] => some ⟨a, b, c, d⟩
  | _ => none
theorem rnum?_some {v : AV} {x : L4} (h : rnum? v = some x) : v = rnumV x := by
  unfold rnum? at h
  split at h
  · cases h; rfl
  · cases h
def L4.wf (x : L4) : Prop := x.a < 2 ^ 64 ∧ x.b < 2 ^ 64 ∧ x.c < 2 ^ 64 ∧ x.d < 2 ^ 64
theorem wf1.rnum {x : L4} (h : wf1 (rnumV x)) : x.wf := by
  have h1 := h.agg.cons
  have h2 := h1.2.cons
  have h3 := h2.2.cons
  have h4 := h3.2.cons
  exact ⟨h1.1.u64, h2.1.u64, h3.1.u64, h4.1.u64⟩
def L5.wf (x : L5) : Prop := x.a < 2 ^ 64 ∧ x.b < 2 ^ 64 ∧ x.c < 2 ^ 64 ∧ x.d < 2 ^ 64 ∧ x.e < 2 ^ 64
theorem wf1.num {x : L5} (h : wf1 (numV x)) : x.wf := by
  have h1 := h.agg.cons
  have h2 := h1.2.cons
  have h3 := h2.2.cons
  have h4 := h3.2.cons
  have h5 := h4.2.cons
  exact ⟨h1.1.u64, h2.1.u64, h3.1.u64, h4.1.u64, h5.1.u64⟩

/-- math/bits.Sub64: the difference and what is borrowed -/
def sb (x y b : Nat) : Nat := (x + 18446744073709551616 - y - b) % 18446744073709551616
def bb (x y b : Nat) : Nat := bif decide (x < y + b) then 1 else 0
theorem bb_le (x y b : Nat) : bb x y b ≤ 1 := by unfold bb; cases decide (x < y + b) <;> decide
theorem bb_guard (x y b : Nat) : decide (bb x y b ≤ 1) = true := decide_eq_true (bb_le x y b)

def primeD : L4 := ⟨18446744073709551597, 18446744073709551615, 18446744073709551615, 9223372036854775807⟩
def minB0 (x y : L4) : Nat := bb x.a y.a 0
def minB1 (x y : L4) : Nat := bb x.b y.b (minB0 x y)
def minB2 (x y : L4) : Nat := bb x.c y.c (minB1 x y)
def minB (x y : L4) : Nat := bb x.d y.d (minB2 x y)
def minD (x y : L4) : L4 := ⟨sb x.a y.a 0, sb x.b y.b (minB0 x y), sb x.c y.c (minB1 x y), sb x.d y.d (minB2 x y)⟩
def minV (x y : L4) : AV := .tup [rnumV (minD x y), .u .u64 (minB x y)]
def belowR (x : L4) : L4 := bif decide (minB x primeD = 1) then x else minD x primeD
theorem bif_some_eq {α β : Type} (c : Bool) (f : α → β) (x y : α) : (bif c then some (f x) else some (f y)) = some (f (bif c then x else y)) := by cases c <;> rfl
def ac (x y c : Nat) : Nat := (x + y + c) % 18446744073709551616
def cc (x y c : Nat) : Nat := (x + y + c) / 18446744073709551616
theorem cc_le {x y c : Nat} (hx : x < 2 ^ 64) (hy : y < 2 ^ 64) (hc : c ≤ 1) : cc x y c ≤ 1 := by unfold cc; omega
theorem bif_some_bool (c : Bool) (f : Bool → AV) (x y : Bool) : (bif c then some (f x) else some (f y)) = some (f (bif c then x else y)) := by cases c <;> rfl
def settleR (x : L4) (over : Nat) : L4 :=
  let k := mul64 19 (add64 (mul64 2 over) (x.d / 2 ^ 63))
  let d := x.d &&& 9223372036854775807
  let c1 := cc x.a k 0
  let c2 := cc x.b c1 0
  let c3 := cc x.c c2 0
  belowR ⟨ac x.a k 0, ac x.b c1 0, ac x.c c2 0, ac d c3 0⟩

def fromR (k : K32) : L4 := belowR ⟨(shl64 (shl64 (shl64 (shl64 (shl64 (shl64 (shl64 (shl64 0 8 ||| k.b7) 8 ||| k.b6) 8 ||| k.b5) 8 ||| k.b4) 8 ||| k.b3) 8 ||| k.b2) 8 ||| k.b1) 8 ||| k.b0), (shl64 (shl64 (shl64 (shl64 (shl64 (shl64 (shl64 (shl64 0 8 ||| k.b15) 8 ||| k.b14) 8 ||| k.b13) 8 ||| k.b12) 8 ||| k.b11) 8 ||| k.b10) 8 ||| k.b9) 8 ||| k.b8), (shl64 (shl64 (shl64 (shl64 (shl64 (shl64 (shl64 (shl64 0 8 ||| k.b23) 8 ||| k.b22) 8 ||| k.b21) 8 ||| k.b20) 8 ||| k.b19) 8 ||| k.b18) 8 ||| k.b17) 8 ||| k.b16), (shl64 (shl64 (shl64 (shl64 (shl64 (shl64 (shl64 (shl64 0 8 ||| k.b31) 8 ||| k.b30) 8 ||| k.b29) 8 ||| k.b28) 8 ||| k.b27) 8 ||| k.b26) 8 ||| k.b25) 8 ||| k.b24) &&& 9223372036854775807⟩
def smallR (n : Nat) : L4 := ⟨n, 0, 0, 0⟩
def bytesR4 (x : L4) : K32 := ⟨x.a / 2 ^ 0 % 2 ^ 8, x.a / 2 ^ 8 % 2 ^ 8, x.a / 2 ^ 16 % 2 ^ 8, x.a / 2 ^ 24 % 2 ^ 8, x.a / 2 ^ 32 % 2 ^ 8, x.a / 2 ^ 40 % 2 ^ 8, x.a / 2 ^ 48 % 2 ^ 8, x.a / 2 ^ 56 % 2 ^ 8, x.b / 2 ^ 0 % 2 ^ 8, x.b / 2 ^ 8 % 2 ^ 8, x.b / 2 ^ 16 % 2 ^ 8, x.b / 2 ^ 24 % 2 ^ 8, x.b / 2 ^ 32 % 2 ^ 8, x.b / 2 ^ 40 % 2 ^ 8, x.b / 2 ^ 48 % 2 ^ 8, x.b / 2 ^ 56 % 2 ^ 8, x.c / 2 ^ 0 % 2 ^ 8, x.c / 2 ^ 8 % 2 ^ 8, x.c / 2 ^ 16 % 2 ^ 8, x.c / 2 ^ 24 % 2 ^ 8, x.c / 2 ^ 32 % 2 ^ 8, x.c / 2 ^ 40 % 2 ^ 8, x.c / 2 ^ 48 % 2 ^ 8, x.c / 2 ^ 56 % 2 ^ 8, x.d / 2 ^ 0 % 2 ^ 8, x.d / 2 ^ 8 % 2 ^ 8, x.d / 2 ^ 16 % 2 ^ 8, x.d / 2 ^ 24 % 2 ^ 8, x.d / 2 ^ 32 % 2 ^ 8, x.d / 2 ^ 40 % 2 ^ 8, x.d / 2 ^ 48 % 2 ^ 8, x.d / 2 ^ 56 % 2 ^ 8⟩
def addC0 (x y : L4) : Nat := cc x.a y.a 0
def addC1 (x y : L4) : Nat := cc x.b y.b (addC0 x y)
def addC2 (x y : L4) : Nat := cc x.c y.c (addC1 x y)
theorem addC_le {x y : L4} (hw : wfL [rnumV x, rnumV y]) : addC0 x y ≤ 1 ∧ addC1 x y ≤ 1 ∧ addC2 x y ≤ 1 := by
  have hx := hw.cons.1.rnum
  have hy := hw.cons.2.cons.1.rnum
  have h0 : addC0 x y ≤ 1 := cc_le hx.1 hy.1 (by decide)
  have h1 : addC1 x y ≤ 1 := cc_le hx.2.1 hy.2.1 h0
  exact ⟨h0, h1, cc_le hx.2.2.1 hy.2.2.1 h1⟩
def addR (x y : L4) : L4 := belowR ⟨ac x.a y.a 0, ac x.b y.b (addC0 x y), ac x.c y.c (addC1 x y), ac x.d y.d (addC2 x y)⟩
def negR (x : L4) : L4 := belowR (minD primeD x)
def subR (x y : L4) : L4 := addR x (negR y)
def tmHi (x y c d : Nat) : Nat := add64 (add64 (mulHi x y) (cc (mul64 x y) c 0)) (cc (ac (mul64 x y) c 0) d 0)
def tmLo (x y c d : Nat) : Nat := ac (ac (mul64 x y) c 0) d 0

/-- a digit times four digits, and four more -/
def rowM (x : Nat) (y t : L4) : L5 :=
  let h0 := tmHi x y.a t.a 0
  let h1 := tmHi x y.b t.b h0
  let h2 := tmHi x y.c t.c h1
  ⟨tmLo x y.a t.a 0, tmLo x y.b t.b h0, tmLo x y.c t.c h1, tmLo x y.d t.d h2, tmHi x y.d t.d h2⟩
def mulR (x y : L4) : L4 :=
  let r0 := rowM x.a y ⟨0, 0, 0, 0⟩
  let r1 := rowM x.b y ⟨r0.b, r0.c, r0.d, r0.e⟩
  let r2 := rowM x.c y ⟨r1.b, r1.c, r1.d, r1.e⟩
  let r3 := rowM x.d y ⟨r2.b, r2.c, r2.d, r2.e⟩
  let f := rowM 38 ⟨r3.b, r3.c, r3.d, r3.e⟩ ⟨r0.a, r1.a, r2.a, r3.a⟩
  settleR ⟨f.a, f.b, f.c, f.d⟩ f.e

def timesR (x : L4) (n : Nat) : L4 := mulR x (smallR n)
def equalR (x y : L4) : Bool := bif !decide (x.a = y.a) then false else bif !decide (x.b = y.b) then false else bif !decide (x.c = y.c) then false else bif !decide (x.d = y.d) then false else true
def zeroR : L4 := ⟨0, 0, 0, 0⟩
def isZeroR (x : L4) : Bool := equalR x zeroR
def oddR (x : L4) : Bool := decide (x.a % 2 = 1)
end Pw
