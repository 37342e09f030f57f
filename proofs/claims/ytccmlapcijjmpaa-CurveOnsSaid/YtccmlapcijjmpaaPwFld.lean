/- A part of the proof: PwFld. -/
import Derived.Test.YtccmlapcijjmpaaPwEvR
namespace Pw
open Go

/-! ### the words of the field, as the program computes them -/

structure L5 where
  a : Nat
  b : Nat
  c : Nat
  d : Nat
  e : Nat

def numV (x : L5) : AV := .agg [.u .u64 x.a, .u .u64 x.b, .u .u64 x.c, .u .u64 x.d, .u .u64 x.e]
def num? : AV → Option L5
  | .agg [.u .u64 a, .u .u64 b, .u .u64 c, .u .u64 d, .u .u64 e] => some ⟨a, b, c, d, e⟩
  | _ => none
theorem num?_some {v : AV} {x : L5} (h : num? v = some x) : v = numV x := by
  unfold num? at h
  split at h
  · cases h; rfl
  · cases h

structure W2 where
  hi : Nat
  lo : Nat
def wideV (x : W2) : AV := .agg [.u .u64 x.hi, .u .u64 x.lo]
def wide? : AV → Option W2
  | .agg [.u .u64 a, .u .u64 b] => some ⟨a, b⟩
  | _ => none
theorem wide?_some {v : AV} {x : W2} (h : wide? v = some x) : v = wideV x := by
  unfold wide? at h
  split at h
  · cases h; rfl
  · cases h

def u64? : AV → Option Nat
  | .u .u64 a => some a
  | _ => none
theorem u64?_some {v : AV} {x : Nat} (h : u64? v = some x) : v = .u .u64 x := by
  unfold u64? at h
  split at h
  · cases h; rfl
  · cases h

def M51 : Nat := 2251799813685247
def add64 (a b : Nat) : Nat := (a + b) % 2 ^ 64
def sub64 (a b : Nat) : Nat := (a + (2 ^ 64 - b)) % 2 ^ 64
def mul64 (a b : Nat) : Nat := a * b % 2 ^ 64
def shl64 (a n : Nat) : Nat := a * 2 ^ n % 2 ^ 64

/-- math/bits.Mul64, as its text computes it -/
def mulHi (x y : Nat) : Nat :=
  let x0 := x &&& 4294967295
  let x1 := x / 2 ^ 32
  let y0 := y &&& 4294967295
  let y1 := y / 2 ^ 32
  let w0 := mul64 x0 y0
  let t := add64 (mul64 x1 y0) (w0 / 2 ^ 32)
  let w1 := t &&& 4294967295
  let w2 := t / 2 ^ 32
  let w1 := add64 w1 (mul64 x0 y1)
  add64 (add64 (mul64 x1 y1) w2) (w1 / 2 ^ 32)

def carried (a b c d e : Nat) : L5 :=
  ⟨add64 (a &&& M51) (mul64 19 (e / 2 ^ 51)), add64 (b &&& M51) (a / 2 ^ 51), add64 (c &&& M51) (b / 2 ^ 51), add64 (d &&& M51) (c / 2 ^ 51), add64 (e &&& M51) (d / 2 ^ 51)⟩

def mul2V (x y : Nat) : AV := .tup [.u .u64 (mulHi x y), .u .u64 (mul64 x y)]

/-- a sum of products, plus one more -/
def plusS (s : W2) (a b : Nat) : W2 :=
  let lo := (s.lo + mul64 a b + 0) % 18446744073709551616
  let carry := (s.lo + mul64 a b + 0) / 18446744073709551616
  ⟨(s.hi + mulHi a b + carry) % 18446744073709551616, lo⟩

def overS (s : W2) : Nat := shl64 s.hi 13 ||| s.lo / 2 ^ 51


def bool? : AV → Option Bool
  | .bool b => some b
  | _ => none
theorem bool?_some {v : AV} {x : Bool} (h : bool? v = some x) : v = .bool x := by
  unfold bool? at h
  split at h
  · cases h; rfl
  · cases h
def u32? : AV → Option Nat
  | .u .u32 a => some a
  | _ => none
theorem u32?_some {v : AV} {x : Nat} (h : u32? v = some x) : v = .u .u32 x := by
  unfold u32? at h
  split at h
  · cases h; rfl
  · cases h
def u8? : AV → Option Nat
  | .u .u8 a => some a
  | _ => none
theorem u8?_some {v : AV} {x : Nat} (h : u8? v = some x) : v = .u .u8 x := by
  unfold u8? at h
  split at h
  · cases h; rfl
  · cases h
def int? : AV → Option Int
  | .n a => some a
  | _ => none
theorem int?_some {v : AV} {x : Int} (h : int? v = some x) : v = .n x := by
  unfold int? at h
  split at h
  · cases h; rfl
  · cases h

theorem wf1.wide {s : W2} (h : wf1 (wideV s)) : s.lo < 2 ^ 64 := by
  have := h.agg.cons.2.cons.1.u
  simpa [IntKind.bits] using this
theorem wf1.u64 {a : Nat} (h : wf1 (.u .u64 a)) : a < 2 ^ 64 := by simpa [IntKind.bits] using h.u

theorem plus_guard {s : W2} {a b : Nat} (h : s.lo < 2 ^ 64) : decide ((s.lo + mul64 a b + 0) / 18446744073709551616 ≤ 1) = true := by
  have : mul64 a b < 2 ^ 64 := Nat.mod_lt _ (by decide)
  exact decide_eq_true (by omega)

def zero5 : L5 := ⟨0, 0, 0, 0, 0⟩
def settledS (x : L5) : L5 := carried x.a x.b x.c x.d x.e
def smallS (n : Nat) : L5 := ⟨n &&& M51, n / 2 ^ 51, 0, 0, 0⟩
def addS (x y : L5) : L5 := carried (add64 x.a y.a) (add64 x.b y.b) (add64 x.c y.c) (add64 x.d y.d) (add64 x.e y.e)
def subS (x y : L5) : L5 :=
  carried (sub64 (add64 x.a 9007199254740916) y.a) (sub64 (add64 x.b 9007199254740988) y.b) (sub64 (add64 x.c 9007199254740988) y.c)
    (sub64 (add64 x.d 9007199254740988) y.d) (sub64 (add64 x.e 9007199254740988) y.e)
def negS (x : L5) : L5 := subS zero5 x
def w0 : W2 := ⟨0, 0⟩
def foldedS (r s t u v : W2) : L5 :=
  carried (add64 (r.lo &&& M51) (mul64 19 (overS v))) (add64 (s.lo &&& M51) (overS r)) (add64 (t.lo &&& M51) (overS s)) (add64 (u.lo &&& M51) (overS t)) (add64 (v.lo &&& M51) (overS u))
def mulS (x y : L5) : L5 :=
  let c1 := mul64 19 y.b
  let c2 := mul64 19 y.c
  let c3 := mul64 19 y.d
  let c4 := mul64 19 y.e
  foldedS
    (plusS (plusS (plusS (plusS (plusS w0 x.a y.a) x.b c4) x.c c3) x.d c2) x.e c1)
    (plusS (plusS (plusS (plusS (plusS w0 x.a y.b) x.b y.a) x.c c4) x.d c3) x.e c2)
    (plusS (plusS (plusS (plusS (plusS w0 x.a y.c) x.b y.b) x.c y.a) x.d c4) x.e c3)
    (plusS (plusS (plusS (plusS (plusS w0 x.a y.d) x.b y.c) x.c y.b) x.d y.a) x.e c4)
    (plusS (plusS (plusS (plusS (plusS w0 x.a y.e) x.b y.d) x.c y.c) x.d y.b) x.e y.a)
def sqS (x : L5) : L5 :=
  let d0 := mul64 2 x.a
  let d1 := mul64 2 x.b
  let c3 := mul64 19 x.d
  let c4 := mul64 19 x.e
  foldedS
    (plusS (plusS (plusS w0 x.a x.a) d1 c4) (mul64 2 x.c) c3)
    (plusS (plusS (plusS w0 d0 x.b) (mul64 2 x.c) c4) x.d c3)
    (plusS (plusS (plusS w0 d0 x.c) x.b x.b) (mul64 2 x.d) c4)
    (plusS (plusS (plusS w0 d0 x.d) d1 x.c) x.e c4)
    (plusS (plusS (plusS w0 d0 x.e) d1 x.d) x.c x.c)
def timesS (x : L5) (n : Nat) : L5 := foldedS (plusS w0 x.a n) (plusS w0 x.b n) (plusS w0 x.c n) (plusS w0 x.d n) (plusS w0 x.e n)

end Pw
