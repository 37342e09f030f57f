/- A part of the proof, for all claims alike: PwFld, PwKey, PwRow, PwRowL, PwRef, PwCrv, PwPt. -/
import Derived.ProofKit
import Derived.SizedLaws
import Derived.Test.YtmhbhpmfbalbeaaPwMc
namespace Pw
open Go

/-! ### the words of the field, as the program computes them -/

structure L5 where
  a : Nat
  b : Nat
  c : Nat
  d : Nat
  e : Nat

def numV (x : L5) : AV := .agg [.u .u64 x.a, .u .u64 x.b, .u .u64 x.c, .u .u64 x.d, .u .u64 x.e]
def num? : AV → Option L5
  | .agg [.u .u64 a, .u .u64 b, .u .u64 c, .u .u64 d, .u .u64 e] => some ⟨a, b, c, d, e⟩
  | _ => none
theorem num?_some {v : AV} {x : L5} (h : num? v = some x) : v = numV x := by
  unfold num? at h
  split at h
  · cases h; rfl
  · cases h

structure W2 where
  hi : Nat
  lo : Nat
def wideV (x : W2) : AV := .agg [.u .u64 x.hi, .u .u64 x.lo]
def wide? : AV → Option W2
  | .agg [.u .u64 a, .u .u64 b] => some ⟨a, b⟩
  | _ => none
theorem wide?_some {v : AV} {x : W2} (h : wide? v = some x) : v = wideV x := by
  unfold wide? at h
  split at h
  · cases h; rfl
  · cases h

def u64? : AV → Option Nat
  | .u .u64 a => some a
  | _ => none
theorem u64?_some {v : AV} {x : Nat} (h : u64? v = some x) : v = .u .u64 x := by
  unfold u64? at h
  split at h
  · cases h; rfl
  · cases h

def M51 : Nat := 2251799813685247
def add64 (a b : Nat) : Nat := (a + b) % 2 ^ 64
def sub64 (a b : Nat) : Nat := (a + (2 ^ 64 - b)) % 2 ^ 64
def mul64 (a b : Nat) : Nat := a * b % 2 ^ 64
def shl64 (a n : Nat) : Nat := a * 2 ^ n % 2 ^ 64

/-- math/bits.Mul64, as its text computes it -/
def mulHi (x y : Nat) : Nat :=
  let x0 := x &&& 4294967295
  let x1 := x / 2 ^ 32
  let y0 := y &&& 4294967295
  let y1 := y / 2 ^ 32
  let w0 := mul64 x0 y0
  let t := add64 (mul64 x1 y0) (w0 / 2 ^ 32)
  let w1 := t &&& 4294967295
  let w2 := t / 2 ^ 32
  let w1 := add64 w1 (mul64 x0 y1)
  add64 (add64 (mul64 x1 y1) w2) (w1 / 2 ^ 32)

def carried (a b c d e : Nat) : L5 :=
  ⟨add64 (a &&& M51) (mul64 19 (e / 2 ^ 51)), add64 (b &&& M51) (a / 2 ^ 51), add64 (c &&& M51) (b / 2 ^ 51), add64 (d &&& M51) (c / 2 ^ 51), add64 (e &&& M51) (d / 2 ^ 51)⟩

def mul2V (x y : Nat) : AV := .tup [.u .u64 (mulHi x y), .u .u64 (mul64 x y)]

/-- a sum of products, plus one more -/
def plusS (s : W2) (a b : Nat) : W2 :=
  let lo := (s.lo + mul64 a b + 0) % 18446744073709551616
  let carry := (s.lo + mul64 a b + 0) / 18446744073709551616
  ⟨(s.hi + mulHi a b + carry) % 18446744073709551616, lo⟩

def overS (s : W2) : Nat := shl64 s.hi 13 ||| s.lo / 2 ^ 51


def bool? : AV → Option Bool
  | .bool b => some b
  | _ => none
theorem bool?_some {v : AV} {x : Bool} (h : bool? v = some x) : v = .bool x := by
  unfold bool? at h
  split at h
  · cases h; rfl
  · cases h
def u32? : AV → Option Nat
  | .u .u32 a => some a
  | _ => none
theorem u32?_some {v : AV} {x : Nat} (h : u32? v = some x) : v = .u .u32 x := by
  unfold u32? at h
  split at h
  · cases h; rfl
  · cases h
def u8? : AV → Option Nat
  | .u .u8 a => some a
  | _ => none
theorem u8?_some {v : AV} {x : Nat} (h : u8? v = some x) : v = .u .u8 x := by
  unfold u8? at h
  split at h
  · cases h; rfl
  · cases h
def int? : AV → Option Int
  | .n a => some a
  | _ => none
theorem int?_some {v : AV} {x : Int} (h : int? v = some x) : v = .n x := by
  unfold int? at h
  split at h
  · cases h; rfl
  · cases h

theorem wf1.wide {s : W2} (h : wf1 (wideV s)) : s.lo < 2 ^ 64 := by
  have := h.agg.cons.2.cons.1.u
  simpa [IntKind.bits] using this
theorem wf1.u64 {a : Nat} (h : wf1 (.u .u64 a)) : a < 2 ^ 64 := by simpa [IntKind.bits] using h.u

theorem plus_guard {s : W2} {a b : Nat} (h : s.lo < 2 ^ 64) : decide ((s.lo + mul64 a b + 0) / 18446744073709551616 ≤ 1) = true := by
  have : mul64 a b < 2 ^ 64 := Nat.mod_lt _ (by decide)
  exact decide_eq_true (by omega)

def zero5 : L5 := ⟨0, 0, 0, 0, 0⟩
def settledS (x : L5) : L5 := carried x.a x.b x.c x.d x.e
def smallS (n : Nat) : L5 := ⟨n &&& M51, n / 2 ^ 51, 0, 0, 0⟩
def addS (x y : L5) : L5 := carried (add64 x.a y.a) (add64 x.b y.b) (add64 x.c y.c) (add64 x.d y.d) (add64 x.e y.e)
def subS (x y : L5) : L5 :=
  carried (sub64 (add64 x.a 9007199254740916) y.a) (sub64 (add64 x.b 9007199254740988) y.b) (sub64 (add64 x.c 9007199254740988) y.c)
    (sub64 (add64 x.d 9007199254740988) y.d) (sub64 (add64 x.e 9007199254740988) y.e)
def negS (x : L5) : L5 := subS zero5 x
def w0 : W2 := ⟨0, 0⟩
def foldedS (r s t u v : W2) : L5 :=
  carried (add64 (r.lo &&& M51) (mul64 19 (overS v))) (add64 (s.lo &&& M51) (overS r)) (add64 (t.lo &&& M51) (overS s)) (add64 (u.lo &&& M51) (overS t)) (add64 (v.lo &&& M51) (overS u))
def mulS (x y : L5) : L5 :=
  let c1 := mul64 19 y.b
  let c2 := mul64 19 y.c
  let c3 := mul64 19 y.d
  let c4 := mul64 19 y.e
  foldedS
    (plusS (plusS (plusS (plusS (plusS w0 x.a y.a) x.b c4) x.c c3) x.d c2) x.e c1)
    (plusS (plusS (plusS (plusS (plusS w0 x.a y.b) x.b y.a) x.c c4) x.d c3) x.e c2)
    (plusS (plusS (plusS (plusS (plusS w0 x.a y.c) x.b y.b) x.c y.a) x.d c4) x.e c3)
    (plusS (plusS (plusS (plusS (plusS w0 x.a y.d) x.b y.c) x.c y.b) x.d y.a) x.e c4)
    (plusS (plusS (plusS (plusS (plusS w0 x.a y.e) x.b y.d) x.c y.c) x.d y.b) x.e y.a)
def sqS (x : L5) : L5 :=
  let d0 := mul64 2 x.a
  let d1 := mul64 2 x.b
  let c3 := mul64 19 x.d
  let c4 := mul64 19 x.e
  foldedS
    (plusS (plusS (plusS w0 x.a x.a) d1 c4) (mul64 2 x.c) c3)
    (plusS (plusS (plusS w0 d0 x.b) (mul64 2 x.c) c4) x.d c3)
    (plusS (plusS (plusS w0 d0 x.c) x.b x.b) (mul64 2 x.d) c4)
    (plusS (plusS (plusS w0 d0 x.d) d1 x.c) x.e c4)
    (plusS (plusS (plusS w0 d0 x.e) d1 x.d) x.c x.c)
def timesS (x : L5) (n : Nat) : L5 := foldedS (plusS w0 x.a n) (plusS w0 x.b n) (plusS w0 x.c n) (plusS w0 x.d n) (plusS w0 x.e n)

end Pw

namespace Pw
open Go

/-! ### 32 bytes -/

structure K32 where
  b0 : Nat
  b1 : Nat
  b2 : Nat
  b3 : Nat
  b4 : Nat
  b5 : Nat
  b6 : Nat
  b7 : Nat
  b8 : Nat
  b9 : Nat
  b10 : Nat
  b11 : Nat
  b12 : Nat
  b13 : Nat
  b14 : Nat
  b15 : Nat
  b16 : Nat
  b17 : Nat
  b18 : Nat
  b19 : Nat
  b20 : Nat
  b21 : Nat
  b22 : Nat
  b23 : Nat
  b24 : Nat
  b25 : Nat
  b26 : Nat
  b27 : Nat
  b28 : Nat
  b29 : Nat
  b30 : Nat
  b31 : Nat
  deriving DecidableEq

def keyV (k : K32) : AV := .agg [.u .u8 k.b0, .u .u8 k.b1, .u .u8 k.b2, .u .u8 k.b3, .u .u8 k.b4, .u .u8 k.b5, .u .u8 k.b6, .u .u8 k.b7, .u .u8 k.b8, .u .u8 k.b9, .u .u8 k.b10, .u .u8 k.b11, .u .u8 k.b12, .u .u8 k.b13, .u .u8 k.b14, .u .u8 k.b15, .u .u8 k.b16, .u .u8 k.b17, .u .u8 k.b18, .u .u8 k.b19, .u .u8 k.b20, .u .u8 k.b21, .u .u8 k.b22, .u .u8 k.b23, .u .u8 k.b24, .u .u8 k.b25, .u .u8 k.b26, .u .u8 k.b27, .u .u8 k.b28, .u .u8 k.b29, .u .u8 k.b30, .u .u8 k.b31]
def K32.toList (k : K32) : List Nat := [k.b0, k.b1, k.b2, k.b3, k.b4, k.b5, k.b6, k.b7, k.b8, k.b9, k.b10, k.b11, k.b12, k.b13, k.b14, k.b15, k.b16, k.b17, k.b18, k.b19, k.b20, k.b21, k.b22, k.b23, k.b24, k.b25, k.b26, k.b27, k.b28, k.b29, k.b30, k.b31]
def K32.of? : List Nat → Option K32
  | [b0, b1, b2, b3, b4, b5, b6, b7, b8, b9, b10, b11, b12, b13, b14, b15, b16, b17, b18, b19, b20, b21, b22, b23, b24, b25, b26, b27, b28, b29, b30, b31] => some ⟨b0, b1, b2, b3, b4, b5, b6, b7, b8, b9, b10, b11, b12, b13, b14, b15, b16, b17, b18, b19, b20, b21, b22, b23, b24, b25, b26, b27, b28, b29, b30, b31⟩
  | _ => none
def K32.ofFn (f : Nat → Nat) : K32 := ⟨f 0, f 1, f 2, f 3, f 4, f 5, f 6, f 7, f 8, f 9, f 10, f 11, f 12, f 13, f 14, f 15, f 16, f 17, f 18, f 19, f 20, f 21, f 22, f 23, f 24, f 25, f 26, f 27, f 28, f 29, f 30, f 31⟩
def key? : AV → Option K32
  | .agg cs => match toBytes cs with
    | some l => K32.of? l
    | none => none
  | _ => none
theorem of?_some {l : List Nat} {k : K32} (h : K32.of? l = some k) : l = k.toList := by
  unfold K32.of? at h
  split at h
  · cases h; rfl
  · cases h
theorem keyV_eq (k : K32) : keyV k = .agg (k.toList.map (AV.u .u8)) := rfl
theorem key?_some {v : AV} {k : K32} (h : key? v = some k) : v = keyV k := by
  unfold key? at h
  split at h
  · split at h
    · rename_i l hl
      rw [toBytes_eq hl, of?_some h]; rfl
    · cases h
  · cases h
theorem toBytes_map : ∀ l : List Nat, toBytes (l.map (AV.u .u8)) = some l
  | [] => rfl
  | a :: l => by simp [toBytes, toBytes_map l]
theorem key?_keyV (k : K32) : key? (keyV k) = some k := by
  rw [keyV_eq]; simp only [key?, toBytes_map]; rfl
/-- equality, byte by byte, as the evaluator has it -/
def keyEq (x y : K32) : Bool := decide (x.b0 = y.b0) && (decide (x.b1 = y.b1) && (decide (x.b2 = y.b2) && (decide (x.b3 = y.b3) && (decide (x.b4 = y.b4) && (decide (x.b5 = y.b5) && (decide (x.b6 = y.b6) && (decide (x.b7 = y.b7) && (decide (x.b8 = y.b8) && (decide (x.b9 = y.b9) && (decide (x.b10 = y.b10) && (decide (x.b11 = y.b11) && (decide (x.b12 = y.b12) && (decide (x.b13 = y.b13) && (decide (x.b14 = y.b14) && (decide (x.b15 = y.b15) && (decide (x.b16 = y.b16) && (decide (x.b17 = y.b17) && (decide (x.b18 = y.b18) && (decide (x.b19 = y.b19) && (decide (x.b20 = y.b20) && (decide (x.b21 = y.b21) && (decide (x.b22 = y.b22) && (decide (x.b23 = y.b23) && (decide (x.b24 = y.b24) && (decide (x.b25 = y.b25) && (decide (x.b26 = y.b26) && (decide (x.b27 = y.b27) && (decide (x.b28 = y.b28) && (decide (x.b29 = y.b29) && (decide (x.b30 = y.b30) && (decide (x.b31 = y.b31) && true)))))))))))))))))))))))))))))))
theorem keyEq_iff (x y : K32) : keyEq x y = decide (x = y) := by
  cases x; cases y
  simp [keyEq]
/-- bytes are below 256 -/
def K32.wf (k : K32) : Prop := ∀ b ∈ k.toList, b < 256
theorem wfL_mem {l : List AV} (h : wfL l) : ∀ a ∈ l, wf1 a := by
  obtain ⟨σ, m, h⟩ := h
  induction l generalizing m with
  | nil => simp
  | cons x l ih =>
    cases h with
    | cons _ v _ m h1 h2 =>
      intro a ha
      cases ha with
      | head => exact ⟨σ, v, h1⟩
      | tail _ ha => exact ih m h2 a ha
theorem wf1.key {k : K32} (h : wf1 (keyV k)) : k.wf := by
  rw [keyV_eq] at h
  intro b hb
  have := wfL_mem h.agg (.u .u8 b) (List.mem_map.2 ⟨b, hb, rfl⟩)
  simpa [IntKind.bits] using this.u
end Pw

namespace Pw
open Go Go.ChangeShapes Go.RowKit
variable {P : Program}

/-! ### arguments of plain types -/

theorem bytesR {l : List Value} (h : ∀ v ∈ l, ∃ n : Nat, v = .int .u8 (n : Int) ∧ n < 256) : ∃ l' : List Nat, l'.length = l.length ∧ ∀ σ, RL σ (l'.map (AV.u .u8)) l := by
  induction l with
  | nil => exact ⟨[], rfl, fun σ => .nil⟩
  | cons v l ih =>
    obtain ⟨n, rfl, hn⟩ := h v (by simp)
    obtain ⟨l', h1, h2⟩ := ih fun x hx => h x (by simp [hx])
    exact ⟨n :: l', by simp [h1], fun σ => .cons _ _ _ _ (.u .u8 n rfl (by simpa [IntKind.bits] using hn)) (h2 σ)⟩

def isArr : TypeDesc → Bool
  | .array _ _ => true
  | _ => false
def isInt (k : IntKind) : TypeDesc → Bool
  | .int k' => decide (k' = k)
  | _ => false
def keyTy (P : Program) (t : TypeId) : Bool :=
  (match P.underlying t with | some d => isArr d | none => false) && decide (P.cellsOf t = 32) &&
  (match P.cellTypes P.depth t with
    | some ts => ts.all fun u => match P.underlying u with | some d => isInt .u8 d | none => false
    | none => false)

theorem cellInt {k : IntKind} {u : TypeId} {d : TypeDesc} (hu : P.underlying u = some d) (hd : isInt k d = true) {W : World} {r : Reach} {base : Nat} {v : Value} (h : Cell.okWide P W r base u v) : ∃ n, v = .int k n ∧ k.has n := by
  cases d <;> simp [isInt] at hd
  subst hd
  unfold Cell.okWide at h
  rw [hu] at h
  simp only at h
  unfold Cell.ok at h
  rw [hu] at h
  cases v <;> simp at h
  obtain ⟨rfl, h2⟩ := h
  exact ⟨_, rfl, h2⟩

theorem has_u8 {n : Int} (h : IntKind.u8.has n) : ∃ m : Nat, n = (m : Int) ∧ m < 256 := by
  simp [IntKind.has, IntKind.min, IntKind.max, IntKind.signed, IntKind.bits] at h
  exact ⟨n.toNat, by omega, by omega⟩

theorem K32.of?_len {l : List Nat} (h : l.length = 32) : ∃ k, K32.of? l = some k := by
  match l, h with
  | [b0, b1, b2, b3, b4, b5, b6, b7, b8, b9, b10, b11, b12, b13, b14, b15, b16, b17, b18, b19, b20, b21, b22, b23, b24, b25, b26, b27, b28, b29, b30, b31], _ => exact ⟨_, rfl⟩

theorem argKey {t : TypeId} (h : keyTy P t = true) {W : World} {base : Nat} {v : Value} (hv : Value.okWide P W .any base t v) : ∃ k : K32, k.wf ∧ ∀ σ, R σ (keyV k) v := by
  simp only [keyTy, Bool.and_eq_true, decide_eq_true_eq] at h
  obtain ⟨⟨h1, h2⟩, h3⟩ := h
  split at h1
  · rename_i d hd
    cases d <;> simp [isArr] at h1
    unfold Value.okWide at hv
    rw [hd] at hv
    obtain ⟨cs, rfl, hsz, ts, hts, _, hc⟩ := hv
    rw [hts] at h3
    simp only [List.all_eq_true] at h3
    obtain ⟨l', hl, hr⟩ := bytesR (l := cs.toList) fun v hv => by
      obtain ⟨i, hi, rfl⟩ := List.getElem_of_mem hv
      obtain ⟨u, hu, hok⟩ := hc i cs.toList[i] (by simp at hi ⊢)
      have hm := List.mem_of_getElem? hu
      have h4 := h3 u hm
      split at h4
      · rename_i d hd2
        obtain ⟨n, e, hn⟩ := cellInt hd2 h4 hok
        obtain ⟨m, rfl, hm2⟩ := has_u8 hn
        exact ⟨m, e, hm2⟩
      · cases h4
    obtain ⟨k, hk⟩ := K32.of?_len (l := l') (by rw [hl]; simp [hsz, h2])
    have e := of?_some hk
    have hR : ∀ σ, R σ (keyV k) (.agg cs) := fun σ => by
      rw [keyV_eq, ← e]; exact .agg _ _ (hr σ)
    exact ⟨k, wf1.key ⟨fun _ => none, _, hR _⟩, hR⟩
  · cases h1

theorem argU {k : IntKind} {t : TypeId} {d : TypeDesc} (hu : P.underlying t = some d) (hd : isInt k d = true) (hs : k.signed = false) {W : World} {base : Nat} {v : Value} (hv : Value.okWide P W .any base t v) :
    ∃ n : Nat, n < 2 ^ k.bits ∧ ∀ σ, R σ (.u k n) v := by
  have hv' : Cell.okWide P W .any base t v := by
    unfold Value.okWide at hv
    rw [hu] at hv
    cases d <;> simp [isInt] at hd
    exact hv
  obtain ⟨n, rfl, hn⟩ := cellInt hu hd hv'
  have hpos : (0 : Int) ≤ n := by cases k <;> simp [IntKind.signed] at hs <;> simp [IntKind.has, IntKind.min, IntKind.signed] at hn <;> exact hn.1
  have hlt : n.toNat < 2 ^ k.bits := by
    cases k <;> simp [IntKind.signed] at hs <;> simp [IntKind.has, IntKind.max, IntKind.bits, IntKind.signed] at hn <;> simp [IntKind.bits] <;> omega
  refine ⟨n.toNat, hlt, fun σ => ?_⟩
  have e : n = (n.toNat : Int) := by omega
  rw [e]
  exact .u k _ hs hlt

theorem argN {t : TypeId} {d : TypeDesc} (hu : P.underlying t = some d) (hd : isInt .i64 d = true) {W : World} {base : Nat} {v : Value} (hv : Value.okWide P W .any base t v) :
    ∃ n : Int, ∀ σ, R σ (.n n) v := by
  have hv' : Cell.okWide P W .any base t v := by
    unfold Value.okWide at hv
    rw [hu] at hv
    cases d <;> simp [isInt] at hd
    exact hv
  obtain ⟨n, rfl, hn⟩ := cellInt hu hd hv'
  simp [IntKind.has, IntKind.min, IntKind.max, IntKind.signed, IntKind.bits] at hn
  exact ⟨n, fun σ => .n n (by omega) (by omega)⟩

theorem argBool {t : TypeId} (hu : P.underlying t = some .bool) {W : World} {base : Nat} {v : Value} (hv : Value.okWide P W .any base t v) : ∃ b, ∀ σ, R σ (.bool b) v := by
  unfold Value.okWide at hv
  rw [hu] at hv
  simp only at hv
  unfold Cell.okWide at hv
  rw [hu] at hv
  simp only at hv
  unfold Cell.ok at hv
  rw [hu] at hv
  cases v <;> simp at hv
  exact ⟨_, fun σ => .bool _⟩

/-! ### a law's row -/

section
variable {H : Type} {enc : TypeId × Value → H}

theorem trodAll_below (hl : laidOutB P = true) {W W' : World} (hb : Below W.heap.size W W') : ∀ {ts : List TypeId} {vs : List Value} {ds : List (DataW H)} {p : List MemPlace},
    (∀ t ∈ ts, P.readableRec t = true ∧ t < P.types.size) → DataW.TrodAll enc P W 0 (fun _ => true) true ts vs ds p → (∀ x ∈ p, x.block < W.heap.size) →
    DataW.TrodAll enc P W' 0 (fun b => decide (b < W.heap.size)) true ts vs ds p
  | [], _, _, _, _, h, _ => by
    obtain ⟨rfl, rfl, rfl⟩ := trodAll_nil h
    exact trodAll_mk0
  | t :: ts, _, _, _, ht, h, hlt => by
    obtain ⟨v, vs1, d, ds1, a, b, rfl, rfl, rfl, h1, h2⟩ := trodAll_cons h
    have := ht t (by simp)
    exact ⟨a, b, Below.trod hl this.1 this.2 h1 hb (fun x hx => hlt x (by simp [hx])), trodAll_below hl hb (fun t' h' => ht t' (by simp [h'])) h2 (fun x hx => hlt x (by simp [hx])), rfl⟩

theorem trodAll_length : ∀ {ts : List TypeId} {vs : List Value} {ds : List (DataW H)} {p : List MemPlace} {W : World} {base : Nat} {sp : Nat → Bool} {hd : Bool},
    DataW.TrodAll enc P W base sp hd ts vs ds p → vs.length = ts.length ∧ ds.length = ts.length
  | [], _, _, _, _, _, _, _, h => by
    obtain ⟨rfl, rfl, rfl⟩ := trodAll_nil h
    exact ⟨rfl, rfl⟩
  | t :: ts, _, _, _, _, _, _, _, h => by
    obtain ⟨v, vs1, d, ds1, a, b, rfl, rfl, rfl, h1, h2⟩ := trodAll_cons h
    have := trodAll_length h2
    simp [this.1, this.2]

/-- from a run that answers true and writes nothing that was there to the row's word -/
theorem law_lifted {C : Checked} {os : Os} {f : FuncId} {fn : Func} {s : ChangeSpec} {conds : List PathCond} {apart : Bool} {tb : TypeId}
    (own : ownKnob C.prog.godebug = none) (started : os.Started) (noInit : C.prog.inits.idxOf? f = none) (hfn : C.prog.funcs[f]? = some fn)
    (witness : ∃ (w : World) (tape : Tape) (i : Input), w.os = os ∧ (w.forCall tape i).Shaped C.prog ∧ i.vars = [] ∧ Input.okWide C.prog (w.forCall tape i) .any w.heap.size f i ∧
      s.pre6 enc C.prog fn conds apart (w.forCall tape i).memory i.args ∧ ({} : Assume).holds C.prog (lone (Frame.enter C.prog f i.args .normal) [] (w.forCall tape i)))
    (hvars : s.vars = [])
    (hspec : ∀ ds : List (DataW H), ds.length = fn.params.size → s.fn H ds = { results := [.lit (.bool true)], args := ds })
    (hres : fn.resultTypes = #[tb]) (hb : C.prog.underlying tb = some .bool) (hl : laidOutB C.prog = true)
    (hrd : fn.params.all (fun t => C.prog.readableRec t && decide (t < C.prog.types.size)) = true)
    (walk : ∀ (W : World) (base : Nat) (args : Array Value) (ds : List (DataW H)) (p : List MemPlace),
      (∀ (j : Nat) t v, fn.params[j]? = some t → args[j]? = some v → Value.okWide C.prog W .any base t v) →
      args.size = fn.params.size →
      DataW.TrodAll enc C.prog W 0 (fun _ => true) true fn.params.toList args.toList ds p →
      (∀ x ∈ p, x.block < W.heap.size) →
      (DataW.weightsEach C.prog fn.params.toList ds).all (· ≤ reachBytes) = true →
      Calls C.prog f args W fun e W' => e = .returned (.bool true) ∧ Below W.heap.size W W') :
    ReturnsInHanded {} C os f .any (s.pre6 enc C.prog fn conds apart) (s.post enc C.prog fn apart true false false) := by
  refine returnsInHanded_of_change_sized own started noInit hfn witness ?_
  intro W base args ds gs before hval hW _ hsz _
  have hW' := hW
  obtain ⟨p, q, hA, hV, rfl, _, _⟩ := hW
  rw [hvars] at hV
  obtain ⟨rfl, rfl⟩ := trodVars_none hV
  simp only [List.append_nil] at hW' hsz
  have hlt : ∀ x ∈ p, x.block < W.heap.size := fun x hx => by simpa using hW'.lt x hx
  have hlen := trodAll_length hA
  have hvt : s.plain.varTypes C.prog = [] := by
    unfold ChangeSpec.plain DataSpec.varTypes
    simp only [hvars]
    rfl
  rw [hvt, List.append_nil] at hsz
  have hrd' : ∀ t ∈ fn.params.toList, C.prog.readableRec t = true ∧ t < C.prog.types.size := by
    intro t ht
    simp only [Array.all_eq_true_iff_forall_mem, Bool.and_eq_true, decide_eq_true_eq] at hrd
    exact hrd t (by simpa using ht)
  refine (walk W base args ds p hval (by simpa using hlen.1) hA hlt hsz).mono fun e W' ⟨he, hbw⟩ => ?_
  subst he
  have hs : s.fn H (ds ++ []) = { results := [.lit (.bool true)], args := ds } := by
    rw [List.append_nil]; exact hspec ds (by simpa using hlen.2)
  refine ⟨_, rfl, ds, [], p, [], p, [], hW', ?_, ?_, ?_, hbw.frame _, fun h => by cases h⟩
  · rw [hs, hres]
    exact trodAll_mk1 (shut_bool hb true)
  · rw [hs]
    exact trodAll_below hl hbw hrd' hA hlt
  · rw [hs, hvars]; rfl
end

/-- the run of a law on plain values -/
theorem law_runL {X : Cx} (hX : CxOK P X) {L : Loops} {keep : List Nat} {fuel : Nat} {f : FuncId} {fn : Func} {c : Code} {args : List AV} (hf : P.funcs[f]? = some fn) (hb : fn.body = some c) (hL : LoopsOK P fn.ntmps L c)
    (h : runQL X L keep fuel fn c args = some (.bool true)) {W : World} {real : Array Value} (hr : RL (fun _ => none) args real.toList) :
    Calls P f real W fun e W' => e = .returned (.bool true) ∧ Below W.heap.size W W' := by
  unfold runQL at h
  split at h
  · rename_i hc
    obtain ⟨v', mem', h, hs⟩ := runKL_sound hX hf hb hL h
    split at h
    · rename_i hcv
      simp only [Option.some.injEq] at h
      subst h
      refine (hs W _ _ W real (St.empty W) (hr.closed hc)).mono fun e w' ⟨σ', rv, he, _, hv, hst⟩ => ?_
      cases hv
      exact ⟨he, Below.mk hst.1.os hst.1.tape hst.1.output hst.1.size (fun k hk => hst.1.old k hk (fun h => h))⟩
    · cases h
  · cases h

theorem law_run {X : Cx} (hX : CxOK P X) {keep : List Nat} {fuel : Nat} {f : FuncId} {fn : Func} {c : Code} {args : List AV} (hf : P.funcs[f]? = some fn) (hb : fn.body = some c)
    (h : runQ X keep fuel fn c args = some (.bool true)) {W : World} {real : Array Value} (hr : RL (fun _ => none) args real.toList) :
    Calls P f real W fun e W' => e = .returned (.bool true) ∧ Below W.heap.size W W' := law_runL hX hf hb LoopsOK.nil h hr
end Pw

namespace Pw
open Go Go.ChangeShapes Go.RowKit

variable {P : Program}

/-! ### arguments that are lists of bytes -/

theorem mapM_get {α β : Type} {f : α → Option β} : ∀ {l : List α} {m : List β}, l.mapM f = some m → m.length = l.length ∧ ∀ (i : Nat) (a : α), l[i]? = some a → ∃ b, f a = some b ∧ m[i]? = some b
  | [], m, h => by simp at h; subst h; simp
  | a :: l, m, h => by
    simp only [List.mapM_cons, Option.bind_eq_bind, Option.bind_eq_some_iff] at h
    obtain ⟨b, hb, m', hm', h⟩ := h
    simp only [Option.pure_def, Option.some.injEq] at h
    subst h
    obtain ⟨h1, h2⟩ := mapM_get hm'
    refine ⟨by simp [h1], fun i x hx => ?_⟩
    cases i with
    | zero => simp at hx; subst hx; exact ⟨b, hb, rfl⟩
    | succ i => simpa using h2 i x (by simpa using hx)

/-- what is handed in as a list of bytes -/
def isU8Slice (P : Program) (t : TypeId) : Bool := match P.underlying t with
  | some (.slice e) => (match P.underlying e with | some (.int .u8) => decide (P.cellsOf e = 1) && decide (P.bytesOf e = 1) | _ => false)
  | _ => false

theorem argBytes' {H : Type} {enc : TypeId × Value → H} {t : TypeId} (h : isU8Slice P t = true) {W : World} {v : Value} {d : DataW H} {p : List MemPlace}
    (hsl : ∃ a len cap, v = .slice a len cap) (ht : DataW.Trod enc P W 0 (fun _ => true) true t v d p) (hw : (d.weights P t).all (· ≤ reachBytes) = true) :
    ∃ l : List Nat, (∀ b ∈ l, b < 256) ∧ l.length ≤ 140737488351232 ∧ ((∃ a, v = .slice a 0 0 ∧ l = []) ∨
      ∃ b δ s cap, v = .slice (some ⟨b, δ, none⟩) l.length cap ∧ l.length ≤ cap ∧ cap < 9223372036854775808 ∧ b < W.heap.size ∧ BlkRel (fun _ => none) (blkOf l) b δ s W) := by
  obtain ⟨fuel, hf⟩ := ht
  unfold isU8Slice at h
  split at h
  · rename_i e hu
    split at h
    · rename_i hue
      simp only [Bool.and_eq_true, decide_eq_true_eq] at h
      obtain ⟨hc, hb1⟩ := h
      cases fuel with
      | zero => simp [DataW.trod] at hf
      | succ fuel =>
        unfold DataW.trod at hf
        rw [hu] at hf
        cases v with
        | slice a len cap =>
          simp only [Value.cells, List.toList_toArray] at hf
          cases a with
          | none =>
            cases len with
            | zero => cases cap with
              | zero => exact ⟨[], by simp, by simp, .inl ⟨none, rfl, rfl⟩⟩
              | succ c => simp at hf
            | succ n => simp at hf
          | some a =>
            simp only at hf
            split at hf
            · rename_i hcond
              rw [Option.bind_eq_some_iff] at hf
              obtain ⟨elems, he, hf⟩ := hf
              rw [Option.map_eq_some_iff] at hf
              obtain ⟨rest, hrest, hf⟩ := hf
              simp only [Prod.mk.injEq] at hf
              obtain ⟨hd, -⟩ := hf
              subst hd
              obtain ⟨hel, heg⟩ := mapM_get he
              rw [List.length_range] at hel
              have hroom : len ≤ 140737488351232 := by
                simp only [DataW.weights, hu, List.all_cons, Bool.and_eq_true, decide_eq_true_eq, List.length_map] at hw
                have := hw.1
                rw [hel, hb1] at this
                simp only [reachBytes] at this; omega
              -- each element
              have hcell : ∀ i, i < len → ∃ n : Nat, n < 256 ∧ W.cell? (a.add i) = some (.int .u8 (n : Int)) := by
                intro i hi
                obtain ⟨x, hx, -⟩ := heg i i (by rw [List.getElem?_range hi])
                rw [Option.bind_eq_some_iff] at hx
                obtain ⟨cs, hcs, hx⟩ := hx
                unfold World.cells? at hcs
                rw [if_pos (Nat.zero_le _), hc] at hcs
                obtain ⟨hl1, hg1⟩ := mapM_get hcs
                obtain ⟨v0, hv0, hv1⟩ := hg1 0 0 (by simp)
                have hcs1 : cs = [v0] := by
                  match cs, hl1, hv1 with
                  | [w], _, h => simp at h; rw [h]
                subst hcs1
                cases fuel with
                | zero => simp [DataW.trod] at hx
                | succ fuel =>
                  unfold DataW.trod at hx
                  rw [hue] at hx
                  cases v0 with
                  | int k n =>
                    simp only at hx
                    split at hx
                    · rename_i hk
                      obtain ⟨rfl, hwf⟩ := hk
                      simp [Lit.wf, IntKind.min, IntKind.max, IntKind.signed, IntKind.bits] at hwf
                      refine ⟨n.toNat, by omega, ?_⟩
                      rw [Int.toNat_of_nonneg hwf.1]
                      simpa [hc, Addr.add] using hv0
                    · cases hx
                  | _ => simp at hx
              by_cases hz : len = 0
              · subst hz
                by_cases hz2 : cap = 0
                · subst hz2; exact ⟨[], by simp, by simp, .inl ⟨some a, rfl, rfl⟩⟩
                · -- an empty list with room: the room's cells tell the block
                  have hrl : ∃ n : Nat, n < 256 ∧ W.cell? a = some (.int .u8 (n : Int)) := by
                    rw [if_pos trivial] at hrest
                    obtain ⟨-, hrg⟩ := mapM_get hrest
                    obtain ⟨x, hx, -⟩ := hrg 0 0 (by rw [List.getElem?_range (by omega)])
                    rw [Option.bind_eq_some_iff] at hx
                    obtain ⟨cs, hcs, hx⟩ := hx
                    unfold World.cells? at hcs
                    rw [if_pos (Nat.zero_le _), hc] at hcs
                    obtain ⟨hl1, hg1⟩ := mapM_get hcs
                    obtain ⟨v0, hv0, hv1⟩ := hg1 0 0 (by simp)
                    have hcs1 : cs = [v0] := by
                      match cs, hl1, hv1 with
                      | [w], _, h => simp at h; rw [h]
                    subst hcs1
                    cases fuel with
                    | zero => simp [DataW.trod] at hx
                    | succ fuel =>
                      unfold DataW.trod at hx
                      rw [hue] at hx
                      cases v0 with
                      | int k n =>
                        simp only at hx
                        split at hx
                        · rename_i hk
                          obtain ⟨rfl, hwf⟩ := hk
                          simp [Lit.wf, IntKind.min, IntKind.max, IntKind.signed, IntKind.bits] at hwf
                          refine ⟨n.toNat, by omega, ?_⟩
                          rw [Int.toNat_of_nonneg hwf.1]
                          simpa [hc, Addr.add] using hv0
                        · cases hx
                      | _ => simp at hx
                  obtain ⟨n, -, hn⟩ := hrl
                  obtain ⟨b, δ, sp⟩ := a
                  unfold World.cell? at hn
                  cases sp with
                  | some y => simp at hn; split at hn <;> simp at hn
                  | none =>
                    simp only at hn
                    split at hn
                    · rename_i C e0 fz heq
                      refine ⟨[], by simp, by simp, .inr ⟨b, δ, C.size - δ, cap, rfl, by simp, ?_, (Array.getElem?_eq_some_iff.1 heq).1, ?_⟩⟩
                      · have := hcond.2.2; simp only [maxLen] at this; omega
                      · have hlt : δ < C.size := (Array.getElem?_eq_some_iff.1 hn).1
                        exact ⟨C, e0, fz.1, fz.2, heq, by omega, by simp [blkOf, Cont.size], fun o v hv => by simp [blkOf, Cont.at?] at hv, fun hw => by simp [blkOf] at hw⟩
                    · cases hn
              · -- the list of the bytes
                have hlist : ∀ m, m ≤ len → ∃ l : List Nat, l.length = m ∧ (∀ b ∈ l, b < 256) ∧ ∀ (i : Nat) (n : Nat), l[i]? = some n → W.cell? (a.add i) = some (.int .u8 (n : Int)) := by
                  intro m
                  induction m with
                  | zero => intro _; exact ⟨[], rfl, by simp, by simp⟩
                  | succ m ih =>
                    intro hm
                    obtain ⟨l, h1, h2, h3⟩ := ih (by omega)
                    obtain ⟨n, hn, hn2⟩ := hcell m (by omega)
                    refine ⟨l ++ [n], by simp [h1], fun b hb => ?_, fun i k hk => ?_⟩
                    · rcases List.mem_append.1 hb with h | h
                      · exact h2 b h
                      · simp at h; subst h; exact hn
                    · rcases Nat.lt_or_ge i l.length with h | h
                      · rw [List.getElem?_append_left h] at hk; exact h3 i k hk
                      · rw [List.getElem?_append_right h] at hk
                        cases hd : i - l.length with
                        | zero =>
                          rw [hd] at hk
                          simp at hk
                          subst hk
                          have : i = m := by omega
                          subst this; exact hn2
                        | succ q => rw [hd] at hk; simp at hk
                obtain ⟨l, h1, h2, h3⟩ := hlist len (Nat.le_refl _)
                subst h1
                obtain ⟨n0, hn0⟩ : ∃ n0, l[0]? = some n0 := ⟨l[0]'(by omega), List.getElem?_eq_getElem (by omega)⟩
                have h0 := h3 0 n0 hn0
                obtain ⟨b, δ, sp⟩ := a
                have hsp : sp = none := by
                  cases sp with
                  | none => rfl
                  | some y =>
                    unfold World.cell? at h0
                    simp only [Addr.add] at h0
                    split at h0 <;> simp at h0
                subst hsp
                have hblk : ∃ C e0 fz, W.heap[b]? = some (.cells C e0 fz) := by
                  unfold World.cell? at h0
                  simp only [Addr.add] at h0
                  split at h0
                  · rename_i C e0 fz heq; exact ⟨C, e0, fz, heq⟩
                  · cases h0
                obtain ⟨C, e0, fz, heq⟩ := hblk
                have hg : ∀ (i n : Nat), l[i]? = some n → C[δ + i]? = some (.int .u8 (n : Int)) := by
                  intro i n hi
                  have := h3 i n hi
                  rw [add_addr] at this; simpa [World.cell?, heq] using this
                have hlast : δ + l.length ≤ C.size := by
                  obtain ⟨m, hm⟩ : ∃ m, l[l.length - 1]? = some m := ⟨l[l.length - 1]'(by omega), List.getElem?_eq_getElem (by omega)⟩
                  have := (Array.getElem?_eq_some_iff.1 (hg _ _ hm)).1
                  omega
                refine ⟨l, h2, hroom, .inr ⟨b, δ, C.size - δ, cap, rfl, hcond.2.1, ?_, (Array.getElem?_eq_some_iff.1 heq).1, ?_⟩⟩
                · have := hcond.2.2; simp only [maxLen] at this; omega
                · refine ⟨C, e0, fz.1, fz.2, heq, by omega, by simp only [blkOf, Cont.size]; omega, fun o v hv => ?_, fun hw => by simp [blkOf] at hw⟩
                  simp only [blkOf, Cont.at?, Option.map_eq_some_iff] at hv
                  obtain ⟨n, hn, rfl⟩ := hv
                  exact ⟨_, hg o n hn, .u _ _ rfl (by simp only [IntKind.bits]; exact h2 n (List.mem_of_getElem? hn))⟩
            · cases hf
        | _ => obtain ⟨_, _, _, h⟩ := hsl; cases h
    · cases h
  · cases h

/-- a value of a type that is a list is one -/
theorem slice_arg {t e : TypeId} (hu : P.underlying t = some (.slice e)) {W : World} {v : Value} {base : Nat} (hval : Value.okWide P W .any base t v) : ∃ a len cap, v = .slice a len cap := by
  unfold Value.okWide at hval
  rw [hu] at hval
  simp only at hval
  unfold Cell.okWide at hval
  rw [hu] at hval
  simp only at hval
  unfold Cell.ok at hval
  rw [hu] at hval
  cases v <;> simp at hval
  exact ⟨_, _, _, rfl⟩

theorem argBytes {H : Type} {enc : TypeId × Value → H} {t : TypeId} (h : isU8Slice P t = true) {W : World} {v : Value} {d : DataW H} {p : List MemPlace}
    {base : Nat} (hval : Value.okWide P W .any base t v) (ht : DataW.Trod enc P W 0 (fun _ => true) true t v d p) (hw : (d.weights P t).all (· ≤ reachBytes) = true) :
    ∃ l : List Nat, (∀ b ∈ l, b < 256) ∧ l.length ≤ 140737488351232 ∧ ((∃ a, v = .slice a 0 0 ∧ l = []) ∨
      ∃ b δ s cap, v = .slice (some ⟨b, δ, none⟩) l.length cap ∧ l.length ≤ cap ∧ cap < 9223372036854775808 ∧ b < W.heap.size ∧ BlkRel (fun _ => none) (blkOf l) b δ s W) := by
  have hsl : ∃ a len cap, v = .slice a len cap := by
    unfold isU8Slice at h
    split at h
    · rename_i e hu; exact slice_arg hu hval
    · cases h
  exact argBytes' h hsl ht hw

/-- lists among the arguments, each put under a number -/
theorem NSt.arg {w : World} {σ0 : Ren} {ls : List (List Nat)} (h : NSt w σ0 ls) {l : List Nat} {v : Value} (hv : (∃ a, v = .slice a 0 0 ∧ l = []) ∨
      ∃ b δ s cap, v = .slice (some ⟨b, δ, none⟩) l.length cap ∧ l.length ≤ cap ∧ cap < 9223372036854775808 ∧ b < w.heap.size ∧ BlkRel (fun _ => none) (blkOf l) b δ s w) :
    ∃ σ1, Ext σ0 σ1 ∧ NSt w σ1 (ls ++ [l]) ∧ R σ1 (.slice ls.length 0 l.length false) v := by
  rcases hv with ⟨a, rfl, rfl⟩ | ⟨b, δ, s, cap, rfl, h1, h2, h3, h4⟩
  · obtain ⟨σ1, e1, e2, n1⟩ := h.snoc (l := []) none (fun _ _ _ h => by cases h)
    exact ⟨σ1, e1, n1, .slic0 _ _ _ _⟩
  · obtain ⟨σ1, e1, e2, n1⟩ := h.snoc (l := l) (some (b, δ, s)) (fun b' δ' s' h => by cases h; exact ⟨h3, h4⟩)
    refine ⟨σ1, e1, n1, ?_⟩
    have := R.slice (σ := σ1) ls.length 0 l.length false cap b δ s e2 h1 h2 (by simp)
    simpa using this

/-- the run of a law on plain values and lists of bytes -/
theorem law_runN {X : Cx} (hX : CxOK P X) {L : Loops} {keep : List Nat} {fuel : Nat} {f : FuncId} {fn : Func} {c : Code} {args : List AV} {ls : List (List Nat)} (hf : P.funcs[f]? = some fn) (hb : fn.body = some c) (hL : LoopsOK P fn.ntmps L c)
    (h : runNL X L keep fuel fn c args ls = some (.bool true, none)) {W : World} {σ : Ren} {real : Array Value} (hn : NSt W σ ls) (hr : RL σ args real.toList) :
    Calls P f real W fun e W' => e = .returned (.bool true) ∧ Below W.heap.size W W' := by
  unfold runNL at h
  obtain ⟨v', mem', h, hs⟩ := runKL_sound hX hf hb hL h
  have hv' : v' = .bool true := by
    split at h
    · simp only [Option.some.injEq, Prod.mk.injEq] at h; exact h.1
    · split at h
      · split at h
        · obtain ⟨-, h⟩ := bif_some h
          split at h
          · simp at h
          · cases h
        · cases h
      · cases h
  subst hv'
  refine (hs W _ _ W real hn.fst hr).mono fun e w' ⟨σ', rv, he, _, hv, hst⟩ => ?_
  cases hv
  exact ⟨he, Below.mk hst.1.os hst.1.tape hst.1.output hst.1.size (fun k hk => hst.1.old k hk (fun h => h))⟩

end Pw

namespace Pw
open Go

/-! ### the program's From, least, Bytes -/

def from_a (k : K32) : Nat := (((((((0 ||| (shl64 k.b0 0 &&& M51)) ||| (shl64 k.b1 8 &&& M51)) ||| (shl64 k.b2 16 &&& M51)) ||| (shl64 k.b3 24 &&& M51)) ||| (shl64 k.b4 32 &&& M51)) ||| (shl64 k.b5 40 &&& M51)) ||| (shl64 k.b6 48 &&& M51))
def from_b (k : K32) : Nat := (((((((0 ||| k.b6 / 2 ^ 3) ||| (shl64 k.b7 5 &&& M51)) ||| (shl64 k.b8 13 &&& M51)) ||| (shl64 k.b9 21 &&& M51)) ||| (shl64 k.b10 29 &&& M51)) ||| (shl64 k.b11 37 &&& M51)) ||| (shl64 k.b12 45 &&& M51))
def from_c (k : K32) : Nat := ((((((((0 ||| k.b12 / 2 ^ 6) ||| (shl64 k.b13 2 &&& M51)) ||| (shl64 k.b14 10 &&& M51)) ||| (shl64 k.b15 18 &&& M51)) ||| (shl64 k.b16 26 &&& M51)) ||| (shl64 k.b17 34 &&& M51)) ||| (shl64 k.b18 42 &&& M51)) ||| (shl64 k.b19 50 &&& M51))
def from_d (k : K32) : Nat := (((((((0 ||| k.b19 / 2 ^ 1) ||| (shl64 k.b20 7 &&& M51)) ||| (shl64 k.b21 15 &&& M51)) ||| (shl64 k.b22 23 &&& M51)) ||| (shl64 k.b23 31 &&& M51)) ||| (shl64 k.b24 39 &&& M51)) ||| (shl64 k.b25 47 &&& M51))
def from_e (k : K32) : Nat := (((((((0 ||| k.b25 / 2 ^ 4) ||| (shl64 k.b26 4 &&& M51)) ||| (shl64 k.b27 12 &&& M51)) ||| (shl64 k.b28 20 &&& M51)) ||| (shl64 k.b29 28 &&& M51)) ||| (shl64 k.b30 36 &&& M51)) ||| (shl64 (k.b31 &&& 127) 44 &&& M51))
def fromS (k : K32) : L5 := settledS ⟨from_a k, from_b k, from_c k, from_d k, from_e k⟩

def leastOf (w : L5) : L5 :=
  let c0 := add64 w.a 19 / 2 ^ 51
  let c1 := add64 w.b c0 / 2 ^ 51
  let c2 := add64 w.c c1 / 2 ^ 51
  let c3 := add64 w.d c2 / 2 ^ 51
  let c4 := add64 w.e c3 / 2 ^ 51
  let a := add64 w.a (mul64 19 c4)
  let b := add64 w.b (a / 2 ^ 51)
  let c := add64 w.c (b / 2 ^ 51)
  let d := add64 w.d (c / 2 ^ 51)
  let e := add64 w.e (d / 2 ^ 51)
  ⟨a &&& M51, b &&& M51, c &&& M51, d &&& M51, e &&& M51⟩
def leastS (x : L5) : L5 := leastOf (settledS x)

def bytesOf (w : L5) : K32 := ⟨(w.a / 2 ^ 0) % 2 ^ 8, (w.a / 2 ^ 8) % 2 ^ 8, (w.a / 2 ^ 16) % 2 ^ 8, (w.a / 2 ^ 24) % 2 ^ 8, (w.a / 2 ^ 32) % 2 ^ 8, (w.a / 2 ^ 40) % 2 ^ 8, (w.a / 2 ^ 48 ||| shl64 w.b 3) % 2 ^ 8, (w.b / 2 ^ 5) % 2 ^ 8, (w.b / 2 ^ 13) % 2 ^ 8, (w.b / 2 ^ 21) % 2 ^ 8, (w.b / 2 ^ 29) % 2 ^ 8, (w.b / 2 ^ 37) % 2 ^ 8, (w.b / 2 ^ 45 ||| shl64 w.c 6) % 2 ^ 8, (w.c / 2 ^ 2) % 2 ^ 8, (w.c / 2 ^ 10) % 2 ^ 8, (w.c / 2 ^ 18) % 2 ^ 8, (w.c / 2 ^ 26) % 2 ^ 8, (w.c / 2 ^ 34) % 2 ^ 8, (w.c / 2 ^ 42) % 2 ^ 8, (w.c / 2 ^ 50 ||| shl64 w.d 1) % 2 ^ 8, (w.d / 2 ^ 7) % 2 ^ 8, (w.d / 2 ^ 15) % 2 ^ 8, (w.d / 2 ^ 23) % 2 ^ 8, (w.d / 2 ^ 31) % 2 ^ 8, (w.d / 2 ^ 39) % 2 ^ 8, (w.d / 2 ^ 47 ||| shl64 w.e 4) % 2 ^ 8, (w.e / 2 ^ 4) % 2 ^ 8, (w.e / 2 ^ 12) % 2 ^ 8, (w.e / 2 ^ 20) % 2 ^ 8, (w.e / 2 ^ 28) % 2 ^ 8, (w.e / 2 ^ 36) % 2 ^ 8, (w.e / 2 ^ 44) % 2 ^ 8⟩
def bytesS (x : L5) : K32 := bytesOf (leastS x)
def zeroK : K32 := ⟨0, 0, 0, 0, 0, 0, 0, 0, 0, 0, 0, 0, 0, 0, 0, 0, 0, 0, 0, 0, 0, 0, 0, 0, 0, 0, 0, 0, 0, 0, 0, 0⟩
def equalS (x y : L5) : Bool := keyEq (bytesS x) (bytesS y)
def isZeroS (x : L5) : Bool := keyEq (bytesS x) zeroK
def oddS (x : L5) : Bool := decide ((leastS x).a &&& 1 = 1)

/-! ### the document's numbers: four digits -/

structure L4 where
  a : Nat
  b : Nat
  c : Nat
  d : Nat
  deriving DecidableEq

def rnumV (x : L4) : AV := .agg [.u .u64 x.a, .u .u64 x.b, .u .u64 x.c, .u .u64 x.d]
def rnum? : AV → Option L4
  | .agg [.u .u64 a, .u .u64 b, .u .u64 c, .u .u64 d] => some ⟨a, b, c, d⟩
  | _ => none
theorem rnum?_some {v : AV} {x : L4} (h : rnum? v = some x) : v = rnumV x := by
  unfold rnum? at h
  split at h
  · cases h; rfl
  · cases h
def L4.wf (x : L4) : Prop := x.a < 2 ^ 64 ∧ x.b < 2 ^ 64 ∧ x.c < 2 ^ 64 ∧ x.d < 2 ^ 64
theorem wf1.rnum {x : L4} (h : wf1 (rnumV x)) : x.wf := by
  have h1 := h.agg.cons
  have h2 := h1.2.cons
  have h3 := h2.2.cons
  have h4 := h3.2.cons
  exact ⟨h1.1.u64, h2.1.u64, h3.1.u64, h4.1.u64⟩
def L5.wf (x : L5) : Prop := x.a < 2 ^ 64 ∧ x.b < 2 ^ 64 ∧ x.c < 2 ^ 64 ∧ x.d < 2 ^ 64 ∧ x.e < 2 ^ 64
theorem wf1.num {x : L5} (h : wf1 (numV x)) : x.wf := by
  have h1 := h.agg.cons
  have h2 := h1.2.cons
  have h3 := h2.2.cons
  have h4 := h3.2.cons
  have h5 := h4.2.cons
  exact ⟨h1.1.u64, h2.1.u64, h3.1.u64, h4.1.u64, h5.1.u64⟩

/-- math/bits.Sub64: the difference and what is borrowed -/
def sb (x y b : Nat) : Nat := (x + 18446744073709551616 - y - b) % 18446744073709551616
def bb (x y b : Nat) : Nat := bif decide (x < y + b) then 1 else 0
theorem bb_le (x y b : Nat) : bb x y b ≤ 1 := by unfold bb; cases decide (x < y + b) <;> decide
theorem bb_guard (x y b : Nat) : decide (bb x y b ≤ 1) = true := decide_eq_true (bb_le x y b)

def primeD : L4 := ⟨18446744073709551597, 18446744073709551615, 18446744073709551615, 9223372036854775807⟩
def minB0 (x y : L4) : Nat := bb x.a y.a 0
def minB1 (x y : L4) : Nat := bb x.b y.b (minB0 x y)
def minB2 (x y : L4) : Nat := bb x.c y.c (minB1 x y)
def minB (x y : L4) : Nat := bb x.d y.d (minB2 x y)
def minD (x y : L4) : L4 := ⟨sb x.a y.a 0, sb x.b y.b (minB0 x y), sb x.c y.c (minB1 x y), sb x.d y.d (minB2 x y)⟩
def minV (x y : L4) : AV := .tup [rnumV (minD x y), .u .u64 (minB x y)]
def belowR (x : L4) : L4 := bif decide (minB x primeD = 1) then x else minD x primeD
theorem bif_some_eq {α β : Type} (c : Bool) (f : α → β) (x y : α) : (bif c then some (f x) else some (f y)) = some (f (bif c then x else y)) := by cases c <;> rfl
def ac (x y c : Nat) : Nat := (x + y + c) % 18446744073709551616
def cc (x y c : Nat) : Nat := (x + y + c) / 18446744073709551616
theorem cc_le {x y c : Nat} (hx : x < 2 ^ 64) (hy : y < 2 ^ 64) (hc : c ≤ 1) : cc x y c ≤ 1 := by unfold cc; omega
theorem bif_some_bool (c : Bool) (f : Bool → AV) (x y : Bool) : (bif c then some (f x) else some (f y)) = some (f (bif c then x else y)) := by cases c <;> rfl
def settleR (x : L4) (over : Nat) : L4 :=
  let k := mul64 19 (add64 (mul64 2 over) (x.d / 2 ^ 63))
  let d := x.d &&& 9223372036854775807
  let c1 := cc x.a k 0
  let c2 := cc x.b c1 0
  let c3 := cc x.c c2 0
  belowR ⟨ac x.a k 0, ac x.b c1 0, ac x.c c2 0, ac d c3 0⟩

def fromR (k : K32) : L4 := belowR ⟨(shl64 (shl64 (shl64 (shl64 (shl64 (shl64 (shl64 (shl64 0 8 ||| k.b7) 8 ||| k.b6) 8 ||| k.b5) 8 ||| k.b4) 8 ||| k.b3) 8 ||| k.b2) 8 ||| k.b1) 8 ||| k.b0), (shl64 (shl64 (shl64 (shl64 (shl64 (shl64 (shl64 (shl64 0 8 ||| k.b15) 8 ||| k.b14) 8 ||| k.b13) 8 ||| k.b12) 8 ||| k.b11) 8 ||| k.b10) 8 ||| k.b9) 8 ||| k.b8), (shl64 (shl64 (shl64 (shl64 (shl64 (shl64 (shl64 (shl64 0 8 ||| k.b23) 8 ||| k.b22) 8 ||| k.b21) 8 ||| k.b20) 8 ||| k.b19) 8 ||| k.b18) 8 ||| k.b17) 8 ||| k.b16), (shl64 (shl64 (shl64 (shl64 (shl64 (shl64 (shl64 (shl64 0 8 ||| k.b31) 8 ||| k.b30) 8 ||| k.b29) 8 ||| k.b28) 8 ||| k.b27) 8 ||| k.b26) 8 ||| k.b25) 8 ||| k.b24) &&& 9223372036854775807⟩
def smallR (n : Nat) : L4 := ⟨n, 0, 0, 0⟩
def bytesR4 (x : L4) : K32 := ⟨x.a / 2 ^ 0 % 2 ^ 8, x.a / 2 ^ 8 % 2 ^ 8, x.a / 2 ^ 16 % 2 ^ 8, x.a / 2 ^ 24 % 2 ^ 8, x.a / 2 ^ 32 % 2 ^ 8, x.a / 2 ^ 40 % 2 ^ 8, x.a / 2 ^ 48 % 2 ^ 8, x.a / 2 ^ 56 % 2 ^ 8, x.b / 2 ^ 0 % 2 ^ 8, x.b / 2 ^ 8 % 2 ^ 8, x.b / 2 ^ 16 % 2 ^ 8, x.b / 2 ^ 24 % 2 ^ 8, x.b / 2 ^ 32 % 2 ^ 8, x.b / 2 ^ 40 % 2 ^ 8, x.b / 2 ^ 48 % 2 ^ 8, x.b / 2 ^ 56 % 2 ^ 8, x.c / 2 ^ 0 % 2 ^ 8, x.c / 2 ^ 8 % 2 ^ 8, x.c / 2 ^ 16 % 2 ^ 8, x.c / 2 ^ 24 % 2 ^ 8, x.c / 2 ^ 32 % 2 ^ 8, x.c / 2 ^ 40 % 2 ^ 8, x.c / 2 ^ 48 % 2 ^ 8, x.c / 2 ^ 56 % 2 ^ 8, x.d / 2 ^ 0 % 2 ^ 8, x.d / 2 ^ 8 % 2 ^ 8, x.d / 2 ^ 16 % 2 ^ 8, x.d / 2 ^ 24 % 2 ^ 8, x.d / 2 ^ 32 % 2 ^ 8, x.d / 2 ^ 40 % 2 ^ 8, x.d / 2 ^ 48 % 2 ^ 8, x.d / 2 ^ 56 % 2 ^ 8⟩
def addC0 (x y : L4) : Nat := cc x.a y.a 0
def addC1 (x y : L4) : Nat := cc x.b y.b (addC0 x y)
def addC2 (x y : L4) : Nat := cc x.c y.c (addC1 x y)
theorem addC_le {x y : L4} (hw : wfL [rnumV x, rnumV y]) : addC0 x y ≤ 1 ∧ addC1 x y ≤ 1 ∧ addC2 x y ≤ 1 := by
  have hx := hw.cons.1.rnum
  have hy := hw.cons.2.cons.1.rnum
  have h0 : addC0 x y ≤ 1 := cc_le hx.1 hy.1 (by decide)
  have h1 : addC1 x y ≤ 1 := cc_le hx.2.1 hy.2.1 h0
  exact ⟨h0, h1, cc_le hx.2.2.1 hy.2.2.1 h1⟩
def addR (x y : L4) : L4 := belowR ⟨ac x.a y.a 0, ac x.b y.b (addC0 x y), ac x.c y.c (addC1 x y), ac x.d y.d (addC2 x y)⟩
def negR (x : L4) : L4 := belowR (minD primeD x)
def subR (x y : L4) : L4 := addR x (negR y)
def tmHi (x y c d : Nat) : Nat := add64 (add64 (mulHi x y) (cc (mul64 x y) c 0)) (cc (ac (mul64 x y) c 0) d 0)
def tmLo (x y c d : Nat) : Nat := ac (ac (mul64 x y) c 0) d 0

/-- a digit times four digits, and four more -/
def rowM (x : Nat) (y t : L4) : L5 :=
  let h0 := tmHi x y.a t.a 0
  let h1 := tmHi x y.b t.b h0
  let h2 := tmHi x y.c t.c h1
  ⟨tmLo x y.a t.a 0, tmLo x y.b t.b h0, tmLo x y.c t.c h1, tmLo x y.d t.d h2, tmHi x y.d t.d h2⟩
def mulR (x y : L4) : L4 :=
  let r0 := rowM x.a y ⟨0, 0, 0, 0⟩
  let r1 := rowM x.b y ⟨r0.b, r0.c, r0.d, r0.e⟩
  let r2 := rowM x.c y ⟨r1.b, r1.c, r1.d, r1.e⟩
  let r3 := rowM x.d y ⟨r2.b, r2.c, r2.d, r2.e⟩
  let f := rowM 38 ⟨r3.b, r3.c, r3.d, r3.e⟩ ⟨r0.a, r1.a, r2.a, r3.a⟩
  settleR ⟨f.a, f.b, f.c, f.d⟩ f.e

def timesR (x : L4) (n : Nat) : L4 := mulR x (smallR n)
def equalR (x y : L4) : Bool := bif !decide (x.a = y.a) then false else bif !decide (x.b = y.b) then false else bif !decide (x.c = y.c) then false else bif !decide (x.d = y.d) then false else true
def zeroR : L4 := ⟨0, 0, 0, 0⟩
def isZeroR (x : L4) : Bool := equalR x zeroR
def oddR (x : L4) : Bool := decide (x.a % 2 = 1)
end Pw

namespace Pw
open Go

/-! ### the ladder's numbers -/

structure Rungs where
  a : L5
  b : L5
  c : L5
  d : L5
def rungsV (x : Rungs) : AV := .agg [.u .u64 x.a.a, .u .u64 x.a.b, .u .u64 x.a.c, .u .u64 x.a.d, .u .u64 x.a.e, .u .u64 x.b.a, .u .u64 x.b.b, .u .u64 x.b.c, .u .u64 x.b.d, .u .u64 x.b.e, .u .u64 x.c.a, .u .u64 x.c.b, .u .u64 x.c.c, .u .u64 x.c.d, .u .u64 x.c.e, .u .u64 x.d.a, .u .u64 x.d.b, .u .u64 x.d.c, .u .u64 x.d.d, .u .u64 x.d.e]
def rungs? : AV → Option Rungs
  | .agg [.u .u64 aa, .u .u64 ab, .u .u64 ac, .u .u64 ad, .u .u64 ae, .u .u64 ba, .u .u64 bb, .u .u64 bc, .u .u64 bd, .u .u64 be, .u .u64 ca, .u .u64 cb, .u .u64 cc, .u .u64 cd, .u .u64 ce, .u .u64 da, .u .u64 db, .u .u64 dc, .u .u64 dd, .u .u64 de] => some ⟨⟨aa, ab, ac, ad, ae⟩, ⟨ba, bb, bc, bd, be⟩, ⟨ca, cb, cc, cd, ce⟩, ⟨da, db, dc, dd, de⟩⟩
  | _ => none
theorem rungs?_some {v : AV} {x : Rungs} (h : rungs? v = some x) : v = rungsV x := by
  unfold rungs? at h
  split at h
  · cases h; rfl
  · cases h
structure RRungs where
  a : L4
  b : L4
  c : L4
  d : L4
def rrungsV (x : RRungs) : AV := .agg [.u .u64 x.a.a, .u .u64 x.a.b, .u .u64 x.a.c, .u .u64 x.a.d, .u .u64 x.b.a, .u .u64 x.b.b, .u .u64 x.b.c, .u .u64 x.b.d, .u .u64 x.c.a, .u .u64 x.c.b, .u .u64 x.c.c, .u .u64 x.c.d, .u .u64 x.d.a, .u .u64 x.d.b, .u .u64 x.d.c, .u .u64 x.d.d]
def rrungs? : AV → Option RRungs
  | .agg [.u .u64 aa, .u .u64 ab, .u .u64 ac, .u .u64 ad, .u .u64 ba, .u .u64 bb, .u .u64 bc, .u .u64 bd, .u .u64 ca, .u .u64 cb, .u .u64 cc, .u .u64 cd, .u .u64 da, .u .u64 db, .u .u64 dc, .u .u64 dd] => some ⟨⟨aa, ab, ac, ad⟩, ⟨ba, bb, bc, bd⟩, ⟨ca, cb, cc, cd⟩, ⟨da, db, dc, dd⟩⟩
  | _ => none
theorem rrungs?_some {v : AV} {x : RRungs} (h : rrungs? v = some x) : v = rrungsV x := by
  unfold rrungs? at h
  split at h
  · cases h; rfl
  · cases h

def byteAt (k : K32) (j : Nat) : Nat := k.toList.getD j 0
end Pw

namespace Pw
open Go

/-! ### the document's points of layer 19: three numbers -/

structure Pt3 where
  a : L4
  b : L4
  c : L4
def pt3V (x : Pt3) : AV := .agg [.u .u64 x.a.a, .u .u64 x.a.b, .u .u64 x.a.c, .u .u64 x.a.d, .u .u64 x.b.a, .u .u64 x.b.b, .u .u64 x.b.c, .u .u64 x.b.d, .u .u64 x.c.a, .u .u64 x.c.b, .u .u64 x.c.c, .u .u64 x.c.d]
def pt3? : AV → Option Pt3
  | .agg [.u .u64 aa, .u .u64 ab, .u .u64 ac, .u .u64 ad, .u .u64 ba, .u .u64 bb, .u .u64 bc, .u .u64 bd, .u .u64 ca, .u .u64 cb, .u .u64 cc, .u .u64 cd] => some ⟨⟨aa, ab, ac, ad⟩, ⟨ba, bb, bc, bd⟩, ⟨ca, cb, cc, cd⟩⟩
  | _ => none
theorem pt3?_some {v : AV} {x : Pt3} (h : pt3? v = some x) : v = pt3V x := by
  unfold pt3? at h
  split at h
  · cases h; rfl
  · cases h
end Pw
