/- A part of the proof: PwKey. -/
import Derived.Test.YtccmlapcijjmpaaPwFld
namespace Pw
open Go

/-! ### 32 bytes -/

structure K32 where
  b0 : Nat
  b1 : Nat
  b2 : Nat
  b3 : Nat
  b4 : Nat
  b5 : Nat
  b6 : Nat
  b7 : Nat
  b8 : Nat
  b9 : Nat
  b10 : Nat
  b11 : Nat
  b12 : Nat
  b13 : Nat
  b14 : Nat
  b15 : Nat
  b16 : Nat
  b17 : Nat
  b18 : Nat
  b19 : Nat
  b20 : Nat
  b21 : Nat
  b22 : Nat
  b23 : Nat
  b24 : Nat
  b25 : Nat
  b26 : Nat
  b27 : Nat
  b28 : Nat
  b29 : Nat
  b30 : Nat
  b31 : Nat
  deriving DecidableEq

def keyV (k : K32) : AV := .agg [.u .u8 k.b0, .u .u8 k.b1, .u .u8 k.b2, .u .u8 k.b3, .u .u8 k.b4, .u .u8 k.b5, .u .u8 k.b6, .u .u8 k.b7, .u .u8 k.b8, .u .u8 k.b9, .u .u8 k.b10, .u .u8 k.b11, .u .u8 k.b12, .u .u8 k.b13, .u .u8 k.b14, .u .u8 k.b15, .u .u8 k.b16, .u .u8 k.b17, .u .u8 k.b18, .u .u8 k.b19, .u .u8 k.b20, .u .u8 k.b21, .u .u8 k.b22, .u .u8 k.b23, .u .u8 k.b24, .u .u8 k.b25, .u .u8 k.b26, .u .u8 k.b27, .u .u8 k.b28, .u .u8 k.b29, .u .u8 k.b30, .u .u8 k.b31]
def K32.toList (k : K32) : List Nat := [k.b0, k.b1, k.b2, k.b3, k.b4, k.b5, k.b6, k.b7, k.b8, k.b9, k.b10, k.b11, k.b12, k.b13, k.b14, k.b15, k.b16, k.b17, k.b18, k.b19, k.b20, k.b21, k.b22, k.b23, k.b24, k.b25, k.b26, k.b27, k.b28, k.b29, k.b30, k.b31]
def K32.of? : List Nat → Option K32
  | [b0, b1, b2, b3, b4, b5, b6, b7, b8, b9, b10, b11, b12, b13, b14, b15, b16, b17, b18, b19, b20, b21, b22, b23, b24, b25, b26, b27, b28, b29, b30, b31] => some ⟨b0, b1, b2, b3, b4, b5, b6, b7, b8, b9, b10, b11, b12, b13, b14, b15, b16, b17, b18, b19, b20, b21, b22, b23, b24, b25, b26, b27, b28, b29, b30, b31⟩
  | _ => none
def K32.ofFn (f : Nat → Nat) : K32 := ⟨f 0, f 1, f 2, f 3, f 4, f 5, f 6, f 7, f 8, f 9, f 10, f 11, f 12, f 13, f 14, f 15, f 16, f 17, f 18, f 19, f 20, f 21, f 22, f 23, f 24, f 25, f 26, f 27, f 28, f 29, f 30, f 31⟩
def key? : AV → Option K32
  | .agg cs => match toBytes cs with
    | some l => K32.of? l
    | none => none
  | _ => none
theorem of?_some {l : List Nat} {k : K32} (h : K32.of? l = some k) : l = k.toList := by
  unfold K32.of? at h
  split at h
  · cases h; rfl
  · cases h
theorem keyV_eq (k : K32) : keyV k = .agg (k.toList.map (AV.u .u8)) := rfl
theorem key?_some {v : AV} {k : K32} (h : key? v = some k) : v = keyV k := by
  unfold key? at h
  split at h
  · split at h
    · rename_i l hl
      rw [toBytes_eq hl, of?_some h]; rfl
    · cases h
  · cases h
theorem toBytes_map : ∀ l : List Nat, toBytes (l.map (AV.u .u8)) = some l
  | [] => rfl
  | a :: l => by simp [toBytes, toBytes_map l]
theorem key?_keyV (k : K32) : key? (keyV k) = some k := by
  rw [keyV_eq]; simp only [key?, toBytes_map]; rfl
/-- equality, byte by byte, as the evaluator has it -/
def keyEq (x y : K32) : Bool := decide (x.b0 = y.b0) && (decide (x.b1 = y.b1) && (decide (x.b2 = y.b2) && (decide (x.b3 = y.b3) && (decide (x.b4 = y.b4) && (decide (x.b5 = y.b5) && (decide (x.b6 = y.b6) && (decide (x.b7 = y.b7) && (decide (x.b8 = y.b8) && (decide (x.b9 = y.b9) && (decide (x.b10 = y.b10) && (decide (x.b11 = y.b11) && (decide (x.b12 = y.b12) && (decide (x.b13 = y.b13) && (decide (x.b14 = y.b14) && (decide (x.b15 = y.b15) && (decide (x.b16 = y.b16) && (decide (x.b17 = y.b17) && (decide (x.b18 = y.b18) && (decide (x.b19 = y.b19) && (decide (x.b20 = y.b20) && (decide (x.b21 = y.b21) && (decide (x.b22 = y.b22) && (decide (x.b23 = y.b23) && (decide (x.b24 = y.b24) && (decide (x.b25 = y.b25) && (decide (x.b26 = y.b26) && (decide (x.b27 = y.b27) && (decide (x.b28 = y.b28) && (decide (x.b29 = y.b29) && (decide (x.b30 = y.b30) && (decide (x.b31 = y.b31) && true)))))))))))))))))))))))))))))))
theorem keyEq_iff (x y : K32) : keyEq x y = decide (x = y) := by
  cases x; cases y
  simp [keyEq]
/-- bytes are below 256 -/
def K32.wf (k : K32) : Prop := ∀ b ∈ k.toList, b < 256
theorem wfL_mem {l : List AV} (h : wfL l) : ∀ a ∈ l, wf1 a := by
  obtain ⟨σ, m, h⟩ := h
  induction l generalizing m with
  | nil => simp
  | cons x l ih =>
    cases h with
    | cons _ v _ m h1 h2 =>
      intro a ha
      cases ha with
      | head => exact ⟨σ, v, h1⟩
      | tail _ ha => exact ih m h2 a ha
theorem wf1.key {k : K32} (h : wf1 (keyV k)) : k.wf := by
  rw [keyV_eq] at h
  intro b hb
  have := wfL_mem h.agg (.u .u8 b) (List.mem_map.2 ⟨b, hb, rfl⟩)
  simpa [IntKind.bits] using this.u
end Pw
