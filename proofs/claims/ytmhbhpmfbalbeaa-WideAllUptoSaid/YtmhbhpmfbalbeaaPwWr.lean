/- A part of the proof: PwWr. -/
import Derived.Test.YtmhbhpmfbalbeaaPwMg
namespace Pw
open Go

/-! ### blocks one behind the other, in plain -/

def foldB (f : List Nat → List Nat → List Nat) (w s : List Nat) : Nat → List Nat
  | 0 => w
  | i + 1 => f (resp 8 (foldB f w s i)) (resp 128 ((s.drop (128 * i)).take 128))

/-- a block filled from two lists -/
def wL1 (r : List Nat) : List Nat := List.take (128 - 0) r
def wP1 (one r : List Nat) : List Nat := List.take (0 + 0 * 1) one ++ (wL1 r ++ List.drop (0 + 0 * 1 + (wL1 r).length) one)
def wN (r : List Nat) : Nat := ((wL1 r).length : Int).toNat
def wL2 (r bb : List Nat) : List Nat := List.take (128 - wN r) bb
def wP2 (one r bb : List Nat) : List Nat := List.take (0 + wN r * 1) (wP1 one r) ++ (wL2 r bb ++ List.drop (0 + wN r * 1 + (wL2 r bb).length) (wP1 one r))
def wM (r bb : List Nat) : Nat := ((wL2 r bb).length : Int).toNat

theorem wL1_eq {r : List Nat} (h : r.length < 128) : wL1 r = r := by unfold wL1; rw [List.take_of_length_le (by omega)]
theorem wN_eq {r : List Nat} (h : r.length < 128) : wN r = r.length := by unfold wN; rw [wL1_eq h]; omega
theorem wP1_eq {one r : List Nat} (h : r.length < 128) : wP1 one r = r ++ one.drop r.length := by
  unfold wP1
  rw [wL1_eq h, show 0 + 0 * 1 = 0 from rfl, List.take_zero, List.nil_append, Nat.zero_add]
theorem wL2_len {r bb : List Nat} (h : r.length < 128) (hb : 128 ≤ r.length + bb.length) : (wL2 r bb).length = 128 - r.length := by
  unfold wL2; rw [wN_eq h, List.length_take]; omega
theorem wM_eq {r bb : List Nat} (h : r.length < 128) (hb : 128 ≤ r.length + bb.length) : wM r bb = 128 - r.length := by
  unfold wM; rw [wL2_len h hb]; omega
theorem wP2_eq {one r bb : List Nat} (h1 : one.length = 128) (h : r.length < 128) (hb : 128 ≤ r.length + bb.length) : wP2 one r bb = (r ++ bb).take 128 := by
  unfold wP2
  have hl := wL2_len h hb
  rw [wN_eq h, wP1_eq h, hl, Nat.mul_one, Nat.zero_add, List.take_left' rfl, List.drop_eq_nil_of_le (by rw [List.length_append, List.length_drop]; omega), List.append_nil, List.take_append, List.take_of_length_le (Nat.le_of_lt h)]
  unfold wL2
  rw [wN_eq h]

theorem foldB_zero (f : List Nat → List Nat → List Nat) (w s : List Nat) : foldB f w s 0 = w := rfl
theorem foldB_succ (f : List Nat → List Nat → List Nat) (w s : List Nat) (i : Nat) : foldB f w s (i + 1) = f (resp 8 (foldB f w s i)) (resp 128 ((s.drop (128 * i)).take 128)) := rfl
theorem foldB_front (f : List Nat → List Nat → List Nat) (w s p : List Nat) : ∀ i, 128 * i ≤ s.length → foldB f w (s ++ p) i = foldB f w s i
  | 0, _ => rfl
  | i + 1, h => by
    rw [foldB_succ, foldB_succ, foldB_front f w s p i (by omega), List.drop_append_of_le_length (by omega), List.take_append_of_le_length (by rw [List.length_drop]; omega)]
theorem foldB_app (f : List Nat → List Nat → List Nat) (w s p : List Nat) {n : Nat} (h : 128 * n ≤ s.length) : ∀ m, foldB f w (s ++ p) (n + m) = foldB f (foldB f w s n) (s.drop (128 * n) ++ p) m
  | 0 => by rw [Nat.add_zero, foldB_front f w s p n h, foldB_zero]
  | m + 1 => by
    rw [← Nat.add_assoc, foldB_succ, foldB_succ, foldB_app f w s p h m, show 128 * (n + m) = 128 * n + 128 * m by omega, ← List.drop_drop, List.drop_append_of_le_length h]
theorem resp_resp (n : Nat) (l : List Nat) : resp n (resp n l) = resp n l := resp_eq (resp_len n l)
theorem resp_get {n i : Nat} (l : List Nat) (h : i < n) : (resp n l).getD i 0 = l.getD i 0 := by
  unfold resp
  rw [List.getD_eq_getElem?_getD, List.getElem?_map, List.getElem?_range h]; rfl
theorem foldB_resp (f : List Nat → List Nat → List Nat) (w s : List Nat) : ∀ i, resp 8 (foldB f (resp 8 w) s i) = resp 8 (foldB f w s i) ∧ (0 < i → foldB f (resp 8 w) s i = foldB f w s i)
  | 0 => ⟨resp_resp 8 w, fun h => absurd h (by omega)⟩
  | i + 1 => by
    have h := (foldB_resp f w s i).1
    have e : foldB f (resp 8 w) s (i + 1) = foldB f w s (i + 1) := by rw [foldB_succ, foldB_succ, h]
    exact ⟨by rw [e], fun _ => e⟩
/-- the 64 bytes of eight words -/
def bytesW (w : List Nat) : List Nat := (List.range 64).map fun i => w.getD (i / 8) 0 / 2 ^ (56 - i % 8 * 8) % 2 ^ 8
theorem bytesW_resp (w : List Nat) : bytesW (resp 8 w) = bytesW w := by
  unfold bytesW
  refine List.map_congr_left fun i hi => ?_
  have := List.mem_range.1 hi
  rw [resp_get w (show i / 8 < 8 by omega)]
theorem bytesW_fold (f : List Nat → List Nat → List Nat) (w s : List Nat) (i : Nat) : bytesW (foldB f (resp 8 w) s i) = bytesW (foldB f w s i) := by
  rw [← bytesW_resp, (foldB_resp f w s i).1, bytesW_resp]
theorem bytesW_len (w : List Nat) : (bytesW w).length = 64 := by unfold bytesW; simp

/-- the hash of bytes, from some words on, over all whole blocks -/
def foldAll (f : List Nat → List Nat → List Nat) (w s : List Nat) : List Nat := foldB f w s (s.length / 128)
/-- what came is put into whole blocks first, the rest with what comes -/
theorem foldAll_app (f : List Nat → List Nat → List Nat) (w s p : List Nat) : foldAll f w (s ++ p) = foldAll f (foldAll f w s) (s.drop (128 * (s.length / 128)) ++ p) := by
  unfold foldAll
  rw [← foldB_app f w s p (by omega)]
  congr 1
  rw [List.length_append, List.length_append, List.length_drop]
  omega
end Pw
