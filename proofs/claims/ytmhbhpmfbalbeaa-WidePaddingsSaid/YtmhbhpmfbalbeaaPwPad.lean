/- A part of the proof: PwPad. -/
import Derived.Test.YtmhbhpmfbalbeaaPwMd
namespace Pw
open Go

/-! ### eight bytes of a number, the highest first; the padding -/

/-- the first i of the eight bytes, then zeros -/
def beW (x i : Nat) : List Nat := (List.range 8).map fun j => if j < i then x / 2 ^ (56 - 8 * j) % 2 ^ 8 else 0
theorem beW_len (x i : Nat) : (beW x i).length = 8 := by unfold beW; simp
theorem beW_set {x i : Nat} (h : i < 8) : (beW x i).set i (x / 2 ^ (56 - 8 * i) % 2 ^ 8) = beW x (i + 1) := by
  refine List.ext_getElem? fun k => ?_
  unfold beW
  rw [List.getElem?_set, List.length_map, List.length_range]
  by_cases e : i = k
  · subst e
    rw [if_pos rfl, if_pos h, List.getElem?_map, List.getElem?_range h, Option.map_some, if_pos (by omega)]
  · rw [if_neg e, List.getElem?_map, List.getElem?_map]
    by_cases hk : k < 8
    · rw [List.getElem?_range hk, Option.map_some, Option.map_some]
      congr 1
      by_cases h1 : k < i
      · rw [if_pos h1, if_pos (by omega)]
      · rw [if_neg h1, if_neg (by omega)]
    · rw [List.getElem?_eq_none (by simp; omega)]; rfl
theorem set_right (z : Nat) (l : List Nat) (i v : Nat) : (List.replicate z 0 ++ l).set (z + i) v = List.replicate z 0 ++ l.set i v := by
  rw [List.set_append_right _ _ (by simp), List.length_replicate, Nat.add_sub_cancel_left]
theorem set_left {a b : List Nat} {i v : Nat} (h : i < a.length) : (a ++ b).set i v = a.set i v ++ b := List.set_append_left _ _ h
theorem set_app (a b : List Nat) (i v : Nat) : (a ++ b).set (a.length + i) v = a ++ b.set i v := by
  rw [List.set_append_right _ _ (by omega), Nat.add_sub_cancel_left]
/-- the padding with i bytes of each number -/
def pdT (z hi lo i : Nat) : List Nat := 128 :: (List.replicate z 0 ++ (beW hi i ++ beW lo i))
theorem pdT_set {z hi lo i : Nat} (h : i < 8) : ((pdT z hi lo i).set (z + i + 1) (hi / 2 ^ (56 - 8 * i) % 2 ^ 8)).set (z + (8 + i) + 1) (lo / 2 ^ (56 - 8 * i) % 2 ^ 8) = pdT z hi lo (i + 1) := by
  unfold pdT
  have e1 : (beW hi i ++ beW lo i).set i (hi / 2 ^ (56 - 8 * i) % 2 ^ 8) = beW hi (i + 1) ++ beW lo i := by rw [set_left (by rw [beW_len]; exact h), beW_set h]
  have e := set_app (beW hi (i + 1)) (beW lo i) i (lo / 2 ^ (56 - 8 * i) % 2 ^ 8)
  rw [beW_len, beW_set h] at e
  rw [List.set_cons_succ, List.set_cons_succ, set_right, e1, set_right, e]
theorem pdT_len (z hi lo i : Nat) : (pdT z hi lo i).length = z + 17 := by unfold pdT; simp [beW_len]
def be8 (x : Nat) : List Nat := beW x 8
def padZ (n : Nat) : Nat := (111 + 128 - n % 128) % 128
def padL (n : Nat) : List Nat := pdT (padZ n) (n / 2 ^ 61) (n * 8 % 2 ^ 64) 8
theorem be8_len (x : Nat) : (be8 x).length = 8 := beW_len x 8
theorem padL_len (n : Nat) : (padL n).length = padZ n + 17 := pdT_len _ _ _ _
end Pw
