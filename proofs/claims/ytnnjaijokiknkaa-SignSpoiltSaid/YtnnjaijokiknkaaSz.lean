/- Layer 20: three lists, one behind the other. -/
import Derived.Test.YtnnjaijokiknkaaSx
namespace Go.Proofs.Ytnnjaijokiknkaa
open Go Pw Go.RowKit
def catA (r p : List Nat) : List Nat := tkL (r.length + p.length) (tkL r.length r ++ p)
def catX (r p b : List Nat) : List Nat := tkL (r.length + p.length + b.length) (catA r p ++ b)
def catG (r p b bb : List Nat) : List Bool := [decide (0 + b.length ≤ b.length), decide (r.length + p.length + bb.length ≤ maxRoom), decide (0 + (r.length + p.length + bb.length) ≤ (catA r p ++ bb).length), decide ((catX r p bb).length + 128 ≤ maxRoom)]
theorem catA_eq (r p : List Nat) : catA r p = r ++ p := by
  unfold catA
  rw [tkL_eq, ← List.length_append, tkL_eq]
theorem catX_eq (r p b : List Nat) : catX r p b = r ++ p ++ b := by
  unfold catX
  rw [catA_eq, ← List.length_append, ← List.length_append, tkL_eq]
theorem catG_ok {r p : K32} {b : List Nat} (lb : b.length ≤ 140737488351232) : ∀ c ∈ catG r.toList p.toList b b, c = true := by
  have hm : maxRoom = 175921860444160 := rfl
  have hr : r.toList.length = 32 := rfl
  have hp : p.toList.length = 32 := rfl
  intro c hc
  unfold catG at hc
  rw [catX_eq, catA_eq, List.length_append, List.length_append, hr, hp] at hc
  simp only [List.mem_cons, List.not_mem_nil, or_false] at hc
  rcases hc with h | h | h | h <;> (rw [h]; exact decide_eq_true (by omega))
end Go.Proofs.Ytnnjaijokiknkaa

