/- A part of the proof: PwEvZb. -/
import Derived.Test.YtmhbhpmfbalbeaaPwDeep
namespace Pw
open Go Go.RowKit

variable {P : Program} {ρ : Type}

/-! ### a piece of code taken apart -/

def thenC (f : Env → Mem → Option ρ) (K : Ex → Env → Mem → Option ρ) : Ex → Env → Mem → Option ρ
  | .normal, env, mem => f env mem
  | .exit j, env, mem => K (.exit j) env mem
  | .ret, env, mem => K .ret env mem
def blkC (id : Nat) (K : Ex → Env → Mem → Option ρ) : Ex → Env → Mem → Option ρ
  | .normal, env, mem => K .normal env mem
  | .exit j, env, mem => bif Nat.beq j id then K .normal env mem else K (.exit j) env mem
  | .ret, env, mem => K .ret env mem
theorem thenC_normal (f : Env → Mem → Option ρ) (K : Ex → Env → Mem → Option ρ) (env : Env) (mem : Mem) : thenC f K .normal env mem = f env mem := rfl
theorem thenC_ret (f : Env → Mem → Option ρ) (K : Ex → Env → Mem → Option ρ) (env : Env) (mem : Mem) : thenC f K .ret env mem = K .ret env mem := rfl
theorem thenC_exit (f : Env → Mem → Option ρ) (K : Ex → Env → Mem → Option ρ) (j : Nat) (env : Env) (mem : Mem) : thenC f K (.exit j) env mem = K (.exit j) env mem := rfl
theorem blkC_normal (id : Nat) (K : Ex → Env → Mem → Option ρ) (env : Env) (mem : Mem) : blkC id K .normal env mem = K .normal env mem := rfl
theorem blkC_ret (id : Nat) (K : Ex → Env → Mem → Option ρ) (env : Env) (mem : Mem) : blkC id K .ret env mem = K .ret env mem := rfl
theorem codeK_seq (X : Cx) (L : Loops) (nt : Nat) (keep : List Nat) (n : Nat) (x y : Code) (env : Env) (mem : Mem) (K : Ex → Env → Mem → Option ρ) :
    codeK X L nt keep (n + 1) (.seq x y) env mem K = codeK X L nt keep n x env mem (thenC (fun env mem => codeK X L nt keep n y env mem K) K) := by
  rw [codeK]
  congr 1
  funext e env mem
  cases e <;> rfl
theorem codeK_block (X : Cx) (L : Loops) (nt : Nat) (keep : List Nat) (n : Nat) (id : Nat) (x : Code) (env : Env) (mem : Mem) (K : Ex → Env → Mem → Option ρ) :
    codeK X L nt keep (n + 1) (.block id x) env mem K = codeK X L nt keep n x env mem (blkC id K) := by
  rw [codeK]
  congr 1
  funext e env mem
  cases e <;> rfl

end Pw
