/- Closed facts of the loaded program that every row asks for. -/
import Derived.Test.YtmhbhpmfbalbeaaRows
import Derived.ProofKit
namespace Go.Proofs.Ytmhbhpmfbalbeaa
open Go
theorem progF : (Try.prog.liftsFinal, Try.prog.stopsHeard, Try.prog.mayEnter, Try.prog.make) = (false, true, true, some ({ program := "", sum := "", func := "", spec := "" } : OpenClaim).make) := by kernel_rfl
theorem quad {α β γ δ : Type} {a a' : α} {b b' : β} {c c' : γ} {d d' : δ} (h : (a, b, c, d) = (a', b', c', d')) : a = a' ∧ b = b' ∧ c = c' ∧ d = d' := by
  cases h
  exact ⟨rfl, rfl, rfl, rfl⟩
theorem liftsF : Try.prog.liftsFinal = false := (quad progF).1
theorem heardF : Try.prog.stopsHeard = true := (quad progF).2.1
theorem enterF : Try.prog.mayEnter = true := (quad progF).2.2.1
theorem makeF : Try.prog.make = some ({ program := "", sum := "", func := "", spec := "" } : OpenClaim).make := (quad progF).2.2.2
end Go.Proofs.Ytmhbhpmfbalbeaa

