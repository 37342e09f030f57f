/- A part of the proof: PwEvT. -/
import Derived.Test.YtccmlapcijjmpaaPwEvS
namespace Pw
open Go Go.RowKit

variable {P : Program} {T : List (Nat × TE)} {ρ : Type}

/-! ### loops, round by round, with what is not looked at any more left out -/

def outK (ts : List Nat) : Ex → Env → Mem → Option (Ex × Env × Mem) := fun e env mem => some (e, prune env ts, mem)

/-- the body of the loop with a key -/
def loopB (c : Code) (k : Nat) : Code := match (loopsOf c).filter (fun b => Nat.beq k (loopKey b)) with
  | [b] => b
  | _ => .skip

theorem Goes.prune {nt : Nat} {env env' : Env} {mem mem' : Mem} {e : Ex} {wp : (Exit → Act → World → Prop) → Act → World → Prop} (h : Goes nt env mem e env' mem' wp) (ts : List Nat) :
    Goes nt env mem e (prune env' ts) mem' wp :=
  fun W Wr σ a w Q hf hq => h W Wr σ a w Q hf fun σ' a' w' he hf' hd => hq σ' a' w' he ⟨hf'.st, hf'.env.prune ts⟩ hd

theorem goes_of_out {X : Cx} (hX : CxOK P X) {L : Loops} {nt : Nat} {keep ts : List Nat} {fuel : Nat} {c : Code} (hL : LoopsOK P nt L c) {env env' : Env} {mem mem' : Mem} {e : Ex}
    (h : codeK X L nt keep fuel c env mem (outK ts) = some (e, env', mem')) : Goes nt env mem e env' mem' (fun Q a w => c.wp P Q a w) := by
  obtain ⟨e1, env1, mem1, h1, h2, -⟩ := codeK_sound hX fuel c hL _ _ _ _ h
  simp only [outK, Option.some.injEq, Prod.mk.injEq] at h1
  obtain ⟨rfl, rfl, rfl⟩ := h1
  exact h2.prune ts

theorem rounds_of_steps {nt N : Nat} {body : Code} {E : Nat → Env} {M : Nat → Mem} {e : Ex} {E' : Env} {M' : Mem} (hne : e ≠ .normal)
    (step : ∀ i, i < N → Goes nt (E i) (M i) .normal (E (i + 1)) (M (i + 1)) (fun Q a w => body.wp P Q a w)) (fin : Goes nt (E N) (M N) e E' M' (fun Q a w => body.wp P Q a w)) :
    ∀ (d i : Nat), i + d = N → Goes nt (E i) (M i) e E' M' (fun Q a w => Code.rounds P body Q (d + 1) a w)
  | 0, i, hi => by
    have : i = N := by omega
    subst this
    intro W Wr σ a w Q hf hq
    exact fin W Wr σ a w _ hf fun σ' a' w' he hf' hd => by
      cases e with
      | normal => exact absurd rfl hne
      | exit j => exact hq σ' a' w' he hf' hd
      | ret => exact hq σ' a' w' he hf' hd
  | d + 1, i, hi => (step i (by omega)).trans (rounds_of_steps hne step fin d (i + 1) (by omega)) (fun Q => Exit.then (Code.rounds P body Q (d + 1)) Q) (fun Q a w h => h) (fun Q a w h => h)

theorem loopAt_of_steps {X : Cx} (hX : CxOK P X) {L : Loops} {nt : Nat} {keep : List Nat} {body : Code} {g : LoopFn} (hL : LoopsOK P nt L body)
    (h : ∀ (env : Env) (mem : Mem) (ρ : Type) (K : Ex → Env → Mem → Option ρ) (r : ρ), g env mem K = some r →
      ∃ (ts : List Nat) (N : Nat) (E : Nat → Env) (M : Nat → Mem) (e : Ex) (E' : Env) (M' : Mem), prune env ts = E 0 ∧ mem = M 0 ∧ e ≠ .normal ∧ K e E' M' = some r ∧
        (∀ i, i < N → ∃ fuel ts, codeK X L nt keep fuel body (E i) (M i) (outK ts) = some (.normal, E (i + 1), M (i + 1))) ∧
        ∃ fuel ts, codeK X L nt keep fuel body (E N) (M N) (outK ts) = some (e, E', M')) : LoopAt P nt body g := by
  intro env mem ρ K r hg
  obtain ⟨ts, N, E, M, e, E', M', h1, h2, h3, h4, h5, fuel, ts', h6⟩ := h env mem ρ K r hg
  have key := rounds_of_steps (P := P) (nt := nt) h3 (fun i hi => by obtain ⟨f, t, ht⟩ := h5 i hi; exact goes_of_out hX hL ht) (goes_of_out hX hL h6) N 0 (by omega)
  refine ⟨e, E', M', h4, N + 1, fun W Wr σ a w Q hf hq => key W Wr σ a w Q ⟨?_, ?_⟩ hq⟩
  · rw [← h2]; exact hf.st
  · rw [← h1]; exact hf.env.prune ts

/-! ### a loop told by a state -/

def live (ts : List Nat) (env : Env) : List AV := match ts with
  | [] => []
  | t :: r => look t env :: live r env

def zipE : List Nat → List AV → Env
  | t :: ts, v :: vs => (t, v) :: zipE ts vs
  | _, _ => []

theorem prune_live (env : Env) : ∀ ts : List Nat, prune env ts = zipE ts (live ts env)
  | [] => rfl
  | t :: ts => by simp only [prune, live, zipE, prune_live env ts]

structure LoopDef (S : Type) where
  ts : List Nat
  E : S → Env
  M : S → Mem
  dec : List AV → Mem → Option S
  ok : ∀ vs mem s, dec vs mem = some s → zipE ts vs = E s ∧ mem = M s

def LoopDef.fn {S : Type} (d : LoopDef S) (guard : S → Bool) (ex : Ex) (fin : S → S) : LoopFn := fun env mem _ K => match d.dec (live d.ts env) mem with
  | some s => bif guard s then K ex (d.E (fin s)) (d.M (fin s)) else none
  | none => none

theorem LoopDef.loop {S : Type} (d : LoopDef S) {guard : S → Bool} {ex : Ex} {fin : S → S} {X : Cx} (hX : CxOK P X) {L : Loops} {nt : Nat} {keep : List Nat} {body : Code} (hL : LoopsOK P nt L body) (hne : ex ≠ .normal)
    (h : ∀ s, guard s = true → ∃ (N : Nat) (at_ : Nat → S), at_ 0 = s ∧
      (∀ i, i < N → ∃ fuel, codeK X L nt keep fuel body (d.E (at_ i)) (d.M (at_ i)) (outK d.ts) = some (.normal, d.E (at_ (i + 1)), d.M (at_ (i + 1)))) ∧
      ∃ fuel, codeK X L nt keep fuel body (d.E (at_ N)) (d.M (at_ N)) (outK d.ts) = some (ex, d.E (fin s), d.M (fin s))) : LoopAt P nt body (d.fn guard ex fin) := by
  refine loopAt_of_steps (keep := keep) hX hL fun env mem ρ K r hg => ?_
  unfold LoopDef.fn at hg
  split at hg
  · rename_i s hs
    obtain ⟨hgd, hg⟩ := bif_some hg
    obtain ⟨h1, h2⟩ := d.ok _ _ _ hs
    obtain ⟨N, at_, e0, h3, fuel, h4⟩ := h s hgd
    refine ⟨d.ts, N, fun i => d.E (at_ i), fun i => d.M (at_ i), ex, _, _, ?_, ?_, hne, hg, fun i hi => ?_, fuel, d.ts, h4⟩
    · show _ = d.E (at_ 0)
      rw [prune_live, h1, e0]
    · show _ = d.M (at_ 0)
      rw [h2, e0]
    · obtain ⟨f, hf⟩ := h3 i hi
      exact ⟨f, d.ts, hf⟩
  · cases hg

/-! ### blocks of cells -/

def bk (v : AV) : Blk := ⟨.cells v.cells, true⟩
def unbk : Blk → AV
  | ⟨.cells cs, true⟩ => .agg cs
  | _ => .unk
theorem unbk_some {B : Blk} {cs : List AV} (h : unbk B = .agg cs) : B = bk (.agg cs) := by
  unfold unbk at h
  split at h
  · cases h; rfl
  · cases h

theorem bif_out {e : Ex} {E1 E2 : Env} {M1 M2 : Mem} (c : Bool) : (bif c then some (e, E1, M1) else some (e, E2, M2)) = some (e, bif c then E1 else E2, bif c then M1 else M2) := by cases c <;> rfl

/-- such a loop that is gone through a number of times that a numeral says is known by its rounds, too -/
theorem bif_join {α : Type} {c : Bool} {x y z : α} (h : (bif c then x else y) = z) : (bif c then some x else some y) = some z := by cases c <;> simp_all

end Pw
