/- A part of the proof: PwEvK. -/
import Derived.Test.YtccmlapcijjmpaaPwEvJ
namespace Pw
open Go Go.RowKit

variable {P : Program} {T : List (Nat × TE)} {ρ : Type}

/-! ### operations one behind the other -/

def FSt (W : World) (Wr : Nat → Prop) (σ : Ren) (mem : Mem) (w : World) : Prop :=
  St W Wr σ mem w ∧ ∀ (i : Nat) (p : Nat × Nat × Nat), σ i = some p → i < mem.length

/-- what is known of calls that turn memory -/
abbrev Loud := FuncId → Option (List AV → Mem → ∀ {ρ : Type}, (AV → Mem → Option ρ) → Option ρ)

def LoudAt (P : Program) (f : FuncId) (g : List AV → Mem → ∀ {ρ : Type}, (AV → Mem → Option ρ) → Option ρ) : Prop :=
  ∀ (args : List AV) (mem : Mem) (ρ : Type) (K : AV → Mem → Option ρ) (r : ρ), g args mem K = some r → ∃ v mem', K v mem' = some r ∧
    ∀ (W : World) (Wr : Nat → Prop) (σ : Ren) (w : World) (real : Array Value), FSt W Wr σ mem w → RL σ args real.toList →
      CallTo P f real w fun rv w' => ∃ σ', Ext σ σ' ∧ R σ' v rv ∧ FSt W Wr σ' mem' w'

def LoudOK (P : Program) (M : Loud) : Prop := ∀ f g, M f = some g → LoudAt P f g

/-- what an operation does to the whole state -/
def FDoes (P : Program) (o : Oper) (mem : Mem) (ev : Operand → AV) (v : AV) (mem' : Mem) : Prop :=
  ∀ (W : World) (Wr : Nat → Prop) (σ : Ren) (w : World) (re : Operand → Value), FSt W Wr σ mem w → (∀ x ∈ o.op.operands.toList, R σ (ev x) (re x)) →
    OpTo P o re w fun rv w' => ∃ σ', Ext σ σ' ∧ R σ' v rv ∧ FSt W Wr σ' mem' w'

theorem Does.full {o : Oper} {mem : Mem} {ev : Operand → AV} {v : AV} {eff : Eff} (h : Does P o mem ev v eff) : FDoes P o mem ev v (eff.on mem) := by
  intro W Wr σ w re hst hr
  cases eff with
  | none =>
    refine (h W Wr σ mem w re hst.1 (fun _ _ _ _ h => h) (by simp) hr).2.mono fun rv w' ⟨σ', h1, h2, h3, h4⟩ => ⟨σ', h1, h2, h3, fun i p hi => ?_⟩
    rcases h4 i p hi with h5 | ⟨⟨B, h5⟩, _⟩
    · exact hst.2 i p h5
    · cases h5
  | alloc B =>
    have hn : σ mem.length = Option.none := by
      cases hs : σ mem.length with
      | none => rfl
      | some p => have := hst.2 _ _ hs; omega
    refine (h W Wr σ (mem ++ [B]) w re (hst.1.more hst.2 [B]) (fun _ i B' _ hB' => ?_) (fun B' hB' => ?_) hr).2.mono fun rv w' ⟨σ', h1, h2, h3, h4⟩ => ⟨σ', h1, h2, h3, fun i p hi => ?_⟩
    · rw [List.getElem?_append_left (List.getElem?_eq_some_iff.1 hB').1]; exact hB'
    · cases hB'; exact ⟨by simp, hn⟩
    · simp only [Eff.on, List.length_append, List.length_cons, List.length_nil]
      rcases h4 i p hi with h5 | ⟨_, h5⟩
      · have := hst.2 i p h5; omega
      · omega
  | store id B =>
    refine (h W Wr σ mem w re hst.1 (fun _ _ _ _ h => h) (by simp) hr).2.mono fun rv w' ⟨σ', h1, h2, h3, h4⟩ => ⟨σ', h1, h2, ?_, fun i p hi => ?_⟩
    · simp only [Eff.on, setNth_eq]; exact h3
    · simp only [Eff.on, setNth_eq, List.length_set]
      rcases h4 i p hi with h5 | ⟨⟨B, h5⟩, _⟩
      · exact hst.2 i p h5
      · cases h5

abbrev Env := List (Nat × AV)

def look (t : Nat) : Env → AV
  | [] => .unk
  | (s, v) :: r => bif Nat.beq s t then v else look t r

def evO (env : Env) : Operand → AV
  | .tmp t => look t env
  | .const v => ofVal v
  | .global _ => .unk
  | .func f => .fn f []

structure EnvR (σ : Ren) (nt : Nat) (env : Env) (a : Act) : Prop where
  size : a.tmps.size = nt
  slot : ∀ t, R σ (look t env) (a.tmps.getD t undef)

theorem EnvR.ext {σ σ' : Ren} (h : Ext σ σ') {nt : Nat} {env : Env} {a : Act} (hr : EnvR σ nt env a) : EnvR σ' nt env a := ⟨hr.size, fun t => (hr.slot t).ext h⟩

theorem EnvR.eval {σ : Ren} {nt : Nat} {env : Env} {a : Act} (hr : EnvR σ nt env a) (x : Operand) : R σ (evO env x) (a.eval x) := by
  cases x with
  | tmp t => exact hr.slot t
  | const v => exact ofVal_R σ v
  | global g => exact .unk _
  | func f => exact .fn _ _ _ .nil

theorem EnvR.put {σ : Ren} {nt : Nat} {env : Env} {a : Act} (hr : EnvR σ nt env a) {d : Nat} (hd : d < nt) {v : AV} {rv : Value} (hv : R σ v rv) : EnvR σ nt ((d, v) :: env) (a.put (some d) rv) := by
  refine ⟨by simp [Act.put, hr.size], fun t => ?_⟩
  simp only [look, Act.put]
  by_cases e : d = t
  · subst e
    have : Nat.beq d d = true := Nat.beq_refl d
    rw [this, cond_true]
    simpa [Array.getD, hr.size, hd] using hv
  · have hb : Nat.beq d t = false := by
      cases hb : Nat.beq d t with
      | false => rfl
      | true => exact absurd (Nat.eq_of_beq_eq_true hb) e
    rw [hb, cond_false]
    have h2 := hr.slot t
    simp only [Array.getD_eq_getD_getElem?] at h2 ⊢
    rw [Array.getElem?_setIfInBounds_ne e]; exact h2

def putK (nt : Nat) (dst : Option Nat) (v : AV) (env : Env) (K : Env → Option ρ) : Option ρ :=
  match dst with
  | none => K env
  | some d => bif Nat.ble (d + 1) nt then K ((d, v) :: env) else none

theorem putK_sound {nt : Nat} {dst : Option Nat} {v : AV} {env : Env} {K : Env → Option ρ} {r : ρ} (h : putK nt dst v env K = some r) :
    ∃ env', K env' = some r ∧ ∀ (σ : Ren) (a : Act) (rv : Value), EnvR σ nt env a → R σ v rv → EnvR σ nt env' (a.put dst rv) := by
  unfold putK at h
  split at h
  · exact ⟨env, h, fun σ a rv hr _ => hr⟩
  · rename_i d
    obtain ⟨hc, h⟩ := bif_some h
    have hc := Nat.le_of_ble_eq_true hc
    exact ⟨_, h, fun σ a rv hr hv => hr.put (by omega) hv⟩

/-- is an operation to be done? Where a test is not known both ways are gone. -/
def guardK (ops : Array Oper) (env : Env) (g : Option (Nat × Bool)) (K : Env → Bool → Option ρ) : Option ρ :=
  match g with
  | none => K env true
  | some (j, want) => match (ops[j]?).bind (·.dst) with
    | none => none
    | some d => match look d env with
      | .bool b => bif b then K ((d, .bool true) :: env) want else K ((d, .bool false) :: env) (!want)
      | .tup [] => K env false
      | _ => none

theorem EnvR.again {σ : Ren} {nt : Nat} {env : Env} {a : Act} (hr : EnvR σ nt env a) {d : Nat} {v : AV} (h : look d env = v) : EnvR σ nt ((d, v) :: env) a := by
  refine ⟨hr.size, fun t => ?_⟩
  simp only [look]
  by_cases e : d = t
  · subst e
    have : Nat.beq d d = true := Nat.beq_refl d
    rw [this, cond_true, ← h]; exact hr.slot d
  · have hb : Nat.beq d t = false := by
      cases hb : Nat.beq d t with
      | false => rfl
      | true => exact absurd (Nat.eq_of_beq_eq_true hb) e
    rw [hb, cond_false]; exact hr.slot t

/-- the slot that a guard looks at -/
def gslot (ops : Array Oper) (o : Oper) : Option Nat := o.guard.bind fun g => (ops[g.1]?).bind (·.dst)

theorem guardK_sound {ops : Array Oper} {env : Env} {o : Oper} {K : Env → Bool → Option ρ} {r : ρ} (h : guardK ops env o.guard K = some r) :
    ∃ env' b, K env' b = some r ∧ (∀ t, look t env' = look t env) ∧ ∀ (σ : Ren) (a : Act), (∀ d, gslot ops o = some d → R σ (look d env) (a.tmps.getD d undef)) → Region.wanted o (yielded ops a.tmps) = b := by
  unfold guardK at h
  split at h
  · rename_i hg
    exact ⟨env, true, h, fun _ => rfl, fun σ a hr => by simp [Region.wanted, hg]⟩
  · rename_i j want hg
    split at h
    · cases h
    · rename_i d hd
      have hlook : ∀ (v : AV), look d env = v → ∀ t, look t ((d, v) :: env) = look t env := by
        intro v hv t
        simp only [look]
        by_cases e : d = t
        · subst e
          have : Nat.beq d d = true := Nat.beq_refl d
          rw [this, cond_true, hv]
        · have hb : Nat.beq d t = false := by
            cases hb : Nat.beq d t with
            | false => rfl
            | true => exact absurd (Nat.eq_of_beq_eq_true hb) e
          rw [hb, cond_false]
      have hgs : gslot ops o = some d := by simp [gslot, hg, hd]
      have hy : ∀ (b : Bool), look d env = .bool b → ∀ (σ : Ren) (a : Act), (∀ d, gslot ops o = some d → R σ (look d env) (a.tmps.getD d undef)) → Region.wanted o (yielded ops a.tmps) = (b == want) := by
        intro b hb σ a hr
        have h1 := hr d hgs
        rw [hb] at h1
        have h2 : a.tmps[d]? = some (.bool b) := by
          simp only [Array.getD_eq_getD_getElem?] at h1
          cases h3 : a.tmps[d]? with
          | none => rw [h3] at h1; simp only [Option.getD_none, undef] at h1; cases h1
          | some x => rw [h3] at h1; simp only [Option.getD_some] at h1; cases h1; rfl
        simp only [Region.wanted, hg, yielded, hd, Option.bind_some, h2]
        cases b <;> cases want <;> rfl
      split at h
      · rename_i b hb
        cases b
        · refine ⟨_, _, h, hlook _ hb, fun σ a hr => ?_⟩
          rw [hy _ hb σ a hr]; cases want <;> rfl
        · refine ⟨_, _, h, hlook _ hb, fun σ a hr => ?_⟩
          rw [hy _ hb σ a hr]; cases want <;> rfl
      · rename_i hb
        refine ⟨_, _, h, fun _ => rfl, fun σ a hr => ?_⟩
        have h1 := hr d hgs
        rw [hb] at h1
        have h2 : ∀ b, a.tmps[d]? ≠ some (.bool b) := by
          intro b hb2
          simp only [Array.getD_eq_getD_getElem?, hb2, Option.getD_some] at h1
          cases h1
        simp only [Region.wanted, hg, yielded, hd, Option.bind_some]
        cases h3 : a.tmps[d]? with
        | none => rfl
        | some x =>
          cases x with
          | bool b => exact absurd h3 (h2 b)
          | _ => rfl
      · cases h

end Pw
