/- A part of the proof: PwEvR. -/
import Derived.Test.YtccmlapcijjmpaaPwEvQ
namespace Pw
open Go Go.RowKit

variable {P : Program} {T : List (Nat × TE)} {ρ : Type}

/-! ### code -/

inductive Ex where
  | normal
  | exit (id : Nat)
  | ret

def Ex.toExit : Ex → Exit
  | .normal => .normal
  | .exit id => .exit id
  | .ret => .ret

/-- the slots that outlive a region -/
def prune (env : Env) : List Nat → Env
  | [] => []
  | t :: l => (t, look t env) :: prune env l

theorem look_prune (env : Env) : ∀ (l : List Nat) (t : Nat), look t (prune env l) = look t env ∨ look t (prune env l) = .unk
  | [], t => .inr rfl
  | s :: l, t => by
    simp only [prune, look_cons]
    by_cases e : s = t
    · subst e; rw [if_pos rfl]; exact .inl rfl
    · rw [if_neg e]; exact look_prune env l t

theorem EnvR.prune {σ : Ren} {nt : Nat} {env : Env} {a : Act} (h : EnvR σ nt env a) (l : List Nat) : EnvR σ nt (prune env l) a :=
  ⟨h.size, fun t => by
    rcases look_prune env l t with e | e
    · rw [e]; exact h.slot t
    · rw [e]; exact .unk _⟩

structure Cx where
  T : List (Nat × TE)
  O : Quiet
  M : Loud

structure CxOK (P : Program) (X : Cx) : Prop where
  mix : P.follows .mixedOrders = true
  tab : TabOK P X.T
  quiet : QuietOK P X.O
  loud : LoudOK P X.M

/-- what is known of loops: how the evaluation goes on behind one -/
abbrev LoopFn := Env → Mem → ∀ {ρ : Type}, (Ex → Env → Mem → Option ρ) → Option ρ
abbrev Loops := List (Nat × LoopFn)

/-- the number of the first region of a piece of code -/
def loopKey : Code → Nat
  | .region id _ _ => id
  | .seq a _ => loopKey a
  | .block _ b => loopKey b
  | .loop b => loopKey b
  | .cond _ a _ => loopKey a
  | .scope b => loopKey b
  | _ => 0

def findL : Loops → Nat → Option LoopFn
  | [], _ => none
  | (k, g) :: r, n => bif Nat.beq k n then some g else findL r n

/-- the bodies of the loops of a piece of code -/
def loopsOf : Code → List Code
  | .seq a b => loopsOf a ++ loopsOf b
  | .cond _ a b => loopsOf a ++ loopsOf b
  | .block _ b => loopsOf b
  | .loop b => b :: loopsOf b
  | _ => []

def codeK (X : Cx) (L : Loops) (nt : Nat) (keep : List Nat) : Nat → Code → Env → Mem → (Ex → Env → Mem → Option ρ) → Option ρ
  | 0, _, _, _, _ => none
  | n + 1, c, env, mem, K => match c with
    | .skip => K .normal env mem
    | .label _ => K .normal env mem
    | .region _ ops draw => bif draw then (drawK X.T X.O nt ops ops.toList env mem fun env mem fs => bif regOk ops fs then K .normal (prune env keep) mem else none)
        else seqK X.T X.O X.M nt ops ops.toList env mem fun env mem => K .normal (prune env keep) mem
    | .seq x y => codeK X L nt keep n x env mem fun e env mem => match e with
      | .normal => codeK X L nt keep n y env mem K
      | e => K e env mem
    | .cond c x y => match evO env c with
      | .bool b => bif b then codeK X L nt keep n x env mem K else codeK X L nt keep n y env mem K
      | _ => none
    | .block id body => codeK X L nt keep n body env mem fun e env mem => match e with
      | .exit j => bif Nat.beq j id then K .normal env mem else K (.exit j) env mem
      | e => K e env mem
    | .loop body => match findL L (loopKey body) with
      | some g => g env mem K
      | none => codeK X L nt keep n body env mem fun e env mem => match e with
        | .normal => codeK X L nt keep n (.loop body) env mem K
        | e => K e env mem
    | .exit id => K (.exit id) env mem
    | .ret => K .ret env mem
    | _ => none

/-- how a piece of code goes on -/
def Goes (nt : Nat) (env : Env) (mem : Mem) (e : Ex) (env' : Env) (mem' : Mem) (wp : (Exit → Act → World → Prop) → Act → World → Prop) : Prop :=
  ∀ (W : World) (Wr : Nat → Prop) (σ : Ren) (a : Act) (w : World) (Q : Exit → Act → World → Prop), FrR W Wr nt σ env mem a w →
    (∀ σ' a' w', Ext σ σ' → FrR W Wr nt σ' env' mem' a' w' → a'.defers = a.defers → Q e.toExit a' w') → wp Q a w

theorem Goes.trans {nt : Nat} {env env1 env2 : Env} {mem mem1 mem2 : Mem} {e1 e2 : Ex} {wp1 wp2 : (Exit → Act → World → Prop) → Act → World → Prop} {wp : (Exit → Act → World → Prop) → Act → World → Prop}
    (h1 : Goes nt env mem e1 env1 mem1 wp1) (h2 : Goes nt env1 mem1 e2 env2 mem2 wp2) (f : (Exit → Act → World → Prop) → Exit → Act → World → Prop)
    (hf : ∀ Q a w, wp2 Q a w → f Q e1.toExit a w) (hw : ∀ Q a w, wp1 (f Q) a w → wp Q a w) : Goes nt env mem e2 env2 mem2 wp := by
  intro W Wr σ a w Q hfr hq
  refine hw Q a w (h1 W Wr σ a w (f Q) hfr fun σ' a' w' he hfr' hd => hf Q a' w' (h2 W Wr σ' a' w' Q hfr' fun σ'' a'' w'' he' hfr'' hd' => ?_))
  exact hq σ'' a'' w'' (he.trans he') hfr'' (hd'.trans hd)

/-- a known loop -/
def LoopAt (P : Program) (nt : Nat) (body : Code) (g : LoopFn) : Prop :=
  ∀ (env : Env) (mem : Mem) (ρ : Type) (K : Ex → Env → Mem → Option ρ) (r : ρ), g env mem K = some r →
    ∃ e env' mem', K e env' mem' = some r ∧ ∃ m, Goes nt env mem e env' mem' (fun Q a w => Code.rounds P body Q m a w)

def LoopsOK (P : Program) (nt : Nat) (L : Loops) (c : Code) : Prop := ∀ body ∈ loopsOf c, ∀ g, findL L (loopKey body) = some g → LoopAt P nt body g

theorem LoopsOK.nil {nt : Nat} {c : Code} : LoopsOK P nt [] c := fun _ _ g h => by simp [findL] at h

theorem codeK_sound {X : Cx} (hX : CxOK P X) {L : Loops} {nt : Nat} {keep : List Nat} : ∀ (n : Nat) (c : Code) (_hL : LoopsOK P nt L c) (env : Env) (mem : Mem) (K : Ex → Env → Mem → Option ρ) (r : ρ), codeK X L nt keep n c env mem K = some r →
    ∃ e env' mem', K e env' mem' = some r ∧ Goes nt env mem e env' mem' (fun Q a w => c.wp P Q a w) ∧
      (∀ body, c = .loop body → ∃ m, Goes nt env mem e env' mem' (fun Q a w => Code.rounds P body Q m a w))
  | 0, _, _, _, _, _, _, h => by simp [codeK] at h
  | n + 1, c, hL, env, mem, K, r, h => by
    have ih := fun c hL env mem K r h => codeK_sound hX (L := L) (nt := nt) (keep := keep) n c hL env mem K r h
    cases c with
    | skip => exact ⟨.normal, env, mem, h, fun W Wr σ a w Q hf hq => wp_skip (hq σ a w (.refl σ) hf rfl), by simp⟩
    | label l => exact ⟨.normal, env, mem, h, fun W Wr σ a w Q hf hq => wp_label (hq σ a w (.refl σ) hf rfl), by simp⟩
    | exit id => exact ⟨.exit id, env, mem, h, fun W Wr σ a w Q hf hq => wp_exit (hq σ a w (.refl σ) hf rfl), by simp⟩
    | ret => exact ⟨.ret, env, mem, h, fun W Wr σ a w Q hf hq => wp_ret (hq σ a w (.refl σ) hf rfl), by simp⟩
    | region id ops draw =>
      simp only [codeK] at h
      cases draw with
      | true =>
        simp only [cond_true] at h
        obtain ⟨env', mem', h, hs⟩ := drawK_sound hX.mix hX.tab hX.quiet h
        refine ⟨.normal, _, mem', h, fun W Wr σ a w Q hf hq => hs W Wr σ a w Q id hf fun σ' a' w' he hf' hd => ?_, by simp⟩
        exact hq σ' a' w' he ⟨hf'.st, hf'.env.prune _⟩ hd
      | false =>
        simp only [cond_false] at h
        obtain ⟨env', mem', h, hs⟩ := seqK_sound hX.tab hX.quiet hX.loud ops.toList 0 env mem _ r (fun j => by simp) h
        refine ⟨.normal, _, mem', h, fun W Wr σ a w Q hf hq => ?_, by simp⟩
        refine wp_region ?_
        have := hs W Wr σ a w Q hf fun σ' a' w' he hf' hd => hq σ' a' w' he ⟨hf'.st, hf'.env.prune _⟩ hd
        rw [List.range_eq_range']
        simpa using this
    | seq x y =>
      simp only [codeK] at h
      obtain ⟨e1, env1, mem1, h, hg, -⟩ := ih x (fun b hb => hL b (by simp [loopsOf, hb])) env mem _ r h
      cases e1 with
      | normal =>
        obtain ⟨e2, env2, mem2, h, hg2, -⟩ := ih y (fun b hb => hL b (by simp [loopsOf, hb])) env1 mem1 K r h
        exact ⟨e2, env2, mem2, h, hg.trans hg2 (fun Q => Exit.then (y.wp P Q) Q) (fun Q a w h => h) (fun Q a w h => wp_seq h), by simp⟩
      | exit id =>
        exact ⟨.exit id, env1, mem1, h, fun W Wr σ a w Q hf hq => wp_seq (hg W Wr σ a w _ hf fun σ' a' w' he hf' hd => hq σ' a' w' he hf' hd), by simp⟩
      | ret =>
        exact ⟨.ret, env1, mem1, h, fun W Wr σ a w Q hf hq => wp_seq (hg W Wr σ a w _ hf fun σ' a' w' he hf' hd => hq σ' a' w' he hf' hd), by simp⟩
    | cond c x y =>
      simp only [codeK] at h
      split at h
      · rename_i b hb
        have hev : ∀ (σ : Ren) (a : Act), EnvR σ nt env a → a.eval c = .bool b := fun σ a hr => by
          have := hr.eval c
          rw [hb] at this
          generalize a.eval c = x at this
          cases this; rfl
        cases b with
        | true =>
          obtain ⟨e1, env1, mem1, h, hg, -⟩ := ih x (fun b hb => hL b (by simp [loopsOf, hb])) env mem _ r h
          exact ⟨e1, env1, mem1, h, fun W Wr σ a w Q hf hq => wp_cond_true (hev σ a hf.env) (hg W Wr σ a w Q hf hq), by simp⟩
        | false =>
          obtain ⟨e1, env1, mem1, h, hg, -⟩ := ih y (fun b hb => hL b (by simp [loopsOf, hb])) env mem _ r h
          exact ⟨e1, env1, mem1, h, fun W Wr σ a w Q hf hq => wp_cond_false (hev σ a hf.env) (hg W Wr σ a w Q hf hq), by simp⟩
      · cases h
    | block id body =>
      simp only [codeK] at h
      obtain ⟨e1, env1, mem1, h, hg, -⟩ := ih body (fun b hb => hL b (by simp [loopsOf, hb])) env mem _ r h
      cases e1 with
      | normal => exact ⟨.normal, env1, mem1, h, fun W Wr σ a w Q hf hq => wp_block (hg W Wr σ a w _ hf fun σ' a' w' he hf' hd => hq σ' a' w' he hf' hd), by simp⟩
      | ret => exact ⟨.ret, env1, mem1, h, fun W Wr σ a w Q hf hq => wp_block (hg W Wr σ a w _ hf fun σ' a' w' he hf' hd => hq σ' a' w' he hf' hd), by simp⟩
      | exit j =>
        simp only at h
        rcases bif_both h with ⟨hb, hk⟩ | ⟨hb, h⟩
        · have hb := Nat.eq_of_beq_eq_true hb
          subst hb
          exact ⟨.normal, env1, mem1, hk, fun W Wr σ a w Q hf hq => wp_block (hg W Wr σ a w _ hf fun σ' a' w' he hf' hd => by
            simp only [Ex.toExit, Exit.inBlock, if_true]; exact hq σ' a' w' he hf' hd), by simp⟩
        · have hb : j ≠ id := by intro e; subst e; rw [Nat.beq_refl] at hb; cases hb
          exact ⟨.exit j, env1, mem1, h, fun W Wr σ a w Q hf hq => wp_block (hg W Wr σ a w _ hf fun σ' a' w' he hf' hd => by
            simp only [Ex.toExit, Exit.inBlock, hb, if_false]; exact hq σ' a' w' he hf' hd), by simp⟩
    | loop body =>
      simp only [codeK] at h
      have main : ∃ e env' mem' m, K e env' mem' = some r ∧ Goes nt env mem e env' mem' (fun Q a w => Code.rounds P body Q m a w) := by
        split at h
        · rename_i g hfg
          obtain ⟨e, env', mem', h1, m, h2⟩ := hL body (by simp [loopsOf]) g hfg env mem _ K r h
          exact ⟨e, env', mem', m, h1, h2⟩
        obtain ⟨e1, env1, mem1, h, hg, -⟩ := ih body (fun b hb => hL b (by simp [loopsOf, hb])) env mem _ r h
        cases e1 with
        | normal =>
          obtain ⟨e2, env2, mem2, h, -, hg2⟩ := ih (.loop body) hL env1 mem1 K r h
          obtain ⟨m, hm⟩ := hg2 body rfl
          exact ⟨e2, env2, mem2, m + 1, h, hg.trans hm (fun Q => Exit.then (Code.rounds P body Q m) Q) (fun Q a w h => h) (fun Q a w h => h)⟩
        | exit id => exact ⟨.exit id, env1, mem1, 1, h, fun W Wr σ a w Q hf hq => hg W Wr σ a w _ hf fun σ' a' w' he hf' hd => hq σ' a' w' he hf' hd⟩
        | ret => exact ⟨.ret, env1, mem1, 1, h, fun W Wr σ a w Q hf hq => hg W Wr σ a w _ hf fun σ' a' w' he hf' hd => hq σ' a' w' he hf' hd⟩
      obtain ⟨e, env', mem', m, h1, h2⟩ := main
      refine ⟨e, env', mem', h1, fun W Wr σ a w Q hf hq => wp_loop_rounds m (h2 W Wr σ a w Q hf hq), fun b hb => ?_⟩
      cases hb
      exact ⟨m, h2⟩
    | rangeFunc => cases h
    | scope => cases h
    | goto => cases h
    | refuse => cases h


/-! ### functions -/

def resA (X : Cx) (env : Env) (mem : Mem) : List ResultVar → Option (List AV)
  | [] => some []
  | .tmp t :: l => match resA X env mem l with
    | some r => some (look t env :: r)
    | none => none
  | .cell a t :: l => match look a env with
    | .ptr id off => (match loadK X.T mem t id off some with
      | some v => (match resA X env mem l with
        | some r => some (v :: r)
        | none => none)
      | none => none)
    | _ => none

def one : List AV → AV
  | [v] => v
  | l => .tup l

/-- how a result is read off a frame -/
def resFn (a : Act) : ResultVar → Sem Value
  | .tmp t => pure (a.tmps.getD t undef)
  | .cell b t => do loadVar t (← asAddr (a.tmps.getD b undef))

theorem results_eq (fn : Func) (a : Act) : results fn a.tmps = (do
    let vs ← fn.results.mapM (resFn a)
    pure (if h : vs.size = 1 then vs[0] else .tuple vs)) := by
  unfold results
  congr 1

theorem resA_sound {X : Cx} (hX : CxOK P X) {env : Env} {mem : Mem} {σ : Ren} {nt : Nat} {a : Act} {w : World} (he : EnvR σ nt env a) (hm : MemRel σ mem w) :
    ∀ (l : List ResultVar) (vs : List AV), resA X env mem l = some vs →
      ∃ rs, (l.mapM (resFn a)).run P w = .ok rs w ∧ RL σ vs rs
  | [], vs, h => by simp only [resA, Option.some.injEq] at h; subst h; exact ⟨[], by simp, .nil⟩
  | .tmp t :: l, vs, h => by
    simp only [resA] at h
    split at h
    · rename_i r hr
      simp only [Option.some.injEq] at h
      subst h
      obtain ⟨rs, h1, h2⟩ := resA_sound hX he hm l r hr
      exact ⟨_, by rw [List.mapM_cons, Sem.run_bind, resFn, Sem.run_pure, Result.andThen_ok, Sem.run_bind, h1]; rfl, .cons _ _ _ _ (he.slot t) h2⟩
    · cases h
  | .cell b t :: l, vs, h => by
    simp only [resA] at h
    split at h
    · rename_i id off hb
      split at h
      · rename_i v hv
        split at h
        · rename_i r hr
          simp only [Option.some.injEq] at h
          subst h
          obtain ⟨rs, h1, h2⟩ := resA_sound hX he hm l r hr
          obtain ⟨v', hv', hs⟩ := loadK_sound (P := P) hX.tab hv
          simp only [Option.some.injEq] at hv'
          subst hv'
          have hp := he.slot b
          rw [hb] at hp
          obtain ⟨rv, h3, h4⟩ := hs σ w _ (fun _ _ _ _ h => hm _ _ _ _ _ h) hp
          generalize hgx : a.tmps.getD b undef = x at hp h3
          cases hp with | ptr _ _ bb δ s hσ =>
          refine ⟨rv :: rs, ?_, .cons _ _ _ _ h4 h2⟩
          have h5 : (loadVar t ⟨bb, δ + off, none⟩).run P w = .ok rv w := by simpa [Instr.loadAt, Instr.sureAddr] using h3
          have h6 : (resFn a (.cell b t)).run P w = .ok rv w := by simp [resFn, hgx, asAddr, h5]
          rw [List.mapM_cons, Sem.run_bind, h6]
          simp only [Sem.run_bind, Sem.run_pure, Result.andThen_ok, h1]
        · cases h
      · cases h
    · cases h


def argsEnv : List AV → Nat → Env
  | [], _ => []
  | v :: l, i => (i, v) :: argsEnv l (i + 1)

theorem look_args : ∀ (l : List AV) (i t : Nat), look t (argsEnv l i) = if t < i then .unk else (match l[t - i]? with
    | some v => v
    | none => .unk)
  | [], i, t => by simp [argsEnv, look]
  | v :: l, i, t => by
    simp only [argsEnv, look_cons]
    by_cases e : i = t
    · subst e; simp
    · rw [if_neg e, look_args l (i + 1) t]
      by_cases h : t < i
      · rw [if_pos (by omega), if_pos h]
      · rw [if_neg (by omega), if_neg h, show t - i = (t - (i + 1)) + 1 by omega, List.getElem?_cons_succ]

def runKL (X : Cx) (L : Loops) (keep : List Nat) (fuel : Nat) (fn : Func) (c : Code) (args : List AV) (mem : Mem) (K : AV → Mem → Option ρ) : Option ρ :=
  bif Nat.ble args.length fn.ntmps then
    codeK X L fn.ntmps keep fuel c (argsEnv args 0) mem fun e env mem => match e with
      | .exit _ => none
      | _ => (match resA X env mem fn.results.toList with
        | some vs => K (one vs) mem
        | none => none)
  else none

abbrev runK (X : Cx) (keep : List Nat) (fuel : Nat) (fn : Func) (c : Code) (args : List AV) (mem : Mem) (K : AV → Mem → Option ρ) : Option ρ := runKL X [] keep fuel fn c args mem K

theorem runKL_sound {X : Cx} (hX : CxOK P X) {L : Loops} {keep : List Nat} {fuel : Nat} {f : FuncId} {fn : Func} {c : Code} {args : List AV} {mem : Mem} {K : AV → Mem → Option ρ} {r : ρ} (hf : P.funcs[f]? = some fn) (hb : fn.body = some c) (hL : LoopsOK P fn.ntmps L c)
    (h : runKL X L keep fuel fn c args mem K = some r) : ∃ v mem', K v mem' = some r ∧ ∀ (W : World) (Wr : Nat → Prop) (σ : Ren) (w : World) (real : Array Value), FSt W Wr σ mem w → RL σ args real.toList →
    Calls P f real w fun e w' => ∃ σ' rv, e = .returned rv ∧ Ext σ σ' ∧ R σ' v rv ∧ FSt W Wr σ' mem' w' := by
  unfold runKL at h
  obtain ⟨hle, h⟩ := bif_some h
  have hle := Nat.le_of_ble_eq_true hle
  obtain ⟨e, env', mem1, h, hg, -⟩ := codeK_sound hX fuel c hL _ _ _ _ h
  have hend : ∃ vs, resA X env' mem1 fn.results.toList = some vs ∧ K (one vs) mem1 = some r ∧ (e = .normal ∨ e = .ret) := by
    cases e with
    | exit id => cases h
    | normal =>
      simp only at h
      split at h
      · rename_i vs hvs; exact ⟨vs, hvs, h, .inl rfl⟩
      · cases h
    | ret =>
      simp only at h
      split at h
      · rename_i vs hvs; exact ⟨vs, hvs, h, .inr rfl⟩
      · cases h
  obtain ⟨vs, hvs, hK, he12⟩ := hend
  refine ⟨one vs, mem1, hK, fun W Wr σ w real hst hr => ?_⟩
  have hlen := hr.size
  have hfr : FrR W Wr fn.ntmps σ (argsEnv args 0) mem { tmps := real ++ Array.replicate (fn.ntmps - real.size) undef, defers := [] } w := by
    refine ⟨hst, ⟨by simp; omega, fun t => ?_⟩⟩
    rw [look_args]
    simp only [Nat.not_lt_zero, if_false, Nat.sub_zero]
    split
    · rename_i v hv
      obtain ⟨x, h1, h2⟩ := hr.get hv
      have h1' : real[t]? = some x := by simpa using h1
      have hlt : t < real.size := (Array.getElem?_eq_some_iff.1 h1').1
      have : (real ++ Array.replicate (fn.ntmps - real.size) undef).getD t undef = x := by
        rw [Array.getD_eq_getD_getElem?, Array.getElem?_append_left hlt, h1']; rfl
      rw [this]; exact h2
    · exact .unk _
  refine calls_of_wp hf hb (hg W Wr σ _ w _ hfr fun σ' a' w' he hf' hd => ?_)
  have fin : a'.defers = [] ∧ ∃ rv, (results fn a'.tmps).run P w' = .ok rv w' ∧ ∃ σ'' rv', Ending.returned rv = .returned rv' ∧ Ext σ σ'' ∧ R σ'' (one vs) rv' ∧ FSt W Wr σ'' mem1 w' := by
    obtain ⟨rs, h1, h2⟩ := resA_sound hX hf'.env hf'.st.1.memRel _ _ hvs
    refine ⟨hd, if h : rs.toArray.size = 1 then rs.toArray[0] else .tuple rs.toArray, ?_, σ', _, rfl, he, ?_, hf'.st⟩
    · rw [results_eq, Sem.run_bind, Array.mapM_eq_mapM_toList, Sem.run_map, h1]
      rfl
    · cases h2 with
      | nil => exact .tup _ _ .nil
      | cons a x l m hx hl =>
        cases hl with
        | nil => simpa [one] using hx
        | cons b y l m hy hl => simpa [one] using R.tup (σ := σ') _ (x :: y :: m).toArray (.cons _ _ _ _ hx (.cons _ _ _ _ hy hl))
  rcases he12 with rfl | rfl
  · exact fin
  · exact fin

theorem callTo_of_calls {f : FuncId} {fn : Func} {c : Code} {real : Array Value} {w : World} {Q : Value → World → Prop} (hf : P.funcs[f]? = some fn) (hb : fn.body = some c) (hn : (fn.name == "runtime.NumGoroutine") = false)
    (h : Calls P f real w fun e w' => ∃ rv, e = .returned rv ∧ Q rv w') : CallTo P f real w Q := by
  have h1 : fn.name ≠ "runtime.NumGoroutine" := by simpa using hn
  have : (callFunc f real).run P w = .ok (.enter f real) w := by simp [callFunc, hf, h1, hb]
  unfold CallTo
  rw [this]
  refine h.mono fun e w' ⟨rv, he, hq⟩ => ?_
  subst he; exact hq

/-- a function over plain values, run in memory of its own -/
def runQL (X : Cx) (L : Loops) (keep : List Nat) (fuel : Nat) (fn : Func) (c : Code) (args : List AV) : Option AV :=
  match AV.closed.all args with
  | true => runKL X L keep fuel fn c args [] fun v _ => match v.closed with
    | true => some v
    | false => none
  | false => none

abbrev runQ (X : Cx) (keep : List Nat) (fuel : Nat) (fn : Func) (c : Code) (args : List AV) : Option AV := runQL X [] keep fuel fn c args

theorem St.empty (w : World) : FSt w (fun _ => False) (fun _ => none) [] w :=
  ⟨⟨rfl, rfl, rfl, Nat.le_refl _, fun _ _ _ => rfl, by simp, by simp, by simp, by simp⟩, by simp⟩

theorem runQL_sound {X : Cx} (hX : CxOK P X) {L : Loops} {keep : List Nat} {fuel : Nat} {f : FuncId} {fn : Func} {c : Code} {args : List AV} {v : AV} (hf : P.funcs[f]? = some fn) (hb : fn.body = some c) (hn : (fn.name == "runtime.NumGoroutine") = false) (hL : LoopsOK P fn.ntmps L c)
    (h : runQL X L keep fuel fn c args = some v) (σ : Ren) (w : World) (real : Array Value) (hr : RL σ args real.toList) : CallTo P f real w fun rv w' => R σ v rv ∧ Below w.heap.size w w' := by
  unfold runQL at h
  split at h
  · rename_i hc
    obtain ⟨v', mem', h, hs⟩ := runKL_sound hX hf hb hL h
    split at h
    · rename_i hcv
      simp only [Option.some.injEq] at h
      subst h
      refine callTo_of_calls hf hb hn ((hs w _ _ w real (St.empty w) (hr.closed hc)).mono fun e w' ⟨σ', rv, he, _, hv, hst⟩ => ?_)
      exact ⟨rv, he, hv.closed hcv, Below.mk hst.1.os hst.1.tape hst.1.output hst.1.size (fun k hk => hst.1.old k hk (fun h => h))⟩
    · cases h
  · cases h

/-! ### contracts, gathered -/

def addQ (O : Quiet) (f : FuncId) (g : List AV → Mem → ∀ {ρ : Type}, (AV → Option Blk → Option ρ) → Option ρ) : Quiet := fun f' args mem _ K => bif Nat.beq f' f then g args mem K else O f' args mem K

theorem addQ_ok {O : Quiet} (hO : QuietOK P O) {f : FuncId} {g : List AV → Mem → ∀ {ρ : Type}, (AV → Option Blk → Option ρ) → Option ρ} (hg : QuietAt P f g) : QuietOK P (addQ O f g) := by
  intro f' args mem ρ K r h
  unfold addQ at h
  rcases bif_both h with ⟨hb, hk⟩ | ⟨hb, hk⟩
  · have hb := Nat.eq_of_beq_eq_true hb
    subst hb; exact hg args mem ρ K r hk
  · exact hO f' args mem ρ K r hk

/-- a call whose value is told outright -/
def val (g : List AV → Option AV) : List AV → Mem → ∀ {ρ : Type}, (AV → Option Blk → Option ρ) → Option ρ := fun args _ _ K => match g args with
  | some v => K v none
  | none => none

/-- values that stand for something -/
def wfL (l : List AV) : Prop := ∃ σ m, RL σ l m
def wf1 (a : AV) : Prop := ∃ σ v, R σ a v
theorem wfL.cons {a : AV} {l : List AV} (h : wfL (a :: l)) : wf1 a ∧ wfL l := by
  obtain ⟨σ, m, h⟩ := h
  cases h with | cons _ v _ m h1 h2 => exact ⟨⟨σ, v, h1⟩, σ, m, h2⟩
theorem wf1.agg {l : List AV} (h : wf1 (.agg l)) : wfL l := by
  obtain ⟨σ, v, h⟩ := h
  cases h with | agg _ arr h => exact ⟨σ, _, h⟩
theorem wf1.u {k : IntKind} {n : Nat} (h : wf1 (.u k n)) : n < 2 ^ k.bits := by
  obtain ⟨σ, v, h⟩ := h
  cases h with | u _ _ _ h => exact h
theorem wf1.n {i : Int} (h : wf1 (.n i)) : -9223372036854775808 ≤ i ∧ i < 9223372036854775808 := by
  obtain ⟨σ, v, h⟩ := h
  cases h with | n _ h1 h2 => exact ⟨h1, h2⟩

theorem quietAt_of_runL {X : Cx} (hX : CxOK P X) {L : Loops} {keep : List Nat} {f : FuncId} {fn : Func} {c : Code} (hf : P.funcs[f]? = some fn) (hb : fn.body = some c) (hn : (fn.name == "runtime.NumGoroutine") = false) (hL : LoopsOK P fn.ntmps L c)
    {g : List AV → Option AV} (h : ∀ args v, g args = some v → wfL args → ∃ fuel, runQL X L keep fuel fn c args = some v) : QuietAt P f (val g) := by
  intro args mem ρ K r hg
  unfold val at hg
  split at hg
  · rename_i v hv
    refine ⟨v, none, hg, fun σ w real hr _ _ => ?_⟩
    obtain ⟨fuel, h⟩ := h args v hv ⟨σ, _, hr⟩
    exact (runQL_sound hX hf hb hn hL h σ w real hr).mono fun rv w' hq => ⟨hq.2, hq.1⟩
  · cases hg
theorem quietAt_of_run {X : Cx} (hX : CxOK P X) {keep : List Nat} {f : FuncId} {fn : Func} {c : Code} (hf : P.funcs[f]? = some fn) (hb : fn.body = some c) (hn : (fn.name == "runtime.NumGoroutine") = false)
    {g : List AV → Option AV} (h : ∀ args v, g args = some v → wfL args → ∃ fuel, runQ X keep fuel fn c args = some v) : QuietAt P f (val g) := quietAt_of_runL hX hf hb hn LoopsOK.nil h

/-- a call that is gone through in place -/
theorem loudAt_of_run {X : Cx} (hX : CxOK P X) {L : Loops} {keep : List Nat} {fuel : Nat} {f : FuncId} {fn : Func} {c : Code} (hf : P.funcs[f]? = some fn) (hb : fn.body = some c) (hn : (fn.name == "runtime.NumGoroutine") = false) (hL : LoopsOK P fn.ntmps L c) :
    LoudAt P f (fun args mem _ K => runKL X L keep fuel fn c args mem K) := by
  intro args mem ρ K r h
  obtain ⟨v, mem', h, hs⟩ := runKL_sound hX hf hb hL h
  exact ⟨v, mem', h, fun W Wr σ w real hst hr => callTo_of_calls hf hb hn ((hs W Wr σ w real hst hr).mono fun e w' ⟨σ', rv, he, hx, hv, hst'⟩ => ⟨rv, he, σ', hx, hv, hst'⟩)⟩

def addM (M : Loud) (f : FuncId) (g : List AV → Mem → ∀ {ρ : Type}, (AV → Mem → Option ρ) → Option ρ) : Loud := fun f' => bif Nat.beq f' f then some g else M f'
theorem addM_ok {M : Loud} (hM : LoudOK P M) {f : FuncId} {g : List AV → Mem → ∀ {ρ : Type}, (AV → Mem → Option ρ) → Option ρ} (hg : LoudAt P f g) : LoudOK P (addM M f g) := by
  intro f' g' h
  unfold addM at h
  cases hb : Nat.beq f' f with
  | true =>
    rw [hb] at h
    have hb := Nat.eq_of_beq_eq_true hb
    subst hb
    simp only [cond_true, Option.some.injEq] at h
    subst h; exact hg
  | false => rw [hb] at h; exact hM f' g' h

def noQ : Quiet := fun _ _ _ _ _ => none
def noM : Loud := fun _ => none
theorem noQ_ok : QuietOK P noQ := by intro f args mem ρ K r h; cases h
theorem noM_ok : LoudOK P noM := by intro f g h; cases h

/-! ### loops -/

/-- a loop that is known by the evaluation of its rounds -/
theorem loopAt_of {X : Cx} (hX : CxOK P X) {L : Loops} {nt : Nat} {keep : List Nat} {body : Code} {g : LoopFn} (hL : LoopsOK P nt L (.loop body))
    (h : ∀ (env : Env) (mem : Mem) (ρ : Type) (K : Ex → Env → Mem → Option ρ) (r : ρ), g env mem K = some r →
      ∃ ts e env' mem' fuel, K e env' mem' = some r ∧ codeK X L nt keep fuel (.loop body) (prune env ts) mem (fun e env mem => some (e, env, mem)) = some (e, env', mem')) : LoopAt P nt body g := by
  intro env mem ρ K r hg
  obtain ⟨ts, e, env', mem', fuel, hk, hc⟩ := h env mem ρ K r hg
  obtain ⟨e1, env1, mem1, h1, -, h2⟩ := codeK_sound hX fuel (.loop body) hL _ _ _ _ hc
  obtain ⟨m, hm⟩ := h2 body rfl
  simp only [Option.some.injEq, Prod.mk.injEq] at h1
  obtain ⟨rfl, rfl, rfl⟩ := h1
  exact ⟨e1, env1, mem1, hk, m, fun W Wr σ a w Q hf hq => hm W Wr σ a w Q ⟨hf.st, hf.env.prune ts⟩ hq⟩

theorem loopsOK_cons {nt : Nat} {L : Loops} {c body : Code} {k : Nat} {g : LoopFn} (hL : LoopsOK P nt L c) (hb : (loopsOf c).filter (fun b => Nat.beq k (loopKey b)) = [body]) (hg : LoopAt P nt body g) :
    LoopsOK P nt ((k, g) :: L) c := by
  intro b hbm g' hf
  unfold findL at hf
  cases hq : Nat.beq k (loopKey b) with
  | true =>
    rw [hq] at hf
    simp only [cond_true, Option.some.injEq] at hf
    subst hf
    have : b ∈ (loopsOf c).filter (fun b => Nat.beq k (loopKey b)) := List.mem_filter.2 ⟨hbm, hq⟩
    rw [hb] at this
    simp only [List.mem_singleton] at this
    subst this; exact hg
  | false => rw [hq] at hf; exact hL b hbm g' hf

theorem codeK_loop_eq {X : Cx} {L : Loops} {nt : Nat} {keep : List Nat} {n : Nat} {body : Code} {env : Env} {mem : Mem} {K : Ex → Env → Mem → Option ρ} (hf : findL L (loopKey body) = none) :
    codeK X L nt keep (n + 1) (.loop body) env mem K = codeK X L nt keep n body env mem fun e env mem => match e with
      | .normal => codeK X L nt keep n (.loop body) env mem K
      | e => K e env mem := by
  simp only [codeK, hf]

/-- a loop with a count that is not known as a numeral -/
theorem codeK_loop {X : Cx} {L : Loops} {nt : Nat} {keep : List Nat} {body : Code} (hf : findL L (loopKey body) = none) {E : Nat → Env} {M : Nat → Mem} {N c : Nat} {ex : Ex} {E' : Env} {M' : Mem} (hex : ex ≠ .normal)
    (step : ∀ i, i < N → ∀ (n : Nat) (K : Ex → Env → Mem → Option ρ), codeK X L nt keep (n + c) body (E i) (M i) K = K .normal (E (i + 1)) (M (i + 1)))
    (fin : ∀ (n : Nat) (K : Ex → Env → Mem → Option ρ), codeK X L nt keep (n + c) body (E N) (M N) K = K ex E' M') :
    ∀ (n : Nat) (K : Ex → Env → Mem → Option ρ), codeK X L nt keep (n + c + N + 1) (.loop body) (E 0) (M 0) K = K ex E' M' := by
  have key : ∀ (d i : Nat), i + d = N → ∀ (n : Nat) (K : Ex → Env → Mem → Option ρ), codeK X L nt keep (n + c + d + 1) (.loop body) (E i) (M i) K = K ex E' M' := by
    intro d
    induction d with
    | zero =>
      intro i hi n K
      have : i = N := by omega
      subst this
      rw [Nat.add_zero, codeK_loop_eq hf, fin n]
      cases ex with
      | normal => exact absurd rfl hex
      | exit j => rfl
      | ret => rfl
    | succ d ih =>
      intro i hi n K
      rw [codeK_loop_eq hf, show n + c + (d + 1) = (n + (d + 1)) + c by omega, step i (by omega) (n + (d + 1))]
      dsimp only
      rw [show (n + (d + 1)) + c = n + c + d + 1 by omega]
      exact ih (i + 1) (by omega) n K
  exact key N 0 (by omega)

end Pw
