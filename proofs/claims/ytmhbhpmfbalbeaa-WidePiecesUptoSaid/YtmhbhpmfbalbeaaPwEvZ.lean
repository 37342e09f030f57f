/- A part of the proof: PwEvZ. -/
import Derived.Test.YtmhbhpmfbalbeaaPwMg
import Derived.Test.YtmhbhpmfbalbeaaPwMc
namespace Pw
open Go Go.RowKit

variable {P : Program} {T : List (Nat × TE)} {ρ : Type}

/-! ### laws over lists of records: what lies in the world at the start is known, and looked into round by round -/

abbrev Wr0 : Nat → Prop := fun _ => False

/-- what is known of the world at the start, and where the first blocks lie -/
structure Fact (n : Nat) where
  ok : World → Ren → Prop
  st : ∀ (W : World) (σ σ' : Ren), ExtN n σ σ' → ok W σ → ok W σ'

variable {n : Nat} (Φ : Fact n)

def GoesP (nt : Nat) (env : Env) (mem : Mem) (e : Ex) (env' : Env) (mem' : Mem) (wp : (Exit → Act → World → Prop) → Act → World → Prop) : Prop :=
  ∀ (W : World) (σ : Ren) (a : Act) (w : World) (Q : Exit → Act → World → Prop), Φ.ok W σ → FrR W Wr0 nt σ env mem a w →
    (∀ σ' a' w', ExtN n σ σ' → FrR W Wr0 nt σ' env' mem' a' w' → a'.defers = a.defers → Q e.toExit a' w') → wp Q a w

variable {Φ}

theorem GoesN.p {nt : Nat} {env env' : Env} {mem mem' : Mem} {e : Ex} {wp : (Exit → Act → World → Prop) → Act → World → Prop} (h : GoesN n nt env mem e env' mem' wp) : GoesP Φ nt env mem e env' mem' wp :=
  fun W σ a w Q _ hf hq => h W Wr0 σ a w Q hf hq
theorem Goes.p {nt : Nat} {env env' : Env} {mem mem' : Mem} {e : Ex} {wp : (Exit → Act → World → Prop) → Act → World → Prop} (h : Goes nt env mem e env' mem' wp) : GoesP Φ nt env mem e env' mem' wp := h.n.p

theorem GoesP.trans {nt : Nat} {env env1 env2 : Env} {mem mem1 mem2 : Mem} {e1 e2 : Ex} {wp1 wp2 : (Exit → Act → World → Prop) → Act → World → Prop} {wp : (Exit → Act → World → Prop) → Act → World → Prop}
    (h1 : GoesP Φ nt env mem e1 env1 mem1 wp1) (h2 : GoesP Φ nt env1 mem1 e2 env2 mem2 wp2) (f : (Exit → Act → World → Prop) → Exit → Act → World → Prop)
    (hf : ∀ Q a w, wp2 Q a w → f Q e1.toExit a w) (hw : ∀ Q a w, wp1 (f Q) a w → wp Q a w) : GoesP Φ nt env mem e2 env2 mem2 wp := by
  intro W σ a w Q hΦ hfr hq
  refine hw Q a w (h1 W σ a w (f Q) hΦ hfr fun σ' a' w' he hfr' hd => hf Q a' w' (h2 W σ' a' w' Q (Φ.st _ _ _ he hΦ) hfr' fun σ'' a'' w'' he' hfr'' hd' => ?_))
  exact hq σ'' a'' w'' (he.trans he') hfr'' (hd'.trans hd)

/-- a loop that is known where the facts hold -/
def LoopAtP (P : Program) (Φ : Fact n) (nt : Nat) (body : Code) (g : LoopFn) : Prop :=
  ∀ (env : Env) (mem : Mem) (ρ : Type) (K : Ex → Env → Mem → Option ρ) (r : ρ), g env mem K = some r →
    ∃ e env' mem', K e env' mem' = some r ∧ ∃ m, GoesP Φ nt env mem e env' mem' (fun Q a w => Code.rounds P body Q m a w)
theorem LoopAt.p {nt : Nat} {body : Code} {g : LoopFn} (h : LoopAt P nt body g) : LoopAtP P Φ nt body g := by
  intro env mem ρ K r hg
  obtain ⟨e, env', mem', h1, m, h2⟩ := h env mem ρ K r hg
  exact ⟨e, env', mem', h1, m, h2.p⟩

def LoopsP (P : Program) (Φ : Fact n) (nt : Nat) (L : Loops) (c : Code) : Prop := ∀ body ∈ loopsOf c, ∀ g, findL L (loopKey body) = some g → LoopAtP P Φ nt body g
theorem LoopsP.nil {nt : Nat} {c : Code} : LoopsP P Φ nt [] c := fun _ _ g h => by simp [findL] at h
theorem loopsP_cons {nt : Nat} {L : Loops} {c body : Code} {k : Nat} {g : LoopFn} (hL : LoopsP P Φ nt L c) (hb : (loopsOf c).filter (fun b => Nat.beq k (loopKey b)) = [body]) (hg : LoopAtP P Φ nt body g) :
    LoopsP P Φ nt ((k, g) :: L) c := by
  intro b hbm g' hf
  unfold findL at hf
  cases hq : Nat.beq k (loopKey b) with
  | true =>
    rw [hq] at hf
    simp only [cond_true, Option.some.injEq] at hf
    subst hf
    have : b ∈ (loopsOf c).filter (fun b => Nat.beq k (loopKey b)) := List.mem_filter.2 ⟨hbm, hq⟩
    rw [hb] at this
    simp only [List.mem_singleton] at this
    subst this; exact hg
  | false => rw [hq] at hf; exact hL b hbm g' hf

theorem codeP_sound {X : Cx} (hX : CxOK P X) {L : Loops} {nt : Nat} {keep : List Nat} : ∀ (k : Nat) (c : Code) (_hL : LoopsP P Φ nt L c) (env : Env) (mem : Mem) (K : Ex → Env → Mem → Option ρ) (r : ρ), codeK X L nt keep k c env mem K = some r →
    ∃ e env' mem', K e env' mem' = some r ∧ GoesP Φ nt env mem e env' mem' (fun Q a w => c.wp P Q a w) ∧
      (∀ body, c = .loop body → ∃ m, GoesP Φ nt env mem e env' mem' (fun Q a w => Code.rounds P body Q m a w))
  | 0, _, _, _, _, _, _, h => by simp [codeK] at h
  | k + 1, c, hL, env, mem, K, r, h => by
    have ih := fun c hL env mem K r h => codeP_sound hX (L := L) (nt := nt) (keep := keep) k c hL env mem K r h
    cases c with
    | skip => exact ⟨.normal, env, mem, h, fun W σ a w Q _ hf hq => wp_skip (hq σ a w (fun _ _ _ h => h) hf rfl), by simp⟩
    | label l => exact ⟨.normal, env, mem, h, fun W σ a w Q _ hf hq => wp_label (hq σ a w (fun _ _ _ h => h) hf rfl), by simp⟩
    | exit id => exact ⟨.exit id, env, mem, h, fun W σ a w Q _ hf hq => wp_exit (hq σ a w (fun _ _ _ h => h) hf rfl), by simp⟩
    | ret => exact ⟨.ret, env, mem, h, fun W σ a w Q _ hf hq => wp_ret (hq σ a w (fun _ _ _ h => h) hf rfl), by simp⟩
    | region id ops draw =>
      simp only [codeK] at h
      cases draw with
      | true =>
        simp only [cond_true] at h
        obtain ⟨env', mem', h, hs⟩ := drawK_sound hX.mix hX.tab hX.quiet h
        refine ⟨.normal, _, mem', h, fun W σ a w Q _ hf hq => hs W Wr0 σ a w Q id hf fun σ' a' w' he hf' hd => ?_, by simp⟩
        exact hq σ' a' w' (fun i p _ hp => he i p hp) ⟨hf'.st, hf'.env.prune _⟩ hd
      | false =>
        simp only [cond_false] at h
        obtain ⟨env', mem', h, hs⟩ := seqK_sound hX.tab hX.quiet hX.loud ops.toList 0 env mem _ r (fun j => by simp) h
        refine ⟨.normal, _, mem', h, fun W σ a w Q _ hf hq => ?_, by simp⟩
        refine wp_region ?_
        have := hs W Wr0 σ a w Q hf fun σ' a' w' he hf' hd => hq σ' a' w' (fun i p _ hp => he i p hp) ⟨hf'.st, hf'.env.prune _⟩ hd
        rw [List.range_eq_range']
        simpa using this
    | seq x y =>
      simp only [codeK] at h
      obtain ⟨e1, env1, mem1, h, hg, -⟩ := ih x (fun b hb => hL b (by simp [loopsOf, hb])) env mem _ r h
      cases e1 with
      | normal =>
        obtain ⟨e2, env2, mem2, h, hg2, -⟩ := ih y (fun b hb => hL b (by simp [loopsOf, hb])) env1 mem1 K r h
        exact ⟨e2, env2, mem2, h, hg.trans hg2 (fun Q => Exit.then (y.wp P Q) Q) (fun Q a w h => h) (fun Q a w h => wp_seq h), by simp⟩
      | exit id =>
        exact ⟨.exit id, env1, mem1, h, fun W σ a w Q hΦ hf hq => wp_seq (hg W σ a w _ hΦ hf fun σ' a' w' he hf' hd => hq σ' a' w' he hf' hd), by simp⟩
      | ret =>
        exact ⟨.ret, env1, mem1, h, fun W σ a w Q hΦ hf hq => wp_seq (hg W σ a w _ hΦ hf fun σ' a' w' he hf' hd => hq σ' a' w' he hf' hd), by simp⟩
    | cond c x y =>
      simp only [codeK] at h
      split at h
      · rename_i b hb
        have hev : ∀ (σ : Ren) (a : Act), EnvR σ nt env a → a.eval c = .bool b := fun σ a hr => by
          have := hr.eval c
          rw [hb] at this
          generalize a.eval c = x at this
          cases this; rfl
        cases b with
        | true =>
          obtain ⟨e1, env1, mem1, h, hg, -⟩ := ih x (fun b hb => hL b (by simp [loopsOf, hb])) env mem _ r h
          exact ⟨e1, env1, mem1, h, fun W σ a w Q hΦ hf hq => wp_cond_true (hev σ a hf.env) (hg W σ a w Q hΦ hf hq), by simp⟩
        | false =>
          obtain ⟨e1, env1, mem1, h, hg, -⟩ := ih y (fun b hb => hL b (by simp [loopsOf, hb])) env mem _ r h
          exact ⟨e1, env1, mem1, h, fun W σ a w Q hΦ hf hq => wp_cond_false (hev σ a hf.env) (hg W σ a w Q hΦ hf hq), by simp⟩
      · cases h
    | block id body =>
      simp only [codeK] at h
      obtain ⟨e1, env1, mem1, h, hg, -⟩ := ih body (fun b hb => hL b (by simp [loopsOf, hb])) env mem _ r h
      cases e1 with
      | normal => exact ⟨.normal, env1, mem1, h, fun W σ a w Q hΦ hf hq => wp_block (hg W σ a w _ hΦ hf fun σ' a' w' he hf' hd => hq σ' a' w' he hf' hd), by simp⟩
      | ret => exact ⟨.ret, env1, mem1, h, fun W σ a w Q hΦ hf hq => wp_block (hg W σ a w _ hΦ hf fun σ' a' w' he hf' hd => hq σ' a' w' he hf' hd), by simp⟩
      | exit j =>
        simp only at h
        rcases bif_both h with ⟨hb, hk⟩ | ⟨hb, h⟩
        · have hb := Nat.eq_of_beq_eq_true hb
          subst hb
          exact ⟨.normal, env1, mem1, hk, fun W σ a w Q hΦ hf hq => wp_block (hg W σ a w _ hΦ hf fun σ' a' w' he hf' hd => by
            simp only [Ex.toExit, Exit.inBlock, if_true]; exact hq σ' a' w' he hf' hd), by simp⟩
        · have hb : j ≠ id := by intro e; subst e; rw [Nat.beq_refl] at hb; cases hb
          exact ⟨.exit j, env1, mem1, h, fun W σ a w Q hΦ hf hq => wp_block (hg W σ a w _ hΦ hf fun σ' a' w' he hf' hd => by
            simp only [Ex.toExit, Exit.inBlock, hb, if_false]; exact hq σ' a' w' he hf' hd), by simp⟩
    | loop body =>
      simp only [codeK] at h
      have main : ∃ e env' mem' m, K e env' mem' = some r ∧ GoesP Φ nt env mem e env' mem' (fun Q a w => Code.rounds P body Q m a w) := by
        split at h
        · rename_i g hfg
          obtain ⟨e, env', mem', h1, m, h2⟩ := hL body (by simp [loopsOf]) g hfg env mem _ K r h
          exact ⟨e, env', mem', m, h1, h2⟩
        obtain ⟨e1, env1, mem1, h, hg, -⟩ := ih body (fun b hb => hL b (by simp [loopsOf, hb])) env mem _ r h
        cases e1 with
        | normal =>
          obtain ⟨e2, env2, mem2, h, -, hg2⟩ := ih (.loop body) hL env1 mem1 K r h
          obtain ⟨m, hm⟩ := hg2 body rfl
          exact ⟨e2, env2, mem2, m + 1, h, hg.trans hm (fun Q => Exit.then (Code.rounds P body Q m) Q) (fun Q a w h => h) (fun Q a w h => h)⟩
        | exit id => exact ⟨.exit id, env1, mem1, 1, h, fun W σ a w Q hΦ hf hq => hg W σ a w _ hΦ hf fun σ' a' w' he hf' hd => hq σ' a' w' he hf' hd⟩
        | ret => exact ⟨.ret, env1, mem1, 1, h, fun W σ a w Q hΦ hf hq => hg W σ a w _ hΦ hf fun σ' a' w' he hf' hd => hq σ' a' w' he hf' hd⟩
      obtain ⟨e, env', mem', m, h1, h2⟩ := main
      refine ⟨e, env', mem', h1, fun W σ a w Q hΦ hf hq => wp_loop_rounds m (h2 W σ a w Q hΦ hf hq), fun b hb => ?_⟩
      cases hb
      exact ⟨m, h2⟩
    | rangeFunc => cases h
    | scope => cases h
    | goto => cases h
    | refuse => cases h

theorem runP_sound {X : Cx} (hX : CxOK P X) {L : Loops} {keep : List Nat} {fuel : Nat} {f : FuncId} {fn : Func} {c : Code} {args : List AV} {mem : Mem} {K : AV → Mem → Option ρ} {r : ρ} (hf : P.funcs[f]? = some fn) (hb : fn.body = some c) (hL : LoopsP P Φ fn.ntmps L c)
    (h : runKL X L keep fuel fn c args mem K = some r) : ∃ v mem', K v mem' = some r ∧ ∀ (W : World) (σ : Ren) (w : World) (real : Array Value), Φ.ok W σ → FSt W Wr0 σ mem w → RL σ args real.toList →
    Calls P f real w fun e w' => ∃ σ' rv, e = .returned rv ∧ ExtN n σ σ' ∧ R σ' v rv ∧ FSt W Wr0 σ' mem' w' := by
  unfold runKL at h
  obtain ⟨hle, h⟩ := bif_some h
  have hle := Nat.le_of_ble_eq_true hle
  obtain ⟨e, env', mem1, h, hg, -⟩ := codeP_sound hX fuel c hL _ _ _ _ h
  have hend : ∃ vs, resA X env' mem1 fn.results.toList = some vs ∧ K (one vs) mem1 = some r ∧ (e = .normal ∨ e = .ret) := by
    cases e with
    | exit id => cases h
    | normal =>
      simp only at h
      split at h
      · rename_i vs hvs; exact ⟨vs, hvs, h, .inl rfl⟩
      · cases h
    | ret =>
      simp only at h
      split at h
      · rename_i vs hvs; exact ⟨vs, hvs, h, .inr rfl⟩
      · cases h
  obtain ⟨vs, hvs, hK, he12⟩ := hend
  refine ⟨one vs, mem1, hK, fun W σ w real hΦ hst hr => ?_⟩
  have hlen := hr.size
  have hfr : FrR W Wr0 fn.ntmps σ (argsEnv args 0) mem { tmps := real ++ Array.replicate (fn.ntmps - real.size) undef, defers := [] } w := by
    refine ⟨hst, ⟨by simp; omega, fun t => ?_⟩⟩
    rw [look_args]
    simp only [Nat.not_lt_zero, if_false, Nat.sub_zero]
    split
    · rename_i v hv
      obtain ⟨x, h1, h2⟩ := hr.get hv
      have h1' : real[t]? = some x := by simpa using h1
      have hlt : t < real.size := (Array.getElem?_eq_some_iff.1 h1').1
      have : (real ++ Array.replicate (fn.ntmps - real.size) undef).getD t undef = x := by
        rw [Array.getD_eq_getD_getElem?, Array.getElem?_append_left hlt, h1']; rfl
      rw [this]; exact h2
    · exact .unk _
  refine calls_of_wp hf hb (hg W σ _ w _ hΦ hfr fun σ' a' w' he hf' hd => ?_)
  have fin : a'.defers = [] ∧ ∃ rv, (results fn a'.tmps).run P w' = .ok rv w' ∧ ∃ σ'' rv', Ending.returned rv = .returned rv' ∧ ExtN n σ σ'' ∧ R σ'' (one vs) rv' ∧ FSt W Wr0 σ'' mem1 w' := by
    obtain ⟨rs, h1, h2⟩ := resA_sound hX hf'.env hf'.st.1.memRel _ _ hvs
    refine ⟨hd, if h : rs.toArray.size = 1 then rs.toArray[0] else .tuple rs.toArray, ?_, σ', _, rfl, he, ?_, hf'.st⟩
    · rw [results_eq, Sem.run_bind, Array.mapM_eq_mapM_toList, Sem.run_map, h1]
      rfl
    · cases h2 with
      | nil => exact .tup _ _ .nil
      | cons a x l m hx hl =>
        cases hl with
        | nil => simpa [one] using hx
        | cons b y l m hy hl => simpa [one] using R.tup (σ := σ') _ (x :: y :: m).toArray (.cons _ _ _ _ hx (.cons _ _ _ _ hy hl))
  rcases he12 with rfl | rfl
  · exact fin
  · exact fin

/-! ### loops, round by round: at the start of a round something is told anew -/

/-- in other words, out of what is known of the world -/
def Tells (Φ : Fact n) (nt : Nat) (env : Env) (mem mem' : Mem) : Prop :=
  ∀ (W : World) (σ : Ren) (a : Act) (w : World), Φ.ok W σ → FrR W Wr0 nt σ env mem a w → ∃ σ', ExtN n σ σ' ∧ FrR W Wr0 nt σ' env mem' a w

theorem Tells.refl {nt : Nat} {env : Env} {mem : Mem} : Tells Φ nt env mem mem := fun _ σ _ _ _ hf => ⟨σ, fun _ _ _ h => h, hf⟩

theorem Tells.goes {nt : Nat} {env env' : Env} {mem mem1 mem2 mem' : Mem} {e : Ex} {wp : (Exit → Act → World → Prop) → Act → World → Prop} (ht : Tells Φ nt env mem mem1) (h : GoesN n nt env mem1 e env' mem2 wp) (hw : MemW mem2 mem') :
    GoesP Φ nt env mem e env' mem' wp := by
  intro W σ a w Q hΦ hf hq
  obtain ⟨σ1, h1, h2⟩ := ht W σ a w hΦ hf
  exact h W Wr0 σ1 a w Q h2 fun σ' a' w' he hf' hd => hq σ' a' w' (h1.trans he) ⟨hf'.st.weaken hw, hf'.env⟩ hd

theorem roundsP {nt N : Nat} {body : Code} {E : Nat → Env} {M : Nat → Mem} {e : Ex} {E' : Env} {M' : Mem} (hne : e ≠ .normal)
    (step : ∀ i, i < N → GoesP Φ nt (E i) (M i) .normal (E (i + 1)) (M (i + 1)) (fun Q a w => body.wp P Q a w)) (fin : GoesP Φ nt (E N) (M N) e E' M' (fun Q a w => body.wp P Q a w)) :
    ∀ (d i : Nat), i + d = N → GoesP Φ nt (E i) (M i) e E' M' (fun Q a w => Code.rounds P body Q (d + 1) a w)
  | 0, i, hi => by
    have : i = N := by omega
    subst this
    intro W σ a w Q hΦ hf hq
    exact fin W σ a w _ hΦ hf fun σ' a' w' he hf' hd => by
      cases e with
      | normal => exact absurd rfl hne
      | exit j => exact hq σ' a' w' he hf' hd
      | ret => exact hq σ' a' w' he hf' hd
  | d + 1, i, hi => by
    intro W σ a w Q hΦ hf hq
    exact step i (by omega) W σ a w _ hΦ hf fun σ' a' w' he hf' hd =>
      roundsP hne step fin d (i + 1) (by omega) W σ' a' w' Q (Φ.st _ _ _ he hΦ) hf' fun σ2 a2 w2 he2 hf2 hd2 => hq σ2 a2 w2 (he.trans he2) hf2 (hd2.trans hd)

/-- blocks that are not looked into any more -/
def killL : List Nat → Mem → Mem
  | [], m => m
  | k :: r, m => killL r (setNth m k dead)
theorem FSt.killL {W : World} {Wr : Nat → Prop} {σ : Ren} {w : World} : ∀ (ks : List Nat) {mem : Mem}, FSt W Wr σ mem w → FSt W Wr σ (killL ks mem) w
  | [], _, h => h
  | k :: r, mem, h => by
    unfold Pw.killL
    rw [setNth_eq]
    exact FSt.killL r (h.kill k)

/-- the end of a round, where some blocks are not looked into any more -/
def outP (ts : List Nat) (n : Nat) (ks srcN srcX : List Nat) : Ex → Env → Mem → Option (Ex × Env × Mem) := fun e env mem => outG ts n srcN srcX e env (killL ks mem)

theorem goesN_of_outP {X : Cx} (hX : CxOK P X) {L : Loops} {n nt : Nat} {keep ts ks srcN srcX : List Nat} {fuel : Nat} {c : Code} (hL : LoopsOK P nt L c) {env env' : Env} {mem mem' : Mem} {e : Ex}
    (h : codeK X L nt keep fuel c env mem (outP ts n ks srcN srcX) = some (e, env', mem')) : GoesN n nt env mem e env' mem' (fun Q a w => c.wp P Q a w) := by
  obtain ⟨e1, env1, mem1, h1, h2, -⟩ := codeK_sound hX fuel c hL _ _ _ _ h
  have h3 : Goes nt env mem e1 env1 (killL ks mem1) (fun Q a w => c.wp P Q a w) := fun W Wr σ a w Q hf hq => h2 W Wr σ a w Q hf fun σ' a' w' he hf' hd => hq σ' a' w' he ⟨hf'.st.killL ks, hf'.env⟩ hd
  unfold outP outG at h1
  split at h1
  · rename_i env2 mem2 hg
    simp only [Option.some.injEq, Prod.mk.injEq] at h1
    obtain ⟨rfl, rfl, rfl⟩ := h1
    cases e1 with
    | normal => exact (h3.prune ts).gc hg
    | exit j => exact (h3.prune ts).gc hg
    | ret => exact (h3.prune ts).gc hg
  · cases h1

/-- a loop told by a state -/
structure LoopDefP (S : Type) (n : Nat) where
  ts : List Nat
  ks : List Nat
  src0 : List Nat
  srcN : List Nat
  srcX : List Nat
  E : S → Env
  M : S → Mem
  Mo : S → Mem
  dec : List AV → Mem → Option S
  ok : ∀ vs mem s, dec vs mem = some s → ∃ M0 E0 M1, MemW mem M0 ∧ gcK n src0 (zipE ts vs) M0 = some (E0, M1) ∧ E0 = E s ∧ MemW M1 (M s)

def LoopDefP.fn {S : Type} (d : LoopDefP S n) (guard : S → Bool) (ex : Ex) (fin : S → S) : LoopFn := fun env mem _ K => match d.dec (live d.ts env) mem with
  | some s => bif guard s then K ex (d.E (fin s)) (d.Mo (fin s)) else none
  | none => none

theorem LoopDefP.loop {S : Type} (d : LoopDefP S n) {guard : S → Bool} {ex : Ex} {fin : S → S} {X : Cx} (hX : CxOK P X) {L : Loops} {nt : Nat} {keep : List Nat} {body : Code} (hL : LoopsOK P nt L body) (hne : ex ≠ .normal)
    (h : ∀ s, guard s = true → ∃ (N : Nat) (at_ : Nat → S), at_ 0 = s ∧ MemW (d.M (fin s)) (d.Mo (fin s)) ∧
      (∀ i, i < N → ∃ M1 M2 fuel, Tells Φ nt (d.E (at_ i)) (d.M (at_ i)) M1 ∧ codeK X L nt keep fuel body (d.E (at_ i)) M1 (outP d.ts n d.ks d.srcN d.srcX) = some (.normal, d.E (at_ (i + 1)), M2) ∧ MemW M2 (d.M (at_ (i + 1)))) ∧
      ∃ M2 fuel, codeK X L nt keep fuel body (d.E (at_ N)) (d.M (at_ N)) (outP d.ts n d.ks d.srcN d.srcX) = some (ex, d.E (fin s), M2) ∧ MemW M2 (d.M (fin s))) : LoopAtP P Φ nt body (d.fn guard ex fin) := by
  intro env mem ρ K r hg
  unfold LoopDefP.fn at hg
  split at hg
  · rename_i s hs
    obtain ⟨hgd, hg⟩ := bif_some hg
    obtain ⟨M0, E0, M1, q1, q2, q3, q4⟩ := d.ok _ _ _ hs
    obtain ⟨N, at_, e0, hM, h3, M2, fuel, h4, h5⟩ := h s hgd
    have key := roundsP (P := P) (Φ := Φ) (nt := nt) (E := fun i => d.E (at_ i)) (M := fun i => d.M (at_ i)) hne
      (fun i hi => by obtain ⟨M1, M2, f, t1, t2, t3⟩ := h3 i hi; exact t1.goes (goesN_of_outP hX hL t2) t3)
      (Tells.refl.goes (goesN_of_outP hX hL h4) h5) N 0 (by omega)
    refine ⟨ex, _, _, hg, N + 1, fun W σ a w Q hΦ hf hq => ?_⟩
    have hf1 : FrR W Wr0 nt σ (zipE d.ts (live d.ts env)) M0 a w := ⟨hf.st.weaken q1, by rw [← prune_live]; exact hf.env.prune d.ts⟩
    obtain ⟨σ1, x1, hf2⟩ := gc_sound q2 hf1
    refine key W σ1 a w Q (Φ.st _ _ _ x1 hΦ) ?_ fun σ' a' w' he hf' hd => hq σ' a' w' (x1.trans he) ⟨hf'.st.weaken hM, hf'.env⟩ hd
    show FrR W Wr0 nt σ1 (d.E (at_ 0)) (d.M (at_ 0)) a w
    rw [e0, ← q3]
    exact ⟨hf2.st.weaken q4, hf2.env⟩
  · cases hg

/-- the run of a law whose arguments are told beforehand -/
theorem law_runP {X : Cx} (hX : CxOK P X) {L : Loops} {keep : List Nat} {fuel : Nat} {f : FuncId} {fn : Func} {c : Code} {args : List AV} {mem : Mem} (hf : P.funcs[f]? = some fn) (hb : fn.body = some c) (hL : LoopsP P Φ fn.ntmps L c)
    (h : runKL X L keep fuel fn c args mem (fun v _ => some v) = some (.bool true)) {W : World} {σ : Ren} {real : Array Value} (hΦ : Φ.ok W σ) (hst : FSt W Wr0 σ mem W) (hr : RL σ args real.toList) :
    Calls P f real W fun e W' => e = .returned (.bool true) ∧ Below W.heap.size W W' := by
  obtain ⟨v', mem', h, hs⟩ := runP_sound hX hf hb hL h
  cases h
  refine (hs W σ W real hΦ hst hr).mono fun e w' ⟨σ', rv, he, _, hv, hst⟩ => ?_
  cases hv
  exact ⟨he, Below.mk hst.1.os hst.1.tape hst.1.output hst.1.size (fun k hk => hst.1.old k hk (fun h => h))⟩

end Pw
