/- A part of the proof, for all claims alike: PwEvZ, PwDeep, PwEvZb, PwEvZd, PwEvZe, PwEvZf, PwEvZg. -/
import Derived.Test.YtmhbhpmfbalbeaaPwMg
import Derived.Test.YtmhbhpmfbalbeaaPwMc
import Derived.Test.YtmhbhpmfbalbeaaPwMd
namespace Pw
open Go Go.RowKit

variable {P : Program} {T : List (Nat × TE)} {ρ : Type}

/-! ### laws over lists of records: what lies in the world at the start is known, and looked into round by round -/

abbrev Wr0 : Nat → Prop := fun _ => False

/-- what is known of the world at the start, and where the first blocks lie -/
structure Fact (n : Nat) where
  ok : World → Ren → Prop
  st : ∀ (W : World) (σ σ' : Ren), ExtN n σ σ' → ok W σ → ok W σ'

variable {n : Nat} (Φ : Fact n)

def GoesP (nt : Nat) (env : Env) (mem : Mem) (e : Ex) (env' : Env) (mem' : Mem) (wp : (Exit → Act → World → Prop) → Act → World → Prop) : Prop :=
  ∀ (W : World) (σ : Ren) (a : Act) (w : World) (Q : Exit → Act → World → Prop), Φ.ok W σ → FrR W Wr0 nt σ env mem a w →
    (∀ σ' a' w', ExtN n σ σ' → FrR W Wr0 nt σ' env' mem' a' w' → a'.defers = a.defers → Q e.toExit a' w') → wp Q a w

variable {Φ}

theorem GoesN.p {nt : Nat} {env env' : Env} {mem mem' : Mem} {e : Ex} {wp : (Exit → Act → World → Prop) → Act → World → Prop} (h : GoesN n nt env mem e env' mem' wp) : GoesP Φ nt env mem e env' mem' wp :=
  fun W σ a w Q _ hf hq => h W Wr0 σ a w Q hf hq
theorem Goes.p {nt : Nat} {env env' : Env} {mem mem' : Mem} {e : Ex} {wp : (Exit → Act → World → Prop) → Act → World → Prop} (h : Goes nt env mem e env' mem' wp) : GoesP Φ nt env mem e env' mem' wp := h.n.p

theorem GoesP.trans {nt : Nat} {env env1 env2 : Env} {mem mem1 mem2 : Mem} {e1 e2 : Ex} {wp1 wp2 : (Exit → Act → World → Prop) → Act → World → Prop} {wp : (Exit → Act → World → Prop) → Act → World → Prop}
    (h1 : GoesP Φ nt env mem e1 env1 mem1 wp1) (h2 : GoesP Φ nt env1 mem1 e2 env2 mem2 wp2) (f : (Exit → Act → World → Prop) → Exit → Act → World → Prop)
    (hf : ∀ Q a w, wp2 Q a w → f Q e1.toExit a w) (hw : ∀ Q a w, wp1 (f Q) a w → wp Q a w) : GoesP Φ nt env mem e2 env2 mem2 wp := by
  intro W σ a w Q hΦ hfr hq
  refine hw Q a w (h1 W σ a w (f Q) hΦ hfr fun σ' a' w' he hfr' hd => hf Q a' w' (h2 W σ' a' w' Q (Φ.st _ _ _ he hΦ) hfr' fun σ'' a'' w'' he' hfr'' hd' => ?_))
  exact hq σ'' a'' w'' (he.trans he') hfr'' (hd'.trans hd)

/-- a loop that is known where the facts hold -/
def LoopAtP (P : Program) (Φ : Fact n) (nt : Nat) (body : Code) (g : LoopFn) : Prop :=
  ∀ (env : Env) (mem : Mem) (ρ : Type) (K : Ex → Env → Mem → Option ρ) (r : ρ), g env mem K = some r →
    ∃ e env' mem', K e env' mem' = some r ∧ ∃ m, GoesP Φ nt env mem e env' mem' (fun Q a w => Code.rounds P body Q m a w)
theorem LoopAt.p {nt : Nat} {body : Code} {g : LoopFn} (h : LoopAt P nt body g) : LoopAtP P Φ nt body g := by
  intro env mem ρ K r hg
  obtain ⟨e, env', mem', h1, m, h2⟩ := h env mem ρ K r hg
  exact ⟨e, env', mem', h1, m, h2.p⟩

def LoopsP (P : Program) (Φ : Fact n) (nt : Nat) (L : Loops) (c : Code) : Prop := ∀ body ∈ loopsOf c, ∀ g, findL L (loopKey body) = some g → LoopAtP P Φ nt body g
theorem LoopsP.nil {nt : Nat} {c : Code} : LoopsP P Φ nt [] c := fun _ _ g h => by simp [findL] at h
theorem loopsP_cons {nt : Nat} {L : Loops} {c body : Code} {k : Nat} {g : LoopFn} (hL : LoopsP P Φ nt L c) (hb : (loopsOf c).filter (fun b => Nat.beq k (loopKey b)) = [body]) (hg : LoopAtP P Φ nt body g) :
    LoopsP P Φ nt ((k, g) :: L) c := by
  intro b hbm g' hf
  unfold findL at hf
  cases hq : Nat.beq k (loopKey b) with
  | true =>
    rw [hq] at hf
    simp only [cond_true, Option.some.injEq] at hf
    subst hf
    have : b ∈ (loopsOf c).filter (fun b => Nat.beq k (loopKey b)) := List.mem_filter.2 ⟨hbm, hq⟩
    rw [hb] at this
    simp only [List.mem_singleton] at this
    subst this; exact hg
  | false => rw [hq] at hf; exact hL b hbm g' hf

theorem codeP_sound {X : Cx} (hX : CxOK P X) {L : Loops} {nt : Nat} {keep : List Nat} : ∀ (k : Nat) (c : Code) (_hL : LoopsP P Φ nt L c) (env : Env) (mem : Mem) (K : Ex → Env → Mem → Option ρ) (r : ρ), codeK X L nt keep k c env mem K = some r →
    ∃ e env' mem', K e env' mem' = some r ∧ GoesP Φ nt env mem e env' mem' (fun Q a w => c.wp P Q a w) ∧
      (∀ body, c = .loop body → ∃ m, GoesP Φ nt env mem e env' mem' (fun Q a w => Code.rounds P body Q m a w))
  | 0, _, _, _, _, _, _, h => by simp [codeK] at h
  | k + 1, c, hL, env, mem, K, r, h => by
    have ih := fun c hL env mem K r h => codeP_sound hX (L := L) (nt := nt) (keep := keep) k c hL env mem K r h
    cases c with
    | skip => exact ⟨.normal, env, mem, h, fun W σ a w Q _ hf hq => wp_skip (hq σ a w (fun _ _ _ h => h) hf rfl), by simp⟩
    | label l => exact ⟨.normal, env, mem, h, fun W σ a w Q _ hf hq => wp_label (hq σ a w (fun _ _ _ h => h) hf rfl), by simp⟩
    | exit id => exact ⟨.exit id, env, mem, h, fun W σ a w Q _ hf hq => wp_exit (hq σ a w (fun _ _ _ h => h) hf rfl), by simp⟩
    | ret => exact ⟨.ret, env, mem, h, fun W σ a w Q _ hf hq => wp_ret (hq σ a w (fun _ _ _ h => h) hf rfl), by simp⟩
    | region id ops draw =>
      simp only [codeK] at h
      cases draw with
      | true =>
        simp only [cond_true] at h
        obtain ⟨env', mem', h, hs⟩ := drawK_sound hX.mix hX.tab hX.quiet h
        refine ⟨.normal, _, mem', h, fun W σ a w Q _ hf hq => hs W Wr0 σ a w Q id hf fun σ' a' w' he hf' hd => ?_, by simp⟩
        exact hq σ' a' w' (fun i p _ hp => he i p hp) ⟨hf'.st, hf'.env.prune _⟩ hd
      | false =>
        simp only [cond_false] at h
        obtain ⟨env', mem', h, hs⟩ := seqK_sound hX.tab hX.quiet hX.loud ops.toList 0 env mem _ r (fun j => by simp) h
        refine ⟨.normal, _, mem', h, fun W σ a w Q _ hf hq => ?_, by simp⟩
        refine wp_region ?_
        have := hs W Wr0 σ a w Q hf fun σ' a' w' he hf' hd => hq σ' a' w' (fun i p _ hp => he i p hp) ⟨hf'.st, hf'.env.prune _⟩ hd
        rw [List.range_eq_range']
        simpa using this
    | seq x y =>
      simp only [codeK] at h
      obtain ⟨e1, env1, mem1, h, hg, -⟩ := ih x (fun b hb => hL b (by simp [loopsOf, hb])) env mem _ r h
      cases e1 with
      | normal =>
        obtain ⟨e2, env2, mem2, h, hg2, -⟩ := ih y (fun b hb => hL b (by simp [loopsOf, hb])) env1 mem1 K r h
        exact ⟨e2, env2, mem2, h, hg.trans hg2 (fun Q => Exit.then (y.wp P Q) Q) (fun Q a w h => h) (fun Q a w h => wp_seq h), by simp⟩
      | exit id =>
        exact ⟨.exit id, env1, mem1, h, fun W σ a w Q hΦ hf hq => wp_seq (hg W σ a w _ hΦ hf fun σ' a' w' he hf' hd => hq σ' a' w' he hf' hd), by simp⟩
      | ret =>
        exact ⟨.ret, env1, mem1, h, fun W σ a w Q hΦ hf hq => wp_seq (hg W σ a w _ hΦ hf fun σ' a' w' he hf' hd => hq σ' a' w' he hf' hd), by simp⟩
    | cond c x y =>
      simp only [codeK] at h
      split at h
      · rename_i b hb
        have hev : ∀ (σ : Ren) (a : Act), EnvR σ nt env a → a.eval c = .bool b := fun σ a hr => by
          have := hr.eval c
          rw [hb] at this
          generalize a.eval c = x at this
          cases this; rfl
        cases b with
        | true =>
          obtain ⟨e1, env1, mem1, h, hg, -⟩ := ih x (fun b hb => hL b (by simp [loopsOf, hb])) env mem _ r h
          exact ⟨e1, env1, mem1, h, fun W σ a w Q hΦ hf hq => wp_cond_true (hev σ a hf.env) (hg W σ a w Q hΦ hf hq), by simp⟩
        | false =>
          obtain ⟨e1, env1, mem1, h, hg, -⟩ := ih y (fun b hb => hL b (by simp [loopsOf, hb])) env mem _ r h
          exact ⟨e1, env1, mem1, h, fun W σ a w Q hΦ hf hq => wp_cond_false (hev σ a hf.env) (hg W σ a w Q hΦ hf hq), by simp⟩
      · cases h
    | block id body =>
      simp only [codeK] at h
      obtain ⟨e1, env1, mem1, h, hg, -⟩ := ih body (fun b hb => hL b (by simp [loopsOf, hb])) env mem _ r h
      cases e1 with
      | normal => exact ⟨.normal, env1, mem1, h, fun W σ a w Q hΦ hf hq => wp_block (hg W σ a w _ hΦ hf fun σ' a' w' he hf' hd => hq σ' a' w' he hf' hd), by simp⟩
      | ret => exact ⟨.ret, env1, mem1, h, fun W σ a w Q hΦ hf hq => wp_block (hg W σ a w _ hΦ hf fun σ' a' w' he hf' hd => hq σ' a' w' he hf' hd), by simp⟩
      | exit j =>
        simp only at h
        rcases bif_both h with ⟨hb, hk⟩ | ⟨hb, h⟩
        · have hb := Nat.eq_of_beq_eq_true hb
          subst hb
          exact ⟨.normal, env1, mem1, hk, fun W σ a w Q hΦ hf hq => wp_block (hg W σ a w _ hΦ hf fun σ' a' w' he hf' hd => by
            simp only [Ex.toExit, Exit.inBlock, if_true]; exact hq σ' a' w' he hf' hd), by simp⟩
        · have hb : j ≠ id := by intro e; subst e; rw [Nat.beq_refl] at hb; cases hb
          exact ⟨.exit j, env1, mem1, h, fun W σ a w Q hΦ hf hq => wp_block (hg W σ a w _ hΦ hf fun σ' a' w' he hf' hd => by
            simp only [Ex.toExit, Exit.inBlock, hb, if_false]; exact hq σ' a' w' he hf' hd), by simp⟩
    | loop body =>
      simp only [codeK] at h
      have main : ∃ e env' mem' m, K e env' mem' = some r ∧ GoesP Φ nt env mem e env' mem' (fun Q a w => Code.rounds P body Q m a w) := by
        split at h
        · rename_i g hfg
          obtain ⟨e, env', mem', h1, m, h2⟩ := hL body (by simp [loopsOf]) g hfg env mem _ K r h
          exact ⟨e, env', mem', m, h1, h2⟩
        obtain ⟨e1, env1, mem1, h, hg, -⟩ := ih body (fun b hb => hL b (by simp [loopsOf, hb])) env mem _ r h
        cases e1 with
        | normal =>
          obtain ⟨e2, env2, mem2, h, -, hg2⟩ := ih (.loop body) hL env1 mem1 K r h
          obtain ⟨m, hm⟩ := hg2 body rfl
          exact ⟨e2, env2, mem2, m + 1, h, hg.trans hm (fun Q => Exit.then (Code.rounds P body Q m) Q) (fun Q a w h => h) (fun Q a w h => h)⟩
        | exit id => exact ⟨.exit id, env1, mem1, 1, h, fun W σ a w Q hΦ hf hq => hg W σ a w _ hΦ hf fun σ' a' w' he hf' hd => hq σ' a' w' he hf' hd⟩
        | ret => exact ⟨.ret, env1, mem1, 1, h, fun W σ a w Q hΦ hf hq => hg W σ a w _ hΦ hf fun σ' a' w' he hf' hd => hq σ' a' w' he hf' hd⟩
      obtain ⟨e, env', mem', m, h1, h2⟩ := main
      refine ⟨e, env', mem', h1, fun W σ a w Q hΦ hf hq => wp_loop_rounds m (h2 W σ a w Q hΦ hf hq), fun b hb => ?_⟩
      cases hb
      exact ⟨m, h2⟩
    | rangeFunc => cases h
    | scope => cases h
    | goto => cases h
    | refuse => cases h

theorem runP_sound {X : Cx} (hX : CxOK P X) {L : Loops} {keep : List Nat} {fuel : Nat} {f : FuncId} {fn : Func} {c : Code} {args : List AV} {mem : Mem} {K : AV → Mem → Option ρ} {r : ρ} (hf : P.funcs[f]? = some fn) (hb : fn.body = some c) (hL : LoopsP P Φ fn.ntmps L c)
    (h : runKL X L keep fuel fn c args mem K = some r) : ∃ v mem', K v mem' = some r ∧ ∀ (W : World) (σ : Ren) (w : World) (real : Array Value), Φ.ok W σ → FSt W Wr0 σ mem w → RL σ args real.toList →
    Calls P f real w fun e w' => ∃ σ' rv, e = .returned rv ∧ ExtN n σ σ' ∧ R σ' v rv ∧ FSt W Wr0 σ' mem' w' := by
  unfold runKL at h
  obtain ⟨hle, h⟩ := bif_some h
  have hle := Nat.le_of_ble_eq_true hle
  obtain ⟨e, env', mem1, h, hg, -⟩ := codeP_sound hX fuel c hL _ _ _ _ h
  have hend : ∃ vs, resA X env' mem1 fn.results.toList = some vs ∧ K (one vs) mem1 = some r ∧ (e = .normal ∨ e = .ret) := by
    cases e with
    | exit id => cases h
    | normal =>
      simp only at h
      split at h
      · rename_i vs hvs; exact ⟨vs, hvs, h, .inl rfl⟩
      · cases h
    | ret =>
      simp only at h
      split at h
      · rename_i vs hvs; exact ⟨vs, hvs, h, .inr rfl⟩
      · cases h
  obtain ⟨vs, hvs, hK, he12⟩ := hend
  refine ⟨one vs, mem1, hK, fun W σ w real hΦ hst hr => ?_⟩
  have hlen := hr.size
  have hfr : FrR W Wr0 fn.ntmps σ (argsEnv args 0) mem { tmps := real ++ Array.replicate (fn.ntmps - real.size) undef, defers := [] } w := by
    refine ⟨hst, ⟨by simp; omega, fun t => ?_⟩⟩
    rw [look_args]
    simp only [Nat.not_lt_zero, if_false, Nat.sub_zero]
    split
    · rename_i v hv
      obtain ⟨x, h1, h2⟩ := hr.get hv
      have h1' : real[t]? = some x := by simpa using h1
      have hlt : t < real.size := (Array.getElem?_eq_some_iff.1 h1').1
      have : (real ++ Array.replicate (fn.ntmps - real.size) undef).getD t undef = x := by
        rw [Array.getD_eq_getD_getElem?, Array.getElem?_append_left hlt, h1']; rfl
      rw [this]; exact h2
    · exact .unk _
  refine calls_of_wp hf hb (hg W σ _ w _ hΦ hfr fun σ' a' w' he hf' hd => ?_)
  have fin : a'.defers = [] ∧ ∃ rv, (results fn a'.tmps).run P w' = .ok rv w' ∧ ∃ σ'' rv', Ending.returned rv = .returned rv' ∧ ExtN n σ σ'' ∧ R σ'' (one vs) rv' ∧ FSt W Wr0 σ'' mem1 w' := by
    obtain ⟨rs, h1, h2⟩ := resA_sound hX hf'.env hf'.st.1.memRel _ _ hvs
    refine ⟨hd, if h : rs.toArray.size = 1 then rs.toArray[0] else .tuple rs.toArray, ?_, σ', _, rfl, he, ?_, hf'.st⟩
    · rw [results_eq, Sem.run_bind, Array.mapM_eq_mapM_toList, Sem.run_map, h1]
      rfl
    · cases h2 with
      | nil => exact .tup _ _ .nil
      | cons a x l m hx hl =>
        cases hl with
        | nil => simpa [one] using hx
        | cons b y l m hy hl => simpa [one] using R.tup (σ := σ') _ (x :: y :: m).toArray (.cons _ _ _ _ hx (.cons _ _ _ _ hy hl))
  rcases he12 with rfl | rfl
  · exact fin
  · exact fin

/-! ### loops, round by round: at the start of a round something is told anew -/

/-- in other words, out of what is known of the world -/
def Tells (Φ : Fact n) (nt : Nat) (env : Env) (mem mem' : Mem) : Prop :=
  ∀ (W : World) (σ : Ren) (a : Act) (w : World), Φ.ok W σ → FrR W Wr0 nt σ env mem a w → ∃ σ', ExtN n σ σ' ∧ FrR W Wr0 nt σ' env mem' a w

theorem Tells.refl {nt : Nat} {env : Env} {mem : Mem} : Tells Φ nt env mem mem := fun _ σ _ _ _ hf => ⟨σ, fun _ _ _ h => h, hf⟩

theorem Tells.goes {nt : Nat} {env env' : Env} {mem mem1 mem2 mem' : Mem} {e : Ex} {wp : (Exit → Act → World → Prop) → Act → World → Prop} (ht : Tells Φ nt env mem mem1) (h : GoesN n nt env mem1 e env' mem2 wp) (hw : MemW mem2 mem') :
    GoesP Φ nt env mem e env' mem' wp := by
  intro W σ a w Q hΦ hf hq
  obtain ⟨σ1, h1, h2⟩ := ht W σ a w hΦ hf
  exact h W Wr0 σ1 a w Q h2 fun σ' a' w' he hf' hd => hq σ' a' w' (h1.trans he) ⟨hf'.st.weaken hw, hf'.env⟩ hd

theorem roundsP {nt N : Nat} {body : Code} {E : Nat → Env} {M : Nat → Mem} {e : Ex} {E' : Env} {M' : Mem} (hne : e ≠ .normal)
    (step : ∀ i, i < N → GoesP Φ nt (E i) (M i) .normal (E (i + 1)) (M (i + 1)) (fun Q a w => body.wp P Q a w)) (fin : GoesP Φ nt (E N) (M N) e E' M' (fun Q a w => body.wp P Q a w)) :
    ∀ (d i : Nat), i + d = N → GoesP Φ nt (E i) (M i) e E' M' (fun Q a w => Code.rounds P body Q (d + 1) a w)
  | 0, i, hi => by
    have : i = N := by omega
    subst this
    intro W σ a w Q hΦ hf hq
    exact fin W σ a w _ hΦ hf fun σ' a' w' he hf' hd => by
      cases e with
      | normal => exact absurd rfl hne
      | exit j => exact hq σ' a' w' he hf' hd
      | ret => exact hq σ' a' w' he hf' hd
  | d + 1, i, hi => by
    intro W σ a w Q hΦ hf hq
    exact step i (by omega) W σ a w _ hΦ hf fun σ' a' w' he hf' hd =>
      roundsP hne step fin d (i + 1) (by omega) W σ' a' w' Q (Φ.st _ _ _ he hΦ) hf' fun σ2 a2 w2 he2 hf2 hd2 => hq σ2 a2 w2 (he.trans he2) hf2 (hd2.trans hd)

/-- blocks that are not looked into any more -/
def killL : List Nat → Mem → Mem
  | [], m => m
  | k :: r, m => killL r (setNth m k dead)
theorem FSt.killL {W : World} {Wr : Nat → Prop} {σ : Ren} {w : World} : ∀ (ks : List Nat) {mem : Mem}, FSt W Wr σ mem w → FSt W Wr σ (killL ks mem) w
  | [], _, h => h
  | k :: r, mem, h => by
    unfold Pw.killL
    rw [setNth_eq]
    exact FSt.killL r (h.kill k)

/-- the end of a round, where some blocks are not looked into any more -/
def outP (ts : List Nat) (n : Nat) (ks srcN srcX : List Nat) : Ex → Env → Mem → Option (Ex × Env × Mem) := fun e env mem => outG ts n srcN srcX e env (killL ks mem)

theorem goesN_of_outP {X : Cx} (hX : CxOK P X) {L : Loops} {n nt : Nat} {keep ts ks srcN srcX : List Nat} {fuel : Nat} {c : Code} (hL : LoopsOK P nt L c) {env env' : Env} {mem mem' : Mem} {e : Ex}
    (h : codeK X L nt keep fuel c env mem (outP ts n ks srcN srcX) = some (e, env', mem')) : GoesN n nt env mem e env' mem' (fun Q a w => c.wp P Q a w) := by
  obtain ⟨e1, env1, mem1, h1, h2, -⟩ := codeK_sound hX fuel c hL _ _ _ _ h
  have h3 : Goes nt env mem e1 env1 (killL ks mem1) (fun Q a w => c.wp P Q a w) := fun W Wr σ a w Q hf hq => h2 W Wr σ a w Q hf fun σ' a' w' he hf' hd => hq σ' a' w' he ⟨hf'.st.killL ks, hf'.env⟩ hd
  unfold outP outG at h1
  split at h1
  · rename_i env2 mem2 hg
    simp only [Option.some.injEq, Prod.mk.injEq] at h1
    obtain ⟨rfl, rfl, rfl⟩ := h1
    cases e1 with
    | normal => exact (h3.prune ts).gc hg
    | exit j => exact (h3.prune ts).gc hg
    | ret => exact (h3.prune ts).gc hg
  · cases h1

/-- a loop told by a state -/
structure LoopDefP (S : Type) (n : Nat) where
  ts : List Nat
  ks : List Nat
  src0 : List Nat
  srcN : List Nat
  srcX : List Nat
  E : S → Env
  M : S → Mem
  Mo : S → Mem
  dec : List AV → Mem → Option S
  ok : ∀ vs mem s, dec vs mem = some s → ∃ M0 E0 M1, MemW mem M0 ∧ gcK n src0 (zipE ts vs) M0 = some (E0, M1) ∧ E0 = E s ∧ MemW M1 (M s)

def LoopDefP.fn {S : Type} (d : LoopDefP S n) (guard : S → Bool) (ex : Ex) (fin : S → S) : LoopFn := fun env mem _ K => match d.dec (live d.ts env) mem with
  | some s => bif guard s then K ex (d.E (fin s)) (d.Mo (fin s)) else none
  | none => none

theorem LoopDefP.loop {S : Type} (d : LoopDefP S n) {guard : S → Bool} {ex : Ex} {fin : S → S} {X : Cx} (hX : CxOK P X) {L : Loops} {nt : Nat} {keep : List Nat} {body : Code} (hL : LoopsOK P nt L body) (hne : ex ≠ .normal)
    (h : ∀ s, guard s = true → ∃ (N : Nat) (at_ : Nat → S), at_ 0 = s ∧ MemW (d.M (fin s)) (d.Mo (fin s)) ∧
      (∀ i, i < N → ∃ M1 M2 fuel, Tells Φ nt (d.E (at_ i)) (d.M (at_ i)) M1 ∧ codeK X L nt keep fuel body (d.E (at_ i)) M1 (outP d.ts n d.ks d.srcN d.srcX) = some (.normal, d.E (at_ (i + 1)), M2) ∧ MemW M2 (d.M (at_ (i + 1)))) ∧
      ∃ M2 fuel, codeK X L nt keep fuel body (d.E (at_ N)) (d.M (at_ N)) (outP d.ts n d.ks d.srcN d.srcX) = some (ex, d.E (fin s), M2) ∧ MemW M2 (d.M (fin s))) : LoopAtP P Φ nt body (d.fn guard ex fin) := by
  intro env mem ρ K r hg
  unfold LoopDefP.fn at hg
  split at hg
  · rename_i s hs
    obtain ⟨hgd, hg⟩ := bif_some hg
    obtain ⟨M0, E0, M1, q1, q2, q3, q4⟩ := d.ok _ _ _ hs
    obtain ⟨N, at_, e0, hM, h3, M2, fuel, h4, h5⟩ := h s hgd
    have key := roundsP (P := P) (Φ := Φ) (nt := nt) (E := fun i => d.E (at_ i)) (M := fun i => d.M (at_ i)) hne
      (fun i hi => by obtain ⟨M1, M2, f, t1, t2, t3⟩ := h3 i hi; exact t1.goes (goesN_of_outP hX hL t2) t3)
      (Tells.refl.goes (goesN_of_outP hX hL h4) h5) N 0 (by omega)
    refine ⟨ex, _, _, hg, N + 1, fun W σ a w Q hΦ hf hq => ?_⟩
    have hf1 : FrR W Wr0 nt σ (zipE d.ts (live d.ts env)) M0 a w := ⟨hf.st.weaken q1, by rw [← prune_live]; exact hf.env.prune d.ts⟩
    obtain ⟨σ1, x1, hf2⟩ := gc_sound q2 hf1
    refine key W σ1 a w Q (Φ.st _ _ _ x1 hΦ) ?_ fun σ' a' w' he hf' hd => hq σ' a' w' (x1.trans he) ⟨hf'.st.weaken hM, hf'.env⟩ hd
    show FrR W Wr0 nt σ1 (d.E (at_ 0)) (d.M (at_ 0)) a w
    rw [e0, ← q3]
    exact ⟨hf2.st.weaken q4, hf2.env⟩
  · cases hg

/-- the run of a law whose arguments are told beforehand -/
theorem law_runP {X : Cx} (hX : CxOK P X) {L : Loops} {keep : List Nat} {fuel : Nat} {f : FuncId} {fn : Func} {c : Code} {args : List AV} {mem : Mem} (hf : P.funcs[f]? = some fn) (hb : fn.body = some c) (hL : LoopsP P Φ fn.ntmps L c)
    (h : runKL X L keep fuel fn c args mem (fun v _ => some v) = some (.bool true)) {W : World} {σ : Ren} {real : Array Value} (hΦ : Φ.ok W σ) (hst : FSt W Wr0 σ mem W) (hr : RL σ args real.toList) :
    Calls P f real W fun e W' => e = .returned (.bool true) ∧ Below W.heap.size W W' := by
  obtain ⟨v', mem', h, hs⟩ := runP_sound hX hf hb hL h
  cases h
  refine (hs W σ W real hΦ hst hr).mono fun e w' ⟨σ', rv, he, _, hv, hst⟩ => ?_
  cases hv
  exact ⟨he, Below.mk hst.1.os hst.1.tape hst.1.output hst.1.size (fun k hk => hst.1.old k hk (fun h => h))⟩

end Pw

namespace Pw
open Go Go.ChangeShapes Go.RowKit

variable {P : Program}

/-! ### old blocks looked into -/

theorem FSt.look {W : World} {σ : Ren} {mem : Mem} {w : World} (h : FSt W Wr0 σ mem w) {B : Blk} (hw : B.wr = false) (p : Option (Nat × Nat × Nat))
    (hp : ∀ b δ s, p = some (b, δ, s) → b < W.heap.size ∧ BlkRel σ B b δ s W) : ∃ σ', Ext σ σ' ∧ σ' mem.length = p ∧ FSt W Wr0 σ' (mem ++ [B]) w := by
  have hn : σ mem.length = none := by
    cases hs : σ mem.length with
    | none => rfl
    | some p => have := h.2 _ _ hs; omega
  let σ' : Ren := fun i => if i = mem.length then p else σ i
  have eself : σ' mem.length = p := if_pos rfl
  have eother : ∀ {i}, i ≠ mem.length → σ' i = σ i := fun hi => if_neg hi
  have hext : Ext σ σ' := fun i q hi => by
    by_cases e : i = mem.length
    · subst e; rw [hn] at hi; cases hi
    · rw [eother e]; exact hi
  have hget : ∀ {i : Nat} {q : Nat × Nat × Nat} {Bi : Blk}, σ' i = some q → (mem ++ [B])[i]? = some Bi → (i = mem.length ∧ Bi = B ∧ p = some q) ∨ (i ≠ mem.length ∧ σ i = some q ∧ mem[i]? = some Bi) := by
    intro i q Bi hi hB
    by_cases e : i = mem.length
    · subst e
      rw [eself] at hi
      rw [List.getElem?_append_right (Nat.le_refl _), Nat.sub_self] at hB
      simp at hB
      exact .inl ⟨rfl, hB.symm, hi⟩
    · rw [eother e] at hi
      have := h.2 _ _ hi
      rw [List.getElem?_append_left this] at hB
      exact .inr ⟨e, hi, hB⟩
  refine ⟨σ', hext, eself, ⟨h.1.os, h.1.tape, h.1.output, h.1.size, h.1.old, ?_, ?_, ?_, ?_⟩, ?_⟩
  · intro i b δ s hi
    by_cases e : i = mem.length
    · subst e
      rw [eself] at hi
      exact Nat.lt_of_lt_of_le (hp b δ s hi).1 h.1.size
    · rw [eother e] at hi; exact h.1.dom _ _ _ _ hi
  · intro i b δ s Bi hi hB
    rcases hget hi hB with ⟨rfl, rfl, hq⟩ | ⟨_, h1, h2⟩
    · obtain ⟨q1, q2⟩ := hp b δ s hq
      exact (q2.same (h.1.old b q1 (fun h => h))).ext hext
    · exact (h.1.blk _ _ _ _ _ h1 h2).ext hext
  · intro i b δ s Bi hi hB hwi
    rcases hget hi hB with ⟨rfl, rfl, hq⟩ | ⟨_, h1, h2⟩
    · rw [hw] at hwi; cases hwi
    · exact h.1.wrs _ _ _ _ _ h1 h2 hwi
  · intro i j bi δi si bj δj sj Bi Bj hi hj hne hBi hBj hwi hz
    rcases hget hi hBi with ⟨rfl, rfl, hq⟩ | ⟨_, h1, h2⟩
    · rw [hw] at hwi; cases hwi
    · rcases hget hj hBj with ⟨rfl, rfl, hq⟩ | ⟨_, h3, h4⟩
      · have := (hp _ _ _ hq).1
        rcases h.1.wrs _ _ _ _ _ h1 h2 hwi with h5 | h5
        · omega
        · exact h5.elim
      · exact h.1.inj _ _ _ _ _ _ _ _ _ _ h1 h3 hne h2 h4 hwi hz
  · intro i q hi
    rw [List.length_append, List.length_singleton]
    by_cases e : i = mem.length
    · omega
    · rw [eother e] at hi; have := h.2 _ _ hi; omega

theorem FSt.tell {W : World} {σ : Ren} {mem : Mem} {w : World} (h : FSt W Wr0 σ mem w) {k b δ s : Nat} (hσ : σ k = some (b, δ, s)) (hb : b < W.heap.size) {B : Blk} (hw : B.wr = false) (hr : BlkRel σ B b δ s W) : FSt W Wr0 σ (mem.set k B) w := by
  have hget : ∀ {i : Nat} {q : Nat × Nat × Nat} {Bi : Blk}, σ i = some q → (mem.set k B)[i]? = some Bi → (i = k ∧ Bi = B ∧ q = (b, δ, s)) ∨ (i ≠ k ∧ mem[i]? = some Bi) := by
    intro i q Bi hi hB
    by_cases e : k = i
    · subst e
      have hl : k < mem.length := h.2 _ _ hi
      rw [List.getElem?_set_self hl] at hB
      rw [hσ] at hi
      cases hB; cases hi
      exact .inl ⟨rfl, rfl, rfl⟩
    · rw [List.getElem?_set_ne e] at hB
      exact .inr ⟨Ne.symm e, hB⟩
  refine ⟨⟨h.1.os, h.1.tape, h.1.output, h.1.size, h.1.old, h.1.dom, ?_, ?_, ?_⟩, fun i q hi => by rw [List.length_set]; exact h.2 i q hi⟩
  · intro i b' δ' s' Bi hi hB
    rcases hget hi hB with ⟨rfl, rfl, hq⟩ | ⟨_, h2⟩
    · cases hq
      exact hr.same (h.1.old b hb (fun h => h))
    · exact h.1.blk _ _ _ _ _ hi h2
  · intro i b' δ' s' Bi hi hB hwi
    rcases hget hi hB with ⟨rfl, rfl, hq⟩ | ⟨_, h2⟩
    · rw [hw] at hwi; cases hwi
    · exact h.1.wrs _ _ _ _ _ hi h2 hwi
  · intro i j bi δi si bj δj sj Bi Bj hi hj hne hBi hBj hwi hz
    rcases hget hi hBi with ⟨rfl, rfl, hq⟩ | ⟨_, h2⟩
    · rw [hw] at hwi; cases hwi
    · rcases hget hj hBj with ⟨rfl, rfl, hq⟩ | ⟨_, h4⟩
      · cases hq
        rcases h.1.wrs _ _ _ _ _ hi h2 hwi with h5 | h5
        · omega
        · exact h5.elim
      · exact h.1.inj _ _ _ _ _ _ _ _ _ _ hi hj hne h2 h4 hwi hz

/-- what stands in a cell of the start world -/
def DRel (W : World) : LA → Value → Prop
  | .v a, x => ∀ σ, R σ a x
  | .l l, x => (∀ b ∈ l, b < 256) ∧ l.length ≤ 140737488351232 ∧ ((∃ a, x = .slice a 0 0 ∧ l = []) ∨
      ∃ b δ s cap, x = .slice (some ⟨b, δ, none⟩) l.length cap ∧ l.length ≤ cap ∧ cap < 9223372036854775808 ∧ b < W.heap.size ∧ BlkRel (fun _ => none) (blkOf l) b δ s W)
def DRels (W : World) : List LA → List Value → Prop
  | [], [] => True
  | a :: l, x :: m => DRel W a x ∧ DRels W l m
  | _, _ => False

theorem DRels.length {W : World} : ∀ {las : List LA} {vs : List Value}, DRels W las vs → las.length = vs.length
  | [], [], _ => rfl
  | a :: l, x :: m, h => by simp [DRels.length h.2]
  | [], _ :: _, h => h.elim
  | _ :: _, [], h => h.elim
theorem DRels.append {W : World} : ∀ {las las' : List LA} {vs vs' : List Value}, DRels W las vs → DRels W las' vs' → DRels W (las ++ las') (vs ++ vs')
  | [], _, [], _, _, h => h
  | _ :: _, _, _ :: _, _, h, h' => ⟨h.1, DRels.append h.2 h'⟩
  | [], _, _ :: _, _, h, _ => h.elim
  | _ :: _, _, [], _, h, _ => h.elim

theorem FSt.rec {W : World} {w : World} : ∀ (las : List LA) (vs : List Value) (σ : Ren) (mem : Mem), DRels W las vs → FSt W Wr0 σ mem w →
    ∃ σ', Ext σ σ' ∧ FSt W Wr0 σ' (mem ++ memOf (laLists las)) w ∧ RL σ' (laArgs las mem.length) vs
  | [], [], σ, mem, _, h => ⟨σ, .refl σ, by simpa [laLists, memOf] using h, .nil⟩
  | [], _ :: _, _, _, h, _ => h.elim
  | _ :: _, [], _, _, h, _ => h.elim
  | .v a :: l, x :: m, σ, mem, hd, h => by
    obtain ⟨σ', h1, h2, h3⟩ := FSt.rec l m σ mem hd.2 h
    exact ⟨σ', h1, h2, .cons _ _ _ _ (hd.1 σ') h3⟩
  | .l b :: l, x :: m, σ, mem, hd, h => by
    obtain ⟨_, _, hx⟩ := hd.1
    rcases hx with ⟨a, rfl, rfl⟩ | ⟨bb, δ, s, cap, rfl, h1, h2, h3, h4⟩
    · obtain ⟨σ1, e1, e2, n1⟩ := h.look (B := blkOf []) rfl none (fun _ _ _ h => by cases h)
      obtain ⟨σ2, e3, n2, r2⟩ := FSt.rec l m σ1 _ hd.2 n1
      rw [List.length_append, List.length_singleton] at r2
      exact ⟨σ2, e1.trans e3, by simpa [laLists, memOf] using n2, .cons _ _ _ _ (.slic0 _ _ _ _) r2⟩
    · obtain ⟨σ1, e1, e2, n1⟩ := h.look (B := blkOf b) rfl (some (bb, δ, s)) (fun b' δ' s' h => by cases h; exact ⟨h3, h4.bytes⟩)
      obtain ⟨σ2, e3, n2, r2⟩ := FSt.rec l m σ1 _ hd.2 n1
      rw [List.length_append, List.length_singleton] at r2
      refine ⟨σ2, e1.trans e3, by simpa [laLists, memOf] using n2, .cons _ _ _ _ ?_ r2⟩
      have := R.slice (σ := σ2) mem.length 0 b.length false cap bb δ s (e3 _ _ e2) h1 h2 (by simp)
      simpa using this

/-! ### a list of records in the start world -/

structure RecsAt (W : World) (b δ s sz : Nat) (recs : List (List LA)) : Prop where
  lt : b < W.heap.size
  ex : ∃ C e lo hi, W.heap[b]? = some (.cells C e (lo, hi)) ∧ C.size = δ + s ∧
    ∀ i rec, recs[i]? = some rec → rec.length = sz ∧ ∃ vs, DRels W rec vs ∧ ∀ (j : Nat) (x : Value), vs[j]? = some x → C[δ + (i * sz + j)]? = some x

/-- what is known of an argument that is a list of records -/
def factR (n k sz : Nat) (hk : k < n) (recs : List (List LA)) : Fact n where
  ok W σ := recs = [] ∨ ∃ b δ s, σ k = some (b, δ, s) ∧ RecsAt W b δ s sz recs
  st := fun W σ σ' he h => by
    rcases h with h | ⟨b, δ, s, h1, h2⟩
    · exact .inl h
    · exact .inr ⟨b, δ, s, he _ _ hk h1, h2⟩

def Fact.and {n : Nat} (Φ Ψ : Fact n) : Fact n where
  ok W σ := Φ.ok W σ ∧ Ψ.ok W σ
  st := fun W σ σ' he h => ⟨Φ.st W σ σ' he h.1, Ψ.st W σ σ' he h.2⟩

theorem Tells.of {n : Nat} {Φ Ψ : Fact n} (h : ∀ W σ, Ψ.ok W σ → Φ.ok W σ) {nt : Nat} {env : Env} {mem mem' : Mem} (ht : Tells Φ nt env mem mem') : Tells Ψ nt env mem mem' :=
  fun W σ a w hΨ hf => ht W σ a w (h W σ hΨ) hf
theorem Tells.trans {n : Nat} {Φ : Fact n} {nt : Nat} {env : Env} {mem mem1 mem' : Mem} (h1 : Tells Φ nt env mem mem1) (h2 : Tells Φ nt env mem1 mem') : Tells Φ nt env mem mem' := by
  intro W σ a w hΦ hf
  obtain ⟨σ1, e1, f1⟩ := h1 W σ a w hΦ hf
  obtain ⟨σ2, e2, f2⟩ := h2 W σ1 a w (Φ.st _ _ _ e1 hΦ) f1
  exact ⟨σ2, e1.trans e2, f2⟩

theorem tells_rec {n k sz : Nat} {hk : k < n} {recs : List (List LA)} {i : Nat} {rec : List LA} (hi : recs[i]? = some rec) {nt : Nat} {env : Env} {mem : Mem} (hm : k < mem.length) :
    Tells (factR n k sz hk recs) nt env mem (mem.set k ⟨.win (i * sz) (laArgs rec mem.length), false⟩ ++ memOf (laLists rec)) := by
  intro W σ a w hΦ hf
  rcases hΦ with h | ⟨b, δ, s, h1, h2⟩
  · subst h; simp at hi
  · obtain ⟨C, e, lo, hi', g1, g2, g3⟩ := h2.ex
    obtain ⟨hl, vs, hd, hc⟩ := g3 i rec hi
    obtain ⟨σ', e1, f1, r1⟩ := FSt.rec rec vs σ mem hd hf.st
    refine ⟨σ', fun j p _ hp => e1 j p hp, ?_, ?_⟩
    · rw [← List.set_append_left _ _ hm]
      refine f1.tell (e1 _ _ h1) h2.lt rfl ?_
      have hlen : (laArgs rec mem.length).length = vs.length := r1.length
      have hcov : i * sz + vs.length ≤ s := by
        rcases Nat.eq_zero_or_pos vs.length with h0 | h0
        · rw [h0]
          rw [← hd.length, hl] at h0
          rw [h0]; simp
        · have := hc (vs.length - 1) vs[vs.length - 1] (List.getElem?_eq_getElem (by omega))
          have := (Array.getElem?_eq_some_iff.1 this).1
          omega
      refine ⟨C, e, lo, hi', g1, g2, ?_, ?_, fun h => by cases h⟩
      · show i * sz + (laArgs rec mem.length).length ≤ s
        rw [hlen]; exact hcov
      · intro o v hv
        have hv : (if o < i * sz then some AV.unk else (laArgs rec mem.length)[o - i * sz]?) = some v := hv
        split at hv
        · cases hv
          exact ⟨C[δ + o]'(by omega), Array.getElem?_eq_getElem (by omega), .unk _⟩
        · obtain ⟨x, q1, q2⟩ := r1.get hv
          have := hc _ _ q1
          rw [show δ + (i * sz + (o - i * sz)) = δ + o by omega] at this
          exact ⟨x, this, q2⟩
    · exact ⟨hf.env.size, fun t => (hf.env.slot t).ext e1⟩

theorem FSt.start (W : World) : FSt W Wr0 (fun _ => none) [] W := (NSt.empty W).fst

/-- a list of records among the arguments, put under a number -/
theorem FSt.recs {W : World} {σ : Ren} {mem : Mem} (h : FSt W Wr0 σ mem W) {sz : Nat} {recs : List (List LA)} {v : Value}
    (hv : (∃ a, v = .slice a 0 0 ∧ recs = []) ∨ ∃ b δ s cap, v = .slice (some ⟨b, δ, none⟩) recs.length cap ∧ recs.length ≤ cap ∧ cap < 9223372036854775808 ∧ RecsAt W b δ s sz recs) :
    ∃ σ', Ext σ σ' ∧ FSt W Wr0 σ' (mem ++ [dead]) W ∧ R σ' (.slice mem.length 0 recs.length false) v ∧ (recs = [] ∨ ∃ b δ s, σ' mem.length = some (b, δ, s) ∧ RecsAt W b δ s sz recs) := by
  rcases hv with ⟨a, rfl, rfl⟩ | ⟨b, δ, s, cap, rfl, h1, h2, h3⟩
  · obtain ⟨σ', e1, _, f1⟩ := h.look (B := dead) rfl none (fun _ _ _ h => by cases h)
    exact ⟨σ', e1, f1, .slic0 _ _ _ _, .inl rfl⟩
  · obtain ⟨C, e, lo, hi, g1, g2, g3⟩ := h3.ex
    obtain ⟨σ', e1, e2, f1⟩ := h.look (B := dead) rfl (some (b, δ, s)) (fun b' δ' s' h => by
      cases h
      exact ⟨h3.lt, C, e, lo, hi, g1, g2, by simp [dead, Cont.size], fun o v hv => by simp [dead, Cont.at?] at hv, fun hw => by simp [dead] at hw⟩)
    refine ⟨σ', e1, f1, ?_, .inr ⟨b, δ, s, e2, h3⟩⟩
    have := R.slice (σ := σ') mem.length 0 recs.length false cap b δ s e2 h1 h2 (by simp)
    simpa using this

end Pw

namespace Pw
open Go Go.RowKit

variable {P : Program} {ρ : Type}

/-! ### a piece of code taken apart -/

def thenC (f : Env → Mem → Option ρ) (K : Ex → Env → Mem → Option ρ) : Ex → Env → Mem → Option ρ
  | .normal, env, mem => f env mem
  | .exit j, env, mem => K (.exit j) env mem
  | .ret, env, mem => K .ret env mem
def blkC (id : Nat) (K : Ex → Env → Mem → Option ρ) : Ex → Env → Mem → Option ρ
  | .normal, env, mem => K .normal env mem
  | .exit j, env, mem => bif Nat.beq j id then K .normal env mem else K (.exit j) env mem
  | .ret, env, mem => K .ret env mem
theorem thenC_normal (f : Env → Mem → Option ρ) (K : Ex → Env → Mem → Option ρ) (env : Env) (mem : Mem) : thenC f K .normal env mem = f env mem := rfl
theorem thenC_ret (f : Env → Mem → Option ρ) (K : Ex → Env → Mem → Option ρ) (env : Env) (mem : Mem) : thenC f K .ret env mem = K .ret env mem := rfl
theorem thenC_exit (f : Env → Mem → Option ρ) (K : Ex → Env → Mem → Option ρ) (j : Nat) (env : Env) (mem : Mem) : thenC f K (.exit j) env mem = K (.exit j) env mem := rfl
theorem blkC_normal (id : Nat) (K : Ex → Env → Mem → Option ρ) (env : Env) (mem : Mem) : blkC id K .normal env mem = K .normal env mem := rfl
theorem blkC_ret (id : Nat) (K : Ex → Env → Mem → Option ρ) (env : Env) (mem : Mem) : blkC id K .ret env mem = K .ret env mem := rfl
theorem codeK_seq (X : Cx) (L : Loops) (nt : Nat) (keep : List Nat) (n : Nat) (x y : Code) (env : Env) (mem : Mem) (K : Ex → Env → Mem → Option ρ) :
    codeK X L nt keep (n + 1) (.seq x y) env mem K = codeK X L nt keep n x env mem (thenC (fun env mem => codeK X L nt keep n y env mem K) K) := by
  rw [codeK]
  congr 1
  funext e env mem
  cases e <;> rfl
theorem codeK_block (X : Cx) (L : Loops) (nt : Nat) (keep : List Nat) (n : Nat) (id : Nat) (x : Code) (env : Env) (mem : Mem) (K : Ex → Env → Mem → Option ρ) :
    codeK X L nt keep (n + 1) (.block id x) env mem K = codeK X L nt keep n x env mem (blkC id K) := by
  rw [codeK]
  congr 1
  funext e env mem
  cases e <;> rfl

end Pw

namespace Pw
open Go Go.RowKit

variable {P : Program} {ρ : Type}

/-! ### a whole function taken apart; a call told with blocks that nobody looks for -/

def retC (X : Cx) (res : List ResultVar) (K : AV → Mem → Option ρ) : Ex → Env → Mem → Option ρ
  | .exit _, _, _ => none
  | .normal, env, mem => (match resA X env mem res with | some vs => K (one vs) mem | none => none)
  | .ret, env, mem => (match resA X env mem res with | some vs => K (one vs) mem | none => none)
theorem runKL_eq (X : Cx) (L : Loops) (keep : List Nat) (fuel : Nat) (fn : Func) (c : Code) (args : List AV) (mem : Mem) (K : AV → Mem → Option ρ) (h : Nat.ble args.length fn.ntmps = true) :
    runKL X L keep fuel fn c args mem K = codeK X L fn.ntmps keep fuel c (argsEnv args 0) mem (retC X fn.results.toList K) := by
  unfold runKL
  rw [h, cond_true]
  congr 1
  funext e env mem
  cases e <;> rfl
theorem codeK_ret (X : Cx) (L : Loops) (nt : Nat) (keep : List Nat) (n : Nat) (env : Env) (mem : Mem) (K : Ex → Env → Mem → Option ρ) :
    codeK X L nt keep (n + 1) .ret env mem K = K .ret env mem := by rw [codeK]

theorem told_atP {X : Cx} (hX : CxOK P X) {L : Loops} {keep : List Nat} {f : FuncId} {fn : Func} {c : Code} (hf : P.funcs[f]? = some fn) (hb : fn.body = some c) (hn : (fn.name == "runtime.NumGoroutine") = false) (hL : LoopsOK P fn.ntmps L c)
    {g : List AV → Mem → Option (Bool × AV × Mem)} (h : ∀ args mem cd v m, g args mem = some (cd, v, m) → cd = true → wfM args mem → ∃ fuel ar m0 m1 k, ArgW args ar ∧ MemEq mem m0 ∧ runKL X L keep fuel fn c ar m0 (fun v m => some (v, m)) = some (v, m1) ∧ MemW (m1 ++ List.replicate k dead) m) :
    LoudAt P f (told g) := by
  intro args mem ρ K r hr
  unfold told at hr
  split at hr
  · rename_i cd v m hg
    obtain ⟨hcd, hk⟩ := bif_some hr
    refine ⟨v, m, hk, fun W Wr σ w real hst hra => ?_⟩
    obtain ⟨fuel, ar, m0, m1, k, ea, e0, hrun, e1⟩ := h args mem cd v m hg hcd ⟨W, Wr, σ, w, _, hst, hra⟩
    obtain ⟨v1, mm, hk1, hs⟩ := runKL_sound hX hf hb hL hrun
    simp only [Option.some.injEq, Prod.mk.injEq] at hk1
    obtain ⟨rfl, rfl⟩ := hk1
    exact callTo_of_calls hf hb hn ((hs W Wr σ w real (hst.eqv e0) (ea σ _ hra)).mono fun e w' ⟨σ', rv, he, hx, hv, hst'⟩ => ⟨rv, he, σ', hx, hv, (hst'.more _).weaken e1⟩)
  · cases hr

end Pw

namespace Pw
open Go Go.RowKit

variable {ρ : Type}

theorem codeK_cond (X : Cx) (L : Loops) (nt : Nat) (keep : List Nat) (n : Nat) (c : Operand) (x y : Code) (env : Env) (mem : Mem) (K : Ex → Env → Mem → Option ρ) {b : Bool} (h : evO env c = .bool b) :
    codeK X L nt keep (n + 1) (.cond c x y) env mem K = bif b then codeK X L nt keep n x env mem K else codeK X L nt keep n y env mem K := by
  rw [codeK]
  simp only [h]
theorem codeK_skip (X : Cx) (L : Loops) (nt : Nat) (keep : List Nat) (n : Nat) (env : Env) (mem : Mem) (K : Ex → Env → Mem → Option ρ) :
    codeK X L nt keep (n + 1) .skip env mem K = K .normal env mem := by rw [codeK]

end Pw

/-! ### memory and slots told anew: each block of the new memory stands for one of the old (or for none), two for the same one where nothing is written -/
namespace Pw
open Go Go.RowKit

variable {P : Program} {T : List (Nat × TE)} {ρ : Type}

def srcAt (G : List (Option Nat)) (j : Nat) : Option Nat := match nth G j with
  | some (some i) => some i
  | _ => none
/-- the value of the new memory that is one of the old -/
inductive VTo (G : List (Option Nat)) : AV → AV → Prop
  | cl (v : AV) : v.closed = true → VTo G v v
  | ptr (i j off : Nat) : srcAt G j = some i → VTo G (.ptr i off) (.ptr j off)
  | sl (i j off len : Nat) (ap : Bool) : srcAt G j = some i → VTo G (.slice i off len ap) (.slice j off len ap)
  | slf (i j off len : Nat) (ap : Bool) : srcAt G j = some i → VTo G (.slice i off len ap) (.slice j off len false)
  | nil0 (j off : Nat) (ap : Bool) : VTo G .nils (.slice j off 0 ap)
  | emp0 (j off : Nat) (ap : Bool) : VTo G .emp (.slice j off 0 ap)
inductive VToL (G : List (Option Nat)) : List AV → List AV → Prop
  | nil : VToL G [] []
  | cons {a b : AV} {l m : List AV} : VTo G a b → VToL G l m → VToL G (a :: l) (b :: m)
inductive BTo (G : List (Option Nat)) : Blk → Blk → Prop
  | dead (B : Blk) : BTo G B dead
  | bytes (l : List Nat) (w w' : Bool) : (w' = true → w = true) → BTo G ⟨.bytes l, w⟩ ⟨.bytes l, w'⟩
  | cells {cs cs' : List AV} (w w' : Bool) : (w' = true → w = true) → VToL G cs cs' → BTo G ⟨.cells cs, w⟩ ⟨.cells cs', w'⟩
inductive ETo (G : List (Option Nat)) : Env → Env → Prop
  | nil : ETo G [] []
  | cons {t : Nat} {a b : AV} {l m : Env} : VTo G a b → ETo G l m → ETo G ((t, a) :: l) ((t, b) :: m)
structure RetOK (n : Nat) (G : List (Option Nat)) (mem mem' : Mem) : Prop where
  len : mem'.length ≤ G.length
  cov : G.length ≤ mem'.length
  low : ∀ j, j < n → srcAt G j = some j
  blk : ∀ j i B', srcAt G j = some i → mem'[j]? = some B' → ∃ B, mem[i]? = some B ∧ BTo G B B'
  dist : ∀ j1 j2 i B', srcAt G j1 = some i → srcAt G j2 = some i → mem'[j1]? = some B' → B'.wr = true → j1 = j2

theorem srcAt_lt {G : List (Option Nat)} {j i : Nat} (h : srcAt G j = some i) : j < G.length := by
  unfold srcAt at h
  split at h
  · rename_i k hk
    rw [nth_eq] at hk
    exact (List.getElem?_eq_some_iff.1 hk).1
  · cases h

def srcσ (G : List (Option Nat)) (σ : Ren) : Ren := fun j => match srcAt G j with | some i => σ i | none => none
theorem srcσ_of {G : List (Option Nat)} {σ : Ren} {i j : Nat} (h : srcAt G j = some i) : srcσ G σ j = σ i := by unfold srcσ; rw [h]
theorem srcσ_some {G : List (Option Nat)} {σ : Ren} {j : Nat} {p : Nat × Nat × Nat} (h : srcσ G σ j = some p) : ∃ i, srcAt G j = some i ∧ σ i = some p := by
  unfold srcσ at h
  split at h
  · rename_i i hi; exact ⟨i, hi, h⟩
  · cases h

theorem VTo.sound {G : List (Option Nat)} {σ : Ren} {a b : AV} {v : Value} (h : VTo G a b) (hr : R σ a v) : R (srcσ G σ) b v := by
  cases h with
  | cl _ hc => exact hr.closed hc
  | ptr i j off hj =>
    cases hr with
    | ptr _ _ b δ s e => exact .ptr j off b δ s (by rw [srcσ_of hj]; exact e)
  | sl i j off len ap hj =>
    cases hr with
    | slice _ _ _ _ cap b δ s e l c d => exact .slice j off len ap cap b δ s (by rw [srcσ_of hj]; exact e) l c d
    | slic0 _ _ _ a => exact .slic0 j off ap a
  | slf i j off len ap hj =>
    cases hr with
    | slice _ _ _ _ cap b δ s e l c d => exact .slice j off len false cap b δ s (by rw [srcσ_of hj]; exact e) l c (fun h => by cases h)
    | slic0 _ _ _ a => exact .slic0 j off false a
  | nil0 j off ap => cases hr with | nils => exact .slic0 j off ap none
  | emp0 j off ap => cases hr with | emp a => exact .slic0 j off ap a

theorem VToL.get {G : List (Option Nat)} : ∀ {l m : List AV}, VToL G l m → ∀ {o : Nat} {b : AV}, m[o]? = some b → ∃ a, l[o]? = some a ∧ VTo G a b
  | _, _, .nil, o, b, h => by simp at h
  | _, _, .cons h1 h2, 0, b, h => by simp at h; subst h; exact ⟨_, rfl, h1⟩
  | _, _, .cons h1 h2, o + 1, b, h => by
    obtain ⟨a, h3, h4⟩ := VToL.get h2 (o := o) (b := b) (by simpa using h)
    exact ⟨a, by simpa using h3, h4⟩
theorem VToL.length {G : List (Option Nat)} : ∀ {l m : List AV}, VToL G l m → l.length = m.length
  | _, _, .nil => rfl
  | _, _, .cons _ h => by simp [VToL.length h]

theorem BTo.wr {G : List (Option Nat)} {B B' : Blk} (h : BTo G B B') (hw : B'.wr = true) : B.wr = true := by
  cases h with
  | dead => simp [Pw.dead] at hw
  | bytes l w w' hh => exact hh hw
  | cells w w' hh _ => exact hh hw
theorem BTo.size {G : List (Option Nat)} {B B' : Blk} (h : BTo G B B') : B'.c.size ≤ B.c.size := by
  cases h with
  | dead => simp [Pw.dead, Cont.size]
  | bytes l w w' hh => exact Nat.le_refl _
  | cells w w' hh hl => simp only [Cont.size]; rw [hl.length]; exact Nat.le_refl _
theorem BTo.at {G : List (Option Nat)} {σ : Ren} {B B' : Blk} (h : BTo G B B') {o : Nat} {v' : AV} (hv : B'.c.at? o = some v') : ∃ v, B.c.at? o = some v ∧ ∀ rv, R σ v rv → R (srcσ G σ) v' rv := by
  cases h with
  | dead => simp [Pw.dead, Cont.at?] at hv
  | bytes l w w' hh =>
    refine ⟨v', hv, fun rv hr => ?_⟩
    have hv : (l[o]?).map (AV.u .u8) = some v' := hv
    obtain ⟨a, _, rfl⟩ := Option.map_eq_some_iff.1 hv
    exact hr.closed rfl
  | cells w w' hh hl =>
    obtain ⟨a, h1, h2⟩ := hl.get (o := o) (b := v') hv
    exact ⟨a, h1, fun rv hr => h2.sound hr⟩

theorem ETo.look {G : List (Option Nat)} {t : Nat} : ∀ {e e' : Env}, ETo G e e' → VTo G (look t e) (look t e') ∨ look t e' = .unk
  | _, _, .nil => by simp [Pw.look]
  | _, _, .cons (t := s) h1 h2 => by
    by_cases e : s = t
    · subst e
      simp only [Pw.look_cons, if_true]
      exact .inl h1
    · rw [look_cons, if_neg e, look_cons, if_neg e]
      exact ETo.look h2

theorem retell_sound {n : Nat} {G : List (Option Nat)} {env env' : Env} {mem mem' : Mem} (h : RetOK n G mem mem') (he : ETo G env env') {W : World} {Wr : Nat → Prop} {nt : Nat} {σ : Ren} {a : Act} {w : World} (hf : FrR W Wr nt σ env mem a w) :
    ∃ σ', ExtN n σ σ' ∧ FrR W Wr nt σ' env' mem' a w := by
  have hst := hf.st
  refine ⟨srcσ G σ, fun i p hi hp => by rw [srcσ_of (h.low i hi)]; exact hp, ⟨⟨⟨hst.1.os, hst.1.tape, hst.1.output, hst.1.size, hst.1.old, ?_, ?_, ?_, ?_⟩, ?_⟩, ⟨hf.env.size, fun t => ?_⟩⟩⟩
  · intro j b δ s hj
    obtain ⟨i, _, hi⟩ := srcσ_some hj
    exact hst.1.dom _ _ _ _ hi
  · intro j b δ s B' hj hB
    obtain ⟨i, hi, hp⟩ := srcσ_some hj
    obtain ⟨B, h1, h2⟩ := h.blk j i B' hi hB
    obtain ⟨C, e, lo, hi', g1, g2, g3, g4, g5⟩ := (hst.1.blk _ _ _ _ _ hp h1).ex
    refine ⟨C, e, lo, hi', g1, g2, Nat.le_trans h2.size g3, fun o v hv => ?_, fun hw => g5 (h2.wr hw)⟩
    obtain ⟨v0, k1, k2⟩ := h2.at (σ := σ) hv
    obtain ⟨rv, r1, r2⟩ := g4 o v0 k1
    exact ⟨rv, r1, k2 rv r2⟩
  · intro j b δ s B' hj hB hw
    obtain ⟨i, hi, hp⟩ := srcσ_some hj
    obtain ⟨B, h1, h2⟩ := h.blk j i B' hi hB
    exact hst.1.wrs _ _ _ _ _ hp h1 (h2.wr hw)
  · intro j1 j2 b1 δ1 s1 b2 δ2 s2 B1 B2 hj1 hj2 hne hB1 hB2 hw hz
    obtain ⟨i1, hi1, hp1⟩ := srcσ_some hj1
    obtain ⟨i2, hi2, hp2⟩ := srcσ_some hj2
    obtain ⟨X1, h1, h2⟩ := h.blk j1 i1 B1 hi1 hB1
    obtain ⟨X2, k1, k2⟩ := h.blk j2 i2 B2 hi2 hB2
    have hii : i1 ≠ i2 := by
      intro e
      subst e
      exact hne (h.dist j1 j2 i1 B1 hi1 hi2 hB1 hw)
    refine hst.1.inj _ _ _ _ _ _ _ _ _ _ hp1 hp2 hii h1 k1 (h2.wr hw) ?_
    rcases hz with hz | hz
    · exact .inl (k2.wr hz)
    · exact .inr (Nat.lt_of_lt_of_le hz k2.size)
  · intro j p hj
    obtain ⟨i, hi, _⟩ := srcσ_some hj
    exact Nat.lt_of_lt_of_le (srcAt_lt hi) h.cov
  · rcases he.look (t := t) with hv | hv
    · exact hv.sound (hf.env.slot t)
    · rw [hv]; exact .unk _

def Retells (n : Nat) (env : Env) (mem : Mem) (env' : Env) (mem' : Mem) : Prop :=
  ∀ (W : World) (Wr : Nat → Prop) (nt : Nat) (σ : Ren) (a : Act) (w : World), FrR W Wr nt σ env mem a w → ∃ σ', ExtN n σ σ' ∧ FrR W Wr nt σ' env' mem' a w
theorem RetOK.tells {n : Nat} {G : List (Option Nat)} {env env' : Env} {mem mem' : Mem} (h : RetOK n G mem mem') (he : ETo G env env') : Retells n env mem env' mem' := fun _ _ _ _ _ _ hf => retell_sound h he hf
theorem Retells.refl (n : Nat) (env : Env) (mem : Mem) : Retells n env mem env mem := fun _ _ _ σ _ _ hf => ⟨σ, fun _ _ _ h => h, hf⟩
theorem MemW.retells {n : Nat} {env : Env} {mem mem' : Mem} (h : MemW mem mem') : Retells n env mem env mem' := fun _ _ _ σ _ _ hf => ⟨σ, fun _ _ _ h => h, ⟨hf.st.weaken h, hf.env⟩⟩
theorem Retells.trans {n : Nat} {e1 e2 e3 : Env} {m1 m2 m3 : Mem} (h : Retells n e1 m1 e2 m2) (k : Retells n e2 m2 e3 m3) : Retells n e1 m1 e3 m3 := fun W Wr nt σ a w hf => by
  obtain ⟨σ1, x1, f1⟩ := h W Wr nt σ a w hf
  obtain ⟨σ2, x2, f2⟩ := k W Wr nt σ1 a w f1
  exact ⟨σ2, x1.trans x2, f2⟩

/-- the end of a round, nothing numbered anew -/
def outR (ts : List Nat) : Ex → Env → Mem → Option (Ex × Env × Mem) := fun e env mem => some (e, prune env ts, mem)

theorem goesN_of_outR {n : Nat} {X : Cx} (hX : CxOK P X) {L : Loops} {nt : Nat} {keep ts : List Nat} {fuel : Nat} {c : Code} (hL : LoopsOK P nt L c) {env env' env2 : Env} {mem mem' mem2 : Mem} {e : Ex}
    (h : codeK X L nt keep fuel c env mem (outR ts) = some (e, env', mem')) (ht : Retells n env' mem' env2 mem2) : GoesN n nt env mem e env2 mem2 (fun Q a w => c.wp P Q a w) := by
  obtain ⟨e1, env1, mem1, h1, h2, -⟩ := codeK_sound hX fuel c hL _ _ _ _ h
  unfold outR at h1
  simp only [Option.some.injEq, Prod.mk.injEq] at h1
  obtain ⟨rfl, rfl, rfl⟩ := h1
  intro W Wr σ a w Q hf hq
  refine h2.prune ts W Wr σ a w Q hf fun σ' a' w' he hf' hd => ?_
  obtain ⟨σ2, x2, f2⟩ := ht W Wr nt σ' a' w' hf'
  exact hq σ2 a' w' (fun i p hi hp => x2 i p hi (he i p hp)) f2 hd

/-- a loop over an argument list, told by a state, its memory told anew after each round -/
structure LoopDefR (S : Type) (n : Nat) where
  ts : List Nat
  E : S → Env
  M : S → Mem
  dec : List AV → Mem → Option S
  ok : ∀ vs mem s, dec vs mem = some s → Retells n (zipE ts vs) mem (E s) (M s)

variable {n : Nat} {Φ : Fact n}
def LoopDefR.fn {S : Type} (d : LoopDefR S n) (guard : S → Bool) (ex : Ex) (fin : S → S) : LoopFn := fun env mem _ K => match d.dec (live d.ts env) mem with
  | some s => bif guard s then K ex (d.E (fin s)) (d.M (fin s)) else none
  | none => none

theorem LoopDefR.loop {S : Type} (d : LoopDefR S n) {guard : S → Bool} {ex : Ex} {fin : S → S} {X : Cx} (hX : CxOK P X) {L : Loops} {nt : Nat} {keep : List Nat} {body : Code} (hL : LoopsOK P nt L body) (hne : ex ≠ .normal)
    (h : ∀ s, guard s = true → ∃ (N : Nat) (at_ : Nat → S), at_ 0 = s ∧
      (∀ i, i < N → ∃ M1 E2 M2 fuel, Tells Φ nt (d.E (at_ i)) (d.M (at_ i)) M1 ∧ codeK X L nt keep fuel body (d.E (at_ i)) M1 (outR d.ts) = some (.normal, E2, M2) ∧ Retells n E2 M2 (d.E (at_ (i + 1))) (d.M (at_ (i + 1)))) ∧
      ∃ E2 M2 fuel, codeK X L nt keep fuel body (d.E (at_ N)) (d.M (at_ N)) (outR d.ts) = some (ex, E2, M2) ∧ Retells n E2 M2 (d.E (fin s)) (d.M (fin s))) : LoopAtP P Φ nt body (d.fn guard ex fin) := by
  intro env mem ρ K r hg
  unfold LoopDefR.fn at hg
  split at hg
  · rename_i s hs
    obtain ⟨hgd, hg⟩ := bif_some hg
    have q := d.ok _ _ _ hs
    obtain ⟨N, at_, e0, h3, E2, M2, fuel, h4, h5⟩ := h s hgd
    have key := roundsP (P := P) (Φ := Φ) (nt := nt) (E := fun i => d.E (at_ i)) (M := fun i => d.M (at_ i)) hne
      (fun i hi => by
        obtain ⟨M1, E2, M2, f, t1, t2, t3⟩ := h3 i hi
        intro W σ a w Q hΦ hf hq
        obtain ⟨σ1, x1, f1⟩ := t1 W σ a w hΦ hf
        exact goesN_of_outR hX hL t2 t3 W Wr0 σ1 a w Q f1 fun σ' a' w' he hf' hd => hq σ' a' w' (x1.trans he) hf' hd)
      (goesN_of_outR hX hL h4 h5).p N 0 (by omega)
    refine ⟨ex, _, _, hg, N + 1, fun W σ a w Q hΦ hf hq => ?_⟩
    have hf1 : FrR W Wr0 nt σ (zipE d.ts (live d.ts env)) mem a w := ⟨hf.st, by rw [← prune_live]; exact hf.env.prune d.ts⟩
    obtain ⟨σ1, x1, hf2⟩ := q W Wr0 nt σ a w hf1
    refine key W σ1 a w Q (Φ.st _ _ _ x1 hΦ) ?_ fun σ' a' w' he hf' hd => hq σ' a' w' (x1.trans he) hf' hd
    show FrR W Wr0 nt σ1 (d.E (at_ 0)) (d.M (at_ 0)) a w
    rw [e0]
    exact hf2
  · cases hg
end Pw

/-! ### memory told anew, block by block -/
namespace Pw
open Go Go.RowKit
inductive MTo (G : List (Option Nat)) (mem : Mem) : List (Option Nat) → Mem → Prop
  | nil : MTo G mem [] []
  | none {l : List (Option Nat)} {m : Mem} (B : Blk) : MTo G mem l m → MTo G mem (none :: l) (B :: m)
  | some {l : List (Option Nat)} {m : Mem} {i : Nat} {B B' : Blk} : nth mem i = some B → BTo G B B' → MTo G mem l m → MTo G mem (some i :: l) (B' :: m)
theorem MTo.length {G : List (Option Nat)} {mem : Mem} : ∀ {l : List (Option Nat)} {m : Mem}, MTo G mem l m → l.length = m.length
  | _, _, .nil => rfl
  | _, _, .none _ h => by simp [MTo.length h]
  | _, _, .some _ _ h => by simp [MTo.length h]
theorem MTo.get {G : List (Option Nat)} {mem : Mem} : ∀ {l : List (Option Nat)} {m : Mem}, MTo G mem l m → ∀ {j i : Nat} {B' : Blk}, srcAt l j = .some i → m[j]? = .some B' → ∃ B, mem[i]? = .some B ∧ BTo G B B'
  | _, _, .nil, j, i, B', h, _ => by simp [srcAt, nth] at h
  | _, _, .none B h, 0, i, B', hs, _ => by simp [srcAt, nth] at hs
  | _, _, .none B h, j + 1, i, B', hs, hm => MTo.get h (j := j) (i := i) (B' := B') hs (by simpa using hm)
  | _, _, .some h1 h2 h, 0, i, B', hs, hm => by
    simp [srcAt, nth] at hs
    subst hs
    simp at hm; subst hm
    exact ⟨_, by rw [← nth_eq]; exact h1, h2⟩
  | _, _, .some h1 h2 h, j + 1, i, B', hs, hm => MTo.get h (j := j) (i := i) (B' := B') hs (by simpa using hm)
def wrOf : Mem → List Bool
  | [] => []
  | B :: m => B.wr :: wrOf m
theorem wrOf_get : ∀ {m : Mem} {j : Nat} {B : Blk}, m[j]? = some B → (wrOf m).getD j false = B.wr
  | [], j, B, h => by simp at h
  | B :: m, 0, B', h => by simp at h; subst h; rfl
  | B :: m, j + 1, B', h => by
    have := wrOf_get (m := m) (j := j) (B := B') (by simpa using h)
    simpa [wrOf] using this
theorem RetOK.of {n : Nat} {G : List (Option Nat)} {mem mem' : Mem} (fl : List Bool) (hf : wrOf mem' = fl) (hm : MTo G mem G mem')
    (hd : ∀ j1, j1 < G.length → ∀ j2, j2 < G.length → fl.getD j1 false = true → srcAt G j1 = srcAt G j2 → (srcAt G j1).isSome = true → j1 = j2)
    (hl : ∀ j, j < n → srcAt G j = some j) : RetOK n G mem mem' where
  len := Nat.le_of_eq hm.length.symm
  cov := Nat.le_of_eq hm.length
  low := hl
  blk _ _ _ h1 h2 := hm.get h1 h2
  dist j1 j2 i B' h1 h2 h3 h4 := hd j1 (srcAt_lt h1) j2 (srcAt_lt h2) (by rw [← hf, wrOf_get h3]; exact h4) (by rw [h1, h2]) (by rw [h1]; rfl)
theorem VToL.closed {G : List (Option Nat)} : ∀ {l : List AV}, AV.closed.all l = true → VToL G l l
  | [], _ => .nil
  | a :: l, h => by
    have h2 : a.closed = true ∧ AV.closed.all l = true := by
      unfold AV.closed.all at h; split at h <;> simp_all
    exact .cons (.cl a h2.1) (VToL.closed h2.2)
theorem VToL.app {G : List (Option Nat)} : ∀ {l m l' m' : List AV}, VToL G l m → VToL G l' m' → VToL G (l ++ l') (m ++ m')
  | _, _, _, _, .nil, h => h
  | _, _, _, _, .cons h1 h2, h => .cons h1 (VToL.app h2 h)
end Pw
