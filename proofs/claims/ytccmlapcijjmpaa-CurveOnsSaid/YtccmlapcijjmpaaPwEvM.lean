/- A part of the proof: PwEvM. -/
import Derived.Test.YtccmlapcijjmpaaPwEvLc
namespace Pw
open Go Go.RowKit

variable {P : Program} {T : List (Nat × TE)} {ρ : Type}

/-- any operation, one behind the other -/
def fullK (T : List (Nat × TE)) (O : Quiet) (M : Loud) (mem : Mem) (ev : Operand → AV) (o : Op) (K : AV → Mem → Option ρ) : Option ρ :=
  match o with
  | .call c => (match c.callee with
    | .value f => (match ev f with
      | .fn f' caps => (match M f' with
        | some g => g (callArgs ev c.args.toList ++ caps) mem K
        | none => simpK T O mem ev (.call c) fun v eff => K v (eff.on mem))
      | _ => none)
    | .builtin .append => appendK T mem c.argTypes.toList (callArgs ev c.args.toList) K
    | .builtin .copy => copyK T mem c.argTypes.toList (callArgs ev c.args.toList) K
    | _ => simpK T O mem ev (.call c) fun v eff => K v (eff.on mem))
  | o => simpK T O mem ev o fun v eff => K v (eff.on mem)

theorem simp_full (hT : TabOK P T) {O : Quiet} (hO : QuietOK P O) {mem : Mem} {ev : Operand → AV} {o : Oper} {K : AV → Mem → Option ρ} {r : ρ}
    (h : (simpK T O mem ev o.op fun v eff => K v (eff.on mem)) = some r) : ∃ v mem', K v mem' = some r ∧ FDoes P o mem ev v mem' := by
  obtain ⟨v, eff, hk, hd, -, -⟩ := simpK_sound hT hO h
  exact ⟨v, _, hk, hd.full⟩

theorem fullK_sound (hT : TabOK P T) {O : Quiet} (hO : QuietOK P O) {M : Loud} (hM : LoudOK P M) {mem : Mem} {ev : Operand → AV} {o : Oper} {K : AV → Mem → Option ρ} {r : ρ}
    (h : fullK T O M mem ev o.op K = some r) : ∃ v mem', K v mem' = some r ∧ FDoes P o mem ev v mem' := by
  unfold fullK at h
  split at h
  · rename_i c ho
    split at h
    · rename_i f hc
      split at h
      · rename_i f' caps hf
        split at h
        · rename_i g hg
          obtain ⟨v, mem', h, hM'⟩ := hM f' g hg _ mem _ _ _ h
          refine ⟨v, mem', h, fun W Wr σ w re hst hr => ?_⟩
          have hf1 := hr f (by rw [ho]; simp [Op.operands, Call.operands, hc])
          rw [hf] at hf1
          generalize hre : re f = vf at hf1
          cases hf1 with | fn _ _ arr hcaps =>
          have hargs : RL σ (callArgs ev c.args.toList ++ caps) (c.args.map re ++ arr).toList := by
            have h1 := callArgs_R (σ := σ) (ev := ev) (re := re) c.args.toList (fun x hx => hr x (by
              rw [ho]; simp only [Op.operands, Call.operands, hc]; simp; right; simpa using hx))
            have := h1.append hcaps
            simpa using this
          exact OpTo.of_call ho hc hre (hM' W Wr σ w _ hst hargs)
        · rw [← ho] at h; exact simp_full hT hO h
      · cases h
    · rename_i hc
      exact appendK_sound hT ho hc h
    · rename_i hc
      exact copyK_sound hT ho hc h
    · rw [← ho] at h; exact simp_full hT hO h
  · exact simp_full hT hO h

/-! ### a region in the text's order -/

def seqK (T : List (Nat × TE)) (O : Quiet) (M : Loud) (nt : Nat) (ops : Array Oper) : List Oper → Env → Mem → (Env → Mem → Option ρ) → Option ρ
  | [], env, mem, K => K env mem
  | o :: rest, env, mem, K => guardK ops env o.guard fun env b =>
      match b with
      | true => fullK T O M mem (evO env) o.op fun v mem' => putK nt o.dst v env fun env' => seqK T O M nt ops rest env' mem' K
      | false => putK nt o.dst (.tup []) env fun env' => seqK T O M nt ops rest env' mem K

/-- the relation of a whole state of a frame -/
structure FrR (W : World) (Wr : Nat → Prop) (nt : Nat) (σ : Ren) (env : Env) (mem : Mem) (a : Act) (w : World) : Prop where
  st : FSt W Wr σ mem w
  env : EnvR σ nt env a

theorem EnvR.look_eq {σ : Ren} {nt : Nat} {env env' : Env} {a : Act} (h : EnvR σ nt env a) (he : ∀ t, look t env' = look t env) : EnvR σ nt env' a :=
  ⟨h.size, fun t => by rw [he t]; exact h.slot t⟩

theorem Act.put_defers' (a : Act) (d : Option Tmp) (v : Value) : (a.put d v).defers = a.defers := by cases d <;> rfl

theorem seqK_sound (hT : TabOK P T) {O : Quiet} (hO : QuietOK P O) {M : Loud} (hM : LoudOK P M) {nt : Nat} {ops : Array Oper} :
    ∀ (l : List Oper) (k : Nat) (env : Env) (mem : Mem) (K : Env → Mem → Option ρ) (r : ρ), (∀ j, l[j]? = ops[k + j]?) → seqK T O M nt ops l env mem K = some r →
    ∃ env' mem', K env' mem' = some r ∧ ∀ (W : World) (Wr : Nat → Prop) (σ : Ren) (a : Act) (w : World) (Q : Exit → Act → World → Prop), FrR W Wr nt σ env mem a w →
      (∀ σ' a' w', Ext σ σ' → FrR W Wr nt σ' env' mem' a' w' → a'.defers = a.defers → Q .normal a' w') → wpOps P ops Q (List.range' k l.length) a w
  | [], k, env, mem, K, r, _, h => ⟨env, mem, h, fun W Wr σ a w Q hf hq => by simp only [List.length_nil, List.range'_zero, wpOps]; exact hq σ a w (.refl σ) hf rfl⟩
  | o :: rest, k, env, mem, K, r, hl, h => by
    have ho : ops[k]? = some o := by have := hl 0; simpa using this.symm
    have hrest : ∀ j, rest[j]? = ops[k + 1 + j]? := fun j => by
      have := hl (j + 1)
      rw [show k + 1 + j = k + (j + 1) by omega]; simpa using this
    unfold seqK at h
    obtain ⟨env1, b, h, hlk, hwant⟩ := guardK_sound h
    cases b with
    | true =>
      dsimp only at h
      obtain ⟨v, mem1, h, hd⟩ := fullK_sound hT hO hM h
      obtain ⟨env2, h, hput⟩ := putK_sound h
      obtain ⟨env3, mem3, h, hfin⟩ := seqK_sound hT hO hM rest (k + 1) env2 mem1 K r hrest h
      refine ⟨env3, mem3, h, fun W Wr σ a w Q hf hq => ?_⟩
      have henv := hf.env.look_eq hlk
      have hw := hwant σ a (fun d _ => hf.env.slot d)
      simp only [List.length_cons, List.range'_succ, wpOps, ho, hw, if_true]
      refine .inl (OpTo.wp (hd W Wr σ w a.eval hf.st (fun x _ => henv.eval x)) fun rv w' ⟨σ', e1, e2, e3⟩ => ?_)
      refine hfin W Wr σ' _ w' Q ⟨e3, hput σ' a rv (henv.ext e1) e2⟩ fun σ'' a' w'' e4 e5 e6 => ?_
      exact hq σ'' a' w'' (e1.trans e4) e5 (by rw [e6, Act.put_defers'])
    | false =>
      dsimp only at h
      obtain ⟨env2, h, hput⟩ := putK_sound h
      obtain ⟨env3, mem3, h, hfin⟩ := seqK_sound hT hO hM rest (k + 1) env2 mem K r hrest h
      refine ⟨env3, mem3, h, fun W Wr σ a w Q hf hq => ?_⟩
      have henv := hf.env.look_eq hlk
      have hw := hwant σ a (fun d _ => hf.env.slot d)
      simp only [List.length_cons, List.range'_succ, wpOps, ho, hw, Bool.false_eq_true, if_false]
      refine hfin W Wr σ _ w Q ⟨hf.st, hput σ a undef henv (.tup _ _ .nil)⟩ fun σ'' a' w'' e4 e5 e6 => ?_
      exact hq σ'' a' w'' e4 e5 (by rw [e6, Act.put_defers'])

end Pw
