/- A part of the proof: PwEvO. -/
import Derived.Test.YtccmlapcijjmpaaPwEvN
namespace Pw
open Go Go.RowKit

variable {P : Program} {T : List (Nat × TE)} {ρ : Type}

def drawK (T : List (Nat × TE)) (O : Quiet) (nt : Nat) (ops : Array Oper) : List Oper → Env → Mem → (Env → Mem → List (Option Nat) → Option ρ) → Option ρ
  | [], env, mem, K => K env mem []
  | o :: rest, env, mem, K => guardK ops env o.guard fun env b =>
      match b with
      | true => simpK T O mem (evO env) o.op fun v eff => putK nt o.dst v env fun env' => drawK T O nt ops rest env' (eff.on mem) fun env2 mem2 fs => K env2 mem2 (fpOf (evO env) o.op :: fs)
      | false => putK nt o.dst (.tup []) env fun env' => drawK T O nt ops rest env' mem fun env2 mem2 fs => K env2 mem2 (none :: fs)

theorem putK_look {nt : Nat} {dst : Option Nat} {v : AV} {env : Env} {K : Env → Option ρ} {r : ρ} (h : putK nt dst v env K = some r) :
    ∃ env', K env' = some r ∧ (∀ t, look t env' = if dst = some t then v else look t env) ∧ ∀ d, dst = some d → d < nt := by
  unfold putK at h
  split at h
  · exact ⟨env, h, fun t => by simp, by simp⟩
  · rename_i d
    obtain ⟨hc, h⟩ := bif_some h
    have hc := Nat.le_of_ble_eq_true hc
    refine ⟨_, h, fun t => ?_, fun d' e => by cases e; omega⟩
    simp only [look, Option.some.injEq]
    by_cases e : d = t
    · subst e
      have : Nat.beq d d = true := Nat.beq_refl d
      rw [this, cond_true, if_pos rfl]
    · have hb : Nat.beq d t = false := by
        cases hb : Nat.beq d t with
        | false => rfl
        | true => exact absurd (Nat.eq_of_beq_eq_true hb) e
      rw [hb, cond_false, if_neg e]

/-- one operation of the walk in the text's order -/
structure LexAt (P : Program) (nt : Nat) (ops : Array Oper) (o : Oper) (env env' : Env) (mem mem' : Mem) (v : AV) (eff : Eff) (b : Bool) (f : Option Nat) : Prop where
  want : ∀ (σ : Ren) (a : Act), (∀ d, gslot ops o = some d → R σ (look d env) (a.tmps.getD d undef)) → Region.wanted o (yielded ops a.tmps) = b
  does : b = true → Does P o mem (evO env) v eff
  isst : isStore o.op = false → ∀ id B, eff ≠ .store id B
  skip : b = false → v = .tup [] ∧ eff = .none
  lk : ∀ t, look t env' = if o.dst = some t then v else look t env
  mm : mem' = eff.on mem
  lt : ∀ d, o.dst = some d → d < nt
  stl : ∀ id B, eff = .store id B → id < mem.length
  fp : b = true → f = fpOf (evO env) o.op
  fst : ∀ id B, eff = .store id B → f = some id

theorem EnvEq.does {o : Oper} {mem : Mem} {env env' : Env} {v : AV} {eff : Eff} (h : Does P o mem (evO env) v eff) (he : ∀ x ∈ o.op.operands.toList, evO env' x = evO env x) : Does P o mem (evO env') v eff := by
  intro W Wr σ full w re hst h1 h2 hr
  have hf : fpOf (evO env') o.op = fpOf (evO env) o.op := by
    cases ho : o.op <;> simp only [fpOf]
    · rw [he _ (by rw [ho]; simp [Op.operands])]
    · rw [he _ (by rw [ho]; simp [Op.operands])]
  exact h W Wr σ full w re hst (fun hm i B hi => h1 hm i B (by rw [hf]; exact hi)) h2 fun x hx => by rw [← he x hx]; exact hr x hx

theorem evO_look {env env' : Env} (h : ∀ t, look t env' = look t env) (x : Operand) : evO env' x = evO env x := by
  cases x <;> simp [evO, h]

theorem drawK_lex (hT : TabOK P T) {O : Quiet} (hO : QuietOK P O) {nt : Nat} {ops : Array Oper} :
    ∀ (l : List Oper) (k : Nat) (env : Env) (mem : Mem) (K : Env → Mem → List (Option Nat) → Option ρ) (r : ρ), drawK T O nt ops l env mem K = some r →
    ∃ (envs : Nat → Env) (mems : Nat → Mem) (vs : Nat → AV) (effs : Nat → Eff) (bs : Nat → Bool) (fs : List (Option Nat)), envs k = env ∧ mems k = mem ∧ K (envs (k + l.length)) (mems (k + l.length)) fs = some r ∧
      ∀ i o, l[i]? = some o → LexAt P nt ops o (envs (k + i)) (envs (k + i + 1)) (mems (k + i)) (mems (k + i + 1)) (vs (k + i)) (effs (k + i)) (bs (k + i)) (fs.getD i none)
  | [], k, env, mem, K, r, h => ⟨fun _ => env, fun _ => mem, fun _ => .unk, fun _ => .none, fun _ => true, [], rfl, rfl, h, fun i o ho => by simp at ho⟩
  | o :: rest, k, env, mem, K, r, h => by
    unfold drawK at h
    obtain ⟨env1, b, h, hlk, hwant⟩ := guardK_sound h
    -- one step, then the rest
    have glue : ∀ (v : AV) (eff : Eff) (env2 : Env) (f : Option Nat), LexAt P nt ops o env env2 mem (eff.on mem) v eff b f → (drawK T O nt ops rest env2 (eff.on mem) fun env2 mem2 fs => K env2 mem2 (f :: fs)) = some r →
        ∃ (envs : Nat → Env) (mems : Nat → Mem) (vs : Nat → AV) (effs : Nat → Eff) (bs : Nat → Bool) (fs : List (Option Nat)), envs k = env ∧ mems k = mem ∧ K (envs (k + (o :: rest).length)) (mems (k + (o :: rest).length)) fs = some r ∧
          ∀ i o', (o :: rest)[i]? = some o' → LexAt P nt ops o' (envs (k + i)) (envs (k + i + 1)) (mems (k + i)) (mems (k + i + 1)) (vs (k + i)) (effs (k + i)) (bs (k + i)) (fs.getD i none) := by
      intro v eff env2 f hat h
      obtain ⟨envs, mems, vs, effs, bs, fs, e1, e2, e3, e4⟩ := drawK_lex hT hO rest (k + 1) env2 (eff.on mem) _ r h
      refine ⟨fun i => if i = k then env else envs i, fun i => if i = k then mem else mems i, fun i => if i = k then v else vs i, fun i => if i = k then eff else effs i, fun i => if i = k then b else bs i, f :: fs,
        by simp, by simp, ?_, fun i o' ho' => ?_⟩
      · simp only [List.length_cons]
        rw [if_neg (by omega), if_neg (by omega), show k + (rest.length + 1) = k + 1 + rest.length by omega]
        exact e3
      · cases i with
        | zero =>
          simp only [List.getElem?_cons_zero, Option.some.injEq] at ho'
          subst ho'
          simp only [Nat.add_zero, if_true]
          rw [if_neg (by omega), if_neg (by omega), e1, e2]
          simpa using hat
        | succ i =>
          have h5 := e4 i o' (by simpa using ho')
          rw [show k + (i + 1) = k + 1 + i by omega]
          simp only [show ¬ (k + 1 + i = k) by omega, show ¬ (k + 1 + i + 1 = k) by omega, if_false]
          simpa using h5
    cases b with
    | true =>
      dsimp only at h
      obtain ⟨v, eff, h, hd, hm, hstl⟩ := simpK_sound hT hO h
      obtain ⟨env2, h, h1, h2⟩ := putK_look h
      refine glue v eff env2 _ ⟨hwant, fun _ => EnvEq.does hd (fun x _ => (evO_look hlk x).symm), hm, by simp, fun t => by rw [h1 t, hlk t], rfl, h2, fun id B e => ?_, fun _ => ?_, fun id B e => ?_⟩ h
      · obtain ⟨-, B0, hB0, -⟩ := hstl id B e
        exact (List.getElem?_eq_some_iff.1 hB0).1
      · exact congrArg (fun e => fpOf e o.op) (funext fun x => evO_look hlk x)
      · exact (hstl id B e).1
    | false =>
      dsimp only at h
      obtain ⟨env2, h, h1, h2⟩ := putK_look h
      exact glue (.tup []) .none env2 none ⟨hwant, by simp, by simp, by simp, fun t => by rw [h1 t, hlk t], rfl, h2, by simp, by simp, by simp⟩ h

end Pw
