/- A part of the proof, for all claims alike: PwEvN, PwEvO, PwEvP, PwEvQ, PwEvR, PwEvS, PwEvT, PwEvU, PwU2. -/
import Derived.Test.YtmhbhpmfbalbeaaPwMb
namespace Pw
open Go Go.RowKit

variable {P : Program} {T : List (Nat × TE)} {ρ : Type}

/-! ### a region whose order is drawn -/

/-- the slots that an operation names -/
def named (o : Oper) : List Nat :=
  o.op.operands.toList.filterMap fun x => match x with
    | .tmp t => some t
    | _ => none

def dstIn (d : Option Nat) (l : List Nat) : Bool :=
  match d with
  | none => false
  | some d => l.any fun t => Nat.beq d t

def slotIn (d : Option Nat) (g : Option Nat) : Bool :=
  match d, g with
  | some a, some b => Nat.beq a b
  | _, _ => false

/-- what an operation looks into (`none`: any block), and the block that it changes -/
abbrev Foot := Option (List Nat) × Option Nat

/-- does what one changes lie in what another looks into? -/
def hits (f g : Foot) : Bool :=
  match f.2 with
  | none => false
  | some i => match g.1 with
    | none => true
    | some l => l.any fun k => Nat.beq k i

theorem hits_of {f g : Foot} {i : Nat} (h : f.2 = some i) (hg : ∀ l, g.1 = some l → i ∈ l) : hits f g = true := by
  unfold hits
  rw [h]
  dsimp only
  cases hg1 : g.1 with
  | none => rfl
  | some l => exact List.any_eq_true.2 ⟨i, hg l hg1, Nat.beq_refl i⟩

/-- may two operations not change places? -/
def conf (ops : Array Oper) (x y : Oper × Foot) : Bool :=
  dstIn x.1.dst (named y.1) || dstIn y.1.dst (named x.1) || slotIn x.1.dst (gslot ops y.1) || slotIn y.1.dst (gslot ops x.1) || slotIn x.1.dst y.1.dst ||
    (hits x.2 y.2 || hits y.2 x.2)

def zipF : List Oper → List Foot → List (Oper × Foot)
  | [], _ => []
  | o :: l, [] => (o, (none, none)) :: zipF l []
  | o :: l, f :: fs => (o, f) :: zipF l fs

theorem zipF_get : ∀ (l : List Oper) (fs : List Foot) (i : Nat), (zipF l fs)[i]? = (l[i]?).map fun o => (o, fs.getD i (none, none))
  | [], fs, i => by cases fs <;> simp [zipF]
  | o :: l, [], 0 => by simp [zipF]
  | o :: l, [], i + 1 => by simp [zipF, zipF_get l []]
  | o :: l, f :: fs, 0 => by simp [zipF]
  | o :: l, f :: fs, i + 1 => by simp [zipF, zipF_get l fs]

def maskOf (acc : List Nat) (o : Oper) : Nat :=
  o.after.toList.foldl (fun s e => if Region.binds .any e then s ||| 2 ^ e.on ||| (acc.getD e.on 0) else s) 0

def masks : List Oper → List Nat → List Nat
  | [], acc => acc
  | o :: l, acc => masks l (acc ++ [maskOf acc o])

def confRow (ops : Array Oper) (l : List (Oper × Foot)) (mask : Nat) (y : Oper × Foot) : Nat → Bool
  | i => match l with
    | [] => true
    | x :: r => (!conf ops x y || mask.testBit i) && confRow ops r mask y (i + 1)

def confAll (ops : Array Oper) (all : List (Oper × Foot)) : List (Oper × Foot) → List Nat → Nat → Bool
  | o :: l, m :: ms, j => confRow ops (all.take j) m o 0 && confAll ops all l ms (j + 1)
  | _, _, _ => true

def edgesOk : List Oper → Nat → Bool
  | [], _ => true
  | o :: l, i => (o.after.toList.all fun e => !Region.binds .any e || Nat.ble (e.on + 1) i) && edgesOk l (i + 1)

def regOk (ops : Array Oper) (fs : List Foot) : Bool := edgesOk ops.toList 0 && confAll ops (zipF ops.toList fs) (zipF ops.toList fs) (masks ops.toList []) 0

/-- no operation of `l` that `y` must wait for is free of it -/
theorem confRow_spec {ops : Array Oper} {mask : Nat} {y : Oper × Foot} : ∀ {l : List (Oper × Foot)} {i : Nat}, confRow ops l mask y i = true → ∀ k x, l[k]? = some x → conf ops x y = true → mask.testBit (i + k) = true
  | [], _, _, k, x, hx, _ => by simp at hx
  | z :: r, i, h, k, x, hx, hc => by
    unfold confRow at h
    simp only [Bool.and_eq_true, Bool.or_eq_true, Bool.not_eq_true'] at h
    cases k with
    | zero =>
      simp only [List.getElem?_cons_zero, Option.some.injEq] at hx
      subst hx
      rcases h.1 with h1 | h1
      · rw [hc] at h1; cases h1
      · simpa using h1
    | succ k =>
      have := confRow_spec h.2 k x (by simpa using hx) hc
      rwa [show i + 1 + k = i + (k + 1) by omega] at this

theorem confAll_spec {ops : Array Oper} {all : List (Oper × Foot)} : ∀ {l : List (Oper × Foot)} {ms : List Nat} {j : Nat}, confAll ops all l ms j = true → ∀ k y m, l[k]? = some y → ms[k]? = some m →
    ∀ i x, i < j + k → all[i]? = some x → conf ops x y = true → m.testBit i = true
  | [], _, _, _, k, y, m, hy, _, _, _, _, _, _ => by simp at hy
  | _ :: _, [], _, _, k, y, m, _, hm, _, _, _, _, _ => by simp at hm
  | o :: l, m0 :: ms, j, h, k, y, m, hy, hm, i, x, hi, hx, hc => by
    unfold confAll at h
    simp only [Bool.and_eq_true] at h
    cases k with
    | zero =>
      simp only [List.getElem?_cons_zero, Option.some.injEq] at hy hm
      subst hy; subst hm
      have := confRow_spec h.1 i x (by rw [List.getElem?_take, if_pos (by omega)]; exact hx) hc
      simpa using this
    | succ k =>
      exact confAll_spec h.2 k y m (by simpa using hy) (by simpa using hm) i x (by omega) hx hc

theorem masks_length : ∀ (l : List Oper) (acc : List Nat), (masks l acc).length = acc.length + l.length
  | [], acc => by simp [masks]
  | o :: l, acc => by simp [masks, masks_length l]; omega

theorem masks_get : ∀ (l : List Oper) (acc : List Nat) (i : Nat), i < acc.length → (masks l acc)[i]? = acc[i]?
  | [], acc, i, _ => rfl
  | o :: l, acc, i, h => by
    simp only [masks]
    rw [masks_get l _ i (by simp; omega), List.getElem?_append_left h]

/-- a set of operations that holds what each of them waits for -/
def Closed (ops : Array Oper) (S : Nat → Bool) : Prop :=
  ∀ i o, ops[i]? = some o → S i = true → ∀ e ∈ o.after.toList, Region.binds .any e = true → S e.on = true

theorem maskOf_spec {S : Nat → Bool} {acc : List Nat} {o : Oper} (hacc : ∀ (i m : Nat), acc[i]? = some m → S i = true → ∀ j, m.testBit j = true → S j = true)
    (he : ∀ e ∈ o.after.toList, Region.binds .any e = true → S e.on = true) : ∀ j, (maskOf acc o).testBit j = true → S j = true := by
  unfold maskOf
  have key : ∀ (l : List Edge) (s : Nat), (∀ e ∈ l, Region.binds .any e = true → S e.on = true) → (∀ j, s.testBit j = true → S j = true) →
      ∀ j, (l.foldl (fun s e => if Region.binds .any e then s ||| 2 ^ e.on ||| (acc.getD e.on 0) else s) s).testBit j = true → S j = true := by
    intro l
    induction l with
    | nil => intro s _ hs j hj; exact hs j hj
    | cons e l ih =>
      intro s hl hs
      simp only [List.foldl_cons]
      refine ih _ (fun e' he' => hl e' (by simp [he'])) fun j hj => ?_
      split at hj
      · rename_i hb
        have hS := hl e (by simp) hb
        simp only [Nat.testBit_or, Bool.or_eq_true] at hj
        rcases hj with (h1 | h1) | h1
        · exact hs j h1
        · rw [Nat.testBit_two_pow] at h1
          have : e.on = j := by simpa using h1
          rw [← this]; exact hS
        · rw [List.getD_eq_getElem?_getD] at h1
          cases hm : acc[e.on]? with
          | none => rw [hm] at h1; simp at h1
          | some m => rw [hm] at h1; exact hacc _ _ hm hS j (by simpa using h1)
      · exact hs j hj
  exact key _ 0 he (by simp)

theorem masks_spec {ops : Array Oper} {S : Nat → Bool} (hS : Closed ops S) : ∀ (l : List Oper) (acc : List Nat), (∀ k, l[k]? = ops[acc.length + k]?) →
    (∀ (i m : Nat), acc[i]? = some m → S i = true → ∀ j, m.testBit j = true → S j = true) →
    ∀ (i m : Nat), (masks l acc)[i]? = some m → S i = true → ∀ j, m.testBit j = true → S j = true
  | [], acc, _, hacc => hacc
  | o :: l, acc, hl, hacc => by
    simp only [masks]
    have ho : ops[acc.length]? = some o := by have := hl 0; simpa using this.symm
    refine masks_spec hS l _ (fun k => by
      have := hl (k + 1)
      rw [List.length_append, List.length_cons, List.length_nil, show acc.length + (0 + 1) + k = acc.length + (k + 1) by omega]; simpa using this) fun i m hm hi => ?_
    rcases Nat.lt_or_ge i acc.length with h | h
    · rw [List.getElem?_append_left h] at hm; exact hacc i m hm hi
    · rw [List.getElem?_append_right h] at hm
      cases hd : i - acc.length with
      | zero =>
        rw [hd] at hm
        simp only [List.getElem?_cons_zero, Option.some.injEq] at hm
        have hia : i = acc.length := by omega
        subst hia; subst hm
        exact maskOf_spec hacc (hS _ _ ho hi)
      | succ n => rw [hd] at hm; simp at hm

/-- what the check of a region gives: operations that conflict stand in the text's order, whatever the draw is -/
theorem regOk_order {ops : Array Oper} {fs : List Foot} (h : regOk ops fs = true) {S : Nat → Bool} (hS : Closed ops S) {i j : Nat} {x y : Oper} (hij : i < j) (hx : ops[i]? = some x) (hy : ops[j]? = some y) (hc : conf ops (x, fs.getD i (none, none)) (y, fs.getD j (none, none)) = true)
    (hj : S j = true ∨ ∀ e ∈ y.after.toList, Region.binds .any e = true → S e.on = true) : S i = true := by
  simp only [regOk, Bool.and_eq_true] at h
  have hx'' : ops.toList[i]? = some x := by simpa using hx
  have hy' : ops.toList[j]? = some y := by simpa using hy
  have hx' : (zipF ops.toList fs)[i]? = some (x, fs.getD i (none, none)) := by rw [zipF_get, hx'']; rfl
  have hy2 : (zipF ops.toList fs)[j]? = some (y, fs.getD j (none, none)) := by rw [zipF_get, hy']; rfl
  have hjl : j < ops.toList.length := (List.getElem?_eq_some_iff.1 hy').1
  have hml := masks_length ops.toList []
  have hm : (masks ops.toList [])[j]? = some ((masks ops.toList [])[j]'(by rw [hml]; simpa using hjl)) := List.getElem?_eq_getElem _
  have hbit := confAll_spec h.2 j _ _ hy2 hm i _ (by omega) hx' hc
  rcases hj with hj | hj
  · exact masks_spec hS ops.toList [] (fun k => by simp) (fun i m hm => by simp at hm) j _ hm hj i hbit
  · -- the mask of an operation that is ready
    have hsplit : ∀ (l : List Oper) (acc : List Nat), (∀ k, l[k]? = ops[acc.length + k]?) → (∀ (i m : Nat), acc[i]? = some m → S i = true → ∀ j, m.testBit j = true → S j = true) →
        acc.length ≤ j → ∀ m, (masks l acc)[j]? = some m → ∀ b, m.testBit b = true → S b = true := by
      intro l
      induction l with
      | nil => intro acc _ _ hle m hm; simp only [masks] at hm; have := (List.getElem?_eq_some_iff.1 hm).1; omega
      | cons o l ih =>
        intro acc hl hacc hle m hm
        have ho : ops[acc.length]? = some o := by have := hl 0; simpa using this.symm
        simp only [masks] at hm
        have hl' : ∀ k, l[k]? = ops[(acc ++ [maskOf acc o]).length + k]? := fun k => by
          have := hl (k + 1)
          rw [List.length_append, List.length_cons, List.length_nil, show acc.length + (0 + 1) + k = acc.length + (k + 1) by omega]; simpa using this
        by_cases e : acc.length = j
        · rw [masks_get l _ j (by simp; omega), List.getElem?_append_right (by omega), show j - acc.length = 0 by omega] at hm
          simp only [List.getElem?_cons_zero, Option.some.injEq] at hm
          subst hm
          have hyo : y = o := by rw [← e] at hy; rw [ho] at hy; exact (Option.some.inj hy).symm
          subst hyo
          exact maskOf_spec hacc hj
        · refine ih _ hl' (fun i m hm hi => ?_) (by simp; omega) m hm
          rcases Nat.lt_or_ge i acc.length with h' | h'
          · rw [List.getElem?_append_left h'] at hm; exact hacc i m hm hi
          · rw [List.getElem?_append_right h'] at hm
            cases hd : i - acc.length with
            | zero =>
              rw [hd] at hm
              simp only [List.getElem?_cons_zero, Option.some.injEq] at hm
              have hia : i = acc.length := by omega
              subst hia; subst hm
              exact maskOf_spec hacc (hS _ _ ho hi)
            | succ n => rw [hd] at hm; simp at hm
    exact hsplit ops.toList [] (fun k => by simp) (fun i m hm => by simp at hm) (Nat.zero_le _) _ hm i hbit

end Pw

namespace Pw
open Go Go.RowKit

variable {P : Program} {T : List (Nat × TE)} {ρ : Type}

def drawK (T : List (Nat × TE)) (O : Quiet) (nt : Nat) (ops : Array Oper) : List Oper → Env → Mem → (Env → Mem → List Foot → Option ρ) → Option ρ
  | [], env, mem, K => K env mem []
  | o :: rest, env, mem, K => guardK ops env o.guard fun env b =>
      match b with
      | true => drawOp T O mem (evO env) o.op fun v eff => putK nt o.dst v env fun env' => drawK T O nt ops rest env' (eff.on mem) fun env2 mem2 fs => K env2 mem2 ((fpOf mem (evO env) o.op, eff.st.map (·.1)) :: fs)
      | false => putK nt o.dst (.tup []) env fun env' => drawK T O nt ops rest env' mem fun env2 mem2 fs => K env2 mem2 ((some [], none) :: fs)

theorem putK_look {nt : Nat} {dst : Option Nat} {v : AV} {env : Env} {K : Env → Option ρ} {r : ρ} (h : putK nt dst v env K = some r) :
    ∃ env', K env' = some r ∧ (∀ t, look t env' = if dst = some t then v else look t env) ∧ ∀ d, dst = some d → d < nt := by
  unfold putK at h
  split at h
  · exact ⟨env, h, fun t => by simp, by simp⟩
  · rename_i d
    obtain ⟨hc, h⟩ := bif_some h
    have hc := Nat.le_of_ble_eq_true hc
    refine ⟨_, h, fun t => ?_, fun d' e => by cases e; omega⟩
    simp only [look, Option.some.injEq]
    by_cases e : d = t
    · subst e
      have : Nat.beq d d = true := Nat.beq_refl d
      rw [this, cond_true, if_pos rfl]
    · have hb : Nat.beq d t = false := by
        cases hb : Nat.beq d t with
        | false => rfl
        | true => exact absurd (Nat.eq_of_beq_eq_true hb) e
      rw [hb, cond_false, if_neg e]

/-- one operation of the walk in the text's order -/
structure LexAt (P : Program) (nt : Nat) (ops : Array Oper) (o : Oper) (env env' : Env) (mem mem' : Mem) (v : AV) (eff : Eff) (b : Bool) (f : Foot) : Prop where
  want : ∀ (σ : Ren) (a : Act), (∀ d, gslot ops o = some d → R σ (look d env) (a.tmps.getD d undef)) → Region.wanted o (yielded ops a.tmps) = b
  does : b = true → Does P o mem (evO env) v eff
  skip : b = false → v = .tup [] ∧ eff = .none
  lk : ∀ t, look t env' = if o.dst = some t then v else look t env
  mm : mem' = eff.on mem
  lt : ∀ d, o.dst = some d → d < nt
  stl : ∀ id B, eff.st = some (id, B) → id < mem.length
  fp : b = true → f.1 = fpOf mem (evO env) o.op
  fst : ∀ id B, eff.st = some (id, B) → f.2 = some id ∧ ∀ l, f.1 = some l → id ∈ l

theorem callArgs_eq {ev ev' : Operand → AV} : ∀ {l : List Operand}, (∀ x ∈ l, ev' x = ev x) → callArgs ev' l = callArgs ev l
  | [], _ => rfl
  | x :: l, h => by simp only [callArgs]; rw [h x (by simp), callArgs_eq fun y hy => h y (by simp [hy])]

theorem fpOf_eq {mem : Mem} {ev ev' : Operand → AV} {op : Op} (he : ∀ x ∈ op.operands.toList, ev' x = ev x) : fpOf mem ev' op = fpOf mem ev op := by
  cases op with
  | load t a => simp only [fpOf]; rw [he a (by simp [Op.operands])]
  | store t a v => simp only [fpOf]; rw [he a (by simp [Op.operands])]
  | convert s d x => simp only [fpOf]; rw [he x (by simp [Op.operands])]
  | call c =>
    have ha : callArgs ev' c.args.toList = callArgs ev c.args.toList := callArgs_eq fun x hx => he x (by
      simp only [Op.operands, Call.operands]; cases c.callee <;> simp_all)
    simp only [fpOf]
    cases hc : c.callee with
    | value f => dsimp only; rw [ha, he f (by simp [Op.operands, Call.operands, hc])]
    | builtin b => cases b <;> simp only [ha]
    | _ => rfl
  | _ => rfl

theorem EnvEq.does {o : Oper} {mem : Mem} {env env' : Env} {v : AV} {eff : Eff} (h : Does P o mem (evO env) v eff) (he : ∀ x ∈ o.op.operands.toList, evO env' x = evO env x) : Does P o mem (evO env') v eff := by
  intro W Wr σ full w re hst h1 h2 hr
  exact h W Wr σ full w re hst (fun i B hi => h1 i B (by rw [fpOf_eq he]; exact hi)) h2 fun x hx => by rw [← he x hx]; exact hr x hx

theorem evO_look {env env' : Env} (h : ∀ t, look t env' = look t env) (x : Operand) : evO env' x = evO env x := by
  cases x <;> simp [evO, h]

theorem drawK_lex (hT : TabOK P T) {O : Quiet} (hO : QuietOK P O) {nt : Nat} {ops : Array Oper} :
    ∀ (l : List Oper) (k : Nat) (env : Env) (mem : Mem) (K : Env → Mem → List Foot → Option ρ) (r : ρ), drawK T O nt ops l env mem K = some r →
    ∃ (envs : Nat → Env) (mems : Nat → Mem) (vs : Nat → AV) (effs : Nat → Eff) (bs : Nat → Bool) (fs : List Foot), envs k = env ∧ mems k = mem ∧ K (envs (k + l.length)) (mems (k + l.length)) fs = some r ∧
      ∀ i o, l[i]? = some o → LexAt P nt ops o (envs (k + i)) (envs (k + i + 1)) (mems (k + i)) (mems (k + i + 1)) (vs (k + i)) (effs (k + i)) (bs (k + i)) (fs.getD i (none, none))
  | [], k, env, mem, K, r, h => ⟨fun _ => env, fun _ => mem, fun _ => .unk, fun _ => .none, fun _ => true, [], rfl, rfl, h, fun i o ho => by simp at ho⟩
  | o :: rest, k, env, mem, K, r, h => by
    unfold drawK at h
    obtain ⟨env1, b, h, hlk, hwant⟩ := guardK_sound h
    -- one step, then the rest
    have glue : ∀ (v : AV) (eff : Eff) (env2 : Env) (f : Foot), LexAt P nt ops o env env2 mem (eff.on mem) v eff b f → (drawK T O nt ops rest env2 (eff.on mem) fun env2 mem2 fs => K env2 mem2 (f :: fs)) = some r →
        ∃ (envs : Nat → Env) (mems : Nat → Mem) (vs : Nat → AV) (effs : Nat → Eff) (bs : Nat → Bool) (fs : List Foot), envs k = env ∧ mems k = mem ∧ K (envs (k + (o :: rest).length)) (mems (k + (o :: rest).length)) fs = some r ∧
          ∀ i o', (o :: rest)[i]? = some o' → LexAt P nt ops o' (envs (k + i)) (envs (k + i + 1)) (mems (k + i)) (mems (k + i + 1)) (vs (k + i)) (effs (k + i)) (bs (k + i)) (fs.getD i (none, none)) := by
      intro v eff env2 f hat h
      obtain ⟨envs, mems, vs, effs, bs, fs, e1, e2, e3, e4⟩ := drawK_lex hT hO rest (k + 1) env2 (eff.on mem) _ r h
      refine ⟨fun i => if i = k then env else envs i, fun i => if i = k then mem else mems i, fun i => if i = k then v else vs i, fun i => if i = k then eff else effs i, fun i => if i = k then b else bs i, f :: fs,
        by simp, by simp, ?_, fun i o' ho' => ?_⟩
      · simp only [List.length_cons]
        rw [if_neg (by omega), if_neg (by omega), show k + (rest.length + 1) = k + 1 + rest.length by omega]
        exact e3
      · cases i with
        | zero =>
          simp only [List.getElem?_cons_zero, Option.some.injEq] at ho'
          subst ho'
          simp only [Nat.add_zero, if_true]
          rw [if_neg (by omega), if_neg (by omega), e1, e2]
          simpa using hat
        | succ i =>
          have h5 := e4 i o' (by simpa using ho')
          rw [show k + (i + 1) = k + 1 + i by omega]
          simp only [show ¬ (k + 1 + i = k) by omega, show ¬ (k + 1 + i + 1 = k) by omega, if_false]
          simpa using h5
    cases b with
    | true =>
      dsimp only at h
      obtain ⟨v, eff, h, hd, hstl⟩ := drawOp_sound hT hO h
      obtain ⟨env2, h, h1, h2⟩ := putK_look h
      refine glue v eff env2 _ ⟨hwant, fun _ => EnvEq.does hd (fun x _ => (evO_look hlk x).symm), by simp, fun t => by rw [h1 t, hlk t], rfl, h2, fun id B e => ?_, fun _ => ?_, fun id B e => ?_⟩ h
      · obtain ⟨-, B0, hB0⟩ := hstl id B e
        exact (List.getElem?_eq_some_iff.1 hB0).1
      · exact congrArg (fun e => fpOf mem e o.op) (funext fun x => evO_look hlk x)
      · exact ⟨by show Option.map _ eff.st = _; rw [e]; rfl, (hstl id B e).1⟩
    | false =>
      dsimp only at h
      obtain ⟨env2, h, h1, h2⟩ := putK_look h
      exact glue (.tup []) .none env2 (some [], none) ⟨hwant, by simp, by simp, fun t => by rw [h1 t, hlk t], rfl, h2, by simp, by simp, by simp⟩ h

end Pw

namespace Pw
open Go Go.RowKit

variable {P : Program}

section draw
variable (ops : Array Oper) (env0 : Env) (vs : Nat → AV) (effs : Nat → Eff)

def En (S : Nat → Bool) : Nat → Env
  | 0 => env0
  | k + 1 => if S k = true then (match (ops[k]?).bind (·.dst) with
    | some d => (d, vs k) :: En S k
    | none => En S k) else En S k

def Al : Nat → Mem
  | 0 => []
  | k + 1 => match (effs k).al with
    | some B => Al k ++ [B]
    | none => Al k

def Gm (base : Mem) (S : Nat → Bool) : Nat → Mem
  | 0 => base
  | k + 1 => match (effs k).st with
    | some (id, B) => if S k = true then (Gm base S k).set id B else Gm base S k
    | none => Gm base S k

variable {ops env0 vs effs}

theorem look_cons (d t : Nat) (v : AV) (env : Env) : look t ((d, v) :: env) = if d = t then v else look t env := by
  simp only [look]
  by_cases e : d = t
  · subst e
    have : Nat.beq d d = true := Nat.beq_refl d
    rw [this, cond_true, if_pos rfl]
  · have hb : Nat.beq d t = false := by
      cases hb : Nat.beq d t with
      | false => rfl
      | true => exact absurd (Nat.eq_of_beq_eq_true hb) e
    rw [hb, cond_false, if_neg e]

theorem En_congr {S S' : Nat → Bool} {t : Nat} : ∀ (k : Nat), (∀ i, i < k → (ops[i]?).bind (·.dst) = some t → S i = S' i) → look t (En ops env0 vs S k) = look t (En ops env0 vs S' k)
  | 0, _ => rfl
  | k + 1, h => by
    have ih := En_congr k fun i hi => h i (by omega)
    simp only [En]
    cases hd : (ops[k]?).bind (·.dst) with
    | none => (try dsimp only); split <;> split <;> exact ih
    | some d =>
      try dsimp only
      by_cases e : d = t
      · subst e
        have hk := h k (by omega) hd
        rw [hk]
        split
        · rw [look_cons, look_cons]; simp
        · exact ih
      · split <;> split <;> (first | (rw [look_cons, look_cons, if_neg e, if_neg e]; exact ih) | (rw [look_cons, if_neg e]; exact ih) | exact ih)

/-- operations from a place on that are not of the set leave the slots alone -/
theorem En_skip {S : Nat → Bool} {j : Nat} : ∀ (k : Nat), j ≤ k → (∀ i, j ≤ i → i < k → S i = false) → En ops env0 vs S k = En ops env0 vs S j
  | 0, h, _ => by rw [Nat.le_zero.1 h]
  | k + 1, h, hS => by
    by_cases e : j = k + 1
    · rw [e]
    · simp only [En, hS k (by omega) (by omega), Bool.false_eq_true, if_false]
      exact En_skip k (by omega) fun i h1 h2 => hS i h1 (by omega)

theorem Gm_congr {base : Mem} {S S' : Nat → Bool} : ∀ (k : Nat), (∀ i id B, i < k → (effs i).st = some (id, B) → S i = S' i) → Gm effs base S k = Gm effs base S' k
  | 0, _ => rfl
  | k + 1, h => by
    have ih := Gm_congr (base := base) (S := S) (S' := S') k fun i id B hi => h i id B (by omega)
    simp only [Gm]
    cases he : (effs k).st with
    | some q => obtain ⟨id, B⟩ := q; (try dsimp only); rw [h k id B (by omega) he, ih]
    | none => exact ih

theorem Gm_skip {base : Mem} {S : Nat → Bool} {j : Nat} : ∀ (k : Nat), j ≤ k → (∀ i id B, j ≤ i → i < k → (effs i).st = some (id, B) → S i = false) → Gm effs base S k = Gm effs base S j
  | 0, h, _ => by rw [Nat.le_zero.1 h]
  | k + 1, h, hS => by
    by_cases e : j = k + 1
    · rw [e]
    · have ih := Gm_skip (base := base) (S := S) (j := j) k (by omega) fun i id B h1 h2 => hS i id B h1 (by omega)
      simp only [Gm]
      cases he : (effs k).st with
      | some q => obtain ⟨id, B⟩ := q; simp only [hS k id B (by omega) (by omega) he, Bool.false_eq_true, if_false]; exact ih
      | none => exact ih

theorem GmLen {base : Mem} {S : Nat → Bool} : ∀ (k : Nat), (Gm effs base S k).length = base.length
  | 0 => rfl
  | k + 1 => by
    have ih := GmLen (base := base) (S := S) k
    simp only [Gm]
    cases (effs k).st with
    | some q => obtain ⟨id, B⟩ := q; (try dsimp only); split <;> simp [ih]
    | none => exact ih

theorem Gm_at {base : Mem} {S S' : Nat → Bool} {id : Nat} : ∀ (k : Nat), (∀ i B, i < k → (effs i).st = some (id, B) → S i = S' i) → (Gm effs base S k)[id]? = (Gm effs base S' k)[id]?
  | 0, _ => rfl
  | k + 1, h => by
    have ih := Gm_at (base := base) (S := S) (S' := S') (id := id) k fun i B hi => h i B (by omega)
    simp only [Gm]
    cases he : (effs k).st with
    | none => exact ih
    | some q =>
      obtain ⟨id', B⟩ := q
      dsimp only
      by_cases e : id' = id
      · subst e
        rw [h k B (by omega) he]
        split
        · simp only [List.getElem?_set, if_true]
          rw [GmLen (S := S) k, GmLen (S := S') k]
        · exact ih
      · have key : ∀ (S0 : Nat → Bool), (if S0 k = true then (Gm effs base S0 k).set id' B else Gm effs base S0 k)[id]? = (Gm effs base S0 k)[id]? := by
          intro S0
          split
          · exact List.getElem?_set_ne e
          · rfl
        rw [key S, key S']; exact ih

theorem Gm_skip_at {base : Mem} {S : Nat → Bool} {j id : Nat} : ∀ (k : Nat), j ≤ k → (∀ i B, j ≤ i → i < k → (effs i).st = some (id, B) → S i = false) → (Gm effs base S k)[id]? = (Gm effs base S j)[id]?
  | 0, h, _ => by rw [Nat.le_zero.1 h]
  | k + 1, h, hS => by
    by_cases e : j = k + 1
    · rw [e]
    · have ih := Gm_skip_at (base := base) (S := S) (j := j) (id := id) k (by omega) fun i B h1 h2 => hS i B h1 (by omega)
      simp only [Gm]
      cases he : (effs k).st with
      | none => exact ih
      | some q =>
        obtain ⟨id', B⟩ := q
        dsimp only
        by_cases e' : id' = id
        · subst e'
          rw [hS k B (by omega) (by omega) he]
          exact ih
        · split
          · rw [List.getElem?_set_ne e']; exact ih
          · exact ih

theorem Gm_length {base : Mem} {S : Nat → Bool} : ∀ (k : Nat), (Gm effs base S k).length = base.length
  | 0 => rfl
  | k + 1 => by
    have ih := Gm_length (base := base) (S := S) k
    simp only [Gm]
    cases (effs k).st with
    | some q => obtain ⟨id, B⟩ := q; (try dsimp only); split <;> simp [ih]
    | none => exact ih

theorem Gm_keep {base : Mem} {S : Nat → Bool} {N : Nat} : ∀ (k : Nat), (∀ i id B, i < k → S i = true → (effs i).st = some (id, B) → id ≠ N) → (Gm effs base S k)[N]? = base[N]?
  | 0, _ => rfl
  | k + 1, h => by
    have ih := Gm_keep (base := base) (S := S) (N := N) k fun i id B hi => h i id B (by omega)
    simp only [Gm]
    cases he : (effs k).st with
    | some q =>
      obtain ⟨id, B⟩ := q
      try dsimp only
      split
      · rename_i hs; rw [List.getElem?_set_ne (h k id B (by omega) hs he)]; exact ih
      · exact ih
    | none => exact ih

theorem Al_prefix {j : Nat} : ∀ (k : Nat), j ≤ k → ∃ e, Al effs k = Al effs j ++ e
  | 0, h => ⟨[], by rw [Nat.le_zero.1 h]; simp⟩
  | k + 1, h => by
    by_cases e : j = k + 1
    · exact ⟨[], by rw [e]; simp⟩
    · obtain ⟨e, he⟩ := Al_prefix (j := j) k (by omega)
      simp only [Al]
      cases (effs k).al with
      | some B => exact ⟨e ++ [B], by simp [he]⟩
      | none => exact ⟨e, he⟩
end draw

section
variable {nt : Nat} {ops : Array Oper} {envs : Nat → Env} {mems : Nat → Mem} {vs : Nat → AV} {effs : Nat → Eff} {bs : Nat → Bool} {fs : List Foot}

abbrev AllLex (P : Program) (nt : Nat) (ops : Array Oper) (envs : Nat → Env) (mems : Nat → Mem) (vs : Nat → AV) (effs : Nat → Eff) (bs : Nat → Bool) (fs : List Foot) : Prop :=
  ∀ i o, ops[i]? = some o → LexAt P nt ops o (envs i) (envs (i + 1)) (mems i) (mems (i + 1)) (vs i) (effs i) (bs i) (fs.getD i (none, none))

theorem op_at {k : Nat} (h : k < ops.size) : ∃ o, ops[k]? = some o := ⟨ops[k], by simp [h]⟩

theorem envs_En (hl : AllLex P nt ops envs mems vs effs bs fs) : ∀ (k : Nat), k ≤ ops.size → ∀ t, look t (envs k) = look t (En ops (envs 0) vs (fun _ => true) k)
  | 0, _, _ => rfl
  | k + 1, h, t => by
    obtain ⟨o, ho⟩ := op_at (ops := ops) (k := k) (by omega)
    have ih := envs_En hl k (by omega) t
    rw [(hl k o ho).lk t]
    simp only [En, if_true, ho, Option.bind_some]
    cases hd : o.dst with
    | none => simpa using ih
    | some d =>
      simp only [look_cons, Option.some.injEq]
      split
      · rfl
      · exact ih

theorem mems_length (hl : AllLex P nt ops envs mems vs effs bs fs) : ∀ (k : Nat), k ≤ ops.size → (mems k).length = (mems 0).length + (Al effs k).length
  | 0, _ => by simp [Al]
  | k + 1, h => by
    obtain ⟨o, ho⟩ := op_at (ops := ops) (k := k) (by omega)
    have ih := mems_length hl k (by omega)
    rw [(hl k o ho).mm]
    simp only [Al]
    cases effs k with
    | alloc B => simp [Eff.on, ih]; omega
    | none => simpa [Eff.on] using ih
    | store id B => simpa [Eff.on, setNth_eq] using ih
    | move id B => simp [Eff.on, setNth_eq, ih]; omega

theorem mems_prefix (hl : AllLex P nt ops envs mems vs effs bs fs) : ∀ (k : Nat), k ≤ ops.size → ∀ (id : Nat) (B : Blk), (mems k)[id]? = some B →
    (Gm effs (mems 0 ++ Al effs ops.size) (fun _ => true) k)[id]? = some B
  | 0, _, id, B, h => by
    simp only [Gm]
    rw [List.getElem?_append_left (List.getElem?_eq_some_iff.1 h).1]; exact h
  | k + 1, hk, id, B, h => by
    obtain ⟨o, ho⟩ := op_at (ops := ops) (k := k) (by omega)
    have ih := mems_prefix hl k (by omega)
    have hlen := mems_length hl k (by omega)
    rw [(hl k o ho).mm] at h
    have hsl := (hl k o ho).stl
    -- the new block
    have hnew : ∀ B' : Blk, (effs k).al = some B' → (Gm effs (mems 0 ++ Al effs ops.size) (fun _ => true) k)[(mems k).length]? = some B' := by
      intro B' he
      rw [Gm_keep k fun i id B hi _ hs => ?_]
      · obtain ⟨e, hee⟩ := Al_prefix (effs := effs) (j := k + 1) ops.size hk
        simp only [Al, he] at hee
        rw [hee, hlen, List.getElem?_append_right (by omega), show (mems 0).length + (Al effs k).length - (mems 0).length = (Al effs k).length by omega]
        rw [List.append_assoc, List.getElem?_append_right (Nat.le_refl _), Nat.sub_self]
        simp
      · obtain ⟨oi, hoi⟩ := op_at (ops := ops) (k := i) (by omega)
        have h1 := (hl i oi hoi).stl id B hs
        have h2 := mems_length hl i (by omega)
        obtain ⟨e, hee⟩ := Al_prefix (effs := effs) (j := i) k (by omega)
        rw [hee, List.length_append] at hlen
        omega
    have hset : ∀ (id' : Nat) (B' : Blk), (effs k).st = some (id', B') → ((mems k).set id' B')[id]? = some B → ((Gm effs (mems 0 ++ Al effs ops.size) (fun _ => true) k).set id' B')[id]? = some B := by
      intro id' B' he h
      by_cases e : id' = id
      · subst e
        have hlt := hsl id' B' he
        rw [List.getElem?_set_self hlt] at h
        have : id' < (Gm effs (mems 0 ++ Al effs ops.size) (fun _ => true) k).length := (List.getElem?_eq_some_iff.1 (ih id' _ (List.getElem?_eq_getElem hlt))).1
        rw [List.getElem?_set_self this]; exact h
      · rw [List.getElem?_set_ne e] at h ⊢; exact ih id B h
    have hend : ∀ (m : Mem) (B' : Blk), m.length = (mems k).length → (m ++ [B'])[id]? = some B → m[id]? = some B ∨ (id = (mems k).length ∧ B' = B) := by
      intro m B' hm h
      rcases Nat.lt_or_ge id m.length with hlt | hge
      · rw [List.getElem?_append_left hlt] at h; exact .inl h
      · rw [List.getElem?_append_right hge] at h
        cases hd : id - m.length with
        | zero => rw [hd] at h; simp at h; exact .inr ⟨by omega, h⟩
        | succ n => rw [hd] at h; simp at h
    simp only [Gm]
    cases he : effs k with
    | none => rw [he] at h; simp only [Eff.on] at h; exact ih id B h
    | store id' B' =>
      rw [he] at h
      simp only [Eff.on, setNth_eq] at h
      simp only [Eff.st, if_true]
      exact hset id' B' (by rw [he]; rfl) h
    | alloc B' =>
      rw [he] at h
      simp only [Eff.on] at h
      simp only [Eff.st]
      rcases hend _ B' rfl h with h | ⟨rfl, rfl⟩
      · exact ih id B h
      · exact hnew B' (by rw [he]; rfl)
    | move id' B' =>
      rw [he] at h
      simp only [Eff.on, setNth_eq] at h
      simp only [Eff.st, if_true]
      rcases hend _ B' (by simp) h with h | ⟨rfl, rfl⟩
      · exact hset id' dead (by rw [he]; rfl) h
      · have hlt := hsl id' dead (by rw [he]; rfl)
        rw [List.getElem?_set_ne (by omega)]
        exact hnew B' (by rw [he]; rfl)

theorem mems_end (hl : AllLex P nt ops envs mems vs effs bs fs) : Gm effs (mems 0 ++ Al effs ops.size) (fun _ => true) ops.size = mems ops.size := by
  have hlen := mems_length hl ops.size (Nat.le_refl _)
  refine List.ext_getElem? fun id => ?_
  rcases Nat.lt_or_ge id (mems ops.size).length with h | h
  · rw [List.getElem?_eq_getElem h]
    exact mems_prefix hl ops.size (Nat.le_refl _) id _ (List.getElem?_eq_getElem h)
  · rw [List.getElem?_eq_none h, List.getElem?_eq_none (by rw [Gm_length, List.length_append]; omega)]

end
end Pw

namespace Pw
open Go Go.RowKit

variable {P : Program} {T : List (Nat × TE)} {ρ : Type}

section
variable {nt : Nat} {ops : Array Oper} {envs : Nat → Env} {mems : Nat → Mem} {vs : Nat → AV} {effs : Nat → Eff} {bs : Nat → Bool} {fs : List Foot}

theorem Eff.on_len {m : Mem} {e : Eff} {B : Blk} (h : e.al = some B) : (e.on m).length = m.length + 1 := by
  cases e with
  | none => cases h
  | store id B => cases h
  | alloc B => simp [Eff.on]
  | move id B => simp [Eff.on, setNth_eq]

/-- what stands after some operations of a drawn region -/
structure Inv (nt : Nat) (ops : Array Oper) (envs : Nat → Env) (mems : Nat → Mem) (vs : Nat → AV) (effs : Nat → Eff) (W : World) (Wr : Nat → Prop) (σ0 : Ren) (d0 : List Deferred) (S : Nat → Bool) (a : Act) (w : World) : Prop where
  closed : Closed ops S
  small : ∀ i, S i = true → i < ops.size
  rel : ∃ σ, Ext σ0 σ ∧ EnvR σ nt (En ops (envs 0) vs S ops.size) a ∧ St W Wr σ (Gm effs (mems 0 ++ Al effs ops.size) S ops.size) w ∧
    (∀ i p, σ i = some p → i < (mems 0).length ∨ ∃ k, S k = true ∧ (∃ B, (effs k).al = some B) ∧ i = (mems k).length) ∧
    (∀ k id B, S k = true → (effs k).st = some (id, B) → ∃ p, σ id = some p)
  defers : a.defers = d0

def ins (S : Nat → Bool) (i : Nat) : Nat → Bool := fun k => if k = i then true else S k
theorem ins_self (S : Nat → Bool) (i : Nat) : ins S i i = true := by simp [ins]
theorem ins_ne {S : Nat → Bool} {i k : Nat} (h : k ≠ i) : ins S i k = S k := by simp [ins, h]

theorem slotIn_iff {a b : Option Nat} : slotIn a b = true ↔ ∃ t, a = some t ∧ b = some t := by
  unfold slotIn
  cases a with
  | none => simp
  | some a =>
    cases b with
    | none => simp
    | some b =>
      simp only [Option.some.injEq, exists_eq_left']
      constructor
      · intro h; exact (Nat.eq_of_beq_eq_true h).symm
      · intro h; subst h; exact Nat.beq_refl _

theorem dstIn_iff {d : Option Nat} {l : List Nat} : dstIn d l = true ↔ ∃ t, d = some t ∧ t ∈ l := by
  unfold dstIn
  cases d with
  | none => simp
  | some d =>
    simp only [List.any_eq_true, Option.some.injEq, exists_eq_left']
    constructor
    · rintro ⟨t, ht, h⟩; rw [Nat.eq_of_beq_eq_true h]; exact ht
    · intro h; exact ⟨d, h, Nat.beq_refl _⟩

theorem Inv.step (hreg : regOk ops fs = true) (hl : AllLex P nt ops envs mems vs effs bs fs) {W : World} {Wr : Nat → Prop} {σ0 : Ren} {d0 : List Deferred} {S : Nat → Bool} {a : Act} {w : World} {Q' : Exit → Act → World → Prop}
    (hI : Inv nt ops envs mems vs effs W Wr σ0 d0 S a w) {i : Nat} {o : Oper} (ho : ops[i]? = some o) (hi : S i = false) (hready : ∀ e ∈ o.after.toList, Region.binds .any e = true → S e.on = true) :
    wpOp P ops Q' i (fun a' w' => Inv nt ops envs mems vs effs W Wr σ0 d0 (ins S i) a' w') a w := by
  obtain ⟨hcl, hsm, ⟨σ, hσ0, henv, hst, hdom, hsto⟩, hdef⟩ := hI
  have hil : i < ops.size := (Array.getElem?_eq_some_iff.1 ho).1
  have hL := hl i o ho
  -- operations that conflict stand in order
  have hord : ∀ k x, ops[k]? = some x → (conf ops (x, fs.getD k (none, none)) (o, fs.getD i (none, none)) = true ∧ conf ops (o, fs.getD i (none, none)) (x, fs.getD k (none, none)) = true) → k ≠ i → S k = decide (k < i) := by
    intro k x hx hc hki
    rcases Nat.lt_or_gt_of_ne hki with h | h
    · rw [decide_eq_true h]; exact regOk_order hreg hcl h hx ho hc.1 (.inr hready)
    · rw [decide_eq_false (by omega)]
      cases hk : S k with
      | false => rfl
      | true =>
        have := regOk_order hreg hcl h ho hx hc.2 (.inl hk)
        rw [hi] at this; cases this
  have hord' : ∀ k, k < ops.size → (∀ x, ops[k]? = some x → k ≠ i → conf ops (x, fs.getD k (none, none)) (o, fs.getD i (none, none)) = true ∧ conf ops (o, fs.getD i (none, none)) (x, fs.getD k (none, none)) = true) → S k = decide (k < i) := by
    intro k hk h
    obtain ⟨x, hx⟩ := op_at (ops := ops) hk
    by_cases e : k = i
    · subst e; rw [hi, decide_eq_false (by omega)]
    · exact hord k x hx (h x hx e) e
  -- the slots that the operation names hold what they hold in the text's order
  have hslot : ∀ t, (∀ k x, ops[k]? = some x → x.dst = some t → k ≠ i → conf ops (x, fs.getD k (none, none)) (o, fs.getD i (none, none)) = true ∧ conf ops (o, fs.getD i (none, none)) (x, fs.getD k (none, none)) = true) → look t (En ops (envs 0) vs S ops.size) = look t (envs i) := by
    intro t ht
    rw [envs_En hl i (by omega) t]
    rw [En_congr (S' := fun k => decide (k < i)) ops.size (fun k hk hd => hord' k hk fun x hx hki => ht k x hx (by rw [hx] at hd; simpa using hd) hki)]
    rw [En_skip (S := fun k => decide (k < i)) (j := i) ops.size (by omega) (fun k h1 _ => decide_eq_false (by omega))]
    exact En_congr i fun k hk _ => decide_eq_true hk
  have hnamed : ∀ t, t ∈ named o → look t (En ops (envs 0) vs S ops.size) = look t (envs i) := fun t ht => hslot t fun k x hx hd _ => by
    constructor <;> simp only [conf, Bool.or_eq_true]
    · exact .inl (.inl (.inl (.inl (.inl (dstIn_iff.2 ⟨t, hd, ht⟩)))))
    · exact .inl (.inl (.inl (.inl (.inr (dstIn_iff.2 ⟨t, hd, ht⟩)))))
  have hgd : ∀ d, gslot ops o = some d → look d (En ops (envs 0) vs S ops.size) = look d (envs i) := fun d hd => hslot d fun k x hx hxd _ => by
    constructor <;> simp only [conf, Bool.or_eq_true]
    · exact .inl (.inl (.inl (.inr (slotIn_iff.2 ⟨d, hxd, hd⟩))))
    · exact .inl (.inl (.inr (slotIn_iff.2 ⟨d, hxd, hd⟩)))
  have hev : ∀ x ∈ o.op.operands.toList, evO (En ops (envs 0) vs S ops.size) x = evO (envs i) x := by
    intro x hx
    cases x with
    | tmp t => exact hnamed t (by simp only [named, List.mem_filterMap]; exact ⟨.tmp t, hx, rfl⟩)
    | const v => rfl
    | global g => rfl
    | func f => rfl
  have hwant := hL.want σ a fun d hd => by rw [← hgd d hd]; exact henv.slot d
  -- the set goes on
  have hcl' : Closed ops (ins S i) := by
    intro k x hx hk e he hb
    by_cases ek : k = i
    · subst ek
      rw [ho] at hx; cases hx
      have := hready e he hb
      by_cases e2 : e.on = k
      · rw [e2]; exact ins_self _ _
      · rw [ins_ne e2]; exact this
    · rw [ins_ne ek] at hk
      have := hcl k x hx hk e he hb
      by_cases e2 : e.on = i
      · rw [e2]; exact ins_self _ _
      · rw [ins_ne e2]; exact this
  have hsm' : ∀ k, ins S i k = true → k < ops.size := by
    intro k hk
    by_cases ek : k = i
    · subst ek; exact hil
    · rw [ins_ne ek] at hk; exact hsm k hk
  -- the slots behind it
  have hlook' : ∀ t, look t (En ops (envs 0) vs (ins S i) ops.size) = if o.dst = some t then vs i else look t (En ops (envs 0) vs S ops.size) := by
    intro t
    by_cases ht : o.dst = some t
    · rw [if_pos ht]
      have h1 : look t (En ops (envs 0) vs (ins S i) ops.size) = look t (envs (i + 1)) := by
        rw [envs_En hl (i + 1) (by omega) t]
        rw [En_congr (S' := fun k => decide (k < i + 1)) ops.size (fun k hk hd => ?_)]
        · rw [En_skip (S := fun k => decide (k < i + 1)) (j := i + 1) ops.size (by omega) (fun k h1 _ => decide_eq_false (by omega))]
          exact En_congr (i + 1) fun k hk _ => decide_eq_true hk
        · by_cases ek : k = i
          · subst ek; rw [ins_self, decide_eq_true (by omega)]
          · rw [ins_ne ek, hord' k hk fun x hx _ => ?_]
            · by_cases h : k < i
              · rw [decide_eq_true h, decide_eq_true (by omega)]
              · rw [decide_eq_false h, decide_eq_false (by omega)]
            · have hxd : x.dst = some t := by rw [hx] at hd; simpa using hd
              constructor <;> simp only [conf, Bool.or_eq_true]
              · exact .inl (.inr (slotIn_iff.2 ⟨t, hxd, ht⟩))
              · exact .inl (.inr (slotIn_iff.2 ⟨t, ht, hxd⟩))
      rw [h1, hL.lk t, if_pos ht]
    · rw [if_neg ht]
      refine En_congr ops.size fun k hk hd => ?_
      by_cases ek : k = i
      · subst ek; rw [ho] at hd; exact absurd (by simpa using hd) ht
      · exact ins_ne ek
  have hput : ∀ (σ' : Ren) (rv : Value), Ext σ σ' → R σ' (vs i) rv → EnvR σ' nt (En ops (envs 0) vs (ins S i) ops.size) (a.put o.dst rv) := by
    intro σ' rv he hv
    cases hd : o.dst with
    | none =>
      have : ∀ t, look t (En ops (envs 0) vs (ins S i) ops.size) = look t (En ops (envs 0) vs S ops.size) := fun t => by rw [hlook' t, hd]; simp
      exact (henv.ext he).look_eq this
    | some d =>
      refine ((henv.ext he).put (hL.lt d hd) hv).look_eq fun t => ?_
      rw [hlook' t, hd, look_cons]
      simp
  -- stores
  have hmemS : ∀ j, (∀ l, (fs.getD i (none, none)).1 = some l → j ∈ l) → ∀ k B, (effs k).st = some (j, B) → k < ops.size → S k = decide (k < i) := by
    intro j hj k B he hk
    refine hord' k hk fun x hx _ => ?_
    have hf := (hl k x hx).fst j B he
    have hh := hits_of (g := fs.getD i (none, none)) hf.1 hj
    constructor <;> simp only [conf, Bool.or_eq_true]
    · exact .inr (.inl hh)
    · exact .inr (.inr hh)
  have hGi : ∀ j, (∀ l, (fs.getD i (none, none)).1 = some l → j ∈ l) → (Gm effs (mems 0 ++ Al effs ops.size) S ops.size)[j]? = (Gm effs (mems 0 ++ Al effs ops.size) (fun _ => true) i)[j]? := by
    intro j hj
    rw [Gm_at (S' := fun k => decide (k < i)) ops.size (fun k B hk he => hmemS j hj k B he hk)]
    rw [Gm_skip_at (S := fun k => decide (k < i)) (j := i) ops.size (by omega) (fun k B h1 _ _ => decide_eq_false (by omega))]
    exact Gm_at i fun k B hk _ => decide_eq_true hk
  -- where nothing is stored
  have hGsame : (∀ id B, (effs i).st ≠ some (id, B)) → Gm effs (mems 0 ++ Al effs ops.size) (ins S i) ops.size = Gm effs (mems 0 ++ Al effs ops.size) S ops.size := by
    intro hns
    refine Gm_congr ops.size fun k id B _ he => ins_ne fun e => ?_
    subst e; exact hns id B he
  unfold wpOp
  simp only [ho]
  cases hb : bs i with
  | false =>
    rw [hb] at hwant
    obtain ⟨hv, heff⟩ := hL.skip hb
    simp only [hwant, Bool.false_eq_true, if_false]
    refine ⟨hcl', hsm', ⟨σ, hσ0, hput σ undef (.refl σ) (by rw [hv]; exact .tup _ _ .nil), ?_, fun j p hj => ?_, fun k id B hk he => ?_⟩, by rw [Act.put_defers']; exact hdef⟩
    · rw [hGsame (by rw [heff]; simp)]; exact hst
    · rcases hdom j p hj with h | ⟨k, h1, h2⟩
      · exact .inl h
      · refine .inr ⟨k, ?_, h2⟩
        by_cases e : k = i
        · subst e; exact ins_self _ _
        · rw [ins_ne e]; exact h1
    · by_cases e : k = i
      · subst e; rw [heff] at he; cases he
      · rw [ins_ne e] at hk; exact hsto k id B hk he
  | true =>
    rw [hb] at hwant
    simp only [hwant, if_true]
    -- a new block lies nowhere yet
    have hnew : ∀ B, (effs i).al = some B → σ (mems i).length = none := by
      intro B he
      have hli := mems_length hl i (by omega)
      have hmono : ∀ k k', k ≤ k' → k' ≤ ops.size → (mems k).length ≤ (mems k').length := by
        intro k k' h1 h2
        obtain ⟨e, hee⟩ := Al_prefix (effs := effs) (j := k) k' h1
        rw [mems_length hl k (by omega), mems_length hl k' h2, hee, List.length_append]; omega
      have hgrow : ∀ k, k < ops.size → (∃ B, (effs k).al = some B) → (mems k).length < (mems (k + 1)).length := by
        rintro k hk ⟨B', he'⟩
        obtain ⟨x, hx⟩ := op_at (ops := ops) hk
        rw [(hl k x hx).mm, Eff.on_len he']; omega
      cases hn : σ (mems i).length with
      | none => rfl
      | some p =>
        rcases hdom _ p hn with h | ⟨k, h1, h2, h3⟩
        · omega
        · have hki : k ≠ i := by intro e; subst e; rw [hi] at h1; cases h1
          have hks := hsm k h1
          rcases Nat.lt_or_gt_of_ne hki with h | h
          · have g1 := hgrow k hks h2
            have g2 := hmono (k + 1) i h (by omega)
            omega
          · have g1 := hgrow i hil ⟨B, he⟩
            have g2 := hmono (i + 1) k h (by omega)
            omega
    obtain ⟨hsid, hop⟩ := hL.does hb W Wr σ (Gm effs (mems 0 ++ Al effs ops.size) S ops.size) w a.eval hst
      (fun j B hfp hj => by rw [hGi j (fun l e => hfp l (by rw [← hL.fp hb]; exact e))]; exact mems_prefix hl i (by omega) j B hj)
      (fun B he => by
        have hn := hnew B he
        refine ⟨?_, hn⟩
        rw [Gm_keep ops.size fun k id B' _ hk hs => ?_]
        · obtain ⟨e, hee⟩ := Al_prefix (effs := effs) (j := i + 1) ops.size hil
          simp only [Al, he] at hee
          rw [hee, mems_length hl i (by omega), List.getElem?_append_right (by omega), show (mems 0).length + (Al effs i).length - (mems 0).length = (Al effs i).length by omega]
          rw [List.append_assoc, List.getElem?_append_right (Nat.le_refl _), Nat.sub_self]
          simp
        · intro e
          obtain ⟨p, hp⟩ := hsto k id B' hk hs
          rw [e, hn] at hp; cases hp)
      (fun x hx => by rw [← hev x hx]; exact henv.eval x)
    refine .inl (OpTo.wp hop fun rv w' ⟨σ', e1, e2, e3, e4⟩ => ?_)
    refine ⟨hcl', hsm', ⟨σ', hσ0.trans e1, hput σ' rv e1 e2, ?_, fun j p hj => ?_, fun k id B hk he => ?_⟩, by rw [Act.put_defers']; exact hdef⟩
    · have hGset : ∀ (id : Nat) (B : Blk), (effs i).st = some (id, B) → Gm effs (mems 0 ++ Al effs ops.size) (ins S i) ops.size = (Gm effs (mems 0 ++ Al effs ops.size) S ops.size).set id B := by
        intro id B heff
        have hfi := hL.fst id B heff
        refine List.ext_getElem? fun j => ?_
        by_cases ej : j = id
        · subst ej
          rw [Gm_at (S' := fun k => decide (k < i + 1)) ops.size (fun k B' hk he => ?_)]
          · rw [Gm_skip_at (S := fun k => decide (k < i + 1)) (j := i + 1) ops.size (by omega) (fun k B h1 _ _ => decide_eq_false (by omega))]
            simp only [Gm, heff, show decide (i < i + 1) = true from decide_eq_true (by omega), if_true]
            simp only [List.getElem?_set, if_true]
            rw [Gm_length, Gm_length]
          · by_cases ek : k = i
            · subst ek; rw [ins_self, decide_eq_true (by omega)]
            · rw [ins_ne ek, hmemS j hfi.2 k B' he hk]
              by_cases h : k < i
              · rw [decide_eq_true h, decide_eq_true (by omega)]
              · rw [decide_eq_false h, decide_eq_false (by omega)]
        · rw [List.getElem?_set_ne (Ne.symm ej)]
          refine Gm_at ops.size fun k B' _ he => ins_ne fun e => ?_
          subst e; rw [heff] at he; cases he; exact ej rfl
      cases heff : effs i with
      | none => rw [hGsame (by rw [heff]; simp)]; rw [heff] at e3; exact e3
      | alloc B => rw [hGsame (by rw [heff]; simp)]; rw [heff] at e3; exact e3
      | store id B => rw [hGset id B (by rw [heff]; rfl)]; rw [heff] at e3; exact e3
      | move id B => rw [hGset id dead (by rw [heff]; rfl)]; rw [heff] at e3; exact e3
    · rcases e4 j p hj with h | ⟨h1, h2⟩
      · rcases hdom j p h with h | ⟨k, h1, h2⟩
        · exact .inl h
        · refine .inr ⟨k, ?_, h2⟩
          by_cases e : k = i
          · subst e; exact ins_self _ _
          · rw [ins_ne e]; exact h1
      · exact .inr ⟨i, ins_self _ _, h1, h2⟩
    · by_cases e : k = i
      · subst e
        obtain ⟨p, hp⟩ := hsid id B he
        exact ⟨p, e1 _ _ hp⟩
      · rw [ins_ne e] at hk
        obtain ⟨p, hp⟩ := hsto k id B hk he
        exact ⟨p, e1 _ _ hp⟩


theorem count_set {l : List Bool} {i : Nat} (h : l[i]? = some false) : (l.set i true).count false + 1 = l.count false := by
  induction l generalizing i with
  | nil => simp at h
  | cons b l ih =>
    cases i with
    | zero => simp only [List.getElem?_cons_zero, Option.some.injEq] at h; subst h; simp
    | succ i =>
      have := ih (i := i) (by simpa using h)
      cases b <;> simp <;> omega

def lst (listed : Array Bool) : Nat → Bool := fun i => listed.getD i false

theorem all_listed {ops : Array Oper} {listed : Array Bool} (hsz : listed.size = ops.size) (hedge : edgesOk ops.toList 0 = true) (hr : Region.ready .any ops listed = []) : ∀ i, i < ops.size → lst listed i = true := by
  have hed : ∀ (l : List Oper) (k : Nat), edgesOk l k = true → ∀ j o, l[j]? = some o → ∀ e ∈ o.after.toList, Region.binds .any e = true → e.on < k + j := by
    intro l
    induction l with
    | nil => intro k _ j o h; simp at h
    | cons x l ih =>
      intro k h j o ho e he hb
      unfold edgesOk at h
      simp only [Bool.and_eq_true, List.all_eq_true, Bool.or_eq_true, Bool.not_eq_true'] at h
      cases j with
      | zero =>
        simp only [List.getElem?_cons_zero, Option.some.injEq] at ho
        subst ho
        rcases h.1 e he with h1 | h1
        · rw [hb] at h1; cases h1
        · have := Nat.le_of_ble_eq_true h1; omega
      | succ j =>
        have := ih (k + 1) h.2 j o (by simpa using ho) e he hb
        omega
  intro i
  induction i using Nat.strongRecOn with
  | _ i ih =>
    intro hi
    cases hl : lst listed i with
    | true => rfl
    | false =>
      obtain ⟨o, ho⟩ := op_at (ops := ops) hi
      have hmem : i ∈ Region.ready .any ops listed := by
        refine mem_ready.2 ⟨?_, o, ho, fun e he hb => ?_⟩
        · simp only [lst] at hl
          simp [hsz, hi] at hl ⊢; exact hl
        · have := hed ops.toList 0 hedge i o (by simpa using ho) e (by simpa using he) hb
          exact ih e.on (by omega) (by omega)
      rw [hr] at hmem; cases hmem

theorem wpAny_inv (hreg : regOk ops fs = true) (hl : AllLex P nt ops envs mems vs effs bs fs) {W : World} {Wr : Nat → Prop} {σ0 : Ren} {d0 : List Deferred} {Q : Exit → Act → World → Prop}
    (hq : ∀ a w, Inv nt ops envs mems vs effs W Wr σ0 d0 (fun i => decide (i < ops.size)) a w → Q .normal a w) :
    ∀ (fuel : Nat) (listed : Array Bool) (a : Act) (w : World), listed.size = ops.size → listed.toList.count false ≤ fuel → Inv nt ops envs mems vs effs W Wr σ0 d0 (lst listed) a w →
      wpAny P .any ops Q fuel listed a w := by
  have hedge : edgesOk ops.toList 0 = true := by
    simp only [regOk, Bool.and_eq_true] at hreg; exact hreg.1
  have hend : ∀ (listed : Array Bool) (a : Act) (w : World), listed.size = ops.size → Region.ready .any ops listed = [] → Inv nt ops envs mems vs effs W Wr σ0 d0 (lst listed) a w → Q .normal a w := by
    intro listed a w hsz hr hI
    refine hq a w ?_
    have : lst listed = fun i => decide (i < ops.size) := by
      funext i
      by_cases h : i < ops.size
      · rw [decide_eq_true h]; exact all_listed hsz hedge hr i h
      · rw [decide_eq_false h]
        cases hc : lst listed i with
        | false => rfl
        | true => exact absurd (hI.small i hc) h
    rw [← this]; exact hI
  intro fuel
  induction fuel with
  | zero =>
    intro listed a w hsz hcnt hI
    have hr : Region.ready .any ops listed = [] := by
      cases hrr : Region.ready .any ops listed with
      | nil => rfl
      | cons i r =>
        have hm : i ∈ Region.ready .any ops listed := by rw [hrr]; simp
        obtain ⟨h1, o, ho, -⟩ := mem_ready.1 hm
        have hi : i < listed.size := by rw [hsz]; exact (Array.getElem?_eq_some_iff.1 ho).1
        have : false ∈ listed.toList := by
          simp [hi] at h1
          rw [← h1]; simp
        have := List.count_pos_iff.2 this
        omega
    exact ⟨hr, hend listed a w hsz hr hI⟩
  | succ fuel ih =>
    intro listed a w hsz hcnt hI
    refine ⟨fun hr => hend listed a w hsz hr hI, fun i hi => ?_⟩
    obtain ⟨h1, o, ho, hall⟩ := mem_ready.1 hi
    have hil : i < listed.size := by rw [hsz]; exact (Array.getElem?_eq_some_iff.1 ho).1
    have hif : lst listed i = false := by simp [lst, hil] at h1 ⊢; exact h1
    have hset : lst (listed.setIfInBounds i true) = ins (lst listed) i := by
      funext k
      by_cases e : k = i
      · subst e; rw [ins_self]; simp [lst, hil]
      · rw [ins_ne e]; simp only [lst, Array.getD_eq_getD_getElem?]; rw [Array.getElem?_setIfInBounds_ne (Ne.symm e)]
    refine wpOp_mono (fun a' w' h => ?_) (hI.step hreg hl ho hif (fun e he hb => hall e (by simpa using he) hb))
    refine ih _ a' w' (by simpa using hsz) ?_ (by rw [hset]; exact h)
    have hg : listed.toList[i]? = some false := by
      simp [hil] at h1
      simp [hil, h1]
    have := count_set hg
    rw [Array.toList_setIfInBounds]
    omega

/-- **a region whose order is drawn does what the text's order does** -/
theorem drawK_sound (hmix : P.follows .mixedOrders = true) (hT : TabOK P T) {O : Quiet} (hO : QuietOK P O) {nt : Nat} {ops : Array Oper} {env : Env} {mem : Mem} {K : Env → Mem → Option ρ} {r : ρ}
    (h : (drawK T O nt ops ops.toList env mem fun env mem fs => bif regOk ops fs then K env mem else none) = some r) :
    ∃ env' mem', K env' mem' = some r ∧ ∀ (W : World) (Wr : Nat → Prop) (σ : Ren) (a : Act) (w : World) (Q : Exit → Act → World → Prop) (id : Nat), FrR W Wr nt σ env mem a w →
      (∀ σ' a' w', Ext σ σ' → FrR W Wr nt σ' env' mem' a' w' → a'.defers = a.defers → Q .normal a' w') → (Code.region id ops true).wp P Q a w := by
  obtain ⟨envs, mems, vs, effs, bs, fs, e1, e2, e3, e4⟩ := drawK_lex hT hO ops.toList 0 env mem _ r h
  obtain ⟨hreg, e3⟩ := bif_some e3
  have hlen : ops.toList.length = ops.size := by simp
  rw [hlen, Nat.zero_add] at e3
  have hl : AllLex P nt ops envs mems vs effs bs fs := fun i o ho => by
    have := e4 i o (by simpa using ho)
    simpa using this
  refine ⟨_, _, e3, fun W Wr σ a w Q id hf hq => ?_⟩
  refine wp_region_any hmix (wpAny_inv hreg hl (W := W) (Wr := Wr) (σ0 := σ) (d0 := a.defers) (fun a' w' hI => ?_) ops.size _ a _ (by simp) (by simp) ?_)
  · obtain ⟨hcl, hsm, ⟨σ', h1, h2, h3, h4, h5⟩, h6⟩ := hI
    refine hq σ' a' w' h1 ⟨⟨?_, fun i p hi => ?_⟩, h2.look_eq fun t => ?_⟩ h6
    · rw [Gm_congr (S' := fun _ => true) ops.size (fun i id B hi _ => decide_eq_true hi), mems_end hl] at h3
      exact h3
    · have hle : ∀ k k', k ≤ k' → k' ≤ ops.size → (mems k).length ≤ (mems k').length := by
        intro k k' h1 h2
        obtain ⟨e, hee⟩ := Al_prefix (effs := effs) (j := k) k' h1
        rw [mems_length hl k (by omega), mems_length hl k' h2, hee, List.length_append]; omega
      rcases h4 i p hi with h | ⟨k, g1, ⟨B, g2⟩, g3⟩
      · exact Nat.lt_of_lt_of_le h (hle 0 _ (by omega) (by omega))
      · have hk : k < ops.size := by simpa using g1
        obtain ⟨x, hx⟩ := op_at (ops := ops) hk
        have : (mems (k + 1)).length = (mems k).length + 1 := by rw [(hl k x hx).mm, Eff.on_len g2]
        have := hle (k + 1) ops.size hk (by omega)
        omega
    · rw [envs_En hl ops.size (by omega) t]
      exact En_congr ops.size fun i hi _ => (decide_eq_true hi).symm
  · have hS : lst (Array.replicate ops.size false) = fun _ => false := by
      funext i
      simp only [lst, Array.getD_eq_getD_getElem?, Array.getElem?_replicate]
      split <;> rfl
    rw [hS]
    refine ⟨fun i o _ h => (by cases h), fun i h => (by cases h), ⟨σ, .refl σ, ?_, ?_, fun i p hi => .inl (by rw [e2]; exact hf.st.2 i p hi), fun k id B h => (by cases h)⟩, rfl⟩
    · rw [En_skip (S := fun _ => false) (j := 0) ops.size (by omega) (fun _ _ _ => rfl)]
      simp only [En]; rw [e1]; exact hf.env
    · rw [Gm_skip (S := fun _ => false) (j := 0) ops.size (by omega) (fun _ _ _ _ _ _ => rfl)]
      simp only [Gm]
      rw [e2]
      exact (hf.st.1.more hf.st.2 _).drawn _

end
end Pw

namespace Pw
open Go Go.RowKit

variable {P : Program} {T : List (Nat × TE)} {ρ : Type}

/-! ### code -/

inductive Ex where
  | normal
  | exit (id : Nat)
  | ret

def Ex.toExit : Ex → Exit
  | .normal => .normal
  | .exit id => .exit id
  | .ret => .ret

/-- the slots that outlive a region -/
def prune (env : Env) : List Nat → Env
  | [] => []
  | t :: l => (t, look t env) :: prune env l

theorem look_prune (env : Env) : ∀ (l : List Nat) (t : Nat), look t (prune env l) = look t env ∨ look t (prune env l) = .unk
  | [], t => .inr rfl
  | s :: l, t => by
    simp only [prune, look_cons]
    by_cases e : s = t
    · subst e; rw [if_pos rfl]; exact .inl rfl
    · rw [if_neg e]; exact look_prune env l t

theorem EnvR.prune {σ : Ren} {nt : Nat} {env : Env} {a : Act} (h : EnvR σ nt env a) (l : List Nat) : EnvR σ nt (prune env l) a :=
  ⟨h.size, fun t => by
    rcases look_prune env l t with e | e
    · rw [e]; exact h.slot t
    · rw [e]; exact .unk _⟩

structure Cx where
  T : List (Nat × TE)
  O : Quiet
  M : Loud

structure CxOK (P : Program) (X : Cx) : Prop where
  mix : P.follows .mixedOrders = true
  tab : TabOK P X.T
  quiet : QuietOK P X.O
  loud : LoudOK P X.M

/-- what is known of loops: how the evaluation goes on behind one -/
abbrev LoopFn := Env → Mem → ∀ {ρ : Type}, (Ex → Env → Mem → Option ρ) → Option ρ
abbrev Loops := List (Nat × LoopFn)

/-- the number of the first region of a piece of code -/
def loopKey : Code → Nat
  | .region id _ _ => id
  | .seq a _ => loopKey a
  | .block _ b => loopKey b
  | .loop b => loopKey b
  | .cond _ a _ => loopKey a
  | .scope b => loopKey b
  | _ => 0

def findL : Loops → Nat → Option LoopFn
  | [], _ => none
  | (k, g) :: r, n => bif Nat.beq k n then some g else findL r n

/-- the bodies of the loops of a piece of code -/
def loopsOf : Code → List Code
  | .seq a b => loopsOf a ++ loopsOf b
  | .cond _ a b => loopsOf a ++ loopsOf b
  | .block _ b => loopsOf b
  | .loop b => b :: loopsOf b
  | _ => []

def codeK (X : Cx) (L : Loops) (nt : Nat) (keep : List Nat) : Nat → Code → Env → Mem → (Ex → Env → Mem → Option ρ) → Option ρ
  | 0, _, _, _, _ => none
  | n + 1, c, env, mem, K => match c with
    | .skip => K .normal env mem
    | .label _ => K .normal env mem
    | .region _ ops draw => bif draw then (drawK X.T X.O nt ops ops.toList env mem fun env mem fs => bif regOk ops fs then K .normal (prune env keep) mem else none)
        else seqK X.T X.O X.M nt ops ops.toList env mem fun env mem => K .normal (prune env keep) mem
    | .seq x y => codeK X L nt keep n x env mem fun e env mem => match e with
      | .normal => codeK X L nt keep n y env mem K
      | e => K e env mem
    | .cond c x y => match evO env c with
      | .bool b => bif b then codeK X L nt keep n x env mem K else codeK X L nt keep n y env mem K
      | _ => none
    | .block id body => codeK X L nt keep n body env mem fun e env mem => match e with
      | .exit j => bif Nat.beq j id then K .normal env mem else K (.exit j) env mem
      | e => K e env mem
    | .loop body => match findL L (loopKey body) with
      | some g => g env mem K
      | none => codeK X L nt keep n body env mem fun e env mem => match e with
        | .normal => codeK X L nt keep n (.loop body) env mem K
        | e => K e env mem
    | .exit id => K (.exit id) env mem
    | .ret => K .ret env mem
    | _ => none

/-- how a piece of code goes on -/
def Goes (nt : Nat) (env : Env) (mem : Mem) (e : Ex) (env' : Env) (mem' : Mem) (wp : (Exit → Act → World → Prop) → Act → World → Prop) : Prop :=
  ∀ (W : World) (Wr : Nat → Prop) (σ : Ren) (a : Act) (w : World) (Q : Exit → Act → World → Prop), FrR W Wr nt σ env mem a w →
    (∀ σ' a' w', Ext σ σ' → FrR W Wr nt σ' env' mem' a' w' → a'.defers = a.defers → Q e.toExit a' w') → wp Q a w

theorem Goes.trans {nt : Nat} {env env1 env2 : Env} {mem mem1 mem2 : Mem} {e1 e2 : Ex} {wp1 wp2 : (Exit → Act → World → Prop) → Act → World → Prop} {wp : (Exit → Act → World → Prop) → Act → World → Prop}
    (h1 : Goes nt env mem e1 env1 mem1 wp1) (h2 : Goes nt env1 mem1 e2 env2 mem2 wp2) (f : (Exit → Act → World → Prop) → Exit → Act → World → Prop)
    (hf : ∀ Q a w, wp2 Q a w → f Q e1.toExit a w) (hw : ∀ Q a w, wp1 (f Q) a w → wp Q a w) : Goes nt env mem e2 env2 mem2 wp := by
  intro W Wr σ a w Q hfr hq
  refine hw Q a w (h1 W Wr σ a w (f Q) hfr fun σ' a' w' he hfr' hd => hf Q a' w' (h2 W Wr σ' a' w' Q hfr' fun σ'' a'' w'' he' hfr'' hd' => ?_))
  exact hq σ'' a'' w'' (he.trans he') hfr'' (hd'.trans hd)

/-- a known loop -/
def LoopAt (P : Program) (nt : Nat) (body : Code) (g : LoopFn) : Prop :=
  ∀ (env : Env) (mem : Mem) (ρ : Type) (K : Ex → Env → Mem → Option ρ) (r : ρ), g env mem K = some r →
    ∃ e env' mem', K e env' mem' = some r ∧ ∃ m, Goes nt env mem e env' mem' (fun Q a w => Code.rounds P body Q m a w)

def LoopsOK (P : Program) (nt : Nat) (L : Loops) (c : Code) : Prop := ∀ body ∈ loopsOf c, ∀ g, findL L (loopKey body) = some g → LoopAt P nt body g

theorem LoopsOK.nil {nt : Nat} {c : Code} : LoopsOK P nt [] c := fun _ _ g h => by simp [findL] at h

theorem codeK_sound {X : Cx} (hX : CxOK P X) {L : Loops} {nt : Nat} {keep : List Nat} : ∀ (n : Nat) (c : Code) (_hL : LoopsOK P nt L c) (env : Env) (mem : Mem) (K : Ex → Env → Mem → Option ρ) (r : ρ), codeK X L nt keep n c env mem K = some r →
    ∃ e env' mem', K e env' mem' = some r ∧ Goes nt env mem e env' mem' (fun Q a w => c.wp P Q a w) ∧
      (∀ body, c = .loop body → ∃ m, Goes nt env mem e env' mem' (fun Q a w => Code.rounds P body Q m a w))
  | 0, _, _, _, _, _, _, h => by simp [codeK] at h
  | n + 1, c, hL, env, mem, K, r, h => by
    have ih := fun c hL env mem K r h => codeK_sound hX (L := L) (nt := nt) (keep := keep) n c hL env mem K r h
    cases c with
    | skip => exact ⟨.normal, env, mem, h, fun W Wr σ a w Q hf hq => wp_skip (hq σ a w (.refl σ) hf rfl), by simp⟩
    | label l => exact ⟨.normal, env, mem, h, fun W Wr σ a w Q hf hq => wp_label (hq σ a w (.refl σ) hf rfl), by simp⟩
    | exit id => exact ⟨.exit id, env, mem, h, fun W Wr σ a w Q hf hq => wp_exit (hq σ a w (.refl σ) hf rfl), by simp⟩
    | ret => exact ⟨.ret, env, mem, h, fun W Wr σ a w Q hf hq => wp_ret (hq σ a w (.refl σ) hf rfl), by simp⟩
    | region id ops draw =>
      simp only [codeK] at h
      cases draw with
      | true =>
        simp only [cond_true] at h
        obtain ⟨env', mem', h, hs⟩ := drawK_sound hX.mix hX.tab hX.quiet h
        refine ⟨.normal, _, mem', h, fun W Wr σ a w Q hf hq => hs W Wr σ a w Q id hf fun σ' a' w' he hf' hd => ?_, by simp⟩
        exact hq σ' a' w' he ⟨hf'.st, hf'.env.prune _⟩ hd
      | false =>
        simp only [cond_false] at h
        obtain ⟨env', mem', h, hs⟩ := seqK_sound hX.tab hX.quiet hX.loud ops.toList 0 env mem _ r (fun j => by simp) h
        refine ⟨.normal, _, mem', h, fun W Wr σ a w Q hf hq => ?_, by simp⟩
        refine wp_region ?_
        have := hs W Wr σ a w Q hf fun σ' a' w' he hf' hd => hq σ' a' w' he ⟨hf'.st, hf'.env.prune _⟩ hd
        rw [List.range_eq_range']
        simpa using this
    | seq x y =>
      simp only [codeK] at h
      obtain ⟨e1, env1, mem1, h, hg, -⟩ := ih x (fun b hb => hL b (by simp [loopsOf, hb])) env mem _ r h
      cases e1 with
      | normal =>
        obtain ⟨e2, env2, mem2, h, hg2, -⟩ := ih y (fun b hb => hL b (by simp [loopsOf, hb])) env1 mem1 K r h
        exact ⟨e2, env2, mem2, h, hg.trans hg2 (fun Q => Exit.then (y.wp P Q) Q) (fun Q a w h => h) (fun Q a w h => wp_seq h), by simp⟩
      | exit id =>
        exact ⟨.exit id, env1, mem1, h, fun W Wr σ a w Q hf hq => wp_seq (hg W Wr σ a w _ hf fun σ' a' w' he hf' hd => hq σ' a' w' he hf' hd), by simp⟩
      | ret =>
        exact ⟨.ret, env1, mem1, h, fun W Wr σ a w Q hf hq => wp_seq (hg W Wr σ a w _ hf fun σ' a' w' he hf' hd => hq σ' a' w' he hf' hd), by simp⟩
    | cond c x y =>
      simp only [codeK] at h
      split at h
      · rename_i b hb
        have hev : ∀ (σ : Ren) (a : Act), EnvR σ nt env a → a.eval c = .bool b := fun σ a hr => by
          have := hr.eval c
          rw [hb] at this
          generalize a.eval c = x at this
          cases this; rfl
        cases b with
        | true =>
          obtain ⟨e1, env1, mem1, h, hg, -⟩ := ih x (fun b hb => hL b (by simp [loopsOf, hb])) env mem _ r h
          exact ⟨e1, env1, mem1, h, fun W Wr σ a w Q hf hq => wp_cond_true (hev σ a hf.env) (hg W Wr σ a w Q hf hq), by simp⟩
        | false =>
          obtain ⟨e1, env1, mem1, h, hg, -⟩ := ih y (fun b hb => hL b (by simp [loopsOf, hb])) env mem _ r h
          exact ⟨e1, env1, mem1, h, fun W Wr σ a w Q hf hq => wp_cond_false (hev σ a hf.env) (hg W Wr σ a w Q hf hq), by simp⟩
      · cases h
    | block id body =>
      simp only [codeK] at h
      obtain ⟨e1, env1, mem1, h, hg, -⟩ := ih body (fun b hb => hL b (by simp [loopsOf, hb])) env mem _ r h
      cases e1 with
      | normal => exact ⟨.normal, env1, mem1, h, fun W Wr σ a w Q hf hq => wp_block (hg W Wr σ a w _ hf fun σ' a' w' he hf' hd => hq σ' a' w' he hf' hd), by simp⟩
      | ret => exact ⟨.ret, env1, mem1, h, fun W Wr σ a w Q hf hq => wp_block (hg W Wr σ a w _ hf fun σ' a' w' he hf' hd => hq σ' a' w' he hf' hd), by simp⟩
      | exit j =>
        simp only at h
        rcases bif_both h with ⟨hb, hk⟩ | ⟨hb, h⟩
        · have hb := Nat.eq_of_beq_eq_true hb
          subst hb
          exact ⟨.normal, env1, mem1, hk, fun W Wr σ a w Q hf hq => wp_block (hg W Wr σ a w _ hf fun σ' a' w' he hf' hd => by
            simp only [Ex.toExit, Exit.inBlock, if_true]; exact hq σ' a' w' he hf' hd), by simp⟩
        · have hb : j ≠ id := by intro e; subst e; rw [Nat.beq_refl] at hb; cases hb
          exact ⟨.exit j, env1, mem1, h, fun W Wr σ a w Q hf hq => wp_block (hg W Wr σ a w _ hf fun σ' a' w' he hf' hd => by
            simp only [Ex.toExit, Exit.inBlock, hb, if_false]; exact hq σ' a' w' he hf' hd), by simp⟩
    | loop body =>
      simp only [codeK] at h
      have main : ∃ e env' mem' m, K e env' mem' = some r ∧ Goes nt env mem e env' mem' (fun Q a w => Code.rounds P body Q m a w) := by
        split at h
        · rename_i g hfg
          obtain ⟨e, env', mem', h1, m, h2⟩ := hL body (by simp [loopsOf]) g hfg env mem _ K r h
          exact ⟨e, env', mem', m, h1, h2⟩
        obtain ⟨e1, env1, mem1, h, hg, -⟩ := ih body (fun b hb => hL b (by simp [loopsOf, hb])) env mem _ r h
        cases e1 with
        | normal =>
          obtain ⟨e2, env2, mem2, h, -, hg2⟩ := ih (.loop body) hL env1 mem1 K r h
          obtain ⟨m, hm⟩ := hg2 body rfl
          exact ⟨e2, env2, mem2, m + 1, h, hg.trans hm (fun Q => Exit.then (Code.rounds P body Q m) Q) (fun Q a w h => h) (fun Q a w h => h)⟩
        | exit id => exact ⟨.exit id, env1, mem1, 1, h, fun W Wr σ a w Q hf hq => hg W Wr σ a w _ hf fun σ' a' w' he hf' hd => hq σ' a' w' he hf' hd⟩
        | ret => exact ⟨.ret, env1, mem1, 1, h, fun W Wr σ a w Q hf hq => hg W Wr σ a w _ hf fun σ' a' w' he hf' hd => hq σ' a' w' he hf' hd⟩
      obtain ⟨e, env', mem', m, h1, h2⟩ := main
      refine ⟨e, env', mem', h1, fun W Wr σ a w Q hf hq => wp_loop_rounds m (h2 W Wr σ a w Q hf hq), fun b hb => ?_⟩
      cases hb
      exact ⟨m, h2⟩
    | rangeFunc => cases h
    | scope => cases h
    | goto => cases h
    | refuse => cases h


/-! ### functions -/

def resA (X : Cx) (env : Env) (mem : Mem) : List ResultVar → Option (List AV)
  | [] => some []
  | .tmp t :: l => match resA X env mem l with
    | some r => some (look t env :: r)
    | none => none
  | .cell a t :: l => match look a env with
    | .ptr id off => (match loadK X.T mem t id off some with
      | some v => (match resA X env mem l with
        | some r => some (v :: r)
        | none => none)
      | none => none)
    | _ => none

def one : List AV → AV
  | [v] => v
  | l => .tup l

/-- how a result is read off a frame -/
def resFn (a : Act) : ResultVar → Sem Value
  | .tmp t => pure (a.tmps.getD t undef)
  | .cell b t => do loadVar t (← asAddr (a.tmps.getD b undef))

theorem results_eq (fn : Func) (a : Act) : results fn a.tmps = (do
    let vs ← fn.results.mapM (resFn a)
    pure (if h : vs.size = 1 then vs[0] else .tuple vs)) := by
  unfold results
  congr 1

theorem resA_sound {X : Cx} (hX : CxOK P X) {env : Env} {mem : Mem} {σ : Ren} {nt : Nat} {a : Act} {w : World} (he : EnvR σ nt env a) (hm : MemRel σ mem w) :
    ∀ (l : List ResultVar) (vs : List AV), resA X env mem l = some vs →
      ∃ rs, (l.mapM (resFn a)).run P w = .ok rs w ∧ RL σ vs rs
  | [], vs, h => by simp only [resA, Option.some.injEq] at h; subst h; exact ⟨[], by simp, .nil⟩
  | .tmp t :: l, vs, h => by
    simp only [resA] at h
    split at h
    · rename_i r hr
      simp only [Option.some.injEq] at h
      subst h
      obtain ⟨rs, h1, h2⟩ := resA_sound hX he hm l r hr
      exact ⟨_, by rw [List.mapM_cons, Sem.run_bind, resFn, Sem.run_pure, Result.andThen_ok, Sem.run_bind, h1]; rfl, .cons _ _ _ _ (he.slot t) h2⟩
    · cases h
  | .cell b t :: l, vs, h => by
    simp only [resA] at h
    split at h
    · rename_i id off hb
      split at h
      · rename_i v hv
        split at h
        · rename_i r hr
          simp only [Option.some.injEq] at h
          subst h
          obtain ⟨rs, h1, h2⟩ := resA_sound hX he hm l r hr
          obtain ⟨v', hv', hs⟩ := loadK_sound (P := P) hX.tab hv
          simp only [Option.some.injEq] at hv'
          subst hv'
          have hp := he.slot b
          rw [hb] at hp
          obtain ⟨rv, h3, h4⟩ := hs σ w _ (fun _ _ _ _ h => hm _ _ _ _ _ h) hp
          generalize hgx : a.tmps.getD b undef = x at hp h3
          cases hp with | ptr _ _ bb δ s hσ =>
          refine ⟨rv :: rs, ?_, .cons _ _ _ _ h4 h2⟩
          have h5 : (loadVar t ⟨bb, δ + off, none⟩).run P w = .ok rv w := by simpa [Instr.loadAt, Instr.sureAddr] using h3
          have h6 : (resFn a (.cell b t)).run P w = .ok rv w := by simp [resFn, hgx, asAddr, h5]
          rw [List.mapM_cons, Sem.run_bind, h6]
          simp only [Sem.run_bind, Sem.run_pure, Result.andThen_ok, h1]
        · cases h
      · cases h
    · cases h


def argsEnv : List AV → Nat → Env
  | [], _ => []
  | v :: l, i => (i, v) :: argsEnv l (i + 1)

theorem look_args : ∀ (l : List AV) (i t : Nat), look t (argsEnv l i) = if t < i then .unk else (match l[t - i]? with
    | some v => v
    | none => .unk)
  | [], i, t => by simp [argsEnv, look]
  | v :: l, i, t => by
    simp only [argsEnv, look_cons]
    by_cases e : i = t
    · subst e; simp
    · rw [if_neg e, look_args l (i + 1) t]
      by_cases h : t < i
      · rw [if_pos (by omega), if_pos h]
      · rw [if_neg (by omega), if_neg h, show t - i = (t - (i + 1)) + 1 by omega, List.getElem?_cons_succ]

def runKL (X : Cx) (L : Loops) (keep : List Nat) (fuel : Nat) (fn : Func) (c : Code) (args : List AV) (mem : Mem) (K : AV → Mem → Option ρ) : Option ρ :=
  bif Nat.ble args.length fn.ntmps then
    codeK X L fn.ntmps keep fuel c (argsEnv args 0) mem fun e env mem => match e with
      | .exit _ => none
      | _ => (match resA X env mem fn.results.toList with
        | some vs => K (one vs) mem
        | none => none)
  else none

abbrev runK (X : Cx) (keep : List Nat) (fuel : Nat) (fn : Func) (c : Code) (args : List AV) (mem : Mem) (K : AV → Mem → Option ρ) : Option ρ := runKL X [] keep fuel fn c args mem K

theorem runKL_sound {X : Cx} (hX : CxOK P X) {L : Loops} {keep : List Nat} {fuel : Nat} {f : FuncId} {fn : Func} {c : Code} {args : List AV} {mem : Mem} {K : AV → Mem → Option ρ} {r : ρ} (hf : P.funcs[f]? = some fn) (hb : fn.body = some c) (hL : LoopsOK P fn.ntmps L c)
    (h : runKL X L keep fuel fn c args mem K = some r) : ∃ v mem', K v mem' = some r ∧ ∀ (W : World) (Wr : Nat → Prop) (σ : Ren) (w : World) (real : Array Value), FSt W Wr σ mem w → RL σ args real.toList →
    Calls P f real w fun e w' => ∃ σ' rv, e = .returned rv ∧ Ext σ σ' ∧ R σ' v rv ∧ FSt W Wr σ' mem' w' := by
  unfold runKL at h
  obtain ⟨hle, h⟩ := bif_some h
  have hle := Nat.le_of_ble_eq_true hle
  obtain ⟨e, env', mem1, h, hg, -⟩ := codeK_sound hX fuel c hL _ _ _ _ h
  have hend : ∃ vs, resA X env' mem1 fn.results.toList = some vs ∧ K (one vs) mem1 = some r ∧ (e = .normal ∨ e = .ret) := by
    cases e with
    | exit id => cases h
    | normal =>
      simp only at h
      split at h
      · rename_i vs hvs; exact ⟨vs, hvs, h, .inl rfl⟩
      · cases h
    | ret =>
      simp only at h
      split at h
      · rename_i vs hvs; exact ⟨vs, hvs, h, .inr rfl⟩
      · cases h
  obtain ⟨vs, hvs, hK, he12⟩ := hend
  refine ⟨one vs, mem1, hK, fun W Wr σ w real hst hr => ?_⟩
  have hlen := hr.size
  have hfr : FrR W Wr fn.ntmps σ (argsEnv args 0) mem { tmps := real ++ Array.replicate (fn.ntmps - real.size) undef, defers := [] } w := by
    refine ⟨hst, ⟨by simp; omega, fun t => ?_⟩⟩
    rw [look_args]
    simp only [Nat.not_lt_zero, if_false, Nat.sub_zero]
    split
    · rename_i v hv
      obtain ⟨x, h1, h2⟩ := hr.get hv
      have h1' : real[t]? = some x := by simpa using h1
      have hlt : t < real.size := (Array.getElem?_eq_some_iff.1 h1').1
      have : (real ++ Array.replicate (fn.ntmps - real.size) undef).getD t undef = x := by
        rw [Array.getD_eq_getD_getElem?, Array.getElem?_append_left hlt, h1']; rfl
      rw [this]; exact h2
    · exact .unk _
  refine calls_of_wp hf hb (hg W Wr σ _ w _ hfr fun σ' a' w' he hf' hd => ?_)
  have fin : a'.defers = [] ∧ ∃ rv, (results fn a'.tmps).run P w' = .ok rv w' ∧ ∃ σ'' rv', Ending.returned rv = .returned rv' ∧ Ext σ σ'' ∧ R σ'' (one vs) rv' ∧ FSt W Wr σ'' mem1 w' := by
    obtain ⟨rs, h1, h2⟩ := resA_sound hX hf'.env hf'.st.1.memRel _ _ hvs
    refine ⟨hd, if h : rs.toArray.size = 1 then rs.toArray[0] else .tuple rs.toArray, ?_, σ', _, rfl, he, ?_, hf'.st⟩
    · rw [results_eq, Sem.run_bind, Array.mapM_eq_mapM_toList, Sem.run_map, h1]
      rfl
    · cases h2 with
      | nil => exact .tup _ _ .nil
      | cons a x l m hx hl =>
        cases hl with
        | nil => simpa [one] using hx
        | cons b y l m hy hl => simpa [one] using R.tup (σ := σ') _ (x :: y :: m).toArray (.cons _ _ _ _ hx (.cons _ _ _ _ hy hl))
  rcases he12 with rfl | rfl
  · exact fin
  · exact fin

theorem callTo_of_calls {f : FuncId} {fn : Func} {c : Code} {real : Array Value} {w : World} {Q : Value → World → Prop} (hf : P.funcs[f]? = some fn) (hb : fn.body = some c) (hn : (fn.name == "runtime.NumGoroutine") = false)
    (h : Calls P f real w fun e w' => ∃ rv, e = .returned rv ∧ Q rv w') : CallTo P f real w Q := by
  have h1 : fn.name ≠ "runtime.NumGoroutine" := by simpa using hn
  have : (callFunc f real).run P w = .ok (.enter f real) w := by simp [callFunc, hf, h1, hb]
  unfold CallTo
  rw [this]
  refine h.mono fun e w' ⟨rv, he, hq⟩ => ?_
  subst he; exact hq

/-- a function over plain values, run in memory of its own -/
def runQL (X : Cx) (L : Loops) (keep : List Nat) (fuel : Nat) (fn : Func) (c : Code) (args : List AV) : Option AV :=
  match AV.closed.all args with
  | true => runKL X L keep fuel fn c args [] fun v _ => match v.closed with
    | true => some v
    | false => none
  | false => none

abbrev runQ (X : Cx) (keep : List Nat) (fuel : Nat) (fn : Func) (c : Code) (args : List AV) : Option AV := runQL X [] keep fuel fn c args

theorem St.empty (w : World) : FSt w (fun _ => False) (fun _ => none) [] w :=
  ⟨⟨rfl, rfl, rfl, Nat.le_refl _, fun _ _ _ => rfl, by simp, by simp, by simp, by simp⟩, by simp⟩

theorem runQL_sound {X : Cx} (hX : CxOK P X) {L : Loops} {keep : List Nat} {fuel : Nat} {f : FuncId} {fn : Func} {c : Code} {args : List AV} {v : AV} (hf : P.funcs[f]? = some fn) (hb : fn.body = some c) (hn : (fn.name == "runtime.NumGoroutine") = false) (hL : LoopsOK P fn.ntmps L c)
    (h : runQL X L keep fuel fn c args = some v) (σ : Ren) (w : World) (real : Array Value) (hr : RL σ args real.toList) : CallTo P f real w fun rv w' => R σ v rv ∧ Below w.heap.size w w' := by
  unfold runQL at h
  split at h
  · rename_i hc
    obtain ⟨v', mem', h, hs⟩ := runKL_sound hX hf hb hL h
    split at h
    · rename_i hcv
      simp only [Option.some.injEq] at h
      subst h
      refine callTo_of_calls hf hb hn ((hs w _ _ w real (St.empty w) (hr.closed hc)).mono fun e w' ⟨σ', rv, he, _, hv, hst⟩ => ?_)
      exact ⟨rv, he, hv.closed hcv, Below.mk hst.1.os hst.1.tape hst.1.output hst.1.size (fun k hk => hst.1.old k hk (fun h => h))⟩
    · cases h
  · cases h

/-! ### contracts, gathered -/

def addQ (O : Quiet) (f : FuncId) (g : List AV → Mem → ∀ {ρ : Type}, (AV → Option Blk → Option ρ) → Option ρ) : Quiet := fun f' args mem _ K => bif Nat.beq f' f then g args mem K else O f' args mem K

theorem addQ_ok {O : Quiet} (hO : QuietOK P O) {f : FuncId} {g : List AV → Mem → ∀ {ρ : Type}, (AV → Option Blk → Option ρ) → Option ρ} (hg : QuietAt P f g) : QuietOK P (addQ O f g) := by
  intro f' args mem ρ K r h
  unfold addQ at h
  rcases bif_both h with ⟨hb, hk⟩ | ⟨hb, hk⟩
  · have hb := Nat.eq_of_beq_eq_true hb
    subst hb; exact hg args mem ρ K r hk
  · exact hO f' args mem ρ K r hk

/-- a call whose value is told outright -/
def val (g : List AV → Option AV) : List AV → Mem → ∀ {ρ : Type}, (AV → Option Blk → Option ρ) → Option ρ := fun args _ _ K => match g args with
  | some v => K v none
  | none => none

/-- values that stand for something -/
def wfL (l : List AV) : Prop := ∃ σ m, RL σ l m
def wf1 (a : AV) : Prop := ∃ σ v, R σ a v
theorem wfL.cons {a : AV} {l : List AV} (h : wfL (a :: l)) : wf1 a ∧ wfL l := by
  obtain ⟨σ, m, h⟩ := h
  cases h with | cons _ v _ m h1 h2 => exact ⟨⟨σ, v, h1⟩, σ, m, h2⟩
theorem wf1.agg {l : List AV} (h : wf1 (.agg l)) : wfL l := by
  obtain ⟨σ, v, h⟩ := h
  cases h with | agg _ arr h => exact ⟨σ, _, h⟩
theorem wf1.u {k : IntKind} {n : Nat} (h : wf1 (.u k n)) : n < 2 ^ k.bits := by
  obtain ⟨σ, v, h⟩ := h
  cases h with | u _ _ _ h => exact h
theorem wf1.n {i : Int} (h : wf1 (.n i)) : -9223372036854775808 ≤ i ∧ i < 9223372036854775808 := by
  obtain ⟨σ, v, h⟩ := h
  cases h with | n _ h1 h2 => exact ⟨h1, h2⟩

theorem quietAt_of_runL {X : Cx} (hX : CxOK P X) {L : Loops} {keep : List Nat} {f : FuncId} {fn : Func} {c : Code} (hf : P.funcs[f]? = some fn) (hb : fn.body = some c) (hn : (fn.name == "runtime.NumGoroutine") = false) (hL : LoopsOK P fn.ntmps L c)
    {g : List AV → Option AV} (h : ∀ args v, g args = some v → wfL args → ∃ fuel, runQL X L keep fuel fn c args = some v) : QuietAt P f (val g) := by
  intro args mem ρ K r hg
  unfold val at hg
  split at hg
  · rename_i v hv
    refine ⟨v, none, hg, fun σ w real hr _ _ => ?_⟩
    obtain ⟨fuel, h⟩ := h args v hv ⟨σ, _, hr⟩
    exact (runQL_sound hX hf hb hn hL h σ w real hr).mono fun rv w' hq => ⟨hq.2, hq.1⟩
  · cases hg
theorem quietAt_of_run {X : Cx} (hX : CxOK P X) {keep : List Nat} {f : FuncId} {fn : Func} {c : Code} (hf : P.funcs[f]? = some fn) (hb : fn.body = some c) (hn : (fn.name == "runtime.NumGoroutine") = false)
    {g : List AV → Option AV} (h : ∀ args v, g args = some v → wfL args → ∃ fuel, runQ X keep fuel fn c args = some v) : QuietAt P f (val g) := quietAt_of_runL hX hf hb hn LoopsOK.nil h

/-- a call that is gone through in place -/
theorem loudAt_of_run {X : Cx} (hX : CxOK P X) {L : Loops} {keep : List Nat} {fuel : Nat} {f : FuncId} {fn : Func} {c : Code} (hf : P.funcs[f]? = some fn) (hb : fn.body = some c) (hn : (fn.name == "runtime.NumGoroutine") = false) (hL : LoopsOK P fn.ntmps L c) :
    LoudAt P f (fun args mem _ K => runKL X L keep fuel fn c args mem K) := by
  intro args mem ρ K r h
  obtain ⟨v, mem', h, hs⟩ := runKL_sound hX hf hb hL h
  exact ⟨v, mem', h, fun W Wr σ w real hst hr => callTo_of_calls hf hb hn ((hs W Wr σ w real hst hr).mono fun e w' ⟨σ', rv, he, hx, hv, hst'⟩ => ⟨rv, he, σ', hx, hv, hst'⟩)⟩

def addM (M : Loud) (f : FuncId) (g : List AV → Mem → ∀ {ρ : Type}, (AV → Mem → Option ρ) → Option ρ) : Loud := fun f' => bif Nat.beq f' f then some g else M f'
theorem addM_ok {M : Loud} (hM : LoudOK P M) {f : FuncId} {g : List AV → Mem → ∀ {ρ : Type}, (AV → Mem → Option ρ) → Option ρ} (hg : LoudAt P f g) : LoudOK P (addM M f g) := by
  intro f' g' h
  unfold addM at h
  cases hb : Nat.beq f' f with
  | true =>
    rw [hb] at h
    have hb := Nat.eq_of_beq_eq_true hb
    subst hb
    simp only [cond_true, Option.some.injEq] at h
    subst h; exact hg
  | false => rw [hb] at h; exact hM f' g' h

def noQ : Quiet := fun _ _ _ _ _ => none
def noM : Loud := fun _ => none
theorem noQ_ok : QuietOK P noQ := by intro f args mem ρ K r h; cases h
theorem noM_ok : LoudOK P noM := by intro f g h; cases h

/-! ### loops -/

/-- a loop that is known by the evaluation of its rounds -/
theorem loopAt_of {X : Cx} (hX : CxOK P X) {L : Loops} {nt : Nat} {keep : List Nat} {body : Code} {g : LoopFn} (hL : LoopsOK P nt L (.loop body))
    (h : ∀ (env : Env) (mem : Mem) (ρ : Type) (K : Ex → Env → Mem → Option ρ) (r : ρ), g env mem K = some r →
      ∃ ts e env' mem' fuel, K e env' mem' = some r ∧ codeK X L nt keep fuel (.loop body) (prune env ts) mem (fun e env mem => some (e, env, mem)) = some (e, env', mem')) : LoopAt P nt body g := by
  intro env mem ρ K r hg
  obtain ⟨ts, e, env', mem', fuel, hk, hc⟩ := h env mem ρ K r hg
  obtain ⟨e1, env1, mem1, h1, -, h2⟩ := codeK_sound hX fuel (.loop body) hL _ _ _ _ hc
  obtain ⟨m, hm⟩ := h2 body rfl
  simp only [Option.some.injEq, Prod.mk.injEq] at h1
  obtain ⟨rfl, rfl, rfl⟩ := h1
  exact ⟨e1, env1, mem1, hk, m, fun W Wr σ a w Q hf hq => hm W Wr σ a w Q ⟨hf.st, hf.env.prune ts⟩ hq⟩

theorem loopsOK_cons {nt : Nat} {L : Loops} {c body : Code} {k : Nat} {g : LoopFn} (hL : LoopsOK P nt L c) (hb : (loopsOf c).filter (fun b => Nat.beq k (loopKey b)) = [body]) (hg : LoopAt P nt body g) :
    LoopsOK P nt ((k, g) :: L) c := by
  intro b hbm g' hf
  unfold findL at hf
  cases hq : Nat.beq k (loopKey b) with
  | true =>
    rw [hq] at hf
    simp only [cond_true, Option.some.injEq] at hf
    subst hf
    have : b ∈ (loopsOf c).filter (fun b => Nat.beq k (loopKey b)) := List.mem_filter.2 ⟨hbm, hq⟩
    rw [hb] at this
    simp only [List.mem_singleton] at this
    subst this; exact hg
  | false => rw [hq] at hf; exact hL b hbm g' hf

theorem codeK_loop_eq {X : Cx} {L : Loops} {nt : Nat} {keep : List Nat} {n : Nat} {body : Code} {env : Env} {mem : Mem} {K : Ex → Env → Mem → Option ρ} (hf : findL L (loopKey body) = none) :
    codeK X L nt keep (n + 1) (.loop body) env mem K = codeK X L nt keep n body env mem fun e env mem => match e with
      | .normal => codeK X L nt keep n (.loop body) env mem K
      | e => K e env mem := by
  simp only [codeK, hf]

/-- a loop with a count that is not known as a numeral -/
theorem codeK_loop {X : Cx} {L : Loops} {nt : Nat} {keep : List Nat} {body : Code} (hf : findL L (loopKey body) = none) {E : Nat → Env} {M : Nat → Mem} {N c : Nat} {ex : Ex} {E' : Env} {M' : Mem} (hex : ex ≠ .normal)
    (step : ∀ i, i < N → ∀ (n : Nat) (K : Ex → Env → Mem → Option ρ), codeK X L nt keep (n + c) body (E i) (M i) K = K .normal (E (i + 1)) (M (i + 1)))
    (fin : ∀ (n : Nat) (K : Ex → Env → Mem → Option ρ), codeK X L nt keep (n + c) body (E N) (M N) K = K ex E' M') :
    ∀ (n : Nat) (K : Ex → Env → Mem → Option ρ), codeK X L nt keep (n + c + N + 1) (.loop body) (E 0) (M 0) K = K ex E' M' := by
  have key : ∀ (d i : Nat), i + d = N → ∀ (n : Nat) (K : Ex → Env → Mem → Option ρ), codeK X L nt keep (n + c + d + 1) (.loop body) (E i) (M i) K = K ex E' M' := by
    intro d
    induction d with
    | zero =>
      intro i hi n K
      have : i = N := by omega
      subst this
      rw [Nat.add_zero, codeK_loop_eq hf, fin n]
      cases ex with
      | normal => exact absurd rfl hex
      | exit j => rfl
      | ret => rfl
    | succ d ih =>
      intro i hi n K
      rw [codeK_loop_eq hf, show n + c + (d + 1) = (n + (d + 1)) + c by omega, step i (by omega) (n + (d + 1))]
      dsimp only
      rw [show (n + (d + 1)) + c = n + c + d + 1 by omega]
      exact ih (i + 1) (by omega) n K
  exact key N 0 (by omega)

end Pw

namespace Pw
open Go Go.RowKit

variable {P : Program} {T : List (Nat × TE)} {ρ : Type}

/-! ### functions that read lists of bytes, and such as make a new list -/

/-- arguments, each list of bytes put into a memory of its own -/
def normK (mem : Mem) : List AV → List (List Nat) → (List AV → List (List Nat) → Option ρ) → Option ρ
  | [], ls, K => K [] ls
  | a :: rest, ls, K => match a with
    | .slice id off len ap => sliceBytesK mem (.slice id off len ap) fun l => normK mem rest (ls ++ [l]) fun as ls' => K (.slice ls.length 0 l.length false :: as) ls'
    | .nils => normK mem rest (ls ++ [[]]) fun as ls' => K (.slice ls.length 0 0 false :: as) ls'
    | a => match a.closed with
      | true => normK mem rest ls fun as ls' => K (a :: as) ls'
      | false => none

def blkOf (l : List Nat) : Blk := ⟨.bytes l, false⟩
def memOf (ls : List (List Nat)) : Mem := ls.map blkOf

theorem memOf_get {ls : List (List Nat)} {i : Nat} {B : Blk} (h : (memOf ls)[i]? = some B) : ∃ l, ls[i]? = some l ∧ B = blkOf l := by
  simp only [memOf, List.getElem?_map, Option.map_eq_some_iff] at h
  obtain ⟨l, h1, rfl⟩ := h
  exact ⟨l, h1, rfl⟩

/-- what the lists stand for in a world -/
structure NSt (w : World) (σ0 : Ren) (ls : List (List Nat)) : Prop where
  dom : ∀ i p, σ0 i = some p → i < ls.length
  blk : ∀ i b δ s l, σ0 i = some (b, δ, s) → ls[i]? = some l → b < w.heap.size ∧ BlkRel σ0 (blkOf l) b δ s w

theorem NSt.empty (w : World) : NSt w (fun _ => none) [] := ⟨fun _ _ h => by (cases h), fun _ _ _ _ _ h => by (cases h)⟩

theorem NSt.fst {w : World} {σ0 : Ren} {ls : List (List Nat)} (h : NSt w σ0 ls) : FSt w (fun _ => False) σ0 (memOf ls) w := by
  refine ⟨⟨rfl, rfl, rfl, Nat.le_refl _, fun _ _ _ => rfl, ?_, ?_, ?_, ?_⟩, fun i p hi => by simpa [memOf] using h.dom i p hi⟩
  · intro i b δ s hi
    have hlt := h.dom i _ hi
    exact (h.blk i b δ s ls[i] hi (List.getElem?_eq_getElem hlt)).1
  · intro i b δ s B hi hB
    obtain ⟨l, hl, rfl⟩ := memOf_get hB
    exact (h.blk i b δ s l hi hl).2
  · intro i b δ s B hi hB hw
    obtain ⟨l, hl, rfl⟩ := memOf_get hB
    cases hw
  · intro i j bi δi si bj δj sj Bi Bj hi hj _ hBi _ hw
    obtain ⟨l, hl, rfl⟩ := memOf_get hBi
    cases hw

theorem BlkRel.bytes {σ σ' : Ren} {l : List Nat} {b δ s : Nat} {w : World} (h : BlkRel σ (blkOf l) b δ s w) : BlkRel σ' (blkOf l) b δ s w := by
  obtain ⟨C, e, lo, hi, h1, h2, h3, h4, h5⟩ := h.ex
  refine ⟨C, e, lo, hi, h1, h2, h3, fun o v hv => ?_, h5⟩
  obtain ⟨rv, h6, h7⟩ := h4 o v hv
  refine ⟨rv, h6, R.closed ?_ h7⟩
  simp only [blkOf, Cont.at?, Option.map_eq_some_iff] at hv
  obtain ⟨a, -, rfl⟩ := hv
  rfl

theorem NSt.snoc {w : World} {σ0 : Ren} {ls : List (List Nat)} (h : NSt w σ0 ls) {l : List Nat} (p : Option (Nat × Nat × Nat)) (hp : ∀ b δ s, p = some (b, δ, s) → b < w.heap.size ∧ BlkRel (fun _ => none) (blkOf l) b δ s w) :
    ∃ σ1, Ext σ0 σ1 ∧ σ1 ls.length = p ∧ NSt w σ1 (ls ++ [l]) := by
  refine ⟨fun i => if i = ls.length then p else σ0 i, fun i q hi => ?_, if_pos rfl, ⟨fun i q hi => ?_, fun i b δ s l' hi hl => ?_⟩⟩
  · have := h.dom i q hi
    show (if i = ls.length then p else σ0 i) = some q
    rw [if_neg (by omega)]; exact hi
  · rcases Nat.lt_or_ge i ls.length with hlt | hge
    · simp; omega
    · rcases Nat.eq_or_lt_of_le hge with e | hlt
      · simp; omega
      · have hi' : (if i = ls.length then p else σ0 i) = some q := hi
        rw [if_neg (by omega)] at hi'
        have := h.dom i q hi'; omega
  · have hi' : (if i = ls.length then p else σ0 i) = some (b, δ, s) := hi
    split at hi'
    · rename_i e
      subst e
      simp only [List.getElem?_append_right (Nat.le_refl _), Nat.sub_self, List.getElem?_cons_zero, Option.some.injEq] at hl
      subst hl
      have := hp b δ s hi'
      exact ⟨this.1, this.2.bytes⟩
    · have hlt := h.dom i _ hi'
      rw [List.getElem?_append_left hlt] at hl
      have := h.blk i b δ s l' hi' hl
      exact ⟨this.1, this.2.bytes⟩

theorem MemRel.cut {σ : Ren} {mem : Mem} {w : World} (hm : MemRel σ mem w) {id off len : Nat} {ap : Bool} {l : List Nat} {vx : Value} (hx : R σ (.slice id off len ap) vx)
    {B : Blk} (hB : mem[id]? = some B) (hl : l.length = len) (hle : off + len ≤ B.c.size) (hat : ∀ i, i < len → B.c.at? (off + i) = (l[i]?).map (AV.u .u8)) :
    (∃ a, vx = .slice a 0 0 ∧ l = []) ∨ ∃ b δ s cap, vx = .slice (some ⟨b, δ, none⟩) len cap ∧ len ≤ cap ∧ cap < 9223372036854775808 ∧ b < w.heap.size ∧ BlkRel (fun _ => none) (blkOf l) b δ s w := by
  cases hx with
  | slic0 _ _ _ a => exact .inl ⟨a, rfl, List.length_eq_zero_iff.1 hl⟩
  | slice _ _ _ _ cap b δ s hσ h1 h2 h3 =>
    right
    have hbr := hm _ _ _ _ _ hσ hB
    obtain ⟨C, e, lo, hi, g1, g2, g3, g4, g5⟩ := hbr.ex
    have hblt : b < w.heap.size := by
      have := (Array.getElem?_eq_some_iff.1 g1).1; exact this
    refine ⟨b, δ + off, s - off, cap, rfl, h1, h2, hblt, C, e, lo, hi, g1, by omega, by simp only [blkOf, Cont.size]; omega, fun o v hv => ?_, fun hw => by cases hw⟩
    have ho := Cont.at_lt hv
    simp only [blkOf, Cont.size] at ho
    have : B.c.at? (off + o) = some v := by rw [hat o (by omega)]; exact hv
    obtain ⟨rv, k1, k2⟩ := g4 _ _ this
    refine ⟨rv, by rw [Nat.add_assoc]; exact k1, R.closed ?_ k2⟩
    simp only [blkOf, Cont.at?, Option.map_eq_some_iff] at hv
    obtain ⟨a, -, rfl⟩ := hv
    rfl

theorem normK_sound {mem : Mem} : ∀ (args : List AV) (ls : List (List Nat)) (K : List AV → List (List Nat) → Option ρ) (r : ρ), normK mem args ls K = some r →
    ∃ as ls', K as ls' = some r ∧ ∀ (σ : Ren) (w : World) (vs : List Value) (σ0 : Ren), MemRel σ mem w → RL σ args vs → NSt w σ0 ls → ∃ σ1, Ext σ0 σ1 ∧ NSt w σ1 ls' ∧ RL σ1 as vs
  | [], ls, K, r, h => ⟨[], ls, h, fun σ w vs σ0 _ hr hn => ⟨σ0, Ext.refl _, hn, by cases hr; exact .nil⟩⟩
  | a :: rest, ls, K, r, h => by
    unfold normK at h
    split at h
    · rename_i id off len ap
      unfold sliceBytesK at h
      simp only at h
      split at h
      · rename_i B hB
        rw [nth_eq] at hB
        obtain ⟨l, hk, hl, hle, hat⟩ := Cont.bytesK_sound h
        obtain ⟨as, ls', hK, hs⟩ := normK_sound rest _ _ _ hk
        refine ⟨_, ls', hK, fun σ w vs σ0 hm hr hn => ?_⟩
        cases hr with | cons _ v _ vs' h1 h2 =>
        rcases hm.cut h1 hB hl hle hat with ⟨a, rfl, rfl⟩ | ⟨b, δ, s, cap, rfl, hc1, hc2, hb, hbr⟩
        · obtain ⟨σ1, e1, e2, n1⟩ := hn.snoc (l := []) none (fun _ _ _ h => by cases h)
          obtain ⟨σ2, e3, n2, r2⟩ := hs σ w vs' σ1 hm h2 n1
          exact ⟨σ2, e1.trans e3, n2, .cons _ _ _ _ (.slic0 _ _ _ _) r2⟩
        · obtain ⟨σ1, e1, e2, n1⟩ := hn.snoc (l := l) (some (b, δ, s)) (fun b' δ' s' h => by cases h; exact ⟨hb, hbr⟩)
          obtain ⟨σ2, e3, n2, r2⟩ := hs σ w vs' σ1 hm h2 n1
          refine ⟨σ2, e1.trans e3, n2, .cons _ _ _ _ ?_ r2⟩
          have := R.slice (σ := σ2) ls.length 0 l.length false cap b δ s (e3 _ _ e2) (by omega) hc2 (by simp)
          rw [hl] at this ⊢
          simpa using this
      · cases h
    · obtain ⟨as, ls', hK, hs⟩ := normK_sound rest _ _ _ h
      refine ⟨_, ls', hK, fun σ w vs σ0 hm hr hn => ?_⟩
      cases hr with | cons _ v _ vs' h1 h2 =>
      cases h1
      obtain ⟨σ1, e1, e2, n1⟩ := hn.snoc (l := []) none (fun _ _ _ h => by cases h)
      obtain ⟨σ2, e3, n2, r2⟩ := hs σ w vs' σ1 hm h2 n1
      exact ⟨σ2, e1.trans e3, n2, .cons _ _ _ _ (.slic0 _ _ _ _) r2⟩
    · split at h
      · rename_i hc
        obtain ⟨as, ls', hK, hs⟩ := normK_sound rest _ _ _ h
        refine ⟨_, ls', hK, fun σ w vs σ0 hm hr hn => ?_⟩
        cases hr with | cons _ v _ vs' h1 h2 =>
        obtain ⟨σ2, e3, n2, r2⟩ := hs σ w vs' σ0 hm h2 hn
        exact ⟨σ2, e3, n2, .cons _ _ _ _ (h1.closed hc) r2⟩
      · cases h

/-! ### a new list in the result -/

/-- a value whose one block is k, told of block n -/
def AV.move (k n : Nat) : AV → Option AV
  | .slice id off len ap => bif Nat.beq id k then some (.slice n off len ap) else none
  | .agg cs => match mv cs with | some l => some (.agg l) | none => none
  | .tup cs => match mv cs with | some l => some (.tup l) | none => none
  | v => match v.closed with | true => some v | false => none
where mv : List AV → Option (List AV)
  | [] => some []
  | a :: l => match a.move k n with
    | some a' => (match mv l with | some l' => some (a' :: l') | none => none)
    | none => none

mutual
theorem R.move {σ σ' : Ren} {k n : Nat} (hσ : ∀ p, σ k = some p → σ' n = some p) : {a a' : AV} → {v : Value} → R σ a v → a.move k n = some a' → R σ' a' v
  | _, _, _, .slice id off len ap cap b δ s e l c d, h => by
    unfold AV.move at h
    obtain ⟨hc, h2⟩ := bif_some h
    have := Nat.eq_of_beq_eq_true hc
    subst this
    cases h2
    exact .slice _ off len ap cap b δ s (hσ _ e) l c d
  | _, _, _, .slic0 id off ap a, h => by
    unfold AV.move at h
    obtain ⟨hc, h2⟩ := bif_some h
    cases h2
    exact .slic0 _ off ap a
  | _, _, _, .agg cs arr l, h => by
    unfold AV.move at h
    split at h
    · rename_i l' hl
      simp only [Option.some.injEq] at h
      subst h
      exact .agg _ _ (RL.move hσ l hl)
    · cases h
  | _, _, _, .tup cs arr l, h => by
    unfold AV.move at h
    split at h
    · rename_i l' hl
      simp only [Option.some.injEq] at h
      subst h
      exact .tup _ _ (RL.move hσ l hl)
    · cases h
  | _, _, _, .bool b, h => by simp [AV.move, AV.closed] at h; subst h; exact .bool b
  | _, _, _, .u q m x y, h => by simp [AV.move, AV.closed] at h; subst h; exact .u q m x y
  | _, _, _, .n i x y, h => by simp [AV.move, AV.closed] at h; subst h; exact .n i x y
  | _, _, _, .str s, h => by simp [AV.move, AV.closed] at h; subst h; exact .str s
  | _, _, _, .nilp, h => by simp [AV.move, AV.closed] at h; subst h; exact .nilp
  | _, _, _, .nils, h => by simp [AV.move, AV.closed] at h; subst h; exact .nils
  | _, _, _, .emp a, h => by simp [AV.move, AV.closed] at h; subst h; exact .emp a
  | _, _, _, .ptr .., h => by simp [AV.move, AV.closed] at h
  | _, _, _, .fn .., h => by simp [AV.move, AV.closed] at h
  | _, _, _, .unk _, h => by simp [AV.move, AV.closed] at h
theorem RL.move {σ σ' : Ren} {k n : Nat} (hσ : ∀ p, σ k = some p → σ' n = some p) : {l l' : List AV} → {m : List Value} → RL σ l m → AV.move.mv k n l = some l' → RL σ' l' m
  | _, _, _, .nil, h => by simp [AV.move.mv] at h; subst h; exact .nil
  | _, _, _, .cons a v l m x y, h => by
    unfold AV.move.mv at h
    split at h
    · rename_i a' ha
      split at h
      · rename_i l' hl
        simp only [Option.some.injEq] at h
        subst h
        exact .cons _ _ _ _ (R.move hσ x ha) (RL.move hσ y hl)
      · cases h
    · cases h
end

/-- the block that a result names, and how many bytes of it -/
def AV.names : AV → Option (Nat × Nat)
  | .slice id _ len _ => some (id, len)
  | .agg cs => nm cs
  | .tup cs => nm cs
  | _ => none
where nm : List AV → Option (Nat × Nat)
  | [] => none
  | a :: l => match nm l with
    | some i => some i
    | none => a.names

mutual
theorem R.names {σ : Ren} {k len : Nat} (hpos : 0 < len) : {a : AV} → {v : Value} → R σ a v → a.names = some (k, len) → ∃ p, σ k = some p
  | _, _, .slice id off len ap cap b δ s e l c d, h => by
    simp only [AV.names, Option.some.injEq, Prod.mk.injEq] at h
    exact ⟨_, h.1 ▸ e⟩
  | _, _, .slic0 id off ap a, h => by
    simp only [AV.names, Option.some.injEq, Prod.mk.injEq] at h
    omega
  | _, _, .agg cs arr l, h => RL.names hpos l (by simpa only [AV.names] using h)
  | _, _, .tup cs arr l, h => RL.names hpos l (by simpa only [AV.names] using h)
  | _, _, .bool b, h => by simp [AV.names] at h
  | _, _, .u q m x y, h => by simp [AV.names] at h
  | _, _, .n i x y, h => by simp [AV.names] at h
  | _, _, .str s, h => by simp [AV.names] at h
  | _, _, .nilp, h => by simp [AV.names] at h
  | _, _, .nils, h => by simp [AV.names] at h
  | _, _, .emp _, h => by simp [AV.names] at h
  | _, _, .ptr .., h => by simp [AV.names] at h
  | _, _, .fn .., h => by simp [AV.names] at h
  | _, _, .unk _, h => by simp [AV.names] at h
theorem RL.names {σ : Ren} {k len : Nat} (hpos : 0 < len) : {l : List AV} → {m : List Value} → RL σ l m → AV.names.nm l = some (k, len) → ∃ p, σ k = some p
  | _, _, .nil, h => by simp [AV.names.nm] at h
  | _, _, .cons a v l m x y, h => by
    unfold AV.names.nm at h
    split at h
    · rename_i i hi
      simp only [Option.some.injEq] at h
      subst h
      exact RL.names hpos y hi
    · exact R.names hpos x h
end

def Cont.plain : Cont → Bool
  | .bytes _ => true
  | .ints _ _ => true
  | .win _ _ => false
  | .cells cs => AV.closed.all cs

/-- a function over plain values and lists of bytes: its value, and the list that it has made -/
def runNL (X : Cx) (L : Loops) (keep : List Nat) (fuel : Nat) (fn : Func) (c : Code) (args : List AV) (ls : List (List Nat)) : Option (AV × Option Blk) :=
  runKL X L keep fuel fn c args (memOf ls) fun v mem => match v.closed with
    | true => some (v, none)
    | false => match v.names with
      | some (k, len) => (match nth mem k with
        | some B => bif B.wr && B.c.plain && Nat.blt 0 len then (match v.move k 0 with
            | some v' => some (v', some B)
            | none => none) else none
        | none => none)
      | none => none

abbrev runN (X : Cx) (keep : List Nat) (fuel : Nat) (fn : Func) (c : Code) (args : List AV) (ls : List (List Nat)) : Option (AV × Option Blk) := runNL X [] keep fuel fn c args ls

/-- a call of such a function -/
def listy (g : List AV → List (List Nat) → Option (AV × Option Blk)) : List AV → Mem → ∀ {ρ : Type}, (AV → Option Blk → Option ρ) → Option ρ := fun args mem _ K =>
  normK mem args [] fun as ls => match g as ls with
    | some (v, none) => K v none
    | some (v, some B) => (match v.move 0 mem.length with
      | some v' => K v' (some B)
      | none => none)
    | none => none

theorem Cont.at_closed {c : Cont} (h : c.plain = true) {o : Nat} {v : AV} (hv : c.at? o = some v) : v.closed = true := by
  cases c with
  | bytes l =>
    simp only [Cont.at?, Option.map_eq_some_iff] at hv
    obtain ⟨a, -, rfl⟩ := hv
    rfl
  | ints k l =>
    simp only [Cont.at?, Option.map_eq_some_iff] at hv
    obtain ⟨a, -, rfl⟩ := hv
    rfl
  | win p cs => simp [Cont.plain] at h
  | cells cs =>
    simp only [Cont.plain] at h
    simp only [Cont.at?] at hv
    have hm := List.mem_of_getElem? hv
    clear hv
    induction cs with
    | nil => cases hm
    | cons a l ih =>
      unfold AV.closed.all at h
      split at h
      · cases hm with
        | head => assumption
        | tail _ hm => exact ih h hm
      · cases h

/-- values with their lists that stand for something -/
def wfN (args : List AV) (ls : List (List Nat)) : Prop := ∃ σ w vs, NSt w σ ls ∧ RL σ args vs

theorem quietAt_of_runNL {X : Cx} (hX : CxOK P X) {L : Loops} {keep : List Nat} {f : FuncId} {fn : Func} {c : Code} (hf : P.funcs[f]? = some fn) (hb : fn.body = some c) (hn : (fn.name == "runtime.NumGoroutine") = false) (hL : LoopsOK P fn.ntmps L c)
    {g : List AV → List (List Nat) → Option (AV × Option Blk)} (h : ∀ args ls v, g args ls = some v → wfN args ls → ∃ fuel, runNL X L keep fuel fn c args ls = some v) : QuietAt P f (listy g) := by
  intro args mem ρ K r hg
  unfold listy at hg
  obtain ⟨as, ls, hg, hs⟩ := normK_sound args [] _ _ hg
  have key : ∀ (σ : Ren) (w : World) (real : Array Value), RL σ args real.toList → MemRel σ mem w → ∀ v nb, g as ls = some (v, nb) → (nb.isSome = true → σ mem.length = none) →
      (match nb with
      | none => CallTo P f real w (Leaves σ mem w v none)
      | some B => ∀ v', v.move 0 mem.length = some v' → CallTo P f real w (Leaves σ mem w v' (some B))) := by
    intro σ w real hr hm v nb hgv hnb
    obtain ⟨σ1, _, n1, r1⟩ := hs σ w real.toList (fun _ => none) hm hr (NSt.empty w)
    obtain ⟨fuel, hrun⟩ := h as ls (v, nb) hgv ⟨σ1, w, _, n1, r1⟩
    unfold runNL at hrun
    obtain ⟨v1, mem1, hk, hcall⟩ := runKL_sound hX hf hb hL hrun
    have hc := hcall w _ σ1 w real n1.fst r1
    split at hk
    · rename_i hcl
      simp only [Option.some.injEq, Prod.mk.injEq] at hk
      obtain ⟨rfl, rfl⟩ := hk
      refine callTo_of_calls hf hb hn (hc.mono fun e w' ⟨σ', rv, he, _, hv, hst⟩ => ⟨rv, he, ?_, hv.closed hcl⟩)
      exact Below.mk hst.1.os hst.1.tape hst.1.output hst.1.size (fun k hk => hst.1.old k hk (fun h => h))
    · split at hk
      · rename_i k len hkn
        split at hk
        · rename_i B hB
          rw [nth_eq] at hB
          obtain ⟨hc1, hk⟩ := bif_some hk
          simp only [Bool.and_eq_true] at hc1
          split at hk
          · rename_i v0 hv0
            simp only [Option.some.injEq, Prod.mk.injEq] at hk
            obtain ⟨rfl, rfl⟩ := hk
            intro v' hv'
            refine callTo_of_calls hf hb hn (hc.mono fun e w' ⟨σ', rv, he, _, hv, hst⟩ => ⟨rv, he, ?_, ?_⟩)
            · exact Below.mk hst.1.os hst.1.tape hst.1.output hst.1.size (fun k hk => hst.1.old k hk (fun h => h))
            · have hpos := (Nat.blt_eq ▸ hc1.2 : _ < _)
              obtain ⟨⟨b, δ, s⟩, hp⟩ := R.names hpos hv hkn
              have hbr := hst.1.blk _ _ _ _ _ hp hB
              refine ⟨b, δ, s, ?_, hst.1.dom _ _ _ _ hp, ?_, ?_⟩
              · rcases hst.1.wrs _ _ _ _ _ hp hB hc1.1.1 with h | h
                · exact h
                · cases h
              · have h1 := R.move (σ' := upd (fun _ => none) 0 (b, δ, s)) (fun p h => by rw [hp] at h; simpa [upd] using h) hv hv0
                exact R.move (fun p h => by simpa [upd] using h) h1 hv'
              · obtain ⟨C, e, lo, hi, g1, g2, g3, g4, g5⟩ := hbr.ex
                refine ⟨C, e, lo, hi, g1, g2, g3, fun o v hv => ?_, g5⟩
                obtain ⟨rv, g6, g7⟩ := g4 o v hv
                exact ⟨rv, g6, R.closed (Cont.at_closed hc1.1.2 hv) g7⟩
          · cases hk
        · cases hk
      · cases hk
  split at hg
  · rename_i v hv
    exact ⟨v, none, hg, fun σ w real hr hm _ => key σ w real hr hm v none hv (by simp)⟩
  · rename_i v B hv
    split at hg
    · rename_i v' hv'
      exact ⟨v', some B, hg, fun σ w real hr hm hn => key σ w real hr hm v (some B) hv hn v' hv'⟩
    · cases hg
  · cases hg

theorem quietAt_of_runN {X : Cx} (hX : CxOK P X) {keep : List Nat} {f : FuncId} {fn : Func} {c : Code} (hf : P.funcs[f]? = some fn) (hb : fn.body = some c) (hn : (fn.name == "runtime.NumGoroutine") = false)
    {g : List AV → List (List Nat) → Option (AV × Option Blk)} (h : ∀ args ls v, g args ls = some v → wfN args ls → ∃ fuel, runN X keep fuel fn c args ls = some v) : QuietAt P f (listy g) := quietAt_of_runNL hX hf hb hn LoopsOK.nil h
end Pw

namespace Pw
open Go Go.RowKit

variable {P : Program} {T : List (Nat × TE)} {ρ : Type}

/-! ### loops, round by round, with what is not looked at any more left out -/

def outK (ts : List Nat) : Ex → Env → Mem → Option (Ex × Env × Mem) := fun e env mem => some (e, prune env ts, mem)

/-- the body of the loop with a key -/
def loopB (c : Code) (k : Nat) : Code := match (loopsOf c).filter (fun b => Nat.beq k (loopKey b)) with
  | [b] => b
  | _ => .skip

theorem Goes.prune {nt : Nat} {env env' : Env} {mem mem' : Mem} {e : Ex} {wp : (Exit → Act → World → Prop) → Act → World → Prop} (h : Goes nt env mem e env' mem' wp) (ts : List Nat) :
    Goes nt env mem e (prune env' ts) mem' wp :=
  fun W Wr σ a w Q hf hq => h W Wr σ a w Q hf fun σ' a' w' he hf' hd => hq σ' a' w' he ⟨hf'.st, hf'.env.prune ts⟩ hd

theorem goes_of_out {X : Cx} (hX : CxOK P X) {L : Loops} {nt : Nat} {keep ts : List Nat} {fuel : Nat} {c : Code} (hL : LoopsOK P nt L c) {env env' : Env} {mem mem' : Mem} {e : Ex}
    (h : codeK X L nt keep fuel c env mem (outK ts) = some (e, env', mem')) : Goes nt env mem e env' mem' (fun Q a w => c.wp P Q a w) := by
  obtain ⟨e1, env1, mem1, h1, h2, -⟩ := codeK_sound hX fuel c hL _ _ _ _ h
  simp only [outK, Option.some.injEq, Prod.mk.injEq] at h1
  obtain ⟨rfl, rfl, rfl⟩ := h1
  exact h2.prune ts

theorem rounds_of_steps {nt N : Nat} {body : Code} {E : Nat → Env} {M : Nat → Mem} {e : Ex} {E' : Env} {M' : Mem} (hne : e ≠ .normal)
    (step : ∀ i, i < N → Goes nt (E i) (M i) .normal (E (i + 1)) (M (i + 1)) (fun Q a w => body.wp P Q a w)) (fin : Goes nt (E N) (M N) e E' M' (fun Q a w => body.wp P Q a w)) :
    ∀ (d i : Nat), i + d = N → Goes nt (E i) (M i) e E' M' (fun Q a w => Code.rounds P body Q (d + 1) a w)
  | 0, i, hi => by
    have : i = N := by omega
    subst this
    intro W Wr σ a w Q hf hq
    exact fin W Wr σ a w _ hf fun σ' a' w' he hf' hd => by
      cases e with
      | normal => exact absurd rfl hne
      | exit j => exact hq σ' a' w' he hf' hd
      | ret => exact hq σ' a' w' he hf' hd
  | d + 1, i, hi => (step i (by omega)).trans (rounds_of_steps hne step fin d (i + 1) (by omega)) (fun Q => Exit.then (Code.rounds P body Q (d + 1)) Q) (fun Q a w h => h) (fun Q a w h => h)

theorem loopAt_of_steps {X : Cx} (hX : CxOK P X) {L : Loops} {nt : Nat} {keep : List Nat} {body : Code} {g : LoopFn} (hL : LoopsOK P nt L body)
    (h : ∀ (env : Env) (mem : Mem) (ρ : Type) (K : Ex → Env → Mem → Option ρ) (r : ρ), g env mem K = some r →
      ∃ (ts : List Nat) (N : Nat) (E : Nat → Env) (M : Nat → Mem) (e : Ex) (E' : Env) (M' : Mem), prune env ts = E 0 ∧ mem = M 0 ∧ e ≠ .normal ∧ K e E' M' = some r ∧
        (∀ i, i < N → ∃ fuel ts, codeK X L nt keep fuel body (E i) (M i) (outK ts) = some (.normal, E (i + 1), M (i + 1))) ∧
        ∃ fuel ts, codeK X L nt keep fuel body (E N) (M N) (outK ts) = some (e, E', M')) : LoopAt P nt body g := by
  intro env mem ρ K r hg
  obtain ⟨ts, N, E, M, e, E', M', h1, h2, h3, h4, h5, fuel, ts', h6⟩ := h env mem ρ K r hg
  have key := rounds_of_steps (P := P) (nt := nt) h3 (fun i hi => by obtain ⟨f, t, ht⟩ := h5 i hi; exact goes_of_out hX hL ht) (goes_of_out hX hL h6) N 0 (by omega)
  refine ⟨e, E', M', h4, N + 1, fun W Wr σ a w Q hf hq => key W Wr σ a w Q ⟨?_, ?_⟩ hq⟩
  · rw [← h2]; exact hf.st
  · rw [← h1]; exact hf.env.prune ts

/-! ### a loop told by a state -/

def live (ts : List Nat) (env : Env) : List AV := match ts with
  | [] => []
  | t :: r => look t env :: live r env

def zipE : List Nat → List AV → Env
  | t :: ts, v :: vs => (t, v) :: zipE ts vs
  | _, _ => []

theorem prune_live (env : Env) : ∀ ts : List Nat, prune env ts = zipE ts (live ts env)
  | [] => rfl
  | t :: ts => by simp only [prune, live, zipE, prune_live env ts]

structure LoopDef (S : Type) where
  ts : List Nat
  E : S → Env
  M : S → Mem
  dec : List AV → Mem → Option S
  ok : ∀ vs mem s, dec vs mem = some s → zipE ts vs = E s ∧ mem = M s

def LoopDef.fn {S : Type} (d : LoopDef S) (guard : S → Bool) (ex : Ex) (fin : S → S) : LoopFn := fun env mem _ K => match d.dec (live d.ts env) mem with
  | some s => bif guard s then K ex (d.E (fin s)) (d.M (fin s)) else none
  | none => none

theorem LoopDef.loop {S : Type} (d : LoopDef S) {guard : S → Bool} {ex : Ex} {fin : S → S} {X : Cx} (hX : CxOK P X) {L : Loops} {nt : Nat} {keep : List Nat} {body : Code} (hL : LoopsOK P nt L body) (hne : ex ≠ .normal)
    (h : ∀ s, guard s = true → ∃ (N : Nat) (at_ : Nat → S), at_ 0 = s ∧
      (∀ i, i < N → ∃ fuel, codeK X L nt keep fuel body (d.E (at_ i)) (d.M (at_ i)) (outK d.ts) = some (.normal, d.E (at_ (i + 1)), d.M (at_ (i + 1)))) ∧
      ∃ fuel, codeK X L nt keep fuel body (d.E (at_ N)) (d.M (at_ N)) (outK d.ts) = some (ex, d.E (fin s), d.M (fin s))) : LoopAt P nt body (d.fn guard ex fin) := by
  refine loopAt_of_steps (keep := keep) hX hL fun env mem ρ K r hg => ?_
  unfold LoopDef.fn at hg
  split at hg
  · rename_i s hs
    obtain ⟨hgd, hg⟩ := bif_some hg
    obtain ⟨h1, h2⟩ := d.ok _ _ _ hs
    obtain ⟨N, at_, e0, h3, fuel, h4⟩ := h s hgd
    refine ⟨d.ts, N, fun i => d.E (at_ i), fun i => d.M (at_ i), ex, _, _, ?_, ?_, hne, hg, fun i hi => ?_, fuel, d.ts, h4⟩
    · show _ = d.E (at_ 0)
      rw [prune_live, h1, e0]
    · show _ = d.M (at_ 0)
      rw [h2, e0]
    · obtain ⟨f, hf⟩ := h3 i hi
      exact ⟨f, d.ts, hf⟩
  · cases hg

/-! ### blocks of cells -/

def bk (v : AV) : Blk := ⟨.cells v.cells, true⟩
def unbk : Blk → AV
  | ⟨.cells cs, true⟩ => .agg cs
  | _ => .unk
theorem unbk_some {B : Blk} {cs : List AV} (h : unbk B = .agg cs) : B = bk (.agg cs) := by
  unfold unbk at h
  split at h
  · cases h; rfl
  · cases h

theorem bif_out {e : Ex} {E1 E2 : Env} {M1 M2 : Mem} (c : Bool) : (bif c then some (e, E1, M1) else some (e, E2, M2)) = some (e, bif c then E1 else E2, bif c then M1 else M2) := by cases c <;> rfl

/-- such a loop that is gone through a number of times that a numeral says is known by its rounds, too -/
theorem bif_join {α : Type} {c : Bool} {x y z : α} (h : (bif c then x else y) = z) : (bif c then some x else some y) = some z := by cases c <;> simp_all

end Pw

namespace Pw
open Go Go.RowKit

variable {P : Program} {T : List (Nat × TE)} {ρ : Type}

/-! ### functions over plain values and lists of bytes, told by the lists themselves -/

inductive LA where
  | v (a : AV)
  | l (b : List Nat)

def laArgs : List LA → Nat → List AV
  | [], _ => []
  | .v a :: r, n => a :: laArgs r n
  | .l b :: r, n => .slice n 0 b.length false :: laArgs r (n + 1)

def laLists : List LA → List (List Nat)
  | [] => []
  | .v _ :: r => laLists r
  | .l b :: r => b :: laLists r

def normL (mem : Mem) : List AV → (List LA → Option ρ) → Option ρ
  | [], K => K []
  | a :: rest, K => match a with
    | .slice id off len ap => sliceBytesK mem (.slice id off len ap) fun l => normL mem rest fun las => K (.l l :: las)
    | .nils => normL mem rest fun las => K (.l [] :: las)
    | .emp => normL mem rest fun las => K (.l [] :: las)
    | a => match a.closed with
      | true => normL mem rest fun las => K (.v a :: las)
      | false => none

theorem normL_sound {mem : Mem} : ∀ (args : List AV) (K : List LA → Option ρ) (r : ρ), normL mem args K = some r →
    ∃ las, K las = some r ∧ ∀ (σ : Ren) (w : World) (vs : List Value) (σ0 : Ren) (ls : List (List Nat)), MemRel σ mem w → RL σ args vs → NSt w σ0 ls →
      ∃ σ1, Ext σ0 σ1 ∧ NSt w σ1 (ls ++ laLists las) ∧ RL σ1 (laArgs las ls.length) vs
  | [], K, r, h => ⟨[], h, fun σ w vs σ0 ls _ hr hn => ⟨σ0, Ext.refl _, by simpa [laLists] using hn, by cases hr; exact .nil⟩⟩
  | a :: rest, K, r, h => by
    unfold normL at h
    split at h
    · rename_i id off len ap
      unfold sliceBytesK at h
      simp only at h
      split at h
      · rename_i B hB
        rw [nth_eq] at hB
        obtain ⟨l, hk, hl, hle, hat⟩ := Cont.bytesK_sound h
        obtain ⟨las, hK, hs⟩ := normL_sound rest _ _ hk
        refine ⟨_, hK, fun σ w vs σ0 ls hm hr hn => ?_⟩
        cases hr with | cons _ v _ vs' h1 h2 =>
        rcases hm.cut h1 hB hl hle hat with ⟨a, rfl, rfl⟩ | ⟨b, δ, s, cap, rfl, hc1, hc2, hb, hbr⟩
        · obtain ⟨σ1, e1, e2, n1⟩ := hn.snoc (l := []) none (fun _ _ _ h => by cases h)
          obtain ⟨σ2, e3, n2, r2⟩ := hs σ w vs' σ1 _ hm h2 n1
          refine ⟨σ2, e1.trans e3, by simpa [laLists] using n2, .cons _ _ _ _ (.slic0 _ _ _ _) (by simpa using r2)⟩
        · obtain ⟨σ1, e1, e2, n1⟩ := hn.snoc (l := l) (some (b, δ, s)) (fun b' δ' s' h => by cases h; exact ⟨hb, hbr⟩)
          obtain ⟨σ2, e3, n2, r2⟩ := hs σ w vs' σ1 _ hm h2 n1
          refine ⟨σ2, e1.trans e3, by simpa [laLists] using n2, .cons _ _ _ _ ?_ (by simpa using r2)⟩
          have := R.slice (σ := σ2) ls.length 0 l.length false cap b δ s (e3 _ _ e2) (by omega) hc2 (by simp)
          rw [hl] at this ⊢
          simpa using this
      · cases h
    · obtain ⟨las, hK, hs⟩ := normL_sound rest _ _ h
      refine ⟨_, hK, fun σ w vs σ0 ls hm hr hn => ?_⟩
      cases hr with | cons _ v _ vs' h1 h2 =>
      cases h1
      obtain ⟨σ1, e1, e2, n1⟩ := hn.snoc (l := []) none (fun _ _ _ h => by cases h)
      obtain ⟨σ2, e3, n2, r2⟩ := hs σ w vs' σ1 _ hm h2 n1
      exact ⟨σ2, e1.trans e3, by simpa [laLists] using n2, .cons _ _ _ _ (.slic0 _ _ _ _) (by simpa using r2)⟩
    · obtain ⟨las, hK, hs⟩ := normL_sound rest _ _ h
      refine ⟨_, hK, fun σ w vs σ0 ls hm hr hn => ?_⟩
      cases hr with | cons _ v _ vs' h1 h2 =>
      cases h1
      obtain ⟨σ1, e1, e2, n1⟩ := hn.snoc (l := []) none (fun _ _ _ h => by cases h)
      obtain ⟨σ2, e3, n2, r2⟩ := hs σ w vs' σ1 _ hm h2 n1
      exact ⟨σ2, e1.trans e3, by simpa [laLists] using n2, .cons _ _ _ _ (.slic0 _ _ _ _) (by simpa using r2)⟩
    · split at h
      · rename_i hc
        obtain ⟨las, hK, hs⟩ := normL_sound rest _ _ h
        refine ⟨_, hK, fun σ w vs σ0 ls hm hr hn => ?_⟩
        cases hr with | cons _ v _ vs' h1 h2 =>
        obtain ⟨σ2, e3, n2, r2⟩ := hs σ w vs' σ0 ls hm h2 hn
        exact ⟨σ2, e3, by simpa [laLists] using n2, .cons _ _ _ _ (h1.closed hc) (by simpa using r2)⟩
      · cases h

/-- a call of such a function -/
def lav (g : List LA → Option (AV × Option Blk)) : List AV → Mem → ∀ {ρ : Type}, (AV → Option Blk → Option ρ) → Option ρ := fun args mem _ K =>
  normL mem args fun las => match g las with
    | some (v, none) => K v none
    | some (v, some B) => (match v.move 0 mem.length with
      | some v' => K v' (some B)
      | none => none)
    | none => none

/-- values with their lists that stand for something -/
def wfA (las : List LA) : Prop := wfN (laArgs las 0) (laLists las)

theorem quietAt_of_runA {X : Cx} (hX : CxOK P X) {L : Loops} {keep : List Nat} {f : FuncId} {fn : Func} {c : Code} (hf : P.funcs[f]? = some fn) (hb : fn.body = some c) (hn : (fn.name == "runtime.NumGoroutine") = false) (hL : LoopsOK P fn.ntmps L c)
    {g : List LA → Option (AV × Option Blk)} (h : ∀ las v, g las = some v → wfA las → ∃ fuel, runNL X L keep fuel fn c (laArgs las 0) (laLists las) = some v) : QuietAt P f (lav g) := by
  intro args mem ρ K r hg
  unfold lav at hg
  obtain ⟨las, hg, hs⟩ := normL_sound args _ _ hg
  have key : ∀ (σ : Ren) (w : World) (real : Array Value), RL σ args real.toList → MemRel σ mem w → ∀ v nb, g las = some (v, nb) → (nb.isSome = true → σ mem.length = none) →
      (match nb with
      | none => CallTo P f real w (Leaves σ mem w v none)
      | some B => ∀ v', v.move 0 mem.length = some v' → CallTo P f real w (Leaves σ mem w v' (some B))) := by
    intro σ w real hr hm v nb hgv hnb
    obtain ⟨σ1, _, n1, r1⟩ := hs σ w real.toList (fun _ => none) [] hm hr (NSt.empty w)
    rw [List.nil_append] at n1
    obtain ⟨fuel, hrun⟩ := h las (v, nb) hgv ⟨σ1, w, _, n1, r1⟩
    unfold runNL at hrun
    obtain ⟨v1, mem1, hk, hcall⟩ := runKL_sound hX hf hb hL hrun
    have hc := hcall w _ σ1 w real n1.fst r1
    split at hk
    · rename_i hcl
      simp only [Option.some.injEq, Prod.mk.injEq] at hk
      obtain ⟨rfl, rfl⟩ := hk
      refine callTo_of_calls hf hb hn (hc.mono fun e w' ⟨σ', rv, he, _, hv, hst⟩ => ⟨rv, he, ?_, hv.closed hcl⟩)
      exact Below.mk hst.1.os hst.1.tape hst.1.output hst.1.size (fun k hk => hst.1.old k hk (fun h => h))
    · split at hk
      · rename_i k len hkn
        split at hk
        · rename_i B hB
          rw [nth_eq] at hB
          obtain ⟨hc1, hk⟩ := bif_some hk
          simp only [Bool.and_eq_true] at hc1
          split at hk
          · rename_i v0 hv0
            simp only [Option.some.injEq, Prod.mk.injEq] at hk
            obtain ⟨rfl, rfl⟩ := hk
            intro v' hv'
            refine callTo_of_calls hf hb hn (hc.mono fun e w' ⟨σ', rv, he, _, hv, hst⟩ => ⟨rv, he, ?_, ?_⟩)
            · exact Below.mk hst.1.os hst.1.tape hst.1.output hst.1.size (fun k hk => hst.1.old k hk (fun h => h))
            · have hpos := (Nat.blt_eq ▸ hc1.2 : _ < _)
              obtain ⟨⟨b, δ, s⟩, hp⟩ := R.names hpos hv hkn
              have hbr := hst.1.blk _ _ _ _ _ hp hB
              refine ⟨b, δ, s, ?_, hst.1.dom _ _ _ _ hp, ?_, ?_⟩
              · rcases hst.1.wrs _ _ _ _ _ hp hB hc1.1.1 with h | h
                · exact h
                · cases h
              · have h1 := R.move (σ' := upd (fun _ => none) 0 (b, δ, s)) (fun p h => by rw [hp] at h; simpa [upd] using h) hv hv0
                exact R.move (fun p h => by simpa [upd] using h) h1 hv'
              · obtain ⟨C, e, lo, hi, g1, g2, g3, g4, g5⟩ := hbr.ex
                refine ⟨C, e, lo, hi, g1, g2, g3, fun o v hv => ?_, g5⟩
                obtain ⟨rv, g6, g7⟩ := g4 o v hv
                exact ⟨rv, g6, R.closed (Cont.at_closed hc1.1.2 hv) g7⟩
          · cases hk
        · cases hk
      · cases hk
  split at hg
  · rename_i v hv
    exact ⟨v, none, hg, fun σ w real hr hm _ => key σ w real hr hm v none hv (by simp)⟩
  · rename_i v B hv
    split at hg
    · rename_i v' hv'
      exact ⟨v', some B, hg, fun σ w real hr hm hn => key σ w real hr hm v (some B) hv hn v' hv'⟩
    · cases hg
  · cases hg

end Pw

namespace Pw
open Go

theorem wfN.mem {args : List AV} {ls : List (List Nat)} (h : wfN args ls) : wfL args := by
  obtain ⟨σ, w, vs, _, hr⟩ := h
  exact ⟨σ, vs, hr⟩

theorem wfL_all {l : List AV} (h : wfL l) : ∀ a ∈ l, wf1 a := by
  obtain ⟨σ, m, h⟩ := h
  induction l generalizing m with
  | nil => simp
  | cons x l ih =>
    cases h with
    | cons _ v _ m h1 h2 =>
      intro a ha
      cases ha with
      | head => exact ⟨σ, v, h1⟩
      | tail _ ha => exact ih m h2 a ha

theorem laArgs_list : ∀ (las : List LA) (n : Nat) (l : List Nat), l ∈ laLists las → ∃ k, AV.slice k 0 l.length false ∈ laArgs las n
  | .v a :: r, n, l, h => by
    obtain ⟨k, hk⟩ := laArgs_list r n l h
    exact ⟨k, by simp [laArgs, hk]⟩
  | .l b :: r, n, l, h => by
    simp only [laLists, List.mem_cons] at h
    rcases h with rfl | h
    · exact ⟨n, by simp [laArgs]⟩
    · obtain ⟨k, hk⟩ := laArgs_list r (n + 1) l h
      exact ⟨k, by simp [laArgs, hk]⟩

/-- lists are short enough -/
theorem wfA.len {las : List LA} (h : wfA las) (i : Nat) {l : List Nat} (hl : (laLists las)[i]? = some l) : l.length < 9223372036854775808 := by
  obtain ⟨k, hk⟩ := laArgs_list las 0 l (List.mem_of_getElem? hl)
  obtain ⟨σ, v, hv⟩ := wfL_all (wfN.mem h) _ hk
  generalize he : l.length = n at hv
  cases hv with
  | slice _ _ _ _ cap b δ s hσ h1 h2 h3 => omega
  | slic0 => omega

/-- and their bytes are bytes -/
theorem wfA.bytes {las : List LA} (h : wfA las) (i : Nat) {l : List Nat} (hl : (laLists las)[i]? = some l) : ∀ b ∈ l, b < 256 := by
  intro b hb
  have hmem := List.mem_of_getElem? hl
  obtain ⟨σ, w, vs, hn, hr⟩ := h
  have key : ∀ (las : List LA) (n : Nat) (pre : List (List Nat)) (vs : List Value), pre.length = n → NSt w σ (pre ++ laLists las) → RL σ (laArgs las n) vs → l ∈ laLists las → b < 256 := by
    intro las
    induction las with
    | nil => intro n pre vs _ _ _ hm; simp [laLists] at hm
    | cons x r ih =>
      intro n pre vs hp hn hr hm
      cases x with
      | v a =>
        simp only [laArgs] at hr
        cases hr with | cons _ v _ vs' h1 h2 =>
        exact ih n pre vs' hp hn h2 hm
      | l c =>
        simp only [laArgs] at hr
        cases hr with | cons _ v _ vs' h1 h2 =>
        simp only [laLists, List.mem_cons] at hm
        rcases hm with rfl | hm
        · have hlen : 0 < l.length := List.length_pos_of_mem hb
          generalize he : l.length = m at h1
          cases h1 with
          | slic0 => omega
          | slice _ _ _ _ cap bb δ s hσ q1 q2 q3 =>
            have hg : (pre ++ laLists (.l l :: r))[n]? = some l := by
              rw [List.getElem?_append_right (by omega), hp, Nat.sub_self]; rfl
            obtain ⟨-, hbr⟩ := hn.blk _ _ _ _ _ hσ hg
            obtain ⟨j, hj⟩ := List.mem_iff_getElem?.1 hb
            obtain ⟨C, e, lo, hi, g1, g2, g3, g4, g5⟩ := hbr.ex
            obtain ⟨rv, -, hv⟩ := g4 j (.u .u8 b) (by simp [blkOf, Cont.at?, hj])
            cases hv with | u _ _ _ hb' => simpa [IntKind.bits] using hb'
        · exact ih (n + 1) (pre ++ [c]) vs' (by simp [hp]) (by simpa [laLists] using hn) h2 hm
  exact key las 0 [] vs rfl (by simpa using hn) hr hmem

theorem wfA.val {las : List LA} (h : wfA las) {a : AV} (ha : a ∈ laArgs las 0) : wf1 a := wfL_all (wfN.mem h) a ha

end Pw
namespace Pw
open Go
variable {P : Program} {ρ : Type}

/-! ### contracts with a condition that need not be settled at once -/

theorem bytesK_bind (c : Cont) (off n : Nat) (K : List Nat → Option ρ) : c.bytesK off n K = (c.bytesK off n some).bind K := by
  unfold Cont.bytesK
  split
  · rename_i l
    cases h : decide (off + n ≤ l.length) <;> rfl
  · split
    · rename_i l _
      cases h : (Nat.beq l.length n && Nat.ble (off + n) _) <;> rfl
    · rfl
  · rfl
  · rfl
theorem sliceBytesK_bind (mem : Mem) (x : AV) (K : List Nat → Option ρ) : sliceBytesK mem x K = (sliceBytesK mem x some).bind K := by
  unfold sliceBytesK
  split
  · rfl
  · rfl
  · split
    · exact bytesK_bind _ _ _ _
    · rfl
  · rfl
theorem normL_bind (mem : Mem) : ∀ (args : List AV) (ρ : Type) (K : List LA → Option ρ), normL mem args K = (normL mem args some).bind K
  | [], ρ, K => rfl
  | a :: rest, ρ, K => by
    have key : ∀ x : LA, (normL mem rest fun las => K (x :: las)) = (normL mem rest fun las => some (x :: las)).bind K := by
      intro x
      rw [normL_bind mem rest ρ (fun las => K (x :: las)), normL_bind mem rest (List LA) (fun las => some (x :: las))]
      cases normL mem rest some <;> rfl
    unfold normL
    split
    · rename_i id off len ap
      rw [sliceBytesK_bind mem _ (fun l => normL mem rest fun las => K (LA.l l :: las)), sliceBytesK_bind mem _ (fun l => normL mem rest fun las => some (LA.l l :: las))]
      cases sliceBytesK mem (AV.slice id off len ap) some with
      | none => rfl
      | some l => exact key _
    · exact key _
    · exact key _
    · split
      · exact key _
      · rfl

def lavG (c : List LA → Bool) (g : List LA → Option (AV × Option Blk)) : List AV → Mem → ∀ {ρ : Type}, (AV → Option Blk → Option ρ) → Option ρ := fun args mem _ K =>
  normL mem args fun las => bif c las then (match g las with
    | some (v, none) => K v none
    | some (v, some B) => (match v.move 0 mem.length with
      | some v' => K v' (some B)
      | none => none)
    | none => none) else none

theorem lavG_at {f : FuncId} {c : List LA → Bool} {g : List LA → Option (AV × Option Blk)} (h : QuietAt P f (lav fun las => bif c las then g las else none)) : QuietAt P f (lavG c g) := by
  intro args mem ρ K r hr
  refine h args mem ρ K r ?_
  rw [← hr]
  unfold lav lavG
  rw [normL_bind mem args ρ, normL_bind mem args ρ (fun las => bif c las then (match g las with
    | some (v, none) => K v none
    | some (v, some B) => (match v.move 0 mem.length with
      | some v' => K v' (some B)
      | none => none)
    | none => none) else none)]
  cases normL mem args some with
  | none => rfl
  | some las =>
    simp only [Option.bind_some]
    cases c las <;> rfl
end Pw
