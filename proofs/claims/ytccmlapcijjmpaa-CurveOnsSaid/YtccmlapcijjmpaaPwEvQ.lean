/- A part of the proof: PwEvQ. -/
import Derived.Test.YtccmlapcijjmpaaPwEvP
namespace Pw
open Go Go.RowKit

variable {P : Program} {T : List (Nat × TE)} {ρ : Type}

section
variable {nt : Nat} {ops : Array Oper} {envs : Nat → Env} {mems : Nat → Mem} {vs : Nat → AV} {effs : Nat → Eff} {bs : Nat → Bool} {fs : List (Option Nat)}

/-- what stands after some operations of a drawn region -/
structure Inv (nt : Nat) (ops : Array Oper) (envs : Nat → Env) (mems : Nat → Mem) (vs : Nat → AV) (effs : Nat → Eff) (W : World) (Wr : Nat → Prop) (σ0 : Ren) (d0 : List Deferred) (S : Nat → Bool) (a : Act) (w : World) : Prop where
  closed : Closed ops S
  small : ∀ i, S i = true → i < ops.size
  rel : ∃ σ, Ext σ0 σ ∧ EnvR σ nt (En ops (envs 0) vs S ops.size) a ∧ St W Wr σ (Gm effs (mems 0 ++ Al effs ops.size) S ops.size) w ∧
    (∀ i p, σ i = some p → i < (mems 0).length ∨ ∃ k, S k = true ∧ (∃ B, effs k = .alloc B) ∧ i = (mems k).length) ∧
    (∀ k id B, S k = true → effs k = .store id B → ∃ p, σ id = some p)
  defers : a.defers = d0

def ins (S : Nat → Bool) (i : Nat) : Nat → Bool := fun k => if k = i then true else S k
theorem ins_self (S : Nat → Bool) (i : Nat) : ins S i i = true := by simp [ins]
theorem ins_ne {S : Nat → Bool} {i k : Nat} (h : k ≠ i) : ins S i k = S k := by simp [ins, h]

theorem slotIn_iff {a b : Option Nat} : slotIn a b = true ↔ ∃ t, a = some t ∧ b = some t := by
  unfold slotIn
  cases a with
  | none => simp
  | some a =>
    cases b with
    | none => simp
    | some b =>
      simp only [Option.some.injEq, exists_eq_left']
      constructor
      · intro h; exact (Nat.eq_of_beq_eq_true h).symm
      · intro h; subst h; exact Nat.beq_refl _

theorem dstIn_iff {d : Option Nat} {l : List Nat} : dstIn d l = true ↔ ∃ t, d = some t ∧ t ∈ l := by
  unfold dstIn
  cases d with
  | none => simp
  | some d =>
    simp only [List.any_eq_true, Option.some.injEq, exists_eq_left']
    constructor
    · rintro ⟨t, ht, h⟩; rw [Nat.eq_of_beq_eq_true h]; exact ht
    · intro h; exact ⟨d, h, Nat.beq_refl _⟩

theorem Inv.step (hreg : regOk ops fs = true) (hl : AllLex P nt ops envs mems vs effs bs fs) {W : World} {Wr : Nat → Prop} {σ0 : Ren} {d0 : List Deferred} {S : Nat → Bool} {a : Act} {w : World} {Q' : Exit → Act → World → Prop}
    (hI : Inv nt ops envs mems vs effs W Wr σ0 d0 S a w) {i : Nat} {o : Oper} (ho : ops[i]? = some o) (hi : S i = false) (hready : ∀ e ∈ o.after.toList, Region.binds .any e = true → S e.on = true) :
    wpOp P ops Q' i (fun a' w' => Inv nt ops envs mems vs effs W Wr σ0 d0 (ins S i) a' w') a w := by
  obtain ⟨hcl, hsm, ⟨σ, hσ0, henv, hst, hdom, hsto⟩, hdef⟩ := hI
  have hil : i < ops.size := (Array.getElem?_eq_some_iff.1 ho).1
  have hL := hl i o ho
  -- operations that conflict stand in order
  have hord : ∀ k x, ops[k]? = some x → (conf ops (x, fs.getD k none) (o, fs.getD i none) = true ∧ conf ops (o, fs.getD i none) (x, fs.getD k none) = true) → k ≠ i → S k = decide (k < i) := by
    intro k x hx hc hki
    rcases Nat.lt_or_gt_of_ne hki with h | h
    · rw [decide_eq_true h]; exact regOk_order hreg hcl h hx ho hc.1 (.inr hready)
    · rw [decide_eq_false (by omega)]
      cases hk : S k with
      | false => rfl
      | true =>
        have := regOk_order hreg hcl h ho hx hc.2 (.inl hk)
        rw [hi] at this; cases this
  have hord' : ∀ k, k < ops.size → (∀ x, ops[k]? = some x → k ≠ i → conf ops (x, fs.getD k none) (o, fs.getD i none) = true ∧ conf ops (o, fs.getD i none) (x, fs.getD k none) = true) → S k = decide (k < i) := by
    intro k hk h
    obtain ⟨x, hx⟩ := op_at (ops := ops) hk
    by_cases e : k = i
    · subst e; rw [hi, decide_eq_false (by omega)]
    · exact hord k x hx (h x hx e) e
  -- the slots that the operation names hold what they hold in the text's order
  have hslot : ∀ t, (∀ k x, ops[k]? = some x → x.dst = some t → k ≠ i → conf ops (x, fs.getD k none) (o, fs.getD i none) = true ∧ conf ops (o, fs.getD i none) (x, fs.getD k none) = true) → look t (En ops (envs 0) vs S ops.size) = look t (envs i) := by
    intro t ht
    rw [envs_En hl i (by omega) t]
    rw [En_congr (S' := fun k => decide (k < i)) ops.size (fun k hk hd => hord' k hk fun x hx hki => ht k x hx (by rw [hx] at hd; simpa using hd) hki)]
    rw [En_skip (S := fun k => decide (k < i)) (j := i) ops.size (by omega) (fun k h1 _ => decide_eq_false (by omega))]
    exact En_congr i fun k hk _ => decide_eq_true hk
  have hnamed : ∀ t, t ∈ named o → look t (En ops (envs 0) vs S ops.size) = look t (envs i) := fun t ht => hslot t fun k x hx hd _ => by
    constructor <;> simp only [conf, Bool.or_eq_true]
    · exact .inl (.inl (.inl (.inl (.inl (dstIn_iff.2 ⟨t, hd, ht⟩)))))
    · exact .inl (.inl (.inl (.inl (.inr (dstIn_iff.2 ⟨t, hd, ht⟩)))))
  have hgd : ∀ d, gslot ops o = some d → look d (En ops (envs 0) vs S ops.size) = look d (envs i) := fun d hd => hslot d fun k x hx hxd _ => by
    constructor <;> simp only [conf, Bool.or_eq_true]
    · exact .inl (.inl (.inl (.inr (slotIn_iff.2 ⟨d, hxd, hd⟩))))
    · exact .inl (.inl (.inr (slotIn_iff.2 ⟨d, hxd, hd⟩)))
  have hev : ∀ x ∈ o.op.operands.toList, evO (En ops (envs 0) vs S ops.size) x = evO (envs i) x := by
    intro x hx
    cases x with
    | tmp t => exact hnamed t (by simp only [named, List.mem_filterMap]; exact ⟨.tmp t, hx, rfl⟩)
    | const v => rfl
    | global g => rfl
    | func f => rfl
  have hwant := hL.want σ a fun d hd => by rw [← hgd d hd]; exact henv.slot d
  -- the set goes on
  have hcl' : Closed ops (ins S i) := by
    intro k x hx hk e he hb
    by_cases ek : k = i
    · subst ek
      rw [ho] at hx; cases hx
      have := hready e he hb
      by_cases e2 : e.on = k
      · rw [e2]; exact ins_self _ _
      · rw [ins_ne e2]; exact this
    · rw [ins_ne ek] at hk
      have := hcl k x hx hk e he hb
      by_cases e2 : e.on = i
      · rw [e2]; exact ins_self _ _
      · rw [ins_ne e2]; exact this
  have hsm' : ∀ k, ins S i k = true → k < ops.size := by
    intro k hk
    by_cases ek : k = i
    · subst ek; exact hil
    · rw [ins_ne ek] at hk; exact hsm k hk
  -- the slots behind it
  have hlook' : ∀ t, look t (En ops (envs 0) vs (ins S i) ops.size) = if o.dst = some t then vs i else look t (En ops (envs 0) vs S ops.size) := by
    intro t
    by_cases ht : o.dst = some t
    · rw [if_pos ht]
      have h1 : look t (En ops (envs 0) vs (ins S i) ops.size) = look t (envs (i + 1)) := by
        rw [envs_En hl (i + 1) (by omega) t]
        rw [En_congr (S' := fun k => decide (k < i + 1)) ops.size (fun k hk hd => ?_)]
        · rw [En_skip (S := fun k => decide (k < i + 1)) (j := i + 1) ops.size (by omega) (fun k h1 _ => decide_eq_false (by omega))]
          exact En_congr (i + 1) fun k hk _ => decide_eq_true hk
        · by_cases ek : k = i
          · subst ek; rw [ins_self, decide_eq_true (by omega)]
          · rw [ins_ne ek, hord' k hk fun x hx _ => ?_]
            · by_cases h : k < i
              · rw [decide_eq_true h, decide_eq_true (by omega)]
              · rw [decide_eq_false h, decide_eq_false (by omega)]
            · have hxd : x.dst = some t := by rw [hx] at hd; simpa using hd
              constructor <;> simp only [conf, Bool.or_eq_true]
              · exact .inl (.inr (slotIn_iff.2 ⟨t, hxd, ht⟩))
              · exact .inl (.inr (slotIn_iff.2 ⟨t, ht, hxd⟩))
      rw [h1, hL.lk t, if_pos ht]
    · rw [if_neg ht]
      refine En_congr ops.size fun k hk hd => ?_
      by_cases ek : k = i
      · subst ek; rw [ho] at hd; exact absurd (by simpa using hd) ht
      · exact ins_ne ek
  have hput : ∀ (σ' : Ren) (rv : Value), Ext σ σ' → R σ' (vs i) rv → EnvR σ' nt (En ops (envs 0) vs (ins S i) ops.size) (a.put o.dst rv) := by
    intro σ' rv he hv
    cases hd : o.dst with
    | none =>
      have : ∀ t, look t (En ops (envs 0) vs (ins S i) ops.size) = look t (En ops (envs 0) vs S ops.size) := fun t => by rw [hlook' t, hd]; simp
      exact (henv.ext he).look_eq this
    | some d =>
      refine ((henv.ext he).put (hL.lt d hd) hv).look_eq fun t => ?_
      rw [hlook' t, hd, look_cons]
      simp
  -- stores
  have hstore : ∀ k id B, effs k = .store id B → k < ops.size → ∃ x, ops[k]? = some x ∧ isStore x.op = true := by
    intro k id B he hk
    obtain ⟨x, hx⟩ := op_at (ops := ops) hk
    refine ⟨x, hx, ?_⟩
    cases hs : isStore x.op with
    | true => rfl
    | false => exact absurd he ((hl k x hx).isst hs id B)
  have hmemN : memOp o.op = true → ∀ k id B, effs k = .store id B → k < ops.size → disj (fs.getD k none) (fs.getD i none) = false → disj (fs.getD i none) (fs.getD k none) = false → S k = decide (k < i) := by
    intro hm k id B he hk hd1 hd2
    refine hord' k hk fun x hx _ => ?_
    obtain ⟨x', hx', hs⟩ := hstore k id B he hk
    rw [hx] at hx'; cases hx'
    have hmx : memOp x.op = true := by revert hs; cases x.op <;> simp [isStore, memOp]
    constructor <;> simp only [conf, Bool.or_eq_true, Bool.and_eq_true]
    · exact .inr ⟨.inl hs, ⟨hmx, hm⟩, by rw [hd1]; rfl⟩
    · exact .inr ⟨.inr hs, ⟨hm, hmx⟩, by rw [hd2]; rfl⟩
  have hmemS : memOp o.op = true → ∀ j, (∀ id, fs.getD i none = some id → j = id) → ∀ k B, effs k = .store j B → k < ops.size → S k = decide (k < i) := by
    intro hm j hj k B he hk
    obtain ⟨x, hx⟩ := op_at (ops := ops) hk
    have hf := (hl k x hx).fst j B he
    refine hmemN hm k j B he hk ?_ ?_
    · rw [hf]
      cases hg : fs.getD i none with
      | none => rfl
      | some id => rw [hj id hg]; simp [disj]
    · rw [hf]
      cases hg : fs.getD i none with
      | none => rfl
      | some id => rw [hj id hg]; simp [disj]
  have hGi : memOp o.op = true → ∀ j, (∀ id, fs.getD i none = some id → j = id) → (Gm effs (mems 0 ++ Al effs ops.size) S ops.size)[j]? = (Gm effs (mems 0 ++ Al effs ops.size) (fun _ => true) i)[j]? := by
    intro hm j hj
    rw [Gm_at (S' := fun k => decide (k < i)) ops.size (fun k B hk he => hmemS hm j hj k B he hk)]
    rw [Gm_skip_at (S := fun k => decide (k < i)) (j := i) ops.size (by omega) (fun k B h1 _ _ => decide_eq_false (by omega))]
    exact Gm_at i fun k B hk _ => decide_eq_true hk
  -- where nothing is stored
  have hGsame : (∀ id B, effs i ≠ .store id B) → Gm effs (mems 0 ++ Al effs ops.size) (ins S i) ops.size = Gm effs (mems 0 ++ Al effs ops.size) S ops.size := by
    intro hns
    refine Gm_congr ops.size fun k id B _ he => ins_ne fun e => ?_
    subst e; exact hns id B he
  unfold wpOp
  simp only [ho]
  cases hb : bs i with
  | false =>
    rw [hb] at hwant
    obtain ⟨hv, heff⟩ := hL.skip hb
    simp only [hwant, Bool.false_eq_true, if_false]
    refine ⟨hcl', hsm', ⟨σ, hσ0, hput σ undef (.refl σ) (by rw [hv]; exact .tup _ _ .nil), ?_, fun j p hj => ?_, fun k id B hk he => ?_⟩, by rw [Act.put_defers']; exact hdef⟩
    · rw [hGsame (by rw [heff]; simp)]; exact hst
    · rcases hdom j p hj with h | ⟨k, h1, h2⟩
      · exact .inl h
      · refine .inr ⟨k, ?_, h2⟩
        by_cases e : k = i
        · subst e; exact ins_self _ _
        · rw [ins_ne e]; exact h1
    · by_cases e : k = i
      · subst e; rw [heff] at he; cases he
      · rw [ins_ne e] at hk; exact hsto k id B hk he
  | true =>
    rw [hb] at hwant
    simp only [hwant, if_true]
    -- a new block lies nowhere yet
    have hnew : ∀ B, effs i = .alloc B → σ (mems i).length = none := by
      intro B he
      have hli := mems_length hl i (by omega)
      have hmono : ∀ k k', k ≤ k' → k' ≤ ops.size → (mems k).length ≤ (mems k').length := by
        intro k k' h1 h2
        obtain ⟨e, hee⟩ := Al_prefix (effs := effs) (j := k) k' h1
        rw [mems_length hl k (by omega), mems_length hl k' h2, hee, List.length_append]; omega
      have hgrow : ∀ k, k < ops.size → (∃ B, effs k = .alloc B) → (mems k).length < (mems (k + 1)).length := by
        rintro k hk ⟨B', he'⟩
        obtain ⟨x, hx⟩ := op_at (ops := ops) hk
        rw [(hl k x hx).mm, he']; simp [Eff.on]
      cases hn : σ (mems i).length with
      | none => rfl
      | some p =>
        rcases hdom _ p hn with h | ⟨k, h1, h2, h3⟩
        · omega
        · have hki : k ≠ i := by intro e; subst e; rw [hi] at h1; cases h1
          have hks := hsm k h1
          rcases Nat.lt_or_gt_of_ne hki with h | h
          · have g1 := hgrow k hks h2
            have g2 := hmono (k + 1) i h (by omega)
            omega
          · have g1 := hgrow i hil ⟨B, he⟩
            have g2 := hmono (i + 1) k h (by omega)
            omega
    obtain ⟨hsid, hop⟩ := hL.does hb W Wr σ (Gm effs (mems 0 ++ Al effs ops.size) S ops.size) w a.eval hst
      (fun hm j B hfp hj => by rw [hGi hm j (fun id e => hfp id (by rw [← hL.fp hb]; exact e))]; exact mems_prefix hl i (by omega) j B hj)
      (fun B he => by
        have hn := hnew B he
        refine ⟨?_, hn⟩
        rw [Gm_keep ops.size fun k id B' _ hk hs => ?_]
        · obtain ⟨e, hee⟩ := Al_prefix (effs := effs) (j := i + 1) ops.size hil
          simp only [Al, he] at hee
          rw [hee, mems_length hl i (by omega), List.getElem?_append_right (by omega), show (mems 0).length + (Al effs i).length - (mems 0).length = (Al effs i).length by omega]
          rw [List.append_assoc, List.getElem?_append_right (Nat.le_refl _), Nat.sub_self]
          simp
        · intro e
          obtain ⟨p, hp⟩ := hsto k id B' hk hs
          rw [e, hn] at hp; cases hp)
      (fun x hx => by rw [← hev x hx]; exact henv.eval x)
    refine .inl (OpTo.wp hop fun rv w' ⟨σ', e1, e2, e3, e4⟩ => ?_)
    refine ⟨hcl', hsm', ⟨σ', hσ0.trans e1, hput σ' rv e1 e2, ?_, fun j p hj => ?_, fun k id B hk he => ?_⟩, by rw [Act.put_defers']; exact hdef⟩
    · cases heff : effs i with
      | none => rw [hGsame (by rw [heff]; simp)]; rw [heff] at e3; exact e3
      | alloc B => rw [hGsame (by rw [heff]; simp)]; rw [heff] at e3; exact e3
      | store id B =>
        rw [heff] at e3
        simp only [Eff.full] at e3
        have hm : memOp o.op = true := by
          obtain ⟨x, hx, hs⟩ := hstore i id B heff hil
          rw [ho] at hx; cases hx
          revert hs; cases o.op <;> simp [isStore, memOp]
        have hfi := hL.fst id B heff
        have : Gm effs (mems 0 ++ Al effs ops.size) (ins S i) ops.size = (Gm effs (mems 0 ++ Al effs ops.size) S ops.size).set id B := by
          refine List.ext_getElem? fun j => ?_
          by_cases ej : j = id
          · subst ej
            rw [Gm_at (S' := fun k => decide (k < i + 1)) ops.size (fun k B' hk he => ?_)]
            · rw [Gm_skip_at (S := fun k => decide (k < i + 1)) (j := i + 1) ops.size (by omega) (fun k B h1 _ _ => decide_eq_false (by omega))]
              simp only [Gm, heff, show decide (i < i + 1) = true from decide_eq_true (by omega), if_true]
              simp only [List.getElem?_set, if_true]
              rw [Gm_length, Gm_length]
            · by_cases ek : k = i
              · subst ek; rw [ins_self, decide_eq_true (by omega)]
              · rw [ins_ne ek, hmemS hm j (fun id e => by rw [hfi] at e; exact Option.some.inj e) k B' he hk]
                by_cases h : k < i
                · rw [decide_eq_true h, decide_eq_true (by omega)]
                · rw [decide_eq_false h, decide_eq_false (by omega)]
          · rw [List.getElem?_set_ne (Ne.symm ej)]
            refine Gm_at ops.size fun k B' _ he => ins_ne fun e => ?_
            subst e; rw [heff] at he; cases he; exact ej rfl
        rw [this]; exact e3
    · rcases e4 j p hj with h | ⟨h1, h2⟩
      · rcases hdom j p h with h | ⟨k, h1, h2⟩
        · exact .inl h
        · refine .inr ⟨k, ?_, h2⟩
          by_cases e : k = i
          · subst e; exact ins_self _ _
          · rw [ins_ne e]; exact h1
      · exact .inr ⟨i, ins_self _ _, h1, h2⟩
    · by_cases e : k = i
      · subst e
        obtain ⟨p, hp⟩ := hsid id B he
        exact ⟨p, e1 _ _ hp⟩
      · rw [ins_ne e] at hk
        obtain ⟨p, hp⟩ := hsto k id B hk he
        exact ⟨p, e1 _ _ hp⟩


theorem count_set {l : List Bool} {i : Nat} (h : l[i]? = some false) : (l.set i true).count false + 1 = l.count false := by
  induction l generalizing i with
  | nil => simp at h
  | cons b l ih =>
    cases i with
    | zero => simp only [List.getElem?_cons_zero, Option.some.injEq] at h; subst h; simp
    | succ i =>
      have := ih (i := i) (by simpa using h)
      cases b <;> simp <;> omega

def lst (listed : Array Bool) : Nat → Bool := fun i => listed.getD i false

theorem all_listed {ops : Array Oper} {listed : Array Bool} (hsz : listed.size = ops.size) (hedge : edgesOk ops.toList 0 = true) (hr : Region.ready .any ops listed = []) : ∀ i, i < ops.size → lst listed i = true := by
  have hed : ∀ (l : List Oper) (k : Nat), edgesOk l k = true → ∀ j o, l[j]? = some o → ∀ e ∈ o.after.toList, Region.binds .any e = true → e.on < k + j := by
    intro l
    induction l with
    | nil => intro k _ j o h; simp at h
    | cons x l ih =>
      intro k h j o ho e he hb
      unfold edgesOk at h
      simp only [Bool.and_eq_true, List.all_eq_true, Bool.or_eq_true, Bool.not_eq_true'] at h
      cases j with
      | zero =>
        simp only [List.getElem?_cons_zero, Option.some.injEq] at ho
        subst ho
        rcases h.1 e he with h1 | h1
        · rw [hb] at h1; cases h1
        · have := Nat.le_of_ble_eq_true h1; omega
      | succ j =>
        have := ih (k + 1) h.2 j o (by simpa using ho) e he hb
        omega
  intro i
  induction i using Nat.strongRecOn with
  | _ i ih =>
    intro hi
    cases hl : lst listed i with
    | true => rfl
    | false =>
      obtain ⟨o, ho⟩ := op_at (ops := ops) hi
      have hmem : i ∈ Region.ready .any ops listed := by
        refine mem_ready.2 ⟨?_, o, ho, fun e he hb => ?_⟩
        · simp only [lst] at hl
          simp [hsz, hi] at hl ⊢; exact hl
        · have := hed ops.toList 0 hedge i o (by simpa using ho) e (by simpa using he) hb
          exact ih e.on (by omega) (by omega)
      rw [hr] at hmem; cases hmem

theorem wpAny_inv (hreg : regOk ops fs = true) (hl : AllLex P nt ops envs mems vs effs bs fs) {W : World} {Wr : Nat → Prop} {σ0 : Ren} {d0 : List Deferred} {Q : Exit → Act → World → Prop}
    (hq : ∀ a w, Inv nt ops envs mems vs effs W Wr σ0 d0 (fun i => decide (i < ops.size)) a w → Q .normal a w) :
    ∀ (fuel : Nat) (listed : Array Bool) (a : Act) (w : World), listed.size = ops.size → listed.toList.count false ≤ fuel → Inv nt ops envs mems vs effs W Wr σ0 d0 (lst listed) a w →
      wpAny P .any ops Q fuel listed a w := by
  have hedge : edgesOk ops.toList 0 = true := by
    simp only [regOk, Bool.and_eq_true] at hreg; exact hreg.1
  have hend : ∀ (listed : Array Bool) (a : Act) (w : World), listed.size = ops.size → Region.ready .any ops listed = [] → Inv nt ops envs mems vs effs W Wr σ0 d0 (lst listed) a w → Q .normal a w := by
    intro listed a w hsz hr hI
    refine hq a w ?_
    have : lst listed = fun i => decide (i < ops.size) := by
      funext i
      by_cases h : i < ops.size
      · rw [decide_eq_true h]; exact all_listed hsz hedge hr i h
      · rw [decide_eq_false h]
        cases hc : lst listed i with
        | false => rfl
        | true => exact absurd (hI.small i hc) h
    rw [← this]; exact hI
  intro fuel
  induction fuel with
  | zero =>
    intro listed a w hsz hcnt hI
    have hr : Region.ready .any ops listed = [] := by
      cases hrr : Region.ready .any ops listed with
      | nil => rfl
      | cons i r =>
        have hm : i ∈ Region.ready .any ops listed := by rw [hrr]; simp
        obtain ⟨h1, o, ho, -⟩ := mem_ready.1 hm
        have hi : i < listed.size := by rw [hsz]; exact (Array.getElem?_eq_some_iff.1 ho).1
        have : false ∈ listed.toList := by
          simp [hi] at h1
          rw [← h1]; simp
        have := List.count_pos_iff.2 this
        omega
    exact ⟨hr, hend listed a w hsz hr hI⟩
  | succ fuel ih =>
    intro listed a w hsz hcnt hI
    refine ⟨fun hr => hend listed a w hsz hr hI, fun i hi => ?_⟩
    obtain ⟨h1, o, ho, hall⟩ := mem_ready.1 hi
    have hil : i < listed.size := by rw [hsz]; exact (Array.getElem?_eq_some_iff.1 ho).1
    have hif : lst listed i = false := by simp [lst, hil] at h1 ⊢; exact h1
    have hset : lst (listed.setIfInBounds i true) = ins (lst listed) i := by
      funext k
      by_cases e : k = i
      · subst e; rw [ins_self]; simp [lst, hil]
      · rw [ins_ne e]; simp only [lst, Array.getD_eq_getD_getElem?]; rw [Array.getElem?_setIfInBounds_ne (Ne.symm e)]
    refine wpOp_mono (fun a' w' h => ?_) (hI.step hreg hl ho hif (fun e he hb => hall e (by simpa using he) hb))
    refine ih _ a' w' (by simpa using hsz) ?_ (by rw [hset]; exact h)
    have hg : listed.toList[i]? = some false := by
      simp [hil] at h1
      simp [hil, h1]
    have := count_set hg
    rw [Array.toList_setIfInBounds]
    omega

/-- **a region whose order is drawn does what the text's order does** -/
theorem drawK_sound (hmix : P.follows .mixedOrders = true) (hT : TabOK P T) {O : Quiet} (hO : QuietOK P O) {nt : Nat} {ops : Array Oper} {env : Env} {mem : Mem} {K : Env → Mem → Option ρ} {r : ρ}
    (h : (drawK T O nt ops ops.toList env mem fun env mem fs => bif regOk ops fs then K env mem else none) = some r) :
    ∃ env' mem', K env' mem' = some r ∧ ∀ (W : World) (Wr : Nat → Prop) (σ : Ren) (a : Act) (w : World) (Q : Exit → Act → World → Prop) (id : Nat), FrR W Wr nt σ env mem a w →
      (∀ σ' a' w', Ext σ σ' → FrR W Wr nt σ' env' mem' a' w' → a'.defers = a.defers → Q .normal a' w') → (Code.region id ops true).wp P Q a w := by
  obtain ⟨envs, mems, vs, effs, bs, fs, e1, e2, e3, e4⟩ := drawK_lex hT hO ops.toList 0 env mem _ r h
  obtain ⟨hreg, e3⟩ := bif_some e3
  have hlen : ops.toList.length = ops.size := by simp
  rw [hlen, Nat.zero_add] at e3
  have hl : AllLex P nt ops envs mems vs effs bs fs := fun i o ho => by
    have := e4 i o (by simpa using ho)
    simpa using this
  refine ⟨_, _, e3, fun W Wr σ a w Q id hf hq => ?_⟩
  refine wp_region_any hmix (wpAny_inv hreg hl (W := W) (Wr := Wr) (σ0 := σ) (d0 := a.defers) (fun a' w' hI => ?_) ops.size _ a _ (by simp) (by simp) ?_)
  · obtain ⟨hcl, hsm, ⟨σ', h1, h2, h3, h4, h5⟩, h6⟩ := hI
    refine hq σ' a' w' h1 ⟨⟨?_, fun i p hi => ?_⟩, h2.look_eq fun t => ?_⟩ h6
    · rw [Gm_congr (S' := fun _ => true) ops.size (fun i id B hi _ => decide_eq_true hi), mems_end hl] at h3
      exact h3
    · have hle : ∀ k k', k ≤ k' → k' ≤ ops.size → (mems k).length ≤ (mems k').length := by
        intro k k' h1 h2
        obtain ⟨e, hee⟩ := Al_prefix (effs := effs) (j := k) k' h1
        rw [mems_length hl k (by omega), mems_length hl k' h2, hee, List.length_append]; omega
      rcases h4 i p hi with h | ⟨k, g1, ⟨B, g2⟩, g3⟩
      · exact Nat.lt_of_lt_of_le h (hle 0 _ (by omega) (by omega))
      · have hk : k < ops.size := by simpa using g1
        obtain ⟨x, hx⟩ := op_at (ops := ops) hk
        have : (mems (k + 1)).length = (mems k).length + 1 := by rw [(hl k x hx).mm, g2]; simp [Eff.on]
        have := hle (k + 1) ops.size hk (by omega)
        omega
    · rw [envs_En hl ops.size (by omega) t]
      exact En_congr ops.size fun i hi _ => (decide_eq_true hi).symm
  · have hS : lst (Array.replicate ops.size false) = fun _ => false := by
      funext i
      simp only [lst, Array.getD_eq_getD_getElem?, Array.getElem?_replicate]
      split <;> rfl
    rw [hS]
    refine ⟨fun i o _ h => (by cases h), fun i h => (by cases h), ⟨σ, .refl σ, ?_, ?_, fun i p hi => .inl (by rw [e2]; exact hf.st.2 i p hi), fun k id B h => (by cases h)⟩, rfl⟩
    · rw [En_skip (S := fun _ => false) (j := 0) ops.size (by omega) (fun _ _ _ => rfl)]
      simp only [En]; rw [e1]; exact hf.env
    · rw [Gm_skip (S := fun _ => false) (j := 0) ops.size (by omega) (fun _ _ _ _ _ _ => rfl)]
      simp only [Gm]
      rw [e2]
      exact (hf.st.1.more hf.st.2 _).drawn _

end
end Pw
