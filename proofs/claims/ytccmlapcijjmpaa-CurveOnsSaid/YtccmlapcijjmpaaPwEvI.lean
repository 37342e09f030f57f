/- A part of the proof: PwEvI. -/
import Derived.Test.YtccmlapcijjmpaaPwEvH
namespace Pw
open Go Go.RowKit

variable {P : Program} {T : List (Nat × TE)} {ρ : Type}

/-! ### how the relation of states goes on -/

theorem St.memRel {W : World} {Wr : Nat → Prop} {σ : Ren} {mem : Mem} {w : World} (h : St W Wr σ mem w) : MemRel σ mem w := h.blk

theorem St.below {W : World} {Wr : Nat → Prop} {σ : Ren} {mem : Mem} {w w' : World} (h : St W Wr σ mem w) (hb : Below w.heap.size w w') : St W Wr σ mem w' where
  os := hb.os.trans h.os
  tape := hb.tape.trans h.tape
  output := hb.output.trans h.output
  size := Nat.le_trans h.size hb.size
  old := fun k hk hn => (hb.block k (Nat.lt_of_lt_of_le hk h.size)).trans (h.old k hk hn)
  dom := fun i b δ s hi => Nat.lt_of_lt_of_le (h.dom i b δ s hi) hb.size
  blk := fun i b δ s B hi hB => (h.blk i b δ s B hi hB).same (hb.block b (h.dom i b δ s hi))
  wrs := h.wrs
  inj := h.inj

theorem St.drawn {W : World} {Wr : Nat → Prop} {σ : Ren} {mem : Mem} {w : World} (h : St W Wr σ mem w) (n : Nat) : St W Wr σ mem { w with drawn := n } :=
  h.below ⟨rfl, rfl, rfl, Nat.le_refl _, fun _ _ => rfl⟩

def upd (σ : Ren) (id : Nat) (p : Nat × Nat × Nat) : Ren := fun i => if i = id then some p else σ i
theorem upd_self (σ : Ren) (id : Nat) (p : Nat × Nat × Nat) : upd σ id p id = some p := by simp [upd]
theorem upd_ne {σ : Ren} {id i : Nat} (p : Nat × Nat × Nat) (h : i ≠ id) : upd σ id p i = σ i := by simp [upd, h]
theorem upd_ext {σ : Ren} {id : Nat} {p : Nat × Nat × Nat} (h : σ id = none) : Ext σ (upd σ id p) := by
  intro i q hi
  by_cases e : i = id
  · subst e; rw [h] at hi; cases hi
  · rw [upd_ne p e]; exact hi

theorem St.alloc {W : World} {Wr : Nat → Prop} {σ : Ren} {mem : Mem} {w : World} (h : St W Wr σ mem w) {id : Nat} {B : Blk} (hid : σ id = none) (hB : mem[id]? = some B)
    {C : Array Value} {e : TypeId} (hsz : B.c.size ≤ C.size) (hc : ∀ (o : Nat) (v : AV), B.c.at? o = some v → ∃ rv, C[o]? = some rv ∧ R σ v rv) (fz : Nat × Nat) (hfz : ∀ o, o < C.size → ¬ (fz.1 ≤ o ∧ o < fz.2)) :
    St W Wr (upd σ id (w.heap.size, 0, C.size)) mem { w with heap := w.heap.push (.cells C e fz) } := by
  have hext : Ext σ (upd σ id (w.heap.size, 0, C.size)) := upd_ext hid
  have hold : ∀ k, k < w.heap.size → ({ w with heap := w.heap.push (.cells C e fz) } : World).heap[k]? = w.heap[k]? := by
    intro k hk
    show (w.heap.push _)[k]? = _
    rw [Array.getElem?_push, if_neg (by omega)]
  constructor
  · exact h.os
  · exact h.tape
  · exact h.output
  · show W.heap.size ≤ (w.heap.push _).size; rw [Array.size_push]; have := h.size; omega
  · intro k hk hn; rw [hold k (Nat.lt_of_lt_of_le hk h.size)]; exact h.old k hk hn
  · intro i b δ s hi
    show b < (w.heap.push _).size
    rw [Array.size_push]
    by_cases ei : i = id
    · subst ei; rw [upd_self] at hi; cases hi; omega
    · rw [upd_ne _ ei] at hi; have := h.dom _ _ _ _ hi; omega
  · intro i b δ s Bi hi hBi
    by_cases ei : i = id
    · subst ei; rw [upd_self] at hi; cases hi
      rw [hB] at hBi; cases hBi
      refine ⟨C, e, fz.1, fz.2, ?_, by omega, hsz, fun o v hv => ?_, fun _ o ho => hfz o ho⟩
      · show (w.heap.push _)[w.heap.size]? = _
        simp
      · obtain ⟨rv, h1, h2⟩ := hc o v hv
        exact ⟨rv, by rw [Nat.zero_add]; exact h1, h2.ext hext⟩
    · rw [upd_ne _ ei] at hi
      exact ((h.blk _ _ _ _ _ hi hBi).same (hold b (h.dom _ _ _ _ hi))).ext hext
  · intro i b δ s Bi hi hBi hw
    by_cases ei : i = id
    · subst ei; rw [upd_self] at hi; cases hi; left; exact h.size
    · rw [upd_ne _ ei] at hi; exact h.wrs _ _ _ _ _ hi hBi hw
  · intro i j bi δi si bj δj sj Bi Bj hi hj hij hBi hBj hw hz
    by_cases ei : i = id
    · subst ei
      rw [upd_self] at hi; cases hi
      rw [upd_ne _ (Ne.symm hij)] at hj
      have := h.dom _ _ _ _ hj; omega
    · rw [upd_ne _ ei] at hi
      by_cases e' : j = id
      · subst e'; rw [upd_self] at hj; cases hj
        have := h.dom _ _ _ _ hi; omega
      · rw [upd_ne _ e'] at hj
        exact h.inj _ _ _ _ _ _ _ _ _ _ hi hj hij hBi hBj hw hz

/-- a block that a call has made, taken under a number -/
theorem St.adopt {W : World} {Wr : Nat → Prop} {σ : Ren} {mem : Mem} {w w' : World} (h : St W Wr σ mem w) (hb : Below w.heap.size w w') {id b δ s : Nat} {B : Blk} (hid : σ id = none) (hB : mem[id]? = some B)
    (h1 : w.heap.size ≤ b) (h2 : b < w'.heap.size) (hr : BlkRel (upd σ id (b, δ, s)) B b δ s w') : St W Wr (upd σ id (b, δ, s)) mem w' := by
  have hext : Ext σ (upd σ id (b, δ, s)) := upd_ext hid
  have h' := h.below hb
  constructor
  · exact h'.os
  · exact h'.tape
  · exact h'.output
  · exact h'.size
  · exact h'.old
  · intro i b' δ' s' hi
    by_cases ei : i = id
    · subst ei; rw [upd_self] at hi; cases hi; exact h2
    · rw [upd_ne _ ei] at hi; exact h'.dom _ _ _ _ hi
  · intro i b' δ' s' Bi hi hBi
    by_cases ei : i = id
    · subst ei; rw [upd_self] at hi; cases hi
      rw [hB] at hBi; cases hBi; exact hr
    · rw [upd_ne _ ei] at hi; exact (h'.blk _ _ _ _ _ hi hBi).ext hext
  · intro i b' δ' s' Bi hi hBi hw
    by_cases ei : i = id
    · subst ei; rw [upd_self] at hi; cases hi; left; exact Nat.le_trans h.size h1
    · rw [upd_ne _ ei] at hi; exact h'.wrs _ _ _ _ _ hi hBi hw
  · intro i j bi δi si bj δj sj Bi Bj hi hj hij hBi hBj hw hz
    by_cases ei : i = id
    · subst ei
      rw [upd_self] at hi; cases hi
      rw [upd_ne _ (Ne.symm hij)] at hj
      have := h.dom _ _ _ _ hj; omega
    · rw [upd_ne _ ei] at hi
      by_cases ej : j = id
      · subst ej; rw [upd_self] at hj; cases hj
        have := h.dom _ _ _ _ hi; omega
      · rw [upd_ne _ ej] at hj
        exact h'.inj _ _ _ _ _ _ _ _ _ _ hi hj hij hBi hBj hw hz

/-- blocks that lie nowhere yet -/
theorem St.more {W : World} {Wr : Nat → Prop} {σ : Ren} {mem : Mem} {w : World} (h : St W Wr σ mem w) (hd : ∀ i p, σ i = some p → i < mem.length) (ext : Mem) : St W Wr σ (mem ++ ext) w := by
  have hget : ∀ {i : Nat} {p : Nat × Nat × Nat} {B : Blk}, σ i = some p → (mem ++ ext)[i]? = some B → mem[i]? = some B := by
    intro i p B hi hB
    rwa [List.getElem?_append_left (hd i p hi)] at hB
  exact ⟨h.os, h.tape, h.output, h.size, h.old, h.dom, fun i b δ s B hi hB => h.blk i b δ s B hi (hget hi hB), fun i b δ s B hi hB => h.wrs i b δ s B hi (hget hi hB),
    fun i j bi δi si bj δj sj Bi Bj hi hj hij hBi hBj => h.inj i j bi δi si bj δj sj Bi Bj hi hj hij (hget hi hBi) (hget hj hBj)⟩

/-! ### an operation, up to the world that it leaves -/

def CallTo (P : Program) (f : FuncId) (args : Array Value) (w : World) (Q : Value → World → Prop) : Prop :=
  match (callFunc f args).run P w with
  | .ok (.value v) w' => Q v w'
  | .ok (.enter f' args') w' => Calls P f' args' w' fun e w'' => match e with
    | .returned v => Q v w''
    | _ => False
  | _ => False

def OpTo (P : Program) (o : Oper) (re : Operand → Value) (w : World) (Q : Value → World → Prop) : Prop :=
  match (execOp re o).run P w with
  | .ok (.value v) w' => Q v w'
  | .ok .skip w' => Q undef w'
  | .ok (.enter f' args') w' => Calls P f' args' w' fun e w'' => match e with
    | .returned v => Q v w''
    | _ => False
  | _ => False

theorem OpTo.of_value {o : Oper} {re : Operand → Value} {w w' : World} {v : Value} {Q : Value → World → Prop} (h : (execOp re o).run P w = .ok (.value v) w') (hq : Q v w') : OpTo P o re w Q := by
  unfold OpTo; rw [h]; exact hq
theorem OpTo.of_skip {o : Oper} {re : Operand → Value} {w w' : World} {Q : Value → World → Prop} (h : (execOp re o).run P w = .ok .skip w') (hq : Q undef w') : OpTo P o re w Q := by
  unfold OpTo; rw [h]; exact hq

theorem OpTo.mono {o : Oper} {re : Operand → Value} {w : World} {Q Q' : Value → World → Prop} (h : OpTo P o re w Q) (hq : ∀ v w', Q v w' → Q' v w') : OpTo P o re w Q' := by
  unfold OpTo at *
  split at h
  · exact hq _ _ h
  · exact hq _ _ h
  · refine h.mono fun e w'' he => ?_
    cases e <;> simp only at he ⊢
    exact hq _ _ he
  · exact h.elim

theorem CallTo.mono {f : FuncId} {args : Array Value} {w : World} {Q Q' : Value → World → Prop} (h : CallTo P f args w Q) (hq : ∀ v w', Q v w' → Q' v w') : CallTo P f args w Q' := by
  unfold CallTo at *
  split at h
  · exact hq _ _ h
  · refine h.mono fun e w'' he => ?_
    cases e <;> simp only at he ⊢
    exact hq _ _ he
  · exact h.elim

theorem OpTo.wp {o : Oper} {a : Act} {w : World} {Q : Value → World → Prop} {next : Act → World → Prop} {Q' : Exit → Act → World → Prop} (h : OpTo P o a.eval w Q)
    (hn : ∀ v w', Q v w' → next (a.put o.dst v) w') : o.wp P a w next Q' := by
  unfold OpTo at h
  unfold Oper.wp
  split at h
  · rename_i hr; rw [hr]; exact hn _ _ h
  · rename_i hr; rw [hr]; exact hn _ _ h
  · rename_i hr; rw [hr]
    simp only [Oper.upon]
    refine h.mono fun e w'' he => ?_
    cases e <;> simp only at he ⊢
    exact hn _ _ he
  · exact h.elim

/-- a call of a function value -/
theorem OpTo.of_call {o : Oper} {re : Operand → Value} {c : Call} {fo : Operand} {f : FuncId} {caps : Array Value} {w : World} {Q : Value → World → Prop} (ho : o.op = .call c) (hc : c.callee = .value fo)
    (hf : re fo = .func (.func f) #[] caps) (h : CallTo P f (c.args.map re ++ caps) w Q) : OpTo P o re w Q := by
  have hrun : (execOp re o).run P w = (callFunc f (c.args.map re ++ caps)).run P w := by
    simp [execOp, ho, resolve, hc, hf, Deferred.ofValue, invoke]
  unfold OpTo
  rw [hrun]
  unfold CallTo at h
  split at h
  · rename_i hr; rw [hr]; exact h
  · rename_i hr; rw [hr]; exact h
  · exact h.elim

end Pw
