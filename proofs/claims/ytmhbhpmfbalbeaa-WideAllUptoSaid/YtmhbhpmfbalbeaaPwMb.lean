/- A part of the proof, for all claims alike: PwEvH, PwEvI, PwEvJ, PwEvK, PwEvL, PwEvLc, PwEvLd, PwEvM. -/
import Derived.Laws.BytesString
import Derived.Lib.ConvBytes
import Derived.Test.YtmhbhpmfbalbeaaPwMa
namespace Pw
open Go

variable {P : Program} {T : List (Nat × TE)} {ρ : Type}

/-! ### memory -/

inductive Cont where
  | cells (cs : List AV)
  | bytes (l : List Nat)
  | ints (k : IntKind) (l : List Nat)
  | win (off : Nat) (cs : List AV)

structure Blk where
  c : Cont
  wr : Bool

abbrev Mem := List Blk

def Cont.size : Cont → Nat
  | .cells cs => cs.length
  | .bytes l => l.length
  | .ints _ l => l.length
  | .win o cs => o + cs.length

def Cont.at? : Cont → Nat → Option AV
  | .cells cs, o => cs[o]?
  | .bytes l, o => (l[o]?).map (AV.u .u8)
  | .ints k l, o => (l[o]?).map (AV.u k)
  | .win p cs, o => if o < p then some .unk else cs[o - p]?

structure BlkRel (σ : Ren) (B : Blk) (b δ s : Nat) (w : World) : Prop where
  ex : ∃ C e lo hi, w.heap[b]? = some (.cells C e (lo, hi)) ∧ C.size = δ + s ∧ B.c.size ≤ s ∧
    (∀ (o : Nat) (v : AV), B.c.at? o = some v → ∃ rv, C[δ + o]? = some rv ∧ R σ v rv) ∧
    (B.wr = true → ∀ o, o < C.size → ¬ (lo ≤ o ∧ o < hi))

structure St (W : World) (Wr : Nat → Prop) (σ : Ren) (mem : Mem) (w : World) : Prop where
  os : w.os = W.os
  tape : w.tape = W.tape
  output : w.output = W.output
  size : W.heap.size ≤ w.heap.size
  old : ∀ k, k < W.heap.size → ¬ Wr k → w.heap[k]? = W.heap[k]?
  dom : ∀ (i b δ s : Nat), σ i = some (b, δ, s) → b < w.heap.size
  blk : ∀ (i b δ s : Nat) (B : Blk), σ i = some (b, δ, s) → mem[i]? = some B → BlkRel σ B b δ s w
  wrs : ∀ (i b δ s : Nat) (B : Blk), σ i = some (b, δ, s) → mem[i]? = some B → B.wr = true → W.heap.size ≤ b ∨ Wr b
  inj : ∀ (i j bi δi si bj δj sj : Nat) (Bi Bj : Blk), σ i = some (bi, δi, si) → σ j = some (bj, δj, sj) → i ≠ j → mem[i]? = some Bi → mem[j]? = some Bj →
    Bi.wr = true → (Bj.wr = true ∨ 0 < Bj.c.size) → bi ≠ bj

def MemRel (σ : Ren) (mem : Mem) (w : World) : Prop :=
  ∀ (i b δ s : Nat) (B : Blk), σ i = some (b, δ, s) → mem[i]? = some B → BlkRel σ B b δ s w

theorem Cont.at_lt {c : Cont} {o : Nat} {v : AV} (h : c.at? o = some v) : o < c.size := by
  cases c with
  | cells cs => simp only [Cont.at?] at h; exact (List.getElem?_eq_some_iff.1 h).1
  | bytes l =>
    simp only [Cont.at?, Option.map_eq_some_iff] at h
    obtain ⟨a, h, -⟩ := h
    exact (List.getElem?_eq_some_iff.1 h).1
  | ints k l =>
    simp only [Cont.at?, Option.map_eq_some_iff] at h
    obtain ⟨a, h, -⟩ := h
    exact (List.getElem?_eq_some_iff.1 h).1
  | win p cs =>
    simp only [Cont.at?] at h
    simp only [Cont.size]
    split at h
    · omega
    · have := (List.getElem?_eq_some_iff.1 h).1; omega

theorem Cont.at_some {c : Cont} {o : Nat} (h : o < c.size) : ∃ v, c.at? o = some v := by
  cases c with
  | cells cs => exact ⟨cs[o], by simp [Cont.at?]; exact List.getElem?_eq_getElem h⟩
  | bytes l =>
    have h' : o < l.length := h
    exact ⟨.u .u8 (l[o]'h'), by simp only [Cont.at?, List.getElem?_eq_getElem h', Option.map_some]⟩
  | ints k l =>
    have h' : o < l.length := h
    exact ⟨.u k (l[o]'h'), by simp only [Cont.at?, List.getElem?_eq_getElem h', Option.map_some]⟩
  | win p cs =>
    simp only [Cont.size] at h
    by_cases h1 : o < p
    · exact ⟨.unk, if_pos h1⟩
    · exact ⟨cs[o - p]'(by omega), by simp only [Cont.at?]; rw [if_neg h1, List.getElem?_eq_getElem (by omega)]⟩

theorem BlkRel.cell {σ : Ren} {B : Blk} {b δ s : Nat} {w : World} (h : BlkRel σ B b δ s w) {o : Nat} {v : AV} (hv : B.c.at? o = some v) :
    ∃ rv, w.cell? ⟨b, δ + o, none⟩ = some rv ∧ R σ v rv := by
  obtain ⟨C, e, lo, hi, h1, h2, h3, h4, h5⟩ := h.ex
  obtain ⟨rv, h6, h7⟩ := h4 o v hv
  exact ⟨rv, by simp [World.cell?, h1, h6], h7⟩

theorem BlkRel.same {σ : Ren} {B : Blk} {b δ s : Nat} {w w' : World} (h : BlkRel σ B b δ s w) (hb : w'.heap[b]? = w.heap[b]?) : BlkRel σ B b δ s w' := by
  obtain ⟨C, e, lo, hi, h1, r⟩ := h.ex
  exact ⟨C, e, lo, hi, by rw [hb]; exact h1, r⟩

theorem BlkRel.ext {σ σ' : Ren} (hσ : Ext σ σ') {B : Blk} {b δ s : Nat} {w : World} (h : BlkRel σ B b δ s w) : BlkRel σ' B b δ s w := by
  obtain ⟨C, e, lo, hi, h1, h2, h3, h4, h5⟩ := h.ex
  exact ⟨C, e, lo, hi, h1, h2, h3, fun o v hv => let ⟨rv, h6, h7⟩ := h4 o v hv; ⟨rv, h6, h7.ext hσ⟩, h5⟩

/-- the cells from a place on -/
def Cont.rangeK (c : Cont) (off n : Nat) (K : List AV → Option ρ) : Option ρ :=
  match c with
  | .cells cs => bif Nat.beq off 0 && Nat.beq n cs.length then K cs else bif Nat.ble (off + n) cs.length then K ((cs.drop off).take n) else none
  | .bytes l => bif decide (off + n ≤ l.length) then K ((List.range n).map fun i => .u .u8 (l.getD (off + i) 0)) else none
  | .ints k l => bif decide (off + n ≤ l.length) then K ((List.range n).map fun i => .u k (l.getD (off + i) 0)) else none
  | .win p cs => bif Nat.beq off p && Nat.beq n cs.length then K cs else none

theorem Cont.rangeK_sound {c : Cont} {off n : Nat} {K : List AV → Option ρ} {r : ρ} (h : c.rangeK off n K = some r) :
    ∃ vs, K vs = some r ∧ vs.length = n ∧ ∀ i, i < n → c.at? (off + i) = vs[i]? := by
  unfold Cont.rangeK at h
  split at h
  · rename_i cs
    rcases bif_both h with ⟨hc, h⟩ | ⟨hc, h⟩
    · simp only [Bool.and_eq_true] at hc
      have h0 := Nat.eq_of_beq_eq_true hc.1
      have h1 := Nat.eq_of_beq_eq_true hc.2
      exact ⟨_, h, h1.symm, fun i hi => by subst h0; simp [Cont.at?]⟩
    · obtain ⟨hc, h⟩ := bif_some h
      have hc := Nat.le_of_ble_eq_true hc
      exact ⟨_, h, by rw [List.length_take, List.length_drop]; omega, fun i hi => by simp [Cont.at?, hi]⟩
  · rename_i l
    obtain ⟨hc, h⟩ := bif_some h
    have hc := of_decide_eq_true hc
    refine ⟨_, h, by rw [List.length_map, List.length_range], fun i hi => ?_⟩
    rw [List.getElem?_map, List.getElem?_range hi]
    simp [Cont.at?, List.getD_eq_getElem?_getD, List.getElem?_eq_getElem (show off + i < l.length by omega)]
  · rename_i k l
    obtain ⟨hc, h⟩ := bif_some h
    have hc := of_decide_eq_true hc
    refine ⟨_, h, by rw [List.length_map, List.length_range], fun i hi => ?_⟩
    rw [List.getElem?_map, List.getElem?_range hi]
    simp [Cont.at?, List.getD_eq_getElem?_getD, List.getElem?_eq_getElem (show off + i < l.length by omega)]
  · rename_i p cs
    obtain ⟨hc, h⟩ := bif_some h
    simp only [Bool.and_eq_true] at hc
    have h0 := Nat.eq_of_beq_eq_true hc.1
    have h1 := Nat.eq_of_beq_eq_true hc.2
    refine ⟨_, h, h1.symm, fun i hi => ?_⟩
    simp only [Cont.at?]
    rw [if_neg (by omega), h0, Nat.add_sub_cancel_left]

/-- one cell -/
def Cont.getK (c : Cont) (o : Nat) (K : AV → Option ρ) : Option ρ :=
  match c with
  | .cells cs => match nth cs o with
    | some v => K v
    | none => none
  | .bytes l => bif decide (o < l.length) then K (.u .u8 (l.getD o 0)) else none
  | .ints k l => bif decide (o < l.length) then K (.u k (l.getD o 0)) else none
  | .win p cs => bif Nat.beq o p then (match cs with | v :: _ => K v | [] => none) else none

theorem Cont.getK_sound {c : Cont} {o : Nat} {K : AV → Option ρ} {r : ρ} (h : c.getK o K = some r) : ∃ v, K v = some r ∧ c.at? o = some v := by
  unfold Cont.getK at h
  split at h
  · split at h
    · rename_i v hv; exact ⟨v, h, by rw [nth_eq] at hv; exact hv⟩
    · cases h
  · rename_i l
    obtain ⟨hc, h⟩ := bif_some h
    have hc := of_decide_eq_true hc
    exact ⟨_, h, by simp [Cont.at?, List.getD, List.getElem?_eq_getElem hc]⟩
  · rename_i k l
    obtain ⟨hc, h⟩ := bif_some h
    have hc := of_decide_eq_true hc
    exact ⟨_, h, by simp [Cont.at?, List.getD, List.getElem?_eq_getElem hc]⟩
  · rename_i p cs
    obtain ⟨hc, hK⟩ := bif_some h
    have hc := Nat.eq_of_beq_eq_true hc
    clear h
    subst hc
    cases cs with
    | nil => cases hK
    | cons v l => exact ⟨v, hK, by simp [Cont.at?]⟩

theorem run_loadCells {σ : Ren} {b p : Nat} {w : World} : ∀ (n i : Nat) (vs : List AV) (acc : Array Value), vs.length = n →
    (∀ j v, vs[j]? = some v → ∃ rv, w.cell? ⟨b, p + (i + j), none⟩ = some rv ∧ R σ v rv) →
    ∃ arr, (loadCellsFrom ⟨b, p, none⟩ i n acc).run P w = .ok (acc ++ arr) w ∧ RL σ vs arr.toList
  | 0, i, vs, acc, hl, _ => ⟨#[], by simp [loadCellsFrom], by rw [List.length_eq_zero_iff.1 hl]; exact .nil⟩
  | n + 1, i, [], acc, hl, _ => by simp at hl
  | n + 1, i, v :: vs, acc, hl, h => by
    obtain ⟨rv, h1, h2⟩ := h 0 v rfl
    obtain ⟨arr, h3, h4⟩ := run_loadCells n (i + 1) vs (acc.push rv) (by simpa using hl) (fun j v hv => by
      have := h (j + 1) v (by simpa using hv)
      rwa [show i + (j + 1) = i + 1 + j by omega] at this)
    refine ⟨#[rv] ++ arr, ?_, ?_⟩
    · simp only [loadCellsFrom, Sem.run_bind, add_addr]
      rw [show p + i = p + (i + 0) by omega]
      simp only [run_load, h1, Result.andThen_ok, h3]
      congr 1
      rw [← Array.append_assoc]; simp
    · simpa using RL.cons _ _ _ _ h2 h4

def loadK (T : List (Nat × TE)) (mem : Mem) (t id off : Nat) (K : AV → Option ρ) : Option ρ :=
  match nth mem id with
  | none => none
  | some B => match (teAt T t).ty with
    | .other => none
    | .arr .. | .struct _ => B.c.rangeK off (teAt T t).size fun cs => K (.agg cs)
    | _ => B.c.getK off K

theorem loadK_sound (hT : TabOK P T) {mem : Mem} {t id off : Nat} {K : AV → Option ρ} {r : ρ} (h : loadK T mem t id off K = some r) :
    ∃ v, K v = some r ∧ ∀ (σ : Ren) (w : World) (x : Value), (∀ (b δ s : Nat) (B : Blk), σ id = some (b, δ, s) → mem[id]? = some B → BlkRel σ B b δ s w) → R σ (.ptr id off) x → ∃ rv, (Instr.loadAt t x).run P w = .ok rv w ∧ R σ v rv := by
  unfold loadK at h
  split at h
  · cases h
  · rename_i B hB
    rw [nth_eq] at hB
    have hagg : ∀ (hag : (teAt T t).ty.agg = true), (B.c.rangeK off (teAt T t).size fun cs => K (.agg cs)) = some r →
        ∃ v, K v = some r ∧ ∀ (σ : Ren) (w : World) (x : Value), (∀ (b δ s : Nat) (B : Blk), σ id = some (b, δ, s) → mem[id]? = some B → BlkRel σ B b δ s w) → R σ (.ptr id off) x → ∃ rv, (Instr.loadAt t x).run P w = .ok rv w ∧ R σ v rv := by
      intro hag h
      obtain ⟨vs, hk, hl, hat⟩ := Cont.rangeK_sound h
      refine ⟨_, hk, fun σ w x hm hx => ?_⟩
      cases hx with | ptr _ _ b δ s hσ =>
      have hbr := hm _ _ _ _ hσ hB
      have k := hT.known (ty_agg_ne hag)
      obtain ⟨arr, h1, h2⟩ := run_loadCells (P := P) (σ := σ) (b := b) (p := δ + off) (w := w) (teAt T t).size 0 vs #[] hl (fun j v hv => by
        have hj : j < (teAt T t).size := by rw [← hl]; exact (List.getElem?_eq_some_iff.1 hv).1
        have := hbr.cell (by rw [hat j hj]; exact hv)
        rwa [← Nat.add_assoc, ← Nat.zero_add j] at this)
      refine ⟨.agg arr, ?_, .agg _ _ h2⟩
      simp only [Instr.loadAt, Instr.sureAddr, loadVar, Sem.run_bind, Sem.run_pure, Result.andThen_ok, k.run_isAgg, hag, if_true, k.run_size, loadCells, h1]
      simp
    have hone : ∀ (hne : (teAt T t).ty ≠ .other) (hag : (teAt T t).ty.agg = false), B.c.getK off K = some r →
        ∃ v, K v = some r ∧ ∀ (σ : Ren) (w : World) (x : Value), (∀ (b δ s : Nat) (B : Blk), σ id = some (b, δ, s) → mem[id]? = some B → BlkRel σ B b δ s w) → R σ (.ptr id off) x → ∃ rv, (Instr.loadAt t x).run P w = .ok rv w ∧ R σ v rv := by
      intro hne hag h
      obtain ⟨v, hk, hat⟩ := Cont.getK_sound h
      refine ⟨_, hk, fun σ w x hm hx => ?_⟩
      cases hx with | ptr _ _ b δ s hσ =>
      have hbr := hm _ _ _ _ hσ hB
      have k := hT.known hne
      obtain ⟨rv, h1, h2⟩ := hbr.cell hat
      refine ⟨rv, ?_, h2⟩
      simp only [Instr.loadAt, Instr.sureAddr, loadVar, Sem.run_bind, Sem.run_pure, Result.andThen_ok, k.run_isAgg, hag, Bool.false_eq_true, if_false, run_load, h1]
    split at h
    · cases h
    · rename_i hty; exact hagg (by rw [hty]; rfl) h
    · rename_i hty; exact hagg (by rw [hty]; rfl) h
    · rename_i h1 h2 h3
      refine hone (fun e => h1 e) ?_ h
      cases hty : (teAt T t).ty <;> first | rfl | (exact absurd hty (h2 _ _)) | (exact absurd hty (h3 _))


structure SameBut (b : Nat) (w w' : World) : Prop where
  os : w'.os = w.os
  tape : w'.tape = w.tape
  output : w'.output = w.output
  size : w'.heap.size = w.heap.size
  old : ∀ k, k ≠ b → w'.heap[k]? = w.heap[k]?

theorem SameBut.refl (b : Nat) (w : World) : SameBut b w w := ⟨rfl, rfl, rfl, rfl, fun _ _ => rfl⟩
theorem SameBut.trans {b : Nat} {x y z : World} (h : SameBut b x y) (k : SameBut b y z) : SameBut b x z :=
  ⟨k.os.trans h.os, k.tape.trans h.tape, k.output.trans h.output, k.size.trans h.size, fun i hi => (k.old i hi).trans (h.old i hi)⟩

theorem setCell_heap {w : World} {b o : Nat} {C : Array Value} {e : TypeId} {fz : Nat × Nat} (h : w.heap[b]? = some (.cells C e fz)) (v : Value) :
    (w.setCell ⟨b, o, none⟩ v).heap[b]? = some (.cells (C.setIfInBounds o v) e fz) ∧ SameBut b w (w.setCell ⟨b, o, none⟩ v) := by
  refine ⟨?_, rfl, rfl, rfl, by simp [World.setCell], fun k hk => ?_⟩
  · simp [World.setCell, Array.getElem?_modify, h]
  · simp [World.setCell, Array.getElem?_modify, Ne.symm hk]

theorem run_storeCells {b p : Nat} {e : TypeId} {lo hi : Nat} : ∀ (vs : List Value) (i : Nat) (w : World) (C : Array Value),
    w.heap[b]? = some (.cells C e (lo, hi)) → (∀ o, o < C.size → ¬ (lo ≤ o ∧ o < hi)) → p + i + vs.length ≤ C.size → (∀ v ∈ vs, v.oneCell' = true) →
    ∃ w' C', (storeCells ⟨b, p, none⟩ vs i).run P w = .ok () w' ∧ w'.heap[b]? = some (.cells C' e (lo, hi)) ∧ C'.size = C.size ∧
      (∀ o, C'[o]? = if p + i ≤ o ∧ o < p + i + vs.length then vs[o - (p + i)]? else C[o]?) ∧ SameBut b w w'
  | [], i, w, C, h, _, _, _ => ⟨w, C, by simp [storeCells], h, rfl, fun o => by rw [if_neg (by simp)], .refl _ _⟩
  | v :: vs, i, w, C, h, hf, hl, hv => by
    simp only [List.length_cons] at hl
    obtain ⟨s1, s2⟩ := setCell_heap (o := p + i) h v
    obtain ⟨w', C', h1, h2, h3, h4, h5⟩ := run_storeCells (p := p) vs (i + 1) (w.setCell ⟨b, p + i, none⟩ v) (C.setIfInBounds (p + i) v) s1
      (fun o ho => hf o (by simpa using ho)) (by rw [Array.size_setIfInBounds]; omega) (fun x hx => hv x (by simp [hx]))
    refine ⟨w', C', ?_, h2, by simpa using h3, fun o => ?_, s2.trans h5⟩
    · have hc : w.cell? ⟨b, p + i, none⟩ = some (C[p + i]'(by omega)) := by
        simp [World.cell?, h]
      have hfz : w.frozen? ⟨b, p + i, none⟩ = false := by
        simp only [World.frozen?, h]
        have := hf (p + i) (by omega)
        simpa using this
      simp only [storeCells, Sem.run_bind, add_addr]
      rw [run_store P w _ v _ (hv v (by simp))]
      simp only [hc, hfz, Bool.false_eq_true, if_false, Result.andThen_ok]
      exact h1
    · rw [h4 o]
      simp only [List.length_cons]
      by_cases e1 : o = p + i
      · subst e1
        rw [if_neg (by omega), if_pos (by omega), Nat.sub_self]
        have : p + i < C.size := by omega
        simp [this]
      · rw [Array.getElem?_setIfInBounds_ne (by omega)]
        by_cases e2 : p + (i + 1) ≤ o ∧ o < p + (i + 1) + vs.length
        · rw [if_pos e2, if_pos (by omega), show o - (p + i) = (o - (p + (i + 1))) + 1 by omega]; rfl
        · rw [if_neg e2, if_neg (by omega)]

/-- the content with some cells changed -/
def Cont.putK (c : Cont) (off : Nat) (vs : List AV) (K : Cont → Option ρ) : Option ρ :=
  match c with
  | .cells cs => bif Nat.beq off 0 && Nat.beq vs.length cs.length then K (.cells vs) else
      bif Nat.ble (off + vs.length) cs.length then K (.cells (splice cs off vs)) else none
  | .bytes l => match vs with
    | [.u .u8 n] => bif decide (off < l.length) then K (.bytes (l.set off n)) else none
    | _ => none
  | .ints k l => match vs with
    | [.u k' n] => bif decide (k' = k) then (bif decide (off < l.length) then K (.ints k (l.set off n)) else none) else none
    | _ => none
  | .win _ _ => none

theorem splice_get {cs vs : List AV} {off : Nat} (h : off + vs.length ≤ cs.length) (o : Nat) :
    (splice cs off vs)[o]? = if off ≤ o ∧ o < off + vs.length then vs[o - off]? else cs[o]? := by
  unfold splice
  have hl : (cs.take off).length = off := by rw [List.length_take]; omega
  by_cases h1 : o < off
  · rw [List.getElem?_append_left (by omega), if_neg (by omega), List.getElem?_take, if_pos h1]
  · rw [List.getElem?_append_right (by omega), hl]
    by_cases h2 : o < off + vs.length
    · rw [List.getElem?_append_left (by omega), if_pos (by omega)]
    · rw [List.getElem?_append_right (by omega), if_neg (by omega), List.getElem?_drop]; congr 1; omega

theorem splice_length {cs vs : List AV} {off : Nat} (h : off + vs.length ≤ cs.length) : (splice cs off vs).length = cs.length := by
  unfold splice; simp only [List.length_append, List.length_take, List.length_drop]; omega

theorem Cont.putK_sound {c : Cont} {off : Nat} {vs : List AV} {K : Cont → Option ρ} {r : ρ} (h : c.putK off vs K = some r) :
    ∃ c', K c' = some r ∧ c'.size = c.size ∧ off + vs.length ≤ c.size ∧
      ∀ o, c'.at? o = if off ≤ o ∧ o < off + vs.length then vs[o - off]? else c.at? o := by
  unfold Cont.putK at h
  split at h
  · rename_i cs
    rcases bif_both h with ⟨hc, hk⟩ | ⟨hc, h⟩
    · simp only [Bool.and_eq_true] at hc
      have h0 := Nat.eq_of_beq_eq_true hc.1
      have h1 := Nat.eq_of_beq_eq_true hc.2
      subst h0
      refine ⟨_, hk, h1, by simp [Cont.size, h1], fun o => ?_⟩
      simp only [Cont.at?]
      by_cases ho : o < vs.length
      · rw [if_pos (by omega)]; rfl
      · rw [if_neg (by omega), List.getElem?_eq_none (by omega), List.getElem?_eq_none (by omega)]
    · obtain ⟨hc, h⟩ := bif_some h
      have hc := Nat.le_of_ble_eq_true hc
      exact ⟨_, h, splice_length hc, hc, fun o => by simp only [Cont.at?]; exact splice_get hc o⟩
  · rename_i l
    split at h
    · rename_i n
      obtain ⟨hc, h⟩ := bif_some h
      have hc := of_decide_eq_true hc
      refine ⟨_, h, by simp [Cont.size], by simp [Cont.size]; omega, fun o => ?_⟩
      simp only [Cont.at?, List.getElem?_set, List.length_cons, List.length_nil]
      by_cases e : off = o
      · subst e; simp [hc]
      · rw [if_neg e, if_neg (by omega)]
    · cases h
  · rename_i k l
    split at h
    · rename_i k' n
      obtain ⟨hk, h⟩ := bif_some h
      have hk := of_decide_eq_true hk
      subst hk
      obtain ⟨hc, h⟩ := bif_some h
      have hc := of_decide_eq_true hc
      refine ⟨_, h, by simp [Cont.size], by simp [Cont.size]; omega, fun o => ?_⟩
      simp only [Cont.at?, List.getElem?_set, List.length_cons, List.length_nil]
      by_cases e : off = o
      · subst e; simp [hc]
      · rw [if_neg e, if_neg (by omega)]
    · cases h
  · cases h

def setNth {α : Type} : List α → Nat → α → List α
  | [], _, _ => []
  | _ :: l, 0, b => b :: l
  | a :: l, n + 1, b => a :: setNth l n b
theorem setNth_eq {α : Type} : ∀ (l : List α) (n : Nat) (b : α), setNth l n b = l.set n b
  | [], _, _ => by simp [setNth]
  | _ :: _, 0, _ => by simp [setNth]
  | _ :: l, n + 1, b => by simp [setNth, setNth_eq l n b]

def storeK (T : List (Nat × TE)) (mem : Mem) (t id off : Nat) (v : AV) (K : Blk → Option ρ) : Option ρ :=
  match nth mem id with
  | none => none
  | some B => bif B.wr && (v.isC && allScalar v.cells) then
      (match sz T t with
      | some s => bif Nat.beq v.cells.length s then B.c.putK off v.cells fun c => K ⟨c, true⟩ else none
      | none => none)
    else none

/-- a store, in a world that fits: the block that it changes, and how the relation goes on -/
theorem St.store {W : World} {Wr : Nat → Prop} {σ : Ren} {mem : Mem} {w w' : World} (h : St W Wr σ mem w) {id b δ s : Nat} {B B' : Blk} (hσ : σ id = some (b, δ, s)) (hB : mem[id]? = some B)
    (hwr : B.wr = true) (hsz : B'.c.size = B.c.size) (hwr' : B'.wr = true) (hs : SameBut b w w') (hr : BlkRel σ B' b δ s w') : St W Wr σ (mem.set id B') w' := by
  have hbb := h.wrs _ _ _ _ _ hσ hB hwr
  have hget : ∀ (i : Nat) (Bi : Blk), (mem.set id B')[i]? = some Bi → (i = id ∧ Bi = B') ∨ (i ≠ id ∧ mem[i]? = some Bi) := by
    intro i Bi hi
    by_cases e : id = i
    · subst e
      left
      rw [List.getElem?_set_self (List.getElem?_eq_some_iff.1 hB).1] at hi
      exact ⟨rfl, by simpa using hi.symm⟩
    · right; rw [List.getElem?_set_ne e] at hi; exact ⟨Ne.symm e, hi⟩
  constructor
  · exact hs.os.trans h.os
  · exact hs.tape.trans h.tape
  · exact hs.output.trans h.output
  · rw [hs.size]; exact h.size
  · intro k hk hnk
    have : k ≠ b := by
      intro e; subst e
      rcases hbb with h1 | h1
      · omega
      · exact hnk h1
    rw [hs.old k this]; exact h.old k hk hnk
  · intro i b' δ' s' hi; rw [hs.size]; exact h.dom _ _ _ _ hi
  · intro i b' δ' s' Bi hi hBi
    rcases hget i Bi hBi with ⟨rfl, rfl⟩ | ⟨hne, hBi⟩
    · rw [hσ] at hi; cases hi; exact hr
    · by_cases hz : Bi.wr = true ∨ 0 < Bi.c.size
      · have hne' := h.inj _ _ _ _ _ _ _ _ _ _ hσ hi (Ne.symm hne) hB hBi hwr hz
        exact (h.blk _ _ _ _ _ hi hBi).same (hs.old b' (Ne.symm hne'))
      · -- an empty block: only its place counts
        have h0 := h.blk _ _ _ _ _ hi hBi
        by_cases e : b' = b
        · subst e
          obtain ⟨C, e1, lo, hi1, g1, g2, g3, g4, g5⟩ := h0.ex
          obtain ⟨C', e1', lo', hi1', g1', g2', g3', g4', g5'⟩ := hr.ex
          obtain ⟨C0, e0, lo0, hi0, k1, k2, k3, k4, k5⟩ := (h.blk _ _ _ _ _ hσ hB).ex
          refine ⟨C', e1', lo', hi1', g1', ?_, g3, fun o v hv => ?_, fun hw => absurd (Or.inl hw) hz⟩
          · rw [k1] at g1; cases g1; omega
          · have := Cont.at_lt hv; exact absurd (Or.inr (by omega)) hz
        · exact h0.same (hs.old b' e)
  · intro i b' δ' s' Bi hi hBi hw
    rcases hget i Bi hBi with ⟨rfl, rfl⟩ | ⟨hne, hBi⟩
    · rw [hσ] at hi; cases hi; exact hbb
    · exact h.wrs _ _ _ _ _ hi hBi hw
  · intro i j bi δi si bj δj sj Bi Bj hi hj hij hBi hBj hw hz
    have key : ∀ (i : Nat) (Bi : Blk), (mem.set id B')[i]? = some Bi → ∃ B0 : Blk, mem[i]? = some B0 ∧ B0.c.size = Bi.c.size ∧ (Bi.wr = true → B0.wr = true) := by
      intro i Bi hBi
      rcases hget i Bi hBi with ⟨e1, e2⟩ | ⟨_, h2⟩
      · subst e1; subst e2; exact ⟨B, hB, hsz.symm, fun _ => hwr⟩
      · exact ⟨Bi, h2, rfl, fun h => h⟩
    obtain ⟨B1, k1, -, k3⟩ := key i Bi hBi
    obtain ⟨B2, k4, k5, k6⟩ := key j Bj hBj
    exact h.inj _ _ _ _ _ _ _ _ _ _ hi hj hij k1 k4 (k3 hw) (hz.imp k6 (fun h => by omega))


theorem storeK_sound (hT : TabOK P T) {mem : Mem} {t id off : Nat} {v : AV} {K : Blk → Option ρ} {r : ρ} (h : storeK T mem t id off v K = some r) :
    ∃ B B', mem[id]? = some B ∧ K B' = some r ∧ B'.c.size = B.c.size ∧ B'.wr = true ∧ B.wr = true ∧
    ∀ (W : World) (Wr : Nat → Prop) (σ : Ren) (mem' : Mem) (w : World) (x vx : Value), St W Wr σ mem' w → mem'[id]? = some B → R σ (.ptr id off) x → R σ v vx →
      ∃ w', (Instr.storeAt t x vx).run P w = .ok () w' ∧ St W Wr σ (mem'.set id B') w' := by
  unfold storeK at h
  split at h
  · cases h
  · rename_i B hB
    rw [nth_eq] at hB
    obtain ⟨hc, h⟩ := bif_some h
    simp only [Bool.and_eq_true] at hc
    obtain ⟨hwr, hisC, hsc⟩ := hc
    split at h
    · rename_i s hs
      obtain ⟨hl, h⟩ := bif_some h
      have hl := Nat.eq_of_beq_eq_true hl
      obtain ⟨c', hk, hsz, hle, hat⟩ := Cont.putK_sound h
      obtain ⟨ke, hke⟩ := sz_known hT hs
      refine ⟨B, ⟨c', true⟩, hB, hk, hsz, rfl, hwr, fun W Wr σ mem' w x vx hst hB' hx hv => ?_⟩
      have hcl := hv.cells hisC
      have hlen := hcl.length
      cases hx with | ptr _ _ b δ z hσ =>
      obtain ⟨C, e, lo, hi, g1, g2, g3, g4, g5⟩ := (hst.blk _ _ _ _ _ hσ hB').ex
      have hone : ∀ y ∈ vx.cells.toList, y.oneCell' = true := by
        intro y hy
        obtain ⟨j, hj⟩ := List.mem_iff_getElem?.1 hy
        have hj' : j < v.cells.length := by rw [hlen]; exact (List.getElem?_eq_some_iff.1 hj).1
        obtain ⟨y', h1, h2⟩ := hcl.get (List.getElem?_eq_getElem hj')
        rw [hj] at h1; cases h1
        exact h2.oneCell (allScalar_mem hsc _ (List.getElem_mem hj'))
      have hlen' : vx.cells.size = (teAt T t).size := by
        have : vx.cells.toList.length = vx.cells.size := by simp
        omega
      obtain ⟨w', C', r1, r2, r3, r4, r5⟩ := run_storeCells (P := P) (p := δ + off) vx.cells.toList 0 w C g1 (g5 hwr) (by simp only [Array.length_toList]; omega) hone
      refine ⟨w', by simp only [Instr.storeAt, Instr.sureAddr, storeVar, Sem.run_bind, Sem.run_pure, Result.andThen_ok, ke.run_size, hlen', ne_eq, not_true_eq_false, if_false]; exact r1, ?_⟩
      refine hst.store hσ hB' hwr hsz rfl r5 ⟨C', e, lo, hi, r2, by omega, by rw [hsz]; exact g3, fun o u hu => ?_, fun _ o ho => g5 hwr o (by omega)⟩
      rw [hat o] at hu
      rw [r4 (δ + o)]
      by_cases ho : off ≤ o ∧ o < off + v.cells.length
      · rw [if_pos ho] at hu
        rw [if_pos (by simp only [Array.length_toList] at *; omega)]
        obtain ⟨rv, h1, h2⟩ := hcl.get hu
        exact ⟨rv, by rw [show δ + o - (δ + off + 0) = o - off by omega]; exact h1, h2⟩
      · rw [if_neg ho] at hu
        rw [if_neg (by simp only [Array.length_toList] at *; omega)]
        exact g4 o u hu
    · cases h

end Pw

namespace Pw
open Go Go.RowKit

variable {P : Program} {T : List (Nat × TE)} {ρ : Type}

/-! ### how the relation of states goes on -/

theorem St.memRel {W : World} {Wr : Nat → Prop} {σ : Ren} {mem : Mem} {w : World} (h : St W Wr σ mem w) : MemRel σ mem w := h.blk

theorem St.below {W : World} {Wr : Nat → Prop} {σ : Ren} {mem : Mem} {w w' : World} (h : St W Wr σ mem w) (hb : Below w.heap.size w w') : St W Wr σ mem w' where
  os := hb.os.trans h.os
  tape := hb.tape.trans h.tape
  output := hb.output.trans h.output
  size := Nat.le_trans h.size hb.size
  old := fun k hk hn => (hb.block k (Nat.lt_of_lt_of_le hk h.size)).trans (h.old k hk hn)
  dom := fun i b δ s hi => Nat.lt_of_lt_of_le (h.dom i b δ s hi) hb.size
  blk := fun i b δ s B hi hB => (h.blk i b δ s B hi hB).same (hb.block b (h.dom i b δ s hi))
  wrs := h.wrs
  inj := h.inj

theorem St.drawn {W : World} {Wr : Nat → Prop} {σ : Ren} {mem : Mem} {w : World} (h : St W Wr σ mem w) (n : Nat) : St W Wr σ mem { w with drawn := n } :=
  h.below ⟨rfl, rfl, rfl, Nat.le_refl _, fun _ _ => rfl⟩

def upd (σ : Ren) (id : Nat) (p : Nat × Nat × Nat) : Ren := fun i => if i = id then some p else σ i
theorem upd_self (σ : Ren) (id : Nat) (p : Nat × Nat × Nat) : upd σ id p id = some p := by simp [upd]
theorem upd_ne {σ : Ren} {id i : Nat} (p : Nat × Nat × Nat) (h : i ≠ id) : upd σ id p i = σ i := by simp [upd, h]
theorem upd_ext {σ : Ren} {id : Nat} {p : Nat × Nat × Nat} (h : σ id = none) : Ext σ (upd σ id p) := by
  intro i q hi
  by_cases e : i = id
  · subst e; rw [h] at hi; cases hi
  · rw [upd_ne p e]; exact hi

theorem St.alloc {W : World} {Wr : Nat → Prop} {σ : Ren} {mem : Mem} {w : World} (h : St W Wr σ mem w) {id : Nat} {B : Blk} (hid : σ id = none) (hB : mem[id]? = some B)
    {C : Array Value} {e : TypeId} (hsz : B.c.size ≤ C.size) (hc : ∀ (o : Nat) (v : AV), B.c.at? o = some v → ∃ rv, C[o]? = some rv ∧ R σ v rv) (fz : Nat × Nat) (hfz : ∀ o, o < C.size → ¬ (fz.1 ≤ o ∧ o < fz.2)) :
    St W Wr (upd σ id (w.heap.size, 0, C.size)) mem { w with heap := w.heap.push (.cells C e fz) } := by
  have hext : Ext σ (upd σ id (w.heap.size, 0, C.size)) := upd_ext hid
  have hold : ∀ k, k < w.heap.size → ({ w with heap := w.heap.push (.cells C e fz) } : World).heap[k]? = w.heap[k]? := by
    intro k hk
    show (w.heap.push _)[k]? = _
    rw [Array.getElem?_push, if_neg (by omega)]
  constructor
  · exact h.os
  · exact h.tape
  · exact h.output
  · show W.heap.size ≤ (w.heap.push _).size; rw [Array.size_push]; have := h.size; omega
  · intro k hk hn; rw [hold k (Nat.lt_of_lt_of_le hk h.size)]; exact h.old k hk hn
  · intro i b δ s hi
    show b < (w.heap.push _).size
    rw [Array.size_push]
    by_cases ei : i = id
    · subst ei; rw [upd_self] at hi; cases hi; omega
    · rw [upd_ne _ ei] at hi; have := h.dom _ _ _ _ hi; omega
  · intro i b δ s Bi hi hBi
    by_cases ei : i = id
    · subst ei; rw [upd_self] at hi; cases hi
      rw [hB] at hBi; cases hBi
      refine ⟨C, e, fz.1, fz.2, ?_, by omega, hsz, fun o v hv => ?_, fun _ o ho => hfz o ho⟩
      · show (w.heap.push _)[w.heap.size]? = _
        simp
      · obtain ⟨rv, h1, h2⟩ := hc o v hv
        exact ⟨rv, by rw [Nat.zero_add]; exact h1, h2.ext hext⟩
    · rw [upd_ne _ ei] at hi
      exact ((h.blk _ _ _ _ _ hi hBi).same (hold b (h.dom _ _ _ _ hi))).ext hext
  · intro i b δ s Bi hi hBi hw
    by_cases ei : i = id
    · subst ei; rw [upd_self] at hi; cases hi; left; exact h.size
    · rw [upd_ne _ ei] at hi; exact h.wrs _ _ _ _ _ hi hBi hw
  · intro i j bi δi si bj δj sj Bi Bj hi hj hij hBi hBj hw hz
    by_cases ei : i = id
    · subst ei
      rw [upd_self] at hi; cases hi
      rw [upd_ne _ (Ne.symm hij)] at hj
      have := h.dom _ _ _ _ hj; omega
    · rw [upd_ne _ ei] at hi
      by_cases e' : j = id
      · subst e'; rw [upd_self] at hj; cases hj
        have := h.dom _ _ _ _ hi; omega
      · rw [upd_ne _ e'] at hj
        exact h.inj _ _ _ _ _ _ _ _ _ _ hi hj hij hBi hBj hw hz

/-- a block that a call has made, taken under a number -/
theorem St.adopt {W : World} {Wr : Nat → Prop} {σ : Ren} {mem : Mem} {w w' : World} (h : St W Wr σ mem w) (hb : Below w.heap.size w w') {id b δ s : Nat} {B : Blk} (hid : σ id = none) (hB : mem[id]? = some B)
    (h1 : w.heap.size ≤ b) (h2 : b < w'.heap.size) (hr : BlkRel (upd σ id (b, δ, s)) B b δ s w') : St W Wr (upd σ id (b, δ, s)) mem w' := by
  have hext : Ext σ (upd σ id (b, δ, s)) := upd_ext hid
  have h' := h.below hb
  constructor
  · exact h'.os
  · exact h'.tape
  · exact h'.output
  · exact h'.size
  · exact h'.old
  · intro i b' δ' s' hi
    by_cases ei : i = id
    · subst ei; rw [upd_self] at hi; cases hi; exact h2
    · rw [upd_ne _ ei] at hi; exact h'.dom _ _ _ _ hi
  · intro i b' δ' s' Bi hi hBi
    by_cases ei : i = id
    · subst ei; rw [upd_self] at hi; cases hi
      rw [hB] at hBi; cases hBi; exact hr
    · rw [upd_ne _ ei] at hi; exact (h'.blk _ _ _ _ _ hi hBi).ext hext
  · intro i b' δ' s' Bi hi hBi hw
    by_cases ei : i = id
    · subst ei; rw [upd_self] at hi; cases hi; left; exact Nat.le_trans h.size h1
    · rw [upd_ne _ ei] at hi; exact h'.wrs _ _ _ _ _ hi hBi hw
  · intro i j bi δi si bj δj sj Bi Bj hi hj hij hBi hBj hw hz
    by_cases ei : i = id
    · subst ei
      rw [upd_self] at hi; cases hi
      rw [upd_ne _ (Ne.symm hij)] at hj
      have := h.dom _ _ _ _ hj; omega
    · rw [upd_ne _ ei] at hi
      by_cases ej : j = id
      · subst ej; rw [upd_self] at hj; cases hj
        have := h.dom _ _ _ _ hi; omega
      · rw [upd_ne _ ej] at hj
        exact h'.inj _ _ _ _ _ _ _ _ _ _ hi hj hij hBi hBj hw hz

/-- blocks that lie nowhere yet -/
theorem St.more {W : World} {Wr : Nat → Prop} {σ : Ren} {mem : Mem} {w : World} (h : St W Wr σ mem w) (hd : ∀ i p, σ i = some p → i < mem.length) (ext : Mem) : St W Wr σ (mem ++ ext) w := by
  have hget : ∀ {i : Nat} {p : Nat × Nat × Nat} {B : Blk}, σ i = some p → (mem ++ ext)[i]? = some B → mem[i]? = some B := by
    intro i p B hi hB
    rwa [List.getElem?_append_left (hd i p hi)] at hB
  exact ⟨h.os, h.tape, h.output, h.size, h.old, h.dom, fun i b δ s B hi hB => h.blk i b δ s B hi (hget hi hB), fun i b δ s B hi hB => h.wrs i b δ s B hi (hget hi hB),
    fun i j bi δi si bj δj sj Bi Bj hi hj hij hBi hBj => h.inj i j bi δi si bj δj sj Bi Bj hi hj hij (hget hi hBi) (hget hj hBj)⟩

/-! ### an operation, up to the world that it leaves -/

def CallTo (P : Program) (f : FuncId) (args : Array Value) (w : World) (Q : Value → World → Prop) : Prop :=
  match (callFunc f args).run P w with
  | .ok (.value v) w' => Q v w'
  | .ok (.enter f' args') w' => Calls P f' args' w' fun e w'' => match e with
    | .returned v => Q v w''
    | _ => False
  | _ => False

def OpTo (P : Program) (o : Oper) (re : Operand → Value) (w : World) (Q : Value → World → Prop) : Prop :=
  match (execOp re o).run P w with
  | .ok (.value v) w' => Q v w'
  | .ok .skip w' => Q undef w'
  | .ok (.enter f' args') w' => Calls P f' args' w' fun e w'' => match e with
    | .returned v => Q v w''
    | _ => False
  | _ => False

theorem OpTo.of_value {o : Oper} {re : Operand → Value} {w w' : World} {v : Value} {Q : Value → World → Prop} (h : (execOp re o).run P w = .ok (.value v) w') (hq : Q v w') : OpTo P o re w Q := by
  unfold OpTo; rw [h]; exact hq
theorem OpTo.of_skip {o : Oper} {re : Operand → Value} {w w' : World} {Q : Value → World → Prop} (h : (execOp re o).run P w = .ok .skip w') (hq : Q undef w') : OpTo P o re w Q := by
  unfold OpTo; rw [h]; exact hq

theorem OpTo.mono {o : Oper} {re : Operand → Value} {w : World} {Q Q' : Value → World → Prop} (h : OpTo P o re w Q) (hq : ∀ v w', Q v w' → Q' v w') : OpTo P o re w Q' := by
  unfold OpTo at *
  split at h
  · exact hq _ _ h
  · exact hq _ _ h
  · refine h.mono fun e w'' he => ?_
    cases e <;> simp only at he ⊢
    exact hq _ _ he
  · exact h.elim

theorem CallTo.mono {f : FuncId} {args : Array Value} {w : World} {Q Q' : Value → World → Prop} (h : CallTo P f args w Q) (hq : ∀ v w', Q v w' → Q' v w') : CallTo P f args w Q' := by
  unfold CallTo at *
  split at h
  · exact hq _ _ h
  · refine h.mono fun e w'' he => ?_
    cases e <;> simp only at he ⊢
    exact hq _ _ he
  · exact h.elim

theorem OpTo.wp {o : Oper} {a : Act} {w : World} {Q : Value → World → Prop} {next : Act → World → Prop} {Q' : Exit → Act → World → Prop} (h : OpTo P o a.eval w Q)
    (hn : ∀ v w', Q v w' → next (a.put o.dst v) w') : o.wp P a w next Q' := by
  unfold OpTo at h
  unfold Oper.wp
  split at h
  · rename_i hr; rw [hr]; exact hn _ _ h
  · rename_i hr; rw [hr]; exact hn _ _ h
  · rename_i hr; rw [hr]
    simp only [Oper.upon]
    refine h.mono fun e w'' he => ?_
    cases e <;> simp only at he ⊢
    exact hn _ _ he
  · exact h.elim

/-- a call of a function value -/
theorem OpTo.of_call {o : Oper} {re : Operand → Value} {c : Call} {fo : Operand} {f : FuncId} {caps : Array Value} {w : World} {Q : Value → World → Prop} (ho : o.op = .call c) (hc : c.callee = .value fo)
    (hf : re fo = .func (.func f) #[] caps) (h : CallTo P f (c.args.map re ++ caps) w Q) : OpTo P o re w Q := by
  have hrun : (execOp re o).run P w = (callFunc f (c.args.map re ++ caps)).run P w := by
    simp [execOp, ho, resolve, hc, hf, Deferred.ofValue, invoke]
  unfold OpTo
  rw [hrun]
  unfold CallTo at h
  split at h
  · rename_i hr; rw [hr]; exact h
  · rename_i hr; rw [hr]; exact h
  · exact h.elim

end Pw

namespace Pw
open Go Go.RowKit

variable {P : Program} {T : List (Nat × TE)} {ρ : Type}

/-! ### operations with an effect that is said -/

inductive Eff where
  | none
  | alloc (B : Blk)
  | store (id : Nat) (B : Blk)
  | move (id : Nat) (B : Blk)

/-- a block that nothing is known of any more -/
def dead : Blk := ⟨.cells [], false⟩

def Eff.on (m : Mem) : Eff → Mem
  | .none => m
  | .alloc B => m ++ [B]
  | .store id B => setNth m id B
  | .move id B => setNth m id dead ++ [B]

/-- what is stored, and what is new -/
@[simp] def Eff.st : Eff → Option (Nat × Blk)
  | .store id B => some (id, B)
  | .move id _ => some (id, dead)
  | _ => Option.none
@[simp] def Eff.al : Eff → Option Blk
  | .alloc B => some B
  | .move _ B => some B
  | _ => Option.none

/-- what is known of calls that leave memory as it is, or make one new block: how the evaluation goes on behind one -/
abbrev Quiet := FuncId → List AV → Mem → ∀ {ρ : Type}, (AV → Option Blk → Option ρ) → Option ρ

/-- what a known call leaves -/
def Leaves (σ : Ren) (mem : Mem) (w : World) (v : AV) (nb : Option Blk) (rv : Value) (w' : World) : Prop :=
  Below w.heap.size w w' ∧ match nb with
  | none => R σ v rv
  | some B => ∃ b δ s, w.heap.size ≤ b ∧ b < w'.heap.size ∧ R (upd σ mem.length (b, δ, s)) v rv ∧ BlkRel (upd σ mem.length (b, δ, s)) B b δ s w'

theorem Leaves.mono {σ' σ : Ren} {mem : Mem} {w : World} {v : AV} {nb : Option Blk} {rv : Value} {w' : World} (he : Ext σ' σ) (h : Leaves σ' mem w v nb rv w') : Leaves σ mem w v nb rv w' := by
  cases nb with
  | none => exact ⟨h.1, h.2.ext he⟩
  | some B =>
    obtain ⟨h0, b, δ, s, h1, h2, h3, h4⟩ := h
    have hu : Ext (upd σ' mem.length (b, δ, s)) (upd σ mem.length (b, δ, s)) := by
      intro i q hi
      by_cases e : i = mem.length
      · subst e; rw [upd_self] at hi ⊢; exact hi
      · rw [upd_ne _ e] at hi ⊢; exact he _ _ hi
    exact ⟨h0, b, δ, s, h1, h2, h3.ext hu, h4.ext hu⟩

/-- a known call -/
def QuietAt (P : Program) (f : FuncId) (g : List AV → Mem → ∀ {ρ : Type}, (AV → Option Blk → Option ρ) → Option ρ) : Prop :=
  ∀ (args : List AV) (mem : Mem) (ρ : Type) (K : AV → Option Blk → Option ρ) (r : ρ), g args mem K = some r → ∃ v nb, K v nb = some r ∧
    ∀ (σ : Ren) (w : World) (real : Array Value), RL σ args real.toList → MemRel σ mem w → (nb.isSome = true → σ mem.length = none) → CallTo P f real w (Leaves σ mem w v nb)

def QuietOK (P : Program) (O : Quiet) : Prop := ∀ f, QuietAt P f (O f)

def toBytes : List AV → Option (List Nat)
  | [] => some []
  | .u .u8 n :: l => match toBytes l with
    | some r => some (n :: r)
    | none => none
  | _ => none

theorem toBytes_eq : ∀ {cs : List AV} {l : List Nat}, toBytes cs = some l → cs = l.map (AV.u .u8)
  | [], l, h => by simp only [toBytes, Option.some.injEq] at h; subst h; rfl
  | a :: cs, l, h => by
    unfold toBytes at h
    split at h
    · rename_i e; cases e
    · rename_i n l' e
      cases e
      split at h
      · rename_i r hr
        simp only [Option.some.injEq] at h
        subst h
        rw [toBytes_eq hr]; rfl
      · cases h
    · cases h

def Cont.bytesK (c : Cont) (off n : Nat) (K : List Nat → Option ρ) : Option ρ :=
  match c with
  | .bytes l => bif decide (off + n ≤ l.length) then K ((l.drop off).take n) else none
  | .cells cs => match toBytes ((cs.drop off).take n) with
    | some l => bif Nat.beq l.length n && Nat.ble (off + n) cs.length then K l else none
    | none => none
  | .ints _ _ => none
  | .win _ _ => none

theorem Cont.bytesK_sound {c : Cont} {off n : Nat} {K : List Nat → Option ρ} {r : ρ} (h : c.bytesK off n K = some r) :
    ∃ l, K l = some r ∧ l.length = n ∧ off + n ≤ c.size ∧ ∀ i, i < n → c.at? (off + i) = (l[i]?).map (AV.u .u8) := by
  unfold Cont.bytesK at h
  split at h
  · rename_i l
    obtain ⟨hc, h⟩ := bif_some h
    have hc := of_decide_eq_true hc
    refine ⟨_, h, by rw [List.length_take, List.length_drop]; omega, hc, fun i hi => ?_⟩
    simp [Cont.at?, hi]
  · rename_i cs
    split at h
    · rename_i l hl
      obtain ⟨hc, h⟩ := bif_some h
      simp only [Bool.and_eq_true] at hc
      obtain ⟨hc, hc2⟩ := hc
      have hc2 := Nat.le_of_ble_eq_true hc2
      have hc := Nat.eq_of_beq_eq_true hc
      have he := toBytes_eq hl
      refine ⟨l, h, hc, ?_, fun i hi => ?_⟩
      · exact hc2
      · have := congrArg (·[i]?) he
        simp only [List.getElem?_take, hi, if_true, List.getElem?_drop, List.getElem?_map] at this
        exact this
    · cases h
  · cases h
  · cases h

/-! ### bytes as a string -/
def strOf (l : List Nat) : ByteArray := (l.map fun n : Nat => (n : Int)).foldl (fun r n => r.push (UInt8.ofNat n.toNat)) ByteArray.empty
def strBytes (s : ByteArray) : List Nat := s.data.toList.map UInt8.toNat
def strK (mem : Mem) (x : AV) (K : ByteArray → Option ρ) : Option ρ :=
  match x with
  | .nils => K (strOf [])
  | .emp => K (strOf [])
  | .slice id off len _ => match nth mem id with
    | some B => B.c.bytesK off len fun l => K (strOf l)
    | none => none
  | _ => none
/-- the block that a string is made of -/
def strId : AV → Option Nat
  | .slice id _ _ _ => some id
  | _ => none
theorem strK_sound {mem : Mem} {x : AV} {K : ByteArray → Option ρ} {r : ρ} (h : strK mem x K = some r) :
    ∃ s, K s = some r ∧ ∀ (σ : Ren) (w : World) (vx : Value), (∀ id, strId x = some id → ∀ (b δ z : Nat) (B : Blk), σ id = some (b, δ, z) → mem[id]? = some B → BlkRel σ B b δ z w) → R σ x vx →
      ∃ a l c, vx = .slice a l c ∧ (Conv.bytesToString (.slice a l c)).run P w = .ok (.string s) w := by
  unfold strK at h
  split at h
  · refine ⟨_, h, fun σ w vx _ hx => ?_⟩
    cases hx
    exact ⟨none, 0, 0, rfl, by simp [Conv.bytesToString, strOf]⟩
  · refine ⟨_, h, fun σ w vx _ hx => ?_⟩
    cases hx with | emp a =>
    refine ⟨a, 0, 0, rfl, ?_⟩
    cases a with
    | none => simp [Conv.bytesToString, strOf]
    | some a => exact run_bytesToString w a 0 0 [] (by simp [loadCells, loadCellsFrom])
  · rename_i id off len ap
    split at h
    · rename_i B hB
      rw [nth_eq] at hB
      obtain ⟨l, hk, hl, hsz, hat⟩ := Cont.bytesK_sound h
      refine ⟨_, hk, fun σ w vx hm hx => ?_⟩
      cases hx with
      | slice _ _ _ _ cap b δ z hσ h1 h2 h3 =>
        have hbr := hm id rfl b δ z B hσ hB
        obtain ⟨arr, q1, q2⟩ := run_loadCells (P := P) (σ := σ) (b := b) (p := δ + off) (w := w) len 0 (l.map (AV.u .u8)) #[] (by simp [hl]) (fun j v hv => by
          have hj : j < len := by
            have := (List.getElem?_eq_some_iff.1 hv).1
            simpa [hl] using this
          have := hbr.cell (by rw [hat j hj, ← List.getElem?_map]; exact hv)
          rwa [← Nat.add_assoc, ← Nat.zero_add j] at this)
        refine ⟨_, _, _, rfl, ?_⟩
        have hns : ∀ (l : List Nat) (m : List Value), RL σ (l.map (AV.u .u8)) m → m = (l.map fun n : Nat => (n : Int)).map (Value.int .u8) := by
          intro l
          induction l with
          | nil => intro m hm; cases hm; rfl
          | cons a l ih =>
            intro m hm
            cases hm with | cons _ v _ m' g1 g2 =>
            cases g1
            rw [ih _ g2]; rfl
        have harr : (#[] ++ arr : Array Value) = ((l.map fun n : Nat => (n : Int)).map (Value.int .u8)).toArray := by
          have := hns l arr.toList q2
          exact Array.ext' (by simpa using this)
        exact run_bytesToString w _ len cap _ (by unfold loadCells; rw [q1, harr])
      | slic0 =>
        refine ⟨_, _, _, rfl, ?_⟩
        have : l = [] := List.length_eq_zero_iff.1 (by simpa using hl)
        subst this
        rename_i a
        cases a with
        | none => simp [Conv.bytesToString, strOf]
        | some a => exact run_bytesToString w a 0 0 [] (by simp [loadCells, loadCellsFrom])
    · cases h
  · cases h

def callArgs (ev : Operand → AV) : List Operand → List AV
  | [] => []
  | x :: l => ev x :: callArgs ev l

theorem callArgs_R {σ : Ren} {ev : Operand → AV} {re : Operand → Value} : ∀ (l : List Operand), (∀ x ∈ l, R σ (ev x) (re x)) → RL σ (callArgs ev l) (l.map re)
  | [], _ => .nil
  | x :: l, h => .cons _ _ _ _ (h x (by simp)) (callArgs_R l fun y hy => h y (by simp [hy]))

/-- cells of zeros, one value behind the other -/
def zcells (z : List AV) (s n : Nat) : List AV := (List.range n).map fun i => match nth z (i % s) with
  | some v => v
  | none => .unk

def simpK (T : List (Nat × TE)) (O : Quiet) (mem : Mem) (ev : Operand → AV) (o : Op) (K : AV → Eff → Option ρ) : Option ρ :=
  match o with
  | .load t a => match ev a with
    | .ptr id off => loadK T mem t id off fun v => K v .none
    | _ => none
  | .store t a v => match ev a with
    | .ptr id off => storeK T mem t id off (ev v) fun B => K (.tup []) (.store id B)
    | _ => none
  | .alloc t => match (teAt T t).ty with
    | .other => none
    | _ => (match (teAt T t).zero with
      | some z => K (.ptr mem.length 0) (.alloc ⟨.cells z, true⟩)
      | none => none)
  | .convert src dst x => match (teAt T src).ty, (teAt T dst).ty with
    | .slice e, .str => (match (teAt T e).ty with
      | .int .u8 => strK mem (ev x) fun s => K (.str s) .none
      | _ => none)
    | .str, .slice e => (match (teAt T e).ty, ev x with
      | .int .u8, .str s => bif decide (s.size < 9223372036854775808) then K (.slice mem.length 0 s.size true) (.alloc ⟨.bytes (strBytes s), true⟩) else none
      | _, _ => none)
    | .slice e, .slice _ => (match (teAt T e).ty, ev x with
      | .int .u8, .slice id _ len _ => (match nth mem id with
        | some B => bif B.wr && (Nat.beq src dst && Nat.blt 0 len) then K (ev x) (.store id ⟨B.c, false⟩) else none
        | none => none)
      | _, _ => none)
    | _, _ => pureK T ev (.convert src dst x) fun v => K v .none
  | .box _ x => bif (ev x).isC then K (.ptr mem.length 0) (.alloc ⟨.cells (ev x).cells, true⟩) else none
  | .buildSlice t len parts => match (teAt T t).ty with
    | .slice e => (match sz T e, (teAt T e).zero with
      | some s, some z => bif Nat.beq z.length s && Nat.ble (len * s) 16777216 then
          (match fillA (fun i => some (i * s, s)) (zcells z s (len * s)) (parts.toList.map fun x => (x.1, ev x.2)) with
          | some cs => bif Nat.ble len cs.length && Nat.ble len 16777216 then (match (teAt T e).ty with
            | .int .u8 => (match toBytes cs with
              | some l => K (.slice mem.length 0 len true) (.alloc ⟨.bytes l, true⟩)
              | none => none)
            | _ => K (.slice mem.length 0 len true) (.alloc ⟨.cells cs, true⟩)) else none
          | none => none) else none
      | _, _ => none)
    | _ => none
  | .makeSlice t l c => match (teAt T t).ty, ev l, ev c with
    | .slice e, .n l, .n c => (match (teAt T e).ty, (teAt T e).zero with
      | .int .u8, some [.u .u8 0] => bif Nat.beq (teAt T e).bytes 1 && (Nat.beq (teAt T e).size 1 && decide (0 ≤ l ∧ l ≤ c ∧ c ≤ 281474976710656)) then
          K (.slice mem.length 0 l.toNat true) (.alloc ⟨.bytes (List.replicate c.toNat 0), true⟩) else none
      | _, _ => none)
    | _, _, _ => none
  | .call c => match c.callee with
    | .value f => (match ev f with
      | .fn f caps => O f (callArgs ev c.args.toList ++ caps) mem fun v nb => match nb with
        | none => K v .none
        | some B => K v (.alloc B)
      | _ => none)
    | .builtin .len => (match c.argTypes.toList, callArgs ev c.args.toList with
      | [t], [x] => (match (teAt T t).ty, x with
        | .slice _, .slice _ _ len _ => K (.n (len : Int)) .none
        | .slice _, .nils => K (.n 0) .none
        | .slice _, .emp => K (.n 0) .none
        | .arr n _, _ => bif decide (n < 9223372036854775808) then K (.n (n : Int)) .none else none
        | .str, .str s => bif decide (s.size < 9223372036854775808) then K (.n (s.size : Int)) .none else none
        | _, _ => none)
      | _, _ => none)
    | _ => none
  | o => pureK T ev o fun v => K v .none

/-- the blocks that a value names -/
def AV.ids : AV → List Nat
  | .ptr id _ => [id]
  | .slice id _ _ _ => [id]
  | .fn _ cs => go cs
  | .agg cs => go cs
  | .tup cs => go cs
  | _ => []
where go : List AV → List Nat
  | [] => []
  | a :: l => a.ids ++ go l

/-- contents that name no block -/
def Cont.flat : Cont → Bool
  | .bytes _ => true
  | .ints _ _ => true
  | .win _ _ => false
  | .cells cs => AV.closed.all cs

/-- do these blocks name no further ones? -/
def flatAt (mem : Mem) : List Nat → Bool
  | [] => true
  | i :: l => (match nth mem i with
    | some B => B.c.flat
    | none => true) && flatAt mem l

/-- the block that a slice lies in -/
def fpS : AV → List Nat
  | .slice id _ _ _ => [id]
  | _ => []

/-- the blocks that a call may look into -/
def fpArgs (mem : Mem) (xs : List AV) : Option (List Nat) := bif flatAt mem (AV.ids.go xs) then some (AV.ids.go xs) else none

/-- the blocks that an operation looks into (`none`: any) -/
def fpOf (mem : Mem) (ev : Operand → AV) : Op → Option (List Nat)
  | .load _ a => (match ev a with | .ptr id _ => some [id] | _ => none)
  | .store _ a _ => (match ev a with | .ptr id _ => some [id] | _ => none)
  | .convert _ _ x => some (fpS (ev x))
  | .call c => (match c.callee with
    | .value f => (match ev f with
      | .fn _ caps => fpArgs mem (callArgs ev c.args.toList ++ caps)
      | _ => none)
    | .builtin .len => some []
    | .builtin .append => (match callArgs ev c.args.toList with | [s, x] => some (fpS s ++ fpS x) | _ => none)
    | .builtin .copy => (match callArgs ev c.args.toList with | [s, x] => some (fpS s ++ fpS x) | _ => none)
    | _ => none)
  | _ => some []

/-- the part of a naming that some blocks have -/
def rst (σ : Ren) (l : List Nat) : Ren := fun i => if i ∈ l then σ i else none
theorem rst_some {σ : Ren} {l : List Nat} {i : Nat} {p : Nat × Nat × Nat} (h : rst σ l i = some p) : i ∈ l ∧ σ i = some p := by
  unfold rst at h
  split at h
  · exact ⟨‹_›, h⟩
  · cases h
theorem rst_ext (σ : Ren) (l : List Nat) : Ext (rst σ l) σ := fun _ _ h => (rst_some h).2
theorem rst_in {σ : Ren} {l : List Nat} {i : Nat} {p : Nat × Nat × Nat} (h : σ i = some p) (hi : i ∈ l) : rst σ l i = some p := by
  unfold rst; rw [if_pos hi]; exact h

mutual
theorem R.rst {σ : Ren} {l : List Nat} : {a : AV} → {v : Value} → R σ a v → (∀ i ∈ a.ids, i ∈ l) → R (Pw.rst σ l) a v
  | _, _, .bool b, _ => .bool b
  | _, _, .u k n a b, _ => .u k n a b
  | _, _, .n i a b, _ => .n i a b
  | _, _, .str s, _ => .str s
  | _, _, .ptr id off b δ s e, h => .ptr id off b δ s (rst_in e (h id (by simp [AV.ids])))
  | _, _, .nilp, _ => .nilp
  | _, _, .slice id off len ap cap b δ s e x c d, h => .slice id off len ap cap b δ s (rst_in e (h id (by simp [AV.ids]))) x c d
  | _, _, .slic0 id off ap a, _ => .slic0 id off ap a
  | _, _, .nils, _ => .nils
  | _, _, .emp a, _ => .emp a
  | _, _, .fn f caps arr x, h => .fn f caps arr (RL.rst x (by simpa [AV.ids] using h))
  | _, _, .agg cs arr x, h => .agg cs arr (RL.rst x (by simpa [AV.ids] using h))
  | _, _, .tup cs arr x, h => .tup cs arr (RL.rst x (by simpa [AV.ids] using h))
  | _, _, .unk v, _ => .unk v
theorem RL.rst {σ : Ren} {l : List Nat} : {xs : List AV} → {m : List Value} → RL σ xs m → (∀ i ∈ AV.ids.go xs, i ∈ l) → RL (Pw.rst σ l) xs m
  | _, _, .nil, _ => .nil
  | _, _, .cons a v xs m x y, h => .cons a v xs m (R.rst x fun i hi => h i (by simp [AV.ids.go, hi])) (RL.rst y fun i hi => h i (by simp [AV.ids.go, hi]))
end

theorem flatAt_get {mem : Mem} : ∀ {l : List Nat}, flatAt mem l = true → ∀ i ∈ l, ∀ B, mem[i]? = some B → B.c.flat = true
  | [], _, i, h, _, _ => by simp at h
  | j :: l, h, i, hi, B, hB => by
    simp only [flatAt, Bool.and_eq_true, nth_eq] at h
    rcases List.mem_cons.1 hi with e | hi
    · subst e
      have := h.1
      rw [hB] at this; exact this
    · exact flatAt_get h.2 i hi B hB

theorem Cont.flat_at {c : Cont} (h : c.flat = true) {o : Nat} {v : AV} (hv : c.at? o = some v) : v.closed = true := by
  cases c with
  | bytes l =>
    simp only [Cont.at?, Option.map_eq_some_iff] at hv
    obtain ⟨a, -, rfl⟩ := hv
    rfl
  | ints k l =>
    simp only [Cont.at?, Option.map_eq_some_iff] at hv
    obtain ⟨a, -, rfl⟩ := hv
    rfl
  | win p cs => simp [Cont.flat] at h
  | cells cs =>
    simp only [Cont.flat] at h
    simp only [Cont.at?] at hv
    have key : ∀ (l : List AV), AV.closed.all l = true → ∀ x ∈ l, x.closed = true := by
      intro l
      induction l with
      | nil => intro _ x hx; simp at hx
      | cons y l ih =>
        intro hl x hx
        unfold AV.closed.all at hl
        split at hl
        · rcases List.mem_cons.1 hx with e | hx
          · subst e; assumption
          · exact ih hl x hx
        · cases hl
    exact key cs h v (List.mem_of_getElem? hv)

theorem BlkRel.flat {σ σ' : Ren} {B : Blk} {b δ s : Nat} {w : World} (h : BlkRel σ B b δ s w) (hf : B.c.flat = true) : BlkRel σ' B b δ s w := by
  obtain ⟨C, e, lo, hi, h1, h2, h3, h4, h5⟩ := h.ex
  refine ⟨C, e, lo, hi, h1, h2, h3, fun o v hv => ?_, h5⟩
  obtain ⟨rv, h6, h7⟩ := h4 o v hv
  exact ⟨rv, h6, R.closed (Cont.flat_at hf hv) h7⟩

def Eff.full (full : Mem) : Eff → Mem
  | .store id B => full.set id B
  | .move id _ => full.set id dead
  | _ => full

/-- what an operation does, in every world that fits -/
def Does (P : Program) (o : Oper) (mem : Mem) (ev : Operand → AV) (v : AV) (eff : Eff) : Prop :=
  ∀ (W : World) (Wr : Nat → Prop) (σ : Ren) (full : Mem) (w : World) (re : Operand → Value), St W Wr σ full w →
    (∀ (i : Nat) (B : Blk), (∀ l, fpOf mem ev o.op = some l → i ∈ l) → mem[i]? = some B → full[i]? = some B) →
    (∀ B, eff.al = some B → full[mem.length]? = some B ∧ σ mem.length = none) →
    (∀ x ∈ o.op.operands.toList, R σ (ev x) (re x)) →
    (∀ id B, eff.st = some (id, B) → ∃ p, σ id = some p) ∧
    OpTo P o re w fun rv w' => ∃ σ', Ext σ σ' ∧ R σ' v rv ∧ St W Wr σ' (eff.full full) w' ∧
      ∀ (i : Nat) (p : Nat × Nat × Nat), σ' i = some p → σ i = some p ∨ ((∃ B, eff.al = some B) ∧ i = mem.length)

theorem MemRel.front {σ : Ren} {mem full : Mem} {w : World} (h : MemRel σ full w) (hp : ∀ (i : Nat) (B : Blk), mem[i]? = some B → full[i]? = some B) : MemRel σ mem w :=
  fun i b δ s B hi hB => h i b δ s B hi (hp i B hB)

/-- a new block of cells: what the operation hands back is told by its address -/
theorem Does.of_alloc {o : Oper} {mem : Mem} {ev : Operand → AV} {v : AV} {B : Blk}
    (h : ∀ (σ : Ren) (w : World) (re : Operand → Value), (∀ x ∈ o.op.operands.toList, R σ (ev x) (re x)) →
      ∃ (C : Array Value) (e : TypeId) (rv : Value), (execOp re o).run P w = .ok (.value rv) { w with heap := w.heap.push (.cells C e) } ∧ B.c.size ≤ C.size ∧
        (∀ (i : Nat) (u : AV), B.c.at? i = some u → ∃ x, C[i]? = some x ∧ R σ u x) ∧ ∀ σ' : Ren, σ' mem.length = some (w.heap.size, 0, C.size) → R σ' v rv) :
    Does P o mem ev v (.alloc B) := by
  intro W Wr σ full w re hst _ hal hr
  obtain ⟨C, e, rv, h1, h2, h3, h4⟩ := h σ w re hr
  obtain ⟨hB, hn⟩ := hal B rfl
  refine ⟨by simp, OpTo.of_value h1 ⟨_, upd_ext hn, h4 _ (upd_self _ _ _), hst.alloc hn hB h2 h3 (0, 0) (fun o _ => by omega), fun i p hi => ?_⟩⟩
  by_cases e : i = mem.length
  · exact .inr ⟨⟨B, rfl⟩, e⟩
  · rw [upd_ne _ e] at hi; exact .inl hi

theorem RL.at_cells {σ : Ren} {cs : List AV} {C : Array Value} (h : RL σ cs C.toList) (i : Nat) (u : AV) (hu : (Cont.cells cs).at? i = some u) : ∃ x, C[i]? = some x ∧ R σ u x := by
  obtain ⟨x, h1, h2⟩ := h.get hu
  exact ⟨x, by simpa using h1, h2⟩

theorem RL.size {σ : Ren} {cs : List AV} {C : Array Value} (h : RL σ cs C.toList) : cs.length = C.size := by
  rw [h.length]; simp

theorem zcells_R {σ : Ren} {z : List AV} {zr : Array Value} (h : RL σ z zr.toList) {s n : Nat} (hs : z.length = s) : RL σ (zcells z s n) ((Array.range n).map (zr[· % zr.size]!)).toList := by
  have hsz := h.size
  refine RL.of_get (by simp [zcells]) fun i a v ha hv => ?_
  have hi : i < n := by
    have := (List.getElem?_eq_some_iff.1 hv).1; simpa using this
  unfold zcells at ha
  rw [List.getElem?_map, List.getElem?_range hi] at ha
  simp only [Option.map_some, Option.some.injEq, nth_eq] at ha
  simp only [Array.toList_map, List.getElem?_map, Array.toList_range, List.getElem?_range hi, Option.map_some, Option.some.injEq] at hv
  subst hv
  split at ha
  · rename_i u hu
    subst ha
    obtain ⟨x, h1, h2⟩ := h.get hu
    have h1' : zr[i % s]? = some x := by simpa using h1
    rw [← hsz, hs]
    rw [getElem!_def, h1']; exact h2
  · subst ha; exact .unk _


theorem Does.of_pure (hT : TabOK P T) {mem : Mem} {ev : Operand → AV} {o : Oper} {K : AV → Option ρ} {r : ρ} (h : pureK T ev o.op K = some r) : ∃ v, K v = some r ∧ Does P o mem ev v .none := by
  obtain ⟨v, hk, hs⟩ := pureK_sound hT h
  refine ⟨v, hk, fun W Wr σ full w re hst _ _ hr => ?_⟩
  obtain ⟨rv, h1, h2⟩ := hs σ re w hr
  exact ⟨by simp, OpTo.of_value h1 ⟨σ, .refl σ, h2, hst, fun i p hi => .inl hi⟩⟩

theorem St.mark {W : World} {Wr : Nat → Prop} {σ : Ren} {mem : Mem} {w w' : World} (h : St W Wr σ mem w) {id b δ s : Nat} {B B' : Blk} (hσ : σ id = some (b, δ, s)) (hB : mem[id]? = some B)
    (hwr : B.wr = true) (hsz : B'.c.size = B.c.size) (hwr' : B'.wr = false) (hs : SameBut b w w') (hr : BlkRel σ B' b δ s w') : St W Wr σ (mem.set id B') w' := by
  have hbb := h.wrs _ _ _ _ _ hσ hB hwr
  have hget : ∀ (i : Nat) (Bi : Blk), (mem.set id B')[i]? = some Bi → (i = id ∧ Bi = B') ∨ (i ≠ id ∧ mem[i]? = some Bi) := by
    intro i Bi hi
    by_cases e : id = i
    · subst e
      left
      rw [List.getElem?_set_self (List.getElem?_eq_some_iff.1 hB).1] at hi
      exact ⟨rfl, by simpa using hi.symm⟩
    · right; rw [List.getElem?_set_ne e] at hi; exact ⟨Ne.symm e, hi⟩
  constructor
  · exact hs.os.trans h.os
  · exact hs.tape.trans h.tape
  · exact hs.output.trans h.output
  · rw [hs.size]; exact h.size
  · intro k hk hnk
    have : k ≠ b := by
      intro e; subst e
      rcases hbb with h1 | h1
      · omega
      · exact hnk h1
    rw [hs.old k this]; exact h.old k hk hnk
  · intro i b' δ' s' hi; rw [hs.size]; exact h.dom _ _ _ _ hi
  · intro i b' δ' s' Bi hi hBi
    rcases hget i Bi hBi with ⟨rfl, rfl⟩ | ⟨hne, hBi⟩
    · rw [hσ] at hi; cases hi; exact hr
    · by_cases hz : Bi.wr = true ∨ 0 < Bi.c.size
      · have hne' := h.inj _ _ _ _ _ _ _ _ _ _ hσ hi (Ne.symm hne) hB hBi hwr hz
        exact (h.blk _ _ _ _ _ hi hBi).same (hs.old b' (Ne.symm hne'))
      · have h0 := h.blk _ _ _ _ _ hi hBi
        by_cases e : b' = b
        · subst e
          obtain ⟨C, e1, lo, hi1, g1, g2, g3, g4, g5⟩ := h0.ex
          obtain ⟨C', e1', lo', hi1', g1', g2', g3', g4', g5'⟩ := hr.ex
          obtain ⟨C0, e0, lo0, hi0, k1, k2, k3, k4, k5⟩ := (h.blk _ _ _ _ _ hσ hB).ex
          refine ⟨C', e1', lo', hi1', g1', ?_, g3, fun o v hv => ?_, fun hw => absurd (Or.inl hw) hz⟩
          · rw [k1] at g1; cases g1; omega
          · have := Cont.at_lt hv; exact absurd (Or.inr (by omega)) hz
        · exact h0.same (hs.old b' e)
  · intro i b' δ' s' Bi hi hBi hw
    rcases hget i Bi hBi with ⟨rfl, rfl⟩ | ⟨hne, hBi⟩
    · rw [hwr'] at hw; cases hw
    · exact h.wrs _ _ _ _ _ hi hBi hw
  · intro i j bi δi si bj δj sj Bi Bj hi hj hij hBi hBj hw hz
    rcases hget i Bi hBi with ⟨rfl, rfl⟩ | ⟨hne, hBi2⟩
    · rw [hwr'] at hw; cases hw
    · rcases hget j Bj hBj with ⟨rfl, rfl⟩ | ⟨hnej, hBj2⟩
      · exact h.inj _ _ _ _ _ _ _ _ _ _ hi hj hij hBi2 hB hw (.inl hwr)
      · exact h.inj _ _ _ _ _ _ _ _ _ _ hi hj hij hBi2 hBj2 hw hz

theorem simpK_sound (hT : TabOK P T) {O : Quiet} (hO : QuietOK P O) {mem : Mem} {ev : Operand → AV} {o : Oper} {K : AV → Eff → Option ρ} {r : ρ} (h : simpK T O mem ev o.op K = some r) :
    ∃ v eff, K v eff = some r ∧ Does P o mem ev v eff ∧ 
      (∀ id B, eff.st = some (id, B) → (∀ l, fpOf mem ev o.op = some l → id ∈ l) ∧ ∃ B0 : Blk, mem[id]? = some B0) := by
  unfold simpK at h
  split at h
  · -- load
    rename_i t a ho
    split at h
    · rename_i id off ha
      obtain ⟨v, hk, hs⟩ := loadK_sound hT h
      refine ⟨v, .none, hk, fun W Wr σ full w re hst hp _ hr => ?_, by simp⟩
      have h1 := hr a (by rw [ho]; simp [Op.operands])
      rw [ha] at h1
      obtain ⟨rv, h2, h3⟩ := hs σ w (re a) (fun b δ s B hσ hB => hst.memRel _ _ _ _ _ hσ (hp id B (fun l hl => by rw [ho] at hl; simp [fpOf, ha] at hl; subst hl; simp) hB)) h1
      exact ⟨by simp, OpTo.of_value (by simp [execOp, ho, h2]) ⟨σ, .refl σ, h3, hst, fun i p hi => .inl hi⟩⟩
    · cases h
  · -- store
    rename_i t a x ho
    split at h
    · rename_i id off ha
      obtain ⟨B, B', hB, hk, hsz, hw', hw, hs⟩ := storeK_sound (P := P) hT h
      refine ⟨_, .store id B', hk, fun W Wr σ full w re hst hp _ hr => ?_, fun id2 B2 e => ?_⟩
      · have h1 := hr a (by rw [ho]; simp [Op.operands])
        have h2 := hr x (by rw [ho]; simp [Op.operands])
        rw [ha] at h1
        obtain ⟨w', h3, h4⟩ := hs W Wr σ full w (re a) (re x) hst (hp _ _ (fun l hl => by rw [ho] at hl; simp [fpOf, ha] at hl; subst hl; simp) hB) h1 h2
        refine ⟨fun id2 B2 e => ?_, OpTo.of_skip (by simp [execOp, ho, h3]) ⟨σ, .refl σ, .tup _ _ .nil, h4, fun i p hi => .inl hi⟩⟩
        cases e
        generalize re a = va at h1
        cases h1 with | ptr _ _ b δ s hσ => exact ⟨_, hσ⟩
      · cases e; exact ⟨fun l hl => by rw [ho] at hl; simp [fpOf, ha] at hl; subst hl; simp, B, hB⟩
    · cases h
  · -- alloc
    rename_i t ho
    split at h
    · cases h
    · rename_i hne
      split at h
      · rename_i z hz
        refine ⟨_, _, h, Does.of_alloc fun σ w re hr => ?_, by simp⟩
        have k := hT.known (t := t) (fun e => hne e)
        obtain ⟨zv, h1, h2⟩ := k.run_zero (w := w) hz
        refine ⟨zv.cells, t, .pointer (some ⟨w.heap.size, 0, none⟩), ?_, ?_, fun i u hu => (h2 σ).at_cells i u hu, fun σ' hσ' => .ptr _ _ _ _ _ hσ'⟩
        · simp [execOp, ho, Instr.alloc, h1, newVar, newRow]
        · exact Nat.le_of_eq (h2 σ).size
      · cases h
  · -- convert
    rename_i src dst x ho
    split at h
    · rename_i e hs hd
      split at h
      · rename_i he
        obtain ⟨s, hk, hst2⟩ := strK_sound (P := P) h
        refine ⟨_, .none, hk, fun W Wr σ full w re hst hp _ hr => ?_, by simp⟩
        have h1 := hr x (by rw [ho]; simp [Op.operands])
        obtain ⟨a, l, c, e1, e2⟩ := hst2 σ w (re x) (fun id hid b δ z B hσ hB => hst.memRel _ _ _ _ _ hσ (hp id B (fun l h2 => by
          rw [ho] at h2
          simp only [fpOf, Option.some.injEq] at h2
          subst h2
          cases hx : ev x <;> rw [hx] at hid <;> simp_all [fpS, strId]) hB)) h1
        have us := (hT.known (t := src) (by rw [hs]; simp)).slice hs
        have ud := (hT.known (t := dst) (by rw [hd]; simp)).str hd
        have ue := (hT.known (t := e) (by rw [he]; simp)).int he
        have h3 : (convert src dst (re x)).run P w = .ok (.string s) w := by
          rw [e1, run_convert_bytes_string w src dst e a l c us ue ud]; exact e2
        exact ⟨by simp, OpTo.of_value (by simp [execOp, ho, h3]) ⟨σ, .refl σ, .str s, hst, fun i p hi => .inl hi⟩⟩
      · cases h
    · rename_i e hs hd
      split at h
      · rename_i s he hx
        obtain ⟨hc, h⟩ := bif_some h
        have hc := of_decide_eq_true hc
        refine ⟨_, _, h, fun W Wr σ full w re hst _ hal hr => ?_, by simp⟩
        have h1 := hr x (by rw [ho]; simp [Op.operands])
        rw [hx] at h1
        generalize hvx : re x = vx at h1
        cases h1
        obtain ⟨hB, hn⟩ := hal _ rfl
        have us := (hT.known (t := src) (by rw [hs]; simp)).str hs
        have ud := (hT.known (t := dst) (by rw [hd]; simp)).slice hd
        have ue := (hT.known (t := e) (by rw [he]; simp)).int he
        have h3 := Lib.run_convert_string_bytes (P := P) w src dst e s us ud ue
        have hcs : s.size ≤ grownCap w s.size 0 e := by
          simp only [grownCap, Question.cut]; omega
        have hcz : grownCap w s.size 0 e < 9223372036854775808 := by
          simp only [grownCap, Question.cut]
          have := Nat.mod_lt (w.tape w.drawn (.appendCap s.size 0 e)) (show 0 < 2 ^ 63 - s.size by omega)
          omega
        have hsd : s.data.size = s.size := rfl
        have hCs : (Lib.bytesCells w e s).size = grownCap w s.size 0 e := by
          simp only [Lib.bytesCells, Array.size_append, Array.size_map, Array.size_replicate]; omega
        have hwd : Lib.bytesWorld w e s = { ({ w with drawn := w.drawn + 1 } : World) with heap := w.heap.push (.cells (Lib.bytesCells w e s) e ((Lib.bytesCells w e s).size, (Lib.bytesCells w e s).size + 1)) } := by
          have hh : (Lib.bytesWorld w e s).heap = w.heap.push (.cells (Lib.bytesCells w e s) e ((Lib.bytesCells w e s).size, (Lib.bytesCells w e s).size + 1)) := by
            refine Array.ext_getElem? fun j => ?_
            rw [Array.getElem?_push]
            by_cases ej : j = w.heap.size
            · rw [if_pos ej, ej, Lib.bytesWorld_at_new]
            · rw [if_neg ej]
              rcases Nat.lt_or_ge j w.heap.size with hlt | hge
              · exact Lib.bytesWorld_at_old w e s j hlt
              · rw [Array.getElem?_eq_none (by rw [Lib.bytesWorld_size]; omega), Array.getElem?_eq_none hge]
          rw [← hh]
          rfl
        refine ⟨by simp, OpTo.of_value (v := .slice (some ⟨w.heap.size, 0, none⟩) s.size (grownCap w s.size 0 e)) (w' := Lib.bytesWorld w e s) (by simp [execOp, ho, hvx, h3]) ⟨_, upd_ext (p := (w.heap.size, 0, (Lib.bytesCells w e s).size)) hn, ?_, ?_, fun i p hi => ?_⟩⟩
        · exact .slice _ _ _ _ _ _ _ _ (upd_self _ _ _) hcs hcz (fun _ => by rw [hCs]; omega)
        · rw [hwd]
          refine (hst.drawn (w.drawn + 1)).alloc hn hB ?_ (fun i v hv => ?_) (_, _) (fun o ho h => ?_)
          · simp only [Cont.size, strBytes, List.length_map, Array.length_toList]; omega
          · simp only [Cont.at?, strBytes, List.getElem?_map, Option.map_map, Option.map_eq_some_iff] at hv
            obtain ⟨u, hu, rfl⟩ := hv
            have hlt : i < s.data.size := by have := (List.getElem?_eq_some_iff.1 hu).1; simpa using this
            refine ⟨.int .u8 ((u.toNat : Nat) : Int), ?_, .u _ _ rfl (by have := u.toNat_lt; simpa [IntKind.bits] using this)⟩
            have hu' : s.data[i]? = some u := by simpa using hu
            simp only [Lib.bytesCells]
            rw [Array.getElem?_append_left (by simpa using hlt), Array.getElem?_map, hu']; rfl
          · omega
        · by_cases e1 : i = mem.length
          · exact .inr ⟨⟨_, rfl⟩, e1⟩
          · rw [upd_ne _ e1] at hi; exact .inl hi
      · cases h
    · rename_i e e2 hs hd
      split at h
      · rename_i id off len ap he hx
        split at h
        · rename_i B hB
          rw [nth_eq] at hB
          obtain ⟨hc, hK⟩ := bif_some h
          clear h
          simp only [Bool.and_eq_true] at hc
          obtain ⟨hwr, hsd, hlen⟩ := hc
          have hsd := Nat.eq_of_beq_eq_true hsd
          have hlen : 0 < len := by simpa [Nat.blt_eq] using hlen
          have us := (hT.known (t := src) (by rw [hs]; simp)).slice hs
          have ud := (hT.known (t := dst) (by rw [hd]; simp)).slice hd
          have ue := (hT.known (t := e) (by rw [he]; simp)).int he
          subst hsd
          have e12 : e2 = e := by rw [us] at ud; cases ud; rfl
          subst e12
          refine ⟨_, _, hK, fun W Wr σ full w re hst hp _ hr => ?_, fun id2 B2 e => by cases e; exact ⟨fun l hl => by rw [ho] at hl; simp [fpOf, hx, fpS] at hl; subst hl; simp, B, hB⟩⟩
          have h1 := hr x (by rw [ho]; simp [Op.operands])
          rw [hx] at h1
          have hBf : full[id]? = some B := hp id B (fun l hl => by rw [ho] at hl; simp [fpOf, hx, fpS] at hl; subst hl; simp) hB
          have h0 := h1
          generalize hvx : re x = vx at h1
          cases h1 with
          | slic0 => omega
          | slice _ _ _ _ cap b δ s hσ g1 g2 g3 =>
            obtain ⟨C, e3, lo, hi, m1, m2, m3, m4, m5⟩ := (hst.blk _ _ _ _ _ hσ hBf).ex
            have hsh : w.shape? b = some (e3, C.size) := by simp [World.shape?, m1]
            have hconv : (convert src src (.slice (some ⟨b, δ + off, none⟩) len cap)).run P w = .ok (.slice (some ⟨b, δ + off, none⟩) len cap) (w.freeze ⟨b, C.size, none⟩ 1) := by
              simp [convert, run_under us, run_under ue, markStringish, hsh]
            refine ⟨fun id2 B2 e => by cases e; exact ⟨_, hσ⟩, OpTo.of_value (v := re x) (w' := w.freeze ⟨b, C.size, none⟩ 1) (by rw [hvx]; simp [execOp, ho, hvx, hconv]) ⟨σ, .refl σ, by rw [hx]; exact h0, ?_, fun i p hi => .inl hi⟩⟩
            have hh : (w.freeze ⟨b, C.size, none⟩ 1).heap[b]? = some (.cells C e3 (if lo == hi then (C.size, C.size + 1) else (min lo C.size, max hi (C.size + 1)))) := by
              simp [World.freeze, Array.getElem?_modify, m1]
            refine hst.mark hσ hBf hwr rfl rfl ⟨rfl, rfl, rfl, by simp [World.freeze], fun k hk => ?_⟩ ⟨C, e3, _, _, hh, m2, m3, m4, fun hw => by cases hw⟩
            simp [World.freeze, Array.getElem?_modify, Ne.symm hk]
        · cases h
      · cases h
    · rw [← ho] at h
      obtain ⟨v, hk, hd⟩ := Does.of_pure (mem := mem) hT h
      exact ⟨v, .none, hk, hd, by simp⟩
  · -- box
    rename_i t x ho
    obtain ⟨hc, h⟩ := bif_some h
    refine ⟨_, _, h, Does.of_alloc fun σ w re hr => ?_, by simp⟩
    have h1 := (hr x (by rw [ho]; simp [Op.operands])).cells hc
    refine ⟨(re x).cells, t, .pointer (some ⟨w.heap.size, 0, none⟩), ?_, ?_, fun i u hu => h1.at_cells i u hu, fun σ' hσ' => .ptr _ _ _ _ _ hσ'⟩
    · simp [execOp, ho, Instr.box, newVar, newRow]
    · exact Nat.le_of_eq h1.size
  · -- buildSlice
    rename_i t len parts ho
    split at h
    · rename_i e hty
      split at h
      · rename_i s z hs hz
        obtain ⟨hc, h⟩ := bif_some h
        simp only [Bool.and_eq_true] at hc
        have hzl := Nat.eq_of_beq_eq_true hc.1
        have hle := Nat.le_of_ble_eq_true hc.2
        split at h
        · rename_i cs hcs
          have ua := (hT.known (t := t) (by rw [hty]; simp)).slice hty
          obtain ⟨ke, hke⟩ := sz_known hT hs
          have main : ∀ (σ : Ren) (w : World) (re : Operand → Value), (∀ x ∈ o.op.operands.toList, R σ (ev x) (re x)) →
              ∃ C : Array Value, (execOp re o).run P w = .ok (.value (.slice (some ⟨w.heap.size, 0, none⟩) len len)) { w with heap := w.heap.push (.cells C e) } ∧ RL σ cs C.toList := by
            intro σ w re hr
            obtain ⟨zv, h1, h2⟩ := ke.run_zero (w := w) hz
            have hfill : ∀ zr : Array Value, RL σ (zcells z s (len * s)) ((Array.range (len * s)).map (zr[· % zr.size]!)).toList →
                ∃ C, Instr.fill (fun i => some (i * s, s)) ((Array.range (len * s)).map (zr[· % zr.size]!)) (parts.toList.map fun x => (x.1, re x.2)) = some C ∧ RL σ cs C.toList := fun zr h4 =>
              fillA_sound (σ := σ) (ev := ev) (re := re) (placeR := fun i => some (i * s, s)) (placeA := fun i => some (i * s, s)) (fun i p hp => hp)
              parts.toList (zcells z s (len * s)) _ cs (fun x hx => hr x.2 (by rw [ho]; simp only [Op.operands]; simp; exact ⟨x.1, by simpa using hx⟩)) h4 hcs
            have hn : ¬ (len * s > 2 ^ 24) := by omega
            have hparts : (Array.map (fun (x : Nat × Operand) => (x.1, re x.2)) parts).toList = parts.toList.map fun x => (x.1, re x.2) := by simp
            by_cases e0 : len * s = 0
            · obtain ⟨C, h5, h6⟩ := hfill #[] (by rw [e0]; simpa [zcells] using RL.nil)
              refine ⟨C, ?_, h6⟩
              rw [e0] at h5
              have hn0 : ¬ (0 > 2 ^ 24) := by omega
              simp only [execOp, ho, Instr.buildSlice, Sem.run_bind, run_under ua, Result.andThen_ok, ke.run_size, hke, e0, hn0, if_false, if_true, Sem.run_pure, hparts, h5, newRow, run_newObj]
            · obtain ⟨C, h5, h6⟩ := hfill zv.cells (zcells_R (h2 σ) hzl)
              refine ⟨C, ?_, h6⟩
              simp only [execOp, ho, Instr.buildSlice, Sem.run_bind, run_under ua, Result.andThen_ok, ke.run_size, hke, hn, if_false, e0, h1, Sem.run_pure, hparts, h5, newRow, run_newObj]
          obtain ⟨hcc, h⟩ := bif_some h
          simp only [Bool.and_eq_true] at hcc
          have hl1 := Nat.le_of_ble_eq_true hcc.1
          have hl2 := Nat.le_of_ble_eq_true hcc.2
          have hval : ∀ (σ' : Ren) (w : World) (C : Array Value), len ≤ C.size → σ' mem.length = some (w.heap.size, 0, C.size) →
              R σ' (.slice mem.length 0 len true) (.slice (some ⟨w.heap.size, 0, none⟩) len len) := fun σ' w C hC hσ' =>
            .slice _ _ _ _ _ _ _ _ hσ' (Nat.le_refl _) (by omega) (fun _ => by omega)
          split at h
          · split at h
            · rename_i l hl
              refine ⟨_, _, h, Does.of_alloc fun σ w re hr => ?_, by simp⟩
              obtain ⟨C, h1, h2⟩ := main σ w re hr
              have hcsl := toBytes_eq hl
              have hlen : l.length = C.size := by rw [← h2.size, hcsl]; simp
              refine ⟨C, e, _, h1, Nat.le_of_eq hlen, fun i u hu => ?_, fun σ' hσ' => hval σ' w C (by rw [← h2.size]; exact hl1) hσ'⟩
              refine h2.at_cells i u ?_
              rw [hcsl]; simpa [Cont.at?] using hu
            · cases h
          · refine ⟨_, _, h, Does.of_alloc fun σ w re hr => ?_, by simp⟩
            obtain ⟨C, h1, h2⟩ := main σ w re hr
            exact ⟨C, e, _, h1, Nat.le_of_eq h2.size, fun i u hu => h2.at_cells i u hu, fun σ' hσ' => hval σ' w C (by rw [← h2.size]; exact hl1) hσ'⟩
        · cases h
      · cases h
    · cases h
  · -- makeSlice
    rename_i t l c ho
    split at h
    · rename_i e l' c' hty hl hc
      split at h
      · rename_i hte hze
        obtain ⟨hcc, h⟩ := bif_some h
        simp only [Bool.and_eq_true] at hcc
        obtain ⟨hb, hs, hd⟩ := hcc
        have hb := Nat.eq_of_beq_eq_true hb
        have hs := Nat.eq_of_beq_eq_true hs
        have hd := of_decide_eq_true hd
        have ua := (hT.known (t := t) (by rw [hty]; simp)).slice hty
        have ke := hT.known (t := e) (by rw [hte]; simp)
        refine ⟨_, _, h, Does.of_alloc fun σ w re hr => ?_, by simp⟩
        have h1 := hr l (by rw [ho]; simp [Op.operands])
        have h2 := hr c (by rw [ho]; simp [Op.operands])
        rw [hl] at h1
        rw [hc] at h2
        generalize hvl : re l = vl at h1
        generalize hvc : re c = vc at h2
        cases h1 with | n _ a1 a2 =>
        cases h2 with | n _ a3 a4 =>
        obtain ⟨i, hi, hi1, hi2, hi3⟩ := ke.run_info (w := w)
        obtain ⟨zv, hz1, hz2⟩ := ke.run_zero (w := w) hze
        have hz2' := hz2 σ
        have hzc : zv.cells = #[.int .u8 0] := by
          have := hz2'
          generalize hzz : zv.cells.toList = zl at this
          cases this with | cons _ x _ m hx hm =>
          cases hm
          cases hx
          exact Array.ext' (by rw [hzz]; rfl)
        refine ⟨(Array.range c'.toNat).map (zv.cells[· % zv.cells.size]!), e, .slice (some ⟨w.heap.size, 0, none⟩) l'.toNat c'.toNat, ?_, by simp [Cont.size], fun i u hu => ?_, fun σ' hσ' => ?_⟩
        · have w1 : w64 l' = l' := w64_id a1 a2
          have w2 : w64 c' = c' := w64_id a3 a4
          have hbi : (i.bytes : Int) = 1 := by rw [hi2, hb]; rfl
          have n1 : ¬ (c' < 0 ∨ c' > 2 ^ 48) := by omega
          have n2 : ¬ (l' < 0) := by omega
          have n3 : ¬ (l' > c') := by omega
          simp only [execOp, ho, hvl, hvc, Instr.makeSlice, Sem.run_bind, run_under ua, Result.andThen_ok, asInt, asIntOf, Sem.run_pure, hi, wrap_w64, w1, w2, hbi, Int.one_mul]
          have hcond : (decide (c' < 0) || decide (c' > 2 ^ 48) || decide (l' < 0) || decide (l' > c')) = false := by simp; omega
          rw [if_neg (by simpa using hcond)]
          simp only [run_askRoom, Result.andThen_ok, ke.run_size, hs, Nat.mul_one, Sem.run_bind]
          by_cases e0 : c'.toNat = 0
          · have er : Array.range 0 = #[] := rfl
            simp [e0, newRow, er]
          · simp [e0, hz1, newRow]
        · simp only [Cont.at?, List.getElem?_replicate, Option.map_eq_some_iff] at hu
          obtain ⟨n, hn, rfl⟩ := hu
          split at hn
          · rename_i hlt
            cases hn
            refine ⟨.int .u8 ((0 : Nat) : Int), ?_, .u _ _ rfl (by simp [IntKind.bits])⟩
            simp [hlt, hzc, Nat.mod_one]
          · cases hn
        · refine .slice _ _ _ _ _ _ _ _ hσ' (by omega) (by omega) (fun _ => by simp)
      · cases h
    · cases h
  · -- call
    rename_i c ho
    split at h
    · rename_i f hcal
      split at h
      · rename_i f' caps hf
        · obtain ⟨v, nb, h, hO'⟩ := hO f' _ mem _ _ _ h
          have pre : ∀ {W : World} {Wr : Nat → Prop} {σ : Ren} {full : Mem} {w : World} {re : Operand → Value}, St W Wr σ full w → (∀ (i : Nat) (B : Blk), (∀ l, fpOf mem ev o.op = some l → i ∈ l) → mem[i]? = some B → full[i]? = some B) →
              (∀ x ∈ o.op.operands.toList, R σ (ev x) (re x)) → (nb.isSome = true → σ mem.length = none) → OpTo P o re w (Leaves σ mem w v nb) := by
            intro W Wr σ full w re hst hp hr hn
            have hf1 := hr f (by rw [ho]; simp [Op.operands, Call.operands, hcal])
            rw [hf] at hf1
            generalize hre : re f = vf at hf1
            cases hf1 with | fn _ _ arr hcaps =>
            have hargs : RL σ (callArgs ev c.args.toList ++ caps) (c.args.map re ++ arr).toList := by
              have h1 := callArgs_R (σ := σ) (ev := ev) (re := re) c.args.toList (fun x hx => hr x (by
                rw [ho]; simp only [Op.operands, Call.operands, hcal]; simp; right; simpa using hx))
              have := h1.append hcaps
              simpa using this
            have hfp : fpOf mem ev o.op = fpArgs mem (callArgs ev c.args.toList ++ caps) := by rw [ho]; simp [fpOf, hcal, hf]
            cases hfl : flatAt mem (AV.ids.go (callArgs ev c.args.toList ++ caps)) with
            | false =>
              exact OpTo.of_call ho hcal hre (hO' σ w _ hargs (hst.memRel.front fun i B => hp i B (fun l e => by rw [hfp, fpArgs, hfl] at e; cases e)) hn)
            | true =>
              have hin : ∀ (i : Nat), i ∈ AV.ids.go (callArgs ev c.args.toList ++ caps) → ∀ l, fpOf mem ev o.op = some l → i ∈ l := by
                intro i hi l e
                rw [hfp, fpArgs, hfl, cond_true] at e
                cases e; exact hi
              refine (OpTo.of_call ho hcal hre (hO' (rst σ (AV.ids.go (callArgs ev c.args.toList ++ caps))) w _ (hargs.rst fun i hi => hi) (fun i b δ s B hi hB => ?_) (fun hs => ?_))).mono fun rv w' hq => hq.mono (rst_ext _ _)
              · obtain ⟨h1, h2⟩ := rst_some hi
                exact (hst.blk i b δ s B h2 (hp i B (hin i h1) hB)).flat (flatAt_get hfl i h1 B hB)
              · cases he : rst σ (AV.ids.go (callArgs ev c.args.toList ++ caps)) mem.length with
                | none => rfl
                | some p => have := (rst_some he).2; rw [hn hs] at this; cases this
          cases nb with
          | none =>
            refine ⟨v, .none, h, fun W Wr σ full w re hst hp _ hr => ⟨by simp, ?_⟩, by simp⟩
            exact (pre hst hp hr (by simp)).mono fun rv w' hq => ⟨σ, .refl σ, hq.2, hst.below hq.1, fun i p hi => .inl hi⟩
          | some B =>
            refine ⟨v, .alloc B, h, fun W Wr σ full w re hst hp hal hr => ⟨by simp, ?_⟩, by simp⟩
            obtain ⟨hB, hn⟩ := hal B rfl
            refine (pre hst hp hr (fun _ => hn)).mono fun rv w' ⟨hq1, b, δ, s, g1, g2, g3, g4⟩ => ⟨_, upd_ext hn, g3, hst.adopt hq1 hn hB g1 g2 g4, fun i p hi => ?_⟩
            by_cases e : i = mem.length
            · exact .inr ⟨⟨B, rfl⟩, e⟩
            · rw [upd_ne _ e] at hi; exact .inl hi
      · cases h
    · rename_i hcal
      split at h
      · rename_i t x ht hx
        have hlen : ∀ (v : AV) (n : Nat), K v .none = some r → (∀ (σ : Ren) (vx : Value) (w : World), R σ x vx → (Builtin.len_ #[t] o.type #[vx]).run P w = .ok (.int .i64 (n : Int)) w ∧ R σ v (.int .i64 (n : Int))) →
            ∃ v eff, K v eff = some r ∧ Does P o mem ev v eff ∧
              (∀ id B, eff.st = some (id, B) → (∀ l, fpOf mem ev o.op = some l → id ∈ l) ∧ ∃ B0 : Blk, mem[id]? = some B0) := by
          intro v n hk hs
          refine ⟨v, .none, hk, fun W Wr σ full w re hst _ _ hr => ?_, by simp⟩
          have hat : c.argTypes = #[t] := Array.ext' (by simpa using ht)
          cases hca : c.args.toList with
          | nil => rw [hca] at hx; simp [callArgs] at hx
          | cons y l =>
            rw [hca] at hx
            cases l with
            | cons z l => simp [callArgs] at hx
            | nil =>
              simp only [callArgs, List.cons.injEq, and_true] at hx
              have har : c.args = #[y] := Array.ext' (by simpa using hca)
              have hy := hr y (by rw [ho]; simp [Op.operands, Call.operands, hcal, har])
              rw [hx] at hy
              obtain ⟨h1, h2⟩ := hs σ (re y) w hy
              refine ⟨by simp, OpTo.of_value ?_ ⟨σ, .refl σ, h2, hst, fun i p hi => .inl hi⟩⟩
              simp [execOp, ho, resolve, hcal, invoke, builtin, hat, har, h1]
        split at h
        · rename_i e id off len ap hty
          have ua := (hT.known (t := t) (by rw [hty]; simp)).slice hty
          refine hlen _ len h fun σ vx w hvx => ?_
          cases hvx with
          | slice _ _ _ _ cap b δ s hσ h1 h2 h3 => exact ⟨by simp [Builtin.len_, run_under ua, goInt], .n _ (by omega) (by omega)⟩
          | slic0 => exact ⟨by simp [Builtin.len_, run_under ua, goInt], .n _ (by omega) (by omega)⟩
        · rename_i e hty
          have ua := (hT.known (t := t) (by rw [hty]; simp)).slice hty
          refine hlen _ 0 h fun σ vx w hvx => ?_
          cases hvx
          exact ⟨by simp [Builtin.len_, run_under ua, goInt], .n _ (by omega) (by omega)⟩
        · rename_i e hty
          have ua := (hT.known (t := t) (by rw [hty]; simp)).slice hty
          refine hlen _ 0 h fun σ vx w hvx => ?_
          cases hvx
          exact ⟨by simp [Builtin.len_, run_under ua, goInt], .n _ (by omega) (by omega)⟩
        · rename_i n e hty
          obtain ⟨hc1, h⟩ := bif_some h
          have hc1 := of_decide_eq_true hc1
          have ua := (hT.known (t := t) (by rw [hty]; simp)).arr hty
          exact hlen _ n h fun σ vx w hvx => ⟨by cases vx <;> simp [Builtin.len_, run_under ua, goInt], .n _ (by omega) (by omega)⟩
        · rename_i s hty
          obtain ⟨hc1, h⟩ := bif_some h
          have hc1 := of_decide_eq_true hc1
          have ua := (hT.known (t := t) (by rw [hty]; simp)).str hty
          refine hlen _ s.size h fun σ vx w hvx => ?_
          cases hvx
          exact ⟨by simp [Builtin.len_, run_under ua, goInt], .n _ (by omega) (by omega)⟩
        · cases h
      · cases h
    · cases h
  · -- others
    rename_i h1 h2 h3 h4 h5 h6 h7 h8
    obtain ⟨v, hk, hd⟩ := Does.of_pure (mem := mem) hT h
    exact ⟨v, .none, hk, hd, by simp⟩

end Pw

namespace Pw
open Go Go.RowKit

variable {P : Program} {T : List (Nat × TE)} {ρ : Type}

/-! ### operations one behind the other -/

def FSt (W : World) (Wr : Nat → Prop) (σ : Ren) (mem : Mem) (w : World) : Prop :=
  St W Wr σ mem w ∧ ∀ (i : Nat) (p : Nat × Nat × Nat), σ i = some p → i < mem.length

/-- what is known of calls that turn memory -/
abbrev Loud := FuncId → Option (List AV → Mem → ∀ {ρ : Type}, (AV → Mem → Option ρ) → Option ρ)

def LoudAt (P : Program) (f : FuncId) (g : List AV → Mem → ∀ {ρ : Type}, (AV → Mem → Option ρ) → Option ρ) : Prop :=
  ∀ (args : List AV) (mem : Mem) (ρ : Type) (K : AV → Mem → Option ρ) (r : ρ), g args mem K = some r → ∃ v mem', K v mem' = some r ∧
    ∀ (W : World) (Wr : Nat → Prop) (σ : Ren) (w : World) (real : Array Value), FSt W Wr σ mem w → RL σ args real.toList →
      CallTo P f real w fun rv w' => ∃ σ', Ext σ σ' ∧ R σ' v rv ∧ FSt W Wr σ' mem' w'

def LoudOK (P : Program) (M : Loud) : Prop := ∀ f g, M f = some g → LoudAt P f g

/-- what an operation does to the whole state -/
def FDoes (P : Program) (o : Oper) (mem : Mem) (ev : Operand → AV) (v : AV) (mem' : Mem) : Prop :=
  ∀ (W : World) (Wr : Nat → Prop) (σ : Ren) (w : World) (re : Operand → Value), FSt W Wr σ mem w → (∀ x ∈ o.op.operands.toList, R σ (ev x) (re x)) →
    OpTo P o re w fun rv w' => ∃ σ', Ext σ σ' ∧ R σ' v rv ∧ FSt W Wr σ' mem' w'

theorem Does.full {o : Oper} {mem : Mem} {ev : Operand → AV} {v : AV} {eff : Eff} (h : Does P o mem ev v eff) : FDoes P o mem ev v (eff.on mem) := by
  intro W Wr σ w re hst hr
  cases eff with
  | none =>
    refine (h W Wr σ mem w re hst.1 (fun _ _ _ h => h) (by simp) hr).2.mono fun rv w' ⟨σ', h1, h2, h3, h4⟩ => ⟨σ', h1, h2, h3, fun i p hi => ?_⟩
    rcases h4 i p hi with h5 | ⟨⟨B, h5⟩, _⟩
    · exact hst.2 i p h5
    · cases h5
  | alloc B =>
    have hn : σ mem.length = Option.none := by
      cases hs : σ mem.length with
      | none => rfl
      | some p => have := hst.2 _ _ hs; omega
    refine (h W Wr σ (mem ++ [B]) w re (hst.1.more hst.2 [B]) (fun i B' _ hB' => ?_) (fun B' hB' => ?_) hr).2.mono fun rv w' ⟨σ', h1, h2, h3, h4⟩ => ⟨σ', h1, h2, h3, fun i p hi => ?_⟩
    · rw [List.getElem?_append_left (List.getElem?_eq_some_iff.1 hB').1]; exact hB'
    · cases hB'; exact ⟨by simp, hn⟩
    · simp only [Eff.on, List.length_append, List.length_cons, List.length_nil]
      rcases h4 i p hi with h5 | ⟨_, h5⟩
      · have := hst.2 i p h5; omega
      · omega
  | move id B =>
    have hn : σ mem.length = Option.none := by
      cases hs : σ mem.length with
      | none => rfl
      | some p => have := hst.2 _ _ hs; omega
    have hh := h W Wr σ (mem ++ [B]) w re (hst.1.more hst.2 [B]) (fun i B' _ hB' => by rw [List.getElem?_append_left (List.getElem?_eq_some_iff.1 hB').1]; exact hB') (fun B' hB' => by cases hB'; exact ⟨by simp, hn⟩) hr
    obtain ⟨p, hp⟩ := hh.1 id dead rfl
    have hid := hst.2 _ _ hp
    refine hh.2.mono fun rv w' ⟨σ', h1, h2, h3, h4⟩ => ⟨σ', h1, h2, ?_, fun i p hi => ?_⟩
    · simp only [Eff.on, setNth_eq]
      rw [← List.set_append_left _ _ hid]
      exact h3
    · simp only [Eff.on, setNth_eq, List.length_append, List.length_set, List.length_cons, List.length_nil]
      rcases h4 i p hi with h5 | ⟨_, h5⟩
      · have := hst.2 i p h5; omega
      · omega
  | store id B =>
    refine (h W Wr σ mem w re hst.1 (fun _ _ _ h => h) (by simp) hr).2.mono fun rv w' ⟨σ', h1, h2, h3, h4⟩ => ⟨σ', h1, h2, ?_, fun i p hi => ?_⟩
    · simp only [Eff.on, setNth_eq]; exact h3
    · simp only [Eff.on, setNth_eq, List.length_set]
      rcases h4 i p hi with h5 | ⟨⟨B, h5⟩, _⟩
      · exact hst.2 i p h5
      · cases h5

abbrev Env := List (Nat × AV)

def look (t : Nat) : Env → AV
  | [] => .unk
  | (s, v) :: r => bif Nat.beq s t then v else look t r

def evO (env : Env) : Operand → AV
  | .tmp t => look t env
  | .const v => ofVal v
  | .global _ => .unk
  | .func f => .fn f []

structure EnvR (σ : Ren) (nt : Nat) (env : Env) (a : Act) : Prop where
  size : a.tmps.size = nt
  slot : ∀ t, R σ (look t env) (a.tmps.getD t undef)

theorem EnvR.ext {σ σ' : Ren} (h : Ext σ σ') {nt : Nat} {env : Env} {a : Act} (hr : EnvR σ nt env a) : EnvR σ' nt env a := ⟨hr.size, fun t => (hr.slot t).ext h⟩

theorem EnvR.eval {σ : Ren} {nt : Nat} {env : Env} {a : Act} (hr : EnvR σ nt env a) (x : Operand) : R σ (evO env x) (a.eval x) := by
  cases x with
  | tmp t => exact hr.slot t
  | const v => exact ofVal_R σ v
  | global g => exact .unk _
  | func f => exact .fn _ _ _ .nil

theorem EnvR.put {σ : Ren} {nt : Nat} {env : Env} {a : Act} (hr : EnvR σ nt env a) {d : Nat} (hd : d < nt) {v : AV} {rv : Value} (hv : R σ v rv) : EnvR σ nt ((d, v) :: env) (a.put (some d) rv) := by
  refine ⟨by simp [Act.put, hr.size], fun t => ?_⟩
  simp only [look, Act.put]
  by_cases e : d = t
  · subst e
    have : Nat.beq d d = true := Nat.beq_refl d
    rw [this, cond_true]
    simpa [Array.getD, hr.size, hd] using hv
  · have hb : Nat.beq d t = false := by
      cases hb : Nat.beq d t with
      | false => rfl
      | true => exact absurd (Nat.eq_of_beq_eq_true hb) e
    rw [hb, cond_false]
    have h2 := hr.slot t
    simp only [Array.getD_eq_getD_getElem?] at h2 ⊢
    rw [Array.getElem?_setIfInBounds_ne e]; exact h2

def putK (nt : Nat) (dst : Option Nat) (v : AV) (env : Env) (K : Env → Option ρ) : Option ρ :=
  match dst with
  | none => K env
  | some d => bif Nat.ble (d + 1) nt then K ((d, v) :: env) else none

theorem putK_sound {nt : Nat} {dst : Option Nat} {v : AV} {env : Env} {K : Env → Option ρ} {r : ρ} (h : putK nt dst v env K = some r) :
    ∃ env', K env' = some r ∧ ∀ (σ : Ren) (a : Act) (rv : Value), EnvR σ nt env a → R σ v rv → EnvR σ nt env' (a.put dst rv) := by
  unfold putK at h
  split at h
  · exact ⟨env, h, fun σ a rv hr _ => hr⟩
  · rename_i d
    obtain ⟨hc, h⟩ := bif_some h
    have hc := Nat.le_of_ble_eq_true hc
    exact ⟨_, h, fun σ a rv hr hv => hr.put (by omega) hv⟩

/-- is an operation to be done? Where a test is not known both ways are gone. -/
def guardK (ops : Array Oper) (env : Env) (g : Option (Nat × Bool)) (K : Env → Bool → Option ρ) : Option ρ :=
  match g with
  | none => K env true
  | some (j, want) => match (ops[j]?).bind (·.dst) with
    | none => none
    | some d => match look d env with
      | .bool b => bif b then K ((d, .bool true) :: env) want else K ((d, .bool false) :: env) (!want)
      | .tup [] => K env false
      | _ => none

theorem EnvR.again {σ : Ren} {nt : Nat} {env : Env} {a : Act} (hr : EnvR σ nt env a) {d : Nat} {v : AV} (h : look d env = v) : EnvR σ nt ((d, v) :: env) a := by
  refine ⟨hr.size, fun t => ?_⟩
  simp only [look]
  by_cases e : d = t
  · subst e
    have : Nat.beq d d = true := Nat.beq_refl d
    rw [this, cond_true, ← h]; exact hr.slot d
  · have hb : Nat.beq d t = false := by
      cases hb : Nat.beq d t with
      | false => rfl
      | true => exact absurd (Nat.eq_of_beq_eq_true hb) e
    rw [hb, cond_false]; exact hr.slot t

/-- the slot that a guard looks at -/
def gslot (ops : Array Oper) (o : Oper) : Option Nat := o.guard.bind fun g => (ops[g.1]?).bind (·.dst)

theorem guardK_sound {ops : Array Oper} {env : Env} {o : Oper} {K : Env → Bool → Option ρ} {r : ρ} (h : guardK ops env o.guard K = some r) :
    ∃ env' b, K env' b = some r ∧ (∀ t, look t env' = look t env) ∧ ∀ (σ : Ren) (a : Act), (∀ d, gslot ops o = some d → R σ (look d env) (a.tmps.getD d undef)) → Region.wanted o (yielded ops a.tmps) = b := by
  unfold guardK at h
  split at h
  · rename_i hg
    exact ⟨env, true, h, fun _ => rfl, fun σ a hr => by simp [Region.wanted, hg]⟩
  · rename_i j want hg
    split at h
    · cases h
    · rename_i d hd
      have hlook : ∀ (v : AV), look d env = v → ∀ t, look t ((d, v) :: env) = look t env := by
        intro v hv t
        simp only [look]
        by_cases e : d = t
        · subst e
          have : Nat.beq d d = true := Nat.beq_refl d
          rw [this, cond_true, hv]
        · have hb : Nat.beq d t = false := by
            cases hb : Nat.beq d t with
            | false => rfl
            | true => exact absurd (Nat.eq_of_beq_eq_true hb) e
          rw [hb, cond_false]
      have hgs : gslot ops o = some d := by simp [gslot, hg, hd]
      have hy : ∀ (b : Bool), look d env = .bool b → ∀ (σ : Ren) (a : Act), (∀ d, gslot ops o = some d → R σ (look d env) (a.tmps.getD d undef)) → Region.wanted o (yielded ops a.tmps) = (b == want) := by
        intro b hb σ a hr
        have h1 := hr d hgs
        rw [hb] at h1
        have h2 : a.tmps[d]? = some (.bool b) := by
          simp only [Array.getD_eq_getD_getElem?] at h1
          cases h3 : a.tmps[d]? with
          | none => rw [h3] at h1; simp only [Option.getD_none, undef] at h1; cases h1
          | some x => rw [h3] at h1; simp only [Option.getD_some] at h1; cases h1; rfl
        simp only [Region.wanted, hg, yielded, hd, Option.bind_some, h2]
        cases b <;> cases want <;> rfl
      split at h
      · rename_i b hb
        cases b
        · refine ⟨_, _, h, hlook _ hb, fun σ a hr => ?_⟩
          rw [hy _ hb σ a hr]; cases want <;> rfl
        · refine ⟨_, _, h, hlook _ hb, fun σ a hr => ?_⟩
          rw [hy _ hb σ a hr]; cases want <;> rfl
      · rename_i hb
        refine ⟨_, _, h, fun _ => rfl, fun σ a hr => ?_⟩
        have h1 := hr d hgs
        rw [hb] at h1
        have h2 : ∀ b, a.tmps[d]? ≠ some (.bool b) := by
          intro b hb2
          simp only [Array.getD_eq_getD_getElem?, hb2, Option.getD_some] at h1
          cases h1
        simp only [Region.wanted, hg, yielded, hd, Option.bind_some]
        cases h3 : a.tmps[d]? with
        | none => rfl
        | some x =>
          cases x with
          | bool b => exact absurd h3 (h2 b)
          | _ => rfl
      · cases h

end Pw

namespace Pw
open Go Go.RowKit

variable {P : Program} {T : List (Nat × TE)} {ρ : Type}

/-! ### append and copy, over bytes -/

def sliceBytesK (mem : Mem) (x : AV) (K : List Nat → Option ρ) : Option ρ :=
  match x with
  | .nils => K []
  | .emp => K []
  | .slice id off len _ => match nth mem id with
    | some B => B.c.bytesK off len K
    | none => none
  | _ => none

theorem sliceBytes_at {mem : Mem} {x : AV} {K : List Nat → Option ρ} {r : ρ} (h : sliceBytesK mem x K = some r) :
    ∃ l, K l = some r ∧ ∀ (σ : Ren) (w : World) (vx : Value), (∀ id, strId x = some id → ∀ (b δ z : Nat) (B : Blk), σ id = some (b, δ, z) → mem[id]? = some B → BlkRel σ B b δ z w) → R σ x vx → ∃ base cap arr, vx = .slice base l.length cap ∧ cap < 9223372036854775808 ∧ l.length ≤ cap ∧
      (∀ n, n ≤ l.length → ∃ arr, (Builtin.firstCells 1 n vx).run P w = .ok arr w ∧ RL σ ((l.take n).map (AV.u .u8)) arr.toList) ∧
      (Builtin.firstCells 1 l.length vx).run P w = .ok arr w ∧ RL σ (l.map (AV.u .u8)) arr.toList := by
  unfold sliceBytesK at h
  split at h
  · refine ⟨[], h, fun σ w vx _ hx => ?_⟩
    cases hx
    exact ⟨none, 0, #[], rfl, by omega, by simp, fun n hn => ⟨#[], by simp [Builtin.firstCells], by simpa using RL.nil⟩, by simp [Builtin.firstCells], .nil⟩
  · refine ⟨[], h, fun σ w vx _ hx => ?_⟩
    cases hx with | emp a =>
    refine ⟨a, 0, #[], rfl, by omega, by simp, fun n hn => ⟨#[], ?_, by simpa using RL.nil⟩, ?_, .nil⟩
    · simp only [List.length_nil, Nat.le_zero] at hn; subst hn
      cases a <;> simp [Builtin.firstCells, loadCells, loadCellsFrom]
    · cases a <;> simp [Builtin.firstCells, loadCells, loadCellsFrom]
  · rename_i id off len ap
    split at h
    · rename_i B hB
      rw [nth_eq] at hB
      obtain ⟨l, hk, hl, hle, hat⟩ := Cont.bytesK_sound h
      refine ⟨l, hk, fun σ w vx hm hx => ?_⟩
      cases hx with
      | slic0 _ _ _ a =>
        have e : l = [] := List.length_eq_zero_iff.1 hl
        subst e
        refine ⟨a, 0, #[], rfl, by omega, by simp, fun n hn => ⟨#[], ?_, by simpa using RL.nil⟩, ?_, .nil⟩
        · simp only [List.length_nil, Nat.le_zero] at hn; subst hn
          cases a <;> simp [Builtin.firstCells, loadCells, loadCellsFrom]
        · cases a <;> simp [Builtin.firstCells, loadCells, loadCellsFrom]
      | slice _ _ _ _ cap b δ s hσ h1 h2 h3 =>
        have hbr := hm _ rfl _ _ _ _ hσ hB
        have key : ∀ n, n ≤ l.length → ∃ arr, (Builtin.firstCells 1 n (.slice (some ⟨b, δ + off, none⟩) len cap)).run P w = .ok arr w ∧ RL σ ((l.take n).map (AV.u .u8)) arr.toList := by
          intro n hn
          obtain ⟨arr, g1, g2⟩ := run_loadCells (P := P) (σ := σ) (b := b) (p := δ + off) (w := w) n 0 ((l.take n).map (AV.u .u8)) #[] (by rw [List.length_map, List.length_take]; omega) (fun j v hv => by
            rw [List.getElem?_map] at hv
            have hj : j < n := by
              have := (Option.map_eq_some_iff.1 hv)
              obtain ⟨_, hv', _⟩ := this
              have := (List.getElem?_eq_some_iff.1 hv').1
              rw [List.length_take] at this; omega
            rw [List.getElem?_take, if_pos hj] at hv
            have := hbr.cell (o := off + j) (v := v) (by rw [hat j (by omega)]; exact hv)
            rwa [← Nat.add_assoc, ← Nat.zero_add j] at this)
          exact ⟨arr, by simp only [Builtin.firstCells, Nat.mul_one, loadCells]; rw [g1]; simp, g2⟩
        obtain ⟨arr, g1, g2⟩ := key l.length (Nat.le_refl _)
        rw [List.take_length] at g2
        subst hl
        exact ⟨_, cap, arr, rfl, h2, h1, key, g1, g2⟩
    · cases h
  · cases h

theorem sliceBytes_sound {mem : Mem} {x : AV} {K : List Nat → Option ρ} {r : ρ} (h : sliceBytesK mem x K = some r) :
    ∃ l, K l = some r ∧ ∀ (σ : Ren) (w : World) (vx : Value), MemRel σ mem w → R σ x vx → ∃ base cap arr, vx = .slice base l.length cap ∧ cap < 9223372036854775808 ∧ l.length ≤ cap ∧
      (∀ n, n ≤ l.length → ∃ arr, (Builtin.firstCells 1 n vx).run P w = .ok arr w ∧ RL σ ((l.take n).map (AV.u .u8)) arr.toList) ∧
      (Builtin.firstCells 1 l.length vx).run P w = .ok arr w ∧ RL σ (l.map (AV.u .u8)) arr.toList := by
  obtain ⟨l, hk, hs⟩ := sliceBytes_at (P := P) h
  exact ⟨l, hk, fun σ w vx hm hx => hs σ w vx (fun id _ b δ z B hσ hB => hm id b δ z B hσ hB) hx⟩

/-- a type of bytes -/
def isU8 (T : List (Nat × TE)) (e : Nat) : Bool :=
  match (teAt T e).ty, (teAt T e).zero with
  | .int .u8, some [.u .u8 0] => Nat.beq (teAt T e).bytes 1 && Nat.beq (teAt T e).size 1
  | _, _ => false

theorem isU8_sound (hT : TabOK P T) {e : Nat} (h : isU8 T e = true) (w : World) :
    (Go.sizeOf e).run P w = .ok 1 w ∧ (∃ i, (typeInfo e).run P w = .ok i w ∧ i.bytes = 1) ∧ ∃ zv, (zeroValue e).run P w = .ok zv w ∧ zv.cells = #[.int .u8 0] := by
  unfold isU8 at h
  split at h
  · rename_i hte hze
    simp only [Bool.and_eq_true] at h
    have hb := Nat.eq_of_beq_eq_true h.1
    have hs := Nat.eq_of_beq_eq_true h.2
    have ke := hT.known (t := e) (by rw [hte]; simp)
    obtain ⟨i, hi, hi1, hi2, hi3⟩ := ke.run_info (w := w)
    obtain ⟨zv, hz1, hz2⟩ := ke.run_zero (w := w) hze
    refine ⟨by rw [ke.run_size, hs], ⟨i, hi, by omega⟩, zv, hz1, ?_⟩
    have := hz2 (fun _ => none)
    generalize hzz : zv.cells.toList = zl at this
    cases this with | cons _ x _ m hx hm =>
    cases hm
    cases hx
    exact Array.ext' (by rw [hzz]; rfl)
  · cases h

theorem St.kill {W : World} {Wr : Nat → Prop} {σ : Ren} {mem : Mem} {w : World} (h : St W Wr σ mem w) (id : Nat) : St W Wr σ (mem.set id dead) w := by
  have hget : ∀ (i : Nat) (Bi : Blk), (mem.set id dead)[i]? = some Bi → (i = id ∧ Bi = dead ∧ ∃ B0, mem[i]? = some B0) ∨ mem[i]? = some Bi := by
    intro i Bi hi
    by_cases e : id = i
    · subst e
      have hlt : id < mem.length := by have := (List.getElem?_eq_some_iff.1 hi).1; simpa using this
      rw [List.getElem?_set_self hlt] at hi
      exact .inl ⟨rfl, by simpa using hi.symm, _, List.getElem?_eq_getElem hlt⟩
    · right; rwa [List.getElem?_set_ne e] at hi
  refine ⟨h.os, h.tape, h.output, h.size, h.old, h.dom, fun i b δ s Bi hi hB => ?_, fun i b δ s Bi hi hB hw => ?_, fun i j bi δi si bj δj sj Bi Bj hi hj hij hBi hBj hw hz => ?_⟩
  · rcases hget i Bi hB with ⟨_, rfl, B0, hB0⟩ | hB0
    · obtain ⟨C, e, lo, hi1, g1, g2, g3, g4, g5⟩ := (h.blk _ _ _ _ _ hi hB0).ex
      exact ⟨C, e, lo, hi1, g1, g2, by simp [dead, Cont.size], fun o v hv => by simp [dead, Cont.at?] at hv, fun hw => by simp [dead] at hw⟩
    · exact h.blk _ _ _ _ _ hi hB0
  · rcases hget i Bi hB with ⟨_, rfl, _⟩ | hB0
    · simp [dead] at hw
    · exact h.wrs _ _ _ _ _ hi hB0 hw
  · rcases hget i Bi hBi with ⟨_, rfl, _⟩ | hB1
    · simp [dead] at hw
    · rcases hget j Bj hBj with ⟨_, rfl, _⟩ | hB2
      · simp [dead, Cont.size] at hz
      · exact h.inj _ _ _ _ _ _ _ _ _ _ hi hj hij hB1 hB2 hw hz

theorem growBy_le (need : Nat) : ∀ (k c : Nat), c < need + (need + 768) / 4 → Builtin.growBy need k c < need + (need + 768) / 4
  | 0, c, h => h
  | k + 1, c, h => by
    unfold Builtin.growBy
    split
    · exact h
    · exact growBy_le need k _ (by omega)

theorem nextslicecap_le {need cap : Nat} (h : ¬ need ≤ cap) (hn : need ≤ 175921860444160) : Builtin.nextslicecap need cap * 1 ≤ 2 ^ 48 := by
  unfold Builtin.nextslicecap
  split
  · omega
  · split
    · omega
    · have := growBy_le need 4 cap (by omega)
      omega


def maxRoom : Nat := 175921860444160

def appendK (T : List (Nat × TE)) (mem : Mem) (ts : List Nat) (xs : List AV) (K : AV → Mem → Option ρ) : Option ρ :=
  match ts, xs with
  | [st, xt], [s, x] => match (teAt T st).ty, (teAt T xt).ty with
    | .slice e, .slice _ => bif isU8 T e then
        sliceBytesK mem x fun l2 => (match s with
          | .nils => bif decide (l2.length ≤ maxRoom) then K (.slice mem.length 0 l2.length true) (mem ++ [⟨.bytes l2, true⟩]) else none
          | .slice id off len true => (match nth mem id with
            | some B => bif B.wr then B.c.bytesK off len fun l =>
                bif decide (len + l2.length ≤ maxRoom) then K (.slice mem.length 0 (len + l2.length) true) (setNth mem id dead ++ [⟨.bytes (l ++ l2), true⟩]) else none
              else none
            | none => none)
          | _ => none) else none
    | _, _ => none
  | _, _ => none

/-- a fresh block behind a draw -/
theorem FSt.fresh {W : World} {Wr : Nat → Prop} {σ : Ren} {mem : Mem} {w : World} (h : FSt W Wr σ mem w) {B : Blk} {C : Array Value} {e : TypeId} (hsz : B.c.size ≤ C.size)
    (hc : ∀ (o : Nat) (v : AV), B.c.at? o = some v → ∃ rv, C[o]? = some rv ∧ R σ v rv) (fz : Nat × Nat) (hfz : ∀ o, o < C.size → ¬ (fz.1 ≤ o ∧ o < fz.2)) :
    Ext σ (upd σ mem.length (w.heap.size, 0, C.size)) ∧ FSt W Wr (upd σ mem.length (w.heap.size, 0, C.size)) (mem ++ [B]) { w with heap := w.heap.push (.cells C e fz) } := by
  have hn : σ mem.length = none := by
    cases hs : σ mem.length with
    | none => rfl
    | some p => have := h.2 _ _ hs; omega
  refine ⟨upd_ext hn, (h.1.more h.2 [B]).alloc hn (by simp) hsz hc fz hfz, fun i p hi => ?_⟩
  simp only [List.length_append, List.length_cons, List.length_nil]
  by_cases e : i = mem.length
  · omega
  · rw [upd_ne _ e] at hi; have := h.2 i p hi; omega

/-- the same block under a new number, the old one forgotten -/
theorem St.rename {W : World} {Wr : Nat → Prop} {σ : Ren} {mem : Mem} {w w' : World} (h : St W Wr σ mem w) {id n b δ z off : Nat} {B B' : Blk} (hσ : σ id = some (b, δ, z)) (hB : mem[id]? = some B) (hwr : B.wr = true)
    (hn : σ n = none) (hBn : mem[n]? = some B')
    (hs : SameBut b w w') (hr : BlkRel (upd σ n (b, δ + off, z - off)) B' b (δ + off) (z - off) w')
    (hid : ∃ C e lo hi, w'.heap[b]? = some (.cells C e (lo, hi)) ∧ C.size = δ + z) :
    St W Wr (upd σ n (b, δ + off, z - off)) (mem.set id dead) w' := by
  have hext : Ext σ (upd σ n (b, δ + off, z - off)) := upd_ext hn
  have hidl : id < mem.length := (List.getElem?_eq_some_iff.1 hB).1
  have hbb := h.wrs _ _ _ _ _ hσ hB hwr
  have hidn : id ≠ n := by intro e; subst e; rw [hn] at hσ; cases hσ
  -- what block stands at a number that lies somewhere
  have hget : ∀ (i : Nat) (p : Nat × Nat × Nat) (Bi : Blk), upd σ n (b, δ + off, z - off) i = some p → (mem.set id dead)[i]? = some Bi →
      (i = n ∧ Bi = B' ∧ p = (b, δ + off, z - off)) ∨ (i = id ∧ Bi = dead ∧ p = (b, δ, z)) ∨ (i ≠ id ∧ i ≠ n ∧ mem[i]? = some Bi ∧ σ i = some p) := by
    intro i p Bi hi hBi
    by_cases e : i = n
    · subst e
      rw [upd_self] at hi; cases hi
      rw [List.getElem?_set_ne hidn, hBn] at hBi
      simp only [Option.some.injEq] at hBi
      exact .inl ⟨rfl, hBi.symm, rfl⟩
    · rw [upd_ne _ e] at hi
      by_cases e2 : id = i
      · subst e2
        rw [List.getElem?_set_self hidl] at hBi
        rw [hσ] at hi; cases hi
        exact .inr (.inl ⟨rfl, by simpa using hBi.symm, rfl⟩)
      · rw [List.getElem?_set_ne e2] at hBi
        exact .inr (.inr ⟨Ne.symm e2, e, hBi, hi⟩)
  refine ⟨hs.os.trans h.os, hs.tape.trans h.tape, hs.output.trans h.output, by rw [hs.size]; exact h.size, ?_, ?_, ?_, ?_, ?_⟩
  · intro k hk hnk
    have : k ≠ b := by
      intro e; subst e
      rcases hbb with h1 | h1
      · omega
      · exact hnk h1
    rw [hs.old k this]; exact h.old k hk hnk
  · intro i b' δ' s' hi
    rw [hs.size]
    by_cases e : i = n
    · subst e; rw [upd_self] at hi; cases hi; exact h.dom _ _ _ _ hσ
    · rw [upd_ne _ e] at hi; exact h.dom _ _ _ _ hi
  · intro i b' δ' s' Bi hi hBi
    rcases hget i _ Bi hi hBi with ⟨rfl, rfl, e⟩ | ⟨rfl, rfl, e⟩ | ⟨h1, h2, h3, h4⟩
    · cases e; exact hr
    · cases e
      obtain ⟨C, e, lo, hi1, g1, g2⟩ := hid
      exact ⟨C, e, lo, hi1, g1, g2, by simp [dead, Cont.size], fun o v hv => by simp [dead, Cont.at?] at hv, fun hw => by simp [dead] at hw⟩
    · have h0 := h.blk _ _ _ _ _ h4 h3
      by_cases hz : Bi.wr = true ∨ 0 < Bi.c.size
      · have hne := h.inj _ _ _ _ _ _ _ _ _ _ hσ h4 (Ne.symm h1) hB h3 hwr hz
        exact (h0.same (hs.old b' (Ne.symm hne))).ext hext
      · by_cases e : b' = b
        · subst e
          obtain ⟨C, e1, lo, hi1, g1, g2⟩ := hid
          obtain ⟨C0, e0, lo0, hi0, k1, k2, k3, k4, k5⟩ := h0.ex
          obtain ⟨C1, e2, lo1, hi2, m1, m2, m3, m4, m5⟩ := (h.blk _ _ _ _ _ hσ hB).ex
          rw [k1] at m1; cases m1
          exact ⟨C, e1, lo, hi1, g1, by omega, k3, fun o v hv => absurd (Or.inr (Nat.lt_of_le_of_lt (Nat.zero_le _) (Cont.at_lt hv))) hz, fun hw => absurd (Or.inl hw) hz⟩
        · exact (h0.same (hs.old b' e)).ext hext
  · intro i b' δ' s' Bi hi hBi hw
    rcases hget i _ Bi hi hBi with ⟨rfl, rfl, e⟩ | ⟨rfl, rfl, e⟩ | ⟨h1, h2, h3, h4⟩
    · cases e; exact hbb
    · simp [dead] at hw
    · exact h.wrs _ _ _ _ _ h4 h3 hw
  · intro i j bi δi si bj δj sj Bi Bj hi hj hij hBi hBj hw hz
    rcases hget i _ Bi hi hBi with ⟨rfl, rfl, e⟩ | ⟨rfl, rfl, e⟩ | ⟨h1, h2, h3, h4⟩
    · cases e
      rcases hget j _ Bj hj hBj with ⟨rfl, rfl, e⟩ | ⟨rfl, rfl, e⟩ | ⟨k1, k2, k3, k4⟩
      · exact absurd rfl hij
      · simp [dead, Cont.size] at hz
      · exact h.inj _ _ _ _ _ _ _ _ _ _ hσ k4 (Ne.symm k1) hB k3 hwr hz
    · simp [dead] at hw
    · rcases hget j _ Bj hj hBj with ⟨rfl, rfl, e⟩ | ⟨rfl, rfl, e⟩ | ⟨k1, k2, k3, k4⟩
      · cases e
        exact h.inj _ _ _ _ _ _ _ _ _ _ h4 hσ h1 h3 hB hw (.inl hwr)
      · simp [dead, Cont.size] at hz
      · exact h.inj _ _ _ _ _ _ _ _ _ _ h4 k4 hij h3 k3 hw hz


theorem FSt.rename {W : World} {Wr : Nat → Prop} {σ : Ren} {mem : Mem} {w w' : World} (h : FSt W Wr σ mem w) {id b δ z off : Nat} {B B' : Blk} (hσ : σ id = some (b, δ, z)) (hB : mem[id]? = some B) (hwr : B.wr = true)
    (hs : SameBut b w w') (hr : BlkRel (upd σ mem.length (b, δ + off, z - off)) B' b (δ + off) (z - off) w')
    (hid : ∃ C e lo hi, w'.heap[b]? = some (.cells C e (lo, hi)) ∧ C.size = δ + z) :
    Ext σ (upd σ mem.length (b, δ + off, z - off)) ∧ FSt W Wr (upd σ mem.length (b, δ + off, z - off)) (mem.set id dead ++ [B']) w' := by
  have hn : σ mem.length = none := by
    cases hs : σ mem.length with
    | none => rfl
    | some p => have := h.2 _ _ hs; omega
  have hext : Ext σ (upd σ mem.length (b, δ + off, z - off)) := upd_ext hn
  have hidl : id < mem.length := (List.getElem?_eq_some_iff.1 hB).1
  have hbb := h.1.wrs _ _ _ _ _ hσ hB hwr
  -- what block stands at a number that lies somewhere
  have hget : ∀ (i : Nat) (p : Nat × Nat × Nat) (Bi : Blk), upd σ mem.length (b, δ + off, z - off) i = some p → (mem.set id dead ++ [B'])[i]? = some Bi →
      (i = mem.length ∧ Bi = B' ∧ p = (b, δ + off, z - off)) ∨ (i = id ∧ Bi = dead ∧ p = (b, δ, z)) ∨ (i ≠ id ∧ i ≠ mem.length ∧ mem[i]? = some Bi ∧ σ i = some p) := by
    intro i p Bi hi hBi
    by_cases e : i = mem.length
    · subst e
      rw [upd_self] at hi; cases hi
      rw [List.getElem?_append_right (by simp)] at hBi
      simp only [List.length_set, Nat.sub_self, List.getElem?_cons_zero, Option.some.injEq] at hBi
      exact .inl ⟨rfl, hBi.symm, rfl⟩
    · rw [upd_ne _ e] at hi
      have hlt := h.2 i p hi
      rw [List.getElem?_append_left (by simpa using hlt)] at hBi
      by_cases e2 : id = i
      · subst e2
        rw [List.getElem?_set_self hidl] at hBi
        rw [hσ] at hi; cases hi
        exact .inr (.inl ⟨rfl, by simpa using hBi.symm, rfl⟩)
      · rw [List.getElem?_set_ne e2] at hBi
        exact .inr (.inr ⟨Ne.symm e2, e, hBi, hi⟩)
  refine ⟨hext, ⟨hs.os.trans h.1.os, hs.tape.trans h.1.tape, hs.output.trans h.1.output, by rw [hs.size]; exact h.1.size, ?_, ?_, ?_, ?_, ?_⟩, fun i p hi => ?_⟩
  · intro k hk hnk
    have : k ≠ b := by
      intro e; subst e
      rcases hbb with h1 | h1
      · omega
      · exact hnk h1
    rw [hs.old k this]; exact h.1.old k hk hnk
  · intro i b' δ' s' hi
    rw [hs.size]
    by_cases e : i = mem.length
    · subst e; rw [upd_self] at hi; cases hi; exact h.1.dom _ _ _ _ hσ
    · rw [upd_ne _ e] at hi; exact h.1.dom _ _ _ _ hi
  · intro i b' δ' s' Bi hi hBi
    rcases hget i _ Bi hi hBi with ⟨rfl, rfl, e⟩ | ⟨rfl, rfl, e⟩ | ⟨h1, h2, h3, h4⟩
    · cases e; exact hr
    · cases e
      obtain ⟨C, e, lo, hi1, g1, g2⟩ := hid
      exact ⟨C, e, lo, hi1, g1, g2, by simp [dead, Cont.size], fun o v hv => by simp [dead, Cont.at?] at hv, fun hw => by simp [dead] at hw⟩
    · have h0 := h.1.blk _ _ _ _ _ h4 h3
      by_cases hz : Bi.wr = true ∨ 0 < Bi.c.size
      · have hne := h.1.inj _ _ _ _ _ _ _ _ _ _ hσ h4 (Ne.symm h1) hB h3 hwr hz
        exact (h0.same (hs.old b' (Ne.symm hne))).ext hext
      · by_cases e : b' = b
        · subst e
          obtain ⟨C, e1, lo, hi1, g1, g2⟩ := hid
          obtain ⟨C0, e0, lo0, hi0, k1, k2, k3, k4, k5⟩ := h0.ex
          obtain ⟨C1, e2, lo1, hi2, m1, m2, m3, m4, m5⟩ := (h.1.blk _ _ _ _ _ hσ hB).ex
          rw [k1] at m1; cases m1
          exact ⟨C, e1, lo, hi1, g1, by omega, k3, fun o v hv => absurd (Or.inr (Nat.lt_of_le_of_lt (Nat.zero_le _) (Cont.at_lt hv))) hz, fun hw => absurd (Or.inl hw) hz⟩
        · exact (h0.same (hs.old b' e)).ext hext
  · intro i b' δ' s' Bi hi hBi hw
    rcases hget i _ Bi hi hBi with ⟨rfl, rfl, e⟩ | ⟨rfl, rfl, e⟩ | ⟨h1, h2, h3, h4⟩
    · cases e; exact hbb
    · simp [dead] at hw
    · exact h.1.wrs _ _ _ _ _ h4 h3 hw
  · intro i j bi δi si bj δj sj Bi Bj hi hj hij hBi hBj hw hz
    rcases hget i _ Bi hi hBi with ⟨rfl, rfl, e⟩ | ⟨rfl, rfl, e⟩ | ⟨h1, h2, h3, h4⟩
    · cases e
      rcases hget j _ Bj hj hBj with ⟨rfl, rfl, e⟩ | ⟨rfl, rfl, e⟩ | ⟨k1, k2, k3, k4⟩
      · exact absurd rfl hij
      · simp [dead, Cont.size] at hz
      · exact h.1.inj _ _ _ _ _ _ _ _ _ _ hσ k4 (Ne.symm k1) hB k3 hwr hz
    · simp [dead] at hw
    · rcases hget j _ Bj hj hBj with ⟨rfl, rfl, e⟩ | ⟨rfl, rfl, e⟩ | ⟨k1, k2, k3, k4⟩
      · cases e
        exact h.1.inj _ _ _ _ _ _ _ _ _ _ h4 hσ h1 h3 hB hw (.inl hwr)
      · simp [dead, Cont.size] at hz
      · exact h.1.inj _ _ _ _ _ _ _ _ _ _ h4 k4 hij h3 k3 hw hz
  · simp only [List.length_append, List.length_set, List.length_cons, List.length_nil]
    by_cases e : i = mem.length
    · omega
    · rw [upd_ne _ e] at hi; have := h.2 i p hi; omega


theorem run_append_fits (hT : TabOK P T) {st xt ty e : Nat} {d : TypeDesc} (hst : P.underlying st = some (.slice e)) (hxt : P.underlying xt = some d) (hd : ∀ k, d ≠ .int k) (hu : isU8 T e = true)
    {base base2 : Option Addr} {sl sc n c2 : Nat} {arr : Array Value} {w w' : World} (hfit : sl + n ≤ sc) (hfc : (Builtin.firstCells 1 n (.slice base2 n c2)).run P w = .ok arr w)
    (hs : match base with
      | some a => (storeCells (a.add sl) arr.toList).run P w = .ok () w'
      | none => w' = w) :
    (Builtin.append_ #[st, xt] ty #[.slice base sl sc, .slice base2 n c2]).run P w = .ok (.slice base (sl + n) sc) w' := by
  obtain ⟨h1, -, -⟩ := isU8_sound hT hu w
  cases base with
  | none =>
    subst hs
    simp [Builtin.append_, run_under hst, run_under hxt, h1, Builtin.lenOf, hfit, hfc]
  | some a =>
    simp [Builtin.append_, run_under hst, run_under hxt, h1, Builtin.lenOf, hfit, hfc, hs]

theorem run_append_grows (hT : TabOK P T) {st xt ty e : Nat} {d : TypeDesc} (hst : P.underlying st = some (.slice e)) (hxt : P.underlying xt = some d) (hd : ∀ k, d ≠ .int k) (hu : isU8 T e = true)
    {base base2 : Option Addr} {sl sc n c2 : Nat} {arr arr2 : Array Value} {w : World} (hfit : ¬ sl + n ≤ sc) (hroom : sl + n ≤ maxRoom)
    (hfc : (Builtin.firstCells 1 sl (.slice base sl sc)).run P { w with drawn := w.drawn + 1 } = .ok arr { w with drawn := w.drawn + 1 })
    (hfc2 : (Builtin.firstCells 1 n (.slice base2 n c2)).run P { w with drawn := w.drawn + 1 } = .ok arr2 { w with drawn := w.drawn + 1 }) :
    ∃ nc, sl + n ≤ nc ∧ nc < 9223372036854775808 ∧ (Builtin.append_ #[st, xt] ty #[.slice base sl sc, .slice base2 n c2]).run P w =
      .ok (.slice (some ⟨w.heap.size, 0, none⟩) (sl + n) nc) { w with drawn := w.drawn + 1, heap := w.heap.push (.cells (arr ++ arr2 ++ Builtin.zeroCells #[.int .u8 0] (nc - (sl + n))) e) } := by
  obtain ⟨h1, ⟨i, hi, hb⟩, zv, hz1, hz2⟩ := isU8_sound hT hu w
  have hcap := nextslicecap_le hfit hroom
  have hlt : sl + n < 2 ^ 63 := by unfold maxRoom at hroom; omega
  refine ⟨(Question.appendCap (sl + n) sc e).cut (w.tape w.drawn (.appendCap (sl + n) sc e)), ?_, ?_, ?_⟩
  · simp only [Question.cut]; omega
  · simp only [Question.cut]
    have := Nat.mod_lt (w.tape w.drawn (.appendCap (sl + n) sc e)) (show 0 < 2 ^ 63 - (sl + n) by omega)
    omega
  · have hi' : ∀ w' : World, (typeInfo e).run P w' = .ok i w' := by
      intro w'
      obtain ⟨-, ⟨i2, h2, -⟩, -⟩ := isU8_sound hT hu w'
      have e1 : (P.info? e) = some i := by
        simp only [typeInfo, Sem.run_bind, run_program, Result.andThen_ok] at hi
        split at hi
        · rename_i j hj; simp only [Sem.run_pure, Result.ok.injEq, and_true] at hi; rw [hj, hi]
        · simp at hi
      simp [typeInfo, e1]
    have hz1' : ∀ w' : World, (zeroValue e).run P w' = .ok zv w' := by
      intro w'
      simp only [zeroValue, Sem.run_bind, hi', Result.andThen_ok] at hz1 ⊢
      split at hz1
      · rename_i v hv; simp only [Sem.run_pure, Result.ok.injEq, and_true] at hz1 ⊢; exact hz1
      · simp at hz1
    have hf1 : ¬ (((sl + n : Nat) : Int) > IntKind.i64.max ∧ (False ∨ i.bytes = 0)) := by rw [hb]; simp
    have hcap' : ¬ (Builtin.nextslicecap (sl + n) sc * i.bytes > 2 ^ 48) := by rw [hb]; omega
    simp only [Builtin.append_]
    simp only [List.getElem?_toArray, List.getElem?_cons_zero, List.getElem?_cons_succ, Sem.run_bind, run_under hst, run_under hxt, Result.andThen_ok, h1, Sem.run_pure, Bool.false_eq_true, if_false, Builtin.lenOf, hfit, hi', hf1, hcap']
    simp [Question.forced, hz1', hz2, newRow, hb]
    have e1 : (Builtin.firstCells 1 sl (.slice base sl sc)).run P w.drew = .ok arr w.drew := hfc
    have e2 : (Builtin.firstCells 1 n (.slice base2 n c2)).run P w.drew = .ok arr2 w.drew := hfc2
    rw [e1]
    simp only [Result.andThen_ok]
    rw [e2]
    rfl


theorem bytes_read {σ : Ren} {B : Blk} {b δ z off : Nat} {w : World} (hbr : BlkRel σ B b δ z w) {l : List Nat} (hat : ∀ i, i < l.length → B.c.at? (off + i) = (l[i]?).map (AV.u .u8)) (len cap : Nat) :
    ∃ arr, (Builtin.firstCells 1 l.length (.slice (some ⟨b, δ + off, none⟩) len cap)).run P w = .ok arr w ∧ RL σ (l.map (AV.u .u8)) arr.toList := by
  obtain ⟨arr, g1, g2⟩ := run_loadCells (P := P) (σ := σ) (b := b) (p := δ + off) (w := w) l.length 0 (l.map (AV.u .u8)) #[] (by simp) (fun j v hv => by
    rw [List.getElem?_map] at hv
    have hj : j < l.length := by
      obtain ⟨_, hv', _⟩ := Option.map_eq_some_iff.1 hv
      exact (List.getElem?_eq_some_iff.1 hv').1
    have := hbr.cell (o := off + j) (v := v) (by rw [hat j hj]; exact hv)
    rwa [← Nat.add_assoc, ← Nat.zero_add j] at this)
  exact ⟨arr, by simp only [Builtin.firstCells, Nat.mul_one, loadCells]; rw [g1]; simp, g2⟩

theorem two_args {ev : Operand → AV} {c : Call} {s x : AV} (h : callArgs ev c.args.toList = [s, x]) : ∃ y z, c.args = #[y, z] ∧ ev y = s ∧ ev z = x := by
  generalize hl : c.args.toList = l at h
  match l, h with
  | [y, z], h =>
    simp only [callArgs, List.cons.injEq, and_true] at h
    exact ⟨y, z, Array.ext' hl, h.1, h.2⟩
  | [], h => simp [callArgs] at h
  | [_], h => simp [callArgs] at h
  | _ :: _ :: _ :: _, h => simp [callArgs] at h

theorem MemRel.drawn {σ : Ren} {mem : Mem} {w : World} (h : MemRel σ mem w) (k : Nat) : MemRel σ mem { w with drawn := k } :=
  fun i b δ s B hi hB => (h i b δ s B hi hB).same rfl

theorem FSt.drawn {W : World} {Wr : Nat → Prop} {σ : Ren} {mem : Mem} {w : World} (h : FSt W Wr σ mem w) (k : Nat) : FSt W Wr σ mem { w with drawn := k } := ⟨h.1.drawn k, h.2⟩
theorem FSt.kill {W : World} {Wr : Nat → Prop} {σ : Ren} {mem : Mem} {w : World} (h : FSt W Wr σ mem w) (id : Nat) : FSt W Wr σ (mem.set id dead) w := ⟨h.1.kill id, fun i p hi => by simpa using h.2 i p hi⟩
theorem FSt.more {W : World} {Wr : Nat → Prop} {σ : Ren} {mem : Mem} {w : World} (h : FSt W Wr σ mem w) (e : Mem) : FSt W Wr σ (mem ++ e) w :=
  ⟨h.1.more h.2 e, fun i p hi => by have := h.2 i p hi; simp; omega⟩

theorem u8_cells {σ : Ren} {l : List Nat} {arr : Array Value} (h : RL σ (l.map (AV.u .u8)) arr.toList) : l.length = arr.size := by
  have := h.size; simpa using this

theorem zeroCells_get (n i : Nat) (h : i < n) : (Builtin.zeroCells #[.int .u8 0] n)[i]? = some (.int .u8 0) := by
  simp [Builtin.zeroCells, h, Nat.mod_one]
theorem zeroCells_size (n : Nat) : (Builtin.zeroCells #[.int .u8 0] n).size = n := by simp [Builtin.zeroCells]

theorem appendK_sound (hT : TabOK P T) {mem : Mem} {ev : Operand → AV} {o : Oper} {c : Call} {K : AV → Mem → Option ρ} {r : ρ} (ho : o.op = .call c) (hc : c.callee = .builtin .append)
    (h : appendK T mem c.argTypes.toList (callArgs ev c.args.toList) K = some r) : ∃ v mem', K v mem' = some r ∧ FDoes P o mem ev v mem' := by
  unfold appendK at h
  split at h
  · rename_i st xt s x hts hxs
    have hat : c.argTypes = #[st, xt] := Array.ext' (by simpa using hts)
    obtain ⟨y, z, har, hy, hz⟩ := two_args hxs
    split at h
    · rename_i e e2 hsty hxty
      obtain ⟨hu, h⟩ := bif_some h
      have ust := (hT.known (t := st) (by rw [hsty]; simp)).slice hsty
      have uxt := (hT.known (t := xt) (by rw [hxty]; simp)).slice hxty
      obtain ⟨l2, h, hl2⟩ := sliceBytes_sound (P := P) h
      have hops : ∀ (σ : Ren) (re : Operand → Value), (∀ x ∈ o.op.operands.toList, R σ (ev x) (re x)) → R σ s (re y) ∧ R σ x (re z) := by
        intro σ re hr
        rw [ho] at hr
        have h1 := hr y (by simp [Op.operands, Call.operands, hc, har])
        have h2 := hr z (by simp [Op.operands, Call.operands, hc, har])
        rw [hy] at h1; rw [hz] at h2
        exact ⟨h1, h2⟩
      have hexec : ∀ (re : Operand → Value) (w w' : World) (rv : Value), (Builtin.append_ #[st, xt] o.type #[re y, re z]).run P w = .ok rv w' → (execOp re o).run P w = .ok (.value rv) w' := by
        intro re w w' rv hrun
        simp [execOp, ho, resolve, hc, invoke, builtin, hat, har, hrun]
      -- a fresh block
      have fresh : ∀ {W : World} {Wr : Nat → Prop} {σ : Ren} {w : World} {re : Operand → Value} {m0 : Mem} {base : Option Addr} {sc : Nat} {l : List Nat} {arr : Array Value}, m0.length = mem.length →
          FSt W Wr σ m0 w → MemRel σ mem w → re y = .slice base l.length sc → R σ x (re z) → ¬ l.length + l2.length ≤ sc → l.length + l2.length ≤ maxRoom →
          (Builtin.firstCells 1 l.length (.slice base l.length sc)).run P { w with drawn := w.drawn + 1 } = .ok arr { w with drawn := w.drawn + 1 } → RL σ (l.map (AV.u .u8)) arr.toList →
          OpTo P o re w fun rv w' => ∃ σ', Ext σ σ' ∧ R σ' (.slice mem.length 0 (l.length + l2.length) true) rv ∧ FSt W Wr σ' (m0 ++ [⟨.bytes (l ++ l2), true⟩]) w' := by
        intro W Wr σ w re m0 base sc l arr hml hst hmr hre hx hfit hroom hfc hR
        obtain ⟨b2, c2, arr2, g1, g2, g3, g4, g5, g6⟩ := hl2 σ { w with drawn := w.drawn + 1 } (re z) (hmr.drawn _) hx
        rw [g1] at g5
        obtain ⟨nc, n1, n2, n3⟩ := run_append_grows (P := P) (ty := o.type) hT ust uxt (by intro k; simp) hu hfit hroom hfc g5
        have s1 := u8_cells hR
        have s2 := u8_cells g6
        have hcells : RL σ ((l ++ l2).map (AV.u .u8)) (arr ++ arr2).toList := by simpa using hR.append g6
        obtain ⟨f1, f2⟩ := (hst.drawn (w.drawn + 1)).fresh (B := ⟨.bytes (l ++ l2), true⟩) (C := arr ++ arr2 ++ Builtin.zeroCells #[.int .u8 0] (nc - (l.length + l2.length))) (e := e)
          (by simp only [Cont.size, List.length_append, Array.size_append, zeroCells_size]; omega)
          (fun i v hv => by
            simp only [Cont.at?] at hv
            rw [← List.getElem?_map] at hv
            obtain ⟨rv, k1, k2⟩ := hcells.get hv
            have hlt : i < (arr ++ arr2).size := by
              have := (List.getElem?_eq_some_iff.1 k1).1; simpa using this
            exact ⟨rv, by rw [Array.getElem?_append_left hlt, ← Array.getElem?_toList]; exact k1, k2⟩) (0, 0) (fun o _ => by omega)
        rw [hml] at f1 f2
        refine OpTo.of_value (hexec re w _ _ (by rw [hre, g1]; exact n3)) ⟨_, f1, ?_, f2⟩
        refine .slice _ _ _ _ _ _ _ _ (upd_self _ _ _) n1 n2 (fun _ => ?_)
        simp only [Array.size_append, zeroCells_size]; omega
      cases s with
      | nils =>
        dsimp only at h
        obtain ⟨hroom, h⟩ := bif_some h
        have hroom := of_decide_eq_true hroom
        refine ⟨_, _, h, fun W Wr σ w re hst hr => ?_⟩
        obtain ⟨h1, h2⟩ := hops σ re hr
        generalize hvy : re y = vy at h1
        cases h1
        by_cases hfit : l2.length ≤ 0
        · have e0 : l2 = [] := List.length_eq_zero_iff.1 (by omega)
          obtain ⟨b2, c2, arr2, g1, g2, g3, g4, g5, g6⟩ := hl2 σ w (re z) hst.1.memRel h2
          rw [g1] at g5
          have hrun := run_append_fits (P := P) (ty := o.type) hT ust uxt (by intro k; simp) hu (base := none) (sl := 0) (sc := 0) (w' := w) (by omega) g5 rfl
          refine OpTo.of_value (hexec re w w _ (by rw [hvy, g1]; exact hrun)) ⟨σ, .refl σ, ?_, hst.more _⟩
          rw [e0]; exact .slic0 _ _ _ _
        · have := fresh (m0 := mem) (l := []) (arr := #[]) rfl hst hst.1.memRel hvy h2 (by simpa using hfit) (by simpa using hroom) (by simp [Builtin.firstCells]) .nil
          simpa using this
      | slice id off len ap =>
        cases ap with
        | false => cases h
        | true =>
        dsimp only at h
        split at h
        · rename_i B hB
          rw [nth_eq] at hB
          obtain ⟨hwr, h⟩ := bif_some h
          obtain ⟨l, h, hll, hle, hat⟩ := Cont.bytesK_sound h
          obtain ⟨hroom, h⟩ := bif_some h
          have hroom := of_decide_eq_true hroom
          rw [← hll] at h hroom hat hle
          refine ⟨_, _, h, fun W Wr σ w re hst hr => ?_⟩
          obtain ⟨h1, h2⟩ := hops σ re hr
          rw [← hll] at h1
          rw [setNth_eq]
          generalize hvy : re y = vy at h1
          have hidl : id < mem.length := (List.getElem?_eq_some_iff.1 hB).1
          generalize hgl : l.length = ll at h1
          cases h1 with
          | slic0 _ _ _ a =>
            have el : l = [] := List.length_eq_zero_iff.1 hgl
            subst el
            by_cases hfit : l2.length ≤ 0
            · have e0 : l2 = [] := List.length_eq_zero_iff.1 (by omega)
              obtain ⟨b2, c2, arr2, g1, g2, g3, g4, g5, g6⟩ := hl2 σ w (re z) hst.1.memRel h2
              rw [g1] at g5
              have ea : arr2 = #[] := by
                have := u8_cells g6
                rw [e0] at this
                exact Array.size_eq_zero_iff.1 (by simpa using this.symm)
              have hrun := run_append_fits (P := P) (ty := o.type) hT ust uxt (by intro k; simp) hu (base := a) (sl := 0) (sc := 0) (w' := w) (by omega) g5 (by
                subst ea; cases a <;> simp [storeCells])
              refine OpTo.of_value (hexec re w w _ (by rw [hvy, g1]; exact hrun)) ⟨σ, .refl σ, ?_, (hst.kill id).more _⟩
              rw [e0]; exact .slic0 _ _ _ _
            · have := fresh (m0 := mem.set id dead) (l := []) (arr := #[]) (base := a) (sc := 0) (by simp) (hst.kill id) hst.1.memRel hvy h2 (by simpa using hfit) (by simpa using hroom) (by
                cases a <;> simp [Builtin.firstCells, loadCells, loadCellsFrom]) .nil
              simpa using this
          | slice _ _ _ _ cap b δ zz hσ k1 k2 k3 =>
            subst hgl
            have hbr := hst.1.blk _ _ _ _ _ hσ hB
            by_cases hfit : l.length + l2.length ≤ cap
            · -- in place
              obtain ⟨b2, c2, arr2, g1, g2, g3, g4, g5, g6⟩ := hl2 σ w (re z) hst.1.memRel h2
              rw [g1] at g5
              have s2 := u8_cells g6
              obtain ⟨C, e3, lo, hi, m1, m2, m3, m4, m5⟩ := hbr.ex
              have hone : ∀ y ∈ arr2.toList, y.oneCell' = true := by
                intro y hy
                obtain ⟨j, hj⟩ := List.mem_iff_getElem?.1 hy
                have hj' : j < (l2.map (AV.u .u8)).length := by
                  rw [g6.length]; exact (List.getElem?_eq_some_iff.1 hj).1
                obtain ⟨y', q1, q2⟩ := g6.get (List.getElem?_eq_getElem hj')
                rw [hj] at q1; cases q1
                exact q2.oneCell (by simp [AV.scalar])
              have k3' := k3 rfl
              obtain ⟨w', C', r1, r2, r3, r4, r5⟩ := run_storeCells (P := P) (p := δ + off + l.length) arr2.toList 0 w C m1 (m5 hwr) (by simp only [Array.length_toList]; omega) hone
              have hrun := run_append_fits (P := P) (ty := o.type) hT ust uxt (by intro k; simp) hu (base := some ⟨b, δ + off, none⟩) (sl := l.length) (sc := cap) (w' := w') hfit g5 (by
                simp only [add_addr]; exact r1)
              have hn : σ mem.length = none := by
                cases hs : σ mem.length with
                | none => rfl
                | some p => have := hst.2 _ _ hs; omega
              have hcells : RL σ ((l ++ l2).map (AV.u .u8)) ((l.map (AV.u .u8)).map (fun _ => undef) ++ arr2.toList) → True := fun _ => trivial
              have hblk : BlkRel (upd σ mem.length (b, δ + off, zz - off)) ⟨.bytes (l ++ l2), true⟩ b (δ + off) (zz - off) w' := by
                refine ⟨C', e3, lo, hi, r2, by omega, by simp only [Cont.size, List.length_append]; omega, fun i v hv => ?_, fun _ i hi2 => m5 hwr i (by omega)⟩
                have hext : Ext σ (upd σ mem.length (b, δ + off, zz - off)) := upd_ext hn
                rw [r4 (δ + off + i)]
                simp only [Cont.at?] at hv
                by_cases hi2 : i < l.length
                · rw [if_neg (by omega)]
                  rw [List.getElem?_append_left hi2, ← hat i hi2] at hv
                  obtain ⟨rv, q1, q2⟩ := m4 _ _ hv
                  exact ⟨rv, by rw [← q1]; congr 1; omega, q2.ext hext⟩
                · rw [List.getElem?_append_right (by omega), ← List.getElem?_map] at hv
                  have hlt := (List.getElem?_eq_some_iff.1 hv).1
                  rw [List.length_map] at hlt
                  rw [if_pos (by simp only [Array.length_toList]; omega)]
                  obtain ⟨rv, q1, q2⟩ := g6.get hv
                  exact ⟨rv, by rw [show δ + off + i - (δ + off + l.length + 0) = i - l.length by omega]; exact q1, q2.ext hext⟩
              obtain ⟨f1, f2⟩ := hst.rename hσ hB hwr r5 hblk ⟨C', e3, lo, hi, r2, by omega⟩
              refine OpTo.of_value (hexec re w w' _ (by rw [hvy, g1]; exact hrun)) ⟨_, f1, ?_, f2⟩
              exact .slice _ _ _ _ _ _ _ _ (upd_self _ _ _) hfit k2 (fun _ => by omega)
            · obtain ⟨arr, g1, g2⟩ := bytes_read (P := P) (off := off) (w := { w with drawn := w.drawn + 1 }) (hbr.same rfl) hat l.length cap
              exact fresh (m0 := mem.set id dead) (by simp) (hst.kill id) hst.1.memRel hvy h2 hfit hroom g1 g2
        · cases h
      | _ => cases h
    · cases h
  · cases h

end Pw

namespace Pw
open Go Go.RowKit

variable {P : Program} {T : List (Nat × TE)} {ρ : Type}

/-! ### copy, over bytes -/

def Cont.putBytes (c : Cont) (off : Nat) (l : List Nat) (K : Cont → Option ρ) : Option ρ :=
  match c with
  | .bytes b => bif decide (off + l.length ≤ b.length) then K (.bytes (b.take off ++ (l ++ b.drop (off + l.length)))) else none
  | .cells cs => bif decide (off + l.length ≤ cs.length) then K (.cells (splice cs off (l.map (AV.u .u8)))) else none
  | .ints _ _ => none
  | .win _ _ => none

theorem Cont.putBytes_sound {c : Cont} {off : Nat} {l : List Nat} {K : Cont → Option ρ} {r : ρ} (h : c.putBytes off l K = some r) :
    ∃ c', K c' = some r ∧ c'.size = c.size ∧ off + l.length ≤ c.size ∧
      ∀ o, c'.at? o = if off ≤ o ∧ o < off + l.length then (l[o - off]?).map (AV.u .u8) else c.at? o := by
  unfold Cont.putBytes at h
  split at h
  · rename_i b
    obtain ⟨hc, h⟩ := bif_some h
    have hc := of_decide_eq_true hc
    refine ⟨_, h, by simp only [Cont.size, List.length_append, List.length_take, List.length_drop]; omega, hc, fun o => ?_⟩
    simp only [Cont.at?]
    have hl : (b.take off).length = off := by rw [List.length_take]; omega
    by_cases h1 : o < off
    · rw [List.getElem?_append_left (by omega), if_neg (by omega), List.getElem?_take, if_pos h1]
    · rw [List.getElem?_append_right (by omega), hl]
      by_cases h2 : o < off + l.length
      · rw [List.getElem?_append_left (by omega), if_pos (by omega)]
      · rw [List.getElem?_append_right (by omega), if_neg (by omega), List.getElem?_drop]; congr 2; omega
  · rename_i cs
    obtain ⟨hc, h⟩ := bif_some h
    have hc := of_decide_eq_true hc
    have hc' : off + (l.map (AV.u .u8)).length ≤ cs.length := by simpa using hc
    refine ⟨_, h, splice_length hc', hc, fun o => ?_⟩
    simp only [Cont.at?]
    rw [splice_get hc', List.length_map, List.getElem?_map]
  · cases h
  · cases h

def copyK (T : List (Nat × TE)) (mem : Mem) (ts : List Nat) (xs : List AV) (K : AV → Mem → Option ρ) : Option ρ :=
  match ts, xs with
  | dt :: _, [d, x] => match (teAt T dt).ty with
    | .slice e => bif isU8 T e then
        sliceBytesK mem x fun l2 => (match d with
          | .nils => K (.n 0) mem
          | .slice id off len _ => (match nth mem id with
            | some B => bif B.wr then B.c.putBytes off (l2.take len) fun c => K (.n ((l2.take len).length : Nat)) (setNth mem id ⟨c, true⟩) else none
            | none => none)
          | _ => none) else none
    | _ => none
  | _, _ => none

theorem St.reput {W : World} {Wr : Nat → Prop} {σ : Ren} {mem : Mem} {w : World} (h : St W Wr σ mem w) {id : Nat} {B B' : Blk} (hB : mem[id]? = some B) (hsz : B'.c.size = B.c.size) (hwr : B'.wr = B.wr)
    (hat : ∀ o, B'.c.at? o = B.c.at? o) : St W Wr σ (mem.set id B') w := by
  have hget : ∀ (i : Nat) (Bi : Blk), (mem.set id B')[i]? = some Bi → ∃ B0 : Blk, mem[i]? = some B0 ∧ Bi.c.size = B0.c.size ∧ Bi.wr = B0.wr ∧ ∀ o, Bi.c.at? o = B0.c.at? o := by
    intro i Bi hi
    by_cases e : id = i
    · subst e
      rw [List.getElem?_set_self (List.getElem?_eq_some_iff.1 hB).1] at hi
      cases hi
      exact ⟨B, hB, hsz, hwr, hat⟩
    · rw [List.getElem?_set_ne e] at hi; exact ⟨Bi, hi, rfl, rfl, fun _ => rfl⟩
  refine ⟨h.os, h.tape, h.output, h.size, h.old, h.dom, fun i b δ s Bi hi hBi => ?_, fun i b δ s Bi hi hBi hw => ?_, fun i j bi δi si bj δj sj Bi Bj hi hj hij hBi hBj hw hz => ?_⟩
  · obtain ⟨B0, h0, h1, h2, h3⟩ := hget i Bi hBi
    obtain ⟨C, e, lo, hi1, g1, g2, g3, g4, g5⟩ := (h.blk _ _ _ _ _ hi h0).ex
    exact ⟨C, e, lo, hi1, g1, g2, by omega, fun o v hv => g4 o v (by rw [← h3 o]; exact hv), fun hw => g5 (by rw [← h2]; exact hw)⟩
  · obtain ⟨B0, h0, h1, h2, h3⟩ := hget i Bi hBi
    exact h.wrs _ _ _ _ _ hi h0 (by rw [← h2]; exact hw)
  · obtain ⟨B0, h0, h1, h2, h3⟩ := hget i Bi hBi
    obtain ⟨B1, k0, k1, k2, k3⟩ := hget j Bj hBj
    exact h.inj _ _ _ _ _ _ _ _ _ _ hi hj hij h0 k0 (by rw [← h2]; exact hw) (hz.imp (fun h => by rw [← k2]; exact h) (fun h => by omega))

theorem copyK_sound (hT : TabOK P T) {mem : Mem} {ev : Operand → AV} {o : Oper} {c : Call} {K : AV → Mem → Option ρ} {r : ρ} (ho : o.op = .call c) (hc : c.callee = .builtin .copy)
    (h : copyK T mem c.argTypes.toList (callArgs ev c.args.toList) K = some r) : ∃ v mem', K v mem' = some r ∧ FDoes P o mem ev v mem' := by
  unfold copyK at h
  split at h
  · rename_i dt rest d x hts hxs
    have hat : c.argTypes = (dt :: rest).toArray := Array.ext' (by simpa using hts)
    obtain ⟨y, z, har, hy, hz⟩ := two_args hxs
    split at h
    · rename_i e hty
      obtain ⟨hu, h⟩ := bif_some h
      have ust := (hT.known (t := dt) (by rw [hty]; simp)).slice hty
      obtain ⟨l2, h, hl2⟩ := sliceBytes_sound (P := P) h
      have hops : ∀ (σ : Ren) (re : Operand → Value), (∀ x ∈ o.op.operands.toList, R σ (ev x) (re x)) → R σ d (re y) ∧ R σ x (re z) := by
        intro σ re hr
        rw [ho] at hr
        have h1 := hr y (by simp [Op.operands, Call.operands, hc, har])
        have h2 := hr z (by simp [Op.operands, Call.operands, hc, har])
        rw [hy] at h1; rw [hz] at h2
        exact ⟨h1, h2⟩
      have hexec : ∀ (re : Operand → Value) (w w' : World) (rv : Value), (Builtin.copy_ (dt :: rest).toArray o.type #[re y, re z]).run P w = .ok rv w' → (execOp re o).run P w = .ok (.value rv) w' := by
        intro re w w' rv hrun
        simp [execOp, ho, resolve, hc, invoke, builtin, hat, har, hrun]
      have hrun : ∀ (w w' : World) (base b2 : Option Addr) (dl dc sl c2 : Nat) (arr : Array Value),
          (Builtin.firstCells 1 (Nat.min sl dl) (.slice b2 sl c2)).run P w = .ok arr w →
          (match base with | some a => (storeCells a arr.toList).run P w = .ok () w' | none => w' = w) →
          (Builtin.copy_ (dt :: rest).toArray o.type #[.slice base dl dc, .slice b2 sl c2]).run P w = .ok (.int .i64 ((Nat.min sl dl : Nat) : Int)) w' := by
        intro w w' base b2 dl dc sl c2 arr h1 h2
        obtain ⟨u1, -, -⟩ := isU8_sound (P := P) hT hu w
        unfold Builtin.copy_
        cases base with
        | none => subst h2; simp [run_under ust, Builtin.lenOf, u1, h1, goInt]
        | some a => simp [run_under ust, Builtin.lenOf, u1, h1, goInt, h2]
      split at h
      · skip
        refine ⟨_, _, h, fun W Wr σ w re hst hr => ?_⟩
        obtain ⟨h1, h2⟩ := hops σ re hr
        generalize hvy : re y = vy at h1
        cases h1
        obtain ⟨b2, c2, arr2, g1, g2, g3, g4, g5, g6⟩ := hl2 σ w (re z) hst.1.memRel h2
        obtain ⟨arr, k1, k2⟩ := g4 0 (by omega)
        rw [g1] at k1
        have := hrun w w none b2 0 0 l2.length c2 arr (by simpa [Nat.min_def] using k1) rfl
        refine OpTo.of_value (hexec re w w _ (by rw [hvy, g1]; exact this)) ⟨σ, .refl σ, ?_, hst⟩
        simpa [Nat.min_def] using R.n (σ := σ) 0 (by omega) (by omega)
      · rename_i id off len ap _ _
        split at h
        · rename_i B hB
          rw [nth_eq] at hB
          obtain ⟨hwr, h⟩ := bif_some h
          obtain ⟨c', h, hsz, hle, hput⟩ := Cont.putBytes_sound h
          refine ⟨_, _, h, fun W Wr σ w re hst hr => ?_⟩
          obtain ⟨h1, h2⟩ := hops σ re hr
          rw [setNth_eq]
          generalize hvy : re y = vy at h1
          obtain ⟨b2, c2, arr2, g1, g2, g3, g4, g5, g6⟩ := hl2 σ w (re z) hst.1.memRel h2
          have hn : Nat.min l2.length len = (l2.take len).length := by rw [List.length_take]; exact Nat.min_comm _ _
          have htk : l2.take (Nat.min l2.length len) = l2.take len := by
            rcases Nat.le_total l2.length len with hh | hh
            · rw [show Nat.min l2.length len = l2.length from Nat.min_eq_left hh, List.take_length, List.take_of_length_le hh]
            · rw [show Nat.min l2.length len = len from Nat.min_eq_right hh]
          obtain ⟨arr, k1, k2⟩ := g4 (Nat.min l2.length len) (Nat.min_le_left _ _)
          rw [g1] at k1
          rw [htk] at k2
          have s2 := u8_cells k2
          have hres : R σ (.n (((l2.take len).length : Nat) : Int)) (.int .i64 ((Nat.min l2.length len : Nat) : Int)) := by
            have hb : (l2.take len).length ≤ l2.length := by rw [List.length_take]; exact Nat.min_le_right _ _
            rw [hn]; exact .n _ (by omega) (by omega)
          cases h1 with
          | slic0 _ _ _ a =>
            have e0 : arr = #[] := by
              have : (l2.take 0).length = arr.size := s2
              exact Array.size_eq_zero_iff.1 (by simpa using this.symm)
            have := hrun w w a b2 0 0 l2.length c2 arr k1 (by subst e0; cases a <;> simp [storeCells])
            refine OpTo.of_value (hexec re w w _ (by rw [hvy, g1]; exact this)) ⟨σ, .refl σ, hres, hst.1.reput hB hsz (by rw [hwr]) (fun o => ?_), fun i p hi => by simpa using hst.2 i p hi⟩
            rw [hput o, if_neg (by simp)]
          | slice _ _ _ _ cap b δ s hσ q1 q2 q3 =>
            obtain ⟨C, e3, lo, hi, m1, m2, m3, m4, m5⟩ := (hst.1.blk _ _ _ _ _ hσ hB).ex
            have hone : ∀ y ∈ arr.toList, y.oneCell' = true := by
              intro y hy
              obtain ⟨j, hj⟩ := List.mem_iff_getElem?.1 hy
              have hj' : j < ((l2.take len).map (AV.u .u8)).length := by
                rw [k2.length]; exact (List.getElem?_eq_some_iff.1 hj).1
              obtain ⟨y', q1, q2⟩ := k2.get (List.getElem?_eq_getElem hj')
              rw [hj] at q1; cases q1
              exact q2.oneCell (by simp [AV.scalar])
            obtain ⟨w', C', r1, r2, r3, r4, r5⟩ := run_storeCells (P := P) (p := δ + off) arr.toList 0 w C m1 (m5 hwr) (by simp only [Array.length_toList]; omega) hone
            have := hrun w w' (some ⟨b, δ + off, none⟩) b2 len cap l2.length c2 arr k1 r1
            refine OpTo.of_value (hexec re w w' _ (by rw [hvy, g1]; exact this)) ⟨σ, .refl σ, hres, ?_, fun i p hi => by simpa using hst.2 i p hi⟩
            refine hst.1.store hσ hB hwr hsz rfl r5 ⟨C', e3, lo, hi, r2, by omega, by rw [hsz]; exact m3, fun i v hv => ?_, fun _ i hi2 => m5 hwr i (by omega)⟩
            rw [hput i] at hv
            rw [r4 (δ + i)]
            by_cases hi2 : off ≤ i ∧ i < off + (l2.take len).length
            · rw [if_pos hi2, ← List.getElem?_map] at hv
              rw [if_pos (by simp only [Array.length_toList]; omega)]
              obtain ⟨rv, q1, q2⟩ := k2.get hv
              exact ⟨rv, by rw [show δ + i - (δ + off + 0) = i - off by omega]; exact q1, q2⟩
            · rw [if_neg hi2] at hv
              rw [if_neg (by simp only [Array.length_toList]; omega)]
              exact m4 i v hv
        · cases h
      · cases h
    · cases h
  · cases h

end Pw

namespace Pw
open Go Go.RowKit

variable {P : Program} {T : List (Nat × TE)} {ρ : Type}

/-! ### copy, and append to nothing, where the order is drawn -/

theorem fp_of_str {x : AV} {i : Nat} (h : strId x = some i) : fpS x = [i] := by
  cases x <;> simp_all [strId, fpS]

def copyS (T : List (Nat × TE)) (mem : Mem) (ts : List Nat) (xs : List AV) (K : AV → Eff → Option ρ) : Option ρ :=
  match ts, xs with
  | dt :: _, [d, x] => match (teAt T dt).ty with
    | .slice e => bif isU8 T e then
        sliceBytesK mem x fun l2 => (match d with
          | .slice id off len _ => (match nth mem id with
            | some B => bif B.wr && Nat.blt 0 len then B.c.putBytes off (l2.take len) fun c => K (.n ((l2.take len).length : Nat)) (.store id ⟨c, true⟩) else none
            | none => none)
          | _ => none) else none
    | _ => none
  | _, _ => none

def appendS (T : List (Nat × TE)) (mem : Mem) (ts : List Nat) (xs : List AV) (K : AV → Eff → Option ρ) : Option ρ :=
  match ts, xs with
  | [st, xt], [s, x] => match (teAt T st).ty, (teAt T xt).ty with
    | .slice e, .slice _ => bif isU8 T e then
        sliceBytesK mem x fun l2 => (match s with
          | .nils => bif decide (l2.length ≤ maxRoom) then K (.slice mem.length 0 l2.length true) (.alloc ⟨.bytes l2, true⟩) else none
          | .emp => bif l2.isEmpty then K .emp .none else bif decide (l2.length ≤ maxRoom) then K (.slice mem.length 0 l2.length true) (.alloc ⟨.bytes l2, true⟩) else none
          | .slice id off len true => (match nth mem id with
            | some B => bif Nat.blt 0 len && B.wr then B.c.bytesK off len fun l =>
                bif decide (len + l2.length ≤ maxRoom) then K (.slice mem.length 0 (len + l2.length) true) (.move id ⟨.bytes (l ++ l2), true⟩) else none
              else none
            | none => none)
          | _ => none) else none
    | _, _ => none
  | _, _ => none

abbrev SoundS (P : Program) (mem : Mem) (ev : Operand → AV) (o : Oper) (K : AV → Eff → Option ρ) (r : ρ) : Prop :=
  ∃ v eff, K v eff = some r ∧ Does P o mem ev v eff ∧
    (∀ id B, eff.st = some (id, B) → (∀ l, fpOf mem ev o.op = some l → id ∈ l) ∧ ∃ B0 : Blk, mem[id]? = some B0)

theorem copyS_sound (hT : TabOK P T) {mem : Mem} {ev : Operand → AV} {o : Oper} {c : Call} {K : AV → Eff → Option ρ} {r : ρ} (ho : o.op = .call c) (hc : c.callee = .builtin .copy)
    (h : copyS T mem c.argTypes.toList (callArgs ev c.args.toList) K = some r) : SoundS P mem ev o K r := by
  unfold copyS at h
  split at h
  · rename_i dt rest d x hts hxs
    have hat : c.argTypes = (dt :: rest).toArray := Array.ext' (by simpa using hts)
    obtain ⟨y, z, har, hy, hz⟩ := two_args hxs
    have hfp : fpOf mem ev o.op = some (fpS d ++ fpS x) := by rw [ho]; simp [fpOf, hc, hxs]
    split at h
    · rename_i e hty
      obtain ⟨hu, h⟩ := bif_some h
      have ust := (hT.known (t := dt) (by rw [hty]; simp)).slice hty
      obtain ⟨l2, h, hl2⟩ := sliceBytes_at (P := P) h
      have hops : ∀ (σ : Ren) (re : Operand → Value), (∀ x ∈ o.op.operands.toList, R σ (ev x) (re x)) → R σ d (re y) ∧ R σ x (re z) := by
        intro σ re hr
        rw [ho] at hr
        have h1 := hr y (by simp [Op.operands, Call.operands, hc, har])
        have h2 := hr z (by simp [Op.operands, Call.operands, hc, har])
        rw [hy] at h1; rw [hz] at h2
        exact ⟨h1, h2⟩
      have hexec : ∀ (re : Operand → Value) (w w' : World) (rv : Value), (Builtin.copy_ (dt :: rest).toArray o.type #[re y, re z]).run P w = .ok rv w' → (execOp re o).run P w = .ok (.value rv) w' := by
        intro re w w' rv hrun
        simp [execOp, ho, resolve, hc, invoke, builtin, hat, har, hrun]
      have hrun : ∀ (w w' : World) (base b2 : Option Addr) (dl dc sl c2 : Nat) (arr : Array Value),
          (Builtin.firstCells 1 (Nat.min sl dl) (.slice b2 sl c2)).run P w = .ok arr w →
          (match base with | some a => (storeCells a arr.toList).run P w = .ok () w' | none => w' = w) →
          (Builtin.copy_ (dt :: rest).toArray o.type #[.slice base dl dc, .slice b2 sl c2]).run P w = .ok (.int .i64 ((Nat.min sl dl : Nat) : Int)) w' := by
        intro w w' base b2 dl dc sl c2 arr h1 h2
        obtain ⟨u1, -, -⟩ := isU8_sound (P := P) hT hu w
        unfold Builtin.copy_
        cases base with
        | none => subst h2; simp [run_under ust, Builtin.lenOf, u1, h1, goInt]
        | some a => simp [run_under ust, Builtin.lenOf, u1, h1, goInt, h2]
      split at h
      · rename_i id off len ap _ _
        split at h
        · rename_i B hB
          rw [nth_eq] at hB
          obtain ⟨hwr, h⟩ := bif_some h
          simp only [Bool.and_eq_true] at hwr
          obtain ⟨hwr, hlen⟩ := hwr
          have hlen : 0 < len := by simpa [Nat.blt_eq] using hlen
          obtain ⟨c', h, hsz, hle, hput⟩ := Cont.putBytes_sound h
          refine ⟨_, _, h, fun W Wr σ full w re hst hp _ hr => ?_, fun id2 B2 e2 => ?_⟩
          · obtain ⟨h1, h2⟩ := hops σ re hr
            have hmr : ∀ i, strId x = some i → ∀ (b δ z : Nat) (B : Blk), σ i = some (b, δ, z) → mem[i]? = some B → BlkRel σ B b δ z w := fun i hi b δ z B hσ hB => hst.blk i b δ z B hσ (hp i B (fun l e => by rw [hfp] at e; cases e; simp [fp_of_str hi]) hB)
            have hBf : full[id]? = some B := hp id B (fun l e => by rw [hfp] at e; cases e; simp [fpS]) hB
            generalize hvy : re y = vy at h1
            obtain ⟨b2, c2, arr2, g1, g2, g3, g4, g5, g6⟩ := hl2 σ w (re z) hmr h2
            have hn : Nat.min l2.length len = (l2.take len).length := by rw [List.length_take]; exact Nat.min_comm _ _
            have htk : l2.take (Nat.min l2.length len) = l2.take len := by
              rcases Nat.le_total l2.length len with hh | hh
              · rw [show Nat.min l2.length len = l2.length from Nat.min_eq_left hh, List.take_length, List.take_of_length_le hh]
              · rw [show Nat.min l2.length len = len from Nat.min_eq_right hh]
            obtain ⟨arr, k1, k2⟩ := g4 (Nat.min l2.length len) (Nat.min_le_left _ _)
            rw [g1] at k1
            rw [htk] at k2
            have s2 := u8_cells k2
            have hres : R σ (.n (((l2.take len).length : Nat) : Int)) (.int .i64 ((Nat.min l2.length len : Nat) : Int)) := by
              have hb : (l2.take len).length ≤ l2.length := by rw [List.length_take]; exact Nat.min_le_right _ _
              rw [hn]; exact .n _ (by omega) (by omega)
            generalize hgl : len = ll at h1
            cases h1 with
            | slic0 => omega
            | slice _ _ _ _ cap b δ s hσ q1 q2 q3 =>
              subst hgl
              refine ⟨fun id2 B2 e2 => by cases e2; exact ⟨_, hσ⟩, ?_⟩
              obtain ⟨C, e3, lo, hi, m1, m2, m3, m4, m5⟩ := (hst.blk _ _ _ _ _ hσ hBf).ex
              have hone : ∀ y ∈ arr.toList, y.oneCell' = true := by
                intro y hy
                obtain ⟨j, hj⟩ := List.mem_iff_getElem?.1 hy
                have hj' : j < ((l2.take len).map (AV.u .u8)).length := by
                  rw [k2.length]; exact (List.getElem?_eq_some_iff.1 hj).1
                obtain ⟨y', q1, q2⟩ := k2.get (List.getElem?_eq_getElem hj')
                rw [hj] at q1; cases q1
                exact q2.oneCell (by simp [AV.scalar])
              obtain ⟨w', C', r1, r2, r3, r4, r5⟩ := run_storeCells (P := P) (p := δ + off) arr.toList 0 w C m1 (m5 hwr) (by simp only [Array.length_toList]; omega) hone
              have := hrun w w' (some ⟨b, δ + off, none⟩) b2 len cap l2.length c2 arr k1 r1
              refine OpTo.of_value (hexec re w w' _ (by rw [hvy, g1]; exact this)) ⟨σ, .refl σ, hres, ?_, fun i p hi => .inl hi⟩
              refine hst.store hσ hBf hwr hsz rfl r5 ⟨C', e3, lo, hi, r2, by omega, by rw [hsz]; exact m3, fun i v hv => ?_, fun _ i hi2 => m5 hwr i (by omega)⟩
              rw [hput i] at hv
              rw [r4 (δ + i)]
              by_cases hi2 : off ≤ i ∧ i < off + (l2.take len).length
              · rw [if_pos hi2, ← List.getElem?_map] at hv
                rw [if_pos (by simp only [Array.length_toList]; omega)]
                obtain ⟨rv, q1, q2⟩ := k2.get hv
                exact ⟨rv, by rw [show δ + i - (δ + off + 0) = i - off by omega]; exact q1, q2⟩
              · rw [if_neg hi2] at hv
                rw [if_neg (by simp only [Array.length_toList]; omega)]
                exact m4 i v hv
          · cases e2; exact ⟨fun l e => by rw [hfp] at e; cases e; simp [fpS], B, hB⟩
        · cases h
      · cases h
    · cases h
  · cases h

theorem appendS_sound (hT : TabOK P T) {mem : Mem} {ev : Operand → AV} {o : Oper} {c : Call} {K : AV → Eff → Option ρ} {r : ρ} (ho : o.op = .call c) (hc : c.callee = .builtin .append)
    (h : appendS T mem c.argTypes.toList (callArgs ev c.args.toList) K = some r) : SoundS P mem ev o K r := by
  unfold appendS at h
  split at h
  · rename_i st xt s x hts hxs
    have hat : c.argTypes = #[st, xt] := Array.ext' (by simpa using hts)
    obtain ⟨y, z, har, hy, hz⟩ := two_args hxs
    have hfp : fpOf mem ev o.op = some (fpS s ++ fpS x) := by rw [ho]; simp [fpOf, hc, hxs]
    split at h
    · rename_i e e2 hsty hxty
      obtain ⟨hu, h⟩ := bif_some h
      have ust := (hT.known (t := st) (by rw [hsty]; simp)).slice hsty
      have uxt := (hT.known (t := xt) (by rw [hxty]; simp)).slice hxty
      obtain ⟨l2, h, hl2⟩ := sliceBytes_at (P := P) h
      have hops : ∀ (σ : Ren) (re : Operand → Value), (∀ x ∈ o.op.operands.toList, R σ (ev x) (re x)) → R σ s (re y) ∧ R σ x (re z) := by
        intro σ re hr
        rw [ho] at hr
        have h1 := hr y (by simp [Op.operands, Call.operands, hc, har])
        have h2 := hr z (by simp [Op.operands, Call.operands, hc, har])
        rw [hy] at h1; rw [hz] at h2
        exact ⟨h1, h2⟩
      have hexec : ∀ (re : Operand → Value) (w w' : World) (rv : Value), (Builtin.append_ #[st, xt] o.type #[re y, re z]).run P w = .ok rv w' → (execOp re o).run P w = .ok (.value rv) w' := by
        intro re w w' rv hrun
        simp [execOp, ho, resolve, hc, invoke, builtin, hat, har, hrun]
      split at h
      · obtain ⟨hroom, h⟩ := bif_some h
        have hroom := of_decide_eq_true hroom
        refine ⟨_, _, h, fun W Wr σ full w re hst hp hal hr => ⟨by simp, ?_⟩, by simp⟩
        obtain ⟨hBf, hn⟩ := hal _ rfl
        have hmr : ∀ i, strId x = some i → ∀ (b δ z : Nat) (B : Blk), σ i = some (b, δ, z) → mem[i]? = some B → BlkRel σ B b δ z w := fun i hi b δ z B hσ hB => hst.blk i b δ z B hσ (hp i B (fun l e => by rw [hfp] at e; cases e; simp [fp_of_str hi]) hB)
        obtain ⟨h1, h2⟩ := hops σ re hr
        generalize hvy : re y = vy at h1
        cases h1
        by_cases hfit : l2.length ≤ 0
        · have e0 : l2 = [] := List.length_eq_zero_iff.1 (by omega)
          obtain ⟨b2, c2, arr2, g1, g2, g3, g4, g5, g6⟩ := hl2 σ w (re z) hmr h2
          rw [g1] at g5
          have hrun := run_append_fits (P := P) (ty := o.type) hT ust uxt (by intro k; simp) hu (base := none) (sl := 0) (sc := 0) (w' := w) (by omega) g5 rfl
          refine OpTo.of_value (hexec re w w _ (by rw [hvy, g1]; exact hrun)) ⟨σ, .refl σ, ?_, hst, fun i p hi => .inl hi⟩
          rw [e0]; exact .slic0 _ _ _ _
        · obtain ⟨b2, c2, arr2, g1, g2, g3, g4, g5, g6⟩ := hl2 σ { w with drawn := w.drawn + 1 } (re z) (fun i hi b δ z B hσ hB => (hmr i hi b δ z B hσ hB).same rfl) h2
          rw [g1] at g5
          obtain ⟨nc, n1, n2, n3⟩ := run_append_grows (P := P) (ty := o.type) hT ust uxt (by intro k; simp) hu (base := none) (sl := 0) (sc := 0) (arr := #[]) (by simpa using hfit) (by simpa using hroom) (by simp [Builtin.firstCells]) g5
          have s2 := u8_cells g6
          have hC := (hst.drawn (w.drawn + 1)).alloc hn hBf (C := #[] ++ arr2 ++ Builtin.zeroCells #[.int .u8 0] (nc - (0 + l2.length))) (e := e)
            (by simp only [Cont.size, Array.size_append, zeroCells_size]; simp; omega)
            (fun i v hv => by
              simp only [Cont.at?] at hv
              rw [← List.getElem?_map] at hv
              obtain ⟨rv, k1, k2⟩ := g6.get hv
              have hlt : i < (#[] ++ arr2).size := by
                have := (List.getElem?_eq_some_iff.1 k1).1; simpa using this
              exact ⟨rv, by rw [Array.getElem?_append_left hlt, ← Array.getElem?_toList]; simpa using k1, k2⟩) (0, 0) (fun o _ => by omega)
          refine OpTo.of_value (hexec re w _ _ (by rw [hvy, g1]; exact n3)) ⟨_, upd_ext hn, ?_, hC, fun i p hi => ?_⟩
          · rw [Nat.zero_add]
            refine .slice _ _ _ _ _ _ _ _ (upd_self _ _ _) (by omega) n2 (fun _ => ?_)
            simp only [Array.size_append, zeroCells_size]; simp; omega
          · by_cases e3 : i = mem.length
            · exact .inr ⟨⟨_, rfl⟩, e3⟩
            · rw [upd_ne _ e3] at hi; exact .inl hi
      · rcases bif_both h with ⟨he, h⟩ | ⟨_, h⟩
        · have e0 : l2 = [] := by simpa using he
          refine ⟨_, .none, h, fun W Wr σ full w re hst hp hal hr => ⟨by simp, ?_⟩, by simp⟩
          have hmr : ∀ i, strId x = some i → ∀ (b δ z : Nat) (B : Blk), σ i = some (b, δ, z) → mem[i]? = some B → BlkRel σ B b δ z w := fun i hi b δ z B hσ hB => hst.blk i b δ z B hσ (hp i B (fun l e => by rw [hfp] at e; cases e; simp [fp_of_str hi]) hB)
          obtain ⟨h1, h2⟩ := hops σ re hr
          generalize hvy : re y = vy at h1
          cases h1 with | emp a =>
          obtain ⟨b2, c2, arr2, g1, g2, g3, g4, g5, g6⟩ := hl2 σ w (re z) hmr h2
          rw [g1] at g5
          have ea : arr2 = #[] := by
            have := u8_cells g6
            rw [e0] at this
            exact Array.size_eq_zero_iff.1 (by simpa using this.symm)
          have hrun := run_append_fits (P := P) (ty := o.type) hT ust uxt (by intro k; simp) hu (base := a) (sl := 0) (sc := 0) (w' := w) (by rw [e0]; simp) g5 (by
            subst ea; cases a <;> simp [storeCells])
          refine OpTo.of_value (hexec re w w _ (by rw [hvy, g1]; exact hrun)) ⟨σ, .refl σ, ?_, hst, fun i p hi => .inl hi⟩
          rw [e0]; exact .emp _
        · obtain ⟨hroom, h⟩ := bif_some h
          have hroom := of_decide_eq_true hroom
          refine ⟨_, _, h, fun W Wr σ full w re hst hp hal hr => ⟨by simp, ?_⟩, by simp⟩
          obtain ⟨hBf, hn⟩ := hal _ rfl
          have hmr : ∀ i, strId x = some i → ∀ (b δ z : Nat) (B : Blk), σ i = some (b, δ, z) → mem[i]? = some B → BlkRel σ B b δ z w := fun i hi b δ z B hσ hB => hst.blk i b δ z B hσ (hp i B (fun l e => by rw [hfp] at e; cases e; simp [fp_of_str hi]) hB)
          obtain ⟨h1, h2⟩ := hops σ re hr
          generalize hvy : re y = vy at h1
          cases h1 with | emp a =>
          by_cases hfit : l2.length ≤ 0
          · have e0 : l2 = [] := List.length_eq_zero_iff.1 (by omega)
            obtain ⟨b2, c2, arr2, g1, g2, g3, g4, g5, g6⟩ := hl2 σ w (re z) hmr h2
            rw [g1] at g5
            have hrun := run_append_fits (P := P) (ty := o.type) hT ust uxt (by intro k; simp) hu (base := a) (sl := 0) (sc := 0) (w' := w) (by omega) g5 (by
              have ea : arr2 = #[] := by
                have := u8_cells g6
                rw [e0] at this
                exact Array.size_eq_zero_iff.1 (by simpa using this.symm)
              subst ea; cases a <;> simp [storeCells])
            refine OpTo.of_value (hexec re w w _ (by rw [hvy, g1]; exact hrun)) ⟨σ, .refl σ, ?_, hst, fun i p hi => .inl hi⟩
            rw [e0]; exact .slic0 _ _ _ _
          · obtain ⟨b2, c2, arr2, g1, g2, g3, g4, g5, g6⟩ := hl2 σ { w with drawn := w.drawn + 1 } (re z) (fun i hi b δ z B hσ hB => (hmr i hi b δ z B hσ hB).same rfl) h2
            rw [g1] at g5
            obtain ⟨nc, n1, n2, n3⟩ := run_append_grows (P := P) (ty := o.type) hT ust uxt (by intro k; simp) hu (base := a) (sl := 0) (sc := 0) (arr := #[]) (by simpa using hfit) (by simpa using hroom) (by cases a <;> simp [Builtin.firstCells, loadCells, loadCellsFrom]) g5
            have s2 := u8_cells g6
            have hC := (hst.drawn (w.drawn + 1)).alloc hn hBf (C := #[] ++ arr2 ++ Builtin.zeroCells #[.int .u8 0] (nc - (0 + l2.length))) (e := e)
              (by simp only [Cont.size, Array.size_append, zeroCells_size]; simp; omega)
              (fun i v hv => by
                simp only [Cont.at?] at hv
                rw [← List.getElem?_map] at hv
                obtain ⟨rv, k1, k2⟩ := g6.get hv
                have hlt : i < (#[] ++ arr2).size := by
                  have := (List.getElem?_eq_some_iff.1 k1).1; simpa using this
                exact ⟨rv, by rw [Array.getElem?_append_left hlt, ← Array.getElem?_toList]; simpa using k1, k2⟩) (0, 0) (fun o _ => by omega)
            refine OpTo.of_value (hexec re w _ _ (by rw [hvy, g1]; exact n3)) ⟨_, upd_ext hn, ?_, hC, fun i p hi => ?_⟩
            · rw [Nat.zero_add]
              refine .slice _ _ _ _ _ _ _ _ (upd_self _ _ _) (by omega) n2 (fun _ => ?_)
              simp only [Array.size_append, zeroCells_size]; simp; omega
            · by_cases e3 : i = mem.length
              · exact .inr ⟨⟨_, rfl⟩, e3⟩
              · rw [upd_ne _ e3] at hi; exact .inl hi
      · rename_i id off len _ _
        split at h
        · rename_i B hB
          rw [nth_eq] at hB
          obtain ⟨hwr, h⟩ := bif_some h
          simp only [Bool.and_eq_true] at hwr
          obtain ⟨hlen, hwr⟩ := hwr
          have hlen : 0 < len := by simpa [Nat.blt_eq] using hlen
          obtain ⟨l, h, hll, hle, hat⟩ := Cont.bytesK_sound h
          obtain ⟨hroom, h⟩ := bif_some h
          have hroom := of_decide_eq_true hroom
          rw [← hll] at h hroom hat hle hlen
          refine ⟨_, _, h, fun W Wr σ full w re hst hp hal hr => ?_, fun id2 B2 e2 => by cases e2; exact ⟨fun l e => by rw [hfp] at e; cases e; simp [fpS], B, hB⟩⟩
          obtain ⟨hBn, hn⟩ := hal _ rfl
          have hmr : ∀ i, strId x = some i → ∀ (b δ z : Nat) (B : Blk), σ i = some (b, δ, z) → mem[i]? = some B → BlkRel σ B b δ z w := fun i hi b δ z B hσ hB => hst.blk i b δ z B hσ (hp i B (fun l e => by rw [hfp] at e; cases e; simp [fp_of_str hi]) hB)
          have hBf : full[id]? = some B := hp id B (fun l e => by rw [hfp] at e; cases e; simp [fpS]) hB
          obtain ⟨h1, h2⟩ := hops σ re hr
          rw [← hll] at h1
          generalize hvy : re y = vy at h1
          generalize hgl : l.length = ll at h1
          cases h1 with
          | slic0 => omega
          | slice _ _ _ _ cap b δ zz hσ k1 k2 k3 =>
            subst hgl
            refine ⟨fun id2 B2 e2 => by cases e2; exact ⟨_, hσ⟩, ?_⟩
            have hidn : id ≠ mem.length := by intro e; rw [e, hn] at hσ; cases hσ
            have hbr := hst.blk _ _ _ _ _ hσ hBf
            by_cases hfit : l.length + l2.length ≤ cap
            · -- in place
              obtain ⟨b2, c2, arr2, g1, g2, g3, g4, g5, g6⟩ := hl2 σ w (re z) hmr h2
              rw [g1] at g5
              have s2 := u8_cells g6
              obtain ⟨C, e3, lo, hi, m1, m2, m3, m4, m5⟩ := hbr.ex
              have hone : ∀ y ∈ arr2.toList, y.oneCell' = true := by
                intro y hy
                obtain ⟨j, hj⟩ := List.mem_iff_getElem?.1 hy
                have hj' : j < (l2.map (AV.u .u8)).length := by
                  rw [g6.length]; exact (List.getElem?_eq_some_iff.1 hj).1
                obtain ⟨y', q1, q2⟩ := g6.get (List.getElem?_eq_getElem hj')
                rw [hj] at q1; cases q1
                exact q2.oneCell (by simp [AV.scalar])
              have k3' := k3 rfl
              obtain ⟨w', C', r1, r2, r3, r4, r5⟩ := run_storeCells (P := P) (p := δ + off + l.length) arr2.toList 0 w C m1 (m5 hwr) (by simp only [Array.length_toList]; omega) hone
              have hrun := run_append_fits (P := P) (ty := o.type) hT ust uxt (by intro k; simp) hu (base := some ⟨b, δ + off, none⟩) (sl := l.length) (sc := cap) (w' := w') hfit g5 (by
                simp only [add_addr]; exact r1)
              have hblk : BlkRel (upd σ mem.length (b, δ + off, zz - off)) ⟨.bytes (l ++ l2), true⟩ b (δ + off) (zz - off) w' := by
                refine ⟨C', e3, lo, hi, r2, by omega, by simp only [Cont.size, List.length_append]; omega, fun i v hv => ?_, fun _ i hi2 => m5 hwr i (by omega)⟩
                have hext : Ext σ (upd σ mem.length (b, δ + off, zz - off)) := upd_ext hn
                rw [r4 (δ + off + i)]
                simp only [Cont.at?] at hv
                by_cases hi2 : i < l.length
                · rw [if_neg (by omega)]
                  rw [List.getElem?_append_left hi2, ← hat i hi2] at hv
                  obtain ⟨rv, q1, q2⟩ := m4 _ _ hv
                  exact ⟨rv, by rw [← q1]; congr 1; omega, q2.ext hext⟩
                · rw [List.getElem?_append_right (by omega), ← List.getElem?_map] at hv
                  have hlt := (List.getElem?_eq_some_iff.1 hv).1
                  rw [List.length_map] at hlt
                  rw [if_pos (by simp only [Array.length_toList]; omega)]
                  obtain ⟨rv, q1, q2⟩ := g6.get hv
                  exact ⟨rv, by rw [show δ + off + i - (δ + off + l.length + 0) = i - l.length by omega]; exact q1, q2.ext hext⟩
              have f2 := hst.rename hσ hBf hwr hn hBn r5 hblk ⟨C', e3, lo, hi, r2, by omega⟩
              refine OpTo.of_value (hexec re w w' _ (by rw [hvy, g1]; exact hrun)) ⟨_, upd_ext hn, ?_, f2, fun i p hi => ?_⟩
              · exact .slice _ _ _ _ _ _ _ _ (upd_self _ _ _) hfit k2 (fun _ => by omega)
              · by_cases e4 : i = mem.length
                · exact .inr ⟨⟨_, rfl⟩, e4⟩
                · rw [upd_ne _ e4] at hi; exact .inl hi
            · obtain ⟨arr, q1, q2⟩ := bytes_read (P := P) (off := off) (w := { w with drawn := w.drawn + 1 }) (hbr.same rfl) hat l.length cap
              obtain ⟨b2, c2, arr2, g1, g2, g3, g4, g5, g6⟩ := hl2 σ { w with drawn := w.drawn + 1 } (re z) (fun i hi b δ z B hσ hB => (hmr i hi b δ z B hσ hB).same rfl) h2
              rw [g1] at g5
              obtain ⟨nc, n1, n2, n3⟩ := run_append_grows (P := P) (ty := o.type) hT ust uxt (by intro k; simp) hu hfit hroom q1 g5
              have s1 := u8_cells q2
              have s2 := u8_cells g6
              have hcells : RL σ ((l ++ l2).map (AV.u .u8)) (arr ++ arr2).toList := by simpa using q2.append g6
              have hC := ((hst.kill id).drawn (w.drawn + 1)).alloc hn (B := ⟨.bytes (l ++ l2), true⟩) (by rw [List.getElem?_set_ne hidn]; exact hBn) (C := arr ++ arr2 ++ Builtin.zeroCells #[.int .u8 0] (nc - (l.length + l2.length))) (e := e)
                (by simp only [Cont.size, List.length_append, Array.size_append, zeroCells_size]; omega)
                (fun i v hv => by
                  simp only [Cont.at?] at hv
                  rw [← List.getElem?_map] at hv
                  obtain ⟨rv, k1, k2⟩ := hcells.get hv
                  have hlt : i < (arr ++ arr2).size := by
                    have := (List.getElem?_eq_some_iff.1 k1).1; simpa using this
                  exact ⟨rv, by rw [Array.getElem?_append_left hlt, ← Array.getElem?_toList]; exact k1, k2⟩) (0, 0) (fun o _ => by omega)
              refine OpTo.of_value (hexec re w _ _ (by rw [hvy, g1]; exact n3)) ⟨_, upd_ext hn, ?_, hC, fun i p hi => ?_⟩
              · refine .slice _ _ _ _ _ _ _ _ (upd_self _ _ _) n1 n2 (fun _ => ?_)
                simp only [Array.size_append, zeroCells_size]; omega
              · by_cases e4 : i = mem.length
                · exact .inr ⟨⟨_, rfl⟩, e4⟩
                · rw [upd_ne _ e4] at hi; exact .inl hi
        · cases h
      · cases h
    · cases h
  · cases h

/-- a list of nothing, with no room -/
def empK (T : List (Nat × TE)) (t : Nat) (K : AV → Eff → Option ρ) : Option ρ :=
  match (teAt T t).ty with
  | .slice e => (match sz T e with
    | some _ => K .emp (.alloc ⟨.bytes [], true⟩)
    | none => none)
  | _ => none

theorem empK_sound (hT : TabOK P T) {mem : Mem} {ev : Operand → AV} {o : Oper} {t : TypeId} {K : AV → Eff → Option ρ} {r : ρ} (ho : o.op = .buildSlice t 0 #[])
    (h : empK T t K = some r) : SoundS P mem ev o K r := by
  unfold empK at h
  split at h
  · rename_i e hty
    split at h
    · rename_i s hs
      have ua := (hT.known (t := t) (by rw [hty]; simp)).slice hty
      obtain ⟨ke, hke⟩ := sz_known hT hs
      refine ⟨_, _, h, Does.of_alloc fun σ w re hr => ⟨#[], e, .slice (some ⟨w.heap.size, 0, none⟩) 0 0, ?_, by simp [Cont.size], fun i u hu => by simp [Cont.at?] at hu, fun σ' _ => .emp _⟩, by simp⟩
      have hn0 : ¬ (0 > 2 ^ 24) := by omega
      simp only [execOp, ho, Instr.buildSlice, Sem.run_bind, run_under ua, Result.andThen_ok, ke.run_size, hke, Nat.zero_mul, hn0, if_false, if_true, Sem.run_pure, newRow]
      simp [Instr.fill, show (Array.range 0 : Array Nat) = #[] from rfl]
    · cases h
  · cases h

/-- an operation in a region whose order is drawn -/
def drawOp (T : List (Nat × TE)) (O : Quiet) (mem : Mem) (ev : Operand → AV) (o : Op) (K : AV → Eff → Option ρ) : Option ρ :=
  match o with
  | .call c => (match c.callee with
    | .builtin .copy => copyS T mem c.argTypes.toList (callArgs ev c.args.toList) K
    | .builtin .append => appendS T mem c.argTypes.toList (callArgs ev c.args.toList) K
    | _ => simpK T O mem ev (.call c) K)
  | .buildSlice t 0 ⟨[]⟩ => empK T t K
  | o => simpK T O mem ev o K

theorem drawOp_sound (hT : TabOK P T) {O : Quiet} (hO : QuietOK P O) {mem : Mem} {ev : Operand → AV} {o : Oper} {K : AV → Eff → Option ρ} {r : ρ} (h : drawOp T O mem ev o.op K = some r) : SoundS P mem ev o K r := by
  have hs : simpK T O mem ev o.op K = some r → SoundS P mem ev o K r := fun h => by
    obtain ⟨v, eff, h1, h2, h4⟩ := simpK_sound hT hO h
    exact ⟨v, eff, h1, h2, fun id B e => ⟨(h4 id B e).1, by obtain ⟨-, B0, hB0⟩ := h4 id B e; exact ⟨B0, hB0⟩⟩⟩
  unfold drawOp at h
  split at h
  · rename_i c ho
    split at h
    · rename_i hc; exact copyS_sound hT ho hc h
    · rename_i hc; exact appendS_sound hT ho hc h
    · rw [← ho] at h; exact hs h
  · rename_i ho; exact empK_sound hT ho h
  · exact hs h

end Pw

namespace Pw
open Go Go.RowKit

variable {P : Program} {T : List (Nat × TE)} {ρ : Type}

/-- any operation, one behind the other -/
def fullK (T : List (Nat × TE)) (O : Quiet) (M : Loud) (mem : Mem) (ev : Operand → AV) (o : Op) (K : AV → Mem → Option ρ) : Option ρ :=
  match o with
  | .call c => (match c.callee with
    | .value f => (match ev f with
      | .fn f' caps => (match M f' with
        | some g => g (callArgs ev c.args.toList ++ caps) mem K
        | none => simpK T O mem ev (.call c) fun v eff => K v (eff.on mem))
      | _ => none)
    | .builtin .append => appendK T mem c.argTypes.toList (callArgs ev c.args.toList) K
    | .builtin .copy => copyK T mem c.argTypes.toList (callArgs ev c.args.toList) K
    | _ => simpK T O mem ev (.call c) fun v eff => K v (eff.on mem))
  | o => simpK T O mem ev o fun v eff => K v (eff.on mem)

theorem simp_full (hT : TabOK P T) {O : Quiet} (hO : QuietOK P O) {mem : Mem} {ev : Operand → AV} {o : Oper} {K : AV → Mem → Option ρ} {r : ρ}
    (h : (simpK T O mem ev o.op fun v eff => K v (eff.on mem)) = some r) : ∃ v mem', K v mem' = some r ∧ FDoes P o mem ev v mem' := by
  obtain ⟨v, eff, hk, hd, -⟩ := simpK_sound hT hO h
  exact ⟨v, _, hk, hd.full⟩

theorem fullK_sound (hT : TabOK P T) {O : Quiet} (hO : QuietOK P O) {M : Loud} (hM : LoudOK P M) {mem : Mem} {ev : Operand → AV} {o : Oper} {K : AV → Mem → Option ρ} {r : ρ}
    (h : fullK T O M mem ev o.op K = some r) : ∃ v mem', K v mem' = some r ∧ FDoes P o mem ev v mem' := by
  unfold fullK at h
  split at h
  · rename_i c ho
    split at h
    · rename_i f hc
      split at h
      · rename_i f' caps hf
        split at h
        · rename_i g hg
          obtain ⟨v, mem', h, hM'⟩ := hM f' g hg _ mem _ _ _ h
          refine ⟨v, mem', h, fun W Wr σ w re hst hr => ?_⟩
          have hf1 := hr f (by rw [ho]; simp [Op.operands, Call.operands, hc])
          rw [hf] at hf1
          generalize hre : re f = vf at hf1
          cases hf1 with | fn _ _ arr hcaps =>
          have hargs : RL σ (callArgs ev c.args.toList ++ caps) (c.args.map re ++ arr).toList := by
            have h1 := callArgs_R (σ := σ) (ev := ev) (re := re) c.args.toList (fun x hx => hr x (by
              rw [ho]; simp only [Op.operands, Call.operands, hc]; simp; right; simpa using hx))
            have := h1.append hcaps
            simpa using this
          exact OpTo.of_call ho hc hre (hM' W Wr σ w _ hst hargs)
        · rw [← ho] at h; exact simp_full hT hO h
      · cases h
    · rename_i hc
      exact appendK_sound hT ho hc h
    · rename_i hc
      exact copyK_sound hT ho hc h
    · rw [← ho] at h; exact simp_full hT hO h
  · exact simp_full hT hO h

/-! ### a region in the text's order -/

def seqK (T : List (Nat × TE)) (O : Quiet) (M : Loud) (nt : Nat) (ops : Array Oper) : List Oper → Env → Mem → (Env → Mem → Option ρ) → Option ρ
  | [], env, mem, K => K env mem
  | o :: rest, env, mem, K => guardK ops env o.guard fun env b =>
      match b with
      | true => fullK T O M mem (evO env) o.op fun v mem' => putK nt o.dst v env fun env' => seqK T O M nt ops rest env' mem' K
      | false => putK nt o.dst (.tup []) env fun env' => seqK T O M nt ops rest env' mem K

/-- the relation of a whole state of a frame -/
structure FrR (W : World) (Wr : Nat → Prop) (nt : Nat) (σ : Ren) (env : Env) (mem : Mem) (a : Act) (w : World) : Prop where
  st : FSt W Wr σ mem w
  env : EnvR σ nt env a

theorem EnvR.look_eq {σ : Ren} {nt : Nat} {env env' : Env} {a : Act} (h : EnvR σ nt env a) (he : ∀ t, look t env' = look t env) : EnvR σ nt env' a :=
  ⟨h.size, fun t => by rw [he t]; exact h.slot t⟩

theorem Act.put_defers' (a : Act) (d : Option Tmp) (v : Value) : (a.put d v).defers = a.defers := by cases d <;> rfl

theorem seqK_sound (hT : TabOK P T) {O : Quiet} (hO : QuietOK P O) {M : Loud} (hM : LoudOK P M) {nt : Nat} {ops : Array Oper} :
    ∀ (l : List Oper) (k : Nat) (env : Env) (mem : Mem) (K : Env → Mem → Option ρ) (r : ρ), (∀ j, l[j]? = ops[k + j]?) → seqK T O M nt ops l env mem K = some r →
    ∃ env' mem', K env' mem' = some r ∧ ∀ (W : World) (Wr : Nat → Prop) (σ : Ren) (a : Act) (w : World) (Q : Exit → Act → World → Prop), FrR W Wr nt σ env mem a w →
      (∀ σ' a' w', Ext σ σ' → FrR W Wr nt σ' env' mem' a' w' → a'.defers = a.defers → Q .normal a' w') → wpOps P ops Q (List.range' k l.length) a w
  | [], k, env, mem, K, r, _, h => ⟨env, mem, h, fun W Wr σ a w Q hf hq => by simp only [List.length_nil, List.range'_zero, wpOps]; exact hq σ a w (.refl σ) hf rfl⟩
  | o :: rest, k, env, mem, K, r, hl, h => by
    have ho : ops[k]? = some o := by have := hl 0; simpa using this.symm
    have hrest : ∀ j, rest[j]? = ops[k + 1 + j]? := fun j => by
      have := hl (j + 1)
      rw [show k + 1 + j = k + (j + 1) by omega]; simpa using this
    unfold seqK at h
    obtain ⟨env1, b, h, hlk, hwant⟩ := guardK_sound h
    cases b with
    | true =>
      dsimp only at h
      obtain ⟨v, mem1, h, hd⟩ := fullK_sound hT hO hM h
      obtain ⟨env2, h, hput⟩ := putK_sound h
      obtain ⟨env3, mem3, h, hfin⟩ := seqK_sound hT hO hM rest (k + 1) env2 mem1 K r hrest h
      refine ⟨env3, mem3, h, fun W Wr σ a w Q hf hq => ?_⟩
      have henv := hf.env.look_eq hlk
      have hw := hwant σ a (fun d _ => hf.env.slot d)
      simp only [List.length_cons, List.range'_succ, wpOps, ho, hw, if_true]
      refine .inl (OpTo.wp (hd W Wr σ w a.eval hf.st (fun x _ => henv.eval x)) fun rv w' ⟨σ', e1, e2, e3⟩ => ?_)
      refine hfin W Wr σ' _ w' Q ⟨e3, hput σ' a rv (henv.ext e1) e2⟩ fun σ'' a' w'' e4 e5 e6 => ?_
      exact hq σ'' a' w'' (e1.trans e4) e5 (by rw [e6, Act.put_defers'])
    | false =>
      dsimp only at h
      obtain ⟨env2, h, hput⟩ := putK_sound h
      obtain ⟨env3, mem3, h, hfin⟩ := seqK_sound hT hO hM rest (k + 1) env2 mem K r hrest h
      refine ⟨env3, mem3, h, fun W Wr σ a w Q hf hq => ?_⟩
      have henv := hf.env.look_eq hlk
      have hw := hwant σ a (fun d _ => hf.env.slot d)
      simp only [List.length_cons, List.range'_succ, wpOps, ho, hw, Bool.false_eq_true, if_false]
      refine hfin W Wr σ _ w Q ⟨hf.st, hput σ a undef henv (.tup _ _ .nil)⟩ fun σ'' a' w'' e4 e5 e6 => ?_
      exact hq σ'' a' w'' e4 e5 (by rw [e6, Act.put_defers'])

end Pw
