/- A part of the proof: PwEvH. -/
import Derived.Test.YtccmlapcijjmpaaPwEvG
namespace Pw
open Go

variable {P : Program} {T : List (Nat × TE)} {ρ : Type}

/-! ### memory -/

inductive Cont where
  | cells (cs : List AV)
  | bytes (l : List Nat)

structure Blk where
  c : Cont
  wr : Bool

abbrev Mem := List Blk

def Cont.size : Cont → Nat
  | .cells cs => cs.length
  | .bytes l => l.length

def Cont.at? : Cont → Nat → Option AV
  | .cells cs, o => cs[o]?
  | .bytes l, o => (l[o]?).map (AV.u .u8)

structure BlkRel (σ : Ren) (B : Blk) (b δ s : Nat) (w : World) : Prop where
  ex : ∃ C e lo hi, w.heap[b]? = some (.cells C e (lo, hi)) ∧ C.size = δ + s ∧ B.c.size ≤ s ∧
    (∀ (o : Nat) (v : AV), B.c.at? o = some v → ∃ rv, C[δ + o]? = some rv ∧ R σ v rv) ∧
    (B.wr = true → ∀ o, o < C.size → ¬ (lo ≤ o ∧ o < hi))

structure St (W : World) (Wr : Nat → Prop) (σ : Ren) (mem : Mem) (w : World) : Prop where
  os : w.os = W.os
  tape : w.tape = W.tape
  output : w.output = W.output
  size : W.heap.size ≤ w.heap.size
  old : ∀ k, k < W.heap.size → ¬ Wr k → w.heap[k]? = W.heap[k]?
  dom : ∀ (i b δ s : Nat), σ i = some (b, δ, s) → b < w.heap.size
  blk : ∀ (i b δ s : Nat) (B : Blk), σ i = some (b, δ, s) → mem[i]? = some B → BlkRel σ B b δ s w
  wrs : ∀ (i b δ s : Nat) (B : Blk), σ i = some (b, δ, s) → mem[i]? = some B → B.wr = true → W.heap.size ≤ b ∨ Wr b
  inj : ∀ (i j bi δi si bj δj sj : Nat) (Bi Bj : Blk), σ i = some (bi, δi, si) → σ j = some (bj, δj, sj) → i ≠ j → mem[i]? = some Bi → mem[j]? = some Bj →
    Bi.wr = true → (Bj.wr = true ∨ 0 < Bj.c.size) → bi ≠ bj

def MemRel (σ : Ren) (mem : Mem) (w : World) : Prop :=
  ∀ (i b δ s : Nat) (B : Blk), σ i = some (b, δ, s) → mem[i]? = some B → BlkRel σ B b δ s w

theorem Cont.at_lt {c : Cont} {o : Nat} {v : AV} (h : c.at? o = some v) : o < c.size := by
  cases c with
  | cells cs => simp only [Cont.at?] at h; exact (List.getElem?_eq_some_iff.1 h).1
  | bytes l =>
    simp only [Cont.at?, Option.map_eq_some_iff] at h
    obtain ⟨a, h, -⟩ := h
    exact (List.getElem?_eq_some_iff.1 h).1

theorem Cont.at_some {c : Cont} {o : Nat} (h : o < c.size) : ∃ v, c.at? o = some v := by
  cases c with
  | cells cs => exact ⟨cs[o], by simp [Cont.at?]; exact List.getElem?_eq_getElem h⟩
  | bytes l =>
    have h' : o < l.length := h
    exact ⟨.u .u8 (l[o]'h'), by simp only [Cont.at?, List.getElem?_eq_getElem h', Option.map_some]⟩

theorem BlkRel.cell {σ : Ren} {B : Blk} {b δ s : Nat} {w : World} (h : BlkRel σ B b δ s w) {o : Nat} {v : AV} (hv : B.c.at? o = some v) :
    ∃ rv, w.cell? ⟨b, δ + o, none⟩ = some rv ∧ R σ v rv := by
  obtain ⟨C, e, lo, hi, h1, h2, h3, h4, h5⟩ := h.ex
  obtain ⟨rv, h6, h7⟩ := h4 o v hv
  exact ⟨rv, by simp [World.cell?, h1, h6], h7⟩

theorem BlkRel.same {σ : Ren} {B : Blk} {b δ s : Nat} {w w' : World} (h : BlkRel σ B b δ s w) (hb : w'.heap[b]? = w.heap[b]?) : BlkRel σ B b δ s w' := by
  obtain ⟨C, e, lo, hi, h1, r⟩ := h.ex
  exact ⟨C, e, lo, hi, by rw [hb]; exact h1, r⟩

theorem BlkRel.ext {σ σ' : Ren} (hσ : Ext σ σ') {B : Blk} {b δ s : Nat} {w : World} (h : BlkRel σ B b δ s w) : BlkRel σ' B b δ s w := by
  obtain ⟨C, e, lo, hi, h1, h2, h3, h4, h5⟩ := h.ex
  exact ⟨C, e, lo, hi, h1, h2, h3, fun o v hv => let ⟨rv, h6, h7⟩ := h4 o v hv; ⟨rv, h6, h7.ext hσ⟩, h5⟩

/-- the cells from a place on -/
def Cont.rangeK (c : Cont) (off n : Nat) (K : List AV → Option ρ) : Option ρ :=
  match c with
  | .cells cs => bif Nat.beq off 0 && Nat.beq n cs.length then K cs else bif Nat.ble (off + n) cs.length then K ((cs.drop off).take n) else none
  | .bytes l => bif decide (off + n ≤ l.length) then K (((l.drop off).take n).map (AV.u .u8)) else none

theorem Cont.rangeK_sound {c : Cont} {off n : Nat} {K : List AV → Option ρ} {r : ρ} (h : c.rangeK off n K = some r) :
    ∃ vs, K vs = some r ∧ vs.length = n ∧ ∀ i, i < n → c.at? (off + i) = vs[i]? := by
  unfold Cont.rangeK at h
  split at h
  · rename_i cs
    rcases bif_both h with ⟨hc, h⟩ | ⟨hc, h⟩
    · simp only [Bool.and_eq_true] at hc
      have h0 := Nat.eq_of_beq_eq_true hc.1
      have h1 := Nat.eq_of_beq_eq_true hc.2
      exact ⟨_, h, h1.symm, fun i hi => by subst h0; simp [Cont.at?]⟩
    · obtain ⟨hc, h⟩ := bif_some h
      have hc := Nat.le_of_ble_eq_true hc
      exact ⟨_, h, by rw [List.length_take, List.length_drop]; omega, fun i hi => by simp [Cont.at?, hi]⟩
  · rename_i l
    obtain ⟨hc, h⟩ := bif_some h
    have hc := of_decide_eq_true hc
    exact ⟨_, h, by rw [List.length_map, List.length_take, List.length_drop]; omega, fun i hi => by simp [Cont.at?, hi]⟩

/-- one cell -/
def Cont.getK (c : Cont) (o : Nat) (K : AV → Option ρ) : Option ρ :=
  match c with
  | .cells cs => match nth cs o with
    | some v => K v
    | none => none
  | .bytes l => bif decide (o < l.length) then K (.u .u8 (l.getD o 0)) else none

theorem Cont.getK_sound {c : Cont} {o : Nat} {K : AV → Option ρ} {r : ρ} (h : c.getK o K = some r) : ∃ v, K v = some r ∧ c.at? o = some v := by
  unfold Cont.getK at h
  split at h
  · split at h
    · rename_i v hv; exact ⟨v, h, by rw [nth_eq] at hv; exact hv⟩
    · cases h
  · rename_i l
    obtain ⟨hc, h⟩ := bif_some h
    have hc := of_decide_eq_true hc
    exact ⟨_, h, by simp [Cont.at?, List.getD, List.getElem?_eq_getElem hc]⟩

theorem run_loadCells {σ : Ren} {b p : Nat} {w : World} : ∀ (n i : Nat) (vs : List AV) (acc : Array Value), vs.length = n →
    (∀ j v, vs[j]? = some v → ∃ rv, w.cell? ⟨b, p + (i + j), none⟩ = some rv ∧ R σ v rv) →
    ∃ arr, (loadCellsFrom ⟨b, p, none⟩ i n acc).run P w = .ok (acc ++ arr) w ∧ RL σ vs arr.toList
  | 0, i, vs, acc, hl, _ => ⟨#[], by simp [loadCellsFrom], by rw [List.length_eq_zero_iff.1 hl]; exact .nil⟩
  | n + 1, i, [], acc, hl, _ => by simp at hl
  | n + 1, i, v :: vs, acc, hl, h => by
    obtain ⟨rv, h1, h2⟩ := h 0 v rfl
    obtain ⟨arr, h3, h4⟩ := run_loadCells n (i + 1) vs (acc.push rv) (by simpa using hl) (fun j v hv => by
      have := h (j + 1) v (by simpa using hv)
      rwa [show i + (j + 1) = i + 1 + j by omega] at this)
    refine ⟨#[rv] ++ arr, ?_, ?_⟩
    · simp only [loadCellsFrom, Sem.run_bind, add_addr]
      rw [show p + i = p + (i + 0) by omega]
      simp only [run_load, h1, Result.andThen_ok, h3]
      congr 1
      rw [← Array.append_assoc]; simp
    · simpa using RL.cons _ _ _ _ h2 h4

def loadK (T : List (Nat × TE)) (mem : Mem) (t id off : Nat) (K : AV → Option ρ) : Option ρ :=
  match nth mem id with
  | none => none
  | some B => match (teAt T t).ty with
    | .other => none
    | .arr .. | .struct _ => B.c.rangeK off (teAt T t).size fun cs => K (.agg cs)
    | _ => B.c.getK off K

theorem loadK_sound (hT : TabOK P T) {mem : Mem} {t id off : Nat} {K : AV → Option ρ} {r : ρ} (h : loadK T mem t id off K = some r) :
    ∃ v, K v = some r ∧ ∀ (σ : Ren) (w : World) (x : Value), (∀ (b δ s : Nat) (B : Blk), σ id = some (b, δ, s) → mem[id]? = some B → BlkRel σ B b δ s w) → R σ (.ptr id off) x → ∃ rv, (Instr.loadAt t x).run P w = .ok rv w ∧ R σ v rv := by
  unfold loadK at h
  split at h
  · cases h
  · rename_i B hB
    rw [nth_eq] at hB
    have hagg : ∀ (hag : (teAt T t).ty.agg = true), (B.c.rangeK off (teAt T t).size fun cs => K (.agg cs)) = some r →
        ∃ v, K v = some r ∧ ∀ (σ : Ren) (w : World) (x : Value), (∀ (b δ s : Nat) (B : Blk), σ id = some (b, δ, s) → mem[id]? = some B → BlkRel σ B b δ s w) → R σ (.ptr id off) x → ∃ rv, (Instr.loadAt t x).run P w = .ok rv w ∧ R σ v rv := by
      intro hag h
      obtain ⟨vs, hk, hl, hat⟩ := Cont.rangeK_sound h
      refine ⟨_, hk, fun σ w x hm hx => ?_⟩
      cases hx with | ptr _ _ b δ s hσ =>
      have hbr := hm _ _ _ _ hσ hB
      have k := hT.known (ty_agg_ne hag)
      obtain ⟨arr, h1, h2⟩ := run_loadCells (P := P) (σ := σ) (b := b) (p := δ + off) (w := w) (teAt T t).size 0 vs #[] hl (fun j v hv => by
        have hj : j < (teAt T t).size := by rw [← hl]; exact (List.getElem?_eq_some_iff.1 hv).1
        have := hbr.cell (by rw [hat j hj]; exact hv)
        rwa [← Nat.add_assoc, ← Nat.zero_add j] at this)
      refine ⟨.agg arr, ?_, .agg _ _ h2⟩
      simp only [Instr.loadAt, Instr.sureAddr, loadVar, Sem.run_bind, Sem.run_pure, Result.andThen_ok, k.run_isAgg, hag, if_true, k.run_size, loadCells, h1]
      simp
    have hone : ∀ (hne : (teAt T t).ty ≠ .other) (hag : (teAt T t).ty.agg = false), B.c.getK off K = some r →
        ∃ v, K v = some r ∧ ∀ (σ : Ren) (w : World) (x : Value), (∀ (b δ s : Nat) (B : Blk), σ id = some (b, δ, s) → mem[id]? = some B → BlkRel σ B b δ s w) → R σ (.ptr id off) x → ∃ rv, (Instr.loadAt t x).run P w = .ok rv w ∧ R σ v rv := by
      intro hne hag h
      obtain ⟨v, hk, hat⟩ := Cont.getK_sound h
      refine ⟨_, hk, fun σ w x hm hx => ?_⟩
      cases hx with | ptr _ _ b δ s hσ =>
      have hbr := hm _ _ _ _ hσ hB
      have k := hT.known hne
      obtain ⟨rv, h1, h2⟩ := hbr.cell hat
      refine ⟨rv, ?_, h2⟩
      simp only [Instr.loadAt, Instr.sureAddr, loadVar, Sem.run_bind, Sem.run_pure, Result.andThen_ok, k.run_isAgg, hag, Bool.false_eq_true, if_false, run_load, h1]
    split at h
    · cases h
    · rename_i hty; exact hagg (by rw [hty]; rfl) h
    · rename_i hty; exact hagg (by rw [hty]; rfl) h
    · rename_i h1 h2 h3
      refine hone (fun e => h1 e) ?_ h
      cases hty : (teAt T t).ty <;> first | rfl | (exact absurd hty (h2 _ _)) | (exact absurd hty (h3 _))


structure SameBut (b : Nat) (w w' : World) : Prop where
  os : w'.os = w.os
  tape : w'.tape = w.tape
  output : w'.output = w.output
  size : w'.heap.size = w.heap.size
  old : ∀ k, k ≠ b → w'.heap[k]? = w.heap[k]?

theorem SameBut.refl (b : Nat) (w : World) : SameBut b w w := ⟨rfl, rfl, rfl, rfl, fun _ _ => rfl⟩
theorem SameBut.trans {b : Nat} {x y z : World} (h : SameBut b x y) (k : SameBut b y z) : SameBut b x z :=
  ⟨k.os.trans h.os, k.tape.trans h.tape, k.output.trans h.output, k.size.trans h.size, fun i hi => (k.old i hi).trans (h.old i hi)⟩

theorem setCell_heap {w : World} {b o : Nat} {C : Array Value} {e : TypeId} {fz : Nat × Nat} (h : w.heap[b]? = some (.cells C e fz)) (v : Value) :
    (w.setCell ⟨b, o, none⟩ v).heap[b]? = some (.cells (C.setIfInBounds o v) e fz) ∧ SameBut b w (w.setCell ⟨b, o, none⟩ v) := by
  refine ⟨?_, rfl, rfl, rfl, by simp [World.setCell], fun k hk => ?_⟩
  · simp [World.setCell, Array.getElem?_modify, h]
  · simp [World.setCell, Array.getElem?_modify, Ne.symm hk]

theorem run_storeCells {b p : Nat} {e : TypeId} {lo hi : Nat} : ∀ (vs : List Value) (i : Nat) (w : World) (C : Array Value),
    w.heap[b]? = some (.cells C e (lo, hi)) → (∀ o, o < C.size → ¬ (lo ≤ o ∧ o < hi)) → p + i + vs.length ≤ C.size → (∀ v ∈ vs, v.oneCell' = true) →
    ∃ w' C', (storeCells ⟨b, p, none⟩ vs i).run P w = .ok () w' ∧ w'.heap[b]? = some (.cells C' e (lo, hi)) ∧ C'.size = C.size ∧
      (∀ o, C'[o]? = if p + i ≤ o ∧ o < p + i + vs.length then vs[o - (p + i)]? else C[o]?) ∧ SameBut b w w'
  | [], i, w, C, h, _, _, _ => ⟨w, C, by simp [storeCells], h, rfl, fun o => by rw [if_neg (by simp)], .refl _ _⟩
  | v :: vs, i, w, C, h, hf, hl, hv => by
    simp only [List.length_cons] at hl
    obtain ⟨s1, s2⟩ := setCell_heap (o := p + i) h v
    obtain ⟨w', C', h1, h2, h3, h4, h5⟩ := run_storeCells (p := p) vs (i + 1) (w.setCell ⟨b, p + i, none⟩ v) (C.setIfInBounds (p + i) v) s1
      (fun o ho => hf o (by simpa using ho)) (by rw [Array.size_setIfInBounds]; omega) (fun x hx => hv x (by simp [hx]))
    refine ⟨w', C', ?_, h2, by simpa using h3, fun o => ?_, s2.trans h5⟩
    · have hc : w.cell? ⟨b, p + i, none⟩ = some (C[p + i]'(by omega)) := by
        simp [World.cell?, h]
      have hfz : w.frozen? ⟨b, p + i, none⟩ = false := by
        simp only [World.frozen?, h]
        have := hf (p + i) (by omega)
        simpa using this
      simp only [storeCells, Sem.run_bind, add_addr]
      rw [run_store P w _ v _ (hv v (by simp))]
      simp only [hc, hfz, Bool.false_eq_true, if_false, Result.andThen_ok]
      exact h1
    · rw [h4 o]
      simp only [List.length_cons]
      by_cases e1 : o = p + i
      · subst e1
        rw [if_neg (by omega), if_pos (by omega), Nat.sub_self]
        have : p + i < C.size := by omega
        simp [this]
      · rw [Array.getElem?_setIfInBounds_ne (by omega)]
        by_cases e2 : p + (i + 1) ≤ o ∧ o < p + (i + 1) + vs.length
        · rw [if_pos e2, if_pos (by omega), show o - (p + i) = (o - (p + (i + 1))) + 1 by omega]; rfl
        · rw [if_neg e2, if_neg (by omega)]

/-- the content with some cells changed -/
def Cont.putK (c : Cont) (off : Nat) (vs : List AV) (K : Cont → Option ρ) : Option ρ :=
  match c with
  | .cells cs => bif Nat.beq off 0 && Nat.beq vs.length cs.length then K (.cells vs) else
      bif Nat.ble (off + vs.length) cs.length then K (.cells (splice cs off vs)) else none
  | .bytes l => match vs with
    | [.u .u8 n] => bif decide (off < l.length) then K (.bytes (l.set off n)) else none
    | _ => none

theorem splice_get {cs vs : List AV} {off : Nat} (h : off + vs.length ≤ cs.length) (o : Nat) :
    (splice cs off vs)[o]? = if off ≤ o ∧ o < off + vs.length then vs[o - off]? else cs[o]? := by
  unfold splice
  have hl : (cs.take off).length = off := by rw [List.length_take]; omega
  by_cases h1 : o < off
  · rw [List.getElem?_append_left (by omega), if_neg (by omega), List.getElem?_take, if_pos h1]
  · rw [List.getElem?_append_right (by omega), hl]
    by_cases h2 : o < off + vs.length
    · rw [List.getElem?_append_left (by omega), if_pos (by omega)]
    · rw [List.getElem?_append_right (by omega), if_neg (by omega), List.getElem?_drop]; congr 1; omega

theorem splice_length {cs vs : List AV} {off : Nat} (h : off + vs.length ≤ cs.length) : (splice cs off vs).length = cs.length := by
  unfold splice; simp only [List.length_append, List.length_take, List.length_drop]; omega

theorem Cont.putK_sound {c : Cont} {off : Nat} {vs : List AV} {K : Cont → Option ρ} {r : ρ} (h : c.putK off vs K = some r) :
    ∃ c', K c' = some r ∧ c'.size = c.size ∧ off + vs.length ≤ c.size ∧
      ∀ o, c'.at? o = if off ≤ o ∧ o < off + vs.length then vs[o - off]? else c.at? o := by
  unfold Cont.putK at h
  split at h
  · rename_i cs
    rcases bif_both h with ⟨hc, hk⟩ | ⟨hc, h⟩
    · simp only [Bool.and_eq_true] at hc
      have h0 := Nat.eq_of_beq_eq_true hc.1
      have h1 := Nat.eq_of_beq_eq_true hc.2
      subst h0
      refine ⟨_, hk, h1, by simp [Cont.size, h1], fun o => ?_⟩
      simp only [Cont.at?]
      by_cases ho : o < vs.length
      · rw [if_pos (by omega)]; rfl
      · rw [if_neg (by omega), List.getElem?_eq_none (by omega), List.getElem?_eq_none (by omega)]
    · obtain ⟨hc, h⟩ := bif_some h
      have hc := Nat.le_of_ble_eq_true hc
      exact ⟨_, h, splice_length hc, hc, fun o => by simp only [Cont.at?]; exact splice_get hc o⟩
  · rename_i l
    split at h
    · rename_i n
      obtain ⟨hc, h⟩ := bif_some h
      have hc := of_decide_eq_true hc
      refine ⟨_, h, by simp [Cont.size], by simp [Cont.size]; omega, fun o => ?_⟩
      simp only [Cont.at?, List.getElem?_set, List.length_cons, List.length_nil]
      by_cases e : off = o
      · subst e; simp [hc]
      · rw [if_neg e, if_neg (by omega)]
    · cases h

def setNth {α : Type} : List α → Nat → α → List α
  | [], _, _ => []
  | _ :: l, 0, b => b :: l
  | a :: l, n + 1, b => a :: setNth l n b
theorem setNth_eq {α : Type} : ∀ (l : List α) (n : Nat) (b : α), setNth l n b = l.set n b
  | [], _, _ => by simp [setNth]
  | _ :: _, 0, _ => by simp [setNth]
  | _ :: l, n + 1, b => by simp [setNth, setNth_eq l n b]

def storeK (T : List (Nat × TE)) (mem : Mem) (t id off : Nat) (v : AV) (K : Blk → Option ρ) : Option ρ :=
  match nth mem id with
  | none => none
  | some B => bif B.wr && (v.isC && allScalar v.cells) then
      (match sz T t with
      | some s => bif Nat.beq v.cells.length s then B.c.putK off v.cells fun c => K ⟨c, true⟩ else none
      | none => none)
    else none

/-- a store, in a world that fits: the block that it changes, and how the relation goes on -/
theorem St.store {W : World} {Wr : Nat → Prop} {σ : Ren} {mem : Mem} {w w' : World} (h : St W Wr σ mem w) {id b δ s : Nat} {B B' : Blk} (hσ : σ id = some (b, δ, s)) (hB : mem[id]? = some B)
    (hwr : B.wr = true) (hsz : B'.c.size = B.c.size) (hwr' : B'.wr = true) (hs : SameBut b w w') (hr : BlkRel σ B' b δ s w') : St W Wr σ (mem.set id B') w' := by
  have hbb := h.wrs _ _ _ _ _ hσ hB hwr
  have hget : ∀ (i : Nat) (Bi : Blk), (mem.set id B')[i]? = some Bi → (i = id ∧ Bi = B') ∨ (i ≠ id ∧ mem[i]? = some Bi) := by
    intro i Bi hi
    by_cases e : id = i
    · subst e
      left
      rw [List.getElem?_set_self (List.getElem?_eq_some_iff.1 hB).1] at hi
      exact ⟨rfl, by simpa using hi.symm⟩
    · right; rw [List.getElem?_set_ne e] at hi; exact ⟨Ne.symm e, hi⟩
  constructor
  · exact hs.os.trans h.os
  · exact hs.tape.trans h.tape
  · exact hs.output.trans h.output
  · rw [hs.size]; exact h.size
  · intro k hk hnk
    have : k ≠ b := by
      intro e; subst e
      rcases hbb with h1 | h1
      · omega
      · exact hnk h1
    rw [hs.old k this]; exact h.old k hk hnk
  · intro i b' δ' s' hi; rw [hs.size]; exact h.dom _ _ _ _ hi
  · intro i b' δ' s' Bi hi hBi
    rcases hget i Bi hBi with ⟨rfl, rfl⟩ | ⟨hne, hBi⟩
    · rw [hσ] at hi; cases hi; exact hr
    · by_cases hz : Bi.wr = true ∨ 0 < Bi.c.size
      · have hne' := h.inj _ _ _ _ _ _ _ _ _ _ hσ hi (Ne.symm hne) hB hBi hwr hz
        exact (h.blk _ _ _ _ _ hi hBi).same (hs.old b' (Ne.symm hne'))
      · -- an empty block: only its place counts
        have h0 := h.blk _ _ _ _ _ hi hBi
        by_cases e : b' = b
        · subst e
          obtain ⟨C, e1, lo, hi1, g1, g2, g3, g4, g5⟩ := h0.ex
          obtain ⟨C', e1', lo', hi1', g1', g2', g3', g4', g5'⟩ := hr.ex
          obtain ⟨C0, e0, lo0, hi0, k1, k2, k3, k4, k5⟩ := (h.blk _ _ _ _ _ hσ hB).ex
          refine ⟨C', e1', lo', hi1', g1', ?_, g3, fun o v hv => ?_, fun hw => absurd (Or.inl hw) hz⟩
          · rw [k1] at g1; cases g1; omega
          · have := Cont.at_lt hv; exact absurd (Or.inr (by omega)) hz
        · exact h0.same (hs.old b' e)
  · intro i b' δ' s' Bi hi hBi hw
    rcases hget i Bi hBi with ⟨rfl, rfl⟩ | ⟨hne, hBi⟩
    · rw [hσ] at hi; cases hi; exact hbb
    · exact h.wrs _ _ _ _ _ hi hBi hw
  · intro i j bi δi si bj δj sj Bi Bj hi hj hij hBi hBj hw hz
    have key : ∀ (i : Nat) (Bi : Blk), (mem.set id B')[i]? = some Bi → ∃ B0 : Blk, mem[i]? = some B0 ∧ B0.c.size = Bi.c.size ∧ (Bi.wr = true → B0.wr = true) := by
      intro i Bi hBi
      rcases hget i Bi hBi with ⟨e1, e2⟩ | ⟨_, h2⟩
      · subst e1; subst e2; exact ⟨B, hB, hsz.symm, fun _ => hwr⟩
      · exact ⟨Bi, h2, rfl, fun h => h⟩
    obtain ⟨B1, k1, -, k3⟩ := key i Bi hBi
    obtain ⟨B2, k4, k5, k6⟩ := key j Bj hBj
    exact h.inj _ _ _ _ _ _ _ _ _ _ hi hj hij k1 k4 (k3 hw) (hz.imp k6 (fun h => by omega))


theorem storeK_sound (hT : TabOK P T) {mem : Mem} {t id off : Nat} {v : AV} {K : Blk → Option ρ} {r : ρ} (h : storeK T mem t id off v K = some r) :
    ∃ B B', mem[id]? = some B ∧ K B' = some r ∧ B'.c.size = B.c.size ∧ B'.wr = true ∧ B.wr = true ∧
    ∀ (W : World) (Wr : Nat → Prop) (σ : Ren) (mem' : Mem) (w : World) (x vx : Value), St W Wr σ mem' w → mem'[id]? = some B → R σ (.ptr id off) x → R σ v vx →
      ∃ w', (Instr.storeAt t x vx).run P w = .ok () w' ∧ St W Wr σ (mem'.set id B') w' := by
  unfold storeK at h
  split at h
  · cases h
  · rename_i B hB
    rw [nth_eq] at hB
    obtain ⟨hc, h⟩ := bif_some h
    simp only [Bool.and_eq_true] at hc
    obtain ⟨hwr, hisC, hsc⟩ := hc
    split at h
    · rename_i s hs
      obtain ⟨hl, h⟩ := bif_some h
      have hl := Nat.eq_of_beq_eq_true hl
      obtain ⟨c', hk, hsz, hle, hat⟩ := Cont.putK_sound h
      obtain ⟨ke, hke⟩ := sz_known hT hs
      refine ⟨B, ⟨c', true⟩, hB, hk, hsz, rfl, hwr, fun W Wr σ mem' w x vx hst hB' hx hv => ?_⟩
      have hcl := hv.cells hisC
      have hlen := hcl.length
      cases hx with | ptr _ _ b δ z hσ =>
      obtain ⟨C, e, lo, hi, g1, g2, g3, g4, g5⟩ := (hst.blk _ _ _ _ _ hσ hB').ex
      have hone : ∀ y ∈ vx.cells.toList, y.oneCell' = true := by
        intro y hy
        obtain ⟨j, hj⟩ := List.mem_iff_getElem?.1 hy
        have hj' : j < v.cells.length := by rw [hlen]; exact (List.getElem?_eq_some_iff.1 hj).1
        obtain ⟨y', h1, h2⟩ := hcl.get (List.getElem?_eq_getElem hj')
        rw [hj] at h1; cases h1
        exact h2.oneCell (allScalar_mem hsc _ (List.getElem_mem hj'))
      have hlen' : vx.cells.size = (teAt T t).size := by
        have : vx.cells.toList.length = vx.cells.size := by simp
        omega
      obtain ⟨w', C', r1, r2, r3, r4, r5⟩ := run_storeCells (P := P) (p := δ + off) vx.cells.toList 0 w C g1 (g5 hwr) (by simp only [Array.length_toList]; omega) hone
      refine ⟨w', by simp only [Instr.storeAt, Instr.sureAddr, storeVar, Sem.run_bind, Sem.run_pure, Result.andThen_ok, ke.run_size, hlen', ne_eq, not_true_eq_false, if_false]; exact r1, ?_⟩
      refine hst.store hσ hB' hwr hsz rfl r5 ⟨C', e, lo, hi, r2, by omega, by rw [hsz]; exact g3, fun o u hu => ?_, fun _ o ho => g5 hwr o (by omega)⟩
      rw [hat o] at hu
      rw [r4 (δ + o)]
      by_cases ho : off ≤ o ∧ o < off + v.cells.length
      · rw [if_pos ho] at hu
        rw [if_pos (by simp only [Array.length_toList] at *; omega)]
        obtain ⟨rv, h1, h2⟩ := hcl.get hu
        exact ⟨rv, by rw [show δ + o - (δ + off + 0) = o - off by omega]; exact h1, h2⟩
      · rw [if_neg ho] at hu
        rw [if_neg (by simp only [Array.length_toList] at *; omega)]
        exact g4 o u hu
    · cases h

end Pw
