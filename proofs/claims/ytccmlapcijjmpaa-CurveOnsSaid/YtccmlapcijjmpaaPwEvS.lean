/- A part of the proof: PwEvS. -/
import Derived.Test.YtccmlapcijjmpaaPwEvR
namespace Pw
open Go Go.RowKit

variable {P : Program} {T : List (Nat × TE)} {ρ : Type}

/-! ### functions that read lists of bytes, and such as make a new list -/

/-- arguments, each list of bytes put into a memory of its own -/
def normK (mem : Mem) : List AV → List (List Nat) → (List AV → List (List Nat) → Option ρ) → Option ρ
  | [], ls, K => K [] ls
  | a :: rest, ls, K => match a with
    | .slice id off len ap => sliceBytesK mem (.slice id off len ap) fun l => normK mem rest (ls ++ [l]) fun as ls' => K (.slice ls.length 0 l.length false :: as) ls'
    | .nils => normK mem rest (ls ++ [[]]) fun as ls' => K (.slice ls.length 0 0 false :: as) ls'
    | a => match a.closed with
      | true => normK mem rest ls fun as ls' => K (a :: as) ls'
      | false => none

def blkOf (l : List Nat) : Blk := ⟨.bytes l, false⟩
def memOf (ls : List (List Nat)) : Mem := ls.map blkOf

theorem memOf_get {ls : List (List Nat)} {i : Nat} {B : Blk} (h : (memOf ls)[i]? = some B) : ∃ l, ls[i]? = some l ∧ B = blkOf l := by
  simp only [memOf, List.getElem?_map, Option.map_eq_some_iff] at h
  obtain ⟨l, h1, rfl⟩ := h
  exact ⟨l, h1, rfl⟩

/-- what the lists stand for in a world -/
structure NSt (w : World) (σ0 : Ren) (ls : List (List Nat)) : Prop where
  dom : ∀ i p, σ0 i = some p → i < ls.length
  blk : ∀ i b δ s l, σ0 i = some (b, δ, s) → ls[i]? = some l → b < w.heap.size ∧ BlkRel σ0 (blkOf l) b δ s w

theorem NSt.empty (w : World) : NSt w (fun _ => none) [] := ⟨fun _ _ h => by (cases h), fun _ _ _ _ _ h => by (cases h)⟩

theorem NSt.fst {w : World} {σ0 : Ren} {ls : List (List Nat)} (h : NSt w σ0 ls) : FSt w (fun _ => False) σ0 (memOf ls) w := by
  refine ⟨⟨rfl, rfl, rfl, Nat.le_refl _, fun _ _ _ => rfl, ?_, ?_, ?_, ?_⟩, fun i p hi => by simpa [memOf] using h.dom i p hi⟩
  · intro i b δ s hi
    have hlt := h.dom i _ hi
    exact (h.blk i b δ s ls[i] hi (List.getElem?_eq_getElem hlt)).1
  · intro i b δ s B hi hB
    obtain ⟨l, hl, rfl⟩ := memOf_get hB
    exact (h.blk i b δ s l hi hl).2
  · intro i b δ s B hi hB hw
    obtain ⟨l, hl, rfl⟩ := memOf_get hB
    cases hw
  · intro i j bi δi si bj δj sj Bi Bj hi hj _ hBi _ hw
    obtain ⟨l, hl, rfl⟩ := memOf_get hBi
    cases hw

theorem BlkRel.bytes {σ σ' : Ren} {l : List Nat} {b δ s : Nat} {w : World} (h : BlkRel σ (blkOf l) b δ s w) : BlkRel σ' (blkOf l) b δ s w := by
  obtain ⟨C, e, lo, hi, h1, h2, h3, h4, h5⟩ := h.ex
  refine ⟨C, e, lo, hi, h1, h2, h3, fun o v hv => ?_, h5⟩
  obtain ⟨rv, h6, h7⟩ := h4 o v hv
  refine ⟨rv, h6, R.closed ?_ h7⟩
  simp only [blkOf, Cont.at?, Option.map_eq_some_iff] at hv
  obtain ⟨a, -, rfl⟩ := hv
  rfl

theorem NSt.snoc {w : World} {σ0 : Ren} {ls : List (List Nat)} (h : NSt w σ0 ls) {l : List Nat} (p : Option (Nat × Nat × Nat)) (hp : ∀ b δ s, p = some (b, δ, s) → b < w.heap.size ∧ BlkRel (fun _ => none) (blkOf l) b δ s w) :
    ∃ σ1, Ext σ0 σ1 ∧ σ1 ls.length = p ∧ NSt w σ1 (ls ++ [l]) := by
  refine ⟨fun i => if i = ls.length then p else σ0 i, fun i q hi => ?_, if_pos rfl, ⟨fun i q hi => ?_, fun i b δ s l' hi hl => ?_⟩⟩
  · have := h.dom i q hi
    show (if i = ls.length then p else σ0 i) = some q
    rw [if_neg (by omega)]; exact hi
  · rcases Nat.lt_or_ge i ls.length with hlt | hge
    · simp; omega
    · rcases Nat.eq_or_lt_of_le hge with e | hlt
      · simp; omega
      · have hi' : (if i = ls.length then p else σ0 i) = some q := hi
        rw [if_neg (by omega)] at hi'
        have := h.dom i q hi'; omega
  · have hi' : (if i = ls.length then p else σ0 i) = some (b, δ, s) := hi
    split at hi'
    · rename_i e
      subst e
      simp only [List.getElem?_append_right (Nat.le_refl _), Nat.sub_self, List.getElem?_cons_zero, Option.some.injEq] at hl
      subst hl
      have := hp b δ s hi'
      exact ⟨this.1, this.2.bytes⟩
    · have hlt := h.dom i _ hi'
      rw [List.getElem?_append_left hlt] at hl
      have := h.blk i b δ s l' hi' hl
      exact ⟨this.1, this.2.bytes⟩

theorem MemRel.cut {σ : Ren} {mem : Mem} {w : World} (hm : MemRel σ mem w) {id off len : Nat} {ap : Bool} {l : List Nat} {vx : Value} (hx : R σ (.slice id off len ap) vx)
    {B : Blk} (hB : mem[id]? = some B) (hl : l.length = len) (hle : off + len ≤ B.c.size) (hat : ∀ i, i < len → B.c.at? (off + i) = (l[i]?).map (AV.u .u8)) :
    (∃ a, vx = .slice a 0 0 ∧ l = []) ∨ ∃ b δ s cap, vx = .slice (some ⟨b, δ, none⟩) len cap ∧ len ≤ cap ∧ cap < 9223372036854775808 ∧ b < w.heap.size ∧ BlkRel (fun _ => none) (blkOf l) b δ s w := by
  cases hx with
  | slic0 _ _ _ a => exact .inl ⟨a, rfl, List.length_eq_zero_iff.1 hl⟩
  | slice _ _ _ _ cap b δ s hσ h1 h2 h3 =>
    right
    have hbr := hm _ _ _ _ _ hσ hB
    obtain ⟨C, e, lo, hi, g1, g2, g3, g4, g5⟩ := hbr.ex
    have hblt : b < w.heap.size := by
      have := (Array.getElem?_eq_some_iff.1 g1).1; exact this
    refine ⟨b, δ + off, s - off, cap, rfl, h1, h2, hblt, C, e, lo, hi, g1, by omega, by simp only [blkOf, Cont.size]; omega, fun o v hv => ?_, fun hw => by cases hw⟩
    have ho := Cont.at_lt hv
    simp only [blkOf, Cont.size] at ho
    have : B.c.at? (off + o) = some v := by rw [hat o (by omega)]; exact hv
    obtain ⟨rv, k1, k2⟩ := g4 _ _ this
    refine ⟨rv, by rw [Nat.add_assoc]; exact k1, R.closed ?_ k2⟩
    simp only [blkOf, Cont.at?, Option.map_eq_some_iff] at hv
    obtain ⟨a, -, rfl⟩ := hv
    rfl

theorem normK_sound {mem : Mem} : ∀ (args : List AV) (ls : List (List Nat)) (K : List AV → List (List Nat) → Option ρ) (r : ρ), normK mem args ls K = some r →
    ∃ as ls', K as ls' = some r ∧ ∀ (σ : Ren) (w : World) (vs : List Value) (σ0 : Ren), MemRel σ mem w → RL σ args vs → NSt w σ0 ls → ∃ σ1, Ext σ0 σ1 ∧ NSt w σ1 ls' ∧ RL σ1 as vs
  | [], ls, K, r, h => ⟨[], ls, h, fun σ w vs σ0 _ hr hn => ⟨σ0, Ext.refl _, hn, by cases hr; exact .nil⟩⟩
  | a :: rest, ls, K, r, h => by
    unfold normK at h
    split at h
    · rename_i id off len ap
      unfold sliceBytesK at h
      simp only at h
      split at h
      · rename_i B hB
        rw [nth_eq] at hB
        obtain ⟨l, hk, hl, hle, hat⟩ := Cont.bytesK_sound h
        obtain ⟨as, ls', hK, hs⟩ := normK_sound rest _ _ _ hk
        refine ⟨_, ls', hK, fun σ w vs σ0 hm hr hn => ?_⟩
        cases hr with | cons _ v _ vs' h1 h2 =>
        rcases hm.cut h1 hB hl hle hat with ⟨a, rfl, rfl⟩ | ⟨b, δ, s, cap, rfl, hc1, hc2, hb, hbr⟩
        · obtain ⟨σ1, e1, e2, n1⟩ := hn.snoc (l := []) none (fun _ _ _ h => by cases h)
          obtain ⟨σ2, e3, n2, r2⟩ := hs σ w vs' σ1 hm h2 n1
          exact ⟨σ2, e1.trans e3, n2, .cons _ _ _ _ (.slic0 _ _ _ _) r2⟩
        · obtain ⟨σ1, e1, e2, n1⟩ := hn.snoc (l := l) (some (b, δ, s)) (fun b' δ' s' h => by cases h; exact ⟨hb, hbr⟩)
          obtain ⟨σ2, e3, n2, r2⟩ := hs σ w vs' σ1 hm h2 n1
          refine ⟨σ2, e1.trans e3, n2, .cons _ _ _ _ ?_ r2⟩
          have := R.slice (σ := σ2) ls.length 0 l.length false cap b δ s (e3 _ _ e2) (by omega) hc2 (by simp)
          rw [hl] at this ⊢
          simpa using this
      · cases h
    · obtain ⟨as, ls', hK, hs⟩ := normK_sound rest _ _ _ h
      refine ⟨_, ls', hK, fun σ w vs σ0 hm hr hn => ?_⟩
      cases hr with | cons _ v _ vs' h1 h2 =>
      cases h1
      obtain ⟨σ1, e1, e2, n1⟩ := hn.snoc (l := []) none (fun _ _ _ h => by cases h)
      obtain ⟨σ2, e3, n2, r2⟩ := hs σ w vs' σ1 hm h2 n1
      exact ⟨σ2, e1.trans e3, n2, .cons _ _ _ _ (.slic0 _ _ _ _) r2⟩
    · split at h
      · rename_i hc
        obtain ⟨as, ls', hK, hs⟩ := normK_sound rest _ _ _ h
        refine ⟨_, ls', hK, fun σ w vs σ0 hm hr hn => ?_⟩
        cases hr with | cons _ v _ vs' h1 h2 =>
        obtain ⟨σ2, e3, n2, r2⟩ := hs σ w vs' σ0 hm h2 hn
        exact ⟨σ2, e3, n2, .cons _ _ _ _ (h1.closed hc) r2⟩
      · cases h

/-! ### a new list in the result -/

/-- a value whose one block is k, told of block n -/
def AV.move (k n : Nat) : AV → Option AV
  | .slice id off len ap => bif Nat.beq id k then some (.slice n off len ap) else none
  | .agg cs => match mv cs with | some l => some (.agg l) | none => none
  | .tup cs => match mv cs with | some l => some (.tup l) | none => none
  | v => match v.closed with | true => some v | false => none
where mv : List AV → Option (List AV)
  | [] => some []
  | a :: l => match a.move k n with
    | some a' => (match mv l with | some l' => some (a' :: l') | none => none)
    | none => none

mutual
theorem R.move {σ σ' : Ren} {k n : Nat} (hσ : ∀ p, σ k = some p → σ' n = some p) : {a a' : AV} → {v : Value} → R σ a v → a.move k n = some a' → R σ' a' v
  | _, _, _, .slice id off len ap cap b δ s e l c d, h => by
    unfold AV.move at h
    obtain ⟨hc, h2⟩ := bif_some h
    have := Nat.eq_of_beq_eq_true hc
    subst this
    cases h2
    exact .slice _ off len ap cap b δ s (hσ _ e) l c d
  | _, _, _, .slic0 id off ap a, h => by
    unfold AV.move at h
    obtain ⟨hc, h2⟩ := bif_some h
    cases h2
    exact .slic0 _ off ap a
  | _, _, _, .agg cs arr l, h => by
    unfold AV.move at h
    split at h
    · rename_i l' hl
      simp only [Option.some.injEq] at h
      subst h
      exact .agg _ _ (RL.move hσ l hl)
    · cases h
  | _, _, _, .tup cs arr l, h => by
    unfold AV.move at h
    split at h
    · rename_i l' hl
      simp only [Option.some.injEq] at h
      subst h
      exact .tup _ _ (RL.move hσ l hl)
    · cases h
  | _, _, _, .bool b, h => by simp [AV.move, AV.closed] at h; subst h; exact .bool b
  | _, _, _, .u q m x y, h => by simp [AV.move, AV.closed] at h; subst h; exact .u q m x y
  | _, _, _, .n i x y, h => by simp [AV.move, AV.closed] at h; subst h; exact .n i x y
  | _, _, _, .str s, h => by simp [AV.move, AV.closed] at h; subst h; exact .str s
  | _, _, _, .nilp, h => by simp [AV.move, AV.closed] at h; subst h; exact .nilp
  | _, _, _, .nils, h => by simp [AV.move, AV.closed] at h; subst h; exact .nils
  | _, _, _, .ptr .., h => by simp [AV.move, AV.closed] at h
  | _, _, _, .fn .., h => by simp [AV.move, AV.closed] at h
  | _, _, _, .unk _, h => by simp [AV.move, AV.closed] at h
theorem RL.move {σ σ' : Ren} {k n : Nat} (hσ : ∀ p, σ k = some p → σ' n = some p) : {l l' : List AV} → {m : List Value} → RL σ l m → AV.move.mv k n l = some l' → RL σ' l' m
  | _, _, _, .nil, h => by simp [AV.move.mv] at h; subst h; exact .nil
  | _, _, _, .cons a v l m x y, h => by
    unfold AV.move.mv at h
    split at h
    · rename_i a' ha
      split at h
      · rename_i l' hl
        simp only [Option.some.injEq] at h
        subst h
        exact .cons _ _ _ _ (R.move hσ x ha) (RL.move hσ y hl)
      · cases h
    · cases h
end

/-- the block that a result names, and how many bytes of it -/
def AV.names : AV → Option (Nat × Nat)
  | .slice id _ len _ => some (id, len)
  | .agg cs => nm cs
  | .tup cs => nm cs
  | _ => none
where nm : List AV → Option (Nat × Nat)
  | [] => none
  | a :: l => match nm l with
    | some i => some i
    | none => a.names

mutual
theorem R.names {σ : Ren} {k len : Nat} (hpos : 0 < len) : {a : AV} → {v : Value} → R σ a v → a.names = some (k, len) → ∃ p, σ k = some p
  | _, _, .slice id off len ap cap b δ s e l c d, h => by
    simp only [AV.names, Option.some.injEq, Prod.mk.injEq] at h
    exact ⟨_, h.1 ▸ e⟩
  | _, _, .slic0 id off ap a, h => by
    simp only [AV.names, Option.some.injEq, Prod.mk.injEq] at h
    omega
  | _, _, .agg cs arr l, h => RL.names hpos l (by simpa only [AV.names] using h)
  | _, _, .tup cs arr l, h => RL.names hpos l (by simpa only [AV.names] using h)
  | _, _, .bool b, h => by simp [AV.names] at h
  | _, _, .u q m x y, h => by simp [AV.names] at h
  | _, _, .n i x y, h => by simp [AV.names] at h
  | _, _, .str s, h => by simp [AV.names] at h
  | _, _, .nilp, h => by simp [AV.names] at h
  | _, _, .nils, h => by simp [AV.names] at h
  | _, _, .ptr .., h => by simp [AV.names] at h
  | _, _, .fn .., h => by simp [AV.names] at h
  | _, _, .unk _, h => by simp [AV.names] at h
theorem RL.names {σ : Ren} {k len : Nat} (hpos : 0 < len) : {l : List AV} → {m : List Value} → RL σ l m → AV.names.nm l = some (k, len) → ∃ p, σ k = some p
  | _, _, .nil, h => by simp [AV.names.nm] at h
  | _, _, .cons a v l m x y, h => by
    unfold AV.names.nm at h
    split at h
    · rename_i i hi
      simp only [Option.some.injEq] at h
      subst h
      exact RL.names hpos y hi
    · exact R.names hpos x h
end

def Cont.plain : Cont → Bool
  | .bytes _ => true
  | .cells cs => AV.closed.all cs

/-- a function over plain values and lists of bytes: its value, and the list that it has made -/
def runNL (X : Cx) (L : Loops) (keep : List Nat) (fuel : Nat) (fn : Func) (c : Code) (args : List AV) (ls : List (List Nat)) : Option (AV × Option Blk) :=
  runKL X L keep fuel fn c args (memOf ls) fun v mem => match v.closed with
    | true => some (v, none)
    | false => match v.names with
      | some (k, len) => (match nth mem k with
        | some B => bif B.wr && B.c.plain && Nat.blt 0 len then (match v.move k 0 with
            | some v' => some (v', some B)
            | none => none) else none
        | none => none)
      | none => none

abbrev runN (X : Cx) (keep : List Nat) (fuel : Nat) (fn : Func) (c : Code) (args : List AV) (ls : List (List Nat)) : Option (AV × Option Blk) := runNL X [] keep fuel fn c args ls

/-- a call of such a function -/
def listy (g : List AV → List (List Nat) → Option (AV × Option Blk)) : List AV → Mem → ∀ {ρ : Type}, (AV → Option Blk → Option ρ) → Option ρ := fun args mem _ K =>
  normK mem args [] fun as ls => match g as ls with
    | some (v, none) => K v none
    | some (v, some B) => (match v.move 0 mem.length with
      | some v' => K v' (some B)
      | none => none)
    | none => none

theorem Cont.at_closed {c : Cont} (h : c.plain = true) {o : Nat} {v : AV} (hv : c.at? o = some v) : v.closed = true := by
  cases c with
  | bytes l =>
    simp only [Cont.at?, Option.map_eq_some_iff] at hv
    obtain ⟨a, -, rfl⟩ := hv
    rfl
  | cells cs =>
    simp only [Cont.plain] at h
    simp only [Cont.at?] at hv
    have hm := List.mem_of_getElem? hv
    clear hv
    induction cs with
    | nil => cases hm
    | cons a l ih =>
      unfold AV.closed.all at h
      split at h
      · cases hm with
        | head => assumption
        | tail _ hm => exact ih h hm
      · cases h

/-- values with their lists that stand for something -/
def wfN (args : List AV) (ls : List (List Nat)) : Prop := ∃ σ w vs, NSt w σ ls ∧ RL σ args vs

theorem quietAt_of_runNL {X : Cx} (hX : CxOK P X) {L : Loops} {keep : List Nat} {f : FuncId} {fn : Func} {c : Code} (hf : P.funcs[f]? = some fn) (hb : fn.body = some c) (hn : (fn.name == "runtime.NumGoroutine") = false) (hL : LoopsOK P fn.ntmps L c)
    {g : List AV → List (List Nat) → Option (AV × Option Blk)} (h : ∀ args ls v, g args ls = some v → wfN args ls → ∃ fuel, runNL X L keep fuel fn c args ls = some v) : QuietAt P f (listy g) := by
  intro args mem ρ K r hg
  unfold listy at hg
  obtain ⟨as, ls, hg, hs⟩ := normK_sound args [] _ _ hg
  have key : ∀ (σ : Ren) (w : World) (real : Array Value), RL σ args real.toList → MemRel σ mem w → ∀ v nb, g as ls = some (v, nb) → (nb.isSome = true → σ mem.length = none) →
      (match nb with
      | none => CallTo P f real w (Leaves σ mem w v none)
      | some B => ∀ v', v.move 0 mem.length = some v' → CallTo P f real w (Leaves σ mem w v' (some B))) := by
    intro σ w real hr hm v nb hgv hnb
    obtain ⟨σ1, _, n1, r1⟩ := hs σ w real.toList (fun _ => none) hm hr (NSt.empty w)
    obtain ⟨fuel, hrun⟩ := h as ls (v, nb) hgv ⟨σ1, w, _, n1, r1⟩
    unfold runNL at hrun
    obtain ⟨v1, mem1, hk, hcall⟩ := runKL_sound hX hf hb hL hrun
    have hc := hcall w _ σ1 w real n1.fst r1
    split at hk
    · rename_i hcl
      simp only [Option.some.injEq, Prod.mk.injEq] at hk
      obtain ⟨rfl, rfl⟩ := hk
      refine callTo_of_calls hf hb hn (hc.mono fun e w' ⟨σ', rv, he, _, hv, hst⟩ => ⟨rv, he, ?_, hv.closed hcl⟩)
      exact Below.mk hst.1.os hst.1.tape hst.1.output hst.1.size (fun k hk => hst.1.old k hk (fun h => h))
    · split at hk
      · rename_i k len hkn
        split at hk
        · rename_i B hB
          rw [nth_eq] at hB
          obtain ⟨hc1, hk⟩ := bif_some hk
          simp only [Bool.and_eq_true] at hc1
          split at hk
          · rename_i v0 hv0
            simp only [Option.some.injEq, Prod.mk.injEq] at hk
            obtain ⟨rfl, rfl⟩ := hk
            intro v' hv'
            refine callTo_of_calls hf hb hn (hc.mono fun e w' ⟨σ', rv, he, _, hv, hst⟩ => ⟨rv, he, ?_, ?_⟩)
            · exact Below.mk hst.1.os hst.1.tape hst.1.output hst.1.size (fun k hk => hst.1.old k hk (fun h => h))
            · have hpos := (Nat.blt_eq ▸ hc1.2 : _ < _)
              obtain ⟨⟨b, δ, s⟩, hp⟩ := R.names hpos hv hkn
              have hbr := hst.1.blk _ _ _ _ _ hp hB
              refine ⟨b, δ, s, ?_, hst.1.dom _ _ _ _ hp, ?_, ?_⟩
              · rcases hst.1.wrs _ _ _ _ _ hp hB hc1.1.1 with h | h
                · exact h
                · cases h
              · have h1 := R.move (σ' := upd (fun _ => none) 0 (b, δ, s)) (fun p h => by rw [hp] at h; simpa [upd] using h) hv hv0
                exact R.move (fun p h => by simpa [upd] using h) h1 hv'
              · obtain ⟨C, e, lo, hi, g1, g2, g3, g4, g5⟩ := hbr.ex
                refine ⟨C, e, lo, hi, g1, g2, g3, fun o v hv => ?_, g5⟩
                obtain ⟨rv, g6, g7⟩ := g4 o v hv
                exact ⟨rv, g6, R.closed (Cont.at_closed hc1.1.2 hv) g7⟩
          · cases hk
        · cases hk
      · cases hk
  split at hg
  · rename_i v hv
    exact ⟨v, none, hg, fun σ w real hr hm _ => key σ w real hr hm v none hv (by simp)⟩
  · rename_i v B hv
    split at hg
    · rename_i v' hv'
      exact ⟨v', some B, hg, fun σ w real hr hm hn => key σ w real hr hm v (some B) hv hn v' hv'⟩
    · cases hg
  · cases hg

theorem quietAt_of_runN {X : Cx} (hX : CxOK P X) {keep : List Nat} {f : FuncId} {fn : Func} {c : Code} (hf : P.funcs[f]? = some fn) (hb : fn.body = some c) (hn : (fn.name == "runtime.NumGoroutine") = false)
    {g : List AV → List (List Nat) → Option (AV × Option Blk)} (h : ∀ args ls v, g args ls = some v → wfN args ls → ∃ fuel, runN X keep fuel fn c args ls = some v) : QuietAt P f (listy g) := quietAt_of_runNL hX hf hb hn LoopsOK.nil h
end Pw
