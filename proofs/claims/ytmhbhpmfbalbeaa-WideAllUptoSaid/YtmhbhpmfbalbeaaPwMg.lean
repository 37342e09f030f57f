/- A part of the proof, for all claims alike: PwEvV, PwEvW, PwEvX, PwEvY, PwSha, PwPad, PwShaEq, PwRowA. -/
import Derived.Test.YtmhbhpmfbalbeaaPwMc
import Derived.Test.YtmhbhpmfbalbeaaPwMd
namespace Pw
open Go Go.RowKit

variable {P : Program} {T : List (Nat × TE)} {ρ : Type}

/-! ### the same memory in other words -/

def BlkEq (B B' : Blk) : Prop := B.wr = B'.wr ∧ B.c.size = B'.c.size ∧ ∀ o, B.c.at? o = B'.c.at? o
def MemEq (m m' : Mem) : Prop := m.length = m'.length ∧ ∀ (i : Nat) (B B' : Blk), m[i]? = some B → m'[i]? = some B' → BlkEq B B'

theorem BlkEq.refl (B : Blk) : BlkEq B B := ⟨rfl, rfl, fun _ => rfl⟩
theorem BlkEq.symm {B B' : Blk} (h : BlkEq B B') : BlkEq B' B := ⟨h.1.symm, h.2.1.symm, fun o => (h.2.2 o).symm⟩
theorem MemEq.refl (m : Mem) : MemEq m m := ⟨rfl, fun i B B' h h' => by rw [h] at h'; cases h'; exact .refl _⟩
theorem MemEq.of_eq {m m' : Mem} (h : m = m') : MemEq m m' := h ▸ .refl m
theorem MemEq.symm {m m' : Mem} (h : MemEq m m') : MemEq m' m := ⟨h.1.symm, fun i B B' hB hB' => (h.2 i B' B hB' hB).symm⟩
theorem MemEq.nil : MemEq [] [] := .refl _
theorem MemEq.cons {B B' : Blk} {m m' : Mem} (h : BlkEq B B') (hm : MemEq m m') : MemEq (B :: m) (B' :: m') := by
  refine ⟨by simp [hm.1], fun i X X' h1 h2 => ?_⟩
  cases i with
  | zero => cases h1; cases h2; exact h
  | succ i => exact hm.2 i X X' (by simpa using h1) (by simpa using h2)

theorem BlkRel.eqv {σ : Ren} {B B' : Blk} {b δ s : Nat} {w : World} (h : BlkRel σ B b δ s w) (e : BlkEq B B') : BlkRel σ B' b δ s w := by
  obtain ⟨C, e1, lo, hi, g1, g2, g3, g4, g5⟩ := h.ex
  obtain ⟨e2, e3, e4⟩ := e
  exact ⟨C, e1, lo, hi, g1, g2, by omega, fun o v hv => g4 o v (by rw [e4]; exact hv), fun hw => g5 (by rw [e2]; exact hw)⟩

theorem FSt.eqv {W : World} {Wr : Nat → Prop} {σ : Ren} {mem mem' : Mem} {w : World} (h : FSt W Wr σ mem w) (e : MemEq mem mem') : FSt W Wr σ mem' w := by
  have hget : ∀ (i : Nat) (B' : Blk), mem'[i]? = some B' → ∃ B : Blk, mem[i]? = some B ∧ BlkEq B B' := by
    intro i B' hB'
    have hlt : i < mem'.length := (List.getElem?_eq_some_iff.1 hB').1
    have hlt' : i < mem.length := by rw [e.1]; exact hlt
    exact ⟨mem[i], List.getElem?_eq_getElem hlt', e.2 _ _ _ (List.getElem?_eq_getElem hlt') hB'⟩
  refine ⟨⟨h.1.os, h.1.tape, h.1.output, h.1.size, h.1.old, h.1.dom, ?_, ?_, ?_⟩, fun i p hi => by rw [← e.1]; exact h.2 i p hi⟩
  · intro i b δ s B' hi hB'
    obtain ⟨B, hB, he⟩ := hget _ _ hB'
    exact (h.1.blk _ _ _ _ _ hi hB).eqv he
  · intro i b δ s B' hi hB' hw
    obtain ⟨B, hB, he⟩ := hget _ _ hB'
    exact h.1.wrs _ _ _ _ _ hi hB (by rw [he.1]; exact hw)
  · intro i j bi δi si bj δj sj Bi Bj hi hj hij hBi hBj hw hz
    obtain ⟨B1, hB1, e1⟩ := hget _ _ hBi
    obtain ⟨B2, hB2, e2⟩ := hget _ _ hBj
    exact h.1.inj _ _ _ _ _ _ _ _ _ _ hi hj hij hB1 hB2 (by rw [e1.1]; exact hw) (by rw [e2.1, e2.2.1]; exact hz)

/-! ### arrays of whole numbers, by lists -/

def arrS (k : IntKind) (n : Nat) (l : List Nat) : List AV := (List.range n).map fun i => .u k (l.getD i 0)
def arrV (k : IntKind) (n : Nat) (l : List Nat) : AV := .agg (arrS k n l)

def toInts (k : IntKind) : List AV → Option (List Nat)
  | [] => some []
  | .u k' n :: l => bif decide (k' = k) then (match toInts k l with
    | some r => some (n :: r)
    | none => none) else none
  | _ => none

theorem toInts_eq {k : IntKind} : ∀ {cs : List AV} {l : List Nat}, toInts k cs = some l → cs = l.map (AV.u k)
  | [], l, h => by simp only [toInts, Option.some.injEq] at h; subst h; rfl
  | a :: cs, l, h => by
    unfold toInts at h
    split at h
    · rename_i h'; cases h'
    · rename_i k' n l' h'
      cases h'
      obtain ⟨hk, h⟩ := bif_some h
      have hk := of_decide_eq_true hk
      subst hk
      split at h
      · rename_i r hr
        simp only [Option.some.injEq] at h
        subst h
        rw [toInts_eq hr]; rfl
      · cases h
    · cases h

theorem range_getD : ∀ (l : List Nat), (List.range l.length).map (fun i => l.getD i 0) = l := by
  intro l
  refine List.ext_getElem? fun i => ?_
  rw [List.getElem?_map]
  by_cases h : i < l.length
  · rw [List.getElem?_range h, List.getElem?_eq_getElem h]
    simp [List.getD_eq_getElem?_getD, List.getElem?_eq_getElem h]
  · rw [List.getElem?_eq_none (by simpa using h), List.getElem?_eq_none (by omega)]; rfl

theorem arrS_eq (k : IntKind) {n : Nat} {l : List Nat} (h : l.length = n) : arrS k n l = l.map (AV.u k) := by
  subst h
  unfold arrS
  rw [show (fun i => AV.u k (l.getD i 0)) = (AV.u k) ∘ (fun i => l.getD i 0) from rfl, ← List.map_map, range_getD]

/-- the list of an array of n whole numbers -/
def arr? (k : IntKind) (n : Nat) : AV → Option (List Nat)
  | .agg cs => match toInts k cs with
    | some l => bif Nat.beq l.length n then some l else none
    | none => none
  | _ => none

theorem arr?_some {k : IntKind} {n : Nat} {v : AV} {l : List Nat} (h : arr? k n v = some l) : v = arrV k n l ∧ l.length = n := by
  unfold arr? at h
  split at h
  · split at h
    · rename_i l' hl
      obtain ⟨hc, h⟩ := bif_some h
      have hc := Nat.eq_of_beq_eq_true hc
      cases h
      rw [toInts_eq hl, arrV, arrS_eq k hc]
      exact ⟨rfl, hc⟩
    · cases h
  · cases h

theorem blkEq_arrS {k : IntKind} {n : Nat} {l : List Nat} (h : l.length = n) (wr : Bool) : BlkEq ⟨.ints k l, wr⟩ ⟨.cells (arrS k n l), wr⟩ := by
  refine ⟨rfl, by rw [arrS_eq k h]; simp [Cont.size], fun o => ?_⟩
  rw [arrS_eq k h]; simp [Cont.at?]
theorem blkEq_bytes {n : Nat} {l : List Nat} (h : l.length = n) (wr : Bool) : BlkEq ⟨.bytes l, wr⟩ ⟨.cells (arrS .u8 n l), wr⟩ := by
  refine ⟨rfl, by rw [arrS_eq _ h]; simp [Cont.size], fun o => ?_⟩
  rw [arrS_eq _ h]; simp [Cont.at?]

/-- the numbers of a block, in whatever words it is told -/
def blkInts (k : IntKind) : Blk → Option (List Nat)
  | ⟨.cells cs, _⟩ => toInts k cs
  | ⟨.ints k' l, _⟩ => bif decide (k' = k) then some l else none
  | ⟨.bytes l, _⟩ => bif decide (k = .u8) then some l else none
  | ⟨.win _ _, _⟩ => none
theorem blkInts_some {k : IntKind} {B : Blk} {l : List Nat} (h : blkInts k B = some l) : BlkEq B ⟨.ints k l, B.wr⟩ := by
  unfold blkInts at h
  split at h
  · rw [toInts_eq h]
    exact ⟨rfl, by simp [Cont.size], fun o => by simp [Cont.at?]⟩
  · obtain ⟨hc, h⟩ := bif_some h
    cases h
    have hc := of_decide_eq_true hc
    subst hc
    exact .refl _
  · obtain ⟨hc, h⟩ := bif_some h
    cases h
    have hc := of_decide_eq_true hc
    subst hc
    exact ⟨rfl, rfl, fun o => rfl⟩
  · cases h
/-- and as a list of bytes -/
def blkBytes : Blk → Option (List Nat)
  | ⟨.cells cs, _⟩ => toInts .u8 cs
  | ⟨.ints k' l, _⟩ => bif decide (k' = .u8) then some l else none
  | ⟨.bytes l, _⟩ => some l
  | ⟨.win _ _, _⟩ => none
theorem blkBytes_some {B : Blk} {l : List Nat} (h : blkBytes B = some l) : BlkEq B ⟨.bytes l, B.wr⟩ := by
  unfold blkBytes at h
  split at h
  · rw [toInts_eq h]
    exact ⟨rfl, by simp [Cont.size], fun o => by simp [Cont.at?]⟩
  · obtain ⟨hc, h⟩ := bif_some h
    cases h
    have hc := of_decide_eq_true hc
    subst hc
    exact ⟨rfl, rfl, fun o => rfl⟩
  · cases h
    exact .refl _
  · cases h

/-! ### loops whose memory is told in other words inside -/

theorem loopAt_of_steps2 {X : Cx} (hX : CxOK P X) {L : Loops} {nt : Nat} {keep : List Nat} {body : Code} {g : LoopFn} (hL : LoopsOK P nt L body)
    (h : ∀ (env : Env) (mem : Mem) (ρ : Type) (K : Ex → Env → Mem → Option ρ) (r : ρ), g env mem K = some r →
      ∃ (ts : List Nat) (N : Nat) (E : Nat → Env) (M : Nat → Mem) (e : Ex) (E' : Env) (M' M2 : Mem), prune env ts = E 0 ∧ MemEq mem (M 0) ∧ e ≠ .normal ∧ MemEq M' M2 ∧ K e E' M2 = some r ∧
        (∀ i, i < N → ∃ fuel ts, codeK X L nt keep fuel body (E i) (M i) (outK ts) = some (.normal, E (i + 1), M (i + 1))) ∧
        ∃ fuel ts, codeK X L nt keep fuel body (E N) (M N) (outK ts) = some (e, E', M')) : LoopAt P nt body g := by
  intro env mem ρ K r hg
  obtain ⟨ts, N, E, M, e, E', M', M2, h1, h2, h3, h2', h4, h5, fuel, ts', h6⟩ := h env mem ρ K r hg
  have key := rounds_of_steps (P := P) (nt := nt) h3 (fun i hi => by obtain ⟨f, t, ht⟩ := h5 i hi; exact goes_of_out hX hL ht) (goes_of_out hX hL h6) N 0 (by omega)
  refine ⟨e, E', M2, h4, N + 1, fun W Wr σ a w Q hf hq => key W Wr σ a w Q ⟨?_, ?_⟩ fun σ' a' w' he hf' hd => hq σ' a' w' he ⟨hf'.st.eqv h2', hf'.env⟩ hd⟩
  · exact hf.st.eqv h2
  · rw [← h1]; exact hf.env.prune ts

structure LoopDef2 (S : Type) where
  ts : List Nat
  E : S → Env
  M : S → Mem
  Mo : S → Mem
  dec : List AV → Mem → Option S
  ok : ∀ vs mem s, dec vs mem = some s → zipE ts vs = E s ∧ MemEq mem (M s)

def LoopDef2.fn {S : Type} (d : LoopDef2 S) (guard : S → Bool) (ex : Ex) (fin : S → S) : LoopFn := fun env mem _ K => match d.dec (live d.ts env) mem with
  | some s => bif guard s then K ex (d.E (fin s)) (d.Mo (fin s)) else none
  | none => none

theorem LoopDef2.loop {S : Type} (d : LoopDef2 S) {guard : S → Bool} {ex : Ex} {fin : S → S} {X : Cx} (hX : CxOK P X) {L : Loops} {nt : Nat} {keep : List Nat} {body : Code} (hL : LoopsOK P nt L body) (hne : ex ≠ .normal)
    (h : ∀ s, guard s = true → ∃ (N : Nat) (at_ : Nat → S), at_ 0 = s ∧ MemEq (d.M (fin s)) (d.Mo (fin s)) ∧
      (∀ i, i < N → ∃ fuel, codeK X L nt keep fuel body (d.E (at_ i)) (d.M (at_ i)) (outK d.ts) = some (.normal, d.E (at_ (i + 1)), d.M (at_ (i + 1)))) ∧
      ∃ fuel, codeK X L nt keep fuel body (d.E (at_ N)) (d.M (at_ N)) (outK d.ts) = some (ex, d.E (fin s), d.M (fin s))) : LoopAt P nt body (d.fn guard ex fin) := by
  refine loopAt_of_steps2 (keep := keep) hX hL fun env mem ρ K r hg => ?_
  unfold LoopDef2.fn at hg
  split at hg
  · rename_i s hs
    obtain ⟨hgd, hg⟩ := bif_some hg
    obtain ⟨h1, h2⟩ := d.ok _ _ _ hs
    obtain ⟨N, at_, e0, hM, h3, fuel, h4⟩ := h s hgd
    refine ⟨d.ts, N, fun i => d.E (at_ i), fun i => d.M (at_ i), ex, _, _, _, ?_, ?_, hne, hM, hg, fun i hi => ?_, fuel, d.ts, h4⟩
    · show _ = d.E (at_ 0)
      rw [prune_live, h1, e0]
    · show MemEq mem (d.M (at_ 0))
      rw [e0]; exact h2
    · obtain ⟨f, hf⟩ := h3 i hi
      exact ⟨f, d.ts, hf⟩
  · cases hg

/-! ### other numbers for the blocks -/

def AV.ren (f : Nat → Option Nat) (z : Option Nat) : AV → Option AV
  | .ptr id off => match f id with | some j => some (.ptr j off) | none => none
  | .slice id off len ap => match f id with | some j => some (.slice j off len ap) | none => none
  | .agg cs => match rn cs with | some l => some (.agg l) | none => none
  | .tup cs => match rn cs with | some l => some (.tup l) | none => none
  | .nils => match z with | some j => some (.slice j 0 0 true) | none => some .nils
  | v => match v.closed with | true => some v | false => none
where rn : List AV → Option (List AV)
  | [] => some []
  | a :: l => match a.ren f z with
    | some a' => (match rn l with | some l' => some (a' :: l') | none => none)
    | none => none

mutual
theorem R.ren {σ σ' : Ren} {f : Nat → Option Nat} {z : Option Nat} (hσ : ∀ i j p, f i = some j → σ i = some p → σ' j = some p) : {a a' : AV} → {v : Value} → R σ a v → a.ren f z = some a' → R σ' a' v
  | _, _, _, .slice id off len ap cap b δ s e l c d, h => by
    unfold AV.ren at h
    split at h
    · rename_i j hj
      cases h
      exact .slice _ off len ap cap b δ s (hσ _ _ _ hj e) l c d
    · cases h
  | _, _, _, .slic0 id off ap a, h => by
    unfold AV.ren at h
    split at h
    · cases h; exact .slic0 _ off ap a
    · cases h
  | _, _, _, .ptr id off b δ s e, h => by
    unfold AV.ren at h
    split at h
    · rename_i j hj
      cases h
      exact .ptr _ off b δ s (hσ _ _ _ hj e)
    · cases h
  | _, _, _, .agg cs arr l, h => by
    unfold AV.ren at h
    split at h
    · rename_i l' hl
      simp only [Option.some.injEq] at h
      subst h
      exact .agg _ _ (RL.ren hσ l hl)
    · cases h
  | _, _, _, .tup cs arr l, h => by
    unfold AV.ren at h
    split at h
    · rename_i l' hl
      simp only [Option.some.injEq] at h
      subst h
      exact .tup _ _ (RL.ren hσ l hl)
    · cases h
  | _, _, _, .nils, h => by
    unfold AV.ren at h
    split at h
    · cases h; exact .slic0 _ 0 true none
    · cases h; exact .nils
  | _, _, _, .emp a, h => by simp [AV.ren, AV.closed] at h; subst h; exact .emp a
  | _, _, _, .bool b, h => by simp [AV.ren, AV.closed] at h; subst h; exact .bool b
  | _, _, _, .u q m x y, h => by simp [AV.ren, AV.closed] at h; subst h; exact .u q m x y
  | _, _, _, .n i x y, h => by simp [AV.ren, AV.closed] at h; subst h; exact .n i x y
  | _, _, _, .str s, h => by simp [AV.ren, AV.closed] at h; subst h; exact .str s
  | _, _, _, .nilp, h => by simp [AV.ren, AV.closed] at h; subst h; exact .nilp
  | _, _, _, .fn .., h => by simp [AV.ren, AV.closed] at h
  | _, _, _, .unk _, h => by simp [AV.ren, AV.closed] at h
theorem RL.ren {σ σ' : Ren} {f : Nat → Option Nat} {z : Option Nat} (hσ : ∀ i j p, f i = some j → σ i = some p → σ' j = some p) : {l l' : List AV} → {m : List Value} → RL σ l m → AV.ren.rn f z l = some l' → RL σ' l' m
  | _, _, _, .nil, h => by simp [AV.ren.rn] at h; subst h; exact .nil
  | _, _, _, .cons a v l m x y, h => by
    unfold AV.ren.rn at h
    split at h
    · rename_i a' ha
      split at h
      · rename_i l' hl
        simp only [Option.some.injEq] at h
        subst h
        exact .cons _ _ _ _ (R.ren hσ x ha) (RL.ren hσ y hl)
      · cases h
    · cases h
end

theorem rn_length {f : Nat → Option Nat} {z : Option Nat} : ∀ {l l' : List AV}, AV.ren.rn f z l = some l' → l'.length = l.length
  | [], l', h => by simp [AV.ren.rn] at h; subst h; rfl
  | a :: l, l', h => by
    unfold AV.ren.rn at h
    split at h
    · split at h
      · rename_i l2 hl
        simp only [Option.some.injEq] at h
        subst h
        simp [rn_length hl]
      · cases h
    · cases h
theorem rn_get {f : Nat → Option Nat} {z : Option Nat} : ∀ {l l' : List AV} {o : Nat} {v' : AV}, AV.ren.rn f z l = some l' → l'[o]? = some v' → ∃ v, l[o]? = some v ∧ v.ren f z = some v'
  | [], l', o, v', h, hv => by simp [AV.ren.rn] at h; subst h; simp at hv
  | a :: l, l', o, v', h, hv => by
    unfold AV.ren.rn at h
    split at h
    · rename_i a' ha
      split at h
      · rename_i l2 hl
        simp only [Option.some.injEq] at h
        subst h
        cases o with
        | zero => simp at hv; subst hv; exact ⟨a, rfl, ha⟩
        | succ o => simpa using rn_get hl (by simpa using hv)
      · cases h
    · cases h

def Cont.ren (f : Nat → Option Nat) (z : Option Nat) : Cont → Option Cont
  | .cells cs => match AV.ren.rn f z cs with | some cs' => some (.cells cs') | none => none
  | .win p cs => match AV.ren.rn f z cs with | some cs' => some (.win p cs') | none => none
  | c => some c
def Blk.ren (f : Nat → Option Nat) (z : Option Nat) (B : Blk) : Option Blk := match B.c.ren f z with | some c => some ⟨c, B.wr⟩ | none => none

theorem BlkRel.ren {σ σ' : Ren} {f : Nat → Option Nat} {z : Option Nat} (hσ : ∀ i j p, f i = some j → σ i = some p → σ' j = some p) {B B' : Blk} {b δ s : Nat} {w : World} (h : BlkRel σ B b δ s w) (hr : B.ren f z = some B') :
    BlkRel σ' B' b δ s w ∧ B'.wr = B.wr ∧ B'.c.size = B.c.size := by
  unfold Blk.ren at hr
  split at hr
  · rename_i c hc
    cases hr
    obtain ⟨C, e, lo, hi, g1, g2, g3, g4, g5⟩ := h.ex
    unfold Cont.ren at hc
    split at hc
    · rename_i cs hcs
      rw [hcs] at g3 g4
      split at hc
      · rename_i cs' hl
        cases hc
        have hlen := rn_length hl
        refine ⟨⟨C, e, lo, hi, g1, g2, by simp only [Cont.size] at g3 ⊢; omega, fun o v hv => ?_, g5⟩, rfl, by rw [hcs]; simp [Cont.size, hlen]⟩
        obtain ⟨v0, h1, h2⟩ := rn_get hl hv
        obtain ⟨rv, h3, h4⟩ := g4 o v0 h1
        exact ⟨rv, h3, h4.ren hσ h2⟩
      · cases hc
    · rename_i p cs hcs
      rw [hcs] at g3 g4
      split at hc
      · rename_i cs' hl
        cases hc
        have hlen := rn_length hl
        refine ⟨⟨C, e, lo, hi, g1, g2, by simp only [Cont.size] at g3 ⊢; omega, fun o v hv => ?_, g5⟩, rfl, by rw [hcs]; simp [Cont.size, hlen]⟩
        simp only [Cont.at?] at hv
        split at hv
        · rename_i ho
          cases hv
          obtain ⟨rv, h3, h4⟩ := g4 o .unk (by simp only [Cont.at?]; rw [if_pos ho])
          exact ⟨rv, h3, .unk _⟩
        · rename_i ho
          obtain ⟨v0, h1, h2⟩ := rn_get hl hv
          obtain ⟨rv, h3, h4⟩ := g4 o v0 (by simp only [Cont.at?]; rw [if_neg ho]; exact h1)
          exact ⟨rv, h3, h4.ren hσ h2⟩
      · cases hc
    · rename_i hne hne2
      cases hc
      refine ⟨⟨C, e, lo, hi, g1, g2, g3, fun o v hv => ?_, g5⟩, rfl, rfl⟩
      obtain ⟨rv, h3, h4⟩ := g4 o v hv
      refine ⟨rv, h3, R.closed ?_ h4⟩
      generalize B.c = c0 at hv hne hne2
      cases c0 with
      | cells cs => exact absurd rfl (hne cs)
      | win p cs => exact absurd rfl (hne2 p cs)
      | bytes l => simp only [Cont.at?, Option.map_eq_some_iff] at hv; obtain ⟨_, _, rfl⟩ := hv; rfl
      | ints k l => simp only [Cont.at?, Option.map_eq_some_iff] at hv; obtain ⟨_, _, rfl⟩ := hv; rfl
  · cases hr

end Pw

namespace Pw
open Go Go.RowKit

variable {P : Program} {T : List (Nat × TE)} {ρ : Type}

/-! ### a call in a memory of its own, and back -/

/-- where a block stands in a list of places -/
def idxOf : List (Option Nat) → Nat → Option Nat
  | [], _ => none
  | some i :: l, k => bif Nat.beq i k then some 0 else (match idxOf l k with | some j => some (j + 1) | none => none)
  | none :: l, k => match idxOf l k with | some j => some (j + 1) | none => none
theorem idxOf_some : ∀ {l : List (Option Nat)} {k j : Nat}, idxOf l k = some j → l[j]? = some (some k)
  | [], k, j, h => by simp [idxOf] at h
  | some i :: l, k, j, h => by
    unfold idxOf at h
    rcases bif_both h with ⟨hc, h1⟩ | ⟨hc, h1⟩
    · have := Nat.eq_of_beq_eq_true hc
      clear h
      subst this
      have h1 := Option.some.inj h1
      subst h1; rfl
    · clear h
      have h := h1
      clear h1
      split at h
      · rename_i j' hj
        cases h
        simpa using idxOf_some hj
      · cases h
  | none :: l, k, j, h => by
    unfold idxOf at h
    split at h
    · rename_i j' hj
      cases h
      simpa using idxOf_some hj
    · cases h
theorem idxOf_of : ∀ {l : List (Option Nat)} {k j : Nat}, l[j]? = some (some k) → ∃ j', idxOf l k = some j'
  | [], k, j, h => by simp at h
  | some i :: l, k, 0, h => by
    simp at h; subst h
    exact ⟨0, by simp [idxOf, Nat.beq_refl]⟩
  | some i :: l, k, j + 1, h => by
    obtain ⟨j', hj⟩ := idxOf_of (l := l) (k := k) (j := j) (by simpa using h)
    unfold idxOf
    rw [hj]
    cases Nat.beq i k
    · exact ⟨_, rfl⟩
    · exact ⟨_, rfl⟩
  | none :: l, k, 0, h => by simp at h
  | none :: l, k, j + 1, h => by
    obtain ⟨j', hj⟩ := idxOf_of (l := l) (k := k) (j := j) (by simpa using h)
    exact ⟨_, by simp [idxOf, hj]; rfl⟩

def distinct : List (Option Nat) → Bool
  | [] => true
  | some i :: l => match idxOf l i with
    | none => distinct l
    | some _ => false
  | none :: l => distinct l
theorem distinct_spec : ∀ {l : List (Option Nat)}, distinct l = true → ∀ {a b k : Nat}, l[a]? = some (some k) → l[b]? = some (some k) → a = b
  | [], _, a, b, k, ha, _ => by simp at ha
  | none :: l, h, a, b, k, ha, hb => by
    cases a with
    | zero => simp at ha
    | succ a =>
      cases b with
      | zero => simp at hb
      | succ b => exact congrArg (· + 1) (distinct_spec (l := l) h (k := k) (by simpa using ha) (by simpa using hb))
  | some i :: l, h, a, b, k, ha, hb => by
    unfold distinct at h
    split at h
    · rename_i hn
      cases a with
      | zero =>
        simp at ha; subst ha
        cases b with
        | zero => rfl
        | succ b =>
          obtain ⟨j, hj⟩ := idxOf_of (l := l) (k := i) (j := b) (by simpa using hb)
          rw [hn] at hj; cases hj
      | succ a =>
        cases b with
        | zero =>
          simp at hb; subst hb
          obtain ⟨j, hj⟩ := idxOf_of (l := l) (k := i) (j := a) (by simpa using ha)
          rw [hn] at hj; cases hj
        | succ b => exact congrArg (· + 1) (distinct_spec (l := l) h (k := k) (by simpa using ha) (by simpa using hb))
    · cases h

def smallM (f : Nat → Option Nat) (z : Option Nat) (mem : Mem) : List (Option Nat) → Option Mem
  | [] => some []
  | some i :: r => match nth mem i with
    | some B => (match B.ren f z with
      | some B' => (match smallM f z mem r with | some m => some (B' :: m) | none => none)
      | none => none)
    | none => none
  | none :: r => match smallM f z mem r with | some m => some (⟨.bytes [], true⟩ :: m) | none => none
theorem smallM_spec {f : Nat → Option Nat} {z : Option Nat} {mem : Mem} : ∀ {l : List (Option Nat)} {m : Mem}, smallM f z mem l = some m →
    m.length = l.length ∧ ∀ (j i : Nat), l[j]? = some (some i) → ∃ B B', mem[i]? = some B ∧ B.ren f z = some B' ∧ m[j]? = some B'
  | [], m, h => by simp [smallM] at h; subst h; exact ⟨rfl, fun j i h => by simp at h⟩
  | some k :: r, m, h => by
    unfold smallM at h
    split at h
    · rename_i B hB
      split at h
      · rename_i B' hB'
        split at h
        · rename_i m' hm
          cases h
          obtain ⟨h1, h2⟩ := smallM_spec hm
          refine ⟨by simp [h1], fun j i hj => ?_⟩
          cases j with
          | zero =>
            simp at hj; subst hj
            exact ⟨B, B', by rw [← nth_eq]; exact hB, hB', rfl⟩
          | succ j =>
            obtain ⟨B1, B2, q1, q2, q3⟩ := h2 j i (by simpa using hj)
            exact ⟨B1, B2, q1, q2, by simpa using q3⟩
        · cases h
      · cases h
    · cases h
  | none :: r, m, h => by
    unfold smallM at h
    split at h
    · rename_i m' hm
      cases h
      obtain ⟨h1, h2⟩ := smallM_spec hm
      refine ⟨by simp [h1], fun j i hj => ?_⟩
      cases j with
      | zero => simp at hj
      | succ j =>
        obtain ⟨B1, B2, q1, q2, q3⟩ := h2 j i (by simpa using hj)
        exact ⟨B1, B2, q1, q2, by simpa using q3⟩
    · cases h

def okBlk (B : Blk) : Bool := match B.c with
  | .cells [] => true
  | _ => B.wr
theorem okBlk_spec {B : Blk} (h : okBlk B = true) : B.wr = true ∨ B.c.size = 0 := by
  unfold okBlk at h
  split at h
  · rename_i hc; right; rw [hc]; rfl
  · exact .inl h

def backF (l : List (Option Nat)) (m0 : Mem) (N j : Nat) : Option Nat := match nth l j with
  | some (some i) => (match nth m0 j with
    | some B => bif B.wr then some i else none
    | none => none)
  | some none => none
  | none => some (N + (j - l.length))

def newBlks (f : Nat → Option Nat) : Mem → Option Mem
  | [] => some []
  | B :: m => bif okBlk B then (match B.ren f none with
    | some B' => (match newBlks f m with | some m' => some (B' :: m') | none => none)
    | none => none) else none
theorem newBlks_spec {f : Nat → Option Nat} : ∀ {m e : Mem}, newBlks f m = some e → e.length = m.length ∧ ∀ (t : Nat) (B' : Blk), e[t]? = some B' → ∃ B1 : Blk, m[t]? = some B1 ∧ B1.ren f none = some B' ∧ okBlk B1 = true
  | [], e, h => by simp [newBlks] at h; subst h; exact ⟨rfl, fun t B' h => by simp at h⟩
  | B :: m, e, h => by
    unfold newBlks at h
    obtain ⟨hok, h⟩ := bif_some h
    split at h
    · rename_i B' hB'
      split at h
      · rename_i m' hm
        cases h
        obtain ⟨h1, h2⟩ := newBlks_spec hm
        refine ⟨by simp [h1], fun t X hX => ?_⟩
        cases t with
        | zero => simp at hX; subst hX; exact ⟨B, rfl, hB', hok⟩
        | succ t =>
          obtain ⟨B1, q1, q2, q3⟩ := h2 t X (by simpa using hX)
          exact ⟨B1, by simpa using q1, q2, q3⟩
      · cases h
    · cases h

def putBack (f : Nat → Option Nat) : List (Option Nat) → Mem → Mem → Mem → Option Mem
  | [], _, m1, mem => (match newBlks f m1 with | some e => some (mem ++ e) | none => none)
  | some i :: l, B0 :: m0, B1 :: m1, mem => bif B0.wr then (bif okBlk B1 then (match B1.ren f none with
      | some B' => putBack f l m0 m1 (setNth mem i B')
      | none => none) else none) else putBack f l m0 m1 mem
  | none :: l, _ :: m0, _ :: m1, mem => putBack f l m0 m1 mem
  | _, _, _, _ => none

theorem putBack_spec {f : Nat → Option Nat} : ∀ {l : List (Option Nat)} {m0 m1 mem mem' : Mem}, putBack f l m0 m1 mem = some mem' →
    mem'.length + l.length = mem.length + m1.length ∧ l.length ≤ m1.length ∧ ∀ (i : Nat) (B' : Blk), mem'[i]? = some B' →
      (mem[i]? = some B' ∧ ∀ (j : Nat) (B0 : Blk), l[j]? = some (some i) → m0[j]? = some B0 → B0.wr = false) ∨
      (∃ (j : Nat) (B0 B1 : Blk), l[j]? = some (some i) ∧ m0[j]? = some B0 ∧ B0.wr = true ∧ m1[j]? = some B1 ∧ B1.ren f none = some B' ∧ okBlk B1 = true) ∨
      (∃ (t : Nat) (B1 : Blk), i = mem.length + t ∧ m1[l.length + t]? = some B1 ∧ B1.ren f none = some B' ∧ okBlk B1 = true)
  | [], m0, m1, mem, mem', h => by
    unfold putBack at h
    split at h
    · rename_i e he
      cases h
      obtain ⟨h1, h2⟩ := newBlks_spec he
      refine ⟨by simp [h1], by simp, fun i B' hi => ?_⟩
      by_cases hlt : i < mem.length
      · rw [List.getElem?_append_left hlt] at hi
        exact .inl ⟨hi, fun j B0 hj => by simp at hj⟩
      · rw [List.getElem?_append_right (by omega)] at hi
        obtain ⟨B1, q1, q2, q3⟩ := h2 _ _ hi
        exact .inr (.inr ⟨i - mem.length, B1, by omega, by simpa using q1, q2, q3⟩)
    · cases h
  | some k :: l, [], m1, mem, mem', h => by simp [putBack] at h
  | some k :: l, _ :: _, [], mem, mem', h => by simp [putBack] at h
  | none :: l, [], m1, mem, mem', h => by simp [putBack] at h
  | none :: l, _ :: _, [], mem, mem', h => by simp [putBack] at h
  | none :: l, B0 :: m0, B1 :: m1, mem, mem', h => by
    unfold putBack at h
    obtain ⟨h1, h2, h3⟩ := putBack_spec h
    refine ⟨by simp only [List.length_cons]; omega, by simp only [List.length_cons]; omega, fun i B' hi => ?_⟩
    rcases h3 i B' hi with ⟨a1, a2⟩ | ⟨j, X0, X1, a1, a2, a3, a4, a5, a6⟩ | ⟨t, X1, a1, a2, a3, a4⟩
    · refine .inl ⟨a1, fun j X0 hj hX => ?_⟩
      cases j with
      | zero => simp at hj
      | succ j => exact a2 j X0 (by simpa using hj) (by simpa using hX)
    · exact .inr (.inl ⟨j + 1, X0, X1, by simpa using a1, by simpa using a2, a3, by simpa using a4, a5, a6⟩)
    · exact .inr (.inr ⟨t, X1, a1, by rw [List.length_cons, show l.length + 1 + t = (l.length + t) + 1 by omega]; simpa using a2, a3, a4⟩)
  | some k :: l, B0 :: m0, B1 :: m1, mem, mem', h => by
    unfold putBack at h
    rcases bif_both h with ⟨hw, h⟩ | ⟨hw, h⟩
    · obtain ⟨hok, h⟩ := bif_some h
      split at h
      · rename_i Bk hBk
        obtain ⟨h1, h2, h3⟩ := putBack_spec h
        rw [setNth_eq] at h1 h3
        rw [List.length_set] at h1
        refine ⟨by simp only [List.length_cons]; omega, by simp only [List.length_cons]; omega, fun i B' hi => ?_⟩
        rcases h3 i B' hi with ⟨a1, a2⟩ | ⟨j, X0, X1, a1, a2, a3, a4, a5, a6⟩ | ⟨t, X1, a1, a2, a3, a4⟩
        · by_cases e : k = i
          · subst e
            have hlt : k < mem.length := by have := (List.getElem?_eq_some_iff.1 a1).1; simpa using this
            rw [List.getElem?_set_self hlt] at a1
            cases a1
            exact .inr (.inl ⟨0, B0, B1, rfl, rfl, hw, rfl, hBk, hok⟩)
          · rw [List.getElem?_set_ne e] at a1
            refine .inl ⟨a1, fun j X0 hj hX => ?_⟩
            cases j with
            | zero => simp at hj; exact absurd hj e
            | succ j => exact a2 j X0 (by simpa using hj) (by simpa using hX)
        · exact .inr (.inl ⟨j + 1, X0, X1, by simpa using a1, by simpa using a2, a3, by simpa using a4, a5, a6⟩)
        · rw [List.length_set] at a1
          exact .inr (.inr ⟨t, X1, a1, by rw [List.length_cons, show l.length + 1 + t = (l.length + t) + 1 by omega]; simpa using a2, a3, a4⟩)
      · cases h
    · obtain ⟨h1, h2, h3⟩ := putBack_spec h
      refine ⟨by simp only [List.length_cons]; omega, by simp only [List.length_cons]; omega, fun i B' hi => ?_⟩
      rcases h3 i B' hi with ⟨a1, a2⟩ | ⟨j, X0, X1, a1, a2, a3, a4, a5, a6⟩ | ⟨t, X1, a1, a2, a3, a4⟩
      · refine .inl ⟨a1, fun j X0 hj hX => ?_⟩
        cases j with
        | zero => simp at hX; subst hX; exact hw
        | succ j => exact a2 j X0 (by simpa using hj) (by simpa using hX)
      · exact .inr (.inl ⟨j + 1, X0, X1, by simpa using a1, by simpa using a2, a3, by simpa using a4, a5, a6⟩)
      · exact .inr (.inr ⟨t, X1, a1, by rw [List.length_cons, show l.length + 1 + t = (l.length + t) + 1 by omega]; simpa using a2, a3, a4⟩)

abbrev LoudFn := List AV → Mem → ∀ {ρ : Type}, (AV → Mem → Option ρ) → Option ρ

/-- a call that sees just some blocks -/
def frame (sel : List AV → Mem → Option (List (Option Nat) × Nat × Nat)) (g : LoudFn) : LoudFn := fun args mem _ K =>
  match sel args mem with
  | none => none
  | some (l, za, zc) => bif distinct l then (match AV.ren.rn (idxOf l) (some za) args, smallM (idxOf l) (some zc) mem l with
    | some as, some m0 => g as m0 fun v m1 => (match putBack (backF l m0 mem.length) l m0 m1 mem, v.ren (backF l m0 mem.length) none with
      | some mem', some v' => K v' mem'
      | _, _ => none)
    | _, _ => none) else none

theorem frame_at {f : FuncId} {sel : List AV → Mem → Option (List (Option Nat) × Nat × Nat)} {g : LoudFn} (h : LoudAt P f g) : LoudAt P f (frame sel g) := by
  intro args mem ρ K r hr
  unfold frame at hr
  split at hr
  · cases hr
  rename_i l za zc hsel
  obtain ⟨hd, hr⟩ := bif_some hr
  split at hr
  case h_2 => cases hr
  rename_i as m0 has hm0
  obtain ⟨v, m1, hk, hs⟩ := h as m0 _ _ _ hr
  split at hk
  case h_2 => cases hk
  rename_i mem' v' hmem hv
  refine ⟨v', mem', hk, fun W Wr σ w real hst hra => ?_⟩
  obtain ⟨hlen0, hsm⟩ := smallM_spec hm0
  obtain ⟨hlen1, hle1, hput⟩ := putBack_spec hmem
  let σ0 : Ren := fun j => match l[j]? with
    | some (some i) => σ i
    | _ => none
  let Wr0 : Nat → Prop := fun b => ∃ (j i : Nat) (B : Blk) (δ s : Nat), l[j]? = some (some i) ∧ mem[i]? = some B ∧ B.wr = true ∧ σ i = some (b, δ, s)
  have hσ0 : ∀ {j i : Nat}, l[j]? = some (some i) → σ0 j = σ i := fun {j i} hj => by show (match l[j]? with | some (some i) => σ i | _ => none) = σ i; rw [hj]
  have hσ0' : ∀ {j : Nat} {p : Nat × Nat × Nat}, σ0 j = some p → ∃ i, l[j]? = some (some i) ∧ σ i = some p := by
    intro j p hp
    have hp : (match l[j]? with | some (some i) => σ i | _ => none) = some p := hp
    split at hp
    · rename_i i hi; exact ⟨i, hi, hp⟩
    · cases hp
  have hren : ∀ i j p, idxOf l i = some j → σ i = some p → σ0 j = some p := fun i j p hj hp => by rw [hσ0 (idxOf_some hj)]; exact hp
  have hblk0 : ∀ {j i : Nat} {b δ s : Nat} {B0 : Blk}, l[j]? = some (some i) → σ i = some (b, δ, s) → m0[j]? = some B0 → ∃ B : Blk, mem[i]? = some B ∧ BlkRel σ0 B0 b δ s w ∧ B0.wr = B.wr ∧ B0.c.size = B.c.size := by
    intro j i b δ s B0 hj hi hB0
    obtain ⟨B, B', q1, q2, q3⟩ := hsm j i hj
    rw [hB0] at q3; cases q3
    obtain ⟨r1, r2, r3⟩ := (hst.1.blk _ _ _ _ _ hi q1).ren hren q2
    exact ⟨B, q1, r1, r2, r3⟩
  have hwr0 : ∀ {b : Nat}, Wr0 b → W.heap.size ≤ b ∨ Wr b := by
    rintro b ⟨j, i, B, δ, s, q1, q2, q3, q4⟩
    exact hst.1.wrs _ _ _ _ _ q4 q2 q3
  have hfst : FSt w Wr0 σ0 m0 w := by
    refine ⟨⟨rfl, rfl, rfl, Nat.le_refl _, fun _ _ _ => rfl, ?_, ?_, ?_, ?_⟩, ?_⟩
    · intro j b δ s hj
      obtain ⟨i, _, q2⟩ := hσ0' hj
      exact hst.1.dom _ _ _ _ q2
    · intro j b δ s B0 hj hB0
      obtain ⟨i, q1, q2⟩ := hσ0' hj
      obtain ⟨B, _, r1, _, _⟩ := hblk0 q1 q2 hB0
      exact r1
    · intro j b δ s B0 hj hB0 hw
      obtain ⟨i, q1, q2⟩ := hσ0' hj
      obtain ⟨B, r0, _, r2, _⟩ := hblk0 q1 q2 hB0
      exact .inr ⟨j, i, B, δ, s, q1, r0, by rw [← r2]; exact hw, q2⟩
    · intro j1 j2 b1 δ1 s1 b2 δ2 s2 B1 B2 h1 h2 hne hB1 hB2 hw hz
      obtain ⟨i1, q1, q2⟩ := hσ0' h1
      obtain ⟨i2, q3, q4⟩ := hσ0' h2
      obtain ⟨X1, r0, _, r2, _⟩ := hblk0 q1 q2 hB1
      obtain ⟨X2, t0, _, t2, t3⟩ := hblk0 q3 q4 hB2
      refine hst.1.inj _ _ _ _ _ _ _ _ _ _ q2 q4 (fun e => hne ?_) r0 t0 (by rw [← r2]; exact hw) (by rw [← t2, ← t3]; exact hz)
      subst e
      exact distinct_spec hd q1 q3
    · intro j p hj
      obtain ⟨i, q1, _⟩ := hσ0' hj
      rw [hlen0]; exact (List.getElem?_eq_some_iff.1 q1).1
  refine (hs w Wr0 σ0 w real hfst (RL.ren hren hra has)).mono fun rv w' ⟨σ1, he, hv1, hst1⟩ => ?_
  let σ' : Ren := fun i => match σ i with
    | some p => some p
    | none => if mem.length ≤ i then σ1 (i - mem.length + l.length) else match idxOf l i with
      | some j => (match m0[j]? with
        | some B => if B.wr = true then σ1 j else none
        | none => none)
      | none => none
  have hσ'1 : ∀ {i : Nat} {p : Nat × Nat × Nat}, σ i = some p → σ' i = some p := fun {i p} hi => by
    show (match σ i with | some p => some p | none => _) = some p
    rw [hi]
  have hσ'2 : ∀ {i : Nat}, mem.length ≤ i → σ' i = σ1 (i - mem.length + l.length) := fun {i} hi => by
    have hn : σ i = none := by
      cases hs' : σ i with
      | none => rfl
      | some p => have := hst.2 _ _ hs'; omega
    show (match σ i with | some p => some p | none => _) = _
    rw [hn]; simp only [hi, if_true]
  have hσ'3 : ∀ {i j : Nat} {B0 : Blk}, σ i = none → i < mem.length → l[j]? = some (some i) → m0[j]? = some B0 → B0.wr = true → σ' i = σ1 j := fun {i j B0} hn hi hj hB hw => by
    obtain ⟨j', hj'⟩ := idxOf_of hj
    have := distinct_spec hd (idxOf_some hj') hj
    subst this
    show (match σ i with | some p => some p | none => _) = _
    rw [hn]
    simp only [Nat.not_le.2 hi, if_false, hj', hB, hw, if_true]
  have hσ'4 : ∀ {i : Nat} {p : Nat × Nat × Nat}, σ' i = some p → σ i = none → i < mem.length → ∃ j B0, l[j]? = some (some i) ∧ m0[j]? = some B0 ∧ B0.wr = true ∧ σ1 j = some p := fun {i p} hp hn hi => by
    have hp : (match σ i with | some p => some p | none => if mem.length ≤ i then σ1 (i - mem.length + l.length) else match idxOf l i with
      | some j => (match m0[j]? with
        | some B => if B.wr = true then σ1 j else none
        | none => none)
      | none => none) = some p := hp
    rw [hn] at hp
    simp only [Nat.not_le.2 hi, if_false] at hp
    split at hp
    · rename_i j hj
      split at hp
      · rename_i B0 hB0
        split at hp
        · rename_i hw; exact ⟨j, B0, idxOf_some hj, hB0, hw, hp⟩
        · cases hp
      · cases hp
    · cases hp
  have hext : Ext σ σ' := fun i p hi => hσ'1 hi
  have hmlt : ∀ {j i : Nat}, l[j]? = some (some i) → i < mem.length := fun {j i} hj => by
    obtain ⟨B, _, q1, _, _⟩ := hsm j i hj
    exact (List.getElem?_eq_some_iff.1 q1).1
  have h10 : ∀ {j i : Nat} {p : Nat × Nat × Nat}, l[j]? = some (some i) → σ i = some p → σ1 j = some p := fun {j i p} hj hi => he _ _ (by rw [hσ0 hj]; exact hi)
  have hback : ∀ j i p, backF l m0 mem.length j = some i → σ1 j = some p → σ' i = some p := by
    intro j i p hb hj
    unfold backF at hb
    split at hb
    · rename_i i' hi'
      rw [nth_eq] at hi'
      split at hb
      · rename_i B0 hB0
        rw [nth_eq] at hB0
        obtain ⟨hw, hb⟩ := bif_some hb
        have hb := Option.some.inj hb
        subst hb
        cases hn : σ i' with
        | none => rw [hσ'3 hn (hmlt hi') hi' hB0 hw]; exact hj
        | some q =>
          have := h10 hi' hn
          rw [hj] at this; cases this
          exact hσ'1 hn
      · cases hb
    · cases hb
    · rename_i hn
      rw [nth_eq] at hn
      cases hb
      have := List.getElem?_eq_none_iff.1 hn
      rw [hσ'2 (by omega), show mem.length + (j - l.length) - mem.length + l.length = j by omega]; exact hj
  have horig : ∀ {i b δ s : Nat} {B' : Blk}, σ' i = some (b, δ, s) → mem'[i]? = some B' →
      (σ i = some (b, δ, s) ∧ mem[i]? = some B' ∧ ∀ (j : Nat) (B0 : Blk), l[j]? = some (some i) → m0[j]? = some B0 → B0.wr = false) ∨
      (∃ j B1, σ1 j = some (b, δ, s) ∧ m1[j]? = some B1 ∧ B1.ren (backF l m0 mem.length) none = some B' ∧ okBlk B1 = true ∧ backF l m0 mem.length j = some i) := by
    intro i b δ s B' hi hB'
    rcases hput i B' hB' with ⟨a1, a2⟩ | ⟨j, B0, B1, a1, a2, a3, a4, a5, a6⟩ | ⟨t, B1, a1, a2, a3, a4⟩
    · cases hn : σ i with
      | none =>
        obtain ⟨j, B0, q1, q2, q3, _⟩ := hσ'4 hi hn (List.getElem?_eq_some_iff.1 a1).1
        rw [a2 j B0 q1 q2] at q3; cases q3
      | some p =>
        have := hσ'1 hn
        rw [hi] at this; cases this
        exact .inl ⟨rfl, a1, a2⟩
    · right
      refine ⟨j, B1, ?_, a4, a5, a6, ?_⟩
      · cases hn : σ i with
        | none => rw [← hσ'3 hn (hmlt a1) a1 a2 a3]; exact hi
        | some p =>
          have := hσ'1 hn
          rw [hi] at this; cases this
          exact h10 a1 hn
      · unfold backF; simp only [nth_eq, a1, a2, a3, cond_true]
    · right
      subst a1
      refine ⟨l.length + t, B1, ?_, a2, a3, a4, ?_⟩
      · rw [hσ'2 (by omega), show mem.length + t - mem.length + l.length = l.length + t by omega] at hi; exact hi
      · unfold backF
        rw [nth_eq, List.getElem?_eq_none (by omega)]
        simp
  have hnot : ∀ {i b δ s : Nat} {B' : Blk}, σ i = some (b, δ, s) → mem[i]? = some B' → (∀ (j : Nat) (B0 : Blk), l[j]? = some (some i) → m0[j]? = some B0 → B0.wr = false) → (B'.wr = true ∨ 0 < B'.c.size) → ¬ Wr0 b := by
    rintro i b δ s B' hi hB' hno hz ⟨j, i', B, δ', s', q1, q2, q3, q4⟩
    refine hst.1.inj _ _ _ _ _ _ _ _ _ _ q4 hi (fun e => ?_) q2 hB' q3 hz rfl
    subst e
    rename_i i'
    obtain ⟨B2, B0, z1, z2, z3⟩ := hsm j i' q1
    obtain ⟨B3, y1, _, y2, _⟩ := hblk0 q1 q4 z3
    rw [q2] at y1; cases y1
    have := hno j B0 q1 z3
    rw [y2, q3] at this; cases this
  have hblkO : ∀ {i b δ s : Nat} {B' : Blk}, σ i = some (b, δ, s) → mem[i]? = some B' → (∀ (j : Nat) (B0 : Blk), l[j]? = some (some i) → m0[j]? = some B0 → B0.wr = false) → BlkRel σ B' b δ s w' := by
    intro i b δ s B' hi hB' hno
    have h0 := hst.1.blk _ _ _ _ _ hi hB'
    have hlt := hst.1.dom _ _ _ _ hi
    by_cases hz : B'.wr = true ∨ 0 < B'.c.size
    · exact h0.same (hst1.1.old b hlt (hnot hi hB' hno hz))
    · by_cases hW : Wr0 b
      · obtain ⟨j, i', B, δ2, s2, q1, q2, q3, q4⟩ := hW
        have hj1 := h10 q1 q4
        have hjl := hst1.2 _ _ hj1
        obtain ⟨C, e1, lo, hi1, g1, g2, g3, g4, g5⟩ := h0.ex
        obtain ⟨C2, e2, lo2, hi2, k1, k2, k3, k4, k5⟩ := (hst.1.blk _ _ _ _ _ q4 q2).ex
        obtain ⟨C3, e3, lo3, hi3, n1, n2, n3, n4, n5⟩ := (hst1.1.blk _ _ _ _ _ hj1 (List.getElem?_eq_getElem hjl)).ex
        rw [k1] at g1; cases g1
        refine ⟨C3, e3, lo3, hi3, n1, by omega, g3, fun o v hv => ?_, fun hw => absurd (Or.inl hw) hz⟩
        have := Cont.at_lt hv
        exact absurd (Or.inr (by omega)) hz
      · exact h0.same (hst1.1.old b hlt hW)
  refine ⟨σ', hext, R.ren hback hv1 hv, ⟨⟨hst1.1.os.trans hst.1.os, hst1.1.tape.trans hst.1.tape, hst1.1.output.trans hst.1.output, Nat.le_trans hst.1.size hst1.1.size, ?_, ?_, ?_, ?_, ?_⟩, ?_⟩⟩
  · intro k hk hn
    rw [hst1.1.old k (Nat.lt_of_lt_of_le hk hst.1.size) (fun hW => (hwr0 hW).elim (fun h => by omega) hn)]
    exact hst.1.old k hk hn
  · intro i b δ s hi
    cases hn : σ i with
    | some p =>
      have := hσ'1 hn
      rw [hi] at this; cases this
      exact Nat.lt_of_lt_of_le (hst.1.dom _ _ _ _ hn) hst1.1.size
    | none =>
      by_cases hl : mem.length ≤ i
      · rw [hσ'2 hl] at hi; exact hst1.1.dom _ _ _ _ hi
      · obtain ⟨j, B0, _, _, _, q⟩ := hσ'4 hi hn (by omega)
        exact hst1.1.dom _ _ _ _ q
  · intro i b δ s B' hi hB'
    rcases horig hi hB' with ⟨a1, a2, a3⟩ | ⟨j, B1, a1, a2, a3, a4, a5⟩
    · exact (hblkO a1 a2 a3).ext hext
    · exact ((hst1.1.blk _ _ _ _ _ a1 a2).ren hback a3).1
  · intro i b δ s B' hi hB' hw
    rcases horig hi hB' with ⟨a1, a2, a3⟩ | ⟨j, B1, a1, a2, a3, a4, a5⟩
    · exact hst.1.wrs _ _ _ _ _ a1 a2 hw
    · have := ((hst1.1.blk _ _ _ _ _ a1 a2).ren hback a3).2.1
      rcases hst1.1.wrs _ _ _ _ _ a1 a2 (by rw [← this]; exact hw) with h1 | h1
      · exact .inl (Nat.le_trans hst.1.size h1)
      · exact hwr0 h1
  · intro i j bi δi si bj δj sj Bi Bj hi hj hij hBi hBj hw hz
    rcases horig hi hBi with ⟨a1, a2, a3⟩ | ⟨x, B1, a1, a2, a3, a4, a5⟩
    · rcases horig hj hBj with ⟨c1, c2, c3⟩ | ⟨y, B2, c1, c2, c3, c4, c5⟩
      · exact hst.1.inj _ _ _ _ _ _ _ _ _ _ a1 c1 hij a2 c2 hw hz
      · have hr2 := (hst1.1.blk _ _ _ _ _ c1 c2).ren hback c3
        have hw2 : B2.wr = true := by
          rcases hz with h | h
          · rw [← hr2.2.1]; exact h
          · rcases okBlk_spec c4 with h2 | h2
            · exact h2
            · rw [hr2.2.2] at h; omega
        have hlt := hst.1.dom _ _ _ _ a1
        rcases hst1.1.wrs _ _ _ _ _ c1 c2 hw2 with h1 | h1
        · omega
        · intro e; subst e; exact hnot a1 a2 a3 (.inl hw) h1
    · have hr1 := (hst1.1.blk _ _ _ _ _ a1 a2).ren hback a3
      rcases horig hj hBj with ⟨c1, c2, c3⟩ | ⟨y, B2, c1, c2, c3, c4, c5⟩
      · have hlt := hst.1.dom _ _ _ _ c1
        rcases hst1.1.wrs _ _ _ _ _ a1 a2 (by rw [← hr1.2.1]; exact hw) with h1 | h1
        · omega
        · intro e; subst e; exact hnot c1 c2 c3 hz h1
      · have hr2 := (hst1.1.blk _ _ _ _ _ c1 c2).ren hback c3
        refine hst1.1.inj _ _ _ _ _ _ _ _ _ _ a1 c1 (fun e => hij ?_) a2 c2 (by rw [← hr1.2.1]; exact hw) (by rw [← hr2.2.1, ← hr2.2.2]; exact hz)
        subst e
        rw [a5] at c5; cases c5; rfl
  · intro i p hi
    cases hn : σ i with
    | some q => have := hst.2 _ _ hn; omega
    | none =>
      by_cases hl : mem.length ≤ i
      · rw [hσ'2 hl] at hi
        have := hst1.2 _ _ hi
        omega
      · omega

/-! ### what is forgotten -/

/-- the same memory, some blocks forgotten -/
def MemW (m m' : Mem) : Prop := m.length = m'.length ∧ ∀ (i : Nat) (B B' : Blk), m[i]? = some B → m'[i]? = some B' → B' = dead ∨ BlkEq B B'
theorem MemEq.w {m m' : Mem} (h : MemEq m m') : MemW m m' := ⟨h.1, fun i B B' h1 h2 => .inr (h.2 i B B' h1 h2)⟩
theorem MemW.nil : MemW [] [] := (MemEq.refl []).w
theorem MemW.cons {B B' : Blk} {m m' : Mem} (h : B' = dead ∨ BlkEq B B') (hm : MemW m m') : MemW (B :: m) (B' :: m') := by
  refine ⟨by simp [hm.1], fun i X X' h1 h2 => ?_⟩
  cases i with
  | zero => cases h1; cases h2; exact h
  | succ i => exact hm.2 i X X' (by simpa using h1) (by simpa using h2)
theorem MemW.of {B B' : Blk} {m m' : Mem} (h : BlkEq B B') (hm : MemW m m') : MemW (B :: m) (B' :: m') := .cons (.inr h) hm
theorem MemW.kill {B : Blk} {m m' : Mem} (hm : MemW m m') : MemW (B :: m) (dead :: m') := .cons (.inl rfl) hm

theorem FSt.weaken {W : World} {Wr : Nat → Prop} {σ : Ren} {mem mem' : Mem} {w : World} (h : FSt W Wr σ mem w) (e : MemW mem mem') : FSt W Wr σ mem' w := by
  have hget : ∀ (i : Nat) (B' : Blk), mem'[i]? = some B' → ∃ B : Blk, mem[i]? = some B ∧ (B' = dead ∨ BlkEq B B') := by
    intro i B' hB'
    have hlt : i < mem'.length := (List.getElem?_eq_some_iff.1 hB').1
    have hlt' : i < mem.length := by rw [e.1]; exact hlt
    exact ⟨mem[i], List.getElem?_eq_getElem hlt', e.2 _ _ _ (List.getElem?_eq_getElem hlt') hB'⟩
  refine ⟨⟨h.1.os, h.1.tape, h.1.output, h.1.size, h.1.old, h.1.dom, ?_, ?_, ?_⟩, fun i p hi => by rw [← e.1]; exact h.2 i p hi⟩
  · intro i b δ s B' hi hB'
    obtain ⟨B, hB, he⟩ := hget _ _ hB'
    have h0 := h.1.blk _ _ _ _ _ hi hB
    rcases he with rfl | he
    · obtain ⟨C, e1, lo, hi1, g1, g2, g3, g4, g5⟩ := h0.ex
      exact ⟨C, e1, lo, hi1, g1, g2, by simp [dead, Cont.size], fun o v hv => by simp [dead, Cont.at?] at hv, fun hw => by simp [dead] at hw⟩
    · exact h0.eqv he
  · intro i b δ s B' hi hB' hw
    obtain ⟨B, hB, he⟩ := hget _ _ hB'
    rcases he with rfl | he
    · simp [dead] at hw
    · exact h.1.wrs _ _ _ _ _ hi hB (by rw [he.1]; exact hw)
  · intro i j bi δi si bj δj sj Bi Bj hi hj hij hBi hBj hw hz
    obtain ⟨B1, hB1, e1⟩ := hget _ _ hBi
    obtain ⟨B2, hB2, e2⟩ := hget _ _ hBj
    rcases e1 with rfl | e1
    · simp [dead] at hw
    · rcases e2 with rfl | e2
      · rcases hz with hz | hz
        · simp [dead] at hz
        · simp [dead, Cont.size] at hz
      · exact h.1.inj _ _ _ _ _ _ _ _ _ _ hi hj hij hB1 hB2 (by rw [e1.1]; exact hw) (by rw [e2.1, e2.2.1]; exact hz)

/-- the same arguments, less said of them -/
def ArgW (a a' : List AV) : Prop := ∀ (σ : Ren) (m : List Value), RL σ a m → RL σ a' m
theorem ArgW.refl (a : List AV) : ArgW a a := fun _ _ h => h
theorem ArgW.cons {x : AV} {a a' : List AV} (h : ArgW a a') : ArgW (x :: a) (x :: a') := fun σ m hm => by
  cases hm with | cons _ v _ m' h1 h2 => exact .cons _ _ _ _ h1 (h σ m' h2)
theorem ArgW.ap {id off len : Nat} {ap : Bool} {a a' : List AV} (h : ArgW a a') : ArgW (.slice id off len ap :: a) (.slice id off len false :: a') := fun σ m hm => by
  cases hm with | cons _ v _ m' h1 h2 =>
  refine .cons _ _ _ _ ?_ (h σ m' h2)
  cases h1 with
  | slice _ _ _ _ cap b δ s hσ h1 h2 h3 => exact .slice _ _ _ _ cap b δ s hσ h1 h2 (by simp)
  | slic0 => exact .slic0 _ _ _ _

/-! ### a call told by its memory before and after -/

def wfM (args : List AV) (mem : Mem) : Prop := ∃ W Wr σ w m, FSt W Wr σ mem w ∧ RL σ args m

def told (g : List AV → Mem → Option (Bool × AV × Mem)) : LoudFn := fun args mem _ K => match g args mem with
  | some (c, v, m) => bif c then K v m else none
  | none => none

theorem told_at {X : Cx} (hX : CxOK P X) {L : Loops} {keep : List Nat} {f : FuncId} {fn : Func} {c : Code} (hf : P.funcs[f]? = some fn) (hb : fn.body = some c) (hn : (fn.name == "runtime.NumGoroutine") = false) (hL : LoopsOK P fn.ntmps L c)
    {g : List AV → Mem → Option (Bool × AV × Mem)} (h : ∀ args mem cd v m, g args mem = some (cd, v, m) → cd = true → wfM args mem → ∃ fuel ar m0 m1, ArgW args ar ∧ MemEq mem m0 ∧ runKL X L keep fuel fn c ar m0 (fun v m => some (v, m)) = some (v, m1) ∧ MemW m1 m) :
    LoudAt P f (told g) := by
  intro args mem ρ K r hr
  unfold told at hr
  split at hr
  · rename_i cd v m hg
    obtain ⟨hcd, hk⟩ := bif_some hr
    refine ⟨v, m, hk, fun W Wr σ w real hst hra => ?_⟩
    obtain ⟨fuel, ar, m0, m1, ea, e0, hrun, e1⟩ := h args mem cd v m hg hcd ⟨W, Wr, σ, w, _, hst, hra⟩
    obtain ⟨v1, mm, hk1, hs⟩ := runKL_sound hX hf hb hL hrun
    simp only [Option.some.injEq, Prod.mk.injEq] at hk1
    obtain ⟨rfl, rfl⟩ := hk1
    exact callTo_of_calls hf hb hn ((hs W Wr σ w real (hst.eqv e0) (ea σ _ hra)).mono fun e w' ⟨σ', rv, he, hx, hv, hst'⟩ => ⟨rv, he, σ', hx, hv, hst'.weaken e1⟩)
  · cases hr

end Pw

namespace Pw
open Go Go.RowKit

variable {P : Program} {T : List (Nat × TE)} {ρ : Type}

/-! ### functions that read: every argument in a memory of its own, which nobody writes -/

theorem closed_ints (k : IntKind) : ∀ l : List Nat, AV.closed.all (l.map (AV.u k)) = true
  | [] => rfl
  | x :: l => by simpa [AV.closed.all, AV.closed] using closed_ints k l

structure GSt (w : World) (σ : Ren) (ms : Mem) : Prop where
  lt : ∀ (i : Nat) (p : Nat × Nat × Nat), σ i = some p → i < ms.length
  dom : ∀ (i b δ s : Nat), σ i = some (b, δ, s) → b < w.heap.size
  blk : ∀ (i b δ s : Nat) (B : Blk), σ i = some (b, δ, s) → ms[i]? = some B → BlkRel σ B b δ s w
  ro : ∀ B ∈ ms, B.wr = false

theorem GSt.empty (w : World) : GSt w (fun _ => none) [] := ⟨fun _ _ h => by (cases h), fun _ _ _ _ h => by (cases h), fun _ _ _ _ _ h => by (cases h), fun _ h => by (cases h)⟩
theorem GSt.fst {w : World} {σ : Ren} {ms : Mem} (h : GSt w σ ms) : FSt w (fun _ => False) σ ms w := by
  have hno : ∀ (i : Nat) (B : Blk), ms[i]? = some B → B.wr = true → False := fun i B hB hw => by
    have := h.ro B (List.mem_of_getElem? hB)
    rw [hw] at this; cases this
  exact ⟨⟨rfl, rfl, rfl, Nat.le_refl _, fun _ _ _ => rfl, h.dom, h.blk, fun i b δ s B hi hB hw => (hno i B hB hw).elim, fun i j bi δi si bj δj sj Bi Bj hi hj hij hBi hBj hw hz => (hno i Bi hBi hw).elim⟩, h.lt⟩

theorem GSt.snoc {w : World} {σ : Ren} {ms : Mem} (h : GSt w σ ms) {B : Blk} (hB : B.wr = false) (p : Option (Nat × Nat × Nat)) (hp : ∀ b δ s, p = some (b, δ, s) → b < w.heap.size ∧ BlkRel σ B b δ s w) :
    ∃ σ1, Ext σ σ1 ∧ (∀ q, p = some q → σ1 ms.length = some q) ∧ GSt w σ1 (ms ++ [B]) := by
  have hn : σ ms.length = none := by
    cases hs : σ ms.length with
    | none => rfl
    | some p => have := h.lt _ _ hs; omega
  have hro : ∀ B' ∈ ms ++ [B], B'.wr = false := by
    intro B' hm
    rcases List.mem_append.1 hm with h1 | h1
    · exact h.ro B' h1
    · simp at h1; subst h1; exact hB
  have hget : ∀ (i : Nat) (B' : Blk), (ms ++ [B])[i]? = some B' → (i < ms.length ∧ ms[i]? = some B') ∨ (i = ms.length ∧ B' = B) := by
    intro i B' hi
    by_cases hlt : i < ms.length
    · rw [List.getElem?_append_left hlt] at hi; exact .inl ⟨hlt, hi⟩
    · rw [List.getElem?_append_right (by omega)] at hi
      have : i - ms.length = 0 := by
        have := (List.getElem?_eq_some_iff.1 hi).1
        simp at this; omega
      rw [this] at hi
      simp at hi
      exact .inr ⟨by omega, hi.symm⟩
  cases p with
  | none =>
    refine ⟨σ, Ext.refl _, fun _ h => by (cases h), fun i p hi => by have := h.lt _ _ hi; simp; omega, h.dom, fun i b δ s B' hi hB' => ?_, hro⟩
    rcases hget i B' hB' with ⟨_, h1⟩ | ⟨rfl, _⟩
    · exact h.blk _ _ _ _ _ hi h1
    · rw [hn] at hi; cases hi
  | some q =>
    obtain ⟨b0, δ0, s0⟩ := q
    obtain ⟨hb0, hr0⟩ := hp _ _ _ rfl
    have hext : Ext σ (upd σ ms.length (b0, δ0, s0)) := upd_ext hn
    refine ⟨upd σ ms.length (b0, δ0, s0), hext, fun q hq => by cases hq; exact upd_self _ _ _, fun i p hi => ?_, fun i b δ s hi => ?_, fun i b δ s B' hi hB' => ?_, hro⟩
    · by_cases e : i = ms.length
      · simp; omega
      · rw [upd_ne _ e] at hi; have := h.lt _ _ hi; simp; omega
    · by_cases e : i = ms.length
      · subst e; rw [upd_self] at hi; cases hi; exact hb0
      · rw [upd_ne _ e] at hi; exact h.dom _ _ _ _ hi
    · rcases hget i B' hB' with ⟨hlt, h1⟩ | ⟨rfl, rfl⟩
      · rw [upd_ne _ (by omega)] at hi; exact (h.blk _ _ _ _ _ hi h1).ext hext
      · rw [upd_self] at hi; cases hi; exact hr0.ext hext

/-- the values of a list, one behind the other -/
def normCs (f : AV → Mem → (AV → Mem → Option ρ) → Option ρ) : List AV → Mem → (List AV → Mem → Option ρ) → Option ρ
  | [], acc, K => K [] acc
  | a :: l, acc, K => match AV.closed a with
    | true => normCs f l acc fun l' acc' => K (a :: l') acc'
    | false => f a acc fun a' acc1 => normCs f l acc1 fun l' acc' => K (a' :: l') acc'

/-- a value, with what it names put behind a memory -/
def normV (mem : Mem) : Nat → AV → Mem → (AV → Mem → Option ρ) → Option ρ
  | 0, _, _, _ => none
  | d + 1, a, acc, K => match a with
    | .nils => K (.slice acc.length 0 0 false) (acc ++ [⟨.bytes [], false⟩])
    | .emp => K (.slice acc.length 0 0 false) (acc ++ [⟨.bytes [], false⟩])
    | .slice id off len _ => (match nth mem id with
      | some ⟨.bytes l, _⟩ => bif decide (off + len ≤ l.length) then K (.slice acc.length 0 len false) (acc ++ [⟨.bytes ((l.drop off).take len), false⟩]) else none
      | some ⟨.cells cs, _⟩ => bif Nat.ble (off + len) cs.length then (match toBytes ((cs.drop off).take len) with
          | some l => K (.slice acc.length 0 len false) (acc ++ [⟨.bytes l, false⟩])
          | none => normCs (normV mem d) ((cs.drop off).take len) acc fun cs' acc' => bif Nat.beq cs'.length len then K (.slice acc'.length 0 len false) (acc' ++ [⟨.cells cs', false⟩]) else none) else none
      | _ => none)
    | .ptr id off => (match nth mem id with
      | some ⟨.cells cs, _⟩ => bif Nat.beq off 0 then normCs (normV mem d) cs acc fun cs' acc' => bif Nat.beq cs'.length cs.length then K (.ptr acc'.length 0) (acc' ++ [⟨.cells cs', false⟩]) else none else none
      | some ⟨.ints k l, _⟩ => bif Nat.beq off 0 then K (.ptr acc.length 0) (acc ++ [⟨.ints k l, false⟩]) else none
      | _ => none)
    | .agg cs => (match AV.closed (.agg cs) with
      | true => K (.agg cs) acc
      | false => normCs (normV mem d) cs acc fun cs' acc' => K (.agg cs') acc')
    | a => match a.closed with
      | true => K a acc
      | false => none

/-- what a value becomes -/
def NormV (mem : Mem) (a : AV) (acc : Mem) (a' : AV) (acc' : Mem) : Prop :=
  ∀ (σ : Ren) (w : World) (v : Value) (σ0 : Ren), MemRel σ mem w → R σ a v → GSt w σ0 acc → ∃ σ1, Ext σ0 σ1 ∧ GSt w σ1 acc' ∧ R σ1 a' v
def NormC (mem : Mem) (l : List AV) (acc : Mem) (l' : List AV) (acc' : Mem) : Prop :=
  ∀ (σ : Ren) (w : World) (m : List Value) (σ0 : Ren), MemRel σ mem w → RL σ l m → GSt w σ0 acc → ∃ σ1, Ext σ0 σ1 ∧ GSt w σ1 acc' ∧ RL σ1 l' m

theorem blk_reals {σ : Ren} {cs : List AV} {wr : Bool} {b δ s : Nat} {w : World} (h : BlkRel σ ⟨.cells cs, wr⟩ b δ s w) (off n : Nat) (hle : off + n ≤ cs.length) :
    ∃ C e lo hi m, w.heap[b]? = some (.cells C e (lo, hi)) ∧ C.size = δ + s ∧ cs.length ≤ s ∧ RL σ ((cs.drop off).take n) m ∧ ∀ o v, m[o]? = some v → C[δ + off + o]? = some v := by
  obtain ⟨C, e, lo, hi, g1, g2, g3, g4, g5⟩ := h.ex
  simp only [Cont.size] at g3
  refine ⟨C, e, lo, hi, (C.toList.drop (δ + off)).take n, g1, g2, g3, RL.of_get ?_ fun i a v ha hv => ?_, fun o v hv => ?_⟩
  · simp only [List.length_take, List.length_drop, Array.length_toList]; omega
  · have hi' : i < n := by
      have := (List.getElem?_eq_some_iff.1 ha).1
      rw [List.length_take] at this; omega
    rw [List.getElem?_take, if_pos hi', List.getElem?_drop] at ha hv
    obtain ⟨rv, h1, h2⟩ := g4 (off + i) a ha
    have : C.toList[δ + off + i]? = some rv := by
      rw [show δ + off + i = δ + (off + i) by omega]; simpa using h1
    rw [this] at hv; cases hv; exact h2
  · have hi' : o < n := by
      have := (List.getElem?_eq_some_iff.1 hv).1
      rw [List.length_take] at this; omega
    rw [List.getElem?_take, if_pos hi', List.getElem?_drop] at hv
    simpa using hv

theorem blk_of_reals {σ : Ren} {c : Cont} {b δ s : Nat} {w : World} {C : Array Value} {e : TypeId} {lo hi : Nat} {m : List Value} {cs : List AV} (g1 : w.heap[b]? = some (.cells C e (lo, hi))) (g2 : C.size = δ + s)
    (hc : ∀ o v, c.at? o = some v → cs[o]? = some v) (hsz : c.size ≤ s) (hr : RL σ cs m) (hm : ∀ o v, m[o]? = some v → C[δ + o]? = some v) : BlkRel σ ⟨c, false⟩ b δ s w := by
  refine ⟨C, e, lo, hi, g1, g2, hsz, fun o v hv => ?_, fun h => by cases h⟩
  obtain ⟨rv, h1, h2⟩ := hr.get (hc o v hv)
  exact ⟨rv, hm o rv h1, h2⟩

def VSound (mem : Mem) (f : ∀ {ρ : Type}, AV → Mem → (AV → Mem → Option ρ) → Option ρ) : Prop :=
  ∀ (a : AV) (acc : Mem) (ρ : Type) (K : AV → Mem → Option ρ) (r : ρ), f a acc K = some r → ∃ a' acc', K a' acc' = some r ∧ NormV mem a acc a' acc'

theorem normCs_sound {mem : Mem} {f : ∀ {ρ : Type}, AV → Mem → (AV → Mem → Option ρ) → Option ρ} (ihV : VSound mem f) :
    ∀ (l : List AV) (acc : Mem) (ρ : Type) (K : List AV → Mem → Option ρ) (r : ρ), normCs f l acc K = some r → ∃ l' acc', K l' acc' = some r ∧ NormC mem l acc l' acc'
  | [], acc, ρ, K, r, h => ⟨_, _, h, fun σ w m σ0 hm hr hg => ⟨σ0, Ext.refl _, hg, by cases hr; exact .nil⟩⟩
  | a :: l, acc, ρ, K, r, h => by
    unfold normCs at h
    split at h
    · rename_i hc
      obtain ⟨l', acc', h, hs⟩ := normCs_sound ihV l _ _ _ _ h
      refine ⟨_, _, h, fun σ w m σ0 hm hr hg => ?_⟩
      cases hr with | cons _ v _ m' h1 h2 =>
      obtain ⟨σ1, e1, g1, r1⟩ := hs σ w m' σ0 hm h2 hg
      exact ⟨σ1, e1, g1, .cons _ _ _ _ (h1.closed hc) r1⟩
    · obtain ⟨a', acc1, h, hs1⟩ := ihV _ _ _ _ _ h
      obtain ⟨l', acc', h, hs⟩ := normCs_sound ihV l _ _ _ _ h
      refine ⟨_, _, h, fun σ w m σ0 hm hr hg => ?_⟩
      cases hr with | cons _ v _ m' h1 h2 =>
      obtain ⟨σ1, e1, g1, r1⟩ := hs1 σ w v σ0 hm h1 hg
      obtain ⟨σ2, e2, g2, r2⟩ := hs σ w m' σ1 hm h2 g1
      exact ⟨σ2, e1.trans e2, g2, .cons _ _ _ _ (r1.ext e2) r2⟩

theorem norm_sound {mem : Mem} : ∀ (d : Nat), VSound mem (normV mem d)
  | 0 => fun a acc ρ K r h => by replace h : normV mem 0 a acc K = some r := h; simp [normV] at h
  | d + 1 => by
    have ihC := normCs_sound (norm_sound (mem := mem) d)
    intro a acc ρ K r h
    replace h : normV mem (d + 1) a acc K = some r := h
    unfold normV at h
    split at h
    · refine ⟨_, _, h, fun σ w v σ0 hm hr hg => ?_⟩
      cases hr
      obtain ⟨σ1, e1, _, g1⟩ := hg.snoc (B := ⟨.bytes [], false⟩) rfl none (fun _ _ _ h => by cases h)
      exact ⟨σ1, e1, g1, .slic0 _ _ _ _⟩
    · refine ⟨_, _, h, fun σ w v σ0 hm hr hg => ?_⟩
      cases hr
      obtain ⟨σ1, e1, _, g1⟩ := hg.snoc (B := ⟨.bytes [], false⟩) rfl none (fun _ _ _ h => by cases h)
      exact ⟨σ1, e1, g1, .slic0 _ _ _ _⟩
    · rename_i id off len ap
      split at h
      · rename_i l wr hB
        rw [nth_eq] at hB
        obtain ⟨hc, h⟩ := bif_some h
        have hc := of_decide_eq_true hc
        refine ⟨_, _, h, fun σ w v σ0 hm hr hg => ?_⟩
        cases hr with
        | slic0 _ _ _ a =>
          obtain ⟨σ1, e1, _, g1⟩ := hg.snoc (B := ⟨.bytes ((l.drop off).take 0), false⟩) rfl none (fun _ _ _ h => by cases h)
          exact ⟨σ1, e1, g1, .slic0 _ _ _ _⟩
        | slice _ _ _ _ cap b δ s hσ h1 h2 h3 =>
          obtain ⟨C, e, lo, hi, q1, q2, q3, q4, q5⟩ := (hm _ _ _ _ _ hσ hB).ex
          simp only [Cont.size] at q3
          obtain ⟨σ1, e1, e2, g1⟩ := hg.snoc (B := ⟨.bytes ((l.drop off).take len), false⟩) rfl (some (b, δ + off, s - off)) (fun b' δ' s' h => by
            cases h
            refine ⟨(Array.getElem?_eq_some_iff.1 q1).1, C, e, lo, hi, q1, by omega, by simp only [Cont.size, List.length_take, List.length_drop]; omega, fun o v hv => ?_, fun hw => by cases hw⟩
            simp only [Cont.at?, Option.map_eq_some_iff] at hv
            obtain ⟨n, hn, rfl⟩ := hv
            have hi' : o < len := by
              have := (List.getElem?_eq_some_iff.1 hn).1
              rw [List.length_take] at this; omega
            rw [List.getElem?_take, if_pos hi', List.getElem?_drop] at hn
            obtain ⟨rv, h5, h6⟩ := q4 (off + o) (.u .u8 n) (by simp [Cont.at?, hn])
            exact ⟨rv, by rw [show δ + off + o = δ + (off + o) by omega]; exact h5, h6.closed rfl⟩)
          refine ⟨σ1, e1, g1, ?_⟩
          have := R.slice (σ := σ1) acc.length 0 len false cap b (δ + off) (s - off) (e2 _ rfl) h1 h2 (by simp)
          simpa using this
      · rename_i cs wr hB
        rw [nth_eq] at hB
        obtain ⟨hc, h⟩ := bif_some h
        have hc := Nat.le_of_ble_eq_true hc
        split at h
        · rename_i l hl
          have hl := toBytes_eq hl
          refine ⟨_, _, h, fun σ w v σ0 hm hr hg => ?_⟩
          cases hr with
          | slic0 _ _ _ a =>
            obtain ⟨σ1, e1, _, g1⟩ := hg.snoc (B := ⟨.bytes l, false⟩) rfl none (fun _ _ _ h => by cases h)
            exact ⟨σ1, e1, g1, .slic0 _ _ _ _⟩
          | slice _ _ _ _ cap b δ s hσ h1 h2 h3 =>
            obtain ⟨C, e, lo, hi, m, q1, q2, q3, q4, q5⟩ := blk_reals (hm _ _ _ _ _ hσ hB) off len hc
            obtain ⟨σ1, e1, e2, g1⟩ := hg.snoc (B := ⟨.bytes l, false⟩) rfl (some (b, δ + off, s - off)) (fun b' δ' s' h => by
              cases h
              refine ⟨(Array.getElem?_eq_some_iff.1 q1).1, blk_of_reals (cs := l.map (AV.u .u8)) q1 (by omega) (fun o v hv => by simpa [Cont.at?] using hv) ?_ (RL.closed (σ := σ) ?_ (by rw [← hl]; exact q4)) q5⟩
              · have := congrArg List.length hl
                simp only [List.length_take, List.length_drop, List.length_map] at this
                simp only [Cont.size]; omega
              · exact closed_ints _ l)
            refine ⟨σ1, e1, g1, ?_⟩
            have := R.slice (σ := σ1) acc.length 0 len false cap b (δ + off) (s - off) (e2 _ rfl) h1 h2 (by simp)
            simpa using this
        · obtain ⟨cs', acc', h, hs⟩ := ihC _ _ _ _ _ h
          obtain ⟨hl, h⟩ := bif_some h
          have hl := Nat.eq_of_beq_eq_true hl
          refine ⟨_, _, h, fun σ w v σ0 hm hr hg => ?_⟩
          cases hr with
          | slic0 _ _ _ a =>
            obtain ⟨σ1, e1, g1, _⟩ := hs σ w [] σ0 hm (by rw [List.take_zero]; exact .nil) hg
            obtain ⟨σ2, e2, _, g2⟩ := g1.snoc (B := ⟨.cells cs', false⟩) rfl none (fun _ _ _ h => by cases h)
            exact ⟨σ2, e1.trans e2, g2, .slic0 _ _ _ _⟩
          | slice _ _ _ _ cap b δ s hσ h1 h2 h3 =>
            obtain ⟨C, e, lo, hi, m, q1, q2, q3, q4, q5⟩ := blk_reals (hm _ _ _ _ _ hσ hB) off len hc
            obtain ⟨σ1, e1, g1, r1⟩ := hs σ w m σ0 hm q4 hg
            obtain ⟨σ2, e2, e3, g2⟩ := g1.snoc (B := ⟨.cells cs', false⟩) rfl (some (b, δ + off, s - off)) (fun b' δ' s' h => by
              cases h
              refine ⟨(Array.getElem?_eq_some_iff.1 q1).1, blk_of_reals q1 (by omega) (fun o v hv => hv) (by simp only [Cont.size]; omega) r1 q5⟩)
            refine ⟨σ2, e1.trans e2, g2, ?_⟩
            have := R.slice (σ := σ2) acc'.length 0 len false cap b (δ + off) (s - off) (e3 _ rfl) h1 h2 (by simp)
            simpa using this
      · cases h
    · rename_i id off
      split at h
      · rename_i cs wr hB
        rw [nth_eq] at hB
        obtain ⟨ho, h⟩ := bif_some h
        have ho := Nat.eq_of_beq_eq_true ho
        subst ho
        obtain ⟨cs', acc', h, hs⟩ := ihC _ _ _ _ _ h
        obtain ⟨hl, h⟩ := bif_some h
        have hl := Nat.eq_of_beq_eq_true hl
        refine ⟨_, _, h, fun σ w v σ0 hm hr hg => ?_⟩
        cases hr with | ptr _ _ b δ s hσ =>
        obtain ⟨C, e, lo, hi, m, q1, q2, q3, q4, q5⟩ := blk_reals (hm _ _ _ _ _ hσ hB) 0 cs.length (by omega)
        rw [List.drop_zero, List.take_length] at q4
        obtain ⟨σ1, e1, g1, r1⟩ := hs σ w m σ0 hm q4 hg
        obtain ⟨σ2, e2, e3, g2⟩ := g1.snoc (B := ⟨.cells cs', false⟩) rfl (some (b, δ, s)) (fun b' δ' s' h => by
          cases h
          refine ⟨(Array.getElem?_eq_some_iff.1 q1).1, blk_of_reals q1 (by omega) (fun o v hv => hv) (by simp only [Cont.size]; omega) r1 (fun o v hv => by simpa using q5 o v hv)⟩)
        exact ⟨σ2, e1.trans e2, g2, .ptr _ 0 b δ s (e3 _ rfl)⟩
      · rename_i k l wr hB
        rw [nth_eq] at hB
        obtain ⟨ho, h⟩ := bif_some h
        have ho := Nat.eq_of_beq_eq_true ho
        subst ho
        refine ⟨_, _, h, fun σ w v σ0 hm hr hg => ?_⟩
        cases hr with | ptr _ _ b δ s hσ =>
        obtain ⟨C, e, lo, hi, q1, q2, q3, q4, q5⟩ := (hm _ _ _ _ _ hσ hB).ex
        obtain ⟨σ2, e2, e3, g2⟩ := hg.snoc (B := ⟨.ints k l, false⟩) rfl (some (b, δ, s)) (fun b' δ' s' h => by
          cases h
          refine ⟨(Array.getElem?_eq_some_iff.1 q1).1, C, e, lo, hi, q1, by omega, q3, fun o v hv => ?_, fun hw => by cases hw⟩
          obtain ⟨rv, h5, h6⟩ := q4 o v hv
          simp only [Cont.at?, Option.map_eq_some_iff] at hv
          obtain ⟨n, _, rfl⟩ := hv
          exact ⟨rv, h5, h6.closed rfl⟩)
        exact ⟨σ2, e2, g2, .ptr _ 0 b δ s (e3 _ rfl)⟩
      · cases h
    · rename_i cs
      split at h
      · rename_i hc
        exact ⟨_, _, h, fun σ w v σ0 hm hr hg => ⟨σ0, Ext.refl _, hg, hr.closed hc⟩⟩
      · obtain ⟨cs', acc', h, hs⟩ := ihC _ _ _ _ _ h
        refine ⟨_, _, h, fun σ w v σ0 hm hr hg => ?_⟩
        cases hr with | agg _ arr hl =>
        obtain ⟨σ1, e1, g1, r1⟩ := hs σ w arr.toList σ0 hm hl hg
        exact ⟨σ1, e1, g1, .agg _ _ r1⟩
    · split at h
      · rename_i hc
        exact ⟨_, _, h, fun σ w v σ0 hm hr hg => ⟨σ0, Ext.refl _, hg, hr.closed hc⟩⟩
      · cases h

/-- all the arguments -/
def normA (mem : Mem) : List AV → Mem → (List AV → Mem → Option ρ) → Option ρ
  | [], acc, K => K [] acc
  | a :: l, acc, K => normV mem 4 a acc fun a' acc1 => normA mem l acc1 fun l' acc' => K (a' :: l') acc'
theorem normA_sound {mem : Mem} : ∀ (l : List AV) (acc : Mem) (K : List AV → Mem → Option ρ) (r : ρ), normA mem l acc K = some r → ∃ l' acc', K l' acc' = some r ∧ NormC mem l acc l' acc'
  | [], acc, K, r, h => ⟨[], acc, h, fun σ w m σ0 hm hr hg => ⟨σ0, Ext.refl _, hg, by cases hr; exact .nil⟩⟩
  | a :: l, acc, K, r, h => by
    unfold normA at h
    obtain ⟨a', acc1, h, hs1⟩ := norm_sound 4 _ _ _ _ _ h
    obtain ⟨l', acc', h, hs⟩ := normA_sound l _ _ _ h
    refine ⟨_, _, h, fun σ w m σ0 hm hr hg => ?_⟩
    cases hr with | cons _ v _ m' h1 h2 =>
    obtain ⟨σ1, e1, g1, r1⟩ := hs1 σ w v σ0 hm h1 hg
    obtain ⟨σ2, e2, g2, r2⟩ := hs σ w m' σ1 hm h2 g1
    exact ⟨σ2, e1.trans e2, g2, .cons _ _ _ _ (r1.ext e2) r2⟩

def only (k n : Nat) : Nat → Option Nat := fun i => bif Nat.beq i k then some n else none
theorem only_some {k n i j : Nat} (h : only k n i = some j) : i = k ∧ j = n := by
  unfold only at h
  obtain ⟨h1, h2⟩ := bif_some h
  cases h2
  exact ⟨Nat.eq_of_beq_eq_true h1, rfl⟩

/-- what a run in such a memory gives: a plain value, or one that names a new block -/
def endG (v : AV) (mem : Mem) : Option (AV × Option Blk) := match v.closed with
  | true => some (v, none)
  | false => match v with
    | .ptr k off => (match nth mem k with
      | some B => bif B.wr && B.c.plain then some (.ptr 0 off, some B) else none
      | none => none)
    | v => (match v.names with
      | some (k, len) => (match nth mem k with
        | some B => bif B.wr && B.c.plain && Nat.blt 0 len then (match v.ren (only k 0) none with
            | some v' => some (v', some B)
            | none => none) else none
        | none => none)
      | none => none)

def runG (X : Cx) (L : Loops) (keep : List Nat) (fuel : Nat) (fn : Func) (c : Code) (args : List AV) (ms : Mem) : Option (AV × Option Blk) :=
  runKL X L keep fuel fn c args ms endG

def grab (g : List AV → Mem → Option (Bool × AV × Option Blk)) : List AV → Mem → ∀ {ρ : Type}, (AV → Option Blk → Option ρ) → Option ρ := fun args mem _ K =>
  normA mem args [] fun as ms => match g as ms with
    | some (cd, v, none) => bif cd then K v none else none
    | some (cd, v, some B) => bif cd then (match v.ren (only 0 mem.length) none with
      | some v' => K v' (some B)
      | none => none) else none
    | none => none

def wfG (as : List AV) (ms : Mem) : Prop := ∃ σ w vs, GSt w σ ms ∧ RL σ as vs

theorem quietAt_of_runG {X : Cx} (hX : CxOK P X) {L : Loops} {keep : List Nat} {f : FuncId} {fn : Func} {c : Code} (hf : P.funcs[f]? = some fn) (hb : fn.body = some c) (hn : (fn.name == "runtime.NumGoroutine") = false) (hL : LoopsOK P fn.ntmps L c)
    {g : List AV → Mem → Option (Bool × AV × Option Blk)} (h : ∀ as ms cd v nb, g as ms = some (cd, v, nb) → cd = true → wfG as ms → ∃ fuel ms', MemEq ms ms' ∧ runG X L keep fuel fn c as ms' = some (v, nb)) : QuietAt P f (grab g) := by
  intro args mem ρ K r hg
  unfold grab at hg
  obtain ⟨as, ms, hg, hs⟩ := normA_sound args _ _ _ hg
  have key : ∀ (σ : Ren) (w : World) (real : Array Value), RL σ args real.toList → MemRel σ mem w → ∀ v nb, g as ms = some (true, v, nb) → (nb.isSome = true → σ mem.length = none) →
      (match nb with
      | none => CallTo P f real w (Leaves σ mem w v none)
      | some B => ∀ v', v.ren (only 0 mem.length) none = some v' → CallTo P f real w (Leaves σ mem w v' (some B))) := by
    intro σ w real hr hm v nb hgv hnb
    obtain ⟨σ1, _, n1, r1⟩ := hs σ w real.toList (fun _ => none) hm hr (GSt.empty w)
    obtain ⟨fuel, ms', heq, hrun⟩ := h as ms _ v nb hgv rfl ⟨σ1, w, _, n1, r1⟩
    unfold runG at hrun
    obtain ⟨v1, mem1, hk, hcall⟩ := runKL_sound hX hf hb hL hrun
    have hc := hcall w _ σ1 w real (n1.fst.eqv heq) r1
    have fresh : ∀ {σ' : Ren} {w' : World} {k : Nat} {p : Nat × Nat × Nat} {B : Blk} {v1 v0 v' : AV} {rv : Value}, FSt w (fun _ => False) σ' mem1 w' → σ' k = some p → mem1[k]? = some B → B.wr = true → B.c.plain = true → R σ' v1 rv →
        v1.ren (only k 0) none = some v0 → v0.ren (only 0 mem.length) none = some v' → Leaves σ mem w v' (some B) rv w' := by
      intro σ' w' k p B v1 v0 v' rv hst hp hB hw hpl hv hv0 hv'
      obtain ⟨b, δ, s⟩ := p
      refine ⟨Below.mk hst.1.os hst.1.tape hst.1.output hst.1.size (fun k hk => hst.1.old k hk (fun h => h)), b, δ, s, ?_, hst.1.dom _ _ _ _ hp, ?_, ?_⟩
      · rcases hst.1.wrs _ _ _ _ _ hp hB hw with h | h
        · exact h
        · cases h
      · have h1 := R.ren (σ' := upd (fun _ => none) 0 (b, δ, s)) (f := only k 0) (z := none) (fun i j q hij hi => by
          obtain ⟨rfl, rfl⟩ := only_some hij
          rw [hp] at hi; cases hi; simp [upd]) hv hv0
        exact R.ren (fun i j q hij hi => by
          obtain ⟨rfl, rfl⟩ := only_some hij
          simp [upd] at hi; subst hi; simp [upd]) h1 hv'
      · obtain ⟨C, e, lo, hi, g1, g2, g3, g4, g5⟩ := (hst.1.blk _ _ _ _ _ hp hB).ex
        refine ⟨C, e, lo, hi, g1, g2, g3, fun o v hv => ?_, g5⟩
        obtain ⟨rv, g6, g7⟩ := g4 o v hv
        exact ⟨rv, g6, R.closed (Cont.at_closed hpl hv) g7⟩
    unfold endG at hk
    split at hk
    · rename_i hcl
      simp only [Option.some.injEq, Prod.mk.injEq] at hk
      obtain ⟨rfl, rfl⟩ := hk
      refine callTo_of_calls hf hb hn (hc.mono fun e w' ⟨σ', rv, he, _, hv, hst⟩ => ⟨rv, he, ?_, hv.closed hcl⟩)
      exact Below.mk hst.1.os hst.1.tape hst.1.output hst.1.size (fun k hk => hst.1.old k hk (fun h => h))
    · split at hk
      · rename_i k off _
        split at hk
        · rename_i B hB
          rw [nth_eq] at hB
          obtain ⟨hc1, hk⟩ := bif_some hk
          simp only [Bool.and_eq_true] at hc1
          simp only [Option.some.injEq, Prod.mk.injEq] at hk
          obtain ⟨rfl, rfl⟩ := hk
          intro v' hv'
          refine callTo_of_calls hf hb hn (hc.mono fun e w' ⟨σ', rv, he, _, hv, hst⟩ => ⟨rv, he, ?_⟩)
          have hp : ∃ p, σ' k = some p := by cases hv with | ptr _ _ b δ s e => exact ⟨_, e⟩
          obtain ⟨p, hp⟩ := hp
          exact fresh hst hp hB hc1.1 hc1.2 hv (v0 := .ptr 0 off) (by simp [AV.ren, only, Nat.beq_refl]) hv'
        · cases hk
      · split at hk
        · rename_i k len hkn
          split at hk
          · rename_i B hB
            rw [nth_eq] at hB
            obtain ⟨hc1, hk⟩ := bif_some hk
            simp only [Bool.and_eq_true] at hc1
            split at hk
            · rename_i v0 hv0
              simp only [Option.some.injEq, Prod.mk.injEq] at hk
              obtain ⟨rfl, rfl⟩ := hk
              intro v' hv'
              refine callTo_of_calls hf hb hn (hc.mono fun e w' ⟨σ', rv, he, _, hv, hst⟩ => ⟨rv, he, ?_⟩)
              have hpos := (Nat.blt_eq ▸ hc1.2 : _ < _)
              obtain ⟨p, hp⟩ := R.names hpos hv hkn
              exact fresh hst hp hB hc1.1.1 hc1.1.2 hv hv0 hv'
            · cases hk
          · cases hk
        · cases hk
  split at hg
  · rename_i cd v hv
    obtain ⟨hcd, hk⟩ := bif_some hg
    subst hcd
    exact ⟨v, none, hk, fun σ w real hr hm _ => key σ w real hr hm v none hv (by simp)⟩
  · rename_i cd v B hv
    obtain ⟨hcd, hk⟩ := bif_some hg
    subst hcd
    split at hk
    · rename_i v' hv'
      exact ⟨v', some B, hk, fun σ w real hr hm hn => key σ w real hr hm v (some B) hv hn v' hv'⟩
    · cases hk
  · cases hg

end Pw

namespace Pw
open Go Go.RowKit

variable {P : Program} {T : List (Nat × TE)} {ρ : Type}

/-! ### loops whose rounds make new blocks: after each round the blocks behind the first n are numbered anew -/

def idx1 : List Nat → Nat → Option Nat
  | [], _ => none
  | i :: l, k => bif Nat.beq i k then some 0 else (match idx1 l k with | some j => some (j + 1) | none => none)
theorem idx1_some : ∀ {l : List Nat} {k j : Nat}, idx1 l k = some j → l[j]? = some k
  | [], k, j, h => by simp [idx1] at h
  | i :: l, k, j, h => by
    unfold idx1 at h
    rcases bif_both h with ⟨hc, h1⟩ | ⟨hc, h1⟩
    · have := Nat.eq_of_beq_eq_true hc
      clear h
      subst this
      have h1 := Option.some.inj h1
      subst h1; rfl
    · clear h
      have h := h1
      clear h1
      split at h
      · rename_i j' hj
        cases h
        simpa using idx1_some hj
      · cases h
theorem idx1_of : ∀ {l : List Nat} {k j : Nat}, l[j]? = some k → ∃ j', idx1 l k = some j'
  | [], k, j, h => by simp at h
  | i :: l, k, 0, h => by
    simp at h; subst h
    exact ⟨0, by simp [idx1, Nat.beq_refl]⟩
  | i :: l, k, j + 1, h => by
    obtain ⟨j', hj⟩ := idx1_of (l := l) (k := k) (j := j) (by simpa using h)
    unfold idx1
    rw [hj]
    cases Nat.beq i k
    · exact ⟨_, rfl⟩
    · exact ⟨_, rfl⟩
def dist1 : List Nat → Bool
  | [] => true
  | i :: l => match idx1 l i with
    | none => dist1 l
    | some _ => false
theorem dist1_spec : ∀ {l : List Nat}, dist1 l = true → ∀ {a b k : Nat}, l[a]? = some k → l[b]? = some k → a = b
  | [], _, a, b, k, ha, _ => by simp at ha
  | i :: l, h, a, b, k, ha, hb => by
    unfold dist1 at h
    split at h
    · rename_i hn
      cases a with
      | zero =>
        simp at ha; subst ha
        cases b with
        | zero => rfl
        | succ b =>
          obtain ⟨j, hj⟩ := idx1_of (l := l) (k := i) (j := b) (by simpa using hb)
          rw [hn] at hj; cases hj
      | succ a =>
        cases b with
        | zero =>
          simp at hb; subst hb
          obtain ⟨j, hj⟩ := idx1_of (l := l) (k := i) (j := a) (by simpa using ha)
          rw [hn] at hj; cases hj
        | succ b => exact congrArg (· + 1) (dist1_spec (l := l) h (k := k) (by simpa using ha) (by simpa using hb))
    · cases h

def gcF (n : Nat) (src : List Nat) (i : Nat) : Option Nat := match idx1 src i with
  | some t => some (n + t)
  | none => bif Nat.blt i n then some i else none

/-- the first n blocks, those that move made dead -/
def gcLow (f : Nat → Option Nat) (src : List Nat) : Mem → Nat → Nat → Option Mem
  | _, _, 0 => some []
  | [], _, _ + 1 => none
  | B :: m, i, k + 1 => match idx1 src i with
    | some _ => (match gcLow f src m (i + 1) k with | some m' => some (dead :: m') | none => none)
    | none => (match B.ren f none with
      | some B' => (match gcLow f src m (i + 1) k with | some m' => some (B' :: m') | none => none)
      | none => none)
def gcHigh (f : Nat → Option Nat) (mem : Mem) : List Nat → Option Mem
  | [] => some []
  | i :: l => match nth mem i with
    | some B => (match B.ren f none with
      | some B' => (match gcHigh f mem l with | some m' => some (B' :: m') | none => none)
      | none => none)
    | none => none

theorem gcLow_spec {f : Nat → Option Nat} {src : List Nat} : ∀ {k i : Nat} {m m' : Mem}, gcLow f src m i k = some m' → m'.length = k ∧ ∀ (j : Nat) (B' : Blk), m'[j]? = some B' →
    (B' = dead ∧ (∃ t, idx1 src (i + j) = some t) ∧ ∃ B, m[j]? = some B) ∨ (idx1 src (i + j) = none ∧ ∃ B : Blk, m[j]? = some B ∧ B.ren f none = some B')
  | 0, i, m, m', h => by
    unfold gcLow at h
    cases h; exact ⟨rfl, fun j B' h => by simp at h⟩
  | k + 1, i, [], m', h => by simp [gcLow] at h
  | k + 1, i, B :: m, m', h => by
    unfold gcLow at h
    split at h
    · rename_i t ht
      split at h
      · rename_i m2 hm
        cases h
        obtain ⟨h1, h2⟩ := gcLow_spec hm
        refine ⟨by simp [h1], fun j B' hj => ?_⟩
        cases j with
        | zero => simp at hj; exact .inl ⟨hj.symm, ⟨t, ht⟩, B, rfl⟩
        | succ j =>
          have := h2 j B' (by simpa using hj)
          rw [show i + 1 + j = i + (j + 1) by omega] at this
          simpa using this
      · cases h
    · rename_i hn
      split at h
      · rename_i B2 hB
        split at h
        · rename_i m2 hm
          cases h
          obtain ⟨h1, h2⟩ := gcLow_spec hm
          refine ⟨by simp [h1], fun j B' hj => ?_⟩
          cases j with
          | zero => simp at hj; subst hj; exact .inr ⟨hn, B, rfl, hB⟩
          | succ j =>
            have := h2 j B' (by simpa using hj)
            rw [show i + 1 + j = i + (j + 1) by omega] at this
            simpa using this
        · cases h
      · cases h
theorem gcHigh_spec {f : Nat → Option Nat} {mem : Mem} : ∀ {l : List Nat} {m' : Mem}, gcHigh f mem l = some m' → m'.length = l.length ∧ ∀ (t : Nat) (B' : Blk), m'[t]? = some B' → ∃ (i : Nat) (B : Blk), l[t]? = some i ∧ mem[i]? = some B ∧ B.ren f none = some B'
  | [], m', h => by simp [gcHigh] at h; subst h; exact ⟨rfl, fun t B' h => by simp at h⟩
  | i :: l, m', h => by
    unfold gcHigh at h
    split at h
    · rename_i B hB
      split at h
      · rename_i B2 hB2
        split at h
        · rename_i m2 hm
          cases h
          obtain ⟨h1, h2⟩ := gcHigh_spec hm
          refine ⟨by simp [h1], fun t B' ht => ?_⟩
          cases t with
          | zero => simp at ht; subst ht; exact ⟨i, B, rfl, by rw [← nth_eq]; exact hB, hB2⟩
          | succ t => simpa using h2 t B' (by simpa using ht)
        · cases h
      · cases h
    · cases h

def gcE (f : Nat → Option Nat) : Env → Env
  | [] => []
  | (t, v) :: r => match v.ren f none with
    | some v' => (t, v') :: gcE f r
    | none => (t, .unk) :: gcE f r
theorem gcE_look {f : Nat → Option Nat} {t : Nat} : ∀ (env : Env), look t (gcE f env) = (match (look t env).ren f none with | some v => v | none => .unk)
  | [] => by simp [gcE, look, AV.ren, AV.closed]
  | (s, v) :: r => by
    unfold gcE
    by_cases e : s = t
    · subst e
      split
      · rename_i v' hv; simp [look, Nat.beq_refl, hv]
      · rename_i hv; simp [look, Nat.beq_refl, hv]
    · split <;> (rw [look_cons, if_neg e, look_cons, if_neg e]; exact gcE_look r)

def gcK (n : Nat) (src : List Nat) (env : Env) (mem : Mem) : Option (Env × Mem) := bif dist1 src then (match gcLow (gcF n src) src mem 0 n, gcHigh (gcF n src) mem src with
  | some lo, some hi => some (gcE (gcF n src) env, lo ++ hi)
  | _, _ => none) else none

def ExtN (n : Nat) (σ σ' : Ren) : Prop := ∀ i p, i < n → σ i = some p → σ' i = some p
theorem ExtN.trans {n : Nat} {a b c : Ren} (h : ExtN n a b) (k : ExtN n b c) : ExtN n a c := fun i p hi hp => k i p hi (h i p hi hp)

theorem gc_sound {n : Nat} {src : List Nat} {env env' : Env} {mem mem' : Mem} (h : gcK n src env mem = some (env', mem')) {W : World} {Wr : Nat → Prop} {nt : Nat} {σ : Ren} {a : Act} {w : World} (hf : FrR W Wr nt σ env mem a w) :
    ∃ σ', ExtN n σ σ' ∧ FrR W Wr nt σ' env' mem' a w := by
  unfold gcK at h
  obtain ⟨hd, h⟩ := bif_some h
  split at h
  case h_2 => cases h
  rename_i lo hi hlo hhi
  cases h
  obtain ⟨l1, l2⟩ := gcLow_spec hlo
  obtain ⟨h1, h2⟩ := gcHigh_spec hhi
  let σ' : Ren := fun j => if j < n then σ j else match src[j - n]? with | some i => σ i | none => none
  have e1 : ∀ {j : Nat}, j < n → σ' j = σ j := fun {j} hj => by show (if j < n then _ else _) = _; rw [if_pos hj]
  have e2 : ∀ {t i : Nat}, src[t]? = some i → σ' (n + t) = σ i := fun {t i} ht => by
    show (if n + t < n then _ else _) = _
    rw [if_neg (by omega), Nat.add_sub_cancel_left, ht]
  have e3 : ∀ {j : Nat} {p : Nat × Nat × Nat}, σ' j = some p → ¬ j < n → ∃ t i, j = n + t ∧ src[t]? = some i ∧ σ i = some p := fun {j p} hj hn => by
    have hj : (if j < n then σ j else match src[j - n]? with | some i => σ i | none => none) = some p := hj
    rw [if_neg hn] at hj
    split at hj
    · rename_i i hi'; exact ⟨j - n, i, by omega, hi', hj⟩
    · cases hj
  have hren : ∀ i j p, gcF n src i = some j → σ i = some p → σ' j = some p := by
    intro i j p hij hi'
    unfold gcF at hij
    split at hij
    · rename_i t ht
      cases hij
      rw [e2 (idx1_some ht)]; exact hi'
    · obtain ⟨hlt, hij⟩ := bif_some hij
      cases hij
      have : i < n := by simpa [Nat.blt_eq] using hlt
      rw [e1 this]; exact hi'
  have hst := hf.st
  -- where a block of the new memory comes from
  have horig : ∀ {j b δ s : Nat} {B' : Blk}, σ' j = some (b, δ, s) → (lo ++ hi)[j]? = some B' →
      (B' = dead ∧ σ j = some (b, δ, s) ∧ j < n ∧ ∃ B, mem[j]? = some B) ∨ (∃ i B, σ i = some (b, δ, s) ∧ mem[i]? = some B ∧ B.ren (gcF n src) none = some B' ∧ ((j < n ∧ i = j ∧ idx1 src i = none) ∨ ∃ t, j = n + t ∧ src[t]? = some i)) := by
    intro j b δ s B' hj hB
    by_cases hn : j < n
    · rw [e1 hn] at hj
      rw [List.getElem?_append_left (by omega)] at hB
      rcases l2 j B' hB with ⟨q1, _, q3⟩ | ⟨q1, B, q2, q3⟩
      · exact .inl ⟨q1, hj, hn, q3⟩
      · exact .inr ⟨j, B, hj, q2, q3, .inl ⟨hn, rfl, by simpa using q1⟩⟩
    · obtain ⟨t, i, rfl, ht, hi'⟩ := e3 hj hn
      rw [List.getElem?_append_right (by omega), l1, Nat.add_sub_cancel_left] at hB
      obtain ⟨i', B, q1, q2, q3⟩ := h2 t B' hB
      rw [ht] at q1; cases q1
      exact .inr ⟨i, B, hi', q2, q3, .inr ⟨t, rfl, ht⟩⟩
  have hsame : ∀ {j1 j2 i1 i2 : Nat}, j1 ≠ j2 → ((j1 < n ∧ i1 = j1 ∧ idx1 src i1 = none) ∨ ∃ t, j1 = n + t ∧ src[t]? = some i1) → ((j2 < n ∧ i2 = j2 ∧ idx1 src i2 = none) ∨ ∃ t, j2 = n + t ∧ src[t]? = some i2) → i1 ≠ i2 := by
    intro j1 j2 i1 i2 hne h1 h2 he
    subst he
    rcases h1 with ⟨_, rfl, a3⟩ | ⟨t, rfl, ht⟩
    · rcases h2 with ⟨_, rfl, _⟩ | ⟨t, rfl, ht⟩
      · exact hne rfl
      · obtain ⟨q, hq⟩ := idx1_of ht
        rw [a3] at hq; cases hq
    · rcases h2 with ⟨_, rfl, a3⟩ | ⟨t', rfl, ht'⟩
      · obtain ⟨q, hq⟩ := idx1_of ht
        rw [a3] at hq; cases hq
      · have := dist1_spec hd ht ht'
        subst this; exact hne rfl
  refine ⟨σ', fun i p hi' hp => by rw [e1 hi']; exact hp, ⟨⟨⟨hst.1.os, hst.1.tape, hst.1.output, hst.1.size, hst.1.old, ?_, ?_, ?_, ?_⟩, ?_⟩, ⟨hf.env.size, fun t => ?_⟩⟩⟩
  · intro j b δ s hj
    by_cases hn : j < n
    · rw [e1 hn] at hj; exact hst.1.dom _ _ _ _ hj
    · obtain ⟨t, i, _, _, hi'⟩ := e3 hj hn
      exact hst.1.dom _ _ _ _ hi'
  · intro j b δ s B' hj hB
    rcases horig hj hB with ⟨rfl, q2, _, B, q3⟩ | ⟨i, B, q1, q2, q3, _⟩
    · obtain ⟨C, e, lo', hi', g1, g2, g3, g4, g5⟩ := (hst.1.blk _ _ _ _ _ q2 q3).ex
      exact ⟨C, e, lo', hi', g1, g2, by simp [dead, Cont.size], fun o v hv => by simp [dead, Cont.at?] at hv, fun hw => by simp [dead] at hw⟩
    · exact ((hst.1.blk _ _ _ _ _ q1 q2).ren hren q3).1
  · intro j b δ s B' hj hB hw
    rcases horig hj hB with ⟨rfl, _⟩ | ⟨i, B, q1, q2, q3, _⟩
    · simp [dead] at hw
    · have := ((hst.1.blk _ _ _ _ _ q1 q2).ren hren q3).2.1
      exact hst.1.wrs _ _ _ _ _ q1 q2 (by rw [← this]; exact hw)
  · intro j1 j2 b1 δ1 s1 b2 δ2 s2 B1 B2 hj1 hj2 hne hB1 hB2 hw hz
    rcases horig hj1 hB1 with ⟨rfl, _⟩ | ⟨i1, X1, q1, q2, q3, q4⟩
    · simp [dead] at hw
    · rcases horig hj2 hB2 with ⟨rfl, _⟩ | ⟨i2, X2, z1, z2, z3, z4⟩
      · rcases hz with hz | hz
        · simp [dead] at hz
        · simp [dead, Cont.size] at hz
      · have r1 := (hst.1.blk _ _ _ _ _ q1 q2).ren hren q3
        have r2 := (hst.1.blk _ _ _ _ _ z1 z2).ren hren z3
        exact hst.1.inj _ _ _ _ _ _ _ _ _ _ q1 z1 (hsame hne q4 z4) q2 z2 (by rw [← r1.2.1]; exact hw) (by rw [← r2.2.1, ← r2.2.2]; exact hz)
  · intro j p hj
    rw [List.length_append, l1, h1]
    by_cases hn : j < n
    · omega
    · obtain ⟨t, i, rfl, ht, _⟩ := e3 hj hn
      have := (List.getElem?_eq_some_iff.1 ht).1
      omega
  · rw [gcE_look]
    split
    · rename_i v hv
      exact (hf.env.slot t).ren hren hv
    · exact .unk _

/-- how a piece of code goes on, where just the first n numbers stay -/
def GoesN (n nt : Nat) (env : Env) (mem : Mem) (e : Ex) (env' : Env) (mem' : Mem) (wp : (Exit → Act → World → Prop) → Act → World → Prop) : Prop :=
  ∀ (W : World) (Wr : Nat → Prop) (σ : Ren) (a : Act) (w : World) (Q : Exit → Act → World → Prop), FrR W Wr nt σ env mem a w →
    (∀ σ' a' w', ExtN n σ σ' → FrR W Wr nt σ' env' mem' a' w' → a'.defers = a.defers → Q e.toExit a' w') → wp Q a w

theorem Goes.gc {n nt : Nat} {env env' env2 : Env} {mem mem' mem2 : Mem} {e : Ex} {wp : (Exit → Act → World → Prop) → Act → World → Prop} (h : Goes nt env mem e env' mem' wp) {src : List Nat} (hg : gcK n src env' mem' = some (env2, mem2)) :
    GoesN n nt env mem e env2 mem2 wp :=
  fun W Wr σ a w Q hf hq => h W Wr σ a w Q hf fun σ' a' w' he hf' hd => by
    obtain ⟨σ2, h1, h2⟩ := gc_sound hg hf'
    exact hq σ2 a' w' (fun i p hi hp => h1 i p hi (he i p hp)) h2 hd
theorem Goes.n {n nt : Nat} {env env' : Env} {mem mem' : Mem} {e : Ex} {wp : (Exit → Act → World → Prop) → Act → World → Prop} (h : Goes nt env mem e env' mem' wp) : GoesN n nt env mem e env' mem' wp :=
  fun W Wr σ a w Q hf hq => h W Wr σ a w Q hf fun σ' a' w' he hf' hd => hq σ' a' w' (fun i p _ hp => he i p hp) hf' hd

theorem rounds_of_stepsN {n nt N : Nat} {body : Code} {E : Nat → Env} {M : Nat → Mem} {e : Ex} {E' : Env} {M' : Mem} (hne : e ≠ .normal)
    (step : ∀ i, i < N → GoesN n nt (E i) (M i) .normal (E (i + 1)) (M (i + 1)) (fun Q a w => body.wp P Q a w)) (fin : GoesN n nt (E N) (M N) e E' M' (fun Q a w => body.wp P Q a w)) :
    ∀ (d i : Nat), i + d = N → GoesN n nt (E i) (M i) e E' M' (fun Q a w => Code.rounds P body Q (d + 1) a w)
  | 0, i, hi => by
    have : i = N := by omega
    subst this
    intro W Wr σ a w Q hf hq
    exact fin W Wr σ a w _ hf fun σ' a' w' he hf' hd => by
      cases e with
      | normal => exact absurd rfl hne
      | exit j => exact hq σ' a' w' he hf' hd
      | ret => exact hq σ' a' w' he hf' hd
  | d + 1, i, hi => by
    intro W Wr σ a w Q hf hq
    exact step i (by omega) W Wr σ a w _ hf fun σ' a' w' he hf' hd =>
      rounds_of_stepsN hne step fin d (i + 1) (by omega) W Wr σ' a' w' Q hf' fun σ2 a2 w2 he2 hf2 hd2 => hq σ2 a2 w2 (he.trans he2) hf2 (hd2.trans hd)

/-- the end of a round: what is not looked at any more is left out, the blocks numbered anew -/
def outG (ts : List Nat) (n : Nat) (srcN srcX : List Nat) : Ex → Env → Mem → Option (Ex × Env × Mem) := fun e env mem =>
  match (match e with | .normal => gcK n srcN (prune env ts) mem | _ => gcK n srcX (prune env ts) mem) with
  | some (env', mem') => some (e, env', mem')
  | none => none

theorem goesN_of_out {X : Cx} (hX : CxOK P X) {L : Loops} {n nt : Nat} {keep ts srcN srcX : List Nat} {fuel : Nat} {c : Code} (hL : LoopsOK P nt L c) {env env' : Env} {mem mem' : Mem} {e : Ex}
    (h : codeK X L nt keep fuel c env mem (outG ts n srcN srcX) = some (e, env', mem')) : GoesN n nt env mem e env' mem' (fun Q a w => c.wp P Q a w) := by
  obtain ⟨e1, env1, mem1, h1, h2, -⟩ := codeK_sound hX fuel c hL _ _ _ _ h
  unfold outG at h1
  split at h1
  · rename_i env2 mem2 hg
    simp only [Option.some.injEq, Prod.mk.injEq] at h1
    obtain ⟨rfl, rfl, rfl⟩ := h1
    cases e1 with
    | normal => exact (h2.prune ts).gc hg
    | exit j => exact (h2.prune ts).gc hg
    | ret => exact (h2.prune ts).gc hg
  · cases h1

/-- a loop told by a state, its memory in other words inside and its new blocks numbered anew after each round -/
structure LoopDefG (S : Type) where
  ts : List Nat
  n : Nat
  src0 : List Nat
  srcN : List Nat
  srcX : List Nat
  E : S → Env
  M : S → Mem
  Mo : S → Mem
  dec : List AV → Mem → Option S
  ok : ∀ vs mem s, dec vs mem = some s → mem.length = n ∧ ∃ M0 E0 M1, MemEq mem M0 ∧ gcK n src0 (zipE ts vs) M0 = some (E0, M1) ∧ E0 = E s ∧ MemEq M1 (M s)

def LoopDefG.fn {S : Type} (d : LoopDefG S) (guard : S → Bool) (ex : Ex) (fin : S → S) : LoopFn := fun env mem _ K => match d.dec (live d.ts env) mem with
  | some s => bif guard s then K ex (d.E (fin s)) (d.Mo (fin s)) else none
  | none => none

theorem LoopDefG.loop {S : Type} (d : LoopDefG S) {guard : S → Bool} {ex : Ex} {fin : S → S} {X : Cx} (hX : CxOK P X) {L : Loops} {nt : Nat} {keep : List Nat} {body : Code} (hL : LoopsOK P nt L body) (hne : ex ≠ .normal)
    (h : ∀ s, guard s = true → ∃ (N : Nat) (at_ : Nat → S), at_ 0 = s ∧ MemEq (d.M (fin s)) (d.Mo (fin s)) ∧
      (∀ i, i < N → ∃ fuel, codeK X L nt keep fuel body (d.E (at_ i)) (d.M (at_ i)) (outG d.ts d.n d.srcN d.srcX) = some (.normal, d.E (at_ (i + 1)), d.M (at_ (i + 1)))) ∧
      ∃ fuel, codeK X L nt keep fuel body (d.E (at_ N)) (d.M (at_ N)) (outG d.ts d.n d.srcN d.srcX) = some (ex, d.E (fin s), d.M (fin s))) : LoopAt P nt body (d.fn guard ex fin) := by
  intro env mem ρ K r hg
  unfold LoopDefG.fn at hg
  split at hg
  · rename_i s hs
    obtain ⟨hgd, hg⟩ := bif_some hg
    obtain ⟨hlen, M0, E0, M1, q1, q2, q3, q4⟩ := d.ok _ _ _ hs
    obtain ⟨N, at_, e0, hM, h3, fuel, h4⟩ := h s hgd
    have key := rounds_of_stepsN (P := P) (n := d.n) (nt := nt) (E := fun i => d.E (at_ i)) (M := fun i => d.M (at_ i)) hne (fun i hi => by obtain ⟨f, hf⟩ := h3 i hi; exact goesN_of_out hX hL hf) (goesN_of_out hX hL h4) N 0 (by omega)
    refine ⟨ex, _, _, hg, N + 1, fun W Wr σ a w Q hf hq => ?_⟩
    have hf1 : FrR W Wr nt σ (zipE d.ts (live d.ts env)) M0 a w := ⟨hf.st.eqv q1, by rw [← prune_live]; exact hf.env.prune d.ts⟩
    obtain ⟨σ1, x1, hf2⟩ := gc_sound q2 hf1
    refine key W Wr σ1 a w Q ?_ fun σ' a' w' he hf' hd => hq σ' a' w' (fun i p hp => he i p ?_ (x1 i p ?_ hp)) ⟨hf'.st.eqv hM, hf'.env⟩ hd
    · show FrR W Wr nt σ1 (d.E (at_ 0)) (d.M (at_ 0)) a w
      rw [e0, ← q3]
      exact ⟨hf2.st.eqv q4, hf2.env⟩
    · rw [← hlen]; exact hf.st.2 i p hp
    · rw [← hlen]; exact hf.st.2 i p hp
  · cases hg

end Pw

namespace Pw
open Go

/-! ### SHA-512 in plain: as the program reckons (P) and as the document does (R) -/

def KW : List Nat := [4794697086780616226, 8158064640168781261, 13096744586834688815, 16840607885511220156, 4131703408338449720, 6480981068601479193, 10538285296894168987, 12329834152419229976, 15566598209576043074, 1334009975649890238, 2608012711638119052, 6128411473006802146, 8268148722764581231, 9286055187155687089, 11230858885718282805, 13951009754708518548, 16472876342353939154, 17275323862435702243, 1135362057144423861, 2597628984639134821, 3308224258029322869, 5365058923640841347, 6679025012923562964, 8573033837759648693, 10970295158949994411, 12119686244451234320, 12683024718118986047, 13788192230050041572, 14330467153632333762, 15395433587784984357, 489312712824947311, 1452737877330783856, 2861767655752347644, 3322285676063803686, 5560940570517711597, 5996557281743188959, 7280758554555802590, 8532644243296465576, 9350256976987008742, 10552545826968843579, 11727347734174303076, 12113106623233404929, 14000437183269869457, 14369950271660146224, 15101387698204529176, 15463397548674623760, 17586052441742319658, 1182934255886127544, 1847814050463011016, 2177327727835720531, 2830643537854262169, 3796741975233480872, 4115178125766777443, 5681478168544905931, 6601373596472566643, 7507060721942968483, 8399075790359081724, 8693463985226723168, 9568029438360202098, 10144078919501101548, 10430055236837252648, 11840083180663258601, 13761210420658862357, 14299343276471374635, 14566680578165727644, 15097957966210449927, 16922976911328602910, 17689382322260857208, 500013540394364858, 748580250866718886, 1242879168328830382, 1977374033974150939, 2944078676154940804, 3659926193048069267, 4368137639120453308, 4836135668995329356, 5532061633213252278, 6448918945643986474, 6902733635092675308, 7801388544844847127]
def SW : List Nat := [7640891576956012808, 13503953896175478587, 4354685564936845355, 11912009170470909681, 5840696475078001361, 11170449401992604703, 2270897969802886507, 6620516959819538809]

def rotS (n : Int) : Nat := ((w64 (0 - n)) % 18446744073709551616).toNat &&& 63
def rotP (x : Nat) (n : Int) : Nat := (x * 2 ^ (min (rotS n) 64) % 2 ^ 64) ||| (x / 2 ^ (min ((64 + (2 ^ 64 - rotS n)) % 2 ^ 64) 64))
def rotR (x : Nat) (n : Int) : Nat := (x / 2 ^ (min n.toNat 64) + x * 2 ^ (min (w64 (64 - n)).toNat 64) % 2 ^ 64) % 2 ^ 64

def addw (a b : Nat) : Nat := (a + b) % 2 ^ 64
def notw (a : Nat) : Nat := 2 ^ 64 - 1 - a
def putP (w x : Nat) : Nat := (w * 2 ^ (min 8 64) % 2 ^ 64) ||| x
def putR (w x : Nat) : Nat := addw (w * 256 % 2 ^ 64) x
def wordW (put : Nat → Nat → Nat) (b : List Nat) (t : Nat) : Nat := (List.range 8).foldl (fun w i => put w (b.getD (8 * t + i) 0)) 0
def firstW (put : Nat → Nat → Nat) (b : List Nat) : List Nat := (List.range 16).map (wordW put b) ++ List.replicate 64 0
def sg0 (rot : Nat → Int → Nat) (x : Nat) : Nat := rot x 1 ^^^ rot x 8 ^^^ x / 2 ^ (min 7 64)
def sg1 (rot : Nat → Int → Nat) (x : Nat) : Nat := rot x 19 ^^^ rot x 61 ^^^ x / 2 ^ (min 6 64)
def newP (a b c d : Nat) : Nat := addw (addw (addw a (sg0 rotP b)) c) (sg1 rotP d)
def newR (a b c d : Nat) : Nat := addw (addw (addw (sg1 rotR d) c) (sg0 rotR b)) a
def schStep (nw : Nat → Nat → Nat → Nat → Nat) (w : List Nat) (t : Nat) : List Nat := w.set t (nw (w.getD (t - 16) 0) (w.getD (t - 15) 0) (w.getD (t - 7) 0) (w.getD (t - 2) 0))
def sched (nw : Nat → Nat → Nat → Nat → Nat) (w : List Nat) : Nat → List Nat
  | 0 => w
  | i + 1 => schStep nw (sched nw w i) (16 + i)
def wordsP (b : List Nat) : List Nat := sched newP (firstW putP b) 64
def wordsR (b : List Nat) : List Nat := sched newR (firstW putR b) 64

structure R8 where
  a : Nat
  b : Nat
  c : Nat
  d : Nat
  e : Nat
  f : Nat
  g : Nat
  h : Nat
def oneW (rot : Nat → Int → Nat) (k w : Nat) (s : R8) : Nat := addw (addw (addw (addw s.h (rot s.e 14 ^^^ rot s.e 18 ^^^ rot s.e 41)) ((s.e &&& s.f) ^^^ (notw s.e &&& s.g))) k) w
def twoW (rot : Nat → Int → Nat) (s : R8) : Nat := addw (rot s.a 28 ^^^ rot s.a 34 ^^^ rot s.a 39) ((s.a &&& s.b) ^^^ (s.a &&& s.c) ^^^ (s.b &&& s.c))
def roundW (rot : Nat → Int → Nat) (k w : Nat) (s : R8) : R8 := ⟨addw (oneW rot k w s) (twoW rot s), s.a, s.b, s.c, addw s.d (oneW rot k w s), s.e, s.f, s.g⟩
def roundsW (rot : Nat → Int → Nat) (k w : List Nat) (s : R8) : Nat → R8
  | 0 => s
  | t + 1 => roundW rot (k.getD t 0) (w.getD t 0) (roundsW rot k w s t)
def r8 (l : List Nat) : R8 := ⟨l.getD 0 0, l.getD 1 0, l.getD 2 0, l.getD 3 0, l.getD 4 0, l.getD 5 0, l.getD 6 0, l.getD 7 0⟩
def R8.toList (s : R8) : List Nat := [s.a, s.b, s.c, s.d, s.e, s.f, s.g, s.h]
def plus8 (h : List Nat) (s : R8) : List Nat := [addw (h.getD 0 0) s.a, addw (h.getD 1 0) s.b, addw (h.getD 2 0) s.c, addw (h.getD 3 0) s.d, addw (h.getD 4 0) s.e, addw (h.getD 5 0) s.f, addw (h.getD 6 0) s.g, addw (h.getD 7 0) s.h]
/-- the first n of a list -/
def resp (n : Nat) (l : List Nat) : List Nat := (List.range n).map fun i => l.getD i 0
def rnd80 (rot : Nat → Int → Nat) (k w : List Nat) (s : R8) : R8 := roundsW rot k w s 80
def blockP (h b : List Nat) : List Nat := plus8 h (rnd80 rotP KW (resp 80 (wordsP b)) (r8 h))
def blockR (h b : List Nat) : List Nat := plus8 h (rnd80 rotR KW (resp 80 (wordsR b)) (r8 h))

def w8V (l : List Nat) : AV := arrV .u64 8 l
def w8? (v : AV) : Option (List Nat) := arr? .u64 8 v
theorem w8?_some {v : AV} {l : List Nat} (h : w8? v = some l) : v = w8V l := (arr?_some h).1
def w80V (l : List Nat) : AV := arrV .u64 80 l
def w80? (v : AV) : Option (List Nat) := arr? .u64 80 v
theorem w80?_some {v : AV} {l : List Nat} (h : w80? v = some l) : v = w80V l := (arr?_some h).1
def b128V (l : List Nat) : AV := arrV .u8 128 l
def b128? (v : AV) : Option (List Nat) := arr? .u8 128 v
theorem b128?_some {v : AV} {l : List Nat} (h : b128? v = some l) : v = b128V l := (arr?_some h).1
def b64V (l : List Nat) : AV := arrV .u8 64 l
def b64? (v : AV) : Option (List Nat) := arr? .u8 64 v
theorem b64?_some {v : AV} {l : List Nat} (h : b64? v = some l) : v = b64V l := (arr?_some h).1
end Pw

namespace Pw
open Go

/-! ### eight bytes of a number, the highest first; the padding -/

/-- the first i of the eight bytes, then zeros -/
def beW (x i : Nat) : List Nat := (List.range 8).map fun j => if j < i then x / 2 ^ (56 - 8 * j) % 2 ^ 8 else 0
theorem beW_len (x i : Nat) : (beW x i).length = 8 := by unfold beW; simp
theorem beW_set {x i : Nat} (h : i < 8) : (beW x i).set i (x / 2 ^ (56 - 8 * i) % 2 ^ 8) = beW x (i + 1) := by
  refine List.ext_getElem? fun k => ?_
  unfold beW
  rw [List.getElem?_set, List.length_map, List.length_range]
  by_cases e : i = k
  · subst e
    rw [if_pos rfl, if_pos h, List.getElem?_map, List.getElem?_range h, Option.map_some, if_pos (by omega)]
  · rw [if_neg e, List.getElem?_map, List.getElem?_map]
    by_cases hk : k < 8
    · rw [List.getElem?_range hk, Option.map_some, Option.map_some]
      congr 1
      by_cases h1 : k < i
      · rw [if_pos h1, if_pos (by omega)]
      · rw [if_neg h1, if_neg (by omega)]
    · rw [List.getElem?_eq_none (by simp; omega)]; rfl
theorem set_right (z : Nat) (l : List Nat) (i v : Nat) : (List.replicate z 0 ++ l).set (z + i) v = List.replicate z 0 ++ l.set i v := by
  rw [List.set_append_right _ _ (by simp), List.length_replicate, Nat.add_sub_cancel_left]
theorem set_left {a b : List Nat} {i v : Nat} (h : i < a.length) : (a ++ b).set i v = a.set i v ++ b := List.set_append_left _ _ h
theorem set_app (a b : List Nat) (i v : Nat) : (a ++ b).set (a.length + i) v = a ++ b.set i v := by
  rw [List.set_append_right _ _ (by omega), Nat.add_sub_cancel_left]
/-- the padding with i bytes of each number -/
def pdT (z hi lo i : Nat) : List Nat := 128 :: (List.replicate z 0 ++ (beW hi i ++ beW lo i))
theorem pdT_set {z hi lo i : Nat} (h : i < 8) : ((pdT z hi lo i).set (z + i + 1) (hi / 2 ^ (56 - 8 * i) % 2 ^ 8)).set (z + (8 + i) + 1) (lo / 2 ^ (56 - 8 * i) % 2 ^ 8) = pdT z hi lo (i + 1) := by
  unfold pdT
  have e1 : (beW hi i ++ beW lo i).set i (hi / 2 ^ (56 - 8 * i) % 2 ^ 8) = beW hi (i + 1) ++ beW lo i := by rw [set_left (by rw [beW_len]; exact h), beW_set h]
  have e := set_app (beW hi (i + 1)) (beW lo i) i (lo / 2 ^ (56 - 8 * i) % 2 ^ 8)
  rw [beW_len, beW_set h] at e
  rw [List.set_cons_succ, List.set_cons_succ, set_right, e1, set_right, e]
theorem pdT_len (z hi lo i : Nat) : (pdT z hi lo i).length = z + 17 := by unfold pdT; simp [beW_len]
def be8 (x : Nat) : List Nat := beW x 8
def padZ (n : Nat) : Nat := (111 + 128 - n % 128) % 128
def padL (n : Nat) : List Nat := pdT (padZ n) (n / 2 ^ 61) (n * 8 % 2 ^ 64) 8
theorem be8_len (x : Nat) : (be8 x).length = 8 := beW_len x 8
theorem padL_len (n : Nat) : (padL n).length = padZ n + 17 := pdT_len _ _ _ _
end Pw

namespace Pw
open Go

/-! ### the program's block is the document's -/

theorem rotS_nat : ∀ n : Fin 64, 0 < n.val → rotS (n.val : Int) = 64 - n.val := by decide +kernel

theorem or_add {a b m : Nat} (h : b < 2 ^ m) : (a * 2 ^ m) ||| b = b + a * 2 ^ m := by
  rw [Nat.mul_comm a, ← Nat.two_pow_add_eq_or_of_lt h, Nat.add_comm]

theorem shl_mod {x n m : Nat} (h : n + m = 64) : x * 2 ^ m % 2 ^ 64 = (x % 2 ^ n) * 2 ^ m := by
  rw [← h, Nat.pow_add, Nat.mul_mod_mul_right]

theorem rot_eq {x : Nat} (hx : x < 2 ^ 64) {n : Nat} (h0 : 0 < n) (h1 : n < 64) : rotP x (n : Int) = rotR x (n : Int) := by
  have hs : rotS (n : Int) = 64 - n := rotS_nat ⟨n, h1⟩ h0
  have e1 : min (rotS (n : Int)) 64 = 64 - n := by rw [hs]; omega
  have e2 : min ((64 + (2 ^ 64 - rotS (n : Int))) % 2 ^ 64) 64 = n := by rw [hs]; omega
  have e3 : min (n : Int).toNat 64 = n := by omega
  have e4 : min (w64 (64 - (n : Int))).toNat 64 = 64 - n := by rw [w64_id (by omega) (by omega)]; omega
  unfold rotP rotR
  rw [e1, e2, e3, e4, shl_mod (x := x) (n := n) (m := 64 - n) (by omega)]
  have hb : x / 2 ^ n < 2 ^ (64 - n) := by
    rw [Nat.div_lt_iff_lt_mul (Nat.two_pow_pos _), ← Nat.pow_add, show 64 - n + n = 64 by omega]; exact hx
  rw [or_add hb]
  refine (Nat.mod_eq_of_lt ?_).symm
  have h2 : x % 2 ^ n + 1 ≤ 2 ^ n := Nat.mod_lt _ (Nat.two_pow_pos _)
  have h3 : (x % 2 ^ n + 1) * 2 ^ (64 - n) ≤ 2 ^ n * 2 ^ (64 - n) := Nat.mul_le_mul_right _ h2
  rw [← Nat.pow_add, show n + (64 - n) = 64 by omega, Nat.succ_mul] at h3
  omega
theorem rotR_lt (x : Nat) (n : Int) : rotR x n < 2 ^ 64 := Nat.mod_lt _ (by decide)
theorem addw_lt (a b : Nat) : addw a b < 2 ^ 64 := Nat.mod_lt _ (by decide)

theorem put_eq (w : Nat) {x : Nat} (hx : x < 256) : putP w x = putR w x := by
  unfold putP putR addw
  rw [show min 8 64 = 8 by decide, show w * 256 % 2 ^ 64 = (w % 2 ^ 56) * 2 ^ 8 from shl_mod (x := w) (n := 56) (m := 8) (by decide), or_add hx]
  rw [Nat.add_comm]
  refine (Nat.mod_eq_of_lt ?_).symm
  have h2 : w % 2 ^ 56 < 2 ^ 56 := Nat.mod_lt _ (by decide)
  omega
def wfB (b : List Nat) : Prop := ∀ i, b.getD i 0 < 256
def wfW (w : List Nat) : Prop := ∀ i, w.getD i 0 < 2 ^ 64
theorem wfB_of {b : List Nat} (h : ∀ x ∈ b, x < 256) : wfB b := fun i => by
  rw [List.getD_eq_getElem?_getD]
  cases hb : b[i]? with
  | none => decide
  | some x => exact h x (List.mem_of_getElem? hb)
theorem wfW_of {b : List Nat} (h : ∀ x ∈ b, x < 2 ^ 64) : wfW b := fun i => by
  rw [List.getD_eq_getElem?_getD]
  cases hb : b[i]? with
  | none => decide
  | some x => exact h x (List.mem_of_getElem? hb)
theorem foldl_lt {f : Nat → Nat → Nat} {N : Nat} (hf : ∀ w i, f w i < N) : ∀ (l : List Nat) (w : Nat), w < N → l.foldl f w < N
  | [], _, h => h
  | i :: l, w, _ => foldl_lt hf l _ (hf w i)
theorem word_eq {b : List Nat} (hb : wfB b) (t : Nat) : wordW putP b t = wordW putR b t := by
  unfold wordW
  rw [show (fun w i => putP w (b.getD (8 * t + i) 0)) = (fun w i => putR w (b.getD (8 * t + i) 0)) from funext fun w => funext fun i => put_eq w (hb _)]
theorem word_lt (b : List Nat) (t : Nat) : wordW putR b t < 2 ^ 64 := foldl_lt (fun _ _ => addw_lt _ _) _ _ (by decide)
theorem first_eq {b : List Nat} (hb : wfB b) : firstW putP b = firstW putR b := by
  unfold firstW
  congr 1
  exact List.map_congr_left fun t _ => word_eq hb t
theorem first_wf (b : List Nat) : wfW (firstW putR b) := wfW_of fun x hx => by
  unfold firstW at hx
  rcases List.mem_append.1 hx with h | h
  · obtain ⟨t, _, rfl⟩ := List.mem_map.1 h
    exact word_lt b t
  · rw [(List.mem_replicate.1 h).2]; decide

theorem sg_eq {x : Nat} (hx : x < 2 ^ 64) : sg0 rotP x = sg0 rotR x ∧ sg1 rotP x = sg1 rotR x := by
  unfold sg0 sg1
  rw [show rotP x 1 = rotR x 1 from rot_eq (n := 1) hx (by decide) (by decide), show rotP x 8 = rotR x 8 from rot_eq (n := 8) hx (by decide) (by decide), show rotP x 19 = rotR x 19 from rot_eq (n := 19) hx (by decide) (by decide), show rotP x 61 = rotR x 61 from rot_eq (n := 61) hx (by decide) (by decide)]
  exact ⟨rfl, rfl⟩
theorem new_eq {a b c d : Nat} (hb : b < 2 ^ 64) (hd : d < 2 ^ 64) : newP a b c d = newR a b c d := by
  unfold newP newR
  rw [(sg_eq hb).1, (sg_eq hd).2]
  unfold addw
  omega
theorem getD_set (w : List Nat) (i v j : Nat) : (w.set i v).getD j 0 = if i = j ∧ i < w.length then v else w.getD j 0 := by
  rw [List.getD_eq_getElem?_getD, List.getD_eq_getElem?_getD, List.getElem?_set]
  by_cases e : i = j
  · subst e
    by_cases h : i < w.length
    · simp [h]
    · simp [h]
  · simp [e]
theorem sched_zero (nw : Nat → Nat → Nat → Nat → Nat) (w : List Nat) : sched nw w 0 = w := rfl
theorem sched_succ (nw : Nat → Nat → Nat → Nat → Nat) (w : List Nat) (i : Nat) : sched nw w (i + 1) = schStep nw (sched nw w i) (16 + i) := rfl
theorem schStep_eq {w : List Nat} (hw : wfW w) (t : Nat) : schStep newP w t = schStep newR w t ∧ wfW (schStep newR w t) := by
  unfold schStep
  rw [new_eq (hw _) (hw _)]
  refine ⟨rfl, fun j => ?_⟩
  rw [getD_set]
  split
  · exact addw_lt _ _
  · exact hw j
theorem sched_eq {w : List Nat} (hw : wfW w) (i : Nat) : sched newP w i = sched newR w i ∧ wfW (sched newR w i) := by
  induction i with
  | zero => rw [sched_zero, sched_zero]; exact ⟨Eq.refl w, hw⟩
  | succ i ih =>
    rw [sched_succ, sched_succ, ih.1]
    exact schStep_eq ih.2 _
theorem words_eq {b : List Nat} (hb : wfB b) : wordsP b = wordsR b := by
  have h := (sched_eq (first_wf b) 64).1
  unfold wordsP wordsR
  rw [first_eq hb, h]
theorem round_eq {k w : Nat} {s : R8} (ha : s.a < 2 ^ 64) (he : s.e < 2 ^ 64) : roundW rotP k w s = roundW rotR k w s := by
  unfold roundW oneW twoW
  rw [show rotP s.e 14 = rotR s.e 14 from rot_eq (n := 14) he (by decide) (by decide), show rotP s.e 18 = rotR s.e 18 from rot_eq (n := 18) he (by decide) (by decide), show rotP s.e 41 = rotR s.e 41 from rot_eq (n := 41) he (by decide) (by decide),
    show rotP s.a 28 = rotR s.a 28 from rot_eq (n := 28) ha (by decide) (by decide), show rotP s.a 34 = rotR s.a 34 from rot_eq (n := 34) ha (by decide) (by decide), show rotP s.a 39 = rotR s.a 39 from rot_eq (n := 39) ha (by decide) (by decide)]
theorem rounds_zero (rot : Nat → Int → Nat) (k w : List Nat) (s : R8) : roundsW rot k w s 0 = s := rfl
theorem rounds_succ (rot : Nat → Int → Nat) (k w : List Nat) (s : R8) (t : Nat) : roundsW rot k w s (t + 1) = roundW rot (k.getD t 0) (w.getD t 0) (roundsW rot k w s t) := rfl
theorem rounds_eq {k w : List Nat} {s : R8} (ha : s.a < 2 ^ 64) (he : s.e < 2 ^ 64) : ∀ t, roundsW rotP k w s t = roundsW rotR k w s t ∧ (roundsW rotR k w s t).a < 2 ^ 64 ∧ (roundsW rotR k w s t).e < 2 ^ 64
  | 0 => by rw [rounds_zero, rounds_zero]; exact ⟨Eq.refl s, ha, he⟩
  | t + 1 => by
    obtain ⟨h1, h2, h3⟩ := rounds_eq (k := k) (w := w) ha he t
    rw [rounds_succ, rounds_succ, h1, round_eq h2 h3]
    exact ⟨Eq.refl _, addw_lt _ _, addw_lt _ _⟩
theorem block_eq {h b : List Nat} (hh : wfW h) (hb : wfB b) : blockP h b = blockR h b := by
  unfold blockP blockR rnd80
  rw [words_eq hb, (rounds_eq (hh 0) (hh 4) 80).1]
theorem blockR_len (h b : List Nat) : (blockR h b).length = 8 := rfl
theorem blockR_wf (h b : List Nat) : wfW (blockR h b) := wfW_of fun x hx => by
  unfold blockR plus8 at hx
  simp only [List.mem_cons, List.not_mem_nil, or_false] at hx
  rcases hx with h | h | h | h | h | h | h | h <;> (rw [h]; exact addw_lt _ _)
end Pw

namespace Pw
open Go Go.ChangeShapes Go.RowKit
variable {P : Program}

/-! ### arguments that are arrays of whole numbers -/

def arrTy (P : Program) (k : IntKind) (n : Nat) (t : TypeId) : Bool :=
  (match P.underlying t with | some d => isArr d | none => false) && decide (P.cellsOf t = n) &&
  (match P.cellTypes P.depth t with
    | some ts => ts.all fun u => match P.underlying u with | some d => isInt k d | none => false
    | none => false)
theorem has_nat {k : IntKind} (hs : k.signed = false) {n : Int} (hn : k.has n) : ∃ m : Nat, n = (m : Int) ∧ m < 2 ^ k.bits := by
  have hpos : (0 : Int) ≤ n := by cases k <;> simp [IntKind.signed] at hs <;> simp [IntKind.has, IntKind.min, IntKind.signed] at hn <;> exact hn.1
  have hlt : n.toNat < 2 ^ k.bits := by
    cases k <;> simp [IntKind.signed] at hs <;> simp [IntKind.has, IntKind.max, IntKind.bits, IntKind.signed] at hn <;> simp [IntKind.bits] <;> omega
  exact ⟨n.toNat, by omega, hlt⟩
theorem intsR {k : IntKind} (hs : k.signed = false) {l : List Value} (h : ∀ v ∈ l, ∃ n : Nat, v = .int k (n : Int) ∧ n < 2 ^ k.bits) : ∃ l' : List Nat, l'.length = l.length ∧ (∀ x ∈ l', x < 2 ^ k.bits) ∧ ∀ σ, RL σ (l'.map (AV.u k)) l := by
  induction l with
  | nil => exact ⟨[], rfl, by simp, fun σ => .nil⟩
  | cons v l ih =>
    obtain ⟨n, rfl, hn⟩ := h v (by simp)
    obtain ⟨l', h1, h3, h2⟩ := ih fun x hx => h x (by simp [hx])
    refine ⟨n :: l', by simp [h1], fun x hx => ?_, fun σ => .cons _ _ _ _ (.u k n hs hn) (h2 σ)⟩
    rcases List.mem_cons.1 hx with rfl | hx
    · exact hn
    · exact h3 x hx
theorem argArr {k : IntKind} {n : Nat} {t : TypeId} (h : arrTy P k n t = true) (hs : k.signed = false) {W : World} {base : Nat} {v : Value} (hv : Value.okWide P W .any base t v) :
    ∃ l : List Nat, l.length = n ∧ (∀ x ∈ l, x < 2 ^ k.bits) ∧ ∀ σ, R σ (arrV k n l) v := by
  simp only [arrTy, Bool.and_eq_true, decide_eq_true_eq] at h
  obtain ⟨⟨h1, h2⟩, h3⟩ := h
  split at h1
  · rename_i d hd
    cases d <;> simp [isArr] at h1
    unfold Value.okWide at hv
    rw [hd] at hv
    obtain ⟨cs, rfl, hsz, ts, hts, _, hc⟩ := hv
    rw [hts] at h3
    simp only [List.all_eq_true] at h3
    obtain ⟨l', hl, hb, hr⟩ := intsR hs (l := cs.toList) fun v hv => by
      obtain ⟨i, hi, rfl⟩ := List.getElem_of_mem hv
      obtain ⟨u, hu, hok⟩ := hc i cs.toList[i] (by simp at hi ⊢)
      have hm := List.mem_of_getElem? hu
      have h4 := h3 u hm
      split at h4
      · rename_i d hd2
        obtain ⟨n, e, hn⟩ := cellInt hd2 h4 hok
        obtain ⟨m, rfl, hm2⟩ := has_nat hs hn
        exact ⟨m, e, hm2⟩
      · cases h4
    have hlen : l'.length = n := by rw [hl]; simp [hsz, h2]
    refine ⟨l', hlen, hb, fun σ => ?_⟩
    rw [arrV, arrS_eq k hlen]; exact .agg _ _ (hr σ)
  · cases h1

theorem trod_get {H : Type} {enc : TypeId × Value → H} {P : Program} {W : World} : ∀ {ts : List TypeId} {vs : List Value} {ds : List (DataW H)} {p : List MemPlace}, DataW.TrodAll enc P W 0 (fun _ => true) true ts vs ds p →
    (DataW.weightsEach P ts ds).all (· ≤ reachBytes) = true → ∀ (i : Nat) (t : TypeId) (v : Value), ts[i]? = some t → vs[i]? = some v → ∃ d q, DataW.Trod enc P W 0 (fun _ => true) true t v d q ∧ (d.weights P t).all (· ≤ reachBytes) = true
  | [], _, _, _, _, _, _, _, _, h, _ => by simp at h
  | t :: ts, vs, ds, p, h, hw, i, t', v', h1, h2 => by
    obtain ⟨v, vs, d, ds, q, q', rfl, rfl, rfl, h3, h4⟩ := trodAll_cons h
    unfold DataW.weightsEach at hw
    rw [List.all_append, Bool.and_eq_true] at hw
    cases i with
    | zero =>
      simp only [List.getElem?_cons_zero, Option.some.injEq] at h1 h2
      subst h1
      subst h2
      exact ⟨d, q, h3, hw.1⟩
    | succ i => exact trod_get h4 hw.2 i t' v' (by simpa using h1) (by simpa using h2)

/-- conditions, one behind the other -/
def gds {α : Type} : List Bool → Option α → Option α
  | [], x => x
  | c :: l, x => bif c then gds l x else none
theorem gds_true {α : Type} {x : Option α} : ∀ {l : List Bool}, (∀ c ∈ l, c = true) → gds l x = x
  | [], _ => rfl
  | c :: l, h => by
    rw [gds, h c (by simp), cond_true]
    exact gds_true fun d hd => h d (by simp [hd])
/-- the equality of arrays, number by number, as the evaluator has it -/
def eqW (n : Nat) (x y : List Nat) : Bool := (List.range n).foldr (fun i r => decide (x.getD i 0 = y.getD i 0) && r) true
theorem eqW_self (n : Nat) (x : List Nat) : eqW n x x = true := by
  unfold eqW
  induction List.range n with
  | nil => rfl
  | cons i l ih => rw [List.foldr_cons, ih, decide_eq_true rfl]; rfl
theorem resp_eq {n : Nat} {l : List Nat} (h : l.length = n) : resp n l = l := by subst h; exact range_getD l
theorem resp_len (n : Nat) (l : List Nat) : (resp n l).length = n := by unfold resp; simp
end Pw
