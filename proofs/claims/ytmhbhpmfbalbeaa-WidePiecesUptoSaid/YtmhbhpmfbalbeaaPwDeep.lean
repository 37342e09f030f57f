/- A part of the proof: PwDeep. -/
import Derived.Test.YtmhbhpmfbalbeaaPwEvZ
import Derived.Test.YtmhbhpmfbalbeaaPwMd
namespace Pw
open Go Go.ChangeShapes Go.RowKit

variable {P : Program}

/-! ### old blocks looked into -/

theorem FSt.look {W : World} {σ : Ren} {mem : Mem} {w : World} (h : FSt W Wr0 σ mem w) {B : Blk} (hw : B.wr = false) (p : Option (Nat × Nat × Nat))
    (hp : ∀ b δ s, p = some (b, δ, s) → b < W.heap.size ∧ BlkRel σ B b δ s W) : ∃ σ', Ext σ σ' ∧ σ' mem.length = p ∧ FSt W Wr0 σ' (mem ++ [B]) w := by
  have hn : σ mem.length = none := by
    cases hs : σ mem.length with
    | none => rfl
    | some p => have := h.2 _ _ hs; omega
  let σ' : Ren := fun i => if i = mem.length then p else σ i
  have eself : σ' mem.length = p := if_pos rfl
  have eother : ∀ {i}, i ≠ mem.length → σ' i = σ i := fun hi => if_neg hi
  have hext : Ext σ σ' := fun i q hi => by
    by_cases e : i = mem.length
    · subst e; rw [hn] at hi; cases hi
    · rw [eother e]; exact hi
  have hget : ∀ {i : Nat} {q : Nat × Nat × Nat} {Bi : Blk}, σ' i = some q → (mem ++ [B])[i]? = some Bi → (i = mem.length ∧ Bi = B ∧ p = some q) ∨ (i ≠ mem.length ∧ σ i = some q ∧ mem[i]? = some Bi) := by
    intro i q Bi hi hB
    by_cases e : i = mem.length
    · subst e
      rw [eself] at hi
      rw [List.getElem?_append_right (Nat.le_refl _), Nat.sub_self] at hB
      simp at hB
      exact .inl ⟨rfl, hB.symm, hi⟩
    · rw [eother e] at hi
      have := h.2 _ _ hi
      rw [List.getElem?_append_left this] at hB
      exact .inr ⟨e, hi, hB⟩
  refine ⟨σ', hext, eself, ⟨h.1.os, h.1.tape, h.1.output, h.1.size, h.1.old, ?_, ?_, ?_, ?_⟩, ?_⟩
  · intro i b δ s hi
    by_cases e : i = mem.length
    · subst e
      rw [eself] at hi
      exact Nat.lt_of_lt_of_le (hp b δ s hi).1 h.1.size
    · rw [eother e] at hi; exact h.1.dom _ _ _ _ hi
  · intro i b δ s Bi hi hB
    rcases hget hi hB with ⟨rfl, rfl, hq⟩ | ⟨_, h1, h2⟩
    · obtain ⟨q1, q2⟩ := hp b δ s hq
      exact (q2.same (h.1.old b q1 (fun h => h))).ext hext
    · exact (h.1.blk _ _ _ _ _ h1 h2).ext hext
  · intro i b δ s Bi hi hB hwi
    rcases hget hi hB with ⟨rfl, rfl, hq⟩ | ⟨_, h1, h2⟩
    · rw [hw] at hwi; cases hwi
    · exact h.1.wrs _ _ _ _ _ h1 h2 hwi
  · intro i j bi δi si bj δj sj Bi Bj hi hj hne hBi hBj hwi hz
    rcases hget hi hBi with ⟨rfl, rfl, hq⟩ | ⟨_, h1, h2⟩
    · rw [hw] at hwi; cases hwi
    · rcases hget hj hBj with ⟨rfl, rfl, hq⟩ | ⟨_, h3, h4⟩
      · have := (hp _ _ _ hq).1
        rcases h.1.wrs _ _ _ _ _ h1 h2 hwi with h5 | h5
        · omega
        · exact h5.elim
      · exact h.1.inj _ _ _ _ _ _ _ _ _ _ h1 h3 hne h2 h4 hwi hz
  · intro i q hi
    rw [List.length_append, List.length_singleton]
    by_cases e : i = mem.length
    · omega
    · rw [eother e] at hi; have := h.2 _ _ hi; omega

theorem FSt.tell {W : World} {σ : Ren} {mem : Mem} {w : World} (h : FSt W Wr0 σ mem w) {k b δ s : Nat} (hσ : σ k = some (b, δ, s)) (hb : b < W.heap.size) {B : Blk} (hw : B.wr = false) (hr : BlkRel σ B b δ s W) : FSt W Wr0 σ (mem.set k B) w := by
  have hget : ∀ {i : Nat} {q : Nat × Nat × Nat} {Bi : Blk}, σ i = some q → (mem.set k B)[i]? = some Bi → (i = k ∧ Bi = B ∧ q = (b, δ, s)) ∨ (i ≠ k ∧ mem[i]? = some Bi) := by
    intro i q Bi hi hB
    by_cases e : k = i
    · subst e
      have hl : k < mem.length := h.2 _ _ hi
      rw [List.getElem?_set_self hl] at hB
      rw [hσ] at hi
      cases hB; cases hi
      exact .inl ⟨rfl, rfl, rfl⟩
    · rw [List.getElem?_set_ne e] at hB
      exact .inr ⟨Ne.symm e, hB⟩
  refine ⟨⟨h.1.os, h.1.tape, h.1.output, h.1.size, h.1.old, h.1.dom, ?_, ?_, ?_⟩, fun i q hi => by rw [List.length_set]; exact h.2 i q hi⟩
  · intro i b' δ' s' Bi hi hB
    rcases hget hi hB with ⟨rfl, rfl, hq⟩ | ⟨_, h2⟩
    · cases hq
      exact hr.same (h.1.old b hb (fun h => h))
    · exact h.1.blk _ _ _ _ _ hi h2
  · intro i b' δ' s' Bi hi hB hwi
    rcases hget hi hB with ⟨rfl, rfl, hq⟩ | ⟨_, h2⟩
    · rw [hw] at hwi; cases hwi
    · exact h.1.wrs _ _ _ _ _ hi h2 hwi
  · intro i j bi δi si bj δj sj Bi Bj hi hj hne hBi hBj hwi hz
    rcases hget hi hBi with ⟨rfl, rfl, hq⟩ | ⟨_, h2⟩
    · rw [hw] at hwi; cases hwi
    · rcases hget hj hBj with ⟨rfl, rfl, hq⟩ | ⟨_, h4⟩
      · cases hq
        rcases h.1.wrs _ _ _ _ _ hi h2 hwi with h5 | h5
        · omega
        · exact h5.elim
      · exact h.1.inj _ _ _ _ _ _ _ _ _ _ hi hj hne h2 h4 hwi hz

/-- what stands in a cell of the start world -/
def DRel (W : World) : LA → Value → Prop
  | .v a, x => ∀ σ, R σ a x
  | .l l, x => (∀ b ∈ l, b < 256) ∧ l.length ≤ 140737488351232 ∧ ((∃ a, x = .slice a 0 0 ∧ l = []) ∨
      ∃ b δ s cap, x = .slice (some ⟨b, δ, none⟩) l.length cap ∧ l.length ≤ cap ∧ cap < 9223372036854775808 ∧ b < W.heap.size ∧ BlkRel (fun _ => none) (blkOf l) b δ s W)
def DRels (W : World) : List LA → List Value → Prop
  | [], [] => True
  | a :: l, x :: m => DRel W a x ∧ DRels W l m
  | _, _ => False

theorem DRels.length {W : World} : ∀ {las : List LA} {vs : List Value}, DRels W las vs → las.length = vs.length
  | [], [], _ => rfl
  | a :: l, x :: m, h => by simp [DRels.length h.2]
  | [], _ :: _, h => h.elim
  | _ :: _, [], h => h.elim
theorem DRels.append {W : World} : ∀ {las las' : List LA} {vs vs' : List Value}, DRels W las vs → DRels W las' vs' → DRels W (las ++ las') (vs ++ vs')
  | [], _, [], _, _, h => h
  | _ :: _, _, _ :: _, _, h, h' => ⟨h.1, DRels.append h.2 h'⟩
  | [], _, _ :: _, _, h, _ => h.elim
  | _ :: _, _, [], _, h, _ => h.elim

theorem FSt.rec {W : World} {w : World} : ∀ (las : List LA) (vs : List Value) (σ : Ren) (mem : Mem), DRels W las vs → FSt W Wr0 σ mem w →
    ∃ σ', Ext σ σ' ∧ FSt W Wr0 σ' (mem ++ memOf (laLists las)) w ∧ RL σ' (laArgs las mem.length) vs
  | [], [], σ, mem, _, h => ⟨σ, .refl σ, by simpa [laLists, memOf] using h, .nil⟩
  | [], _ :: _, _, _, h, _ => h.elim
  | _ :: _, [], _, _, h, _ => h.elim
  | .v a :: l, x :: m, σ, mem, hd, h => by
    obtain ⟨σ', h1, h2, h3⟩ := FSt.rec l m σ mem hd.2 h
    exact ⟨σ', h1, h2, .cons _ _ _ _ (hd.1 σ') h3⟩
  | .l b :: l, x :: m, σ, mem, hd, h => by
    obtain ⟨_, _, hx⟩ := hd.1
    rcases hx with ⟨a, rfl, rfl⟩ | ⟨bb, δ, s, cap, rfl, h1, h2, h3, h4⟩
    · obtain ⟨σ1, e1, e2, n1⟩ := h.look (B := blkOf []) rfl none (fun _ _ _ h => by cases h)
      obtain ⟨σ2, e3, n2, r2⟩ := FSt.rec l m σ1 _ hd.2 n1
      rw [List.length_append, List.length_singleton] at r2
      exact ⟨σ2, e1.trans e3, by simpa [laLists, memOf] using n2, .cons _ _ _ _ (.slic0 _ _ _ _) r2⟩
    · obtain ⟨σ1, e1, e2, n1⟩ := h.look (B := blkOf b) rfl (some (bb, δ, s)) (fun b' δ' s' h => by cases h; exact ⟨h3, h4.bytes⟩)
      obtain ⟨σ2, e3, n2, r2⟩ := FSt.rec l m σ1 _ hd.2 n1
      rw [List.length_append, List.length_singleton] at r2
      refine ⟨σ2, e1.trans e3, by simpa [laLists, memOf] using n2, .cons _ _ _ _ ?_ r2⟩
      have := R.slice (σ := σ2) mem.length 0 b.length false cap bb δ s (e3 _ _ e2) h1 h2 (by simp)
      simpa using this

/-! ### a list of records in the start world -/

structure RecsAt (W : World) (b δ s sz : Nat) (recs : List (List LA)) : Prop where
  lt : b < W.heap.size
  ex : ∃ C e lo hi, W.heap[b]? = some (.cells C e (lo, hi)) ∧ C.size = δ + s ∧
    ∀ i rec, recs[i]? = some rec → rec.length = sz ∧ ∃ vs, DRels W rec vs ∧ ∀ (j : Nat) (x : Value), vs[j]? = some x → C[δ + (i * sz + j)]? = some x

/-- what is known of an argument that is a list of records -/
def factR (n k sz : Nat) (hk : k < n) (recs : List (List LA)) : Fact n where
  ok W σ := recs = [] ∨ ∃ b δ s, σ k = some (b, δ, s) ∧ RecsAt W b δ s sz recs
  st := fun W σ σ' he h => by
    rcases h with h | ⟨b, δ, s, h1, h2⟩
    · exact .inl h
    · exact .inr ⟨b, δ, s, he _ _ hk h1, h2⟩

def Fact.and {n : Nat} (Φ Ψ : Fact n) : Fact n where
  ok W σ := Φ.ok W σ ∧ Ψ.ok W σ
  st := fun W σ σ' he h => ⟨Φ.st W σ σ' he h.1, Ψ.st W σ σ' he h.2⟩

theorem Tells.of {n : Nat} {Φ Ψ : Fact n} (h : ∀ W σ, Ψ.ok W σ → Φ.ok W σ) {nt : Nat} {env : Env} {mem mem' : Mem} (ht : Tells Φ nt env mem mem') : Tells Ψ nt env mem mem' :=
  fun W σ a w hΨ hf => ht W σ a w (h W σ hΨ) hf
theorem Tells.trans {n : Nat} {Φ : Fact n} {nt : Nat} {env : Env} {mem mem1 mem' : Mem} (h1 : Tells Φ nt env mem mem1) (h2 : Tells Φ nt env mem1 mem') : Tells Φ nt env mem mem' := by
  intro W σ a w hΦ hf
  obtain ⟨σ1, e1, f1⟩ := h1 W σ a w hΦ hf
  obtain ⟨σ2, e2, f2⟩ := h2 W σ1 a w (Φ.st _ _ _ e1 hΦ) f1
  exact ⟨σ2, e1.trans e2, f2⟩

theorem tells_rec {n k sz : Nat} {hk : k < n} {recs : List (List LA)} {i : Nat} {rec : List LA} (hi : recs[i]? = some rec) {nt : Nat} {env : Env} {mem : Mem} (hm : k < mem.length) :
    Tells (factR n k sz hk recs) nt env mem (mem.set k ⟨.win (i * sz) (laArgs rec mem.length), false⟩ ++ memOf (laLists rec)) := by
  intro W σ a w hΦ hf
  rcases hΦ with h | ⟨b, δ, s, h1, h2⟩
  · subst h; simp at hi
  · obtain ⟨C, e, lo, hi', g1, g2, g3⟩ := h2.ex
    obtain ⟨hl, vs, hd, hc⟩ := g3 i rec hi
    obtain ⟨σ', e1, f1, r1⟩ := FSt.rec rec vs σ mem hd hf.st
    refine ⟨σ', fun j p _ hp => e1 j p hp, ?_, ?_⟩
    · rw [← List.set_append_left _ _ hm]
      refine f1.tell (e1 _ _ h1) h2.lt rfl ?_
      have hlen : (laArgs rec mem.length).length = vs.length := r1.length
      have hcov : i * sz + vs.length ≤ s := by
        rcases Nat.eq_zero_or_pos vs.length with h0 | h0
        · rw [h0]
          rw [← hd.length, hl] at h0
          rw [h0]; simp
        · have := hc (vs.length - 1) vs[vs.length - 1] (List.getElem?_eq_getElem (by omega))
          have := (Array.getElem?_eq_some_iff.1 this).1
          omega
      refine ⟨C, e, lo, hi', g1, g2, ?_, ?_, fun h => by cases h⟩
      · show i * sz + (laArgs rec mem.length).length ≤ s
        rw [hlen]; exact hcov
      · intro o v hv
        have hv : (if o < i * sz then some AV.unk else (laArgs rec mem.length)[o - i * sz]?) = some v := hv
        split at hv
        · cases hv
          exact ⟨C[δ + o]'(by omega), Array.getElem?_eq_getElem (by omega), .unk _⟩
        · obtain ⟨x, q1, q2⟩ := r1.get hv
          have := hc _ _ q1
          rw [show δ + (i * sz + (o - i * sz)) = δ + o by omega] at this
          exact ⟨x, this, q2⟩
    · exact ⟨hf.env.size, fun t => (hf.env.slot t).ext e1⟩

theorem FSt.start (W : World) : FSt W Wr0 (fun _ => none) [] W := (NSt.empty W).fst

/-- a list of records among the arguments, put under a number -/
theorem FSt.recs {W : World} {σ : Ren} {mem : Mem} (h : FSt W Wr0 σ mem W) {sz : Nat} {recs : List (List LA)} {v : Value}
    (hv : (∃ a, v = .slice a 0 0 ∧ recs = []) ∨ ∃ b δ s cap, v = .slice (some ⟨b, δ, none⟩) recs.length cap ∧ recs.length ≤ cap ∧ cap < 9223372036854775808 ∧ RecsAt W b δ s sz recs) :
    ∃ σ', Ext σ σ' ∧ FSt W Wr0 σ' (mem ++ [dead]) W ∧ R σ' (.slice mem.length 0 recs.length false) v ∧ (recs = [] ∨ ∃ b δ s, σ' mem.length = some (b, δ, s) ∧ RecsAt W b δ s sz recs) := by
  rcases hv with ⟨a, rfl, rfl⟩ | ⟨b, δ, s, cap, rfl, h1, h2, h3⟩
  · obtain ⟨σ', e1, _, f1⟩ := h.look (B := dead) rfl none (fun _ _ _ h => by cases h)
    exact ⟨σ', e1, f1, .slic0 _ _ _ _, .inl rfl⟩
  · obtain ⟨C, e, lo, hi, g1, g2, g3⟩ := h3.ex
    obtain ⟨σ', e1, e2, f1⟩ := h.look (B := dead) rfl (some (b, δ, s)) (fun b' δ' s' h => by
      cases h
      exact ⟨h3.lt, C, e, lo, hi, g1, g2, by simp [dead, Cont.size], fun o v hv => by simp [dead, Cont.at?] at hv, fun hw => by simp [dead] at hw⟩)
    refine ⟨σ', e1, f1, ?_, .inr ⟨b, δ, s, e2, h3⟩⟩
    have := R.slice (σ := σ') mem.length 0 recs.length false cap b δ s e2 h1 h2 (by simp)
    simpa using this

end Pw
