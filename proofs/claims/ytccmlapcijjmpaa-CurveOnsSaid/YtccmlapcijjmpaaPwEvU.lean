/- A part of the proof: PwEvU. -/
import Derived.Test.YtccmlapcijjmpaaPwEvT
namespace Pw
open Go Go.RowKit

variable {P : Program} {T : List (Nat × TE)} {ρ : Type}

/-! ### functions over plain values and lists of bytes, told by the lists themselves -/

inductive LA where
  | v (a : AV)
  | l (b : List Nat)

def laArgs : List LA → Nat → List AV
  | [], _ => []
  | .v a :: r, n => a :: laArgs r n
  | .l b :: r, n => .slice n 0 b.length false :: laArgs r (n + 1)

def laLists : List LA → List (List Nat)
  | [] => []
  | .v _ :: r => laLists r
  | .l b :: r => b :: laLists r

def normL (mem : Mem) : List AV → (List LA → Option ρ) → Option ρ
  | [], K => K []
  | a :: rest, K => match a with
    | .slice id off len ap => sliceBytesK mem (.slice id off len ap) fun l => normL mem rest fun las => K (.l l :: las)
    | .nils => normL mem rest fun las => K (.l [] :: las)
    | a => match a.closed with
      | true => normL mem rest fun las => K (.v a :: las)
      | false => none

theorem normL_sound {mem : Mem} : ∀ (args : List AV) (K : List LA → Option ρ) (r : ρ), normL mem args K = some r →
    ∃ las, K las = some r ∧ ∀ (σ : Ren) (w : World) (vs : List Value) (σ0 : Ren) (ls : List (List Nat)), MemRel σ mem w → RL σ args vs → NSt w σ0 ls →
      ∃ σ1, Ext σ0 σ1 ∧ NSt w σ1 (ls ++ laLists las) ∧ RL σ1 (laArgs las ls.length) vs
  | [], K, r, h => ⟨[], h, fun σ w vs σ0 ls _ hr hn => ⟨σ0, Ext.refl _, by simpa [laLists] using hn, by cases hr; exact .nil⟩⟩
  | a :: rest, K, r, h => by
    unfold normL at h
    split at h
    · rename_i id off len ap
      unfold sliceBytesK at h
      simp only at h
      split at h
      · rename_i B hB
        rw [nth_eq] at hB
        obtain ⟨l, hk, hl, hle, hat⟩ := Cont.bytesK_sound h
        obtain ⟨las, hK, hs⟩ := normL_sound rest _ _ hk
        refine ⟨_, hK, fun σ w vs σ0 ls hm hr hn => ?_⟩
        cases hr with | cons _ v _ vs' h1 h2 =>
        rcases hm.cut h1 hB hl hle hat with ⟨a, rfl, rfl⟩ | ⟨b, δ, s, cap, rfl, hc1, hc2, hb, hbr⟩
        · obtain ⟨σ1, e1, e2, n1⟩ := hn.snoc (l := []) none (fun _ _ _ h => by cases h)
          obtain ⟨σ2, e3, n2, r2⟩ := hs σ w vs' σ1 _ hm h2 n1
          refine ⟨σ2, e1.trans e3, by simpa [laLists] using n2, .cons _ _ _ _ (.slic0 _ _ _ _) (by simpa using r2)⟩
        · obtain ⟨σ1, e1, e2, n1⟩ := hn.snoc (l := l) (some (b, δ, s)) (fun b' δ' s' h => by cases h; exact ⟨hb, hbr⟩)
          obtain ⟨σ2, e3, n2, r2⟩ := hs σ w vs' σ1 _ hm h2 n1
          refine ⟨σ2, e1.trans e3, by simpa [laLists] using n2, .cons _ _ _ _ ?_ (by simpa using r2)⟩
          have := R.slice (σ := σ2) ls.length 0 l.length false cap b δ s (e3 _ _ e2) (by omega) hc2 (by simp)
          rw [hl] at this ⊢
          simpa using this
      · cases h
    · obtain ⟨las, hK, hs⟩ := normL_sound rest _ _ h
      refine ⟨_, hK, fun σ w vs σ0 ls hm hr hn => ?_⟩
      cases hr with | cons _ v _ vs' h1 h2 =>
      cases h1
      obtain ⟨σ1, e1, e2, n1⟩ := hn.snoc (l := []) none (fun _ _ _ h => by cases h)
      obtain ⟨σ2, e3, n2, r2⟩ := hs σ w vs' σ1 _ hm h2 n1
      exact ⟨σ2, e1.trans e3, by simpa [laLists] using n2, .cons _ _ _ _ (.slic0 _ _ _ _) (by simpa using r2)⟩
    · split at h
      · rename_i hc
        obtain ⟨las, hK, hs⟩ := normL_sound rest _ _ h
        refine ⟨_, hK, fun σ w vs σ0 ls hm hr hn => ?_⟩
        cases hr with | cons _ v _ vs' h1 h2 =>
        obtain ⟨σ2, e3, n2, r2⟩ := hs σ w vs' σ0 ls hm h2 hn
        exact ⟨σ2, e3, by simpa [laLists] using n2, .cons _ _ _ _ (h1.closed hc) (by simpa using r2)⟩
      · cases h

/-- a call of such a function -/
def lav (g : List LA → Option (AV × Option Blk)) : List AV → Mem → ∀ {ρ : Type}, (AV → Option Blk → Option ρ) → Option ρ := fun args mem _ K =>
  normL mem args fun las => match g las with
    | some (v, none) => K v none
    | some (v, some B) => (match v.move 0 mem.length with
      | some v' => K v' (some B)
      | none => none)
    | none => none

/-- values with their lists that stand for something -/
def wfA (las : List LA) : Prop := wfN (laArgs las 0) (laLists las)

theorem quietAt_of_runA {X : Cx} (hX : CxOK P X) {L : Loops} {keep : List Nat} {f : FuncId} {fn : Func} {c : Code} (hf : P.funcs[f]? = some fn) (hb : fn.body = some c) (hn : (fn.name == "runtime.NumGoroutine") = false) (hL : LoopsOK P fn.ntmps L c)
    {g : List LA → Option (AV × Option Blk)} (h : ∀ las v, g las = some v → wfA las → ∃ fuel, runNL X L keep fuel fn c (laArgs las 0) (laLists las) = some v) : QuietAt P f (lav g) := by
  intro args mem ρ K r hg
  unfold lav at hg
  obtain ⟨las, hg, hs⟩ := normL_sound args _ _ hg
  have key : ∀ (σ : Ren) (w : World) (real : Array Value), RL σ args real.toList → MemRel σ mem w → ∀ v nb, g las = some (v, nb) → (nb.isSome = true → σ mem.length = none) →
      (match nb with
      | none => CallTo P f real w (Leaves σ mem w v none)
      | some B => ∀ v', v.move 0 mem.length = some v' → CallTo P f real w (Leaves σ mem w v' (some B))) := by
    intro σ w real hr hm v nb hgv hnb
    obtain ⟨σ1, _, n1, r1⟩ := hs σ w real.toList (fun _ => none) [] hm hr (NSt.empty w)
    rw [List.nil_append] at n1
    obtain ⟨fuel, hrun⟩ := h las (v, nb) hgv ⟨σ1, w, _, n1, r1⟩
    unfold runNL at hrun
    obtain ⟨v1, mem1, hk, hcall⟩ := runKL_sound hX hf hb hL hrun
    have hc := hcall w _ σ1 w real n1.fst r1
    split at hk
    · rename_i hcl
      simp only [Option.some.injEq, Prod.mk.injEq] at hk
      obtain ⟨rfl, rfl⟩ := hk
      refine callTo_of_calls hf hb hn (hc.mono fun e w' ⟨σ', rv, he, _, hv, hst⟩ => ⟨rv, he, ?_, hv.closed hcl⟩)
      exact Below.mk hst.1.os hst.1.tape hst.1.output hst.1.size (fun k hk => hst.1.old k hk (fun h => h))
    · split at hk
      · rename_i k len hkn
        split at hk
        · rename_i B hB
          rw [nth_eq] at hB
          obtain ⟨hc1, hk⟩ := bif_some hk
          simp only [Bool.and_eq_true] at hc1
          split at hk
          · rename_i v0 hv0
            simp only [Option.some.injEq, Prod.mk.injEq] at hk
            obtain ⟨rfl, rfl⟩ := hk
            intro v' hv'
            refine callTo_of_calls hf hb hn (hc.mono fun e w' ⟨σ', rv, he, _, hv, hst⟩ => ⟨rv, he, ?_, ?_⟩)
            · exact Below.mk hst.1.os hst.1.tape hst.1.output hst.1.size (fun k hk => hst.1.old k hk (fun h => h))
            · have hpos := (Nat.blt_eq ▸ hc1.2 : _ < _)
              obtain ⟨⟨b, δ, s⟩, hp⟩ := R.names hpos hv hkn
              have hbr := hst.1.blk _ _ _ _ _ hp hB
              refine ⟨b, δ, s, ?_, hst.1.dom _ _ _ _ hp, ?_, ?_⟩
              · rcases hst.1.wrs _ _ _ _ _ hp hB hc1.1.1 with h | h
                · exact h
                · cases h
              · have h1 := R.move (σ' := upd (fun _ => none) 0 (b, δ, s)) (fun p h => by rw [hp] at h; simpa [upd] using h) hv hv0
                exact R.move (fun p h => by simpa [upd] using h) h1 hv'
              · obtain ⟨C, e, lo, hi, g1, g2, g3, g4, g5⟩ := hbr.ex
                refine ⟨C, e, lo, hi, g1, g2, g3, fun o v hv => ?_, g5⟩
                obtain ⟨rv, g6, g7⟩ := g4 o v hv
                exact ⟨rv, g6, R.closed (Cont.at_closed hc1.1.2 hv) g7⟩
          · cases hk
        · cases hk
      · cases hk
  split at hg
  · rename_i v hv
    exact ⟨v, none, hg, fun σ w real hr hm _ => key σ w real hr hm v none hv (by simp)⟩
  · rename_i v B hv
    split at hg
    · rename_i v' hv'
      exact ⟨v', some B, hg, fun σ w real hr hm hn => key σ w real hr hm v (some B) hv hn v' hv'⟩
    · cases hg
  · cases hg

end Pw
