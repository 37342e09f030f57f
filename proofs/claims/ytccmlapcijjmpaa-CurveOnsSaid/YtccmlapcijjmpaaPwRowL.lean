/- A part of the proof: PwRowL. -/
import Derived.Test.YtccmlapcijjmpaaPwRow
import Derived.Test.YtccmlapcijjmpaaPwEvT
namespace Pw
open Go Go.ChangeShapes Go.RowKit

variable {P : Program}

/-! ### arguments that are lists of bytes -/

theorem mapM_get {α β : Type} {f : α → Option β} : ∀ {l : List α} {m : List β}, l.mapM f = some m → m.length = l.length ∧ ∀ (i : Nat) (a : α), l[i]? = some a → ∃ b, f a = some b ∧ m[i]? = some b
  | [], m, h => by simp at h; subst h; simp
  | a :: l, m, h => by
    simp only [List.mapM_cons, Option.bind_eq_bind, Option.bind_eq_some_iff] at h
    obtain ⟨b, hb, m', hm', h⟩ := h
    simp only [Option.pure_def, Option.some.injEq] at h
    subst h
    obtain ⟨h1, h2⟩ := mapM_get hm'
    refine ⟨by simp [h1], fun i x hx => ?_⟩
    cases i with
    | zero => simp at hx; subst hx; exact ⟨b, hb, rfl⟩
    | succ i => simpa using h2 i x (by simpa using hx)

/-- what is handed in as a list of bytes -/
def isU8Slice (P : Program) (t : TypeId) : Bool := match P.underlying t with
  | some (.slice e) => (match P.underlying e with | some (.int .u8) => decide (P.cellsOf e = 1) && decide (P.bytesOf e = 1) | _ => false)
  | _ => false

theorem argBytes {H : Type} {enc : TypeId × Value → H} {t : TypeId} (h : isU8Slice P t = true) {W : World} {v : Value} {d : DataW H} {p : List MemPlace}
    {base : Nat} (hval : Value.okWide P W .any base t v) (ht : DataW.Trod enc P W 0 (fun _ => true) true t v d p) (hw : (d.weights P t).all (· ≤ reachBytes) = true) :
    ∃ l : List Nat, (∀ b ∈ l, b < 256) ∧ l.length ≤ 140737488351232 ∧ ((∃ a, v = .slice a 0 0 ∧ l = []) ∨
      ∃ b δ s cap, v = .slice (some ⟨b, δ, none⟩) l.length cap ∧ l.length ≤ cap ∧ cap < 9223372036854775808 ∧ b < W.heap.size ∧ BlkRel (fun _ => none) (blkOf l) b δ s W) := by
  obtain ⟨fuel, hf⟩ := ht
  unfold isU8Slice at h
  split at h
  · rename_i e hu
    split at h
    · rename_i hue
      simp only [Bool.and_eq_true, decide_eq_true_eq] at h
      obtain ⟨hc, hb1⟩ := h
      cases fuel with
      | zero => simp [DataW.trod] at hf
      | succ fuel =>
        unfold DataW.trod at hf
        rw [hu] at hf
        have hsl : ∃ a len cap, v = .slice a len cap := by
          unfold Value.okWide at hval
          rw [hu] at hval
          simp only at hval
          unfold Cell.okWide at hval
          rw [hu] at hval
          simp only at hval
          unfold Cell.ok at hval
          rw [hu] at hval
          cases v <;> simp at hval
          exact ⟨_, _, _, rfl⟩
        cases v with
        | slice a len cap =>
          simp only [Value.cells, List.toList_toArray] at hf
          cases a with
          | none =>
            cases len with
            | zero => cases cap with
              | zero => exact ⟨[], by simp, by simp, .inl ⟨none, rfl, rfl⟩⟩
              | succ c => simp at hf
            | succ n => simp at hf
          | some a =>
            simp only at hf
            split at hf
            · rename_i hcond
              rw [Option.bind_eq_some_iff] at hf
              obtain ⟨elems, he, hf⟩ := hf
              rw [Option.map_eq_some_iff] at hf
              obtain ⟨rest, hrest, hf⟩ := hf
              simp only [Prod.mk.injEq] at hf
              obtain ⟨hd, -⟩ := hf
              subst hd
              obtain ⟨hel, heg⟩ := mapM_get he
              rw [List.length_range] at hel
              have hroom : len ≤ 140737488351232 := by
                simp only [DataW.weights, hu, List.all_cons, Bool.and_eq_true, decide_eq_true_eq, List.length_map] at hw
                have := hw.1
                rw [hel, hb1] at this
                simp only [reachBytes] at this; omega
              -- each element
              have hcell : ∀ i, i < len → ∃ n : Nat, n < 256 ∧ W.cell? (a.add i) = some (.int .u8 (n : Int)) := by
                intro i hi
                obtain ⟨x, hx, -⟩ := heg i i (by rw [List.getElem?_range hi])
                rw [Option.bind_eq_some_iff] at hx
                obtain ⟨cs, hcs, hx⟩ := hx
                unfold World.cells? at hcs
                rw [if_pos (Nat.zero_le _), hc] at hcs
                obtain ⟨hl1, hg1⟩ := mapM_get hcs
                obtain ⟨v0, hv0, hv1⟩ := hg1 0 0 (by simp)
                have hcs1 : cs = [v0] := by
                  match cs, hl1, hv1 with
                  | [w], _, h => simp at h; rw [h]
                subst hcs1
                cases fuel with
                | zero => simp [DataW.trod] at hx
                | succ fuel =>
                  unfold DataW.trod at hx
                  rw [hue] at hx
                  cases v0 with
                  | int k n =>
                    simp only at hx
                    split at hx
                    · rename_i hk
                      obtain ⟨rfl, hwf⟩ := hk
                      simp [Lit.wf, IntKind.min, IntKind.max, IntKind.signed, IntKind.bits] at hwf
                      refine ⟨n.toNat, by omega, ?_⟩
                      rw [Int.toNat_of_nonneg hwf.1]
                      simpa [hc, Addr.add] using hv0
                    · cases hx
                  | _ => simp at hx
              by_cases hz : len = 0
              · subst hz
                by_cases hz2 : cap = 0
                · subst hz2; exact ⟨[], by simp, by simp, .inl ⟨some a, rfl, rfl⟩⟩
                · -- an empty list with room: the room's cells tell the block
                  have hrl : ∃ n : Nat, n < 256 ∧ W.cell? a = some (.int .u8 (n : Int)) := by
                    rw [if_pos trivial] at hrest
                    obtain ⟨-, hrg⟩ := mapM_get hrest
                    obtain ⟨x, hx, -⟩ := hrg 0 0 (by rw [List.getElem?_range (by omega)])
                    rw [Option.bind_eq_some_iff] at hx
                    obtain ⟨cs, hcs, hx⟩ := hx
                    unfold World.cells? at hcs
                    rw [if_pos (Nat.zero_le _), hc] at hcs
                    obtain ⟨hl1, hg1⟩ := mapM_get hcs
                    obtain ⟨v0, hv0, hv1⟩ := hg1 0 0 (by simp)
                    have hcs1 : cs = [v0] := by
                      match cs, hl1, hv1 with
                      | [w], _, h => simp at h; rw [h]
                    subst hcs1
                    cases fuel with
                    | zero => simp [DataW.trod] at hx
                    | succ fuel =>
                      unfold DataW.trod at hx
                      rw [hue] at hx
                      cases v0 with
                      | int k n =>
                        simp only at hx
                        split at hx
                        · rename_i hk
                          obtain ⟨rfl, hwf⟩ := hk
                          simp [Lit.wf, IntKind.min, IntKind.max, IntKind.signed, IntKind.bits] at hwf
                          refine ⟨n.toNat, by omega, ?_⟩
                          rw [Int.toNat_of_nonneg hwf.1]
                          simpa [hc, Addr.add] using hv0
                        · cases hx
                      | _ => simp at hx
                  obtain ⟨n, -, hn⟩ := hrl
                  obtain ⟨b, δ, sp⟩ := a
                  unfold World.cell? at hn
                  cases sp with
                  | some y => simp at hn; split at hn <;> simp at hn
                  | none =>
                    simp only at hn
                    split at hn
                    · rename_i C e0 fz heq
                      refine ⟨[], by simp, by simp, .inr ⟨b, δ, C.size - δ, cap, rfl, by simp, ?_, (Array.getElem?_eq_some_iff.1 heq).1, ?_⟩⟩
                      · have := hcond.2.2; simp only [maxLen] at this; omega
                      · have hlt : δ < C.size := (Array.getElem?_eq_some_iff.1 hn).1
                        exact ⟨C, e0, fz.1, fz.2, heq, by omega, by simp [blkOf, Cont.size], fun o v hv => by simp [blkOf, Cont.at?] at hv, fun hw => by simp [blkOf] at hw⟩
                    · cases hn
              · -- the list of the bytes
                have hlist : ∀ m, m ≤ len → ∃ l : List Nat, l.length = m ∧ (∀ b ∈ l, b < 256) ∧ ∀ (i : Nat) (n : Nat), l[i]? = some n → W.cell? (a.add i) = some (.int .u8 (n : Int)) := by
                  intro m
                  induction m with
                  | zero => intro _; exact ⟨[], rfl, by simp, by simp⟩
                  | succ m ih =>
                    intro hm
                    obtain ⟨l, h1, h2, h3⟩ := ih (by omega)
                    obtain ⟨n, hn, hn2⟩ := hcell m (by omega)
                    refine ⟨l ++ [n], by simp [h1], fun b hb => ?_, fun i k hk => ?_⟩
                    · rcases List.mem_append.1 hb with h | h
                      · exact h2 b h
                      · simp at h; subst h; exact hn
                    · rcases Nat.lt_or_ge i l.length with h | h
                      · rw [List.getElem?_append_left h] at hk; exact h3 i k hk
                      · rw [List.getElem?_append_right h] at hk
                        cases hd : i - l.length with
                        | zero =>
                          rw [hd] at hk
                          simp at hk
                          subst hk
                          have : i = m := by omega
                          subst this; exact hn2
                        | succ q => rw [hd] at hk; simp at hk
                obtain ⟨l, h1, h2, h3⟩ := hlist len (Nat.le_refl _)
                subst h1
                obtain ⟨n0, hn0⟩ : ∃ n0, l[0]? = some n0 := ⟨l[0]'(by omega), List.getElem?_eq_getElem (by omega)⟩
                have h0 := h3 0 n0 hn0
                obtain ⟨b, δ, sp⟩ := a
                have hsp : sp = none := by
                  cases sp with
                  | none => rfl
                  | some y =>
                    unfold World.cell? at h0
                    simp only [Addr.add] at h0
                    split at h0 <;> simp at h0
                subst hsp
                have hblk : ∃ C e0 fz, W.heap[b]? = some (.cells C e0 fz) := by
                  unfold World.cell? at h0
                  simp only [Addr.add] at h0
                  split at h0
                  · rename_i C e0 fz heq; exact ⟨C, e0, fz, heq⟩
                  · cases h0
                obtain ⟨C, e0, fz, heq⟩ := hblk
                have hg : ∀ (i n : Nat), l[i]? = some n → C[δ + i]? = some (.int .u8 (n : Int)) := by
                  intro i n hi
                  have := h3 i n hi
                  rw [add_addr] at this; simpa [World.cell?, heq] using this
                have hlast : δ + l.length ≤ C.size := by
                  obtain ⟨m, hm⟩ : ∃ m, l[l.length - 1]? = some m := ⟨l[l.length - 1]'(by omega), List.getElem?_eq_getElem (by omega)⟩
                  have := (Array.getElem?_eq_some_iff.1 (hg _ _ hm)).1
                  omega
                refine ⟨l, h2, hroom, .inr ⟨b, δ, C.size - δ, cap, rfl, hcond.2.1, ?_, (Array.getElem?_eq_some_iff.1 heq).1, ?_⟩⟩
                · have := hcond.2.2; simp only [maxLen] at this; omega
                · refine ⟨C, e0, fz.1, fz.2, heq, by omega, by simp only [blkOf, Cont.size]; omega, fun o v hv => ?_, fun hw => by simp [blkOf] at hw⟩
                  simp only [blkOf, Cont.at?, Option.map_eq_some_iff] at hv
                  obtain ⟨n, hn, rfl⟩ := hv
                  exact ⟨_, hg o n hn, .u _ _ rfl (by simp only [IntKind.bits]; exact h2 n (List.mem_of_getElem? hn))⟩
            · cases hf
        | _ => obtain ⟨_, _, _, h⟩ := hsl; cases h
    · cases h
  · cases h

/-- lists among the arguments, each put under a number -/
theorem NSt.arg {w : World} {σ0 : Ren} {ls : List (List Nat)} (h : NSt w σ0 ls) {l : List Nat} {v : Value} (hv : (∃ a, v = .slice a 0 0 ∧ l = []) ∨
      ∃ b δ s cap, v = .slice (some ⟨b, δ, none⟩) l.length cap ∧ l.length ≤ cap ∧ cap < 9223372036854775808 ∧ b < w.heap.size ∧ BlkRel (fun _ => none) (blkOf l) b δ s w) :
    ∃ σ1, Ext σ0 σ1 ∧ NSt w σ1 (ls ++ [l]) ∧ R σ1 (.slice ls.length 0 l.length false) v := by
  rcases hv with ⟨a, rfl, rfl⟩ | ⟨b, δ, s, cap, rfl, h1, h2, h3, h4⟩
  · obtain ⟨σ1, e1, e2, n1⟩ := h.snoc (l := []) none (fun _ _ _ h => by cases h)
    exact ⟨σ1, e1, n1, .slic0 _ _ _ _⟩
  · obtain ⟨σ1, e1, e2, n1⟩ := h.snoc (l := l) (some (b, δ, s)) (fun b' δ' s' h => by cases h; exact ⟨h3, h4⟩)
    refine ⟨σ1, e1, n1, ?_⟩
    have := R.slice (σ := σ1) ls.length 0 l.length false cap b δ s e2 h1 h2 (by simp)
    simpa using this

/-- the run of a law on plain values and lists of bytes -/
theorem law_runN {X : Cx} (hX : CxOK P X) {L : Loops} {keep : List Nat} {fuel : Nat} {f : FuncId} {fn : Func} {c : Code} {args : List AV} {ls : List (List Nat)} (hf : P.funcs[f]? = some fn) (hb : fn.body = some c) (hL : LoopsOK P fn.ntmps L c)
    (h : runNL X L keep fuel fn c args ls = some (.bool true, none)) {W : World} {σ : Ren} {real : Array Value} (hn : NSt W σ ls) (hr : RL σ args real.toList) :
    Calls P f real W fun e W' => e = .returned (.bool true) ∧ Below W.heap.size W W' := by
  unfold runNL at h
  obtain ⟨v', mem', h, hs⟩ := runKL_sound hX hf hb hL h
  have hv' : v' = .bool true := by
    split at h
    · simp only [Option.some.injEq, Prod.mk.injEq] at h; exact h.1
    · split at h
      · split at h
        · obtain ⟨-, h⟩ := bif_some h
          split at h
          · simp at h
          · cases h
        · cases h
      · cases h
  subst hv'
  refine (hs W _ _ W real hn.fst hr).mono fun e w' ⟨σ', rv, he, _, hv, hst⟩ => ?_
  cases hv
  exact ⟨he, Below.mk hst.1.os hst.1.tape hst.1.output hst.1.size (fun k hk => hst.1.old k hk (fun h => h))⟩

end Pw
