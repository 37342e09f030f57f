/- A part of the proof: PwEvLc. -/
import Derived.Test.YtccmlapcijjmpaaPwEvL
namespace Pw
open Go Go.RowKit

variable {P : Program} {T : List (Nat × TE)} {ρ : Type}

/-! ### copy, over bytes -/

def Cont.putBytes (c : Cont) (off : Nat) (l : List Nat) (K : Cont → Option ρ) : Option ρ :=
  match c with
  | .bytes b => bif decide (off + l.length ≤ b.length) then K (.bytes (b.take off ++ (l ++ b.drop (off + l.length)))) else none
  | .cells cs => bif decide (off + l.length ≤ cs.length) then K (.cells (splice cs off (l.map (AV.u .u8)))) else none

theorem Cont.putBytes_sound {c : Cont} {off : Nat} {l : List Nat} {K : Cont → Option ρ} {r : ρ} (h : c.putBytes off l K = some r) :
    ∃ c', K c' = some r ∧ c'.size = c.size ∧ off + l.length ≤ c.size ∧
      ∀ o, c'.at? o = if off ≤ o ∧ o < off + l.length then (l[o - off]?).map (AV.u .u8) else c.at? o := by
  unfold Cont.putBytes at h
  split at h
  · rename_i b
    obtain ⟨hc, h⟩ := bif_some h
    have hc := of_decide_eq_true hc
    refine ⟨_, h, by simp only [Cont.size, List.length_append, List.length_take, List.length_drop]; omega, hc, fun o => ?_⟩
    simp only [Cont.at?]
    have hl : (b.take off).length = off := by rw [List.length_take]; omega
    by_cases h1 : o < off
    · rw [List.getElem?_append_left (by omega), if_neg (by omega), List.getElem?_take, if_pos h1]
    · rw [List.getElem?_append_right (by omega), hl]
      by_cases h2 : o < off + l.length
      · rw [List.getElem?_append_left (by omega), if_pos (by omega)]
      · rw [List.getElem?_append_right (by omega), if_neg (by omega), List.getElem?_drop]; congr 2; omega
  · rename_i cs
    obtain ⟨hc, h⟩ := bif_some h
    have hc := of_decide_eq_true hc
    have hc' : off + (l.map (AV.u .u8)).length ≤ cs.length := by simpa using hc
    refine ⟨_, h, splice_length hc', hc, fun o => ?_⟩
    simp only [Cont.at?]
    rw [splice_get hc', List.length_map, List.getElem?_map]

def copyK (T : List (Nat × TE)) (mem : Mem) (ts : List Nat) (xs : List AV) (K : AV → Mem → Option ρ) : Option ρ :=
  match ts, xs with
  | dt :: _, [d, x] => match (teAt T dt).ty with
    | .slice e => bif isU8 T e then
        sliceBytesK mem x fun l2 => (match d with
          | .nils => K (.n 0) mem
          | .slice id off len _ => (match nth mem id with
            | some B => bif B.wr then B.c.putBytes off (l2.take len) fun c => K (.n ((l2.take len).length : Nat)) (setNth mem id ⟨c, true⟩) else none
            | none => none)
          | _ => none) else none
    | _ => none
  | _, _ => none

theorem St.reput {W : World} {Wr : Nat → Prop} {σ : Ren} {mem : Mem} {w : World} (h : St W Wr σ mem w) {id : Nat} {B B' : Blk} (hB : mem[id]? = some B) (hsz : B'.c.size = B.c.size) (hwr : B'.wr = B.wr)
    (hat : ∀ o, B'.c.at? o = B.c.at? o) : St W Wr σ (mem.set id B') w := by
  have hget : ∀ (i : Nat) (Bi : Blk), (mem.set id B')[i]? = some Bi → ∃ B0 : Blk, mem[i]? = some B0 ∧ Bi.c.size = B0.c.size ∧ Bi.wr = B0.wr ∧ ∀ o, Bi.c.at? o = B0.c.at? o := by
    intro i Bi hi
    by_cases e : id = i
    · subst e
      rw [List.getElem?_set_self (List.getElem?_eq_some_iff.1 hB).1] at hi
      cases hi
      exact ⟨B, hB, hsz, hwr, hat⟩
    · rw [List.getElem?_set_ne e] at hi; exact ⟨Bi, hi, rfl, rfl, fun _ => rfl⟩
  refine ⟨h.os, h.tape, h.output, h.size, h.old, h.dom, fun i b δ s Bi hi hBi => ?_, fun i b δ s Bi hi hBi hw => ?_, fun i j bi δi si bj δj sj Bi Bj hi hj hij hBi hBj hw hz => ?_⟩
  · obtain ⟨B0, h0, h1, h2, h3⟩ := hget i Bi hBi
    obtain ⟨C, e, lo, hi1, g1, g2, g3, g4, g5⟩ := (h.blk _ _ _ _ _ hi h0).ex
    exact ⟨C, e, lo, hi1, g1, g2, by omega, fun o v hv => g4 o v (by rw [← h3 o]; exact hv), fun hw => g5 (by rw [← h2]; exact hw)⟩
  · obtain ⟨B0, h0, h1, h2, h3⟩ := hget i Bi hBi
    exact h.wrs _ _ _ _ _ hi h0 (by rw [← h2]; exact hw)
  · obtain ⟨B0, h0, h1, h2, h3⟩ := hget i Bi hBi
    obtain ⟨B1, k0, k1, k2, k3⟩ := hget j Bj hBj
    exact h.inj _ _ _ _ _ _ _ _ _ _ hi hj hij h0 k0 (by rw [← h2]; exact hw) (hz.imp (fun h => by rw [← k2]; exact h) (fun h => by omega))

theorem copyK_sound (hT : TabOK P T) {mem : Mem} {ev : Operand → AV} {o : Oper} {c : Call} {K : AV → Mem → Option ρ} {r : ρ} (ho : o.op = .call c) (hc : c.callee = .builtin .copy)
    (h : copyK T mem c.argTypes.toList (callArgs ev c.args.toList) K = some r) : ∃ v mem', K v mem' = some r ∧ FDoes P o mem ev v mem' := by
  unfold copyK at h
  split at h
  · rename_i dt rest d x hts hxs
    have hat : c.argTypes = (dt :: rest).toArray := Array.ext' (by simpa using hts)
    obtain ⟨y, z, har, hy, hz⟩ := two_args hxs
    split at h
    · rename_i e hty
      obtain ⟨hu, h⟩ := bif_some h
      have ust := (hT.known (t := dt) (by rw [hty]; simp)).slice hty
      obtain ⟨l2, h, hl2⟩ := sliceBytes_sound (P := P) h
      have hops : ∀ (σ : Ren) (re : Operand → Value), (∀ x ∈ o.op.operands.toList, R σ (ev x) (re x)) → R σ d (re y) ∧ R σ x (re z) := by
        intro σ re hr
        rw [ho] at hr
        have h1 := hr y (by simp [Op.operands, Call.operands, hc, har])
        have h2 := hr z (by simp [Op.operands, Call.operands, hc, har])
        rw [hy] at h1; rw [hz] at h2
        exact ⟨h1, h2⟩
      have hexec : ∀ (re : Operand → Value) (w w' : World) (rv : Value), (Builtin.copy_ (dt :: rest).toArray o.type #[re y, re z]).run P w = .ok rv w' → (execOp re o).run P w = .ok (.value rv) w' := by
        intro re w w' rv hrun
        simp [execOp, ho, resolve, hc, invoke, builtin, hat, har, hrun]
      have hrun : ∀ (w w' : World) (base b2 : Option Addr) (dl dc sl c2 : Nat) (arr : Array Value),
          (Builtin.firstCells 1 (Nat.min sl dl) (.slice b2 sl c2)).run P w = .ok arr w →
          (match base with | some a => (storeCells a arr.toList).run P w = .ok () w' | none => w' = w) →
          (Builtin.copy_ (dt :: rest).toArray o.type #[.slice base dl dc, .slice b2 sl c2]).run P w = .ok (.int .i64 ((Nat.min sl dl : Nat) : Int)) w' := by
        intro w w' base b2 dl dc sl c2 arr h1 h2
        obtain ⟨u1, -, -⟩ := isU8_sound (P := P) hT hu w
        unfold Builtin.copy_
        cases base with
        | none => subst h2; simp [run_under ust, Builtin.lenOf, u1, h1, goInt]
        | some a => simp [run_under ust, Builtin.lenOf, u1, h1, goInt, h2]
      split at h
      · skip
        refine ⟨_, _, h, fun W Wr σ w re hst hr => ?_⟩
        obtain ⟨h1, h2⟩ := hops σ re hr
        generalize hvy : re y = vy at h1
        cases h1
        obtain ⟨b2, c2, arr2, g1, g2, g3, g4, g5, g6⟩ := hl2 σ w (re z) hst.1.memRel h2
        obtain ⟨arr, k1, k2⟩ := g4 0 (by omega)
        rw [g1] at k1
        have := hrun w w none b2 0 0 l2.length c2 arr (by simpa [Nat.min_def] using k1) rfl
        refine OpTo.of_value (hexec re w w _ (by rw [hvy, g1]; exact this)) ⟨σ, .refl σ, ?_, hst⟩
        simpa [Nat.min_def] using R.n (σ := σ) 0 (by omega) (by omega)
      · rename_i id off len ap _ _
        split at h
        · rename_i B hB
          rw [nth_eq] at hB
          obtain ⟨hwr, h⟩ := bif_some h
          obtain ⟨c', h, hsz, hle, hput⟩ := Cont.putBytes_sound h
          refine ⟨_, _, h, fun W Wr σ w re hst hr => ?_⟩
          obtain ⟨h1, h2⟩ := hops σ re hr
          rw [setNth_eq]
          generalize hvy : re y = vy at h1
          obtain ⟨b2, c2, arr2, g1, g2, g3, g4, g5, g6⟩ := hl2 σ w (re z) hst.1.memRel h2
          have hn : Nat.min l2.length len = (l2.take len).length := by rw [List.length_take]; exact Nat.min_comm _ _
          have htk : l2.take (Nat.min l2.length len) = l2.take len := by
            rcases Nat.le_total l2.length len with hh | hh
            · rw [show Nat.min l2.length len = l2.length from Nat.min_eq_left hh, List.take_length, List.take_of_length_le hh]
            · rw [show Nat.min l2.length len = len from Nat.min_eq_right hh]
          obtain ⟨arr, k1, k2⟩ := g4 (Nat.min l2.length len) (Nat.min_le_left _ _)
          rw [g1] at k1
          rw [htk] at k2
          have s2 := u8_cells k2
          have hres : R σ (.n (((l2.take len).length : Nat) : Int)) (.int .i64 ((Nat.min l2.length len : Nat) : Int)) := by
            have hb : (l2.take len).length ≤ l2.length := by rw [List.length_take]; exact Nat.min_le_right _ _
            rw [hn]; exact .n _ (by omega) (by omega)
          cases h1 with
          | slic0 _ _ _ a =>
            have e0 : arr = #[] := by
              have : (l2.take 0).length = arr.size := s2
              exact Array.size_eq_zero_iff.1 (by simpa using this.symm)
            have := hrun w w a b2 0 0 l2.length c2 arr k1 (by subst e0; cases a <;> simp [storeCells])
            refine OpTo.of_value (hexec re w w _ (by rw [hvy, g1]; exact this)) ⟨σ, .refl σ, hres, hst.1.reput hB hsz (by rw [hwr]) (fun o => ?_), fun i p hi => by simpa using hst.2 i p hi⟩
            rw [hput o, if_neg (by simp)]
          | slice _ _ _ _ cap b δ s hσ q1 q2 q3 =>
            obtain ⟨C, e3, lo, hi, m1, m2, m3, m4, m5⟩ := (hst.1.blk _ _ _ _ _ hσ hB).ex
            have hone : ∀ y ∈ arr.toList, y.oneCell' = true := by
              intro y hy
              obtain ⟨j, hj⟩ := List.mem_iff_getElem?.1 hy
              have hj' : j < ((l2.take len).map (AV.u .u8)).length := by
                rw [k2.length]; exact (List.getElem?_eq_some_iff.1 hj).1
              obtain ⟨y', q1, q2⟩ := k2.get (List.getElem?_eq_getElem hj')
              rw [hj] at q1; cases q1
              exact q2.oneCell (by simp [AV.scalar])
            obtain ⟨w', C', r1, r2, r3, r4, r5⟩ := run_storeCells (P := P) (p := δ + off) arr.toList 0 w C m1 (m5 hwr) (by simp only [Array.length_toList]; omega) hone
            have := hrun w w' (some ⟨b, δ + off, none⟩) b2 len cap l2.length c2 arr k1 r1
            refine OpTo.of_value (hexec re w w' _ (by rw [hvy, g1]; exact this)) ⟨σ, .refl σ, hres, ?_, fun i p hi => by simpa using hst.2 i p hi⟩
            refine hst.1.store hσ hB hwr hsz rfl r5 ⟨C', e3, lo, hi, r2, by omega, by rw [hsz]; exact m3, fun i v hv => ?_, fun _ i hi2 => m5 hwr i (by omega)⟩
            rw [hput i] at hv
            rw [r4 (δ + i)]
            by_cases hi2 : off ≤ i ∧ i < off + (l2.take len).length
            · rw [if_pos hi2, ← List.getElem?_map] at hv
              rw [if_pos (by simp only [Array.length_toList]; omega)]
              obtain ⟨rv, q1, q2⟩ := k2.get hv
              exact ⟨rv, by rw [show δ + i - (δ + off + 0) = i - off by omega]; exact q1, q2⟩
            · rw [if_neg hi2] at hv
              rw [if_neg (by simp only [Array.length_toList]; omega)]
              exact m4 i v hv
        · cases h
      · cases h
    · cases h
  · cases h

end Pw
