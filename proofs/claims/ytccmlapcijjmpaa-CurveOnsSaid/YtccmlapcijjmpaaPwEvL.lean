/- A part of the proof: PwEvL. -/
import Derived.Test.YtccmlapcijjmpaaPwEvK
namespace Pw
open Go Go.RowKit

variable {P : Program} {T : List (Nat × TE)} {ρ : Type}

/-! ### append and copy, over bytes -/

def Cont.bytesK (c : Cont) (off n : Nat) (K : List Nat → Option ρ) : Option ρ :=
  match c with
  | .bytes l => bif decide (off + n ≤ l.length) then K ((l.drop off).take n) else none
  | .cells cs => match toBytes ((cs.drop off).take n) with
    | some l => bif Nat.beq l.length n && Nat.ble (off + n) cs.length then K l else none
    | none => none

theorem Cont.bytesK_sound {c : Cont} {off n : Nat} {K : List Nat → Option ρ} {r : ρ} (h : c.bytesK off n K = some r) :
    ∃ l, K l = some r ∧ l.length = n ∧ off + n ≤ c.size ∧ ∀ i, i < n → c.at? (off + i) = (l[i]?).map (AV.u .u8) := by
  unfold Cont.bytesK at h
  split at h
  · rename_i l
    obtain ⟨hc, h⟩ := bif_some h
    have hc := of_decide_eq_true hc
    refine ⟨_, h, by rw [List.length_take, List.length_drop]; omega, hc, fun i hi => ?_⟩
    simp [Cont.at?, hi]
  · rename_i cs
    split at h
    · rename_i l hl
      obtain ⟨hc, h⟩ := bif_some h
      simp only [Bool.and_eq_true] at hc
      obtain ⟨hc, hc2⟩ := hc
      have hc2 := Nat.le_of_ble_eq_true hc2
      have hc := Nat.eq_of_beq_eq_true hc
      have he := toBytes_eq hl
      refine ⟨l, h, hc, ?_, fun i hi => ?_⟩
      · exact hc2
      · have := congrArg (·[i]?) he
        simp only [List.getElem?_take, hi, if_true, List.getElem?_drop, List.getElem?_map] at this
        exact this
    · cases h

def sliceBytesK (mem : Mem) (x : AV) (K : List Nat → Option ρ) : Option ρ :=
  match x with
  | .nils => K []
  | .slice id off len _ => match nth mem id with
    | some B => B.c.bytesK off len K
    | none => none
  | _ => none

theorem sliceBytes_sound {mem : Mem} {x : AV} {K : List Nat → Option ρ} {r : ρ} (h : sliceBytesK mem x K = some r) :
    ∃ l, K l = some r ∧ ∀ (σ : Ren) (w : World) (vx : Value), MemRel σ mem w → R σ x vx → ∃ base cap arr, vx = .slice base l.length cap ∧ cap < 9223372036854775808 ∧ l.length ≤ cap ∧
      (∀ n, n ≤ l.length → ∃ arr, (Builtin.firstCells 1 n vx).run P w = .ok arr w ∧ RL σ ((l.take n).map (AV.u .u8)) arr.toList) ∧
      (Builtin.firstCells 1 l.length vx).run P w = .ok arr w ∧ RL σ (l.map (AV.u .u8)) arr.toList := by
  unfold sliceBytesK at h
  split at h
  · refine ⟨[], h, fun σ w vx _ hx => ?_⟩
    cases hx
    exact ⟨none, 0, #[], rfl, by omega, by simp, fun n hn => ⟨#[], by simp [Builtin.firstCells], by simpa using RL.nil⟩, by simp [Builtin.firstCells], .nil⟩
  · rename_i id off len ap
    split at h
    · rename_i B hB
      rw [nth_eq] at hB
      obtain ⟨l, hk, hl, hle, hat⟩ := Cont.bytesK_sound h
      refine ⟨l, hk, fun σ w vx hm hx => ?_⟩
      cases hx with
      | slic0 _ _ _ a =>
        have e : l = [] := List.length_eq_zero_iff.1 hl
        subst e
        refine ⟨a, 0, #[], rfl, by omega, by simp, fun n hn => ⟨#[], ?_, by simpa using RL.nil⟩, ?_, .nil⟩
        · simp only [List.length_nil, Nat.le_zero] at hn; subst hn
          cases a <;> simp [Builtin.firstCells, loadCells, loadCellsFrom]
        · cases a <;> simp [Builtin.firstCells, loadCells, loadCellsFrom]
      | slice _ _ _ _ cap b δ s hσ h1 h2 h3 =>
        have hbr := hm _ _ _ _ _ hσ hB
        have key : ∀ n, n ≤ l.length → ∃ arr, (Builtin.firstCells 1 n (.slice (some ⟨b, δ + off, none⟩) len cap)).run P w = .ok arr w ∧ RL σ ((l.take n).map (AV.u .u8)) arr.toList := by
          intro n hn
          obtain ⟨arr, g1, g2⟩ := run_loadCells (P := P) (σ := σ) (b := b) (p := δ + off) (w := w) n 0 ((l.take n).map (AV.u .u8)) #[] (by rw [List.length_map, List.length_take]; omega) (fun j v hv => by
            rw [List.getElem?_map] at hv
            have hj : j < n := by
              have := (Option.map_eq_some_iff.1 hv)
              obtain ⟨_, hv', _⟩ := this
              have := (List.getElem?_eq_some_iff.1 hv').1
              rw [List.length_take] at this; omega
            rw [List.getElem?_take, if_pos hj] at hv
            have := hbr.cell (o := off + j) (v := v) (by rw [hat j (by omega)]; exact hv)
            rwa [← Nat.add_assoc, ← Nat.zero_add j] at this)
          exact ⟨arr, by simp only [Builtin.firstCells, Nat.mul_one, loadCells]; rw [g1]; simp, g2⟩
        obtain ⟨arr, g1, g2⟩ := key l.length (Nat.le_refl _)
        rw [List.take_length] at g2
        subst hl
        exact ⟨_, cap, arr, rfl, h2, h1, key, g1, g2⟩
    · cases h
  · cases h

/-- a type of bytes -/
def isU8 (T : List (Nat × TE)) (e : Nat) : Bool :=
  match (teAt T e).ty, (teAt T e).zero with
  | .int .u8, some [.u .u8 0] => Nat.beq (teAt T e).bytes 1 && Nat.beq (teAt T e).size 1
  | _, _ => false

theorem isU8_sound (hT : TabOK P T) {e : Nat} (h : isU8 T e = true) (w : World) :
    (Go.sizeOf e).run P w = .ok 1 w ∧ (∃ i, (typeInfo e).run P w = .ok i w ∧ i.bytes = 1) ∧ ∃ zv, (zeroValue e).run P w = .ok zv w ∧ zv.cells = #[.int .u8 0] := by
  unfold isU8 at h
  split at h
  · rename_i hte hze
    simp only [Bool.and_eq_true] at h
    have hb := Nat.eq_of_beq_eq_true h.1
    have hs := Nat.eq_of_beq_eq_true h.2
    have ke := hT.known (t := e) (by rw [hte]; simp)
    obtain ⟨i, hi, hi1, hi2, hi3⟩ := ke.run_info (w := w)
    obtain ⟨zv, hz1, hz2⟩ := ke.run_zero (w := w) hze
    refine ⟨by rw [ke.run_size, hs], ⟨i, hi, by omega⟩, zv, hz1, ?_⟩
    have := hz2 (fun _ => none)
    generalize hzz : zv.cells.toList = zl at this
    cases this with | cons _ x _ m hx hm =>
    cases hm
    cases hx
    exact Array.ext' (by rw [hzz]; rfl)
  · cases h

def dead : Blk := ⟨.cells [], false⟩

theorem St.kill {W : World} {Wr : Nat → Prop} {σ : Ren} {mem : Mem} {w : World} (h : St W Wr σ mem w) (id : Nat) : St W Wr σ (mem.set id dead) w := by
  have hget : ∀ (i : Nat) (Bi : Blk), (mem.set id dead)[i]? = some Bi → (i = id ∧ Bi = dead ∧ ∃ B0, mem[i]? = some B0) ∨ mem[i]? = some Bi := by
    intro i Bi hi
    by_cases e : id = i
    · subst e
      have hlt : id < mem.length := by have := (List.getElem?_eq_some_iff.1 hi).1; simpa using this
      rw [List.getElem?_set_self hlt] at hi
      exact .inl ⟨rfl, by simpa using hi.symm, _, List.getElem?_eq_getElem hlt⟩
    · right; rwa [List.getElem?_set_ne e] at hi
  refine ⟨h.os, h.tape, h.output, h.size, h.old, h.dom, fun i b δ s Bi hi hB => ?_, fun i b δ s Bi hi hB hw => ?_, fun i j bi δi si bj δj sj Bi Bj hi hj hij hBi hBj hw hz => ?_⟩
  · rcases hget i Bi hB with ⟨_, rfl, B0, hB0⟩ | hB0
    · obtain ⟨C, e, lo, hi1, g1, g2, g3, g4, g5⟩ := (h.blk _ _ _ _ _ hi hB0).ex
      exact ⟨C, e, lo, hi1, g1, g2, by simp [dead, Cont.size], fun o v hv => by simp [dead, Cont.at?] at hv, fun hw => by simp [dead] at hw⟩
    · exact h.blk _ _ _ _ _ hi hB0
  · rcases hget i Bi hB with ⟨_, rfl, _⟩ | hB0
    · simp [dead] at hw
    · exact h.wrs _ _ _ _ _ hi hB0 hw
  · rcases hget i Bi hBi with ⟨_, rfl, _⟩ | hB1
    · simp [dead] at hw
    · rcases hget j Bj hBj with ⟨_, rfl, _⟩ | hB2
      · simp [dead, Cont.size] at hz
      · exact h.inj _ _ _ _ _ _ _ _ _ _ hi hj hij hB1 hB2 hw hz

theorem growBy_le (need : Nat) : ∀ (k c : Nat), c < need + (need + 768) / 4 → Builtin.growBy need k c < need + (need + 768) / 4
  | 0, c, h => h
  | k + 1, c, h => by
    unfold Builtin.growBy
    split
    · exact h
    · exact growBy_le need k _ (by omega)

theorem nextslicecap_le {need cap : Nat} (h : ¬ need ≤ cap) (hn : need ≤ 175921860444160) : Builtin.nextslicecap need cap * 1 ≤ 2 ^ 48 := by
  unfold Builtin.nextslicecap
  split
  · omega
  · split
    · omega
    · have := growBy_le need 4 cap (by omega)
      omega


def maxRoom : Nat := 175921860444160

def appendK (T : List (Nat × TE)) (mem : Mem) (ts : List Nat) (xs : List AV) (K : AV → Mem → Option ρ) : Option ρ :=
  match ts, xs with
  | [st, xt], [s, x] => match (teAt T st).ty, (teAt T xt).ty with
    | .slice e, .slice _ => bif isU8 T e then
        sliceBytesK mem x fun l2 => (match s with
          | .nils => bif decide (l2.length ≤ maxRoom) then K (.slice mem.length 0 l2.length true) (mem ++ [⟨.bytes l2, true⟩]) else none
          | .slice id off len true => (match nth mem id with
            | some B => bif B.wr then B.c.bytesK off len fun l =>
                bif decide (len + l2.length ≤ maxRoom) then K (.slice mem.length 0 (len + l2.length) true) (setNth mem id dead ++ [⟨.bytes (l ++ l2), true⟩]) else none
              else none
            | none => none)
          | _ => none) else none
    | _, _ => none
  | _, _ => none

/-- a fresh block behind a draw -/
theorem FSt.fresh {W : World} {Wr : Nat → Prop} {σ : Ren} {mem : Mem} {w : World} (h : FSt W Wr σ mem w) {B : Blk} {C : Array Value} {e : TypeId} (hsz : B.c.size ≤ C.size)
    (hc : ∀ (o : Nat) (v : AV), B.c.at? o = some v → ∃ rv, C[o]? = some rv ∧ R σ v rv) (fz : Nat × Nat) (hfz : ∀ o, o < C.size → ¬ (fz.1 ≤ o ∧ o < fz.2)) :
    Ext σ (upd σ mem.length (w.heap.size, 0, C.size)) ∧ FSt W Wr (upd σ mem.length (w.heap.size, 0, C.size)) (mem ++ [B]) { w with heap := w.heap.push (.cells C e fz) } := by
  have hn : σ mem.length = none := by
    cases hs : σ mem.length with
    | none => rfl
    | some p => have := h.2 _ _ hs; omega
  refine ⟨upd_ext hn, (h.1.more h.2 [B]).alloc hn (by simp) hsz hc fz hfz, fun i p hi => ?_⟩
  simp only [List.length_append, List.length_cons, List.length_nil]
  by_cases e : i = mem.length
  · omega
  · rw [upd_ne _ e] at hi; have := h.2 i p hi; omega

/-- the same block under a new number, the old one forgotten -/
theorem FSt.rename {W : World} {Wr : Nat → Prop} {σ : Ren} {mem : Mem} {w w' : World} (h : FSt W Wr σ mem w) {id b δ z off : Nat} {B B' : Blk} (hσ : σ id = some (b, δ, z)) (hB : mem[id]? = some B) (hwr : B.wr = true)
    (hs : SameBut b w w') (hr : BlkRel (upd σ mem.length (b, δ + off, z - off)) B' b (δ + off) (z - off) w')
    (hid : ∃ C e lo hi, w'.heap[b]? = some (.cells C e (lo, hi)) ∧ C.size = δ + z) :
    Ext σ (upd σ mem.length (b, δ + off, z - off)) ∧ FSt W Wr (upd σ mem.length (b, δ + off, z - off)) (mem.set id dead ++ [B']) w' := by
  have hn : σ mem.length = none := by
    cases hs : σ mem.length with
    | none => rfl
    | some p => have := h.2 _ _ hs; omega
  have hext : Ext σ (upd σ mem.length (b, δ + off, z - off)) := upd_ext hn
  have hidl : id < mem.length := (List.getElem?_eq_some_iff.1 hB).1
  have hbb := h.1.wrs _ _ _ _ _ hσ hB hwr
  -- what block stands at a number that lies somewhere
  have hget : ∀ (i : Nat) (p : Nat × Nat × Nat) (Bi : Blk), upd σ mem.length (b, δ + off, z - off) i = some p → (mem.set id dead ++ [B'])[i]? = some Bi →
      (i = mem.length ∧ Bi = B' ∧ p = (b, δ + off, z - off)) ∨ (i = id ∧ Bi = dead ∧ p = (b, δ, z)) ∨ (i ≠ id ∧ i ≠ mem.length ∧ mem[i]? = some Bi ∧ σ i = some p) := by
    intro i p Bi hi hBi
    by_cases e : i = mem.length
    · subst e
      rw [upd_self] at hi; cases hi
      rw [List.getElem?_append_right (by simp)] at hBi
      simp only [List.length_set, Nat.sub_self, List.getElem?_cons_zero, Option.some.injEq] at hBi
      exact .inl ⟨rfl, hBi.symm, rfl⟩
    · rw [upd_ne _ e] at hi
      have hlt := h.2 i p hi
      rw [List.getElem?_append_left (by simpa using hlt)] at hBi
      by_cases e2 : id = i
      · subst e2
        rw [List.getElem?_set_self hidl] at hBi
        rw [hσ] at hi; cases hi
        exact .inr (.inl ⟨rfl, by simpa using hBi.symm, rfl⟩)
      · rw [List.getElem?_set_ne e2] at hBi
        exact .inr (.inr ⟨Ne.symm e2, e, hBi, hi⟩)
  refine ⟨hext, ⟨hs.os.trans h.1.os, hs.tape.trans h.1.tape, hs.output.trans h.1.output, by rw [hs.size]; exact h.1.size, ?_, ?_, ?_, ?_, ?_⟩, fun i p hi => ?_⟩
  · intro k hk hnk
    have : k ≠ b := by
      intro e; subst e
      rcases hbb with h1 | h1
      · omega
      · exact hnk h1
    rw [hs.old k this]; exact h.1.old k hk hnk
  · intro i b' δ' s' hi
    rw [hs.size]
    by_cases e : i = mem.length
    · subst e; rw [upd_self] at hi; cases hi; exact h.1.dom _ _ _ _ hσ
    · rw [upd_ne _ e] at hi; exact h.1.dom _ _ _ _ hi
  · intro i b' δ' s' Bi hi hBi
    rcases hget i _ Bi hi hBi with ⟨rfl, rfl, e⟩ | ⟨rfl, rfl, e⟩ | ⟨h1, h2, h3, h4⟩
    · cases e; exact hr
    · cases e
      obtain ⟨C, e, lo, hi1, g1, g2⟩ := hid
      exact ⟨C, e, lo, hi1, g1, g2, by simp [dead, Cont.size], fun o v hv => by simp [dead, Cont.at?] at hv, fun hw => by simp [dead] at hw⟩
    · have h0 := h.1.blk _ _ _ _ _ h4 h3
      by_cases hz : Bi.wr = true ∨ 0 < Bi.c.size
      · have hne := h.1.inj _ _ _ _ _ _ _ _ _ _ hσ h4 (Ne.symm h1) hB h3 hwr hz
        exact (h0.same (hs.old b' (Ne.symm hne))).ext hext
      · by_cases e : b' = b
        · subst e
          obtain ⟨C, e1, lo, hi1, g1, g2⟩ := hid
          obtain ⟨C0, e0, lo0, hi0, k1, k2, k3, k4, k5⟩ := h0.ex
          obtain ⟨C1, e2, lo1, hi2, m1, m2, m3, m4, m5⟩ := (h.1.blk _ _ _ _ _ hσ hB).ex
          rw [k1] at m1; cases m1
          exact ⟨C, e1, lo, hi1, g1, by omega, k3, fun o v hv => absurd (Or.inr (Nat.lt_of_le_of_lt (Nat.zero_le _) (Cont.at_lt hv))) hz, fun hw => absurd (Or.inl hw) hz⟩
        · exact (h0.same (hs.old b' e)).ext hext
  · intro i b' δ' s' Bi hi hBi hw
    rcases hget i _ Bi hi hBi with ⟨rfl, rfl, e⟩ | ⟨rfl, rfl, e⟩ | ⟨h1, h2, h3, h4⟩
    · cases e; exact hbb
    · simp [dead] at hw
    · exact h.1.wrs _ _ _ _ _ h4 h3 hw
  · intro i j bi δi si bj δj sj Bi Bj hi hj hij hBi hBj hw hz
    rcases hget i _ Bi hi hBi with ⟨rfl, rfl, e⟩ | ⟨rfl, rfl, e⟩ | ⟨h1, h2, h3, h4⟩
    · cases e
      rcases hget j _ Bj hj hBj with ⟨rfl, rfl, e⟩ | ⟨rfl, rfl, e⟩ | ⟨k1, k2, k3, k4⟩
      · exact absurd rfl hij
      · simp [dead, Cont.size] at hz
      · exact h.1.inj _ _ _ _ _ _ _ _ _ _ hσ k4 (Ne.symm k1) hB k3 hwr hz
    · simp [dead] at hw
    · rcases hget j _ Bj hj hBj with ⟨rfl, rfl, e⟩ | ⟨rfl, rfl, e⟩ | ⟨k1, k2, k3, k4⟩
      · cases e
        exact h.1.inj _ _ _ _ _ _ _ _ _ _ h4 hσ h1 h3 hB hw (.inl hwr)
      · simp [dead, Cont.size] at hz
      · exact h.1.inj _ _ _ _ _ _ _ _ _ _ h4 k4 hij h3 k3 hw hz
  · simp only [List.length_append, List.length_set, List.length_cons, List.length_nil]
    by_cases e : i = mem.length
    · omega
    · rw [upd_ne _ e] at hi; have := h.2 i p hi; omega


theorem run_append_fits (hT : TabOK P T) {st xt ty e : Nat} {d : TypeDesc} (hst : P.underlying st = some (.slice e)) (hxt : P.underlying xt = some d) (hd : ∀ k, d ≠ .int k) (hu : isU8 T e = true)
    {base base2 : Option Addr} {sl sc n c2 : Nat} {arr : Array Value} {w w' : World} (hfit : sl + n ≤ sc) (hfc : (Builtin.firstCells 1 n (.slice base2 n c2)).run P w = .ok arr w)
    (hs : match base with
      | some a => (storeCells (a.add sl) arr.toList).run P w = .ok () w'
      | none => w' = w) :
    (Builtin.append_ #[st, xt] ty #[.slice base sl sc, .slice base2 n c2]).run P w = .ok (.slice base (sl + n) sc) w' := by
  obtain ⟨h1, -, -⟩ := isU8_sound hT hu w
  cases base with
  | none =>
    subst hs
    simp [Builtin.append_, run_under hst, run_under hxt, h1, Builtin.lenOf, hfit, hfc]
  | some a =>
    simp [Builtin.append_, run_under hst, run_under hxt, h1, Builtin.lenOf, hfit, hfc, hs]

theorem run_append_grows (hT : TabOK P T) {st xt ty e : Nat} {d : TypeDesc} (hst : P.underlying st = some (.slice e)) (hxt : P.underlying xt = some d) (hd : ∀ k, d ≠ .int k) (hu : isU8 T e = true)
    {base base2 : Option Addr} {sl sc n c2 : Nat} {arr arr2 : Array Value} {w : World} (hfit : ¬ sl + n ≤ sc) (hroom : sl + n ≤ maxRoom)
    (hfc : (Builtin.firstCells 1 sl (.slice base sl sc)).run P { w with drawn := w.drawn + 1 } = .ok arr { w with drawn := w.drawn + 1 })
    (hfc2 : (Builtin.firstCells 1 n (.slice base2 n c2)).run P { w with drawn := w.drawn + 1 } = .ok arr2 { w with drawn := w.drawn + 1 }) :
    ∃ nc, sl + n ≤ nc ∧ nc < 9223372036854775808 ∧ (Builtin.append_ #[st, xt] ty #[.slice base sl sc, .slice base2 n c2]).run P w =
      .ok (.slice (some ⟨w.heap.size, 0, none⟩) (sl + n) nc) { w with drawn := w.drawn + 1, heap := w.heap.push (.cells (arr ++ arr2 ++ Builtin.zeroCells #[.int .u8 0] (nc - (sl + n))) e) } := by
  obtain ⟨h1, ⟨i, hi, hb⟩, zv, hz1, hz2⟩ := isU8_sound hT hu w
  have hcap := nextslicecap_le hfit hroom
  have hlt : sl + n < 2 ^ 63 := by unfold maxRoom at hroom; omega
  refine ⟨(Question.appendCap (sl + n) sc e).cut (w.tape w.drawn (.appendCap (sl + n) sc e)), ?_, ?_, ?_⟩
  · simp only [Question.cut]; omega
  · simp only [Question.cut]
    have := Nat.mod_lt (w.tape w.drawn (.appendCap (sl + n) sc e)) (show 0 < 2 ^ 63 - (sl + n) by omega)
    omega
  · have hi' : ∀ w' : World, (typeInfo e).run P w' = .ok i w' := by
      intro w'
      obtain ⟨-, ⟨i2, h2, -⟩, -⟩ := isU8_sound hT hu w'
      have e1 : (P.info? e) = some i := by
        simp only [typeInfo, Sem.run_bind, run_program, Result.andThen_ok] at hi
        split at hi
        · rename_i j hj; simp only [Sem.run_pure, Result.ok.injEq, and_true] at hi; rw [hj, hi]
        · simp at hi
      simp [typeInfo, e1]
    have hz1' : ∀ w' : World, (zeroValue e).run P w' = .ok zv w' := by
      intro w'
      simp only [zeroValue, Sem.run_bind, hi', Result.andThen_ok] at hz1 ⊢
      split at hz1
      · rename_i v hv; simp only [Sem.run_pure, Result.ok.injEq, and_true] at hz1 ⊢; exact hz1
      · simp at hz1
    have hf1 : ¬ (((sl + n : Nat) : Int) > IntKind.i64.max ∧ (False ∨ i.bytes = 0)) := by rw [hb]; simp
    have hcap' : ¬ (Builtin.nextslicecap (sl + n) sc * i.bytes > 2 ^ 48) := by rw [hb]; omega
    simp only [Builtin.append_]
    simp only [List.getElem?_toArray, List.getElem?_cons_zero, List.getElem?_cons_succ, Sem.run_bind, run_under hst, run_under hxt, Result.andThen_ok, h1, Sem.run_pure, Bool.false_eq_true, if_false, Builtin.lenOf, hfit, hi', hf1, hcap']
    simp [Question.forced, hz1', hz2, newRow, hb]
    have e1 : (Builtin.firstCells 1 sl (.slice base sl sc)).run P w.drew = .ok arr w.drew := hfc
    have e2 : (Builtin.firstCells 1 n (.slice base2 n c2)).run P w.drew = .ok arr2 w.drew := hfc2
    rw [e1]
    simp only [Result.andThen_ok]
    rw [e2]
    rfl


theorem bytes_read {σ : Ren} {B : Blk} {b δ z off : Nat} {w : World} (hbr : BlkRel σ B b δ z w) {l : List Nat} (hat : ∀ i, i < l.length → B.c.at? (off + i) = (l[i]?).map (AV.u .u8)) (len cap : Nat) :
    ∃ arr, (Builtin.firstCells 1 l.length (.slice (some ⟨b, δ + off, none⟩) len cap)).run P w = .ok arr w ∧ RL σ (l.map (AV.u .u8)) arr.toList := by
  obtain ⟨arr, g1, g2⟩ := run_loadCells (P := P) (σ := σ) (b := b) (p := δ + off) (w := w) l.length 0 (l.map (AV.u .u8)) #[] (by simp) (fun j v hv => by
    rw [List.getElem?_map] at hv
    have hj : j < l.length := by
      obtain ⟨_, hv', _⟩ := Option.map_eq_some_iff.1 hv
      exact (List.getElem?_eq_some_iff.1 hv').1
    have := hbr.cell (o := off + j) (v := v) (by rw [hat j hj]; exact hv)
    rwa [← Nat.add_assoc, ← Nat.zero_add j] at this)
  exact ⟨arr, by simp only [Builtin.firstCells, Nat.mul_one, loadCells]; rw [g1]; simp, g2⟩

theorem two_args {ev : Operand → AV} {c : Call} {s x : AV} (h : callArgs ev c.args.toList = [s, x]) : ∃ y z, c.args = #[y, z] ∧ ev y = s ∧ ev z = x := by
  generalize hl : c.args.toList = l at h
  match l, h with
  | [y, z], h =>
    simp only [callArgs, List.cons.injEq, and_true] at h
    exact ⟨y, z, Array.ext' hl, h.1, h.2⟩
  | [], h => simp [callArgs] at h
  | [_], h => simp [callArgs] at h
  | _ :: _ :: _ :: _, h => simp [callArgs] at h

theorem MemRel.drawn {σ : Ren} {mem : Mem} {w : World} (h : MemRel σ mem w) (k : Nat) : MemRel σ mem { w with drawn := k } :=
  fun i b δ s B hi hB => (h i b δ s B hi hB).same rfl

theorem FSt.drawn {W : World} {Wr : Nat → Prop} {σ : Ren} {mem : Mem} {w : World} (h : FSt W Wr σ mem w) (k : Nat) : FSt W Wr σ mem { w with drawn := k } := ⟨h.1.drawn k, h.2⟩
theorem FSt.kill {W : World} {Wr : Nat → Prop} {σ : Ren} {mem : Mem} {w : World} (h : FSt W Wr σ mem w) (id : Nat) : FSt W Wr σ (mem.set id dead) w := ⟨h.1.kill id, fun i p hi => by simpa using h.2 i p hi⟩
theorem FSt.more {W : World} {Wr : Nat → Prop} {σ : Ren} {mem : Mem} {w : World} (h : FSt W Wr σ mem w) (e : Mem) : FSt W Wr σ (mem ++ e) w :=
  ⟨h.1.more h.2 e, fun i p hi => by have := h.2 i p hi; simp; omega⟩

theorem u8_cells {σ : Ren} {l : List Nat} {arr : Array Value} (h : RL σ (l.map (AV.u .u8)) arr.toList) : l.length = arr.size := by
  have := h.size; simpa using this

theorem zeroCells_get (n i : Nat) (h : i < n) : (Builtin.zeroCells #[.int .u8 0] n)[i]? = some (.int .u8 0) := by
  simp [Builtin.zeroCells, h, Nat.mod_one]
theorem zeroCells_size (n : Nat) : (Builtin.zeroCells #[.int .u8 0] n).size = n := by simp [Builtin.zeroCells]

theorem appendK_sound (hT : TabOK P T) {mem : Mem} {ev : Operand → AV} {o : Oper} {c : Call} {K : AV → Mem → Option ρ} {r : ρ} (ho : o.op = .call c) (hc : c.callee = .builtin .append)
    (h : appendK T mem c.argTypes.toList (callArgs ev c.args.toList) K = some r) : ∃ v mem', K v mem' = some r ∧ FDoes P o mem ev v mem' := by
  unfold appendK at h
  split at h
  · rename_i st xt s x hts hxs
    have hat : c.argTypes = #[st, xt] := Array.ext' (by simpa using hts)
    obtain ⟨y, z, har, hy, hz⟩ := two_args hxs
    split at h
    · rename_i e e2 hsty hxty
      obtain ⟨hu, h⟩ := bif_some h
      have ust := (hT.known (t := st) (by rw [hsty]; simp)).slice hsty
      have uxt := (hT.known (t := xt) (by rw [hxty]; simp)).slice hxty
      obtain ⟨l2, h, hl2⟩ := sliceBytes_sound (P := P) h
      have hops : ∀ (σ : Ren) (re : Operand → Value), (∀ x ∈ o.op.operands.toList, R σ (ev x) (re x)) → R σ s (re y) ∧ R σ x (re z) := by
        intro σ re hr
        rw [ho] at hr
        have h1 := hr y (by simp [Op.operands, Call.operands, hc, har])
        have h2 := hr z (by simp [Op.operands, Call.operands, hc, har])
        rw [hy] at h1; rw [hz] at h2
        exact ⟨h1, h2⟩
      have hexec : ∀ (re : Operand → Value) (w w' : World) (rv : Value), (Builtin.append_ #[st, xt] o.type #[re y, re z]).run P w = .ok rv w' → (execOp re o).run P w = .ok (.value rv) w' := by
        intro re w w' rv hrun
        simp [execOp, ho, resolve, hc, invoke, builtin, hat, har, hrun]
      -- a fresh block
      have fresh : ∀ {W : World} {Wr : Nat → Prop} {σ : Ren} {w : World} {re : Operand → Value} {m0 : Mem} {base : Option Addr} {sc : Nat} {l : List Nat} {arr : Array Value}, m0.length = mem.length →
          FSt W Wr σ m0 w → MemRel σ mem w → re y = .slice base l.length sc → R σ x (re z) → ¬ l.length + l2.length ≤ sc → l.length + l2.length ≤ maxRoom →
          (Builtin.firstCells 1 l.length (.slice base l.length sc)).run P { w with drawn := w.drawn + 1 } = .ok arr { w with drawn := w.drawn + 1 } → RL σ (l.map (AV.u .u8)) arr.toList →
          OpTo P o re w fun rv w' => ∃ σ', Ext σ σ' ∧ R σ' (.slice mem.length 0 (l.length + l2.length) true) rv ∧ FSt W Wr σ' (m0 ++ [⟨.bytes (l ++ l2), true⟩]) w' := by
        intro W Wr σ w re m0 base sc l arr hml hst hmr hre hx hfit hroom hfc hR
        obtain ⟨b2, c2, arr2, g1, g2, g3, g4, g5, g6⟩ := hl2 σ { w with drawn := w.drawn + 1 } (re z) (hmr.drawn _) hx
        rw [g1] at g5
        obtain ⟨nc, n1, n2, n3⟩ := run_append_grows (P := P) (ty := o.type) hT ust uxt (by intro k; simp) hu hfit hroom hfc g5
        have s1 := u8_cells hR
        have s2 := u8_cells g6
        have hcells : RL σ ((l ++ l2).map (AV.u .u8)) (arr ++ arr2).toList := by simpa using hR.append g6
        obtain ⟨f1, f2⟩ := (hst.drawn (w.drawn + 1)).fresh (B := ⟨.bytes (l ++ l2), true⟩) (C := arr ++ arr2 ++ Builtin.zeroCells #[.int .u8 0] (nc - (l.length + l2.length))) (e := e)
          (by simp only [Cont.size, List.length_append, Array.size_append, zeroCells_size]; omega)
          (fun i v hv => by
            simp only [Cont.at?] at hv
            rw [← List.getElem?_map] at hv
            obtain ⟨rv, k1, k2⟩ := hcells.get hv
            have hlt : i < (arr ++ arr2).size := by
              have := (List.getElem?_eq_some_iff.1 k1).1; simpa using this
            exact ⟨rv, by rw [Array.getElem?_append_left hlt, ← Array.getElem?_toList]; exact k1, k2⟩) (0, 0) (fun o _ => by omega)
        rw [hml] at f1 f2
        refine OpTo.of_value (hexec re w _ _ (by rw [hre, g1]; exact n3)) ⟨_, f1, ?_, f2⟩
        refine .slice _ _ _ _ _ _ _ _ (upd_self _ _ _) n1 n2 (fun _ => ?_)
        simp only [Array.size_append, zeroCells_size]; omega
      cases s with
      | nils =>
        dsimp only at h
        obtain ⟨hroom, h⟩ := bif_some h
        have hroom := of_decide_eq_true hroom
        refine ⟨_, _, h, fun W Wr σ w re hst hr => ?_⟩
        obtain ⟨h1, h2⟩ := hops σ re hr
        generalize hvy : re y = vy at h1
        cases h1
        by_cases hfit : l2.length ≤ 0
        · have e0 : l2 = [] := List.length_eq_zero_iff.1 (by omega)
          obtain ⟨b2, c2, arr2, g1, g2, g3, g4, g5, g6⟩ := hl2 σ w (re z) hst.1.memRel h2
          rw [g1] at g5
          have hrun := run_append_fits (P := P) (ty := o.type) hT ust uxt (by intro k; simp) hu (base := none) (sl := 0) (sc := 0) (w' := w) (by omega) g5 rfl
          refine OpTo.of_value (hexec re w w _ (by rw [hvy, g1]; exact hrun)) ⟨σ, .refl σ, ?_, hst.more _⟩
          rw [e0]; exact .slic0 _ _ _ _
        · have := fresh (m0 := mem) (l := []) (arr := #[]) rfl hst hst.1.memRel hvy h2 (by simpa using hfit) (by simpa using hroom) (by simp [Builtin.firstCells]) .nil
          simpa using this
      | slice id off len ap =>
        cases ap with
        | false => cases h
        | true =>
        dsimp only at h
        split at h
        · rename_i B hB
          rw [nth_eq] at hB
          obtain ⟨hwr, h⟩ := bif_some h
          obtain ⟨l, h, hll, hle, hat⟩ := Cont.bytesK_sound h
          obtain ⟨hroom, h⟩ := bif_some h
          have hroom := of_decide_eq_true hroom
          rw [← hll] at h hroom hat hle
          refine ⟨_, _, h, fun W Wr σ w re hst hr => ?_⟩
          obtain ⟨h1, h2⟩ := hops σ re hr
          rw [← hll] at h1
          rw [setNth_eq]
          generalize hvy : re y = vy at h1
          have hidl : id < mem.length := (List.getElem?_eq_some_iff.1 hB).1
          generalize hgl : l.length = ll at h1
          cases h1 with
          | slic0 _ _ _ a =>
            have el : l = [] := List.length_eq_zero_iff.1 hgl
            subst el
            by_cases hfit : l2.length ≤ 0
            · have e0 : l2 = [] := List.length_eq_zero_iff.1 (by omega)
              obtain ⟨b2, c2, arr2, g1, g2, g3, g4, g5, g6⟩ := hl2 σ w (re z) hst.1.memRel h2
              rw [g1] at g5
              have ea : arr2 = #[] := by
                have := u8_cells g6
                rw [e0] at this
                exact Array.size_eq_zero_iff.1 (by simpa using this.symm)
              have hrun := run_append_fits (P := P) (ty := o.type) hT ust uxt (by intro k; simp) hu (base := a) (sl := 0) (sc := 0) (w' := w) (by omega) g5 (by
                subst ea; cases a <;> simp [storeCells])
              refine OpTo.of_value (hexec re w w _ (by rw [hvy, g1]; exact hrun)) ⟨σ, .refl σ, ?_, (hst.kill id).more _⟩
              rw [e0]; exact .slic0 _ _ _ _
            · have := fresh (m0 := mem.set id dead) (l := []) (arr := #[]) (base := a) (sc := 0) (by simp) (hst.kill id) hst.1.memRel hvy h2 (by simpa using hfit) (by simpa using hroom) (by
                cases a <;> simp [Builtin.firstCells, loadCells, loadCellsFrom]) .nil
              simpa using this
          | slice _ _ _ _ cap b δ zz hσ k1 k2 k3 =>
            subst hgl
            have hbr := hst.1.blk _ _ _ _ _ hσ hB
            by_cases hfit : l.length + l2.length ≤ cap
            · -- in place
              obtain ⟨b2, c2, arr2, g1, g2, g3, g4, g5, g6⟩ := hl2 σ w (re z) hst.1.memRel h2
              rw [g1] at g5
              have s2 := u8_cells g6
              obtain ⟨C, e3, lo, hi, m1, m2, m3, m4, m5⟩ := hbr.ex
              have hone : ∀ y ∈ arr2.toList, y.oneCell' = true := by
                intro y hy
                obtain ⟨j, hj⟩ := List.mem_iff_getElem?.1 hy
                have hj' : j < (l2.map (AV.u .u8)).length := by
                  rw [g6.length]; exact (List.getElem?_eq_some_iff.1 hj).1
                obtain ⟨y', q1, q2⟩ := g6.get (List.getElem?_eq_getElem hj')
                rw [hj] at q1; cases q1
                exact q2.oneCell (by simp [AV.scalar])
              have k3' := k3 rfl
              obtain ⟨w', C', r1, r2, r3, r4, r5⟩ := run_storeCells (P := P) (p := δ + off + l.length) arr2.toList 0 w C m1 (m5 hwr) (by simp only [Array.length_toList]; omega) hone
              have hrun := run_append_fits (P := P) (ty := o.type) hT ust uxt (by intro k; simp) hu (base := some ⟨b, δ + off, none⟩) (sl := l.length) (sc := cap) (w' := w') hfit g5 (by
                simp only [add_addr]; exact r1)
              have hn : σ mem.length = none := by
                cases hs : σ mem.length with
                | none => rfl
                | some p => have := hst.2 _ _ hs; omega
              have hcells : RL σ ((l ++ l2).map (AV.u .u8)) ((l.map (AV.u .u8)).map (fun _ => undef) ++ arr2.toList) → True := fun _ => trivial
              have hblk : BlkRel (upd σ mem.length (b, δ + off, zz - off)) ⟨.bytes (l ++ l2), true⟩ b (δ + off) (zz - off) w' := by
                refine ⟨C', e3, lo, hi, r2, by omega, by simp only [Cont.size, List.length_append]; omega, fun i v hv => ?_, fun _ i hi2 => m5 hwr i (by omega)⟩
                have hext : Ext σ (upd σ mem.length (b, δ + off, zz - off)) := upd_ext hn
                rw [r4 (δ + off + i)]
                simp only [Cont.at?] at hv
                by_cases hi2 : i < l.length
                · rw [if_neg (by omega)]
                  rw [List.getElem?_append_left hi2, ← hat i hi2] at hv
                  obtain ⟨rv, q1, q2⟩ := m4 _ _ hv
                  exact ⟨rv, by rw [← q1]; congr 1; omega, q2.ext hext⟩
                · rw [List.getElem?_append_right (by omega), ← List.getElem?_map] at hv
                  have hlt := (List.getElem?_eq_some_iff.1 hv).1
                  rw [List.length_map] at hlt
                  rw [if_pos (by simp only [Array.length_toList]; omega)]
                  obtain ⟨rv, q1, q2⟩ := g6.get hv
                  exact ⟨rv, by rw [show δ + off + i - (δ + off + l.length + 0) = i - l.length by omega]; exact q1, q2.ext hext⟩
              obtain ⟨f1, f2⟩ := hst.rename hσ hB hwr r5 hblk ⟨C', e3, lo, hi, r2, by omega⟩
              refine OpTo.of_value (hexec re w w' _ (by rw [hvy, g1]; exact hrun)) ⟨_, f1, ?_, f2⟩
              exact .slice _ _ _ _ _ _ _ _ (upd_self _ _ _) hfit k2 (fun _ => by omega)
            · obtain ⟨arr, g1, g2⟩ := bytes_read (P := P) (off := off) (w := { w with drawn := w.drawn + 1 }) (hbr.same rfl) hat l.length cap
              exact fresh (m0 := mem.set id dead) (by simp) (hst.kill id) hst.1.memRel hvy h2 hfit hroom g1 g2
        · cases h
      | _ => cases h
    · cases h
  · cases h

end Pw
