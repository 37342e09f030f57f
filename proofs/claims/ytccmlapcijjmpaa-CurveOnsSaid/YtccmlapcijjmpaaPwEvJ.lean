/- A part of the proof: PwEvJ. -/
import Derived.Test.YtccmlapcijjmpaaPwEvI
namespace Pw
open Go Go.RowKit

variable {P : Program} {T : List (Nat × TE)} {ρ : Type}

/-! ### operations with an effect that is said -/

inductive Eff where
  | none
  | alloc (B : Blk)
  | store (id : Nat) (B : Blk)

def Eff.on (m : Mem) : Eff → Mem
  | .none => m
  | .alloc B => m ++ [B]
  | .store id B => setNth m id B

/-- what is known of calls that leave memory as it is, or make one new block: how the evaluation goes on behind one -/
abbrev Quiet := FuncId → List AV → Mem → ∀ {ρ : Type}, (AV → Option Blk → Option ρ) → Option ρ

/-- what a known call leaves -/
def Leaves (σ : Ren) (mem : Mem) (w : World) (v : AV) (nb : Option Blk) (rv : Value) (w' : World) : Prop :=
  Below w.heap.size w w' ∧ match nb with
  | none => R σ v rv
  | some B => ∃ b δ s, w.heap.size ≤ b ∧ b < w'.heap.size ∧ R (upd σ mem.length (b, δ, s)) v rv ∧ BlkRel (upd σ mem.length (b, δ, s)) B b δ s w'

/-- a known call -/
def QuietAt (P : Program) (f : FuncId) (g : List AV → Mem → ∀ {ρ : Type}, (AV → Option Blk → Option ρ) → Option ρ) : Prop :=
  ∀ (args : List AV) (mem : Mem) (ρ : Type) (K : AV → Option Blk → Option ρ) (r : ρ), g args mem K = some r → ∃ v nb, K v nb = some r ∧
    ∀ (σ : Ren) (w : World) (real : Array Value), RL σ args real.toList → MemRel σ mem w → (nb.isSome = true → σ mem.length = none) → CallTo P f real w (Leaves σ mem w v nb)

def QuietOK (P : Program) (O : Quiet) : Prop := ∀ f, QuietAt P f (O f)

def toBytes : List AV → Option (List Nat)
  | [] => some []
  | .u .u8 n :: l => match toBytes l with
    | some r => some (n :: r)
    | none => none
  | _ => none

theorem toBytes_eq : ∀ {cs : List AV} {l : List Nat}, toBytes cs = some l → cs = l.map (AV.u .u8)
  | [], l, h => by simp only [toBytes, Option.some.injEq] at h; subst h; rfl
  | a :: cs, l, h => by
    unfold toBytes at h
    split at h
    · rename_i e; cases e
    · rename_i n l' e
      cases e
      split at h
      · rename_i r hr
        simp only [Option.some.injEq] at h
        subst h
        rw [toBytes_eq hr]; rfl
      · cases h
    · cases h

def callArgs (ev : Operand → AV) : List Operand → List AV
  | [] => []
  | x :: l => ev x :: callArgs ev l

theorem callArgs_R {σ : Ren} {ev : Operand → AV} {re : Operand → Value} : ∀ (l : List Operand), (∀ x ∈ l, R σ (ev x) (re x)) → RL σ (callArgs ev l) (l.map re)
  | [], _ => .nil
  | x :: l, h => .cons _ _ _ _ (h x (by simp)) (callArgs_R l fun y hy => h y (by simp [hy]))

/-- cells of zeros, one value behind the other -/
def zcells (z : List AV) (s n : Nat) : List AV := (List.range n).map fun i => match nth z (i % s) with
  | some v => v
  | none => .unk

def simpK (T : List (Nat × TE)) (O : Quiet) (mem : Mem) (ev : Operand → AV) (o : Op) (K : AV → Eff → Option ρ) : Option ρ :=
  match o with
  | .load t a => match ev a with
    | .ptr id off => loadK T mem t id off fun v => K v .none
    | _ => none
  | .store t a v => match ev a with
    | .ptr id off => storeK T mem t id off (ev v) fun B => K (.tup []) (.store id B)
    | _ => none
  | .alloc t => match (teAt T t).ty with
    | .other => none
    | _ => (match (teAt T t).zero with
      | some z => K (.ptr mem.length 0) (.alloc ⟨.cells z, true⟩)
      | none => none)
  | .box _ x => bif (ev x).isC then K (.ptr mem.length 0) (.alloc ⟨.cells (ev x).cells, true⟩) else none
  | .buildSlice t len parts => match (teAt T t).ty with
    | .slice e => (match sz T e, (teAt T e).zero with
      | some s, some z => bif Nat.beq z.length s && Nat.ble (len * s) 16777216 then
          (match fillA (fun i => some (i * s, s)) (zcells z s (len * s)) (parts.toList.map fun x => (x.1, ev x.2)) with
          | some cs => bif Nat.ble len cs.length && Nat.ble len 16777216 then (match (teAt T e).ty with
            | .int .u8 => (match toBytes cs with
              | some l => K (.slice mem.length 0 len true) (.alloc ⟨.bytes l, true⟩)
              | none => none)
            | _ => K (.slice mem.length 0 len true) (.alloc ⟨.cells cs, true⟩)) else none
          | none => none) else none
      | _, _ => none)
    | _ => none
  | .makeSlice t l c => match (teAt T t).ty, ev l, ev c with
    | .slice e, .n l, .n c => (match (teAt T e).ty, (teAt T e).zero with
      | .int .u8, some [.u .u8 0] => bif Nat.beq (teAt T e).bytes 1 && (Nat.beq (teAt T e).size 1 && decide (0 ≤ l ∧ l ≤ c ∧ c ≤ 281474976710656)) then
          K (.slice mem.length 0 l.toNat true) (.alloc ⟨.bytes (List.replicate c.toNat 0), true⟩) else none
      | _, _ => none)
    | _, _, _ => none
  | .call c => match c.callee with
    | .value f => (match ev f with
      | .fn f caps => O f (callArgs ev c.args.toList ++ caps) mem fun v nb => match nb with
        | none => K v .none
        | some B => K v (.alloc B)
      | _ => none)
    | .builtin .len => (match c.argTypes.toList, callArgs ev c.args.toList with
      | [t], [x] => (match (teAt T t).ty, x with
        | .slice _, .slice _ _ len _ => K (.n (len : Int)) .none
        | .slice _, .nils => K (.n 0) .none
        | .arr n _, _ => bif decide (n < 9223372036854775808) then K (.n (n : Int)) .none else none
        | .str, .str s => bif decide (s.size < 9223372036854775808) then K (.n (s.size : Int)) .none else none
        | _, _ => none)
      | _, _ => none)
    | _ => none
  | o => pureK T ev o fun v => K v .none

def isStore : Op → Bool
  | .store .. => true
  | _ => false

/-- does an operation look into memory that is there? -/
def memOp : Op → Bool
  | .load .. | .store .. => true
  | .call { callee := .builtin .len, .. } => false
  | .call _ => true
  | _ => false


/-- the one block that a load or a store looks into -/
def fpOf (ev : Operand → AV) : Op → Option Nat
  | .load _ a => (match ev a with | .ptr id _ => some id | _ => none)
  | .store _ a _ => (match ev a with | .ptr id _ => some id | _ => none)
  | _ => none

def Eff.full (full : Mem) : Eff → Mem
  | .store id B => full.set id B
  | _ => full

/-- what an operation does, in every world that fits -/
def Does (P : Program) (o : Oper) (mem : Mem) (ev : Operand → AV) (v : AV) (eff : Eff) : Prop :=
  ∀ (W : World) (Wr : Nat → Prop) (σ : Ren) (full : Mem) (w : World) (re : Operand → Value), St W Wr σ full w →
    (memOp o.op = true → ∀ (i : Nat) (B : Blk), (∀ id, fpOf ev o.op = some id → i = id) → mem[i]? = some B → full[i]? = some B) →
    (∀ B, eff = .alloc B → full[mem.length]? = some B ∧ σ mem.length = none) →
    (∀ x ∈ o.op.operands.toList, R σ (ev x) (re x)) →
    (∀ id B, eff = .store id B → ∃ p, σ id = some p) ∧
    OpTo P o re w fun rv w' => ∃ σ', Ext σ σ' ∧ R σ' v rv ∧ St W Wr σ' (eff.full full) w' ∧
      ∀ (i : Nat) (p : Nat × Nat × Nat), σ' i = some p → σ i = some p ∨ ((∃ B, eff = .alloc B) ∧ i = mem.length)

theorem MemRel.front {σ : Ren} {mem full : Mem} {w : World} (h : MemRel σ full w) (hp : ∀ (i : Nat) (B : Blk), mem[i]? = some B → full[i]? = some B) : MemRel σ mem w :=
  fun i b δ s B hi hB => h i b δ s B hi (hp i B hB)

/-- a new block of cells: what the operation hands back is told by its address -/
theorem Does.of_alloc {o : Oper} {mem : Mem} {ev : Operand → AV} {v : AV} {B : Blk}
    (h : ∀ (σ : Ren) (w : World) (re : Operand → Value), (∀ x ∈ o.op.operands.toList, R σ (ev x) (re x)) →
      ∃ (C : Array Value) (e : TypeId) (rv : Value), (execOp re o).run P w = .ok (.value rv) { w with heap := w.heap.push (.cells C e) } ∧ B.c.size ≤ C.size ∧
        (∀ (i : Nat) (u : AV), B.c.at? i = some u → ∃ x, C[i]? = some x ∧ R σ u x) ∧ ∀ σ' : Ren, σ' mem.length = some (w.heap.size, 0, C.size) → R σ' v rv) :
    Does P o mem ev v (.alloc B) := by
  intro W Wr σ full w re hst _ hal hr
  obtain ⟨C, e, rv, h1, h2, h3, h4⟩ := h σ w re hr
  obtain ⟨hB, hn⟩ := hal B rfl
  refine ⟨by simp, OpTo.of_value h1 ⟨_, upd_ext hn, h4 _ (upd_self _ _ _), hst.alloc hn hB h2 h3 (0, 0) (fun o _ => by omega), fun i p hi => ?_⟩⟩
  by_cases e : i = mem.length
  · exact .inr ⟨⟨B, rfl⟩, e⟩
  · rw [upd_ne _ e] at hi; exact .inl hi

theorem RL.at_cells {σ : Ren} {cs : List AV} {C : Array Value} (h : RL σ cs C.toList) (i : Nat) (u : AV) (hu : (Cont.cells cs).at? i = some u) : ∃ x, C[i]? = some x ∧ R σ u x := by
  obtain ⟨x, h1, h2⟩ := h.get hu
  exact ⟨x, by simpa using h1, h2⟩

theorem RL.size {σ : Ren} {cs : List AV} {C : Array Value} (h : RL σ cs C.toList) : cs.length = C.size := by
  rw [h.length]; simp

theorem zcells_R {σ : Ren} {z : List AV} {zr : Array Value} (h : RL σ z zr.toList) {s n : Nat} (hs : z.length = s) : RL σ (zcells z s n) ((Array.range n).map (zr[· % zr.size]!)).toList := by
  have hsz := h.size
  refine RL.of_get (by simp [zcells]) fun i a v ha hv => ?_
  have hi : i < n := by
    have := (List.getElem?_eq_some_iff.1 hv).1; simpa using this
  unfold zcells at ha
  rw [List.getElem?_map, List.getElem?_range hi] at ha
  simp only [Option.map_some, Option.some.injEq, nth_eq] at ha
  simp only [Array.toList_map, List.getElem?_map, Array.toList_range, List.getElem?_range hi, Option.map_some, Option.some.injEq] at hv
  subst hv
  split at ha
  · rename_i u hu
    subst ha
    obtain ⟨x, h1, h2⟩ := h.get hu
    have h1' : zr[i % s]? = some x := by simpa using h1
    rw [← hsz, hs]
    rw [getElem!_def, h1']; exact h2
  · subst ha; exact .unk _


theorem Does.of_pure (hT : TabOK P T) {mem : Mem} {ev : Operand → AV} {o : Oper} {K : AV → Option ρ} {r : ρ} (h : pureK T ev o.op K = some r) : ∃ v, K v = some r ∧ Does P o mem ev v .none := by
  obtain ⟨v, hk, hs⟩ := pureK_sound hT h
  refine ⟨v, hk, fun W Wr σ full w re hst _ _ hr => ?_⟩
  obtain ⟨rv, h1, h2⟩ := hs σ re w hr
  exact ⟨by simp, OpTo.of_value h1 ⟨σ, .refl σ, h2, hst, fun i p hi => .inl hi⟩⟩

theorem simpK_sound (hT : TabOK P T) {O : Quiet} (hO : QuietOK P O) {mem : Mem} {ev : Operand → AV} {o : Oper} {K : AV → Eff → Option ρ} {r : ρ} (h : simpK T O mem ev o.op K = some r) :
    ∃ v eff, K v eff = some r ∧ Does P o mem ev v eff ∧ (isStore o.op = false → ∀ id B, eff ≠ .store id B) ∧
      (∀ id B, eff = .store id B → fpOf ev o.op = some id ∧ ∃ B0 : Blk, mem[id]? = some B0 ∧ B0.wr = true ∧ B.wr = true ∧ B.c.size = B0.c.size) := by
  unfold simpK at h
  split at h
  · -- load
    rename_i t a ho
    split at h
    · rename_i id off ha
      obtain ⟨v, hk, hs⟩ := loadK_sound hT h
      refine ⟨v, .none, hk, fun W Wr σ full w re hst hp _ hr => ?_, by simp, by simp⟩
      have h1 := hr a (by rw [ho]; simp [Op.operands])
      rw [ha] at h1
      obtain ⟨rv, h2, h3⟩ := hs σ w (re a) (fun b δ s B hσ hB => hst.memRel _ _ _ _ _ hσ (hp (by rw [ho]; rfl) id B (by rw [ho]; simp [fpOf, ha]) hB)) h1
      exact ⟨by simp, OpTo.of_value (by simp [execOp, ho, h2]) ⟨σ, .refl σ, h3, hst, fun i p hi => .inl hi⟩⟩
    · cases h
  · -- store
    rename_i t a x ho
    split at h
    · rename_i id off ha
      obtain ⟨B, B', hB, hk, hsz, hw', hw, hs⟩ := storeK_sound (P := P) hT h
      refine ⟨_, .store id B', hk, fun W Wr σ full w re hst hp _ hr => ?_, by rw [ho]; simp [isStore], fun id2 B2 e => ?_⟩
      · have h1 := hr a (by rw [ho]; simp [Op.operands])
        have h2 := hr x (by rw [ho]; simp [Op.operands])
        rw [ha] at h1
        obtain ⟨w', h3, h4⟩ := hs W Wr σ full w (re a) (re x) hst (hp (by rw [ho]; rfl) _ _ (by rw [ho]; simp [fpOf, ha]) hB) h1 h2
        refine ⟨fun id2 B2 e => ?_, OpTo.of_skip (by simp [execOp, ho, h3]) ⟨σ, .refl σ, .tup _ _ .nil, h4, fun i p hi => .inl hi⟩⟩
        cases e
        generalize re a = va at h1
        cases h1 with | ptr _ _ b δ s hσ => exact ⟨_, hσ⟩
      · cases e; exact ⟨by rw [ho]; simp [fpOf, ha], B, hB, hw, hw', hsz⟩
    · cases h
  · -- alloc
    rename_i t ho
    split at h
    · cases h
    · rename_i hne
      split at h
      · rename_i z hz
        refine ⟨_, _, h, Does.of_alloc fun σ w re hr => ?_, by simp, by simp⟩
        have k := hT.known (t := t) (fun e => hne e)
        obtain ⟨zv, h1, h2⟩ := k.run_zero (w := w) hz
        refine ⟨zv.cells, t, .pointer (some ⟨w.heap.size, 0, none⟩), ?_, ?_, fun i u hu => (h2 σ).at_cells i u hu, fun σ' hσ' => .ptr _ _ _ _ _ hσ'⟩
        · simp [execOp, ho, Instr.alloc, h1, newVar, newRow]
        · exact Nat.le_of_eq (h2 σ).size
      · cases h
  · -- box
    rename_i t x ho
    obtain ⟨hc, h⟩ := bif_some h
    refine ⟨_, _, h, Does.of_alloc fun σ w re hr => ?_, by simp, by simp⟩
    have h1 := (hr x (by rw [ho]; simp [Op.operands])).cells hc
    refine ⟨(re x).cells, t, .pointer (some ⟨w.heap.size, 0, none⟩), ?_, ?_, fun i u hu => h1.at_cells i u hu, fun σ' hσ' => .ptr _ _ _ _ _ hσ'⟩
    · simp [execOp, ho, Instr.box, newVar, newRow]
    · exact Nat.le_of_eq h1.size
  · -- buildSlice
    rename_i t len parts ho
    split at h
    · rename_i e hty
      split at h
      · rename_i s z hs hz
        obtain ⟨hc, h⟩ := bif_some h
        simp only [Bool.and_eq_true] at hc
        have hzl := Nat.eq_of_beq_eq_true hc.1
        have hle := Nat.le_of_ble_eq_true hc.2
        split at h
        · rename_i cs hcs
          have ua := (hT.known (t := t) (by rw [hty]; simp)).slice hty
          obtain ⟨ke, hke⟩ := sz_known hT hs
          have main : ∀ (σ : Ren) (w : World) (re : Operand → Value), (∀ x ∈ o.op.operands.toList, R σ (ev x) (re x)) →
              ∃ C : Array Value, (execOp re o).run P w = .ok (.value (.slice (some ⟨w.heap.size, 0, none⟩) len len)) { w with heap := w.heap.push (.cells C e) } ∧ RL σ cs C.toList := by
            intro σ w re hr
            obtain ⟨zv, h1, h2⟩ := ke.run_zero (w := w) hz
            have hfill : ∀ zr : Array Value, RL σ (zcells z s (len * s)) ((Array.range (len * s)).map (zr[· % zr.size]!)).toList →
                ∃ C, Instr.fill (fun i => some (i * s, s)) ((Array.range (len * s)).map (zr[· % zr.size]!)) (parts.toList.map fun x => (x.1, re x.2)) = some C ∧ RL σ cs C.toList := fun zr h4 =>
              fillA_sound (σ := σ) (ev := ev) (re := re) (placeR := fun i => some (i * s, s)) (placeA := fun i => some (i * s, s)) (fun i p hp => hp)
              parts.toList (zcells z s (len * s)) _ cs (fun x hx => hr x.2 (by rw [ho]; simp only [Op.operands]; simp; exact ⟨x.1, by simpa using hx⟩)) h4 hcs
            have hn : ¬ (len * s > 2 ^ 24) := by omega
            have hparts : (Array.map (fun (x : Nat × Operand) => (x.1, re x.2)) parts).toList = parts.toList.map fun x => (x.1, re x.2) := by simp
            by_cases e0 : len * s = 0
            · obtain ⟨C, h5, h6⟩ := hfill #[] (by rw [e0]; simpa [zcells] using RL.nil)
              refine ⟨C, ?_, h6⟩
              rw [e0] at h5
              have hn0 : ¬ (0 > 2 ^ 24) := by omega
              simp only [execOp, ho, Instr.buildSlice, Sem.run_bind, run_under ua, Result.andThen_ok, ke.run_size, hke, e0, hn0, if_false, if_true, Sem.run_pure, hparts, h5, newRow, run_newObj]
            · obtain ⟨C, h5, h6⟩ := hfill zv.cells (zcells_R (h2 σ) hzl)
              refine ⟨C, ?_, h6⟩
              simp only [execOp, ho, Instr.buildSlice, Sem.run_bind, run_under ua, Result.andThen_ok, ke.run_size, hke, hn, if_false, e0, h1, Sem.run_pure, hparts, h5, newRow, run_newObj]
          obtain ⟨hcc, h⟩ := bif_some h
          simp only [Bool.and_eq_true] at hcc
          have hl1 := Nat.le_of_ble_eq_true hcc.1
          have hl2 := Nat.le_of_ble_eq_true hcc.2
          have hval : ∀ (σ' : Ren) (w : World) (C : Array Value), len ≤ C.size → σ' mem.length = some (w.heap.size, 0, C.size) →
              R σ' (.slice mem.length 0 len true) (.slice (some ⟨w.heap.size, 0, none⟩) len len) := fun σ' w C hC hσ' =>
            .slice _ _ _ _ _ _ _ _ hσ' (Nat.le_refl _) (by omega) (fun _ => by omega)
          split at h
          · split at h
            · rename_i l hl
              refine ⟨_, _, h, Does.of_alloc fun σ w re hr => ?_, by simp, by simp⟩
              obtain ⟨C, h1, h2⟩ := main σ w re hr
              have hcsl := toBytes_eq hl
              have hlen : l.length = C.size := by rw [← h2.size, hcsl]; simp
              refine ⟨C, e, _, h1, Nat.le_of_eq hlen, fun i u hu => ?_, fun σ' hσ' => hval σ' w C (by rw [← h2.size]; exact hl1) hσ'⟩
              refine h2.at_cells i u ?_
              rw [hcsl]; simpa [Cont.at?] using hu
            · cases h
          · refine ⟨_, _, h, Does.of_alloc fun σ w re hr => ?_, by simp, by simp⟩
            obtain ⟨C, h1, h2⟩ := main σ w re hr
            exact ⟨C, e, _, h1, Nat.le_of_eq h2.size, fun i u hu => h2.at_cells i u hu, fun σ' hσ' => hval σ' w C (by rw [← h2.size]; exact hl1) hσ'⟩
        · cases h
      · cases h
    · cases h
  · -- makeSlice
    rename_i t l c ho
    split at h
    · rename_i e l' c' hty hl hc
      split at h
      · rename_i hte hze
        obtain ⟨hcc, h⟩ := bif_some h
        simp only [Bool.and_eq_true] at hcc
        obtain ⟨hb, hs, hd⟩ := hcc
        have hb := Nat.eq_of_beq_eq_true hb
        have hs := Nat.eq_of_beq_eq_true hs
        have hd := of_decide_eq_true hd
        have ua := (hT.known (t := t) (by rw [hty]; simp)).slice hty
        have ke := hT.known (t := e) (by rw [hte]; simp)
        refine ⟨_, _, h, Does.of_alloc fun σ w re hr => ?_, by simp, by simp⟩
        have h1 := hr l (by rw [ho]; simp [Op.operands])
        have h2 := hr c (by rw [ho]; simp [Op.operands])
        rw [hl] at h1
        rw [hc] at h2
        generalize hvl : re l = vl at h1
        generalize hvc : re c = vc at h2
        cases h1 with | n _ a1 a2 =>
        cases h2 with | n _ a3 a4 =>
        obtain ⟨i, hi, hi1, hi2, hi3⟩ := ke.run_info (w := w)
        obtain ⟨zv, hz1, hz2⟩ := ke.run_zero (w := w) hze
        have hz2' := hz2 σ
        have hzc : zv.cells = #[.int .u8 0] := by
          have := hz2'
          generalize hzz : zv.cells.toList = zl at this
          cases this with | cons _ x _ m hx hm =>
          cases hm
          cases hx
          exact Array.ext' (by rw [hzz]; rfl)
        refine ⟨(Array.range c'.toNat).map (zv.cells[· % zv.cells.size]!), e, .slice (some ⟨w.heap.size, 0, none⟩) l'.toNat c'.toNat, ?_, by simp [Cont.size], fun i u hu => ?_, fun σ' hσ' => ?_⟩
        · have w1 : w64 l' = l' := w64_id a1 a2
          have w2 : w64 c' = c' := w64_id a3 a4
          have hbi : (i.bytes : Int) = 1 := by rw [hi2, hb]; rfl
          have n1 : ¬ (c' < 0 ∨ c' > 2 ^ 48) := by omega
          have n2 : ¬ (l' < 0) := by omega
          have n3 : ¬ (l' > c') := by omega
          simp only [execOp, ho, hvl, hvc, Instr.makeSlice, Sem.run_bind, run_under ua, Result.andThen_ok, asInt, asIntOf, Sem.run_pure, hi, wrap_w64, w1, w2, hbi, Int.one_mul]
          have hcond : (decide (c' < 0) || decide (c' > 2 ^ 48) || decide (l' < 0) || decide (l' > c')) = false := by simp; omega
          rw [if_neg (by simpa using hcond)]
          simp only [run_askRoom, Result.andThen_ok, ke.run_size, hs, Nat.mul_one, Sem.run_bind]
          by_cases e0 : c'.toNat = 0
          · have er : Array.range 0 = #[] := rfl
            simp [e0, newRow, er]
          · simp [e0, hz1, newRow]
        · simp only [Cont.at?, List.getElem?_replicate, Option.map_eq_some_iff] at hu
          obtain ⟨n, hn, rfl⟩ := hu
          split at hn
          · rename_i hlt
            cases hn
            refine ⟨.int .u8 ((0 : Nat) : Int), ?_, .u _ _ rfl (by simp [IntKind.bits])⟩
            simp [hlt, hzc, Nat.mod_one]
          · cases hn
        · refine .slice _ _ _ _ _ _ _ _ hσ' (by omega) (by omega) (fun _ => by simp)
      · cases h
    · cases h
  · -- call
    rename_i c ho
    split at h
    · rename_i f hcal
      split at h
      · rename_i f' caps hf
        · obtain ⟨v, nb, h, hO'⟩ := hO f' _ mem _ _ _ h
          have pre : ∀ {W : World} {Wr : Nat → Prop} {σ : Ren} {full : Mem} {w : World} {re : Operand → Value}, St W Wr σ full w → (memOp o.op = true → ∀ (i : Nat) (B : Blk), (∀ id, fpOf ev o.op = some id → i = id) → mem[i]? = some B → full[i]? = some B) →
              (∀ x ∈ o.op.operands.toList, R σ (ev x) (re x)) → (nb.isSome = true → σ mem.length = none) → OpTo P o re w (Leaves σ mem w v nb) := by
            intro W Wr σ full w re hst hp hr hn
            have hf1 := hr f (by rw [ho]; simp [Op.operands, Call.operands, hcal])
            rw [hf] at hf1
            generalize hre : re f = vf at hf1
            cases hf1 with | fn _ _ arr hcaps =>
            have hargs : RL σ (callArgs ev c.args.toList ++ caps) (c.args.map re ++ arr).toList := by
              have h1 := callArgs_R (σ := σ) (ev := ev) (re := re) c.args.toList (fun x hx => hr x (by
                rw [ho]; simp only [Op.operands, Call.operands, hcal]; simp; right; simpa using hx))
              have := h1.append hcaps
              simpa using this
            have hmo : memOp o.op = true := by
              rw [ho]; cases c; simp only at hcal; subst hcal; rfl
            exact OpTo.of_call ho hcal hre (hO' σ w _ hargs (hst.memRel.front fun i B => hp hmo i B (fun id e => by rw [ho] at e; simp [fpOf] at e)) hn)
          cases nb with
          | none =>
            refine ⟨v, .none, h, fun W Wr σ full w re hst hp _ hr => ⟨by simp, ?_⟩, by simp, by simp⟩
            exact (pre hst hp hr (by simp)).mono fun rv w' hq => ⟨σ, .refl σ, hq.2, hst.below hq.1, fun i p hi => .inl hi⟩
          | some B =>
            refine ⟨v, .alloc B, h, fun W Wr σ full w re hst hp hal hr => ⟨by simp, ?_⟩, by simp, by simp⟩
            obtain ⟨hB, hn⟩ := hal B rfl
            refine (pre hst hp hr (fun _ => hn)).mono fun rv w' ⟨hq1, b, δ, s, g1, g2, g3, g4⟩ => ⟨_, upd_ext hn, g3, hst.adopt hq1 hn hB g1 g2 g4, fun i p hi => ?_⟩
            by_cases e : i = mem.length
            · exact .inr ⟨⟨B, rfl⟩, e⟩
            · rw [upd_ne _ e] at hi; exact .inl hi
      · cases h
    · rename_i hcal
      split at h
      · rename_i t x ht hx
        have hlen : ∀ (v : AV) (n : Nat), K v .none = some r → (∀ (σ : Ren) (vx : Value) (w : World), R σ x vx → (Builtin.len_ #[t] o.type #[vx]).run P w = .ok (.int .i64 (n : Int)) w ∧ R σ v (.int .i64 (n : Int))) →
            ∃ v eff, K v eff = some r ∧ Does P o mem ev v eff ∧ (isStore o.op = false → ∀ id B, eff ≠ .store id B) ∧
              (∀ id B, eff = .store id B → fpOf ev o.op = some id ∧ ∃ B0 : Blk, mem[id]? = some B0 ∧ B0.wr = true ∧ B.wr = true ∧ B.c.size = B0.c.size) := by
          intro v n hk hs
          refine ⟨v, .none, hk, fun W Wr σ full w re hst _ _ hr => ?_, by simp, by simp⟩
          have hat : c.argTypes = #[t] := Array.ext' (by simpa using ht)
          cases hca : c.args.toList with
          | nil => rw [hca] at hx; simp [callArgs] at hx
          | cons y l =>
            rw [hca] at hx
            cases l with
            | cons z l => simp [callArgs] at hx
            | nil =>
              simp only [callArgs, List.cons.injEq, and_true] at hx
              have har : c.args = #[y] := Array.ext' (by simpa using hca)
              have hy := hr y (by rw [ho]; simp [Op.operands, Call.operands, hcal, har])
              rw [hx] at hy
              obtain ⟨h1, h2⟩ := hs σ (re y) w hy
              refine ⟨by simp, OpTo.of_value ?_ ⟨σ, .refl σ, h2, hst, fun i p hi => .inl hi⟩⟩
              simp [execOp, ho, resolve, hcal, invoke, builtin, hat, har, h1]
        split at h
        · rename_i e id off len ap hty
          have ua := (hT.known (t := t) (by rw [hty]; simp)).slice hty
          refine hlen _ len h fun σ vx w hvx => ?_
          cases hvx with
          | slice _ _ _ _ cap b δ s hσ h1 h2 h3 => exact ⟨by simp [Builtin.len_, run_under ua, goInt], .n _ (by omega) (by omega)⟩
          | slic0 => exact ⟨by simp [Builtin.len_, run_under ua, goInt], .n _ (by omega) (by omega)⟩
        · rename_i e hty
          have ua := (hT.known (t := t) (by rw [hty]; simp)).slice hty
          refine hlen _ 0 h fun σ vx w hvx => ?_
          cases hvx
          exact ⟨by simp [Builtin.len_, run_under ua, goInt], .n _ (by omega) (by omega)⟩
        · rename_i n e hty
          obtain ⟨hc1, h⟩ := bif_some h
          have hc1 := of_decide_eq_true hc1
          have ua := (hT.known (t := t) (by rw [hty]; simp)).arr hty
          exact hlen _ n h fun σ vx w hvx => ⟨by cases vx <;> simp [Builtin.len_, run_under ua, goInt], .n _ (by omega) (by omega)⟩
        · rename_i s hty
          obtain ⟨hc1, h⟩ := bif_some h
          have hc1 := of_decide_eq_true hc1
          have ua := (hT.known (t := t) (by rw [hty]; simp)).str hty
          refine hlen _ s.size h fun σ vx w hvx => ?_
          cases hvx
          exact ⟨by simp [Builtin.len_, run_under ua, goInt], .n _ (by omega) (by omega)⟩
        · cases h
      · cases h
    · cases h
  · -- others
    rename_i h1 h2 h3 h4 h5 h6 h7
    obtain ⟨v, hk, hd⟩ := Does.of_pure (mem := mem) hT h
    exact ⟨v, .none, hk, hd, by simp, by simp⟩

end Pw
