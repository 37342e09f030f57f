/- A part of the proof: PwEvF. -/
import Derived.Test.YtccmlapcijjmpaaPwEvE
namespace Pw
open Go

variable {P : Program} {T : List (Nat × TE)} {ρ : Type}

def AV.cells : AV → List AV
  | .agg cs => cs
  | v => [v]

def allScalar : List AV → Bool
  | [] => true
  | a :: l => match a.scalar with | true => allScalar l | false => false

theorem allScalar_mem : ∀ {l : List AV}, allScalar l = true → ∀ a ∈ l, a.scalar = true
  | [], _, _, h => by simp at h
  | a :: l, h, b, hb => by
    unfold allScalar at h
    split at h
    · rename_i h1
      cases hb with
      | head => exact h1
      | tail _ hb => exact allScalar_mem h b hb
    · cases h

/-- a value whose cells are known -/
def AV.isC : AV → Bool
  | .agg _ => true
  | .tup _ | .unk => false
  | _ => true

theorem R.cells {σ : Ren} {a : AV} {v : Value} (h : R σ a v) (hs : a.isC = true) : RL σ a.cells v.cells.toList := by
  cases h <;> simp_all [AV.isC, AV.cells, Value.cells] <;> first
    | exact .cons _ _ _ _ (.bool _) .nil
    | exact .cons _ _ _ _ (.u _ _ ‹_› ‹_›) .nil
    | exact .cons _ _ _ _ (.n _ ‹_› ‹_›) .nil
    | exact .cons _ _ _ _ (.str _) .nil
    | exact .cons _ _ _ _ (.ptr _ _ _ _ _ ‹_›) .nil
    | exact .cons _ _ _ _ .nilp .nil
    | exact .cons _ _ _ _ (.slice _ _ _ _ _ _ _ _ ‹_› ‹_› ‹_› ‹_›) .nil
    | exact .cons _ _ _ _ (.slic0 _ _ _ _) .nil
    | exact .cons _ _ _ _ .nils .nil
    | exact .cons _ _ _ _ (.fn _ _ _ ‹_›) .nil

/-- cells with others in the place of some -/
def splice (cs : List AV) (off : Nat) (vs : List AV) : List AV := cs.take off ++ (vs ++ cs.drop (off + vs.length))

def fillA (place : Nat → Option (Nat × Nat)) (cells : List AV) : List (Nat × AV) → Option (List AV)
  | [] => some cells
  | (i, v) :: rest => match place i with
    | none => none
    | some (off, size) =>
      bif Nat.beq v.cells.length size && (Nat.ble (off + size) cells.length && v.isC) then fillA place (splice cells off v.cells) rest else none

theorem foldl_set (off : Nat) : ∀ (vs : List Value) (j : Nat) (cells : Array Value), off + j + vs.length ≤ cells.size →
    ((vs.zipIdx j).foldl (fun cs (x : Value × Nat) => cs.setIfInBounds (off + x.2) x.1) cells).toList = cells.toList.take (off + j) ++ (vs ++ cells.toList.drop (off + j + vs.length))
  | [], j, cells, _ => by simp
  | v :: vs, j, cells, h => by
    simp only [List.length_cons] at h
    simp only [List.zipIdx_cons, List.foldl_cons]
    rw [foldl_set off vs (j + 1) (cells.setIfInBounds (off + j) v) (by simp; omega)]
    simp only [Array.toList_setIfInBounds, List.length_cons]
    have e1 : List.take (off + (j + 1)) (cells.toList.set (off + j) v) = List.take (off + j) cells.toList ++ [v] := by
      rw [show off + (j + 1) = off + j + 1 by omega, List.take_succ_eq_append_getElem (by simp; omega)]
      simp [List.take_set_of_le]
    have e2 : List.drop (off + (j + 1) + vs.length) (cells.toList.set (off + j) v) = List.drop (off + j + (vs.length + 1)) cells.toList := by
      rw [List.drop_set_of_lt (by omega)]; congr 1; omega
    rw [e1, e2]; simp

theorem RL.splice {σ : Ren} {cs vs : List AV} {cr vr : List Value} (h : RL σ cs cr) (hv : RL σ vs vr) (off : Nat) :
    RL σ (Pw.splice cs off vs) (cr.take off ++ (vr ++ cr.drop (off + vr.length))) := by
  unfold Pw.splice
  rw [hv.length]
  exact (h.take off).append (hv.append (h.drop _))

theorem fillA_sound {σ : Ren} {ev : Operand → AV} {re : Operand → Value} {placeR placeA : Nat → Option (Nat × Nat)} (hp : ∀ i p, placeA i = some p → placeR i = some p) :
    ∀ (l : List (Nat × Operand)) (cs : List AV) (cells : Array Value) (res : List AV), (∀ x ∈ l, R σ (ev x.2) (re x.2)) → RL σ cs cells.toList →
      fillA placeA cs (l.map fun x => (x.1, ev x.2)) = some res →
      ∃ ra, Instr.fill placeR cells (l.map fun x => (x.1, re x.2)) = some ra ∧ RL σ res ra.toList
  | [], cs, cells, res, _, hc, h => by
    simp only [List.map_nil, fillA, Option.some.injEq] at h
    subst h
    exact ⟨cells, rfl, hc⟩
  | (i, x) :: l, cs, cells, res, hl, hc, h => by
    simp only [List.map_cons, fillA] at h
    split at h
    · cases h
    · rename_i off size hpl
      obtain ⟨hb, hf⟩ := bif_some h
      simp only [Bool.and_eq_true] at hb
      obtain ⟨h1, h2, h3⟩ := hb
      have h1 := Nat.eq_of_beq_eq_true h1
      have h2 := Nat.le_of_ble_eq_true h2
      have hx := hl (i, x) (by simp)
      have hcl := hx.cells h3
      have hlen := hcl.length
      have hcs := hc.length
      simp only [Array.length_toList] at hlen hcs
      have hset := foldl_set off (re x).cells.toList 0 cells (by simp; omega)
      obtain ⟨ra, hra, hR⟩ := fillA_sound hp l (splice cs off (ev x).cells)
        ((re x).cells.zipIdx.foldl (fun cs (c, j) => cs.setIfInBounds (off + j) c) cells) res (fun y hy => hl y (by simp [hy]))
        (by
          rw [← Array.foldl_toList, Array.toList_zipIdx, hset]
          simpa using hc.splice hcl off) hf
      refine ⟨ra, ?_, hR⟩
      simp only [List.map_cons, Instr.fill, hp _ _ hpl]
      rw [if_neg (by simp; omega)]
      exact hra


/-! ### conversions between kinds of numbers, and one operand -/

def convK (kd : IntKind) (x : AV) (K : AV → Option ρ) : Option ρ :=
  match kd, x with
  | .i64, .n i => K (.n i)
  | .i64, .u k m => bif decide (k.bits < 64) then K (.n ((m : Nat) : Int)) else K (.n (w64 ((m : Nat) : Int)))
  | .u8, .u k m => bif decide (k.bits ≤ 8) then K (.u .u8 m) else K (.u .u8 (m % 2 ^ 8))
  | .u16, .u k m => bif decide (k.bits ≤ 16) then K (.u .u16 m) else K (.u .u16 (m % 2 ^ 16))
  | .u32, .u k m => bif decide (k.bits ≤ 32) then K (.u .u32 m) else K (.u .u32 (m % 2 ^ 32))
  | .u64, .u k m => bif decide (k.bits ≤ 64) then K (.u .u64 m) else K (.u .u64 (m % 2 ^ 64))
  | .u8, .n i => K (.u .u8 (i % 256).toNat)
  | .u16, .n i => K (.u .u16 (i % 65536).toNat)
  | .u32, .n i => K (.u .u32 (i % 4294967296).toNat)
  | .u64, .n i => K (.u .u64 (i % 18446744073709551616).toNat)
  | _, _ => none

theorem bif_both {c : Bool} {x y : Option ρ} {r : ρ} (h : (bif c then x else y) = some r) : (c = true ∧ x = some r) ∨ (c = false ∧ y = some r) := by
  cases c <;> simp_all

theorem conv_u {kd k : IntKind} {m : Nat} (hs : kd.signed = false) (h : m < 2 ^ k.bits) (hk : k.bits ≤ kd.bits) {σ : Ren} : R σ (.u kd m) (.int kd (kd.wrap (m : Int))) := by
  have hlt : m < 2 ^ kd.bits := Nat.lt_of_lt_of_le h (Nat.pow_le_pow_right (by omega) hk)
  rw [wrap_nat hs, Nat.mod_eq_of_lt hlt]; exact .u kd m hs hlt
theorem conv_um {kd : IntKind} {m : Nat} (hs : kd.signed = false) {σ : Ren} : R σ (.u kd (m % 2 ^ kd.bits)) (.int kd (kd.wrap (m : Int))) := by
  rw [wrap_nat hs]; exact .u kd _ hs (Nat.mod_lt _ (Nat.two_pow_pos _))
theorem conv_n {kd : IntKind} (i : Int) (hs : kd.signed = false) {σ : Ren} {q : Int} (hq : q = 2 ^ kd.bits) : R σ (.u kd (i % q).toNat) (.int kd (kd.wrap i)) := by
  subst hq
  have hpos : (0 : Int) < 2 ^ kd.bits := Int.pow_pos (by omega)
  have h0 := Int.emod_nonneg i (Int.ne_of_gt hpos)
  have h1 := Int.emod_lt_of_pos i hpos
  rw [wrap_u hs]
  have := R.u (σ := σ) kd (i % 2 ^ kd.bits).toNat hs (by
    have h2 : (((i % 2 ^ kd.bits).toNat : Nat) : Int) < ((2 ^ kd.bits : Nat) : Int) := by
      rw [Int.toNat_of_nonneg h0]; simpa using h1
    exact_mod_cast h2)
  rwa [Int.toNat_of_nonneg h0] at this

theorem convU {kd k : IntKind} {m q : Nat} {K : AV → Option ρ} {r : ρ} (hs : kd.signed = false) (hq : kd.bits = q) (h : (bif decide (k.bits ≤ q) then K (.u kd m) else K (.u kd (m % 2 ^ q))) = some r) :
    ∃ v, K v = some r ∧ ∀ (σ : Ren) (vx : Value), R σ (.u k m) vx → ∃ k n, vx = .int k n ∧ R σ v (.int kd (kd.wrap n)) := by
  subst hq
  rcases bif_both h with ⟨hc, h⟩ | ⟨hc, h⟩
  · refine ⟨_, h, fun σ vx hx => ?_⟩
    cases hx with | u _ _ hk hlt =>
    exact ⟨_, _, rfl, conv_u hs hlt (of_decide_eq_true hc)⟩
  · refine ⟨_, h, fun σ vx hx => ?_⟩
    cases hx with | u _ _ hk hlt =>
    exact ⟨_, _, rfl, conv_um hs⟩

theorem convK_sound {kd : IntKind} {x : AV} {K : AV → Option ρ} {r : ρ} (h : convK kd x K = some r) :
    ∃ v, K v = some r ∧ ∀ (σ : Ren) (vx : Value), R σ x vx → ∃ k n, vx = .int k n ∧ R σ v (.int kd (kd.wrap n)) := by
  unfold convK at h
  split at h
  · exact ⟨_, h, fun σ vx hx => by cases hx with | n _ h1 h2 => exact ⟨_, _, rfl, by rw [wrap_w64, w64_id h1 h2]; exact .n _ h1 h2⟩⟩
  · rename_i k m
    rcases bif_both h with ⟨hc, h⟩ | ⟨hc, h⟩
    · refine ⟨_, h, fun σ vx hx => ?_⟩
      cases hx with | u _ _ hk hlt =>
      have hb := of_decide_eq_true hc
      have h2 : m < 2 ^ 63 := Nat.lt_of_lt_of_le hlt (Nat.pow_le_pow_right (by omega) (by omega))
      refine ⟨_, _, rfl, ?_⟩
      rw [wrap_w64, w64_id (by omega) (by omega)]
      exact .n _ (by omega) (by omega)
    · refine ⟨_, h, fun σ vx hx => ?_⟩
      cases hx with | u _ _ hk hlt =>
      exact ⟨_, _, rfl, by rw [wrap_w64]; exact .n _ (w64_lo _) (w64_hi _)⟩
  all_goals first
    | (cases h; done)
    | (exact convU (kd := .u8) rfl rfl h)
    | (exact convU (kd := .u16) rfl rfl h)
    | (exact convU (kd := .u32) rfl rfl h)
    | (exact convU (kd := .u64) rfl rfl h)
    | (refine ⟨_, h, fun σ vx hx => ?_⟩
       cases hx with | n _ h1 h2 =>
       exact ⟨_, _, rfl, conv_n _ rfl rfl⟩)

def unK (op : UnOp) (x : AV) (K : AV → Option ρ) : Option ρ :=
  match op, x with
  | .not, .bool b => K (.bool (!b))
  | .neg, .n i => K (.n (w64 (0 - i)))
  | .xor, .u k m => K (.u k (2 ^ k.bits - 1 - m))
  | _, _ => none

theorem unK_sound {op : UnOp} {x : AV} {K : AV → Option ρ} {r : ρ} (h : unK op x K = some r) :
    ∃ v, K v = some r ∧ ∀ (σ : Ren) (vx : Value) (w : World), R σ x vx → ∃ rv, (Op.unary op vx).run P w = .ok rv w ∧ R σ v rv := by
  unfold unK at h
  split at h
  · exact ⟨_, h, fun σ vx w hx => by cases hx; exact ⟨.bool _, by simp [Op.unary], .bool _⟩⟩
  · rename_i i
    refine ⟨_, h, fun σ vx w hx => ?_⟩
    cases hx with | n _ h1 h2 =>
    exact ⟨.int .i64 (w64 (0 - i)), by simp [Op.unary, Op.intArith, wrap_w64], .n _ (w64_lo _) (w64_hi _)⟩
  · rename_i k m
    refine ⟨_, h, fun σ vx w hx => ?_⟩
    cases hx with | u _ _ hk hlt =>
    have hpos : 0 < 2 ^ k.bits := Nat.two_pow_pos _
    have hl : 2 ^ k.bits - 1 - m < 2 ^ k.bits := by omega
    refine ⟨.int k ((2 ^ k.bits - 1 - m : Nat) : Int), ?_, .u k _ hk hl⟩
    have hmax : k.max = ((2 ^ k.bits - 1 : Nat) : Int) := by
      simp only [IntKind.max, hk, Bool.false_eq_true, if_false]
      rw [Int.natCast_sub hpos]; simp
    simp only [Op.unary, Op.intBits, hk, Bool.false_eq_true, if_false, hmax, Sem.run_pure, BitVec.toNat_xor]
    rw [toNat_ofInt (by omega), toNat_ofInt hlt]
    have : (2 ^ k.bits - 1) ^^^ m = 2 ^ k.bits - 1 - m := by
      rw [Nat.xor_comm]
      have h3 := BitVec.toNat_not (x := BitVec.ofNat k.bits m)
      rw [BitVec.not_def, BitVec.toNat_xor] at h3
      simp only [BitVec.toNat_allOnes, BitVec.toNat_ofNat, Nat.mod_eq_of_lt hlt] at h3
      rw [Nat.xor_comm]; exact h3
    rw [this, bits_lt _ hl hk]
  · cases h

end Pw
