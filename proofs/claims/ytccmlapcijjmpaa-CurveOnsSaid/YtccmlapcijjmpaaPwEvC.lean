/- A part of the proof: PwEvC. -/
import Derived.Test.YtccmlapcijjmpaaPwEvB
namespace Pw
open Go

/-- a number of 64 bits with a sign; told so that the kernel does not count up to 2^63 where it is not a numeral -/
def w64 (x : Int) : Int := match x with
  | .ofNat n => bif Nat.ble n 9223372036854775807 then .ofNat n else (.ofNat n + 9223372036854775808) % 18446744073709551616 - 9223372036854775808
  | .negSucc n => bif Nat.ble n 9223372036854775807 then .negSucc n else (.negSucc n + 9223372036854775808) % 18446744073709551616 - 9223372036854775808

theorem w64_eq (x : Int) : w64 x = (x + 9223372036854775808) % 18446744073709551616 - 9223372036854775808 := by
  unfold w64
  cases x with
  | ofNat n =>
    dsimp only
    cases h : Nat.ble n 9223372036854775807 with
    | true =>
      have := Nat.le_of_ble_eq_true h
      rw [cond_true, Int.ofNat_eq_natCast]; omega
    | false => rw [cond_false]
  | negSucc n =>
    dsimp only
    cases h : Nat.ble n 9223372036854775807 with
    | true =>
      have := Nat.le_of_ble_eq_true h
      rw [cond_true]; omega
    | false => rw [cond_false]

theorem wrap_w64 (x : Int) : IntKind.i64.wrap x = w64 x := by
  rw [w64_eq]
  simp only [IntKind.wrap, IntKind.bits, IntKind.signed]
  simp
  split <;> omega
theorem w64_lo (x : Int) : -9223372036854775808 ≤ w64 x := by rw [w64_eq]; omega
theorem w64_hi (x : Int) : w64 x < 9223372036854775808 := by rw [w64_eq]; omega
theorem w64_id {x : Int} (h1 : -9223372036854775808 ≤ x) (h2 : x < 9223372036854775808) : w64 x = x := by rw [w64_eq]; omega

theorem wrap_u {k : IntKind} (hk : k.signed = false) (x : Int) : k.wrap x = x % (2 ^ k.bits : Int) := by
  simp [IntKind.wrap, hk]
theorem wrap_nat {k : IntKind} (hk : k.signed = false) (n : Nat) : k.wrap (n : Int) = ((n % 2 ^ k.bits : Nat) : Int) := by
  rw [wrap_u hk]; simp

variable {P : Program} {T : List (Nat × TE)} {ρ : Type}

def sz (T : List (Nat × TE)) (t : Nat) : Option Nat :=
  match (teAt T t).ty with
  | .other => none
  | _ => some (teAt T t).size

theorem sz_known (hT : TabOK P T) {t n : Nat} (h : sz T t = some n) : Known P t (teAt T t) ∧ (teAt T t).size = n := by
  unfold sz at h
  split at h
  · cases h
  · rename_i hx; exact ⟨hT.known (fun e => hx e), by simpa using h⟩

def idxK (x : AV) (len : Nat) (K : Nat → Option ρ) : Option ρ :=
  match x with
  | .n i => bif decide (0 ≤ i ∧ i < (len : Int)) then K i.toNat else none
  | .u _ m => bif decide (m < len) then K m else none
  | _ => none

theorem bif_some {c : Bool} {x : Option ρ} {r : ρ} (h : (bif c then x else none) = some r) : c = true ∧ x = some r := by
  cases c <;> simp_all

theorem idxK_sound {x : AV} {len : Nat} {K : Nat → Option ρ} {r : ρ} (h : idxK x len K = some r) :
    ∃ m, m < len ∧ K m = some r ∧ ∀ (σ : Ren) (v : Value), R σ x v → ∃ k, v = .int k (m : Int) := by
  unfold idxK at h
  split at h
  · rename_i i
    obtain ⟨hc, hk⟩ := bif_some h
    have hc' := of_decide_eq_true hc
    refine ⟨i.toNat, by omega, hk, fun σ v hv => ?_⟩
    cases hv
    exact ⟨_, by rw [Int.toNat_of_nonneg hc'.1]⟩
  · rename_i m
    obtain ⟨hc, hk⟩ := bif_some h
    refine ⟨m, of_decide_eq_true hc, hk, fun σ v hv => ?_⟩
    cases hv; exact ⟨_, rfl⟩
  · cases h

/-! ### integer operations -/

def binU (op : BinOp) (k : IntKind) (a b : Nat) (K : AV → Option ρ) : Option ρ :=
  match op with
  | .add => K (.u k ((a + b) % 2 ^ k.bits))
  | .sub => K (.u k ((a + (2 ^ k.bits - b)) % 2 ^ k.bits))
  | .mul => K (.u k (a * b % 2 ^ k.bits))
  | .quo => bif decide (b = 0) then none else K (.u k (a / b))
  | .rem => bif decide (b = 0) then none else K (.u k (a % b))
  | .and => K (.u k (a &&& b))
  | .or => K (.u k (a ||| b))
  | .xor => K (.u k (a ^^^ b))
  | .andNot => K (.u k (a &&& (2 ^ k.bits - 1 - b)))
  | .eql => K (.bool (decide (a = b)))
  | .neq => K (.bool (!decide (a = b)))
  | .lss => K (.bool (decide (a < b)))
  | .leq => K (.bool (decide (a ≤ b)))
  | .gtr => K (.bool (decide (b < a)))
  | .geq => K (.bool (decide (b ≤ a)))
  | _ => none

def binN (op : BinOp) (a b : Int) (K : AV → Option ρ) : Option ρ :=
  match op with
  | .add => K (.n (w64 (a + b)))
  | .sub => K (.n (w64 (a - b)))
  | .mul => K (.n (w64 (a * b)))
  | .quo => bif decide (b = 0) then none else K (.n (w64 (a.tdiv b)))
  | .rem => bif decide (b = 0) then none else K (.n (a.tmod b))
  | .eql => K (.bool (decide (a = b)))
  | .neq => K (.bool (!decide (a = b)))
  | .lss => K (.bool (decide (a < b)))
  | .leq => K (.bool (decide (a ≤ b)))
  | .gtr => K (.bool (decide (b < a)))
  | .geq => K (.bool (decide (b ≤ a)))
  | _ => none

theorem toNat_ofInt {w a : Nat} (ha : a < 2 ^ w) : (BitVec.ofInt w (a : Int)).toNat = a := by
  simp only [BitVec.toNat_ofInt]
  have : ((a : Int) % ((2 ^ w : Nat) : Int)) = (a : Int) := Int.emod_eq_of_lt (by omega) (by exact_mod_cast ha)
  rw [this]; rfl

theorem bits_lt {k : IntKind} (n : Nat) (h : n < 2 ^ k.bits) (hk : k.signed = false) : k.wrap (n : Int) = (n : Int) := by
  rw [wrap_nat hk, Nat.mod_eq_of_lt h]

theorem binU_sound {op : BinOp} {k : IntKind} {a b : Nat} {K : AV → Option ρ} {r : ρ}
    (h : binU op k a b K = some r) (hs : op ≠ .shl ∧ op ≠ .shr) :
    ∃ v, K v = some r ∧ ∀ (_ : k.signed = false) (_ : a < 2 ^ k.bits) (_ : b < 2 ^ k.bits) (t : TypeId) (w : World), ∃ rv, (binOp op t (.int k a) (.int k b)).run P w = .ok rv w ∧ ∀ σ, R σ v rv := by
  have hpos : 0 < 2 ^ k.bits := Nat.two_pow_pos _
  cases op <;> simp only [binU] at h <;> first
    | (cases h; done)
    | (exact absurd rfl hs.1)
    | (exact absurd rfl hs.2)
    | skip
  case add =>
    refine ⟨_, h, fun hk ha hb t w => ⟨_, by simp [binOp, Op.intArith]; rfl, fun σ => ?_⟩⟩
    rw [show ((a : Int) + (b : Int)) = ((a + b : Nat) : Int) from by omega, wrap_nat hk]
    exact .u k _ hk (Nat.mod_lt _ hpos)
  case sub =>
    refine ⟨_, h, fun hk ha hb t w => ⟨_, by simp [binOp, Op.intArith]; rfl, fun σ => ?_⟩⟩
    have : k.wrap ((a : Int) - (b : Int)) = (((a + (2 ^ k.bits - b)) % 2 ^ k.bits : Nat) : Int) := by
      rw [wrap_u hk, Int.natCast_emod, Int.natCast_add, Int.natCast_sub (Nat.le_of_lt hb)]
      have h2 : ((2 ^ k.bits : Nat) : Int) = (2 : Int) ^ k.bits := by simp
      rw [h2, show (a : Int) + ((2 : Int) ^ k.bits - (b : Int)) = ((a : Int) - b) + (2 : Int) ^ k.bits from by omega, Int.add_emod_right]
    rw [this]; exact .u k _ hk (Nat.mod_lt _ hpos)
  case mul =>
    refine ⟨_, h, fun hk ha hb t w => ⟨_, by simp [binOp, Op.intArith]; rfl, fun σ => ?_⟩⟩
    rw [show ((a : Int) * (b : Int)) = ((a * b : Nat) : Int) from by simp, wrap_nat hk]
    exact .u k _ hk (Nat.mod_lt _ hpos)
  case quo =>
    by_cases h0 : b = 0
    · simp [h0] at h
    · simp only [h0, decide_false, cond_false] at h
      refine ⟨_, h, fun hk ha hb t w => ⟨.int k ((a / b : Nat) : Int), ?_, fun σ => .u k _ hk (Nat.lt_of_le_of_lt (Nat.div_le_self _ _) ha)⟩⟩
      have h0' : (b : Int) ≠ 0 := by omega
      simp only [binOp, Op.intDiv, ne_eq, not_true_eq_false, if_false, h0', Sem.run_pure]
      rw [show ((a : Int).tdiv (b : Int)) = ((a / b : Nat) : Int) from by simp, wrap_nat hk,
        Nat.mod_eq_of_lt (Nat.lt_of_le_of_lt (Nat.div_le_self _ _) ha)]
  case rem =>
    by_cases h0 : b = 0
    · simp [h0] at h
    · simp only [h0, decide_false, cond_false] at h
      refine ⟨_, h, fun hk ha hb t w => ⟨.int k ((a % b : Nat) : Int), ?_, fun σ => .u k _ hk (Nat.lt_of_le_of_lt (Nat.mod_le _ _) ha)⟩⟩
      have h0' : (b : Int) ≠ 0 := by omega
      simp only [binOp, Op.intDiv, ne_eq, not_true_eq_false, if_false, h0', Sem.run_pure]
      rw [show ((a : Int).tmod (b : Int)) = ((a % b : Nat) : Int) from by rw [Int.tmod_eq_emod_of_nonneg (by omega)]; simp]
  case and =>
    refine ⟨_, h, fun hk ha hb t w => ?_⟩
    have hlt : a &&& b < 2 ^ k.bits := Nat.lt_of_le_of_lt Nat.and_le_left ha
    refine ⟨.int k ((a &&& b : Nat) : Int), ?_, fun σ => .u k _ hk hlt⟩
    simp only [binOp, Op.intBits, ne_eq, not_true_eq_false, if_false, Sem.run_pure, BitVec.toNat_and, toNat_ofInt ha, toNat_ofInt hb, bits_lt _ hlt hk]
  case or =>
    refine ⟨_, h, fun hk ha hb t w => ?_⟩
    have hlt : a ||| b < 2 ^ k.bits := Nat.or_lt_two_pow ha hb
    refine ⟨.int k ((a ||| b : Nat) : Int), ?_, fun σ => .u k _ hk hlt⟩
    simp only [binOp, Op.intBits, ne_eq, not_true_eq_false, if_false, Sem.run_pure, BitVec.toNat_or, toNat_ofInt ha, toNat_ofInt hb, bits_lt _ hlt hk]
  case xor =>
    refine ⟨_, h, fun hk ha hb t w => ?_⟩
    have hlt : a ^^^ b < 2 ^ k.bits := Nat.xor_lt_two_pow ha hb
    refine ⟨.int k ((a ^^^ b : Nat) : Int), ?_, fun σ => .u k _ hk hlt⟩
    simp only [binOp, Op.intBits, ne_eq, not_true_eq_false, if_false, Sem.run_pure, BitVec.toNat_xor, toNat_ofInt ha, toNat_ofInt hb, bits_lt _ hlt hk]
  case andNot =>
    refine ⟨_, h, fun hk ha hb t w => ?_⟩
    have hlt : a &&& (2 ^ k.bits - 1 - b) < 2 ^ k.bits := Nat.lt_of_le_of_lt Nat.and_le_left ha
    refine ⟨.int k ((a &&& (2 ^ k.bits - 1 - b) : Nat) : Int), ?_, fun σ => .u k _ hk hlt⟩
    simp only [binOp, Op.intBits, ne_eq, not_true_eq_false, if_false, Sem.run_pure, BitVec.toNat_and, BitVec.toNat_not, toNat_ofInt ha, toNat_ofInt hb, bits_lt _ hlt hk]
  case eql =>
    refine ⟨_, h, fun hk ha hb t w => ⟨_, by simp [binOp, Op.intCmp]; rfl, fun σ => ?_⟩⟩
    rw [show decide (a = b) = decide ((a : Int) = (b : Int)) from by congr 1; exact propext (by omega)]; exact .bool _
  case neq =>
    refine ⟨_, h, fun hk ha hb t w => ⟨.bool (!decide (a = b)), ?_, fun σ => .bool _⟩⟩
    simp only [binOp, Op.intCmp, ne_eq, not_true_eq_false, if_false, Sem.run_pure]
    congr 2
    by_cases e : a = b
    · subst e; simp
    · have : ((a : Int) == (b : Int)) = false := by rw [beq_eq_false_iff_ne]; omega
      simp [e, bne, this]
  case lss =>
    refine ⟨_, h, fun hk ha hb t w => ⟨_, by simp [binOp, Op.intCmp]; rfl, fun σ => ?_⟩⟩
    rw [show decide (a < b) = decide ((a : Int) < (b : Int)) from by simp]; exact .bool _
  case leq =>
    refine ⟨_, h, fun hk ha hb t w => ⟨_, by simp [binOp, Op.intCmp]; rfl, fun σ => ?_⟩⟩
    rw [show decide (a ≤ b) = decide ((a : Int) ≤ (b : Int)) from by simp]; exact .bool _
  case gtr =>
    refine ⟨_, h, fun hk ha hb t w => ⟨_, by simp [binOp, Op.intCmp]; rfl, fun σ => ?_⟩⟩
    rw [show decide (b < a) = decide ((b : Int) < (a : Int)) from by simp]; exact .bool _
  case geq =>
    refine ⟨_, h, fun hk ha hb t w => ⟨_, by simp [binOp, Op.intCmp]; rfl, fun σ => ?_⟩⟩
    rw [show decide (b ≤ a) = decide ((b : Int) ≤ (a : Int)) from by simp]; exact .bool _

theorem binN_sound {op : BinOp} {a b : Int} {K : AV → Option ρ} {r : ρ}
    (h : binN op a b K = some r) (hs : op ≠ .shl ∧ op ≠ .shr) :
    ∃ v, K v = some r ∧ ∀ (_ : -9223372036854775808 ≤ a) (_ : a < 9223372036854775808) (t : TypeId) (w : World), ∃ rv, (binOp op t (.int .i64 a) (.int .i64 b)).run P w = .ok rv w ∧ ∀ σ, R σ v rv := by
  cases op <;> simp only [binN] at h <;> first
    | (cases h; done)
    | (exact absurd rfl hs.1)
    | (exact absurd rfl hs.2)
    | skip
  case add => exact ⟨_, h, fun ha0 ha t w => ⟨.int .i64 (w64 (a + b)), by simp [binOp, Op.intArith, wrap_w64], fun σ => .n _ (w64_lo _) (w64_hi _)⟩⟩
  case sub => exact ⟨_, h, fun ha0 ha t w => ⟨.int .i64 (w64 (a - b)), by simp [binOp, Op.intArith, wrap_w64], fun σ => .n _ (w64_lo _) (w64_hi _)⟩⟩
  case mul => exact ⟨_, h, fun ha0 ha t w => ⟨.int .i64 (w64 (a * b)), by simp [binOp, Op.intArith, wrap_w64], fun σ => .n _ (w64_lo _) (w64_hi _)⟩⟩
  case quo =>
    by_cases h0 : b = 0
    · simp [h0] at h
    · simp only [h0, decide_false, cond_false] at h
      exact ⟨_, h, fun ha0 ha t w => ⟨.int .i64 (w64 (a.tdiv b)), by simp [binOp, Op.intDiv, wrap_w64, h0], fun σ => .n _ (w64_lo _) (w64_hi _)⟩⟩
  case rem =>
    by_cases h0 : b = 0
    · simp [h0] at h
    · simp only [h0, decide_false, cond_false] at h
      refine ⟨_, h, fun ha0 ha t w => ⟨.int .i64 (a.tmod b), by simp [binOp, Op.intDiv, h0], fun σ => .n _ (by have habs := Int.natAbs_tmod a b; have hle := Nat.mod_le a.natAbs b.natAbs; omega) ?_⟩⟩
      have habs := Int.natAbs_tmod a b
      have hle := Nat.mod_le a.natAbs b.natAbs
      have hneg := Int.neg_tmod a b
      rcases Int.le_total 0 a with h | h
      · omega
      · have h2 : 0 ≤ (-a).tmod b := Int.tmod_nonneg b (by omega)
        omega
  case eql =>
    refine ⟨_, h, fun ha0 ha t w => ⟨.bool (decide (a = b)), ?_, fun σ => .bool _⟩⟩
    simp only [binOp, Op.intCmp, ne_eq, not_true_eq_false, if_false, Sem.run_pure]
    rfl
  case neq =>
    refine ⟨_, h, fun ha0 ha t w => ⟨.bool (!decide (a = b)), ?_, fun σ => .bool _⟩⟩
    simp only [binOp, Op.intCmp, ne_eq, not_true_eq_false, if_false, Sem.run_pure]
    rfl
  case lss => exact ⟨_, h, fun ha0 ha t w => ⟨.bool (decide (a < b)), by simp [binOp, Op.intCmp], fun σ => .bool _⟩⟩
  case leq => exact ⟨_, h, fun ha0 ha t w => ⟨.bool (decide (a ≤ b)), by simp [binOp, Op.intCmp], fun σ => .bool _⟩⟩
  case gtr => exact ⟨_, h, fun ha0 ha t w => ⟨.bool (decide (b < a)), by simp [binOp, Op.intCmp], fun σ => .bool _⟩⟩
  case geq => exact ⟨_, h, fun ha0 ha t w => ⟨.bool (decide (b ≤ a)), by simp [binOp, Op.intCmp], fun σ => .bool _⟩⟩

/-- shifts of unsigned numbers -/
def shK (op : BinOp) (k : IntKind) (a n : Nat) (K : AV → Option ρ) : Option ρ :=
  match op with
  | .shl => K (.u k (a * 2 ^ (min n k.bits) % 2 ^ k.bits))
  | .shr => K (.u k (a / 2 ^ (min n k.bits)))
  | _ => none

theorem shK_sound {op : BinOp} {k : IntKind} {a n : Nat} {K : AV → Option ρ} {r : ρ}
    (h : shK op k a n K = some r) :
    ∃ v, K v = some r ∧ ∀ (_ : k.signed = false) (_ : a < 2 ^ k.bits) (t : TypeId) (yk : IntKind) (w : World), ∃ rv, (binOp op t (.int k a) (.int yk (n : Int))).run P w = .ok rv w ∧ ∀ σ, R σ v rv := by
  unfold shK at h
  have hn : ¬ ((n : Int) < 0) := by omega
  split at h
  · refine ⟨_, h, fun hk ha t yk w => ⟨.int k ((a * 2 ^ (min n k.bits) % 2 ^ k.bits : Nat) : Int), ?_, fun σ => .u k _ hk (Nat.mod_lt _ (Nat.two_pow_pos _))⟩⟩
    simp only [binOp, Op.shift, hn, if_false, Int.toNat_natCast, Sem.run_pure]
    rw [show ((a : Int) * 2 ^ (min n k.bits)) = ((a * 2 ^ (min n k.bits) : Nat) : Int) from by simp, wrap_nat hk]
  · refine ⟨_, h, fun hk ha t yk w => ⟨.int k ((a / 2 ^ (min n k.bits) : Nat) : Int), ?_, fun σ => .u k _ hk (Nat.lt_of_le_of_lt (Nat.div_le_self _ _) ha)⟩⟩
    simp only [binOp, Op.shift, hn, if_false, Int.toNat_natCast, Sem.run_pure]
    have h2 : (0 : Int) ≤ 2 ^ min n k.bits := Int.pow_nonneg (by omega)
    rw [Int.fdiv_eq_ediv_of_nonneg _ h2]
    rw [show ((a / 2 ^ min n k.bits : Nat) : Int) = (a : Int) / 2 ^ min n k.bits from by simp]
  · exact absurd h (by simp)

end Pw
