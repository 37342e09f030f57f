/- A part of the proof: PwVf. -/
import Derived.Test.YtccmlapcijjmpaaPwVe
namespace Pw
open Go

/-! ### numbers modulo P as a ring -/

instance : NeZero PP := ⟨by decide⟩
abbrev Fp := Fin PP
def toF (n : Nat) : Fp := Fin.ofNat PP n
def fv (x : L5) : Fp := toF (val5 x)
theorem toF_val (n : Nat) : (toF n).val = n % PP := rfl
theorem toF_eq {a b : Nat} : toF a = toF b ↔ a % PP = b % PP := by
  rw [Fin.ext_iff]; exact Iff.rfl
theorem toF_add (a b : Nat) : toF (a + b) = toF a + toF b := by
  simp [toF, Fin.ext_iff, Fin.val_add, Fin.ofNat]
theorem toF_mul (a b : Nat) : toF (a * b) = toF a * toF b := by
  simp [toF, Fin.ext_iff, Fin.val_mul, Fin.ofNat, Nat.mul_mod]
theorem toF_zero : toF 0 = 0 := rfl
theorem fv_of {x : L5} {n : Nat} (h : val5 x % PP = n % PP) : fv x = toF n := toF_eq.2 h
theorem fv_add {x y : L5} (hx : ok5 x) (hy : ok5 y) : fv (addS x y) = fv x + fv y := by
  rw [fv_of (add_val hx hy).1, toF_add]; rfl
theorem fv_mul {x y : L5} (hx : ok5 x) (hy : ok5 y) : fv (mulS x y) = fv x * fv y := by
  rw [fv_of (mul_val hx hy).1, toF_mul]; rfl
theorem fv_sq {x : L5} (hx : ok5 x) : fv (sqS x) = fv x * fv x := by
  rw [fv_of (sq_val hx).1, toF_mul]; rfl
theorem fv_times {x : L5} (hx : ok5 x) {n : Nat} (hn : n ≤ 4294967295) : fv (timesS x n) = fv x * toF n := by
  rw [fv_of (times_val hx hn).1, toF_mul]; rfl
theorem fv_small {n : Nat} (hn : n < 18446744073709551616) : fv (smallS n) = toF n := by
  unfold fv; rw [(small_val hn).1]
theorem fv_sub {x y : L5} (hx : ok5 x) (hy : ok5 y) : fv (subS x y) = fv x - fv y := by
  have h : toF (val5 (subS x y) + val5 y) = toF (val5 x) := toF_eq.2 (sub_val hx hy).1
  rw [toF_add] at h
  have h2 : fv (subS x y) + fv y = fv x := h
  grind
theorem fv_neg {x : L5} (hx : ok5 x) : fv (negS x) = - fv x := by
  have h : toF (val5 (negS x) + val5 x) = toF 0 := toF_eq.2 (neg_val hx).1
  rw [toF_add, toF_zero] at h
  have h2 : fv (negS x) + fv x = 0 := h
  grind
theorem fv_zero : fv zero5 = 0 := rfl
theorem equalS_fv {x y : L5} (hx : ok5 x) (hy : ok5 y) : equalS x y = decide (fv x = fv y) := by
  rw [equalS_eq hx.wf hy.wf]
  by_cases h : fv x = fv y
  · rw [decide_eq_true h, decide_eq_true (toF_eq.1 h)]
  · rw [decide_eq_false h, decide_eq_false fun e => h (toF_eq.2 e)]
theorem isZeroS_fv {x : L5} (hx : ok5 x) : isZeroS x = decide (fv x = 0) := by
  rw [isZeroS_eq hx.wf, ← toF_zero]
  by_cases h : fv x = toF 0
  · rw [decide_eq_true h, decide_eq_true (show val5 x % PP = 0 from toF_eq.1 h)]
  · rw [decide_eq_false h, decide_eq_false (show ¬ val5 x % PP = 0 from fun e => h (toF_eq.2 e))]
theorem bytesS_fv {x y : L5} (hx : ok5 x) (hy : ok5 y) (h : fv x = fv y) : bytesS x = bytesS y :=
  leVal_inj (bytesS_wf x) (bytesS_wf y) (by rw [bytesS_val hx.wf, bytesS_val hy.wf]; exact toF_eq.1 h)

/-- the law's own question: alike by their forms and by Equal -/
def sameS (x y : L5) : Bool := bif keyEq (bytesS x) (bytesS y) then equalS x y else false
theorem sameS_fv {x y : L5} (hx : ok5 x) (hy : ok5 y) : sameS x y = decide (fv x = fv y) := by
  unfold sameS
  have e : keyEq (bytesS x) (bytesS y) = equalS x y := rfl
  rw [e, equalS_fv hx hy]
  cases decide (fv x = fv y) <;> rfl

/-! ### the least form of 32 bytes, as the laws have it -/

def subOf (b : Nat) : Nat := (b + (256 - 237)) % 256
def lowOf (k : K32) : K32 := { k with b31 := k.b31 % 128 }
def lessOf (k : K32) : K32 := { zeroK with b0 := subOf k.b0 }
/-- all bytes but the lowest are P's -/
def highs (k : K32) : List Bool := decide (k.b31 % 128 = 127) :: ((k.toList.drop 1).take 30).map fun b => decide (b = 255)
def bigT {α : Type} (t e : α) (b0 : Nat) : List Bool → α
  | [] => e
  | [c] => bif !c then t else bif decide (b0 < 237) then t else e
  | c :: l => bif c then bigT t e b0 l else t
def belowS (k : K32) : K32 := bigT (lowOf k) (lessOf k) k.b0 (highs k)
theorem bigT_map {α β : Type} (f : α → β) (t e : α) (b0 : Nat) : ∀ l : List Bool, bigT (f t) (f e) b0 l = f (bigT t e b0 l)
  | [] => rfl
  | [c] => by cases c <;> cases h : decide (b0 < 237) <;> simp [bigT, h]
  | c :: d :: l => by
    have := bigT_map f t e b0 (d :: l)
    unfold bigT
    cases c
    · rfl
    · exact this
theorem bigT_all {α : Type} (t e : α) (b0 : Nat) : ∀ l : List Bool, l ≠ [] → bigT t e b0 l = if l.all id = true ∧ 237 ≤ b0 then e else t
  | [], h => absurd rfl h
  | [c], _ => by
    by_cases hb : b0 < 237
    · have : ¬ 237 ≤ b0 := by omega
      cases c <;> simp [bigT, hb, this]
    · have : 237 ≤ b0 := by omega
      cases c <;> simp [bigT, hb, this]
  | c :: d :: l, _ => by
    have := bigT_all t e b0 (d :: l) (by simp)
    cases c
    · simp [bigT]
    · have e1 : bigT t e b0 (true :: d :: l) = bigT t e b0 (d :: l) := by simp [bigT]
      rw [e1, this]
      simp
theorem leL_max : ∀ (l : List Nat), (∀ b ∈ l, b < 256) → leL l + 1 ≤ 256 ^ l.length ∧ (leL l + 1 = 256 ^ l.length → ∀ b ∈ l, b = 255)
  | [], _ => ⟨by simp [leL], by simp⟩
  | a :: l, h => by
    have ha := h a (by simp)
    obtain ⟨h1, h2⟩ := leL_max l fun b hb => h b (by simp [hb])
    simp only [leL, List.length_cons, Nat.pow_succ]
    refine ⟨by omega, fun e => ?_⟩
    have e1 : a = 255 := by omega
    have e2 := h2 (by omega)
    intro b hb
    cases hb with
    | head => exact e1
    | tail _ hb => exact e2 b hb

theorem leL_full : ∀ (l : List Nat), (∀ b ∈ l, b = 255) → leL l + 1 = 256 ^ l.length
  | [], _ => rfl
  | a :: l, h => by
    have e := leL_full l fun b hb => h b (by simp [hb])
    have := h a (by simp)
    simp only [leL, List.length_cons, Nat.pow_succ]
    omega
theorem lowOf_wf {k : K32} (h : k.wf) : (lowOf k).wf := by
  intro b hb
  have hk := h.all
  simp only [K32.toList, lowOf, List.mem_cons, List.not_mem_nil, or_false] at hb
  obtain ⟨h0, h1, h2, h3, h4, h5, h6, h7, h8, h9, h10, h11, h12, h13, h14, h15, h16, h17, h18, h19, h20, h21, h22, h23, h24, h25, h26, h27, h28, h29, h30, h31⟩ := hk
  rcases hb with rfl | rfl | rfl | rfl | rfl | rfl | rfl | rfl | rfl | rfl | rfl | rfl | rfl | rfl | rfl | rfl | rfl | rfl | rfl | rfl | rfl | rfl | rfl | rfl | rfl | rfl | rfl | rfl | rfl | rfl | rfl | rfl <;> first | assumption | omega
theorem lessOf_wf (k : K32) : (lessOf k).wf := by
  intro b hb
  simp [K32.toList, lessOf, zeroK, subOf] at hb
  omega
set_option maxRecDepth 100000 in
theorem low_val (k : K32) (h : k.wf) : leVal (lowOf k) = leVal k % B255 := by
  rw [leVal_sum, leVal_sum]
  unfold leSum lowOf B255
  dsimp only
  obtain ⟨h0, h1, h2, h3, h4, h5, h6, h7, h8, h9, h10, h11, h12, h13, h14, h15, h16, h17, h18, h19, h20, h21, h22, h23, h24, h25, h26, h27, h28, h29, h30, h31⟩ := h.all
  omega
def midOf (k : K32) : List Nat := (k.toList.drop 1).take 30
set_option maxRecDepth 100000 in
theorem low_split (k : K32) : leVal (lowOf k) = k.b0 + 256 * (leL (midOf k) + 1766847064778384329583297500742918515827483896875618958121606201292619776 * (k.b31 % 128)) := by
  show leL (lowOf k).toList = k.b0 + 256 * (leL [k.b1, k.b2, k.b3, k.b4, k.b5, k.b6, k.b7, k.b8, k.b9, k.b10, k.b11, k.b12, k.b13, k.b14, k.b15, k.b16, k.b17, k.b18, k.b19, k.b20, k.b21, k.b22, k.b23, k.b24, k.b25, k.b26, k.b27, k.b28, k.b29, k.b30] + 1766847064778384329583297500742918515827483896875618958121606201292619776 * (k.b31 % 128))
  simp only [leL, K32.toList, lowOf]
  generalize k.b31 % 128 = z
  omega
theorem less_val (k : K32) (h : 237 ≤ k.b0) (h' : k.b0 < 256) : leVal (lessOf k) = k.b0 - 237 := by
  rw [leVal_sum]; unfold leSum lessOf zeroK subOf; dsimp only; omega
theorem highs_all (k : K32) : (highs k).all id = true ↔ k.b31 % 128 = 127 ∧ ∀ b ∈ midOf k, b = 255 := by
  unfold highs midOf
  simp only [List.all_cons, id_eq, Bool.and_eq_true, decide_eq_true_eq, List.all_map, List.all_eq_true, Function.comp_apply]
set_option maxRecDepth 100000 in
theorem below_val32 {k : K32} (h : k.wf) : (belowS k).wf ∧ leVal (belowS k) = leVal k % B255 % PP := by
  have hne : highs k ≠ [] := by unfold highs; simp
  unfold belowS
  rw [bigT_all _ _ _ _ hne, ← low_val k h, low_split]
  have h0 : k.b0 < 256 := h k.b0 (by simp [K32.toList])
  have m3 : k.b31 % 128 < 128 := Nat.mod_lt _ (by decide)
  have hmid : ∀ b ∈ midOf k, b < 256 := fun b hb => h b (List.mem_of_mem_drop (List.mem_of_mem_take hb))
  have hlen : (midOf k).length = 30 := rfl
  split
  · rename_i hc
    obtain ⟨hc, hb0⟩ := hc
    obtain ⟨g1, g2⟩ := (highs_all k).1 hc
    have g3 := leL_full _ g2
    rw [hlen] at g3
    refine ⟨lessOf_wf k, ?_⟩
    rw [less_val k hb0 h0, g1]
    have g4 : leL (midOf k) + 1 = 1766847064778384329583297500742918515827483896875618958121606201292619776 := g3
    clear g3 hc g2 g1 hmid hne
    generalize leL (midOf k) = q at *
    unfold PP
    omega
  · rename_i hc
    refine ⟨lowOf_wf h, ?_⟩
    rw [low_split]
    refine (Nat.mod_eq_of_lt ?_).symm
    obtain ⟨m1, m2⟩ := leL_max _ hmid
    rw [hlen] at m1 m2
    have m4 : leL (midOf k) + 1 ≤ 1766847064778384329583297500742918515827483896875618958121606201292619776 := m1
    have hd : leL (midOf k) + 1 < 1766847064778384329583297500742918515827483896875618958121606201292619776 ∨ k.b31 % 128 < 127 ∨ k.b0 < 237 := by
      rcases Nat.lt_or_ge (leL (midOf k) + 1) 1766847064778384329583297500742918515827483896875618958121606201292619776 with hx | hx
      · exact .inl hx
      · have hm := m2 (Nat.le_antisymm m1 hx)
        refine .inr ?_
        rcases Nat.lt_or_ge (k.b31 % 128) 127 with hy | hy
        · exact .inl hy
        · exact .inr (Nat.lt_of_not_le fun hz => hc ⟨(highs_all k).2 ⟨by omega, hm⟩, hz⟩)
    clear hc hne m1 m2 hmid hlen
    generalize k.b31 % 128 = z at *
    generalize leL (midOf k) = q at *
    unfold PP
    omega
theorem from_fv {k : K32} (h : k.wf) : fv (fromS k) = toF (leVal k % B255) := by
  obtain ⟨⟨q, hq⟩, ho⟩ := from_val h
  exact fv_of (cg_of hq)
/-- From gives a number its one form -/
theorem from_bytes {k : K32} (h : k.wf) : keyEq (bytesS (fromS k)) (belowS k) = true := by
  obtain ⟨⟨q, hq⟩, ho⟩ := from_val h
  rw [key_eq_iff (bytesS_wf _) (below_val32 h).1, bytesS_val ho.wf, (below_val32 h).2]
  exact decide_eq_true (cg_of hq)

end Pw
