/- The order of every point of the curve and of its twist, by counting both. -/
import Derived.Test.YtfajgpjpabeafaaPwMf
import Derived.Test.YtfajgpjpabeafaaPwCnt
namespace Pw
variable {C : LC}

theorem dbl_zero_u {Q : EP C.E} (h : Q.add Q = EP.zero C.E) : uOf C Q = 0 := by
  have h1 := EP.neg_eq h
  have hx : Q.x = -Q.x := congrArg EP.x h1
  have hx0 : Q.x = 0 := by
    have : 2 * Q.x = 0 := by generalize Q.x = x at *; clear h h1; grind
    rcases fp_mul_zero this with h2 | h2
    · exact absurd h2 fp_two_ne
    · exact h2
  have on := Q.on
  rw [hx0] at on
  have hy : Q.y * Q.y = 1 := by
    generalize Q.y = y at *
    generalize C.E.a = a at *
    generalize C.E.d = d at *
    simp only [Fin.mul_zero, Fin.zero_mul, Fin.zero_add, Fin.add_zero] at on
    exact on
  have hy2 : (1 - Q.y) * (1 + Q.y) = 0 := by generalize Q.y = y at *; clear on hx hx0 h h1; grind
  rcases fp_mul_zero hy2 with h2 | h2
  · exact uOf_zero h2
  · unfold uOf
    rw [h2, Fin.mul_zero, Fin.zero_mul]

/-! ### a number for each point of either -/

def ucode (C : LC) (i : Nat) (Q : EP C.E) : Nat := if Q.y = 1 then 2 * PP + i else if uOf C Q = 0 then i else 2 * (uOf C Q).val + Q.x.val % 2
theorem uval_pos {x : Fp} (h : x ≠ 0) : 0 < x.val := by
  rcases Nat.eq_zero_or_pos x.val with h0 | h0
  · exact absurd (Fin.ext h0) h
  · exact h0
theorem ucode_lt {i : Nat} (hi : i < 2) (Q : EP C.E) : ucode C i Q < 2 * PP + 2 := by
  have := (uOf C Q).isLt
  unfold ucode
  split
  · omega
  · split <;> omega
theorem ucode_cases (i : Nat) (Q : EP C.E) : (Q.y = 1 ∧ ucode C i Q = 2 * PP + i) ∨ (Q.y ≠ 1 ∧ uOf C Q = 0 ∧ ucode C i Q = i) ∨ (Q.y ≠ 1 ∧ uOf C Q ≠ 0 ∧ ucode C i Q = 2 * (uOf C Q).val + Q.x.val % 2) := by
  by_cases h1 : Q.y = 1
  · exact .inl ⟨h1, if_pos h1⟩
  · by_cases h2 : uOf C Q = 0
    · exact .inr (.inl ⟨h1, h2, by unfold ucode; rw [if_neg h1, if_pos h2]⟩)
    · exact .inr (.inr ⟨h1, h2, by unfold ucode; rw [if_neg h1, if_neg h2]⟩)
theorem val_eq {x y : Fp} (h : x.val = y.val) : x = y := Fin.ext h
theorem y_of_u {P Q : EP C.E} (h1 : 1 - P.y ≠ 0) (h2 : 1 - Q.y ≠ 0) (h : uOf C P = uOf C Q) : P.y = Q.y := by
  have e1 := uOf_isU h1
  have e2 := uOf_isU h2
  rw [← h] at e2
  unfold IsU at e1 e2
  have hs := C.hs
  have hne : uOf C P + C.s ≠ 0 := by
    intro h0
    have e : uOf C P = - C.s := by generalize uOf C P = u at *; clear e1 e2 h h1 h2 hs; grind
    rw [e] at e1
    have : C.s * 2 = 0 := by
      generalize C.s = s at *
      generalize P.y = y at *
      clear e2 h h0 h1 h2 e hs
      grind
    exact fp_mul_ne C.s_ne fp_two_ne this
  refine fp_cancel hne ?_
  generalize uOf C P = u at *
  generalize C.s = s at *
  generalize P.y = y at *
  generalize Q.y = z at *
  clear h h1 h2 hne hs
  grind
theorem one_sub_ne {y : Fp} (h : y ≠ 1) : 1 - y ≠ 0 := fun e => h (by clear h; grind)
theorem zero_of_y {Q : EP C.E} (h : Q.y = 1) : Q = EP.zero C.E := by
  refine EP.ext' ?_ h
  have := two_tors (Q := Q) (by rw [h]; exact Fin.one_mul _)
  have h1 := EP.neg_eq this
  have hx : Q.x = -Q.x := congrArg EP.x h1
  have : 2 * Q.x = 0 := by generalize Q.x = x at *; clear this h1 h; grind
  rcases fp_mul_zero this with h2 | h2
  · exact absurd h2 fp_two_ne
  · exact h2
theorem ucode_inj {i : Nat} (hi : i < 2) {P Q : EP C.E} (h : ucode C i P = ucode C i Q) : P = Q := by
  have hu := (uOf C P).isLt
  have hv := (uOf C Q).isLt
  have same : Q.y ≠ 1 → P.y ≠ 1 → uOf C P = uOf C Q → (uOf C P = 0 ∨ P.x.val % 2 = Q.x.val % 2) → P = Q := by
    intro q1 q2 hu hx
    have hy := y_of_u (one_sub_ne q2) (one_sub_ne q1) hu
    refine EP.ext' ?_ hy
    rcases x_of_y hy with h1 | h1
    · exact h1
    · rcases hx with h0 | h0
      · have hy1 : P.y * P.y = 1 := by
          have e1 := uOf_isU (C := C) (one_sub_ne q2)
          unfold IsU at e1
          rw [h0, Fin.zero_mul] at e1
          rcases fp_mul_zero e1.symm with h3 | h3
          · exact absurd h3 C.s_ne
          · have : P.y = -1 := by generalize P.y = y at *; clear e1 h0 h1 hy hu; grind
            rw [this]; decide +kernel
        have z1 : ∀ {R : EP C.E}, R.y * R.y = 1 → R.x = 0 := by
          intro R hR
          have h1 := EP.neg_eq (two_tors hR)
          have hx : R.x = -R.x := congrArg EP.x h1
          have : 2 * R.x = 0 := by generalize R.x = x at *; clear h1 hR hy1; grind
          rcases fp_mul_zero this with h2 | h2
          · exact absurd h2 fp_two_ne
          · exact h2
        rw [z1 hy1, z1 (R := Q) (by rw [← hy]; exact hy1)]
      · exact neg_par h1 h0
  rcases ucode_cases i P with ⟨p1, p2⟩ | ⟨p1, p2, p3⟩ | ⟨p1, p2, p3⟩
  · rcases ucode_cases i Q with ⟨q1, q2⟩ | ⟨q1, q2, q3⟩ | ⟨q1, q2, q3⟩
    · rw [zero_of_y p1, zero_of_y q1]
    · omega
    · omega
  · rcases ucode_cases i Q with ⟨q1, q2⟩ | ⟨q1, q2, q3⟩ | ⟨q1, q2, q3⟩
    · omega
    · exact same q1 p1 (p2.trans q2.symm) (.inl p2)
    · have := uval_pos q2; omega
  · rcases ucode_cases i Q with ⟨q1, q2⟩ | ⟨q1, q2, q3⟩ | ⟨q1, q2, q3⟩
    · omega
    · have := uval_pos p2; omega
    · exact same q1 p1 (val_eq (by omega)) (.inr (by omega))
theorem ucode_ne (P : EP C1.E) (Q : EP C2.E) : ucode C1 0 P ≠ ucode C2 1 Q := by
  intro h
  have hu := (uOf C1 P).isLt
  have hv := (uOf C2 Q).isLt
  rcases ucode_cases 0 P with ⟨p1, p2⟩ | ⟨p1, p2, p3⟩ | ⟨p1, p2, p3⟩
  · rcases ucode_cases 1 Q with ⟨q1, q2⟩ | ⟨q1, q2, q3⟩ | ⟨q1, q2, q3⟩ <;> omega
  · rcases ucode_cases 1 Q with ⟨q1, q2⟩ | ⟨q1, q2, q3⟩ | ⟨q1, q2, q3⟩
    · omega
    · omega
    · have := uval_pos q2; omega
  · rcases ucode_cases 1 Q with ⟨q1, q2⟩ | ⟨q1, q2, q3⟩ | ⟨q1, q2, q3⟩
    · omega
    · have := uval_pos p2; omega
    · have e : uOf C1 P = uOf C2 Q := val_eq (by omega)
      exact side2 q2 (by rw [← e]; exact side1 p2)

/-! ### what makes them -/

theorem lt16 : (16 : Nat) < 2 ^ 255 := by decide +kernel
theorem ex_B1 : ∃ B : EP C1.E, B.mul LL = EP.zero C1.E ∧ B ≠ EP.zero C1.E := by
  obtain ⟨P, hP⟩ := point1 nine_ne nine_on
  refine ⟨P.mul 16, ?_, fun h => scale_nine_16 ?_⟩
  · have hL : 2 * LL < 2 ^ 255 := by decide +kernel
    have e2 : uOf C1 (P.mul (2 * LL)) = 0 := by rw [← numB_all hL, ← scale_u _ hP nine_ne, scale_nine_L]
    have e4 := uOf_zero_y e2
    rw [← EP.mul_add] at e4
    rw [← EP.mul_mul, show 16 * LL = (2 * LL + 2 * LL) * 4 by omega, EP.mul_mul, e4, EP.zero_mul]
  · rw [scale_u _ hP nine_ne, numB_all lt16, h, uOf_O]
def u8 : Fp := 325606250916557431795983626356110631294008115727848805560023387167927233504
theorem u8_ne : u8 ≠ 0 := by decide +kernel
theorem u8_on : isSq (wF u8) := ⟨32026303591712962751241307547882981359278212717910236697706316503764922500307, by decide +kernel⟩
theorem u8_val : u8.val = 325606250916557431795983626356110631294008115727848805560023387167927233504 := by decide +kernel
theorem u8_4 : scaleF (4 : Nat).testBit u8 = 0 := by
  refine fp_ext ?_
  rw [← scaleN_F, u8_val]
  decide +kernel
theorem u8_2 : scaleF (2 : Nat).testBit u8 ≠ 0 := by
  intro h
  have := congrArg Fin.val h
  rw [← scaleN_F, u8_val] at this
  exact absurd this (by decide +kernel)
theorem ex_t1 : ∃ t : EP C1.E, t.mul 8 = EP.zero C1.E ∧ t.mul 4 ≠ EP.zero C1.E := by
  obtain ⟨P, hP⟩ := point1 u8_ne u8_on
  have h4 : (4 : Nat) < 2 ^ 255 := by decide +kernel
  have h2 : (2 : Nat) < 2 ^ 255 := by decide +kernel
  refine ⟨P, ?_, fun h => u8_2 ?_⟩
  · have e2 : uOf C1 (P.mul 4) = 0 := by rw [← numB_all h4, ← scale_u _ hP u8_ne, u8_4]
    have e4 := uOf_zero_y e2
    rw [← EP.mul_add] at e4
    exact e4
  · rw [scale_u _ hP u8_ne, numB_all h2]
    refine dbl_zero_u ?_
    rw [← EP.mul_add]; exact h
theorem ex_B2 : ∃ B : EP C2.E, B.mul TT = EP.zero C2.E ∧ B ≠ EP.zero C2.E := by
  have hn2 : ¬ isSq (wF 2) := by
    rw [show wF 2 = toF 1946658 by decide +kernel]
    exact nsq_of (by decide +kernel) (by decide +kernel)
  obtain ⟨P, hP⟩ := point2 fp_two_ne hn2
  refine ⟨P.mul 16, ?_, fun h => scale_two_16 ?_⟩
  · have hT4 : 4 * TT < 2 ^ 255 := by decide +kernel
    have e2 : uOf C2 (P.mul (4 * TT)) = 0 := by rw [← numB_all hT4, ← scale_u _ hP fp_two_ne, scale_two_T]
    have e4 := uOf_zero_y e2
    rw [← EP.mul_add] at e4
    rw [← EP.mul_mul, show 16 * TT = (4 * TT + 4 * TT) * 2 by omega, EP.mul_mul, e4, EP.zero_mul]
  · rw [scale_u _ hP fp_two_ne, numB_all lt16, h, uOf_O]
def um : Fp := -1
theorem um_ne : um ≠ 0 := by decide +kernel
theorem um_off : ¬ isSq (wF um) := by
  rw [show wF um = 486660 by decide +kernel]
  exact nsq_486660
theorem um_val : um.val = 57896044618658097711785492504343953926634992332820282019728792003956564819948 := by decide +kernel
theorem um_2 : scaleF (2 : Nat).testBit um = 0 := by
  refine fp_ext ?_
  rw [← scaleN_F, um_val]
  decide +kernel
theorem ex_t2 : ∃ t : EP C2.E, t.mul 4 = EP.zero C2.E ∧ t.mul 2 ≠ EP.zero C2.E := by
  obtain ⟨P, hP⟩ := point2 um_ne um_off
  have h2 : (2 : Nat) < 2 ^ 255 := by decide +kernel
  refine ⟨P, ?_, fun h => um_ne ?_⟩
  · have e2 : uOf C2 (P.mul 2) = 0 := by rw [← numB_all h2, ← scale_u _ hP um_ne, um_2]
    have e4 := uOf_zero_y e2
    rw [← EP.mul_add] at e4
    exact e4
  · rw [isU_u hP]
    refine dbl_zero_u ?_
    have e : (P.mul 1).add (P.mul 1) = P.mul 2 := by rw [← EP.mul_add]
    rw [EP.mul_one] at e
    rw [e]; exact h
theorem ex_g1 : ∃ _ : Gens C1.E 8 LL, True := by
  obtain ⟨B, b1, b2⟩ := ex_B1
  obtain ⟨t, t1, t2⟩ := ex_t1
  exact ⟨⟨B, t, LL_prime, by decide, by decide +kernel, b1, b2, t1, t2, by decide⟩, trivial⟩
theorem ex_g2 : ∃ _ : Gens C2.E 4 TT, True := by
  obtain ⟨B, b1, b2⟩ := ex_B2
  obtain ⟨t, t1, t2⟩ := ex_t2
  exact ⟨⟨B, t, TT_prime, by decide, by decide +kernel, b1, b2, t1, t2, by decide⟩, trivial⟩
theorem all1 (P : EP C1.E) : P.mul (8 * LL) = EP.zero C1.E := by
  obtain ⟨g, -⟩ := ex_g1
  exact g.order (by decide +kernel) P
theorem all2 (P : EP C2.E) : P.mul (4 * TT) = EP.zero C2.E := by
  obtain ⟨g1, -⟩ := ex_g1
  obtain ⟨g2, -⟩ := ex_g2
  refine Classical.byContradiction fun hP => ?_
  have h := pigeon (2 * PP + 2) (8 * LL + 2 * (4 * TT)) (fun n => if n < 8 * LL then ucode C1 0 (g1.at n) else ucode C2 1 (g2.two P (n - 8 * LL)))
    (fun i _ => by
      by_cases h : i < 8 * LL
      · rw [if_pos h]; exact ucode_lt (by decide) _
      · rw [if_neg h]; exact ucode_lt (by decide) _)
    (fun i j hi hj e => by
      by_cases h1 : i < 8 * LL
      · rw [if_pos h1] at e
        by_cases h2 : j < 8 * LL
        · rw [if_pos h2] at e; exact g1.inj h1 h2 (ucode_inj (by decide) e)
        · rw [if_neg h2] at e; exact absurd e (ucode_ne _ _)
      · rw [if_neg h1] at e
        by_cases h2 : j < 8 * LL
        · rw [if_pos h2] at e; exact absurd e.symm (ucode_ne _ _)
        · rw [if_neg h2] at e
          have := g2.two_inj hP (by omega) (by omega) (ucode_inj (by decide) e)
          omega)
  exact absurd h (by decide +kernel)

/-- what a clamped number takes to no number has small order -/
theorem weak1 {P : EP C1.E} {m : Nat} (h0 : 0 < m) (hm : m < LL) (h : P.mul (16 * m) = EP.zero C1.E) : P.mul 8 = EP.zero C1.E := by
  have ha := all1 P
  rw [EP.mul_mul] at ha
  have h2 : ((P.mul 8).mul 2).mul m = EP.zero C1.E := by rw [← EP.mul_mul, ← EP.mul_mul, show 8 * (2 * m) = 16 * m by omega]; exact h
  have ha2 : ((P.mul 8).mul 2).mul LL = EP.zero C1.E := by rw [← EP.mul_mul, Nat.mul_comm, EP.mul_mul, ha, EP.zero_mul]
  exact EP.mul_prime LL_prime ha (EP.mul_prime LL_prime ha2 h2 h0 hm) (by decide) (by decide +kernel)
theorem weak2 {P : EP C2.E} {m : Nat} (h0 : 0 < m) (hm : m < TT) (h : P.mul (16 * m) = EP.zero C2.E) : P.mul 8 = EP.zero C2.E := by
  have ha := all2 P
  rw [EP.mul_mul] at ha
  have h2 : ((P.mul 4).mul 4).mul m = EP.zero C2.E := by rw [← EP.mul_mul, ← EP.mul_mul, show 4 * (4 * m) = 16 * m by omega]; exact h
  have ha2 : ((P.mul 4).mul 4).mul TT = EP.zero C2.E := by rw [← EP.mul_mul, Nat.mul_comm, EP.mul_mul, ha, EP.zero_mul]
  have h3 := EP.mul_prime TT_prime ha (EP.mul_prime TT_prime ha2 h2 h0 hm) (by decide) (by decide +kernel)
  rw [show 8 = 4 * 2 from rfl, EP.mul_mul, h3, EP.zero_mul]
end Pw
