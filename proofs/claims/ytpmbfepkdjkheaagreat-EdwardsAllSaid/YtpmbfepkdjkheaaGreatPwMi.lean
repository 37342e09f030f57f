/- A part of the proof, for all claims alike: PwEdw, PwOrd. -/
import Derived.Test.YtpmbfepkdjkheaaGreatPwMf
import Derived.Test.YtpmbfepkdjkheaaGreatPwMh
import Derived.Test.YtpmbfepkdjkheaaGreatPwMe
namespace Pw
open Go

/-! ### the curve of layer 19 -/

theorem fpval_ne {x y : Fp} (h : x.val ≠ y.val) : x ≠ y := fun e => h (by rw [e])
theorem ed_ha : (19681161376707505956807079304988542015446066515923890162744021073123829784752 : Fp) * 19681161376707505956807079304988542015446066515923890162744021073123829784752 = -1 := by decide +kernel
theorem ed_nsq : ¬ isSq (37095705934669439343138083508754565189542113879843219016388785533085940283555 : Fp) := nsq_of (n := 37095705934669439343138083508754565189542113879843219016388785533085940283555) (by decide +kernel) (by decide +kernel)
def DF : Fp := 37095705934669439343138083508754565189542113879843219016388785533085940283555
def ED : EC := ⟨-1, DF, 19681161376707505956807079304988542015446066515923890162744021073123829784752, ed_ha, by decide +kernel, ed_nsq⟩
abbrev EPt := EP ED
theorem ED_a : ED.a = -1 := rfl
theorem ED_d : ED.d = DF := rfl
theorem DF_eq : DF * 121666 = -121665 := by decide +kernel
theorem DF_nsq : ¬ isSq DF := ed_nsq
theorem ed_on (P : EPt) : P.y * P.y - P.x * P.x = 1 + DF * P.x * P.x * P.y * P.y := by
  have h := P.on
  rw [ED_a, ED_d] at h
  generalize DF = d at *
  generalize P.x = x at *
  generalize P.y = y at *
  grind
theorem ed_add_x (P Q : EPt) : (P.add Q).x * (1 + DF * P.x * Q.x * P.y * Q.y) = P.x * Q.y + P.y * Q.x := add_x P Q
theorem ed_add_y (P Q : EPt) : (P.add Q).y * (1 - DF * P.x * Q.x * P.y * Q.y) = P.y * Q.y + P.x * Q.x := by
  have h := add_y P Q
  rw [ED_a, ED_d] at h
  generalize DF = d at *
  generalize (P.add Q).y = z at *
  generalize P.x = x1 at *
  generalize P.y = y1 at *
  generalize Q.x = x2 at *
  generalize Q.y = y2 at *
  grind
theorem ed_den_p (P Q : EPt) : 1 + DF * P.x * Q.x * P.y * Q.y ≠ 0 := den_p P Q
theorem ed_den_m (P Q : EPt) : 1 - DF * P.x * Q.x * P.y * Q.y ≠ 0 := den_m P Q

/-- numbers over a common one that say a point -/
structure Rx (X Y Z : Fp) (P : EPt) : Prop where
  ne : Z ≠ 0
  x : X = P.x * Z
  y : Y = P.y * Z
theorem Rx.zero : Rx 0 1 1 (EP.zero ED) := ⟨fp_one_ne, by simp only [EP.zero]; grind, by simp only [EP.zero]; grind⟩
theorem Rx.affine (P : EPt) : Rx P.x P.y 1 P := ⟨fp_one_ne, by grind, by grind⟩
theorem Rx.neg {X Y Z : Fp} {P : EPt} (h : Rx X Y Z P) : Rx (-X) Y Z P.neg := ⟨h.ne, by
  have := h.x
  simp only [EP.neg]
  grind, h.y⟩
theorem Rx.uniq {X Y Z : Fp} {P Q : EPt} (h : Rx X Y Z P) (h' : Rx X Y Z Q) : P = Q := by
  refine EP.ext' (fp_cancel h.ne ?_) (fp_cancel h.ne ?_)
  · have h1 := h.x
    have h2 := h'.x
    grind
  · have h1 := h.y
    have h2 := h'.y
    grind
theorem Rx.x_inv {X Y Z : Fp} {P : EPt} (h : Rx X Y Z P) : X * finv Z = P.x := by
  have h1 := h.x
  have h2 := mul_finv h.ne
  grind
theorem Rx.y_inv {X Y Z : Fp} {P : EPt} (h : Rx X Y Z P) : Y * finv Z = P.y := by
  have h1 := h.y
  have h2 := mul_finv h.ne
  grind
theorem radd_id1 {d x1 y1 z1 x2 y2 z2 w : Fp} (hw : w * (1 + d * x1 * x2 * y1 * y2) = x1 * y2 + y1 * x2) :
    z1 * z2 * (z1 * z2 * (z1 * z2) - d * (x1 * z1 * (x2 * z2)) * (y1 * z1 * (y2 * z2))) * (x1 * z1 * (y2 * z2) + y1 * z1 * (x2 * z2)) =
      w * ((z1 * z2 * (z1 * z2) - d * (x1 * z1 * (x2 * z2)) * (y1 * z1 * (y2 * z2))) * (z1 * z2 * (z1 * z2) + d * (x1 * z1 * (x2 * z2)) * (y1 * z1 * (y2 * z2)))) := by
  have e : z1 * z2 * (z1 * z2) + d * (x1 * z1 * (x2 * z2)) * (y1 * z1 * (y2 * z2)) = z1 * z2 * (z1 * z2) * (1 + d * x1 * x2 * y1 * y2) := by clear hw; grind
  rw [e]
  generalize z1 * z2 * (z1 * z2) - d * (x1 * z1 * (x2 * z2)) * (y1 * z1 * (y2 * z2)) = f
  generalize 1 + d * x1 * x2 * y1 * y2 = g at *
  grind
theorem radd_id2 {d x1 y1 z1 x2 y2 z2 w : Fp} (hw : w * (1 - d * x1 * x2 * y1 * y2) = y1 * y2 + x1 * x2) :
    z1 * z2 * (z1 * z2 * (z1 * z2) + d * (x1 * z1 * (x2 * z2)) * (y1 * z1 * (y2 * z2))) * (y1 * z1 * (y2 * z2) + x1 * z1 * (x2 * z2)) =
      w * ((z1 * z2 * (z1 * z2) - d * (x1 * z1 * (x2 * z2)) * (y1 * z1 * (y2 * z2))) * (z1 * z2 * (z1 * z2) + d * (x1 * z1 * (x2 * z2)) * (y1 * z1 * (y2 * z2)))) := by
  have e : z1 * z2 * (z1 * z2) - d * (x1 * z1 * (x2 * z2)) * (y1 * z1 * (y2 * z2)) = z1 * z2 * (z1 * z2) * (1 - d * x1 * x2 * y1 * y2) := by clear hw; grind
  rw [e]
  generalize z1 * z2 * (z1 * z2) + d * (x1 * z1 * (x2 * z2)) * (y1 * z1 * (y2 * z2)) = f
  generalize 1 - d * x1 * x2 * y1 * y2 = g at *
  grind
theorem radd_nz1 {d x1 y1 z1 x2 y2 z2 : Fp} (h : 1 + d * x1 * x2 * y1 * y2 ≠ 0) (n1 : z1 ≠ 0) (n2 : z2 ≠ 0) : z1 * z2 * (z1 * z2) + d * (x1 * z1 * (x2 * z2)) * (y1 * z1 * (y2 * z2)) ≠ 0 := by
  have e : z1 * z2 * (z1 * z2) + d * (x1 * z1 * (x2 * z2)) * (y1 * z1 * (y2 * z2)) = z1 * z2 * (z1 * z2) * (1 + d * x1 * x2 * y1 * y2) := by clear h n1 n2; grind
  rw [e]
  exact fp_mul_ne (fp_mul_ne (fp_mul_ne n1 n2) (fp_mul_ne n1 n2)) h
theorem radd_nz2 {d x1 y1 z1 x2 y2 z2 : Fp} (h : 1 - d * x1 * x2 * y1 * y2 ≠ 0) (n1 : z1 ≠ 0) (n2 : z2 ≠ 0) : z1 * z2 * (z1 * z2) - d * (x1 * z1 * (x2 * z2)) * (y1 * z1 * (y2 * z2)) ≠ 0 := by
  have e : z1 * z2 * (z1 * z2) - d * (x1 * z1 * (x2 * z2)) * (y1 * z1 * (y2 * z2)) = z1 * z2 * (z1 * z2) * (1 - d * x1 * x2 * y1 * y2) := by clear h n1 n2; grind
  rw [e]
  exact fp_mul_ne (fp_mul_ne (fp_mul_ne n1 n2) (fp_mul_ne n1 n2)) h
/-- the document's sum -/
theorem Rx.add {X1 Y1 Z1 X2 Y2 Z2 : Fp} {P Q : EPt} (h1 : Rx X1 Y1 Z1 P) (h2 : Rx X2 Y2 Z2 Q) :
    Rx (Z1 * Z2 * (Z1 * Z2 * (Z1 * Z2) - DF * (X1 * X2) * (Y1 * Y2)) * (X1 * Y2 + Y1 * X2)) (Z1 * Z2 * (Z1 * Z2 * (Z1 * Z2) + DF * (X1 * X2) * (Y1 * Y2)) * (Y1 * Y2 + X1 * X2))
      ((Z1 * Z2 * (Z1 * Z2) - DF * (X1 * X2) * (Y1 * Y2)) * (Z1 * Z2 * (Z1 * Z2) + DF * (X1 * X2) * (Y1 * Y2))) (P.add Q) := by
  have hx := ed_add_x P Q
  have hy := ed_add_y P Q
  have np := ed_den_p P Q
  have nm := ed_den_m P Q
  rw [h1.x, h1.y, h2.x, h2.y]
  exact ⟨fp_mul_ne (radd_nz2 nm h1.ne h2.ne) (radd_nz1 np h1.ne h2.ne), radd_id1 hx, radd_id2 hy⟩
theorem rdbl_id0 {d x y z : Fp} (on : y * y - x * x = 1 + d * x * x * y * y) : y * z * (y * z) - x * z * (x * z) = z * z * (1 + d * x * x * y * y) ∧ z * z + z * z - (y * z * (y * z) - x * z * (x * z)) = z * z * (1 - d * x * x * y * y) := by
  rw [show y * z * (y * z) - x * z * (x * z) = z * z * (y * y - x * x) by clear on; grind, on]
  refine ⟨rfl, ?_⟩
  clear on; grind
theorem rdbl_id1 {g f x y z w p : Fp} (hw : w * p = x * y + y * x) (hf : f = z * z * p) : (x * z * (y * z) + x * z * (y * z)) * g = w * (f * g) := by
  subst hf
  grind
theorem rdbl_id2 {g f x y z w p : Fp} (hw : w * p = y * y + x * x) (hg : g = z * z * p) : (y * z * (y * z) + x * z * (x * z)) * f = w * (f * g) := by
  subst hg
  grind
/-- the document's double -/
theorem Rx.dbl {X Y Z : Fp} {P : EPt} (h : Rx X Y Z P) :
    Rx ((X * Y + X * Y) * (Z * Z + Z * Z - (Y * Y - X * X))) ((Y * Y + X * X) * (Y * Y - X * X)) ((Y * Y - X * X) * (Z * Z + Z * Z - (Y * Y - X * X))) (P.add P) := by
  have hx := ed_add_x P P
  have hy := ed_add_y P P
  have np := ed_den_p P P
  have nm := ed_den_m P P
  obtain ⟨e1, e2⟩ := rdbl_id0 (z := Z) (ed_on P)
  rw [h.x, h.y]
  have zz : Z * Z ≠ 0 := fp_mul_ne h.ne h.ne
  refine ⟨?_, rdbl_id1 hx e1, rdbl_id2 hy e2⟩
  rw [e2, e1]
  exact fp_mul_ne (fp_mul_ne zz np) (fp_mul_ne zz nm)
/-! the program's: four numbers -/
structure Px (X Y Z T : Fp) (P : EPt) : Prop where
  r : Rx X Y Z P
  t : T = P.x * P.y * Z
theorem Px.affine (P : EPt) : Px P.x P.y 1 (P.x * P.y) P := ⟨Rx.affine P, by grind⟩
theorem Px.zero : Px 0 1 1 (0 * 1) (EP.zero ED) := ⟨Rx.zero, by simp only [EP.zero]; grind⟩
theorem Px.neg {X Y Z T : Fp} {P : EPt} (h : Px X Y Z T P) : Px (-X) Y Z (-T) P.neg := ⟨h.r.neg, by
  have := h.t
  simp only [EP.neg]
  grind⟩
theorem psum_e {x1 y1 z1 x2 y2 z2 : Fp} : (y1 * z1 + x1 * z1) * (y2 * z2 + x2 * z2) - (y1 * z1 - x1 * z1) * (y2 * z2 - x2 * z2) = 2 * (z1 * z2) * (x1 * y2 + y1 * x2) := by grind
theorem psum_h {x1 y1 z1 x2 y2 z2 : Fp} : (y1 * z1 + x1 * z1) * (y2 * z2 + x2 * z2) + (y1 * z1 - x1 * z1) * (y2 * z2 - x2 * z2) = 2 * (z1 * z2) * (y1 * y2 + x1 * x2) := by grind
theorem psum_f {d x1 y1 z1 x2 y2 z2 : Fp} : z1 * z2 * 2 - x1 * y1 * z1 * (x2 * y2 * z2) * (d * 2) = 2 * (z1 * z2) * (1 - d * x1 * x2 * y1 * y2) := by grind
theorem psum_g {d x1 y1 z1 x2 y2 z2 : Fp} : z1 * z2 * 2 + x1 * y1 * z1 * (x2 * y2 * z2) * (d * 2) = 2 * (z1 * z2) * (1 + d * x1 * x2 * y1 * y2) := by grind
theorem psum_x {c n p f w : Fp} (h : w * p = n) : c * n * f = w * (f * (c * p)) := by subst h; grind
theorem psum_y {c n m g w : Fp} (h : w * m = n) : g * (c * n) = w * ((c * m) * g) := by subst h; grind
theorem psum_t {c nx ny m p w v : Fp} (h : w * p = nx) (k : v * m = ny) : c * nx * (c * ny) = w * v * ((c * m) * (c * p)) := by subst h; subst k; grind
/-- the program's sum -/
theorem Px.add {X1 Y1 Z1 T1 X2 Y2 Z2 T2 A B C E : Fp} {P Q : EPt} (h1 : Px X1 Y1 Z1 T1 P) (h2 : Px X2 Y2 Z2 T2 Q)
    (hA : A = (Y1 - X1) * (Y2 - X2)) (hB : B = (Y1 + X1) * (Y2 + X2)) (hC : C = T1 * T2 * (DF * 2)) (hE : E = Z1 * Z2 * 2) :
    Px ((B - A) * (E - C)) ((E + C) * (B + A)) ((E - C) * (E + C)) ((B - A) * (B + A)) (P.add Q) := by
  have hx := ed_add_x P Q
  have hy := ed_add_y P Q
  have np := ed_den_p P Q
  have nm := ed_den_m P Q
  have zz : Z1 * Z2 ≠ 0 := fp_mul_ne h1.r.ne h2.r.ne
  have z2 : 2 * (Z1 * Z2) ≠ 0 := fp_mul_ne fp_two_ne zz
  have e1 : B - A = 2 * (Z1 * Z2) * (P.x * Q.y + P.y * Q.x) := by rw [hA, hB, h1.r.x, h1.r.y, h2.r.x, h2.r.y]; exact psum_e
  have e2 : B + A = 2 * (Z1 * Z2) * (P.y * Q.y + P.x * Q.x) := by rw [hA, hB, h1.r.x, h1.r.y, h2.r.x, h2.r.y]; exact psum_h
  have e3 : E - C = 2 * (Z1 * Z2) * (1 - DF * P.x * Q.x * P.y * Q.y) := by rw [hC, hE, h1.t, h2.t]; exact psum_f
  have e4 : E + C = 2 * (Z1 * Z2) * (1 + DF * P.x * Q.x * P.y * Q.y) := by rw [hC, hE, h1.t, h2.t]; exact psum_g
  rw [e1, e2, e3, e4]
  exact ⟨⟨fp_mul_ne (fp_mul_ne z2 nm) (fp_mul_ne z2 np), psum_x hx, psum_y hy⟩, psum_t hx hy⟩
theorem pdbl_e {x y z : Fp} : (x * z + y * z) * (x * z + y * z) - (x * z * (x * z) + y * z * (y * z)) = z * z * (x * y + y * x) := by grind
theorem pdbl_h {x y z : Fp} : -(x * z * (x * z) + y * z * (y * z)) = -(z * z) * (y * y + x * x) := by grind
theorem pdbl_x {c n p f w : Fp} (h : w * p = n) : c * n * f = w * (f * (c * p)) := psum_x h
theorem pdbl_y {c n m g w : Fp} (h : w * m = n) : g * (-c * n) = w * (-(c * m) * g) := by subst h; grind
theorem pdbl_t {c nx ny m p w v : Fp} (h : w * p = nx) (k : v * m = ny) : c * nx * (-c * ny) = w * v * (-(c * m) * (c * p)) := by subst h; subst k; grind
theorem fp_neg_ne {x : Fp} (h : x ≠ 0) : -x ≠ 0 := fun e => h (by grind)
/-- the program's double -/
theorem Px.dbl {X Y Z T A B C W G : Fp} {P : EPt} (h : Px X Y Z T P) (hA : A = X * X) (hB : B = Y * Y) (hC : C = Z * Z * 2) (hW : W = (X + Y) * (X + Y) - (A + B)) (hG : G = B - A) :
    Px (W * (G - C)) (G * -(A + B)) ((G - C) * G) (W * -(A + B)) (P.add P) := by
  have hx := ed_add_x P P
  have hy := ed_add_y P P
  have np := ed_den_p P P
  have nm := ed_den_m P P
  obtain ⟨e1, e2⟩ := rdbl_id0 (z := Z) (ed_on P)
  have zz : Z * Z ≠ 0 := fp_mul_ne h.r.ne h.r.ne
  have eW : W = Z * Z * (P.x * P.y + P.y * P.x) := by rw [hW, hA, hB, h.r.x, h.r.y]; exact pdbl_e
  have eG : G = Z * Z * (1 + DF * P.x * P.x * P.y * P.y) := by rw [hG, hA, hB, h.r.x, h.r.y]; exact e1
  have eF : G - C = -(Z * Z * (1 - DF * P.x * P.x * P.y * P.y)) := by
    rw [← e2, hG, hA, hB, hC, h.r.x, h.r.y]
    clear hx hy np nm e1 e2 zz eW eG hA hB hC hW hG
    grind
  have eH : -(A + B) = -(Z * Z) * (P.y * P.y + P.x * P.x) := by rw [hA, hB, h.r.x, h.r.y]; exact pdbl_h
  rw [eW, eG] at *
  rw [eF, eH]
  exact ⟨⟨fp_mul_ne (fp_neg_ne (fp_mul_ne zz nm)) (fp_mul_ne zz np), pdbl_x hx, pdbl_y hy⟩, pdbl_t hx hy⟩
/-! ### a point from its y -/
theorem ed_under_ne (y : Fp) : DF * (y * y) + 1 ≠ 0 := by
  intro h
  have hy : y ≠ 0 := by
    intro e
    rw [e] at h
    exact absurd h (by decide +kernel)
  refine DF_nsq ⟨ED.al * finv y, ?_⟩
  have h1 := mul_finv hy
  have h2 := ED.ha
  rw [ED_a] at h2
  generalize ED.al = i at *
  generalize finv y = v at *
  generalize DF = d at *
  grind
/-- the square of the x of a y -/
def xxOf (y : Fp) : Fp := (y * y - 1) * finv (DF * (y * y) + 1)
theorem xxOf_on {x y : Fp} : x * x = xxOf y ↔ y * y - x * x = 1 + DF * x * x * y * y := by
  have h0 := ed_under_ne y
  have h1 := mul_finv h0
  unfold xxOf
  constructor
  · intro h
    have h2 : x * x * (DF * (y * y) + 1) = y * y - 1 := by
      rw [h]
      generalize DF * (y * y) + 1 = u at *
      grind
    generalize DF = d at *
    clear h h0 h1
    grind
  · intro h
    have h2 : x * x * (DF * (y * y) + 1) = y * y - 1 := by
      generalize DF = d at *
      clear h0 h1
      grind
    rw [← h2]
    generalize DF * (y * y) + 1 = u at *
    grind
theorem on_of {x y : Fp} (h : y * y - x * x = 1 + DF * x * x * y * y) : ED.a * x * x + y * y = 1 + ED.d * x * x * y * y := by
  rw [ED_a, ED_d]
  generalize DF = d at *
  grind
def mkP (x y : Fp) (h : x * x = xxOf y) : EPt := ⟨x, y, on_of (xxOf_on.1 h)⟩
theorem EPt.xx (P : EPt) : P.x * P.x = xxOf P.y := xxOf_on.2 (ed_on P)
/-- the even or odd one of a root and its opposite -/
def parF (x : Fp) (odd : Bool) : Fp := if (decide (x.val % 2 = 1)) = odd then x else -x
theorem parF_sq (x : Fp) (odd : Bool) : parF x odd * parF x odd = x * x := by
  unfold parF; split <;> grind
theorem parF_odd {x : Fp} {odd : Bool} (h : ¬ (x = 0 ∧ odd = true)) : decide ((parF x odd).val % 2 = 1) = odd := by
  unfold parF
  split
  · assumption
  · rename_i hne
    have hx : x ≠ 0 := by
      intro e
      subst e
      refine hne ?_
      cases odd
      · rfl
      · exact absurd ⟨rfl, rfl⟩ h
    have h1 := fneg_val hx
    have h2 := fp_lt x
    have h3 := PP_odd
    have h0 : x.val ≠ 0 := fun e => hx (fp_ext e)
    cases odd
    · rw [decide_eq_false]
      have h4 : x.val % 2 = 1 := by simpa using hne
      omega
    · rw [decide_eq_true]
      have h4 : ¬ x.val % 2 = 1 := by simpa using hne
      omega
theorem odd_uniq {x x' : Fp} (h : x * x = x' * x') (ho : x.val % 2 = x'.val % 2) : x = x' := by
  rcases sq_eq h with h1 | h1
  · exact h1
  · by_cases h0 : x' = 0
    · subst h0; grind
    · have h2 := fneg_val h0
      have h3 := fp_lt x'
      have h4 := PP_odd
      rw [h1, h2] at ho; omega
theorem EPt.ext_odd {P Q : EPt} (hy : P.y = Q.y) (ho : P.x.val % 2 = Q.x.val % 2) : P = Q := EP.ext' (odd_uniq (by rw [EPt.xx, EPt.xx, hy]) ho) hy
/-- the point with a y, and an x that is odd or not -/
structure IsPt (y : Fp) (odd : Bool) (P : EPt) : Prop where
  y : P.y = y
  odd : decide (P.x.val % 2 = 1) = odd
theorem IsPt.uniq {y : Fp} {odd : Bool} {P Q : EPt} (h : IsPt y odd P) (h' : IsPt y odd Q) : P = Q := by
  refine EPt.ext_odd (h.y.trans h'.y.symm) ?_
  have h1 := h.odd
  have h2 := h'.odd
  have h3 : decide (P.x.val % 2 = 1) = decide (Q.x.val % 2 = 1) := h1.trans h2.symm
  have h4 := decide_eq_decide.1 h3
  omega
theorem IsPt.self (P : EPt) : IsPt P.y (decide (P.x.val % 2 = 1)) P := ⟨rfl, rfl⟩
theorem par_root_sq {y : Fp} {odd : Bool} (hs : isSq (xxOf y)) : parF (rootF (xxOf y)) odd * parF (rootF (xxOf y)) odd = xxOf y := (parF_sq _ _).trans (rootF_sq hs)
theorem mkP_x (x y : Fp) (h : x * x = xxOf y) : (mkP x y h).x = x := by unfold mkP; rfl
theorem mkP_y (x y : Fp) (h : x * x = xxOf y) : (mkP x y h).y = y := by unfold mkP; rfl
theorem found_some {y : Fp} {odd : Bool} (hs : isSq (xxOf y)) (hn : ¬ (rootF (xxOf y) = 0 ∧ odd = true)) : ∃ P, IsPt y odd P ∧ P.x = parF (rootF (xxOf y)) odd ∧ P.y = y := by
  have h := par_root_sq (odd := odd) hs
  have ho := parF_odd hn
  generalize parF (rootF (xxOf y)) odd = x at *
  exact ⟨mkP x y h, ⟨mkP_y x y h, by rw [mkP_x]; exact ho⟩, mkP_x x y h, mkP_y x y h⟩
theorem found_none {y : Fp} {odd : Bool} (h : ¬ isSq (xxOf y)) (P : EPt) : ¬ IsPt y odd P := fun hp => h ⟨P.x, by rw [EPt.xx, hp.y]⟩
theorem found_zero {y : Fp} (hs : isSq (xxOf y)) (h : rootF (xxOf y) = 0) (P : EPt) : ¬ IsPt y true P := fun hp => by
  have h1 := rootF_sq hs
  have h2 := EPt.xx P
  rw [hp.y, ← h1, h] at h2
  have h3 : P.x = 0 := sq_zero (by rw [h2]; exact Fin.zero_mul _)
  have h4 := hp.odd
  rw [h3] at h4
  exact absurd h4 (by decide)

/-! ### a point's bytes -/
structure EncK (k : K32) (P : EPt) : Prop where
  wf : k.wf
  val : leVal k = P.y.val + B255 * (P.x.val % 2)
theorem EncK.uniq {k k' : K32} {P : EPt} (h : EncK k P) (h' : EncK k' P) : k = k' := leVal_inj h.wf h'.wf (h.val.trans h'.val.symm)
theorem EncK.split {k : K32} {P : EPt} (h : EncK k P) : leVal k % B255 = P.y.val ∧ leVal k / B255 = P.x.val % 2 := by
  have h1 := h.val
  have h2 := fp_lt P.y
  have h3 : PP < B255 := by decide
  have h4 : P.x.val % 2 < 2 := Nat.mod_lt _ (by decide)
  rw [h1]
  constructor
  · rw [Nat.add_mul_mod_self_left, Nat.mod_eq_of_lt (by omega)]
  · rw [Nat.add_mul_div_left _ _ (by decide), Nat.div_eq_of_lt (by omega), Nat.zero_add]
theorem EncK.inj {k : K32} {P Q : EPt} (h : EncK k P) (h' : EncK k Q) : P = Q := by
  have h1 := h.split
  have h2 := h'.split
  exact EPt.ext_odd (fp_ext (h1.1.symm.trans h2.1)) (h1.2.symm.trans h2.2)
theorem EncK.point {k : K32} {P : EPt} (h : EncK k P) : IsPt (toF (leVal k % B255)) (decide (leVal k / B255 = 1)) P := by
  have h1 := h.split
  refine ⟨?_, ?_⟩
  · refine fp_ext ?_
    rw [h1.1, toF_val]
    exact (Nat.mod_eq_of_lt (fp_lt _)).symm
  · rw [h1.2]
theorem EncK.of_point {k : K32} (hk : k.wf) {P : EPt} (h : IsPt (toF (leVal k % B255)) (decide (leVal k / B255 = 1)) P) (hl : leVal k % B255 < PP) : EncK k P := by
  refine ⟨hk, ?_⟩
  have h1 : P.y.val = leVal k % B255 := by rw [h.y, toF_val, Nat.mod_eq_of_lt hl]
  have h2 := decide_eq_decide.1 h.odd
  have h3 : leVal k / B255 < 2 := by
    have := leVal_lt hk
    rw [Nat.div_lt_iff_lt_mul (by decide)]
    unfold B256 at this
    unfold B255
    omega
  have h4 := Nat.div_add_mod (leVal k) B255
  have h5 : P.x.val % 2 = leVal k / B255 := by
    generalize leVal k / B255 = q at *
    omega
  rw [h1, h5, Nat.add_comm]; exact h4.symm
theorem EncK.y_lt {k : K32} {P : EPt} (h : EncK k P) : leVal k % B255 < PP := by rw [h.split.1]; exact fp_lt _
end Pw

/- Multiples of a point, reckoned with numbers. -/
namespace Pw

structure N3 where
  x : Nat
  y : Nat
  z : Nat
def DN : Nat := 37095705934669439343138083508754565189542113879843219016388785533085940283555
theorem DN_val : toF DN = DF := by decide +kernel
def negM (e : Nat) : Nat := PP - e % PP
def N3.e (p q : N3) : Nat := DN * (p.x * q.x) % PP * (p.y * q.y) % PP
def N3.c (p q : N3) : Nat := p.z * q.z % PP
def N3.f (p q : N3) : Nat := (N3.c p q * N3.c p q + negM (N3.e p q)) % PP
def N3.g (p q : N3) : Nat := (N3.c p q * N3.c p q + N3.e p q) % PP
def N3.add (p q : N3) : N3 :=
  ⟨N3.c p q * N3.f p q % PP * (p.x * q.y + p.y * q.x) % PP, N3.c p q * N3.g p q % PP * (p.y * q.y + p.x * q.x) % PP, N3.f p q * N3.g p q % PP⟩
/-- A and e times B -/
def mulGo : Nat → N3 → Nat → N3 → N3
  | 0, _, _, acc => acc
  | f + 1, b, e, acc => mulGo f (N3.add b b) (e / 2) (bif Nat.beq (e % 2) 1 then N3.add acc b else acc)

def RNx (p : N3) (P : EPt) : Prop := Rx (toF p.x) (toF p.y) (toF p.z) P
theorem toF_mod (a : Nat) : toF (a % PP) = toF a := toF_eq.2 (Nat.mod_mod _ _)
theorem toF_neg (e : Nat) : toF (negM e) = -toF e := by
  have h : toF (negM e) + toF e = 0 := by
    have h1 : e % PP < PP := Nat.mod_lt _ (by decide)
    rw [← toF_mod e, ← toF_add, show negM e + e % PP = PP by unfold negM; omega, ← toF_zero]
    exact toF_eq.2 (by rw [Nat.mod_self, Nat.zero_mod])
  generalize toF (negM e) = a at *
  generalize toF e = b at *
  have e2 : a = (a + b) - b := by clear h; grind
  rw [e2, h]
  clear e2 h
  grind
theorem RNx.add {p q : N3} {P Q : EPt} (h1 : RNx p P) (h2 : RNx q Q) : RNx (N3.add p q) (P.add Q) := by
  have h := Rx.add h1 h2
  have e1 : toF (N3.e p q) = DF * (toF p.x * toF q.x) * (toF p.y * toF q.y) := by
    unfold N3.e
    rw [toF_mod, toF_mul, toF_mod, toF_mul, toF_mul, toF_mul, DN_val]
  have e2 : toF (N3.c p q) = toF p.z * toF q.z := by
    unfold N3.c
    rw [toF_mod, toF_mul]
  have e3 : toF (N3.f p q) = toF p.z * toF q.z * (toF p.z * toF q.z) - DF * (toF p.x * toF q.x) * (toF p.y * toF q.y) := by
    unfold N3.f
    rw [toF_mod, toF_add, toF_mul, toF_neg, e1, e2]
    generalize DF * (toF p.x * toF q.x) * (toF p.y * toF q.y) = b
    generalize toF p.z * toF q.z * (toF p.z * toF q.z) = a
    grind
  have e4 : toF (N3.g p q) = toF p.z * toF q.z * (toF p.z * toF q.z) + DF * (toF p.x * toF q.x) * (toF p.y * toF q.y) := by
    unfold N3.g
    rw [toF_mod, toF_add, toF_mul, e1, e2]
  unfold RNx N3.add
  dsimp only
  rw [toF_mod, toF_mul, toF_mod, toF_mul, toF_add, toF_mul, toF_mul, toF_mod, toF_mul, toF_mod, toF_mul, toF_add, toF_mul, toF_mul, toF_mod, toF_mul, e2, e3, e4]
  exact h
theorem mulGo_RNx : ∀ (f : Nat) (b : N3) (e : Nat) (acc : N3) (A B : EPt), e < 2 ^ f → RNx acc A → RNx b B → RNx (mulGo f b e acc) (A.add (B.mul e))
  | 0, b, e, acc, A, B, h, ha, _ => by
    have : e = 0 := by simpa using h
    subst this
    rw [EP.mul_zero, EP.add_zero]
    exact ha
  | f + 1, b, e, acc, A, B, h, ha, hb => by
    have h2 : e / 2 < 2 ^ f := by rw [Nat.pow_succ] at h; omega
    have eB : B.mul e = ((B.add B).mul (e / 2)).add (B.mul (e % 2)) := by
      have e1 : B.add B = B.mul 2 := by
        rw [show (2 : Nat) = 1 + 1 from rfl, EP.mul_add, EP.mul_one]
      rw [e1, ← EP.mul_mul, ← EP.mul_add, Nat.div_add_mod]
    rw [mulGo, eB]
    rcases Nat.mod_two_eq_zero_or_one e with hm | hm
    · rw [hm, show Nat.beq 0 1 = false from rfl, cond_false, EP.mul_zero, EP.add_zero]
      exact mulGo_RNx f _ _ _ _ _ h2 ha (hb.add hb)
    · rw [hm, show Nat.beq 1 1 = true from rfl, cond_true, EP.mul_one, EP.add_comm ((B.add B).mul (e / 2)), ← EP.add_assoc]
      exact mulGo_RNx f _ _ _ _ _ h2 (ha.add hb) (hb.add hb)
def O3 : N3 := ⟨0, 1, 1⟩
theorem RNx.zero : RNx O3 (EP.zero ED) := by
  have h := Rx.zero
  rw [← toF_zero, ← toF_one] at h
  exact h
theorem RNx.mul {b : N3} {B : EPt} (hb : RNx b B) (f e : Nat) (he : e < 2 ^ f) : RNx (mulGo f b e O3) (B.mul e) := by
  have := mulGo_RNx f b e O3 _ B he RNx.zero hb
  rwa [EP.zero_add] at this
theorem RNx.of_zero {p : N3} {P : EPt} (h : RNx p P) (h1 : p.x % PP = 0) (h2 : p.y % PP = p.z % PP) : P = EP.zero ED := by
  have hx := h.x
  have hy := h.y
  have e1 : toF p.x = 0 := by rw [← toF_zero]; exact toF_eq.2 (by rw [h1, Nat.zero_mod])
  have e2 : toF p.y = toF p.z := toF_eq.2 h2
  rw [e1] at hx
  rw [e2] at hy
  have hz := h.ne
  refine EP.ext' ?_ ?_
  · show P.x = 0
    rcases fp_mul_zero hx.symm with h | h
    · exact h
    · exact absurd h hz
  · show P.y = 1
    refine fp_cancel hz ?_
    rw [Fin.mul_one, Fin.mul_comm]; exact hy.symm
end Pw
