/- The law of chord and tangent is the sum of the Edwards curve. -/
import Derived.Test.YtfajgpjpabeafaaPwCnt
namespace Pw
variable {C : LC}

/-- (u, v) are the two numbers of a point -/
structure AffR (C : LC) (f A u v : Fp) (Q : EP C.E) : Prop where
  hu : IsU C u Q
  hv : v * Q.x = u
  on : f * v * v = u * u * u + A * u * u + u

/-- what f and A are -/
structure FA (C : LC) (f A : Fp) : Prop where
  f0 : f ≠ 0
  h1 : f * C.E.a = A + 2 * C.s
  h2 : f * C.E.d = A - 2 * C.s

variable {f A u v u1 v1 u2 v2 u3 v3 l : Fp} {P Q : EP C.E}

theorem fassoc' (x y z : Fp) : x * (y * z) = x * y * z := by grind
theorem us_ne (h : IsU C u Q) : u + C.s ≠ 0 := by
  intro h0
  unfold IsU at h
  have hs := C.s_ne
  have e : u = - C.s := by clear h hs; grind
  have : C.s * 2 = 0 := by
    subst e
    generalize C.s = s at *
    generalize Q.y = y at *
    clear h0 hs
    grind
  exact fp_mul_ne hs fp_two_ne this
theorem aff_y (h : IsU C u Q) : Q.y * (u + C.s) = u - C.s := by
  unfold IsU at h
  generalize C.s = s at *
  generalize Q.y = y at *
  grind
theorem x_zero {Q : EP C.E} (h : Q.y * Q.y = 1) : Q.x = 0 := by
  have h2 := two_tors h
  have hx := add_x Q Q
  rw [h2] at hx
  have e : (EP.zero C.E).x = 0 := rfl
  rw [e, Fin.zero_mul] at hx
  have hy : Q.y ≠ 0 := by rintro h0; rw [h0, Fin.zero_mul] at h; exact fp_one_ne h.symm
  have : Q.x * (2 * Q.y) = 0 := by rw [hx]; clear hx e h2 h hy; grind
  rcases fp_mul_zero this with h3 | h3
  · exact h3
  · exact absurd h3 (fp_mul_ne fp_two_ne hy)
theorem AffR.v0 (h : AffR C f A u 0 Q) : u = 0 ∧ Q.y = -1 ∧ Q.x = 0 := by
  have h1 := h.hv
  rw [Fin.zero_mul] at h1
  subst h1
  have h2 := h.hu
  unfold IsU at h2
  rw [Fin.zero_mul] at h2
  have hy : Q.y = -1 := by
    rcases fp_mul_zero h2.symm with h3 | h3
    · exact absurd h3 C.s_ne
    · clear h h2; grind
  refine ⟨rfl, hy, x_zero ?_⟩
  rw [hy]; decide +kernel
theorem AffR.u0 (hF : FA C f A) (h : AffR C f A 0 v Q) : v = 0 := by
  have h1 := h.on
  have h2 : f * (v * v) = 0 := by
    rw [fassoc', h1]; simp only [Fin.mul_zero, Fin.add_zero]
  rcases fp_mul_zero h2 with h3 | h3
  · exact absurd h3 hF.f0
  · exact sq_zero h3
theorem AffR.dbl0 (h : AffR C f A u 0 Q) : Q.add Q = EP.zero C.E := two_tors (by rw [h.v0.2.1]; decide +kernel)
theorem AffR.uniq (h1 : AffR C f A u v P) (h2 : AffR C f A u v Q) : P = Q := by
  have hy : P.y = Q.y := fp_cancel (us_ne h1.hu) (by
    have e1 := aff_y h1.hu
    have e2 := aff_y h2.hu
    rw [Fin.mul_comm, e1, Fin.mul_comm, e2])
  refine EP.ext' ?_ hy
  by_cases hv : v = 0
  · subst hv
    rw [h1.v0.2.2, h2.v0.2.2]
  · exact fp_cancel hv (by rw [h1.hv, h2.hv])
theorem AffR.opp (hF : FA C f A) (h1 : AffR C f A u v1 P) (h2 : AffR C f A u v2 Q) (hne : v1 ≠ v2) : P.add Q = EP.zero C.E := by
  have hsq : v1 * v1 = v2 * v2 := fp_cancel hF.f0 (by
    have e1 := h1.on
    have e2 := h2.on
    rw [← e2] at e1
    clear h1 h2 e2 hF hne; grind)
  have hv : v1 = -v2 := by
    rcases sq_two hsq with h | h
    · exact absurd h hne
    · exact h
  have hv2 : v2 ≠ 0 := by rintro rfl; exact hne (by rw [hv]; clear hv hsq h1 h2 hF hne; grind)
  have hy : P.y = Q.y := fp_cancel (us_ne h1.hu) (by
    have e1 := aff_y h1.hu
    have e2 := aff_y h2.hu
    rw [Fin.mul_comm, e1, Fin.mul_comm, e2])
  have hx : P.x = -Q.x := fp_cancel hv2 (by
    have e1 := h1.hv
    have e2 := h2.hv
    rw [hv] at e1
    rw [← e2] at e1
    clear hsq hv hy h1 h2 e2 hF hne hv2
    grind)
  have : P = Q.neg := EP.ext' hx hy
  rw [this, EP.neg_add]
theorem AffR.sum_ne (h1 : AffR C f A u1 v1 P) (h2 : AffR C f A u2 v2 Q) (hne : u1 ≠ u2) : P.add Q ≠ EP.zero C.E := by
  intro h
  have hQ := EP.neg_eq h
  have hy : Q.y = P.y := by rw [hQ]; rfl
  have e1 := isU_u h1.hu
  have e2 := isU_u h2.hu
  refine hne ?_
  rw [e1, e2]
  unfold uOf
  rw [hy]

/-! ### the third point lies on the curve -/

theorem ch_on (e1 : f * v1 * v1 = u1 * u1 * u1 + A * u1 * u1 + u1) (hE : f * (2 * v1 * l + l * l * (u2 - u1)) = u1 * u1 + u1 * u2 + u2 * u2 + A * (u1 + u2) + 1)
    (h3 : u3 = f * l * l - A - u1 - u2) (h4 : v3 = l * (u1 - u3) - v1) : f * v3 * v3 = u3 * u3 * u3 + A * u3 * u3 + u3 := by
  have k : f * v3 * v3 = f * v1 * v1 + (u3 - u1) * (f * l * l * (u3 - u1) + 2 * (f * (v1 * l))) := by subst h4; clear h3 hE e1; grind
  have k2 : 2 * (f * (v1 * l)) = u1 * u1 + u1 * u2 + u2 * u2 + A * (u1 + u2) + 1 - f * l * l * (u2 - u1) := by rw [← hE]; clear h3 hE e1 h4 k; grind
  rw [k, k2, e1]
  have k3 : f * l * l = u3 + A + u1 + u2 := by rw [h3]; clear h3 h4 hE e1 k k2; grind
  rw [k3]
  clear k k2 k3 h3 h4 hE e1
  grind
theorem ch_E (e1 : f * v1 * v1 = u1 * u1 * u1 + A * u1 * u1 + u1) (e2 : f * v2 * v2 = u2 * u2 * u2 + A * u2 * u2 + u2) (hne : u2 - u1 ≠ 0) (hl : l * (u2 - u1) = v2 - v1) :
    f * (2 * v1 * l + l * l * (u2 - u1)) = u1 * u1 + u1 * u2 + u2 * u2 + A * (u1 + u2) + 1 := by
  refine fp_cancel hne ?_
  have k : (u2 - u1) * (f * (2 * v1 * l + l * l * (u2 - u1))) = f * v2 * v2 - f * v1 * v1 := by
    have hv : v2 = v1 + l * (u2 - u1) := by rw [hl]; clear hl hne e1 e2; grind
    rw [hv]; clear hl hne e1 e2 hv; grind
  rw [k, e1, e2]
  clear k hl hne e1 e2
  grind

/-! ### the sum of two points -/

theorem ch_top {N : Fp} (e1 : f * v1 * v1 = u1 * u1 * u1 + A * u1 * u1 + u1) (e2 : f * v2 * v2 = u2 * u2 * u2 + A * u2 * u2 + u2)
    (hN : N = f * ((v2 - v1) * (v2 - v1)) - (u2 - u1) * (u2 - u1) * (A + (u1 + u2))) :
    N = (u1 + u2) * (u1 * u2 + 1) + 2 * A * u1 * u2 - 2 * (f * (v1 * v2)) := by
  subst hN; grind
theorem ch_id1 {A u1 u2 w c : Fp} (hw : w * w = c) (hc : c = (u1 * u1 * u1 + A * u1 * u1 + u1) * (u2 * u2 * u2 + A * u2 * u2 + u2)) :
    ((u1 + u2) * (u1 * u2 + 1) + 2 * A * u1 * u2 - 2 * w) * (w * (u1 + u2) + u1 * u2 * (A * (u1 + u2) + 2 * (u1 * u2 + 1))) =
      (u2 - u1) * (u2 - u1) * (w * (u1 * u2 + 1) - u1 * u2 * (A * (u1 * u2 + 1) + 2 * (u1 + u2))) := by
  subst hc; grind
theorem ch_id2 {A u1 u2 w c1 c2 s : Fp} (hw : w * w = c1 * c2) (h1 : c1 = u1 * u1 * u1 + A * u1 * u1 + u1) (h2 : c2 = u2 * u2 * u2 + A * u2 * u2 + u2) (hs : s * s = 1) {N : Fp} (hN : N = (u1 + u2) * (u1 * u2 + 1) + 2 * A * u1 * u2 - 2 * w) :
    u1 * ((u1 + s) * (u2 - s)) * (c2 * (u1 * ((u2 - u1) * (u2 - u1)) - N) - w * (u2 * ((u2 - u1) * (u2 - u1)) - N)) + u2 * ((u1 - s) * (u2 + s)) * (w * (u1 * ((u2 - u1) * (u2 - u1)) - N) - c1 * (u2 * ((u2 - u1) * (u2 - u1)) - N)) =
      N * (u2 - u1) * (w * ((u1 + s) * (u2 + s)) + (A - 2 * s) * ((u1 - s) * (u2 - s)) * (u1 * u2)) := by
  subst hN; subst h1; subst h2; grind

theorem fsub_mul (x y z : Fp) : (x - y) * z = x * z - y * z := by grind
theorem tg3 (a b c : Fp) : a * b * c = a * c * b := by grind
theorem fassoc (x y z : Fp) : x * (y * z) = x * y * z := by grind
theorem fadd_mul (x y z : Fp) : (x + y) * z = x * z + y * z := by grind
/-- the Edwards numbers, over u and v -/
theorem ch_k {a d s x1 y1 x2 y2 : Fp} (hf1 : f * a = A + 2 * s) (hf2 : f * d = A - 2 * s) (hy1 : y1 * (u1 + s) = u1 - s) (hy2 : y2 * (u2 + s) = u2 - s) (hx1 : v1 * x1 = u1) (hx2 : v2 * x2 = u2) :
    (1 - d * x1 * x2 * y1 * y2) * ((u1 + s) * (u2 + s) * (f * (v1 * v2))) = f * (v1 * v2) * ((u1 + s) * (u2 + s)) - (A - 2 * s) * ((u1 - s) * (u2 - s)) * (u1 * u2) ∧
    (1 + d * x1 * x2 * y1 * y2) * ((u1 + s) * (u2 + s) * (f * (v1 * v2))) = f * (v1 * v2) * ((u1 + s) * (u2 + s)) + (A - 2 * s) * ((u1 - s) * (u2 - s)) * (u1 * u2) ∧
    (y1 * y2 - a * x1 * x2) * ((u1 + s) * (u2 + s) * (f * (v1 * v2))) = f * (v1 * v2) * ((u1 - s) * (u2 - s)) - (A + 2 * s) * (u1 * u2) * ((u1 + s) * (u2 + s)) ∧
    (x1 * y2 + y1 * x2) * ((u1 + s) * (u2 + s) * (f * (v1 * v2))) = f * (v2 * (u1 * ((u1 + s) * (u2 - s))) + v1 * (u2 * ((u1 - s) * (u2 + s)))) := by
  have k1 : d * x1 * x2 * y1 * y2 * ((u1 + s) * (u2 + s) * (f * (v1 * v2))) = (f * d) * ((v1 * x1) * (v2 * x2)) * ((y1 * (u1 + s)) * (y2 * (u2 + s))) := by clear hf1 hf2 hy1 hy2 hx1 hx2; grind
  have k2 : a * x1 * x2 * ((u1 + s) * (u2 + s) * (f * (v1 * v2))) = (f * a) * ((v1 * x1) * (v2 * x2)) * ((u1 + s) * (u2 + s)) := by clear hf1 hf2 hy1 hy2 hx1 hx2 k1; grind
  have k3 : y1 * y2 * ((u1 + s) * (u2 + s) * (f * (v1 * v2))) = f * (v1 * v2) * ((y1 * (u1 + s)) * (y2 * (u2 + s))) := by clear hf1 hf2 hy1 hy2 hx1 hx2 k1 k2; grind
  have k4 : (x1 * y2 + y1 * x2) * ((u1 + s) * (u2 + s) * (f * (v1 * v2))) = f * (v2 * ((v1 * x1) * ((u1 + s) * (y2 * (u2 + s)))) + v1 * ((v2 * x2) * ((y1 * (u1 + s)) * (u2 + s)))) := by clear hf1 hf2 hy1 hy2 hx1 hx2 k1 k2 k3; grind
  rw [hf2, hy1, hy2, hx1, hx2] at k1
  rw [hf1, hx1, hx2] at k2
  rw [hy1, hy2] at k3
  rw [hy1, hy2, hx1, hx2] at k4
  clear hf1 hf2 hy1 hy2 hx1 hx2
  refine ⟨?_, ?_, ?_, ?_⟩
  · rw [fsub_mul, k1, Fin.one_mul]; congr 1 <;> first | exact tg3 _ _ _ | exact Fin.mul_comm _ _
  · rw [fadd_mul, k1, Fin.one_mul]; congr 1 <;> first | exact tg3 _ _ _ | exact Fin.mul_comm _ _
  · rw [fsub_mul, k2, k3]
  · rw [k4]

theorem tg1 (x s M : Fp) : x * (2 * s * M) = s * (2 * (x * M)) := by grind
theorem tg2 {v x K u : Fp} (h : v * (x * K) = u * K) : K * (v * x) = K * u := by grind
theorem sm_id {W u1 u2 s : Fp} (hs : s * s = 1) :
    (W * ((u1 + s) * (u2 + s)) - (A - 2 * s) * ((u1 - s) * (u2 - s)) * (u1 * u2)) - (W * ((u1 - s) * (u2 - s)) - (A + 2 * s) * (u1 * u2) * ((u1 + s) * (u2 + s))) = 2 * s * (W * (u1 + u2) + u1 * u2 * (A * (u1 + u2) + 2 * (u1 * u2 + 1))) ∧
    (W * ((u1 + s) * (u2 + s)) - (A - 2 * s) * ((u1 - s) * (u2 - s)) * (u1 * u2)) + (W * ((u1 - s) * (u2 - s)) - (A + 2 * s) * (u1 * u2) * ((u1 + s) * (u2 + s))) = 2 * (W * (u1 * u2 + 1) - u1 * u2 * (A * (u1 * u2 + 1) + 2 * (u1 + u2))) := by
  constructor <;> grind

/-- two points with other numbers u, neither of them (0, 0) -/
theorem AffR.add' (hF : FA C f A) (h1 : AffR C f A u1 v1 P) (h2 : AffR C f A u2 v2 Q) (hne : u1 ≠ u2) (n1 : v1 ≠ 0) (n2 : v2 ≠ 0) (hl : l * (u2 - u1) = v2 - v1)
    (h3 : u3 = f * l * l - A - u1 - u2) (h4 : v3 = l * (u1 - u3) - v1) : AffR C f A u3 v3 (P.add Q) := by
  have hd : u2 - u1 ≠ 0 := fun h => hne (by clear hl h3 h4; grind)
  have e1 := h1.on
  have e2 := h2.on
  have hp : (u1 + C.s) * (u2 + C.s) * (f * (v1 * v2)) ≠ 0 := fp_mul_ne (fp_mul_ne (us_ne h1.hu) (us_ne h2.hu)) (fp_mul_ne hF.f0 (fp_mul_ne n1 n2))
  obtain ⟨k1, k2, k3, k4⟩ := ch_k hF.h1 hF.h2 (aff_y h1.hu) (aff_y h2.hu) h1.hv h2.hv
  have ay := add_y P Q
  have ax := add_x P Q
  have m1 := fp_mul_ne (den_m P Q) hp
  have m2 := fp_mul_ne (den_p P Q) hp
  rw [k1] at m1
  rw [k2] at m2
  -- the numbers of the sum
  have by_ : (P.add Q).y * (f * (v1 * v2) * ((u1 + C.s) * (u2 + C.s)) - (A - 2 * C.s) * ((u1 - C.s) * (u2 - C.s)) * (u1 * u2)) = f * (v1 * v2) * ((u1 - C.s) * (u2 - C.s)) - (A + 2 * C.s) * (u1 * u2) * ((u1 + C.s) * (u2 + C.s)) := by
    rw [← k1, ← k3, ← ay]; exact fassoc _ _ _
  have bx_ : (P.add Q).x * (f * (v1 * v2) * ((u1 + C.s) * (u2 + C.s)) + (A - 2 * C.s) * ((u1 - C.s) * (u2 - C.s)) * (u1 * u2)) = f * (v2 * (u1 * ((u1 + C.s) * (u2 - C.s))) + v1 * (u2 * ((u1 - C.s) * (u2 + C.s)))) := by
    rw [← k2, ← k4, ← ax]; exact fassoc _ _ _
  have hs := C.hs
  obtain ⟨y3, hy3⟩ : ∃ z, z = (P.add Q).y := ⟨_, rfl⟩
  obtain ⟨x3, hx3⟩ : ∃ z, z = (P.add Q).x := ⟨_, rfl⟩
  rw [← hy3] at by_
  rw [← hx3] at bx_
  have hw : (f * (v1 * v2)) * (f * (v1 * v2)) = (u1 * u1 * u1 + A * u1 * u1 + u1) * (u2 * u2 * u2 + A * u2 * u2 + u2) := by
    rw [← e1, ← e2]; clear k1 k2 k3 k4 ay ax m1 m2 by_ bx_ hs e1 e2 h3 h4 hl; grind
  have hN : (u2 - u1) * (u2 - u1) * u3 = (u1 + u2) * (u1 * u2 + 1) + 2 * A * u1 * u2 - 2 * (f * (v1 * v2)) := by
    refine ch_top e1 e2 ?_
    rw [h3, ← hl]; clear k1 k2 k3 k4 ay ax m1 m2 by_ bx_ hs e1 e2 h3 h4 hl hw; grind
  refine ⟨?_, ?_, ch_on e1 (ch_E e1 e2 hd hl) h3 h4⟩
  · have id1 := ch_id1 hw rfl
    rw [← hN] at id1
    obtain ⟨q1, q2⟩ := sm_id (A := A) (W := f * (v1 * v2)) (u1 := u1) (u2 := u2) hs
    have id2 : u3 * (f * (v1 * v2) * (u1 + u2) + u1 * u2 * (A * (u1 + u2) + 2 * (u1 * u2 + 1))) = f * (v1 * v2) * (u1 * u2 + 1) - u1 * u2 * (A * (u1 * u2 + 1) + 2 * (u1 + u2)) :=
      fp_cancel (fp_mul_ne hd hd) (by rw [← id1]; exact fassoc _ _ _)
    show u3 * (1 - (P.add Q).y) = C.s * (1 + (P.add Q).y)
    rw [← hy3]
    refine fp_cancel m1 ?_
    have r1 : ∀ (K1 K2 : Fp), y3 * K1 = K2 → K1 * (u3 * (1 - y3)) = u3 * (K1 - K2) ∧ K1 * (C.s * (1 + y3)) = C.s * (K1 + K2) := by
      intro K1 K2 h
      subst h
      generalize C.s = s
      clear m1 m2 by_ bx_ hw hN id1 id2 q1 q2 h3 h4 hl hs hp k1 k2 k3 k4 ay ax e1 e2
      constructor <;> grind
    obtain ⟨r2, r3⟩ := r1 _ _ by_
    rw [r2, r3, q1, q2, ← id2]
    exact tg1 _ _ _
  · have hw2 : (f * (v1 * v2)) * (f * (v1 * v2)) = (f * v1 * v1) * (f * v2 * v2) := by rw [hw, e1, e2]
    have id2 := ch_id2 hw2 e1 e2 hs hN
    have g1 : (u2 - u1) * (u2 - u1) * (u2 - u1) * v3 = v2 * (u1 * ((u2 - u1) * (u2 - u1)) - (u2 - u1) * (u2 - u1) * u3) - v1 * (u2 * ((u2 - u1) * (u2 - u1)) - (u2 - u1) * (u2 - u1) * u3) := by
      have hv : v2 = v1 + l * (u2 - u1) := by rw [hl]; clear m1 m2 by_ bx_ hw hN id2 hw2 h3 h4 hl hs hp k1 k2 k3 k4 ay ax e1 e2; grind
      rw [h4, hv]
      clear m1 m2 by_ bx_ hw hN id2 hw2 h3 h4 hl hs hp k1 k2 k3 k4 ay ax e1 e2 hv
      grind
    have key : (u2 - u1) * (u2 - u1) * (u2 - u1) * (v3 * (f * (v2 * (u1 * ((u1 + C.s) * (u2 - C.s))) + v1 * (u2 * ((u1 - C.s) * (u2 + C.s)))))) = (u2 - u1) * (u2 - u1) * (u2 - u1) * (u3 * (f * (v1 * v2) * ((u1 + C.s) * (u2 + C.s)) + (A - 2 * C.s) * ((u1 - C.s) * (u2 - C.s)) * (u1 * u2))) := by
      have g2 : (u2 - u1) * (u2 - u1) * (u2 - u1) * (v3 * (f * (v2 * (u1 * ((u1 + C.s) * (u2 - C.s))) + v1 * (u2 * ((u1 - C.s) * (u2 + C.s)))))) =
          u1 * ((u1 + C.s) * (u2 - C.s)) * (f * v2 * v2 * (u1 * ((u2 - u1) * (u2 - u1)) - (u2 - u1) * (u2 - u1) * u3) - f * (v1 * v2) * (u2 * ((u2 - u1) * (u2 - u1)) - (u2 - u1) * (u2 - u1) * u3)) + u2 * ((u1 - C.s) * (u2 + C.s)) * (f * (v1 * v2) * (u1 * ((u2 - u1) * (u2 - u1)) - (u2 - u1) * (u2 - u1) * u3) - f * v1 * v1 * (u2 * ((u2 - u1) * (u2 - u1)) - (u2 - u1) * (u2 - u1) * u3)) := by
        rw [fassoc, g1]
        generalize u1 * ((u2 - u1) * (u2 - u1)) - (u2 - u1) * (u2 - u1) * u3 = X1
        generalize u2 * ((u2 - u1) * (u2 - u1)) - (u2 - u1) * (u2 - u1) * u3 = X2
        generalize (u1 + C.s) * (u2 - C.s) = Z1
        generalize (u1 - C.s) * (u2 + C.s) = Z2
        clear m1 m2 by_ bx_ hw hN id2 hw2 h3 h4 hl hs hp k1 k2 k3 k4 ay ax e1 e2 g1
        grind
      rw [g2, id2]
      generalize (f * (v1 * v2) * ((u1 + C.s) * (u2 + C.s)) + (A - 2 * C.s) * ((u1 - C.s) * (u2 - C.s)) * (u1 * u2)) = K
      clear m1 m2 by_ bx_ hw hN id2 hw2 h3 h4 hl hs hp k1 k2 k3 k4 ay ax e1 e2 g1 g2
      grind
    have key2 := fp_cancel (fp_mul_ne (fp_mul_ne hd hd) hd) key
    rw [← bx_] at key2
    rw [← hx3]
    exact fp_cancel m2 (tg2 key2)

theorem fneg_sq (a x : Fp) : a * -x * -x = a * x * x := by grind
theorem fneg_sq' (y : Fp) : -y * -y = y * y := by grind
/-- (0, 0) and another point -/
theorem AffR.add0 (h1 : AffR C f A 0 0 P) (h2 : AffR C f A u2 v2 Q) (hne : (0 : Fp) ≠ u2) (hl : l * u2 = v2) (h3 : u3 = f * l * l - A - u2) (h4 : v3 = - (l * u3)) : AffR C f A u3 v3 (P.add Q) := by
  obtain ⟨-, hy, hx⟩ := h1.v0
  have h0 : u2 ≠ 0 := fun h => hne h.symm
  have e2 := h2.on
  have hQx := h2.hv
  have hu := h2.hu
  have eP : P.add Q = ⟨-Q.x, -Q.y, by have := Q.on; rw [fneg_sq, fneg_sq', this, fneg_sq, fneg_sq]⟩ := by
    refine add_eq ?_ ?_
    · show -Q.x * _ = _
      rw [hx, hy]
      clear hl h3 h4 e2 hQx hu hx hy h1 h2 hne h0
      generalize C.E.d = d
      generalize Q.x = x
      generalize Q.y = y
      have : d * 0 * x * -1 * y = 0 := by simp only [Fin.mul_zero, Fin.zero_mul]
      rw [this]; grind
    · show -Q.y * _ = _
      rw [hx, hy]
      clear hl h3 h4 e2 hQx hu hx hy h1 h2 hne h0
      generalize C.E.d = d
      generalize C.E.a = a
      generalize Q.x = x
      generalize Q.y = y
      have h1 : d * 0 * x * -1 * y = 0 := by simp only [Fin.mul_zero, Fin.zero_mul]
      have h2 : a * 0 * x = 0 := by simp only [Fin.mul_zero, Fin.zero_mul]
      rw [h1, h2]; grind
  have hk : u3 * u2 = 1 := by
    refine fp_cancel (fp_mul_ne h0 h0) ?_
    have k : u2 * u2 * (u3 * u2) = u2 * (f * ((l * u2) * (l * u2)) - (A + u2) * (u2 * u2)) := by rw [h3]; clear h3 h4 e2 hQx hu eP h1 h2 hl; grind
    rw [k, hl]
    have k2 : f * (v2 * v2) = u2 * u2 * u2 + A * u2 * u2 + u2 := by rw [← e2]; clear k h3 h4 e2 hQx hu eP h1 h2 hl; grind
    rw [k2]
    clear k k2 h3 h4 e2 hQx hu eP h1 h2 hl
    grind
  have hs := C.hs
  rw [eP]
  clear eP
  refine ⟨?_, ?_, ?_⟩
  · show u3 * (1 - -Q.y) = C.s * (1 + -Q.y)
    unfold IsU at hu
    refine fp_cancel h0 ?_
    generalize C.s = s at *
    generalize Q.y = y at *
    clear h3 h4 e2 hQx h1 h2 hl hx hy hne h0
    have k1 : u2 * (u3 * (1 - -y)) = u3 * u2 * (1 + y) := by clear hs hu hk; grind
    have k2 : u2 * (s * (1 + -y)) = s * (u2 * (1 - y)) := by clear hs hu hk k1; grind
    rw [k1, k2, hk, hu]
    clear k1 k2 hk hu
    grind
  · show v3 * -Q.x = u3
    refine fp_cancel h0 ?_
    have k : u2 * (v3 * -Q.x) = u3 * ((l * u2) * Q.x) := by
      rw [h4]
      generalize Q.x = x
      clear h3 h4 e2 hQx hu h1 h2 hl hs hk hx hy hne h0
      grind
    rw [k, hl, hQx, Fin.mul_comm]
  · refine ch_on (u1 := 0) (v1 := 0) (u2 := u2) (l := l) ?_ ?_ ?_ ?_
    · simp only [Fin.mul_zero, Fin.add_zero]
    · refine fp_cancel h0 ?_
      have k : u2 * (f * (2 * 0 * l + l * l * (u2 - 0))) = f * ((l * u2) * (l * u2)) := by clear h3 h4 e2 hQx hu h1 h2 hl hs hk hx hy hne h0; grind
      have k2 : f * (v2 * v2) = u2 * u2 * u2 + A * u2 * u2 + u2 := by rw [← e2]; clear k h3 h4 e2 hQx hu h1 h2 hl hs hk hx hy hne h0; grind
      rw [k, hl, k2]
      simp only [Fin.mul_zero, Fin.zero_mul, Fin.add_zero, Fin.zero_add]
      clear k k2 h3 h4 e2 hQx hu h1 h2 hl hs hk hx hy hne h0
      grind
    · rw [h3]; clear h3 h4 e2 hQx hu h1 h2 hl hs hk hx hy hne h0; grind
    · rw [h4]; clear h3 h4 e2 hQx hu h1 h2 hl hs hk hx hy hne h0; grind

/-- two points with other numbers u -/
theorem AffR.add (hF : FA C f A) (h1 : AffR C f A u1 v1 P) (h2 : AffR C f A u2 v2 Q) (hne : u1 ≠ u2) (hl : l * (u2 - u1) = v2 - v1)
    (h3 : u3 = f * l * l - A - u1 - u2) (h4 : v3 = l * (u1 - u3) - v1) : AffR C f A u3 v3 (P.add Q) := by
  by_cases n1 : v1 = 0
  · subst n1
    obtain ⟨rfl, -⟩ := h1.v0
    refine h1.add0 h2 hne (l := l) ?_ ?_ ?_
    · have : l * u2 = l * (u2 - 0) := by clear hl h3 h4 h1 h2 hF hne; grind
      rw [this, hl]; clear this hl h3 h4 h1 h2 hF hne; grind
    · rw [h3]; clear hl h3 h4 h1 h2 hF hne; grind
    · rw [h4]; clear hl h3 h4 h1 h2 hF hne; grind
  · by_cases n2 : v2 = 0
    · subst n2
      obtain ⟨rfl, -⟩ := h2.v0
      rw [EP.add_comm]
      have hl2 : l * u1 = v1 := by
        have : l * u1 = - (l * (0 - u1)) := by clear hl h3 h4 h1 h2 hF hne n1; grind
        rw [this, hl]; clear this hl h3 h4 h1 h2 hF hne n1; grind
      refine h2.add0 h1 (fun h => hne h.symm) (l := l) hl2 ?_ ?_
      · rw [h3]; clear hl h3 h4 h1 h2 hF hne n1 hl2; grind
      · rw [h4, ← hl2]; clear hl h3 h4 h1 h2 hF hne n1 hl2; grind
    · exact h1.add' hF h2 hne n1 n2 hl h3 h4

theorem db_id1 {W : Fp} (hW : W = u * u * u + A * u * u + u) : (3 * u * u + 2 * A * u + 1) * (3 * u * u + 2 * A * u + 1) - 4 * W * (A + u + u) = (u * u - 1) * (u * u - 1) := by subst hW; grind
theorem db_id2 {W s : Fp} (hW : W = u * u * u + A * u * u + u) (hs : s * s = 1) :
    (W * ((u + s) * (u + s)) - (A - 2 * s) * ((u - s) * (u - s)) * (u * u)) - (W * ((u - s) * (u - s)) - (A + 2 * s) * (u * u) * ((u + s) * (u + s))) = 2 * s * u * (4 * W) ∧
    (W * ((u + s) * (u + s)) - (A - 2 * s) * ((u - s) * (u - s)) * (u * u)) + (W * ((u - s) * (u - s)) - (A + 2 * s) * (u * u) * ((u + s) * (u + s))) = 2 * u * ((u * u - 1) * (u * u - 1)) := by
  subst hW
  constructor <;> grind
theorem db_id3 {W s n t : Fp} (hW : W = u * u * u + A * u * u + u) (hs : s * s = 1) (hn : n = 3 * u * u + 2 * A * u + 1) (ht : t = (u * u - 1) * (u * u - 1)) :
    (n * (4 * W * u - t) - 8 * (W * W)) * (u * ((u + s) * (u - s))) = t * (W * ((u + s) * (u + s)) + (A - 2 * s) * ((u - s) * (u - s)) * (u * u)) := by
  subst hn; subst ht; subst hW
  grind
theorem tg6 {v l u A f : Fp} : 4 * (f * (v * v)) * (f * l * l - A - u - u) = l * (2 * f * v) * (l * (2 * f * v)) - 4 * (f * (v * v)) * (A + u + u) := by grind
theorem tg4 {K1 K2 y u3 s : Fp} (h : y * K1 = K2) : K1 * (u3 * (1 - y)) = u3 * (K1 - K2) ∧ K1 * (s * (1 + y)) = s * (K1 + K2) := by
  subst h
  constructor <;> grind

/-- a point and itself -/
theorem AffR.dbl (hF : FA C f A) (h : AffR C f A u v P) (hv : v ≠ 0) (hl : l * (2 * f * v) = 3 * u * u + 2 * A * u + 1) (h3 : u3 = f * l * l - A - u - u) (h4 : v3 = l * (u - u3) - v) : AffR C f A u3 v3 (P.add P) := by
  have e1 := h.on
  have hp : (u + C.s) * (u + C.s) * (f * (v * v)) ≠ 0 := fp_mul_ne (fp_mul_ne (us_ne h.hu) (us_ne h.hu)) (fp_mul_ne hF.f0 (fp_mul_ne hv hv))
  obtain ⟨k1, k2, k3, k4⟩ := ch_k hF.h1 hF.h2 (aff_y h.hu) (aff_y h.hu) h.hv h.hv
  have ay := add_y P P
  have ax := add_x P P
  have m1 := fp_mul_ne (den_m P P) hp
  have m2 := fp_mul_ne (den_p P P) hp
  rw [k1] at m1
  rw [k2] at m2
  have hWv : f * (v * v) = u * u * u + A * u * u + u := by rw [fassoc', e1]
  have hW0 : f * (v * v) ≠ 0 := fp_mul_ne hF.f0 (fp_mul_ne hv hv)
  have by_ : (P.add P).y * (f * (v * v) * ((u + C.s) * (u + C.s)) - (A - 2 * C.s) * ((u - C.s) * (u - C.s)) * (u * u)) = f * (v * v) * ((u - C.s) * (u - C.s)) - (A + 2 * C.s) * (u * u) * ((u + C.s) * (u + C.s)) := by
    rw [← k1, ← k3, ← ay]; exact fassoc _ _ _
  have bx_ : (P.add P).x * (f * (v * v) * ((u + C.s) * (u + C.s)) + (A - 2 * C.s) * ((u - C.s) * (u - C.s)) * (u * u)) = f * (v * (u * ((u + C.s) * (u - C.s))) + v * (u * ((u - C.s) * (u + C.s)))) := by
    rw [← k2, ← k4, ← ax]; exact fassoc _ _ _
  have hs := C.hs
  obtain ⟨y3, hy3⟩ : ∃ z, z = (P.add P).y := ⟨_, rfl⟩
  obtain ⟨x3, hx3⟩ : ∃ z, z = (P.add P).x := ⟨_, rfl⟩
  rw [← hy3] at by_
  rw [← hx3] at bx_
  have hu3 : 4 * (f * (v * v)) * u3 = (u * u - 1) * (u * u - 1) := by
    rw [← db_id1 hWv, ← hl, h3]
    clear k1 k2 k3 k4 ay ax m1 m2 hWv by_ bx_ hs hl h3 h4 e1 hp
    clear hW0
    exact tg6
  refine ⟨?_, ?_, ch_on (u2 := u) (l := l) e1 ?_ h3 h4⟩
  · show u3 * (1 - (P.add P).y) = C.s * (1 + (P.add P).y)
    rw [← hy3]
    refine fp_cancel m1 ?_
    obtain ⟨r2, r3⟩ := tg4 (u3 := u3) (s := C.s) by_
    obtain ⟨q1, q2⟩ := db_id2 hWv hs
    rw [r2, r3, q1, q2, ← hu3]
    generalize f * (v * v) = W
    generalize C.s = s
    clear k1 k2 k3 k4 ay ax m1 m2 hWv by_ bx_ hs hl h3 h4 e1 hp r2 r3 q1 q2 hu3 hW0
    grind
  · show v3 * (P.add P).x = u3
    rw [← hx3]
    refine fp_cancel m2 (tg2 ?_)
    rw [bx_]
    refine fp_cancel (fp_mul_ne (show (4 : Fp) ≠ 0 by decide +kernel) hW0) ?_
    have id3 := db_id3 hWv hs rfl (rfl : (u * u - 1) * (u * u - 1) = (u * u - 1) * (u * u - 1))
    have g1 : 4 * (f * (v * v)) * (v3 * (f * (v * (u * ((u + C.s) * (u - C.s))) + v * (u * ((u - C.s) * (u + C.s)))))) = ((3 * u * u + 2 * A * u + 1) * (4 * (f * (v * v)) * u - 4 * (f * (v * v)) * u3) - 8 * (f * (v * v) * (f * (v * v)))) * (u * ((u + C.s) * (u - C.s))) := by
      rw [← hl, h4]
      generalize C.s = s
      clear k1 k2 k3 k4 ay ax m1 m2 hWv by_ bx_ hs hl h3 h4 e1 hp hu3 hW0 id3
      grind
    rw [g1, hu3, id3, ← hu3]
    generalize (f * (v * v) * ((u + C.s) * (u + C.s)) + (A - 2 * C.s) * ((u - C.s) * (u - C.s)) * (u * u)) = K
    generalize f * (v * v) = W
    clear k1 k2 k3 k4 ay ax m1 m2 hWv by_ bx_ hs hl h3 h4 e1 hp hu3 hW0 id3 g1
    grind
  · have : f * (2 * v * l + l * l * (u - u)) = l * (2 * f * v) := by clear k1 k2 k3 k4 ay ax m1 m2 hWv by_ bx_ hs hl h3 h4 e1 hp hu3 hW0; grind
    rw [this, hl]
    clear k1 k2 k3 k4 ay ax m1 m2 hWv by_ bx_ hs hl h3 h4 e1 hp hu3 hW0 this
    grind
end Pw
