/- The points with both coordinates are those of the Edwards curve. -/
import Derived.Test.YtfajgpjpabeafaaCb2
import Derived.Test.YtfajgpjpabeafaaCx
import Derived.Test.YtfajgpjpabeafaaPwChord
namespace Go.Proofs.Ytfajgpjpabeafaa
open Go Pw Go.RowKit
abbrev AA : Fp := 486662
theorem FA1 : FA C1 1 AA := ⟨fp_one_ne, by decide +kernel, by decide +kernel⟩
theorem FA2 : FA C2 2 AA := ⟨fp_two_ne, by decide +kernel, by decide +kernel⟩
/-- what a point of the walk stands for -/
structure RPt (C : LC) (f : Fp) (p : Cpt) (Q : EP C.E) : Prop where
  of : ok4 p.f
  ox : ok4 p.x
  oy : ok4 p.y
  oz : ok4 p.z
  hf : rv p.f = f
  pt : (p.none = true ∧ Q = EP.zero C.E) ∨ (p.none = false ∧ rv p.z ≠ 0 ∧ ∃ u v, AffR C f AA u v Q ∧ rv p.x = u * rv p.z ∧ rv p.y = v * rv p.z)
variable {C : LC} {f : Fp}
theorem mid_ok : ok4 (smallR 486662) := rsmall_ok (by decide)
theorem mid_rv : rv (smallR 486662) = AA := (rv_small (by decide)).trans (by decide +kernel)
theorem zero4_ok : ok4 zero4 := rzero_ok
theorem gone_pt {x : L4} (h : ok4 x) (hf : rv x = f) : RPt C f (goneC x) (EP.zero C.E) := ⟨h, zero4_ok, zero4_ok, zero4_ok, hf, .inl ⟨rfl, rfl⟩⟩
theorem th_id {f A n d w s u1 v1 S l : Fp} (hn : n = l * d) (hs : s = S * w) :
    (f * (n * n) * w - d * d * (A * w + s)) * d = (f * l * l - A - S) * (d * d * d * w) ∧
    n * (u1 * w * (d * d) - (f * (n * n) * w - d * d * (A * w + s))) - v1 * w * (d * d * d) = (l * (u1 - (f * l * l - A - S)) - v1) * (d * d * d * w) := by
  subst hn; subst hs
  constructor <;> grind
theorem third_conc (p : Cpt) (n d w s x y : L4) : thirdO concFOps p n d w s x y = ⟨p.f, mulR (subR (mulR (mulR p.f (mulR n n)) w) (mulR (mulR d d) (addR (mulR (smallR 486662) w) s))) d,
    subR (mulR n (subR (mulR x (mulR d d)) (subR (mulR (mulR p.f (mulR n n)) w) (mulR (mulR d d) (addR (mulR (smallR 486662) w) s))))) (mulR y (mulR (mulR d d) d)), mulR (mulR (mulR d d) d) w, false⟩ := by kernel_rfl
theorem RPt.mk3 {F X Y Z : L4} {u v : Fp} {Q : EP C.E} (of : ok4 F) (ox : ok4 X) (oy : ok4 Y) (oz : ok4 Z) (hf : rv F = f) (z0 : rv Z ≠ 0) (hQ : AffR C f AA u v Q) (hx : rv X = u * rv Z) (hy : rv Y = v * rv Z) : RPt C f ⟨F, X, Y, Z, false⟩ Q :=
  ⟨of, ox, oy, oz, hf, .inr ⟨rfl, z0, u, v, hQ, hx, hy⟩⟩
/-- the third point, turned over -/
theorem third_pt {p : Cpt} {n d w s x y : L4} {u1 v1 S l u3 v3 : Fp} {Q : EP C.E} (hp : ok4 p.f) (hpf : rv p.f = f) (on : ok4 n) (od : ok4 d) (ow : ok4 w) (os : ok4 s) (ox : ok4 x) (oy : ok4 y)
    (d0 : rv d ≠ 0) (w0 : rv w ≠ 0) (hl : rv n = l * rv d) (hS : rv s = S * rv w) (hx : rv x = u1 * rv w) (hy : rv y = v1 * rv w) (h3 : u3 = f * l * l - AA - S) (h4 : v3 = l * (u1 - u3) - v1) (hQ : AffR C f AA u3 v3 Q) :
    RPt C f (thirdO concFOps p n d w s x y) Q := by
  rw [third_conc]
  have nn := rmul_ok on on
  have dd := rmul_ok od od
  have t1 := rmul_ok (rmul_ok hp nn) ow
  have t2 := radd_ok (rmul_ok mid_ok ow) os
  have t3 := rmul_ok dd t2
  have t := rsub_ok t1 t3
  have ddd := rmul_ok dd od
  have m := rsub_ok (rmul_ok ox dd) t
  have y1 := rmul_ok on m
  have y2 := rmul_ok oy ddd
  obtain ⟨i1, i2⟩ := th_id (f := f) (A := AA) (u1 := u1) (v1 := v1) hl hS
  have hz : rv (mulR (mulR (mulR d d) d) w) = rv d * rv d * rv d * rv w := by rw [rv_mul ddd ow, rv_mul dd od, rv_mul od od]
  have ht : rv (subR (mulR (mulR p.f (mulR n n)) w) (mulR (mulR d d) (addR (mulR (smallR 486662) w) s))) = f * (rv n * rv n) * rv w - rv d * rv d * (AA * rv w + rv s) := by
    rw [rv_sub t1 t3, rv_mul (rmul_ok hp nn) ow, rv_mul hp nn, rv_mul on on, rv_mul dd t2, rv_mul od od, rv_add (rmul_ok mid_ok ow) os, rv_mul mid_ok ow, mid_rv, hpf]
  have eX : rv (mulR (subR (mulR (mulR p.f (mulR n n)) w) (mulR (mulR d d) (addR (mulR (smallR 486662) w) s))) d) = u3 * rv (mulR (mulR (mulR d d) d) w) := by
    rw [hz, rv_mul t od, ht, i1, h3]
  have eY : rv (subR (mulR n (subR (mulR x (mulR d d)) (subR (mulR (mulR p.f (mulR n n)) w) (mulR (mulR d d) (addR (mulR (smallR 486662) w) s))))) (mulR y (mulR (mulR d d) d))) = v3 * rv (mulR (mulR (mulR d d) d) w) := by
    rw [hz, rv_sub y1 y2, rv_mul on m, rv_sub (rmul_ok ox dd) t, ht, rv_mul ox dd, rv_mul od od, rv_mul oy ddd, rv_mul dd od, rv_mul od od, hx, hy, i2, h4, h3]
  have eZ : rv (mulR (mulR (mulR d d) d) w) ≠ 0 := by
    rw [hz]; exact fp_mul_ne (fp_mul_ne (fp_mul_ne d0 d0) d0) w0
  exact RPt.mk3 hp (rmul_ok t od) (rsub_ok y1 y2) (rmul_ok ddd ow) hpf eZ hQ eX eY
theorem double_conc (p : Cpt) : doubleO concFOps p = bif isZeroR p.y then goneC p.f else thirdO concFOps p (addR (addR (mulR (smallR 3) (mulR p.x p.x)) (mulR (mulR (mulR (smallR 2) (smallR 486662)) p.x) p.z)) (mulR p.z p.z)) (mulR (mulR (mulR (smallR 2) p.f) p.y) p.z) p.z (addR p.x p.x) p.x p.y := by kernel_rfl
theorem div_ex {n d : Fp} (h : d ≠ 0) : ∃ l, n = l * d := ⟨n * finv d, (mul_inv_mul h).symm⟩
theorem db_l {l f u v z : Fp} (hz : z ≠ 0) (h : 3 * (u * z * (u * z)) + 2 * AA * (u * z) * z + z * z = l * (2 * f * (v * z) * z)) : l * (2 * f * v) = 3 * u * u + 2 * AA * u + 1 := by
  refine fp_cancel (fp_mul_ne hz hz) ?_
  have e : z * z * (l * (2 * f * v)) = l * (2 * f * (v * z) * z) := by clear h; grind
  rw [e, ← h]
  generalize AA = A
  clear h e
  grind
theorem three_rv : rv (smallR 3) = 3 := (rv_small (by decide)).trans (by decide +kernel)
theorem two_rv : rv (smallR 2) = 2 := (rv_small (by decide)).trans (by decide +kernel)
theorem one_rv : rv (smallR 1) = 1 := (rv_small (by decide)).trans toF_one
theorem RPt.double (hF : FA C f AA) {p : Cpt} {Q : EP C.E} (h : RPt C f p Q) (hn : p.none = false) : RPt C f (doubleO concFOps p) (Q.add Q) := by
  obtain ⟨of, ox, oy, oz, hf, hp⟩ := h
  rcases hp with ⟨h1, -⟩ | ⟨-, z0, u, v, hA, hx, hy⟩
  · rw [hn] at h1; cases h1
  rw [double_conc, risZero_rv oy]
  by_cases hv : rv p.y = 0
  · rw [decide_eq_true hv, cond_true]
    rw [hy] at hv
    have hv0 : v = 0 := by
      rcases fp_mul_zero hv with h1 | h1
      · exact h1
      · exact absurd h1 z0
    subst hv0
    rw [hA.dbl0]
    exact gone_pt of hf
  · rw [decide_eq_false hv, cond_false]
    have hv0 : v ≠ 0 := by rintro rfl; exact hv (by rw [hy]; exact Fin.zero_mul _)
    have o3 : ok4 (smallR 3) := rsmall_ok (by decide)
    have o2 : ok4 (smallR 2) := rsmall_ok (by decide)
    have a1 := rmul_ok o3 (rmul_ok ox ox)
    have a2 := rmul_ok (rmul_ok (rmul_ok o2 mid_ok) ox) oz
    have a3 := rmul_ok oz oz
    have n1 := radd_ok (radd_ok a1 a2) a3
    have b1 := rmul_ok (rmul_ok o2 of) oy
    have d1 := rmul_ok b1 oz
    have hN : rv (addR (addR (mulR (smallR 3) (mulR p.x p.x)) (mulR (mulR (mulR (smallR 2) (smallR 486662)) p.x) p.z)) (mulR p.z p.z)) = 3 * (u * rv p.z * (u * rv p.z)) + 2 * AA * (u * rv p.z) * rv p.z + rv p.z * rv p.z := by
      rw [rv_add (radd_ok a1 a2) a3, rv_add a1 a2, rv_mul o3 (rmul_ok ox ox), rv_mul ox ox, rv_mul (rmul_ok (rmul_ok o2 mid_ok) ox) oz, rv_mul (rmul_ok o2 mid_ok) ox, rv_mul o2 mid_ok, rv_mul oz oz, three_rv, two_rv, mid_rv, hx]
    have hD : rv (mulR (mulR (mulR (smallR 2) p.f) p.y) p.z) = 2 * f * (v * rv p.z) * rv p.z := by
      rw [rv_mul b1 oz, rv_mul (rmul_ok o2 of) oy, rv_mul o2 of, two_rv, hf, hy]
    have hD0 : 2 * f * (v * rv p.z) * rv p.z ≠ 0 := fp_mul_ne (fp_mul_ne (fp_mul_ne fp_two_ne hF.f0) (fp_mul_ne hv0 z0)) z0
    obtain ⟨l, hl⟩ := div_ex (n := 3 * (u * rv p.z * (u * rv p.z)) + 2 * AA * (u * rv p.z) * rv p.z + rv p.z * rv p.z) hD0
    refine third_pt (u1 := u) (v1 := v) (S := u + u) (l := l) of hf n1 d1 oz (radd_ok ox ox) ox oy (by rw [hD]; exact hD0) z0 (by rw [hN, hD]; exact hl) ?_ hx hy rfl rfl ?_
    · rw [rv_add ox ox, hx]
      generalize rv p.z = z
      clear hl hD0 hD hN hy hx hA z0 hv hv0
      grind
    · refine hA.dbl hF hv0 (db_l z0 hl) ?_ rfl
      generalize f * l * l = k
      generalize AA = A
      clear hl hD0 hD hN hy hx hA z0 hv hv0
      grind
theorem plus_conc (p q : Cpt) : plusO concFOps p q = bif p.none then q else bif q.none then p else bif isZeroR (subR (mulR q.x p.z) (mulR p.x q.z)) then (bif isZeroR (subR (mulR q.y p.z) (mulR p.y q.z)) then doubleO concFOps p else goneC p.f) else
    thirdO concFOps p (subR (mulR q.y p.z) (mulR p.y q.z)) (subR (mulR q.x p.z) (mulR p.x q.z)) (mulR p.z q.z) (addR (mulR p.x q.z) (mulR q.x p.z)) (mulR p.x q.z) (mulR p.y q.z) := by kernel_rfl
theorem pl_d {u1 u2 z1 z2 : Fp} : u2 * z2 * z1 - u1 * z1 * z2 = (u2 - u1) * (z1 * z2) := by grind
theorem pl_s {u1 u2 z1 z2 : Fp} : u1 * z1 * z2 + u2 * z2 * z1 = (u1 + u2) * (z1 * z2) := by grind
theorem pl_x {u z1 z2 : Fp} : u * z1 * z2 = u * (z1 * z2) := by grind
theorem pl_l {l u1 u2 v1 v2 w : Fp} (hw : w ≠ 0) (h : (v2 - v1) * w = l * ((u2 - u1) * w)) : l * (u2 - u1) = v2 - v1 := by
  refine fp_cancel hw ?_
  rw [Fin.mul_comm w (v2 - v1), h]
  clear h hw
  grind
theorem sub_zero' {x y : Fp} (h : x - y = 0) : y = x := by grind
theorem RPt.plus (hF : FA C f AA) {p q : Cpt} {P Q : EP C.E} (hp : RPt C f p P) (hq : RPt C f q Q) : RPt C f (plusO concFOps p q) (P.add Q) := by
  rw [plus_conc]
  have hp' := hp
  obtain ⟨of, ox, oy, oz, hf, h1⟩ := hp
  rcases h1 with ⟨n1, hP⟩ | ⟨n1, z1, u1, v1, hA1, hx1, hy1⟩
  · rw [n1, cond_true, hP, EP.zero_add]; exact hq
  have hq' := hq
  obtain ⟨of2, ox2, oy2, oz2, hf2, h2⟩ := hq
  rcases h2 with ⟨n2, hQ⟩ | ⟨n2, z2, u2, v2, hA2, hx2, hy2⟩
  · rw [n1, n2, cond_false, cond_true, hQ, EP.add_zero]; exact hp'
  have a1 := rmul_ok ox2 oz
  have a2 := rmul_ok ox oz2
  have b1 := rmul_ok oy2 oz
  have b2 := rmul_ok oy oz2
  have hd : rv (subR (mulR q.x p.z) (mulR p.x q.z)) = (u2 - u1) * (rv p.z * rv q.z) := by rw [rv_sub a1 a2, rv_mul ox2 oz, rv_mul ox oz2, hx1, hx2, pl_d]
  have hn : rv (subR (mulR q.y p.z) (mulR p.y q.z)) = (v2 - v1) * (rv p.z * rv q.z) := by rw [rv_sub b1 b2, rv_mul oy2 oz, rv_mul oy oz2, hy1, hy2, pl_d]
  have w0 := fp_mul_ne z1 z2
  have hw : rv (mulR p.z q.z) = rv p.z * rv q.z := rv_mul oz oz2
  have zero_of : ∀ {a b : Fp}, (b - a) * (rv p.z * rv q.z) = 0 → a = b := by
    intro a b h
    rcases fp_mul_zero h with h3 | h3
    · exact sub_zero' h3
    · exact absurd h3 w0
  rw [n1, n2, cond_false, cond_false, risZero_rv (rsub_ok a1 a2), risZero_rv (rsub_ok b1 b2), hd, hn]
  by_cases h0 : (u2 - u1) * (rv p.z * rv q.z) = 0
  · rw [decide_eq_true h0, cond_true]
    have hu := zero_of h0
    subst hu
    by_cases h3 : (v2 - v1) * (rv p.z * rv q.z) = 0
    · rw [decide_eq_true h3, cond_true]
      have hv := zero_of h3
      subst hv
      have := hA1.uniq hA2
      subst this
      exact hp'.double hF n1
    · rw [decide_eq_false h3, cond_false]
      rw [hA1.opp hF hA2 (fun h => h3 (by rw [h]; generalize rv p.z * rv q.z = w; clear h h3 hA1 hA2; grind))]
      exact gone_pt of hf
  · rw [decide_eq_false h0, cond_false]
    obtain ⟨l, hl⟩ := div_ex (n := (v2 - v1) * (rv p.z * rv q.z)) h0
    refine third_pt (u1 := u1) (v1 := v1) (S := u1 + u2) (l := l) of hf (rsub_ok b1 b2) (rsub_ok a1 a2) (rmul_ok oz oz2) (radd_ok a2 a1) a2 b2 (by rw [hd]; exact h0) (by rw [hw]; exact w0) (by rw [hn, hd]; exact hl) ?_ ?_ ?_ rfl rfl ?_
    · rw [rv_add a2 a1, rv_mul ox oz2, rv_mul ox2 oz, hx1, hx2, hw, pl_s]
    · rw [rv_mul ox oz2, hx1, hw, pl_x]
    · rw [rv_mul oy oz2, hy1, hw, pl_x]
    · refine hA1.add hF hA2 (fun h => h0 (by rw [h]; generalize rv p.z * rv q.z = w; clear h hl h0 hA1 hA2; grind)) (pl_l w0 hl) ?_ rfl
      generalize f * l * l = k
      generalize AA = A
      clear hl h0 hA1 hA2 zero_of w0 hd hn
      grind
end Go.Proofs.Ytfajgpjpabeafaa

