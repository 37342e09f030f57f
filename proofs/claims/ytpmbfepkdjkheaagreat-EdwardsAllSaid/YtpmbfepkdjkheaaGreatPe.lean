/- The points of layer 19, of the program and of the document, by value (2). -/
import Derived.Test.YtpmbfepkdjkheaaGreatPd
namespace Go.Proofs.YtpmbfepkdjkheaaGreat
open Go Pw Go.RowKit

/-! ### bytes -/
theorem hi_split (k : K32) (c : Nat) : leVal { k with b31 := c } + 452312848583266388373324160190187140051835877600158453279131187530910662656 * k.b31 = leVal k + 452312848583266388373324160190187140051835877600158453279131187530910662656 * c := by
  simp only [leVal, leL, K32.toList]
  omega
theorem hi_app (k : K32) : k.toList = k.toList.take 31 ++ [k.b31] := rfl
theorem hi_take (k : K32) (c : Nat) : K32.toList { k with b31 := c } = k.toList.take 31 ++ [c] := rfl
theorem hi_low {k : K32} (hk : k.wf) : ∃ r, leVal k = r + 452312848583266388373324160190187140051835877600158453279131187530910662656 * k.b31 ∧ r < 452312848583266388373324160190187140051835877600158453279131187530910662656 := by
  have hl : (k.toList.take 31).length = 31 := rfl
  have h1 := leB_lt (l := k.toList.take 31) fun c hc => hk c (List.mem_of_mem_take hc)
  rw [hl, show (256 : Nat) ^ 31 = 452312848583266388373324160190187140051835877600158453279131187530910662656 by decide +kernel] at h1
  refine ⟨_, ?_, h1⟩
  rw [← leB_key, hi_app k, leB_app, leB, leB, ← hi_app k, hl, show (256 : Nat) ^ 31 = 452312848583266388373324160190187140051835877600158453279131187530910662656 by decide +kernel, Nat.mul_zero, Nat.add_zero]
theorem hi_wf {k : K32} (hk : k.wf) {c : Nat} (hc : c < 256) : K32.wf { k with b31 := c } := by
  intro b hb
  rw [hi_take] at hb
  rcases List.mem_append.1 hb with h | h
  · exact hk b (List.mem_of_mem_take h)
  · simp only [List.mem_cons, List.not_mem_nil, or_false] at h
    omega
theorem b31_lt {k : K32} (hk : k.wf) : k.b31 < 256 := hk k.b31 (by simp [K32.toList])
theorem mask_val {k : K32} (hk : k.wf) : (mask2 k).wf ∧ leVal (mask2 k) = leVal k % B255 := by
  obtain ⟨r, h1, h2⟩ := hi_low hk
  have h3 := hi_split k (k.b31 % 128)
  have h4 := b31_lt hk
  refine ⟨hi_wf hk (by omega), ?_⟩
  show leVal { k with b31 := k.b31 % 128 } = _
  unfold B255
  omega
theorem mask_eq {k : K32} : maskK k = mask2 k := by
  unfold maskK mask2
  rw [show (127 : Nat) = 2 ^ 7 - 1 from rfl, Nat.and_two_pow_sub_one_eq_mod]
theorem hi_val {k : K32} (hk : k.wf) : hiK k = decide (leVal k / B255 = 1) ∧ hi2 k = decide (leVal k / B255 = 1) := by
  obtain ⟨r, h1, h2⟩ := hi_low hk
  have h4 := b31_lt hk
  have e : leVal k / B255 = k.b31 / 128 := by
    unfold B255
    omega
  unfold hiK hi2
  rw [e]
  exact ⟨decide_eq_decide.2 (by omega), decide_eq_decide.2 (by omega)⟩
theorem or128 : ∀ b, b < 128 → b ||| 128 = b + 128 := by decide +kernel
theorem set_val {k : K32} (hk : k.wf) (hl : leVal k < B255) : (setHi k).wf ∧ leVal (setHi k) = leVal k + B255 ∧ setHi2 k = setHi k := by
  obtain ⟨r, h1, h2⟩ := hi_low hk
  have h4 : k.b31 < 128 := by
    unfold B255 at hl
    omega
  have e1 : setHi k = { k with b31 := k.b31 + 128 } := by unfold setHi; rw [or128 _ h4]
  have e2 : setHi2 k = { k with b31 := k.b31 + 128 } := by unfold setHi2; rw [Nat.mod_eq_of_lt (by omega)]
  have h3 := hi_split k (k.b31 + 128)
  refine ⟨by rw [e1]; exact hi_wf hk (by omega), ?_, by rw [e1, e2]⟩
  rw [e1]
  unfold B255
  omega

/-! ### the program's points -/
theorem toF_2 : toF 2 = 2 := toF_two
structure PR (r : Rungs) (P : EPt) : Prop where
  a : ok5 r.a
  b : ok5 r.b
  c : ok5 r.c
  d : ok5 r.d
  p : Px (fv r.a) (fv r.b) (fv r.c) (fv r.d) P
theorem PR.na {r : Rungs} {P : EPt} (h : PR r P) : NV r.a (fv r.a) := ⟨h.a, rfl⟩
theorem PR.nb {r : Rungs} {P : EPt} (h : PR r P) : NV r.b (fv r.b) := ⟨h.b, rfl⟩
theorem PR.nc {r : Rungs} {P : EPt} (h : PR r P) : NV r.c (fv r.c) := ⟨h.c, rfl⟩
theorem PR.nd {r : Rungs} {P : EPt} (h : PR r P) : NV r.d (fv r.d) := ⟨h.d, rfl⟩
theorem PR.of {r : Rungs} {P : EPt} {X Y Z T : Fp} (a : NV r.a X) (b : NV r.b Y) (c : NV r.c Z) (d : NV r.d T) (h : Px X Y Z T P) : PR r P := ⟨a.1, b.1, c.1, d.1, by rw [a.2, b.2, c.2, d.2]; exact h⟩
/-- a point, or the empty one for the neutral one -/
def PO (r : Rungs) (P : EPt) : Prop := PR r P ∨ (r = zeroP ∧ P = EP.zero ED)
variable {o : FOps}
theorem FGood.one (G : FGood o) : NV (o.small 1) 1 := by
  have := G.small (n := 1) (by decide)
  rwa [toF_one] at this
theorem FGood.rone (G : FGood o) : RV (o.rsmall 1) 1 := by
  have := G.rsmall (n := 1) (by decide)
  rwa [toF_one] at this
theorem FGood.pt (G : FGood o) {x y : L5} (P : EPt) (hx : NV x P.x) (hy : NV y P.y) : PR (ptO o x y) P := PR.of (r := ptO o x y) hx hy G.one (G.mul hx hy) (Px.affine P)
theorem FGood.here (G : FGood o) {r : Rungs} {P : EPt} (h : PO r P) : PR (hereO o r) P := by
  unfold hereO
  rcases h with h | ⟨h1, h2⟩
  · rw [G.isZero h.nc, decide_eq_false h.p.r.ne, cond_false]; exact h
  · subst h1 h2
    rw [show zeroP.c = zero5 from rfl, G.isZero NV.zero, decide_eq_true rfl, cond_true]
    exact PR.of (r := ptO o zero5 (o.small 1)) NV.zero G.one G.one (G.mul NV.zero G.one) Px.zero
theorem PR.po {r : Rungs} {P : EPt} (h : PR r P) : PO r P := .inl h
theorem PO.zero : PO zeroP (EP.zero ED) := .inr ⟨rfl, rfl⟩
theorem smA_eq (o : FOps) (p q : Rungs) : smA o p q = o.mul (o.sub p.b p.a) (o.sub q.b q.a) := rfl
theorem FGood.sum (G : FGood o) {p q : Rungs} {P Q : EPt} {w : L5} (h1 : PR p P) (h2 : PR q Q) (hw : NV w (DF * 2)) : PR (sumO o p q w) (P.add Q) := by
  have hA : NV (smA o p q) _ := G.mul (G.sub h1.nb h1.na) (G.sub h2.nb h2.na)
  have hB : NV (smB o p q) _ := G.mul (G.add h1.nb h1.na) (G.add h2.nb h2.na)
  have hC : NV (smC o p q w) _ := G.mul (G.mul h1.nd h2.nd) hw
  have hE : NV (smE o p q) _ := G.times (n := 2) (G.mul h1.nc h2.nc) (by decide)
  rw [toF_2] at hE
  exact PR.of (r := sumO o p q w) (G.mul (G.sub hB hA) (G.sub hE hC)) (G.mul (G.add hE hC) (G.add hB hA)) (G.mul (G.sub hE hC) (G.add hE hC)) (G.mul (G.sub hB hA) (G.add hB hA)) (Px.add h1.p h2.p rfl rfl rfl rfl)
theorem FGood.tw (G : FGood o) {p : Rungs} {P : EPt} (h : PR p P) : PR (twO o p) (P.add P) := by
  have hA := G.sq h.na
  have hB := G.sq h.nb
  have hS : NV (twA o p) _ := G.add hA hB
  have hE : NV (twE o p) _ := G.sub (G.sq (G.add h.na h.nb)) hS
  have hG : NV (twG o p) _ := G.sub hB hA
  have hC : NV (o.times (o.sq p.c) 2) _ := G.times (n := 2) (G.sq h.nc) (by decide)
  rw [toF_2] at hC
  have hF : NV (twF o p) _ := G.sub hG hC
  exact PR.of (r := twO o p) (G.mul hE hF) (G.mul hG (G.neg hS)) (G.mul hF hG) (G.mul hE (G.neg hS)) (Px.dbl h.p rfl rfl rfl rfl rfl)
theorem dKey_wf : dKey.wf := fun b hb => of_decide_eq_true (List.all_eq_true.1 (show List.all dKey.toList (fun b => decide (b < 256)) = true by decide +kernel) b hb)
theorem dKey_val : toF (leVal dKey % B255) = DF := by decide +kernel
theorem FGood.d (G : FGood o) : NV (dO o) DF := by
  have := G.frm dKey_wf
  rwa [dKey_val] at this
theorem FGood.rd (G : FGood o) : RV (dR o) DF := by
  have := G.rfrm dKey_wf
  rwa [dKey_val] at this
theorem FGood.d2 (G : FGood o) : NV (d2O o) (DF * 2) := by
  have := G.times (n := 2) G.d (by decide)
  rwa [toF_2] at this
theorem FGood.add_pt (G : FGood o) {p q : Rungs} {P Q : EPt} (h1 : PO p P) (h2 : PO q Q) : PR (addO o p q) (P.add Q) := G.sum (G.here h1) (G.here h2) G.d2
theorem FGood.neg_pt (G : FGood o) {p : Rungs} {P : EPt} (h : PO p P) : PR (negO o p) P.neg := by
  have h1 := G.here h
  exact PR.of (r := negO o p) (G.neg h1.na) h1.nb h1.nc (G.neg h1.nd) h1.p.neg
theorem FGood.dbl_pt (G : FGood o) {p : Rungs} {P : EPt} (h : PO p P) : PR (dblO o p) (P.add P) := G.tw (G.here h)
theorem FGood.pl (G : FGood o) {p : Rungs} {P : EPt} (h : PO p P) : NV (plX o p) P.x ∧ NV (plY o p) P.y := by
  have h1 := G.here h
  have hi : NV (plZ o p) _ := G.inv h1.nc
  have hx : NV (plX o p) _ := G.mul h1.na hi
  have hy : NV (plY o p) _ := G.mul h1.nb hi
  rw [h1.p.r.x_inv] at hx
  rw [h1.p.r.y_inv] at hy
  exact ⟨hx, hy⟩
theorem PP_lt255 : PP < B255 := by decide
theorem FGood.bytes_pt (G : FGood o) {p : Rungs} {P : EPt} (h : PO p P) : EncK (bytO o p) P := by
  obtain ⟨hx, hy⟩ := G.pl h
  obtain ⟨w, e⟩ := G.bytes hy
  have hl : leVal (o.bytes (plY o p)) < B255 := by
    rw [e]
    exact Nat.lt_trans (fp_lt _) PP_lt255
  obtain ⟨s1, s2, -⟩ := set_val w hl
  unfold bytO
  rw [G.odd hx]
  by_cases ho : P.x.val % 2 = 1
  · rw [decide_eq_true ho, cond_true]
    exact ⟨s1, by rw [s2, e, ho, Nat.mul_one]⟩
  · rw [decide_eq_false ho, cond_false]
    exact ⟨w, by rw [e, show P.x.val % 2 = 0 by omega, Nat.mul_zero, Nat.add_zero]⟩
/-- the number of layer 2 -/
def uP (P : EPt) : Fp := (1 + P.y) * finv (1 - P.y)
theorem FGood.u_pt (G : FGood o) {p : Rungs} {P : EPt} (h : PO p P) : (uO o p).wf ∧ leVal (uO o p) = (uP P).val := by
  obtain ⟨hx, hy⟩ := G.pl h
  exact G.bytes (G.mul (G.add G.one hy) (G.inv (G.sub G.one hy)))
theorem fp_mul_cancel {a b z w : Fp} (hz : z ≠ 0) (hw : w ≠ 0) : (a * z * w = b * w * z) ↔ a = b := by
  constructor
  · intro h
    refine fp_cancel (fp_mul_ne hz hw) ?_
    grind
  · intro h
    subst h
    grind
theorem pt_eq_iff {P Q : EPt} : P = Q ↔ P.x = Q.x ∧ P.y = Q.y := ⟨fun h => by subst h; exact ⟨rfl, rfl⟩, fun h => EP.ext' h.1 h.2⟩
theorem and_dec (p q : Prop) [Decidable p] [Decidable q] : (decide p && decide q) = decide (p ∧ q) := by by_cases hp : p <;> by_cases hq : q <;> simp [hp, hq]
instance (P Q : EPt) : Decidable (P = Q) := decidable_of_iff (P.x = Q.x ∧ P.y = Q.y) pt_eq_iff.symm
theorem FGood.equal_pt (G : FGood o) {p q : Rungs} {P Q : EPt} (h1 : PO p P) (h2 : PO q Q) : (eqX o p q && eqY o p q) = decide (P = Q) := by
  have a := G.here h1
  have b := G.here h2
  have ex : eqX o p q = decide (P.x = Q.x) := by
    have := G.equal (G.mul a.na b.nc) (G.mul b.na a.nc)
    unfold eqX
    rw [this, a.p.r.x, b.p.r.x]
    exact decide_eq_decide.2 (fp_mul_cancel a.p.r.ne b.p.r.ne)
  have ey : eqY o p q = decide (P.y = Q.y) := by
    have := G.equal (G.mul a.nb b.nc) (G.mul b.nb a.nc)
    unfold eqY
    rw [this, a.p.r.y, b.p.r.y]
    exact decide_eq_decide.2 (fp_mul_cancel a.p.r.ne b.p.r.ne)
  rw [ex, ey, and_dec]
  exact decide_eq_decide.2 pt_eq_iff.symm
theorem FGood.isn_pt (G : FGood o) {p : Rungs} {P : EPt} (h : PO p P) : isnO o p = decide (P = EP.zero ED) := G.equal_pt h PO.zero
def eightP (P : EPt) : EPt := ((P.add P).add (P.add P)).add ((P.add P).add (P.add P))
theorem FGood.small_pt (G : FGood o) {p : Rungs} {P : EPt} (h : PO p P) : isnO o (dblO o (dblO o (dblO o p))) = decide (eightP P = EP.zero ED) := G.isn_pt (G.dbl_pt (G.dbl_pt (G.dbl_pt h).po).po).po

/-! ### a point of a y -/
theorem FGood.xw (G : FGood o) {y : L5} {v : Fp} (hy : NV y v) : NV (xwO o y) (xxOf v) := G.mul (G.sub (G.sq hy) G.one) (G.inv (G.add (G.mul G.d (G.sq hy)) G.one))
theorem bif_eq_comm (a b : Bool) : (a == b) = decide (a = b) := by cases a <;> cases b <;> rfl
theorem par_nv {x nx : Fp} {odd : Bool} : (bif decide (x.val % 2 = 1) == odd then x else nx) = if decide (x.val % 2 = 1) = odd then x else nx := by
  rw [bif_eq_comm]
  by_cases h : decide (x.val % 2 = 1) = odd
  · rw [decide_eq_true h, if_pos h, cond_true]
  · rw [decide_eq_false h, if_neg h, cond_false]
theorem FGood.found (G : FGood o) {y : L5} {v : Fp} (hy : NV y v) (odd : Bool) :
    (∃ P, IsPt v odd P ∧ foundB o y odd = true ∧ PR (foundV o y odd) P) ∨ ((∀ P, ¬ IsPt v odd P) ∧ foundB o y odd = false ∧ foundV o y odd = zeroP) := by
  have hw := G.xw hy
  obtain ⟨hr, hb⟩ := G.root hw
  have eb : foundB o y odd = (hasRoot (xxOf v) && !(odd && decide (rootF (xxOf v) = 0))) := by
    unfold foundB okO rtO
    rw [hb, G.isZero hr]
  by_cases hs : isSq (xxOf v)
  · by_cases hn : rootF (xxOf v) = 0 ∧ odd = true
    · refine .inr ⟨?_, ?_, ?_⟩
      · rw [hn.2]; exact found_zero hs hn.1
      · rw [eb, hn.2, decide_eq_true hn.1]; simp
      · unfold foundV
        rw [eb, hn.2, decide_eq_true hn.1]
        simp
    · have e2 : foundB o y odd = true := by
        rw [eb, (hasRoot_iff _).2 hs]
        by_cases h0 : rootF (xxOf v) = 0
        · have : odd = false := by
            cases odd
            · rfl
            · exact absurd ⟨h0, rfl⟩ hn
          rw [this]; rfl
        · rw [decide_eq_false h0]; simp
      obtain ⟨P, hP, hPx, hPy⟩ := found_some hs hn
      refine .inl ⟨P, hP, e2, ?_⟩
      unfold foundV
      rw [e2, cond_true]
      have hx : NV (bif o.odd (rtO o y) == odd then rtO o y else o.neg (rtO o y)) (parF (rootF (xxOf v)) odd) := by
        have e3 : o.odd (rtO o y) = decide ((rootF (xxOf v)).val % 2 = 1) := G.odd hr
        rw [e3, bif_eq_comm]
        unfold parF
        by_cases h : decide ((rootF (xxOf v)).val % 2 = 1) = odd
        · rw [decide_eq_true h, if_pos h, cond_true]; exact hr
        · rw [decide_eq_false h, if_neg h, cond_false]; exact G.neg hr
      rw [← hPx] at hx
      exact G.pt P hx (by rw [hPy]; exact hy)
  · have e2 : foundB o y odd = false := by
      rw [eb, Bool.eq_false_iff.2 (fun h => hs ((hasRoot_iff _).1 h))]; rfl
    refine .inr ⟨fun P => found_none hs P, e2, ?_⟩
    unfold foundV
    rw [e2]; rfl
theorem FGood.parse (G : FGood o) {k : K32} (hk : k.wf) :
    (∃ P, EncK k P ∧ parseB o k = true ∧ PR (parseV o k) P) ∨ ((∀ P, ¬ EncK k P) ∧ parseB o k = false ∧ parseV o k = zeroP) := by
  obtain ⟨mw, mv⟩ := mask_val hk
  have hy : NV (pyO o k) (toF (leVal k % B255)) := by
    have := G.frm mw
    rw [mv, Nat.mod_mod, ← mask_eq] at this
    exact this
  obtain ⟨bw, bv⟩ := G.bytes hy
  have ek : keyEq (o.bytes (pyO o k)) (maskK k) = decide (leVal k % B255 < PP) := by
    rw [mask_eq, key_eq_iff bw mw, bv, mv, toF_val]
    refine decide_eq_decide.2 ⟨fun h => ?_, fun h => Nat.mod_eq_of_lt h⟩
    rw [← h]; exact Nat.mod_lt _ PP_pos
  have eh := (hi_val hk).1
  by_cases hl : leVal k % B255 < PP
  · rcases G.found hy (hiK k) with ⟨P, h1, h2, h3⟩ | ⟨h1, h2, h3⟩
    · rw [eh] at h1
      have e : parseB o k = true := by unfold parseB; rw [ek, decide_eq_true hl, h2]; rfl
      refine .inl ⟨P, EncK.of_point hk h1 hl, e, ?_⟩
      unfold parseV
      rw [e]; exact h3
    · have e : parseB o k = false := by unfold parseB; rw [h2, Bool.and_false]
      refine .inr ⟨fun P hP => h1 P (by rw [eh]; exact hP.point), e, ?_⟩
      unfold parseV
      rw [e]; rfl
  · have e : parseB o k = false := by unfold parseB; rw [ek, decide_eq_false hl]; rfl
    refine .inr ⟨fun P hP => hl hP.y_lt, e, ?_⟩
    unfold parseV
    rw [e]; rfl
/-- what Lift looks for -/
structure LiftK (k : K32) (odd : Bool) (P : EPt) : Prop where
  ne : toF (leVal k % B255) + 1 ≠ 0
  pt : IsPt ((toF (leVal k % B255) - 1) * finv (toF (leVal k % B255) + 1)) odd P
theorem FGood.lift (G : FGood o) {k : K32} (hk : k.wf) (odd : Bool) :
    (∃ P, LiftK k odd P ∧ liftB o k odd = true ∧ PR (liftV o k odd) P) ∨ ((∀ P, ¬ LiftK k odd P) ∧ liftB o k odd = false ∧ liftV o k odd = zeroP) := by
  have hx := G.frm hk
  have hw : NV (lwO o k) _ := G.add hx G.one
  have hy : NV (lyO o k) _ := G.mul (G.sub hx G.one) (G.inv hw)
  have ez := G.isZero hw
  by_cases h0 : toF (leVal k % B255) + 1 = 0
  · have e : liftB o k odd = false := by unfold liftB; rw [ez, decide_eq_true h0]; rfl
    refine .inr ⟨fun P hP => hP.ne h0, e, ?_⟩
    unfold liftV
    rw [e]; rfl
  · rcases G.found hy odd with ⟨P, h1, h2, h3⟩ | ⟨h1, h2, h3⟩
    · have e : liftB o k odd = true := by unfold liftB; rw [ez, decide_eq_false h0, h2]; rfl
      refine .inl ⟨P, ⟨h0, h1⟩, e, ?_⟩
      unfold liftV
      rw [e]; exact h3
    · have e : liftB o k odd = false := by unfold liftB; rw [h2, Bool.and_false]
      refine .inr ⟨fun P hP => h1 P hP.pt, e, ?_⟩
      unfold liftV
      rw [e]; rfl
end Go.Proofs.YtpmbfepkdjkheaaGreat

