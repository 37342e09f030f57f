/- The points of layer 19, of the program and of the document, by value (3): the document's, and multiples. -/
import Derived.Test.YtpmbfepkdjkheaaGreatPe
namespace Go.Proofs.YtpmbfepkdjkheaaGreat
open Go Pw Go.RowKit
variable {o : FOps}
structure RR (r : Pt3) (P : EPt) : Prop where
  a : ok4 r.a
  b : ok4 r.b
  c : ok4 r.c
  p : Rx (rv r.a) (rv r.b) (rv r.c) P
theorem RR.na {r : Pt3} {P : EPt} (h : RR r P) : RV r.a (rv r.a) := ⟨h.a, rfl⟩
theorem RR.nb {r : Pt3} {P : EPt} (h : RR r P) : RV r.b (rv r.b) := ⟨h.b, rfl⟩
theorem RR.nc {r : Pt3} {P : EPt} (h : RR r P) : RV r.c (rv r.c) := ⟨h.c, rfl⟩
theorem RR.of {r : Pt3} {P : EPt} {X Y Z : Fp} (a : RV r.a X) (b : RV r.b Y) (c : RV r.c Z) (h : Rx X Y Z P) : RR r P := ⟨a.1, b.1, c.1, by rw [a.2, b.2, c.2]; exact h⟩
theorem FGood.rneu (G : FGood o) : RR (neuR o) (EP.zero ED) := RR.of (r := neuR o) RV.zero G.rone G.rone Rx.zero
theorem FGood.rpt (G : FGood o) {x y : L4} (P : EPt) (hx : RV x P.x) (hy : RV y P.y) : RR ⟨x, y, o.rsmall 1⟩ P := RR.of (r := ⟨x, y, o.rsmall 1⟩) hx hy G.rone (Rx.affine P)
theorem FGood.radd_pt (G : FGood o) {p q : Pt3} {P Q : EPt} {d : L4} (h1 : RR p P) (h2 : RR q Q) (hd : RV d DF) : RR (raddO o p q d) (P.add Q) := by
  have hA : RV (raA o p q) _ := G.rmul h1.nc h2.nc
  have hC : RV (raC o p q) _ := G.rmul h1.na h2.na
  have hD : RV (raD o p q) _ := G.rmul h1.nb h2.nb
  have hE : RV (raE o p q d) _ := G.rmul (G.rmul hd hC) hD
  have hF : RV (raF o p q d) _ := G.rsub (G.rsq hA) hE
  have hG : RV (raG o p q d) _ := G.radd (G.rsq hA) hE
  have hX : RV (raX o p q) _ := G.radd (G.rmul h1.na h2.nb) (G.rmul h1.nb h2.na)
  exact RR.of (r := raddO o p q d) (G.rmul (G.rmul hA hF) hX) (G.rmul (G.rmul hA hG) (G.radd hD hC)) (G.rmul hF hG) (Rx.add h1.p h2.p)
theorem FGood.rtw_pt (G : FGood o) {p : Pt3} {P : EPt} (h : RR p P) : RR (rwO o p) (P.add P) := by
  have hF : RV (rwF o p) _ := G.rsub (G.rsq h.nb) (G.rsq h.na)
  have hG : RV (rwG o p) _ := G.rsub (G.radd (G.rsq h.nc) (G.rsq h.nc)) hF
  have hB := G.rmul h.na h.nb
  exact RR.of (r := rwO o p) (G.rmul (G.radd hB hB) hG) (G.rmul (G.radd (G.rsq h.nb) (G.rsq h.na)) hF) (G.rmul hF hG) (Rx.dbl h.p)
theorem FGood.rneg_pt (G : FGood o) {p : Pt3} {P : EPt} (h : RR p P) : RR (rnegO o p) P.neg := RR.of (r := rnegO o p) (G.rneg h.na) h.nb h.nc h.p.neg
theorem FGood.rdbl_pt (G : FGood o) {p : Pt3} {P : EPt} (h : RR p P) : RR (rdblO o p) (P.add P) := G.radd_pt h h G.rd
theorem FGood.rpl (G : FGood o) {p : Pt3} {P : EPt} (h : RR p P) : RV (rplX o p) P.x ∧ RV (rplY o p) P.y := by
  have hi := G.rinv h.nc
  have hx : RV (rplX o p) _ := G.rmul h.na hi
  have hy : RV (rplY o p) _ := G.rmul h.nb hi
  rw [h.p.x_inv] at hx
  rw [h.p.y_inv] at hy
  exact ⟨hx, hy⟩
theorem FGood.rbytes_pt (G : FGood o) {p : Pt3} {P : EPt} (h : RR p P) : EncK (rbytO o p) P := by
  obtain ⟨hx, hy⟩ := G.rpl h
  obtain ⟨w, e⟩ := G.rbytes hy
  have hl : leVal (o.rbytes (rplY o p)) < B255 := by
    rw [e]
    exact Nat.lt_trans (fp_lt _) PP_lt255
  obtain ⟨s1, s2, s3⟩ := set_val w hl
  unfold rbytO
  rw [G.rodd hx, s3]
  by_cases ho : P.x.val % 2 = 1
  · rw [decide_eq_true ho, cond_true]
    exact ⟨s1, by rw [s2, e, ho, Nat.mul_one]⟩
  · rw [decide_eq_false ho, cond_false]
    exact ⟨w, by rw [e, show P.x.val % 2 = 0 by omega, Nat.mul_zero, Nat.add_zero]⟩
theorem FGood.requal_pt (G : FGood o) {p q : Pt3} {P Q : EPt} (a : RR p P) (b : RR q Q) : (reqX o p q && reqY o p q) = decide (P = Q) := by
  have ex : reqX o p q = decide (P.x = Q.x) := by
    have := G.requal (G.rmul a.na b.nc) (G.rmul b.na a.nc)
    unfold reqX
    rw [this, a.p.x, b.p.x]
    exact decide_eq_decide.2 (fp_mul_cancel a.p.ne b.p.ne)
  have ey : reqY o p q = decide (P.y = Q.y) := by
    have := G.requal (G.rmul a.nb b.nc) (G.rmul b.nb a.nc)
    unfold reqY
    rw [this, a.p.y, b.p.y]
    exact decide_eq_decide.2 (fp_mul_cancel a.p.ne b.p.ne)
  rw [ex, ey, and_dec]
  exact decide_eq_decide.2 pt_eq_iff.symm
theorem FGood.risn_pt (G : FGood o) {p : Pt3} {P : EPt} (h : RR p P) : risnO o p = decide (P = EP.zero ED) := G.requal_pt h G.rneu
theorem FGood.rsmall_pt (G : FGood o) {p : Pt3} {P : EPt} (h : RR p P) : risnO o (rdblO o (rdblO o (rdblO o p))) = decide (eightP P = EP.zero ED) := G.risn_pt (G.rdbl_pt (G.rdbl_pt (G.rdbl_pt h)))
theorem FGood.rxw (G : FGood o) {y : L4} {v : Fp} (hy : RV y v) : RV (xwR o y) (xxOf v) := G.rmul (G.rsub (G.rsq hy) G.rone) (G.rinv (G.radd (G.rmul G.rd (G.rsq hy)) G.rone))
theorem FGood.onx (G : FGood o) {y : L4} {v : Fp} (hy : RV y v) (odd : Bool) :
    (∃ P, IsPt v odd P ∧ onB o y odd = true ∧ RV (onV o y odd) P.x) ∨ ((∀ P, ¬ IsPt v odd P) ∧ onB o y odd = false) := by
  have hw := G.rxw hy
  obtain ⟨hr, hb⟩ := G.rroot hw
  have eb : onB o y odd = (hasRoot (xxOf v) && !(odd && decide (rootF (xxOf v) = 0))) := by
    unfold onB okR rtR
    rw [hb, G.risZero hr]
  by_cases hs : isSq (xxOf v)
  · by_cases hn : rootF (xxOf v) = 0 ∧ odd = true
    · refine .inr ⟨?_, ?_⟩
      · rw [hn.2]; exact found_zero hs hn.1
      · rw [eb, hn.2, decide_eq_true hn.1]; simp
    · have e2 : onB o y odd = true := by
        rw [eb, (hasRoot_iff _).2 hs]
        by_cases h0 : rootF (xxOf v) = 0
        · have : odd = false := by
            cases odd
            · rfl
            · exact absurd ⟨h0, rfl⟩ hn
          rw [this]; rfl
        · rw [decide_eq_false h0]; simp
      obtain ⟨P, hP, hPx, hPy⟩ := found_some hs hn
      refine .inl ⟨P, hP, e2, ?_⟩
      unfold onV
      rw [e2, cond_true, hPx]
      have e3 : o.rodd (rtR o y) = decide ((rootF (xxOf v)).val % 2 = 1) := G.rodd hr
      rw [e3, bif_eq_comm]
      unfold parF
      by_cases h : decide ((rootF (xxOf v)).val % 2 = 1) = odd
      · rw [decide_eq_true h, if_pos h, cond_true]; exact hr
      · rw [decide_eq_false h, if_neg h, cond_false]; exact G.rneg hr
  · have e2 : onB o y odd = false := by
      rw [eb, Bool.eq_false_iff.2 (fun h => hs ((hasRoot_iff _).1 h))]; rfl
    exact .inr ⟨fun P => found_none hs P, e2⟩
theorem FGood.rparse (G : FGood o) {k : K32} (hk : k.wf) :
    (∃ P, EncK k P ∧ rparseB o k = true ∧ RR (rparseV o k) P) ∨ ((∀ P, ¬ EncK k P) ∧ rparseB o k = false ∧ RR (rparseV o k) (EP.zero ED)) := by
  obtain ⟨mw, mv⟩ := mask_val hk
  have hy : RV (pyR o k) (toF (leVal k % B255)) := by
    have := G.rfrm mw
    rw [mv, Nat.mod_mod] at this
    exact this
  obtain ⟨bw, bv⟩ := G.rbytes hy
  have ek : keyEq (o.rbytes (pyR o k)) (mask2 k) = decide (leVal k % B255 < PP) := by
    rw [key_eq_iff bw mw, bv, mv, toF_val]
    refine decide_eq_decide.2 ⟨fun h => ?_, fun h => Nat.mod_eq_of_lt h⟩
    rw [← h]; exact Nat.mod_lt _ PP_pos
  have eh := (hi_val hk).2
  have none_case : ∀ e : rparseB o k = false, RR (rparseV o k) (EP.zero ED) := fun e => by
    unfold rparseV
    rw [e]; exact G.rneu
  by_cases hl : leVal k % B255 < PP
  · rcases G.onx hy (hi2 k) with ⟨P, h1, h2, h3⟩ | ⟨h1, h2⟩
    · have h1' := h1
      rw [eh] at h1
      have e : rparseB o k = true := by unfold rparseB; rw [ek, decide_eq_true hl, h2]; rfl
      refine .inl ⟨P, EncK.of_point hk h1 hl, e, ?_⟩
      unfold rparseV
      rw [e]
      exact G.rpt P h3 (by rw [h1'.y]; exact hy)
    · have e : rparseB o k = false := by unfold rparseB; rw [h2, Bool.and_false]
      exact .inr ⟨fun P hP => h1 P (by rw [eh]; exact hP.point), e, none_case e⟩
  · have e : rparseB o k = false := by unfold rparseB; rw [ek, decide_eq_false hl]; rfl
    exact .inr ⟨fun P hP => hl hP.y_lt, e, none_case e⟩
theorem FGood.rlift (G : FGood o) {k : K32} (hk : k.wf) (odd : Bool) :
    (∃ P, LiftK k odd P ∧ rliftB o k odd = true ∧ RR (rliftV o k odd) P) ∨ ((∀ P, ¬ LiftK k odd P) ∧ rliftB o k odd = false ∧ RR (rliftV o k odd) (EP.zero ED)) := by
  have hx := G.rfrm hk
  have hw : RV (lwR o k) _ := G.radd hx G.rone
  have hy : RV (lyR o k) _ := G.rmul (G.rsub hx G.rone) (G.rinv hw)
  have ez := G.risZero hw
  have none_case : ∀ e : rliftB o k odd = false, RR (rliftV o k odd) (EP.zero ED) := fun e => by
    unfold rliftV
    rw [e]; exact G.rneu
  by_cases h0 : toF (leVal k % B255) + 1 = 0
  · have e : rliftB o k odd = false := by unfold rliftB; rw [ez, decide_eq_true h0]; rfl
    exact .inr ⟨fun P hP => hP.ne h0, e, none_case e⟩
  · rcases G.onx hy odd with ⟨P, h1, h2, h3⟩ | ⟨h1, h2⟩
    · have e : rliftB o k odd = true := by unfold rliftB; rw [ez, decide_eq_false h0, h2]; rfl
      refine .inl ⟨P, ⟨h0, h1⟩, e, ?_⟩
      unfold rliftV
      rw [e]
      exact G.rpt P h3 (by rw [h1.y]; exact hy)
    · have e : rliftB o k odd = false := by unfold rliftB; rw [h2, Bool.and_false]
      exact .inr ⟨fun P hP => h1 P hP.pt, e, none_case e⟩

/-! ### multiples -/
theorem PR.cast {r : Rungs} {P Q : EPt} (h : PR r P) (e : P = Q) : PR r Q := e ▸ h
theorem RR.cast {r : Pt3} {P Q : EPt} (h : RR r P) (e : P = Q) : RR r Q := e ▸ h
theorem FGood.tw_mul (G : FGood o) {r : Rungs} {P : EPt} {n : Nat} (h : PR r (P.mul n)) : PR (twO o r) (P.mul (2 * n)) := (G.tw h).cast (mul_dbl P n)
theorem FGood.sum_mul (G : FGood o) {p q : Rungs} {P : EPt} {m n : Nat} {w : L5} (h1 : PR p (P.mul m)) (h2 : PR q (P.mul n)) (hw : NV w (DF * 2)) : PR (sumO o p q w) (P.mul (m + n)) := (G.sum h1 h2 hw).cast (EP.mul_add P m n).symm
/-- the table holds the multiples -/
theorem few_at (z : POps) (p : Rungs) {C : Rungs → Nat → Prop} (h0 : C (tb0 z) 0) (h1 : C (tb1 z p) 1) (h2 : C (tb2 z p) 2) (h3 : C (tb3 z p) 3) (h4 : C (tb4 z p) 4) (h5 : C (tb5 z p) 5) (h6 : C (tb6 z p) 6) (h7 : C (tb7 z p) 7) (h8 : C (tb8 z p) 8)
    (h9 : C (tb9 z p) 9) (h10 : C (tb10 z p) 10) (h11 : C (tb11 z p) 11) (h12 : C (tb12 z p) 12) (h13 : C (tb13 z p) 13) (h14 : C (tb14 z p) 14) (h15 : C (tb15 z p) 15) : ∀ j, j < 16 → C (fewAt (fewL z p) (0 + j * 20)) j
  | 0, _ => by rw [show fewAt (fewL z p) (0 + 0 * 20) = tb0 z by kernel_rfl]; exact h0
  | 1, _ => by rw [show fewAt (fewL z p) (0 + 1 * 20) = tb1 z p by kernel_rfl]; exact h1
  | 2, _ => by rw [show fewAt (fewL z p) (0 + 2 * 20) = tb2 z p by kernel_rfl]; exact h2
  | 3, _ => by rw [show fewAt (fewL z p) (0 + 3 * 20) = tb3 z p by kernel_rfl]; exact h3
  | 4, _ => by rw [show fewAt (fewL z p) (0 + 4 * 20) = tb4 z p by kernel_rfl]; exact h4
  | 5, _ => by rw [show fewAt (fewL z p) (0 + 5 * 20) = tb5 z p by kernel_rfl]; exact h5
  | 6, _ => by rw [show fewAt (fewL z p) (0 + 6 * 20) = tb6 z p by kernel_rfl]; exact h6
  | 7, _ => by rw [show fewAt (fewL z p) (0 + 7 * 20) = tb7 z p by kernel_rfl]; exact h7
  | 8, _ => by rw [show fewAt (fewL z p) (0 + 8 * 20) = tb8 z p by kernel_rfl]; exact h8
  | 9, _ => by rw [show fewAt (fewL z p) (0 + 9 * 20) = tb9 z p by kernel_rfl]; exact h9
  | 10, _ => by rw [show fewAt (fewL z p) (0 + 10 * 20) = tb10 z p by kernel_rfl]; exact h10
  | 11, _ => by rw [show fewAt (fewL z p) (0 + 11 * 20) = tb11 z p by kernel_rfl]; exact h11
  | 12, _ => by rw [show fewAt (fewL z p) (0 + 12 * 20) = tb12 z p by kernel_rfl]; exact h12
  | 13, _ => by rw [show fewAt (fewL z p) (0 + 13 * 20) = tb13 z p by kernel_rfl]; exact h13
  | 14, _ => by rw [show fewAt (fewL z p) (0 + 14 * 20) = tb14 z p by kernel_rfl]; exact h14
  | 15, _ => by rw [show fewAt (fewL z p) (0 + 15 * 20) = tb15 z p by kernel_rfl]; exact h15
  | n + 16, h => by omega
/-- the point-level functions reckon right -/
structure PGood (z : POps) : Prop where
  here : ∀ {r P}, PO r P → PR (z.here r) P
  sum : ∀ {p q : Rungs} {P : EPt} {m n : Nat} {w : L5}, PR p (P.mul m) → PR q (P.mul n) → NV w (DF * 2) → PR (z.sum p q w) (P.mul (m + n))
  tw : ∀ {r : Rungs} {P : EPt} {n : Nat}, PR r (P.mul n) → PR (z.tw r) (P.mul (2 * n))
  dd : NV z.dd DF
  rdd : RV z.rdd DF
  rneu : RR z.rneu (EP.zero ED)
  rsum : ∀ {p q : Pt3} {P : EPt} {m n : Nat} {d : L4}, RR p (P.mul m) → RR q (P.mul n) → RV d DF → RR (z.rsum p q d) (P.mul (m + n))
  rtw : ∀ {r : Pt3} {P : EPt} {n : Nat}, RR r (P.mul n) → RR (z.rtw r) (P.mul (2 * n))
theorem FGood.pg (G : FGood o) : PGood (mkPO o) where
  here := G.here
  sum := G.sum_mul
  tw := G.tw_mul
  dd := G.d
  rdd := G.rd
  rneu := G.rneu
  rsum h1 h2 hd := (G.radd_pt h1 h2 hd).cast (EP.mul_add _ _ _).symm
  rtw h := (G.rtw_pt h).cast (mul_dbl _ _)
theorem concPG : PGood concP := concGood.pg
variable {z : POps}
theorem two_le : 2 ≤ 4294967295 := by decide
theorem PGood.w (H : PGood z) : NV (d2z z) (DF * 2) := by
  have h : NV (concFOps.times z.dd 2) (DF * toF 2) := FGood.times concGood H.dd (two_le)
  rw [toF_2] at h
  exact h
theorem PGood.t0 (H : PGood z) (P : EPt) : PR (tb0 z) (P.mul 0) := (H.here PO.zero).cast (EP.mul_zero P).symm
theorem PGood.few (H : PGood z) {p : Rungs} {P : EPt} (h : PO p P) : ∀ j, j < 16 → PR (fewAt (fewL z p) (0 + j * 20)) (P.mul j) := by
  have t1 : PR (tb1 z p) (P.mul 1) := (H.here h).cast (EP.mul_one P).symm
  have t2 : PR (tb2 z p) (P.mul 2) := by
    unfold tb2
    exact H.sum (m := 1) (n := 1) t1 t1 H.w
  have t3 : PR (tb3 z p) (P.mul 3) := by
    unfold tb3
    exact H.sum (m := 2) (n := 1) t2 t1 H.w
  have t4 : PR (tb4 z p) (P.mul 4) := by
    unfold tb4
    exact H.sum (m := 3) (n := 1) t3 t1 H.w
  have t5 : PR (tb5 z p) (P.mul 5) := by
    unfold tb5
    exact H.sum (m := 4) (n := 1) t4 t1 H.w
  have t6 : PR (tb6 z p) (P.mul 6) := by
    unfold tb6
    exact H.sum (m := 5) (n := 1) t5 t1 H.w
  have t7 : PR (tb7 z p) (P.mul 7) := by
    unfold tb7
    exact H.sum (m := 6) (n := 1) t6 t1 H.w
  have t8 : PR (tb8 z p) (P.mul 8) := by
    unfold tb8
    exact H.sum (m := 7) (n := 1) t7 t1 H.w
  have t9 : PR (tb9 z p) (P.mul 9) := by
    unfold tb9
    exact H.sum (m := 8) (n := 1) t8 t1 H.w
  have t10 : PR (tb10 z p) (P.mul 10) := by
    unfold tb10
    exact H.sum (m := 9) (n := 1) t9 t1 H.w
  have t11 : PR (tb11 z p) (P.mul 11) := by
    unfold tb11
    exact H.sum (m := 10) (n := 1) t10 t1 H.w
  have t12 : PR (tb12 z p) (P.mul 12) := by
    unfold tb12
    exact H.sum (m := 11) (n := 1) t11 t1 H.w
  have t13 : PR (tb13 z p) (P.mul 13) := by
    unfold tb13
    exact H.sum (m := 12) (n := 1) t12 t1 H.w
  have t14 : PR (tb14 z p) (P.mul 14) := by
    unfold tb14
    exact H.sum (m := 13) (n := 1) t13 t1 H.w
  have t15 : PR (tb15 z p) (P.mul 15) := by
    unfold tb15
    exact H.sum (m := 14) (n := 1) t14 t1 H.w
  exact few_at z p (C := fun r n => PR r (P.mul n)) (H.t0 P) t1 t2 t3 t4 t5 t6 t7 t8 t9 t10 t11 t12 t13 t14 t15
theorem PGood.byte (H : PGood z) {p r : Rungs} {P : EPt} {n c : Nat} (hp : PO p P) (h : PR r (P.mul n)) (hc : c < 256) : PR (byteP z (d2z z) (fewL z p) r c) (P.mul (c + 256 * n)) := by
  have f := H.few hp
  have a4 : PR (tw4 z r) _ := H.tw (H.tw (H.tw (H.tw h)))
  have a := H.sum a4 (f (c / 2 ^ 4) (by omega)) H.w
  have b4 : PR (tw4 z _) _ := H.tw (H.tw (H.tw (H.tw a)))
  have ha : c &&& 15 = c % 16 := by rw [show (15 : Nat) = 2 ^ 4 - 1 from rfl, Nat.and_two_pow_sub_one_eq_mod]
  have b := H.sum b4 (f (c &&& 15) (by rw [ha]; omega)) H.w
  unfold byteP
  refine b.cast ?_
  rw [ha]
  congr 1
  omega
theorem scaleV_cons (z : POps) (w : L5) (few : List Nat) (r : Rungs) (c : Nat) (b : List Nat) : scaleV z w few r (c :: b) = byteP z w few (scaleV z w few r b) c := rfl
theorem PGood.scale (H : PGood z) {p : Rungs} {P : EPt} (hp : PO p P) : ∀ {b : List Nat}, (∀ c ∈ b, c < 256) → PR (scaleV z (d2z z) (fewL z p) (tb0 z) b) (P.mul (leB b))
  | [], _ => H.t0 P
  | c :: b, h => by
    have ih := H.scale hp (b := b) fun x hx => h x (by simp [hx])
    rw [scaleV_cons, leB]
    exact H.byte hp ih (h c (by simp))
theorem PGood.q8 (H : PGood z) {p r : Pt3} {P : EPt} {S c : Nat} (hp : RR p P) (hr : RR r (P.mul S)) (hc : c < 256) : ∀ n, n ≤ 8 → RR (qRn z p z.rdd (r, c) n).1 (P.mul (2 ^ n * S + c / 2 ^ (8 - n))) ∧ (qRn z p z.rdd (r, c) n).2 = c * 2 ^ n % 256
  | 0, _ => by
    rw [qRn]
    refine ⟨hr.cast ?_, by show c = c * 2 ^ 0 % 256; omega⟩
    congr 1
    rw [show c / 2 ^ (8 - 0) = 0 by show c / 256 = 0; omega, Nat.pow_zero, Nat.one_mul, Nat.add_zero]
  | n + 1, hn => by
    obtain ⟨h1, h2⟩ := H.q8 hp hr hc n (by omega)
    obtain ⟨b1, b2⟩ := bit_stepQ (c := c) (n := n) (by omega)
    rw [qRn]
    dsimp only
    rw [h2, b2]
    refine ⟨?_, rfl⟩
    rw [b1]
    have hd := H.rtw h1
    have e1 : 2 ^ (n + 1) * S = 2 * (2 ^ n * S) := by rw [Nat.pow_succ, Nat.mul_comm (2 ^ n) 2, Nat.mul_assoc]
    unfold qRound
    by_cases h : 128 ≤ c * 2 ^ n % 256
    · rw [decide_eq_true h, cond_true, if_pos h]
      refine (H.rsum hd (hp.cast (EP.mul_one P).symm) H.rdd).cast ?_
      rw [e1]
      congr 1
      omega
    · rw [decide_eq_false h, cond_false, if_neg h]
      refine hd.cast ?_
      rw [e1]
      congr 1
      omega
where
  bit_stepQ {c : Nat} {n : Nat} (hn : n < 8) : c / 2 ^ (8 - (n + 1)) = 2 * (c / 2 ^ (8 - n)) + (if 128 ≤ c * 2 ^ n % 256 then 1 else 0) ∧ c * 2 ^ n % 256 % 128 * 2 % 2 ^ 8 = c * 2 ^ (n + 1) % 256 := by
    have h : n = 0 ∨ n = 1 ∨ n = 2 ∨ n = 3 ∨ n = 4 ∨ n = 5 ∨ n = 6 ∨ n = 7 := by omega
    rcases h with h | h | h | h | h | h | h | h <;> subst h <;> simp only [Nat.reduceAdd, Nat.reduceSub, Nat.reducePow] <;> refine ⟨?_, by omega⟩ <;> split <;> omega
theorem scaleQ_cons (z : POps) (p : Pt3) (d : L4) (r : Pt3) (c : Nat) (b : List Nat) : scaleQ z p d r (c :: b) = byteQ z p d (scaleQ z p d r b) c := rfl
theorem PGood.rscale (H : PGood z) {p : Pt3} {P : EPt} (hp : RR p P) : ∀ {b : List Nat}, (∀ c ∈ b, c < 256) → RR (scaleQ z p z.rdd z.rneu b) (P.mul (leB b))
  | [], _ => H.rneu.cast (EP.mul_zero P).symm
  | c :: b, h => by
    have ih := H.rscale hp (b := b) fun x hx => h x (by simp [hx])
    have hc := h c (by simp)
    rw [scaleQ_cons, leB]
    unfold byteQ
    refine (H.q8 hp ih hc 8 (Nat.le_refl _)).1.cast ?_
    congr 1
    rw [show c / 2 ^ (8 - 8) = c by show c / 1 = c; omega]
    omega
end Go.Proofs.YtpmbfepkdjkheaaGreat

