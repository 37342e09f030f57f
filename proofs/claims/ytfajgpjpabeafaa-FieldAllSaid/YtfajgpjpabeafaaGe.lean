/- FieldAll: a round, the loop, the law. -/
import Derived.Test.YtfajgpjpabeafaaGd
import Derived.Test.YtfajgpjpabeafaaPwEvZb
import Derived.Test.YtfajgpjpabeafaaFf
namespace Go.Proofs.Ytfajgpjpabeafaa
open Go Pw Go.RowKit
noncomputable abbrev faK : List Nat := [0,2,3,4,5,6,7,8,9,10,11,12,13,14,15,16,20,38,87,118,120,131]
def fe7 (len : Nat) (i : Int) (to : N4) (A : Bool) (rest : Env) : Env := fe ((5, .n (w64 (i + 1))) :: (6, .ptr 4 0) :: (7, .n to.val) :: (eb len i ++ ((118, .bool A) :: rest)))
noncomputable def fa_Y (o : FOps) (m : OpR → L5 → L5 → L5) (m' : OpR → L4 → L4 → L4) (t : Int → N4) (len p : Nat) (i : Int) (q : OpR) (rest : Env) (tl : Mem) (r : V4 L5) (d : V4 L4) (to : N4) : Prop := ∀ {ρ : Type} (K : Ex → Env → Mem → Option ρ), codeK (X_fa o m m' t) [] faF.ntmps [0,2,3,4,5,6,7,8,9,10,11,12,13,14,15,16,20,38,87,118,120,131] 94 faY (fe4 len i to rest) (faM2 p q r d tl) K =
  r4 (t q.further) fun f => r4 (t q.further) fun f' => brn (!o.asked (r.get to) (r.get f) (d.get to) (d.get f')) (K .ret (fe6 len i to (!o.asked (r.get to) (r.get f) (d.get to) (d.get f')) rest) (faM2 p q r d tl)) (K .normal (fe5 len i to (!o.asked (r.get to) (r.get f) (d.get to) (d.get f')) rest) (faM2 p q r d tl))
theorem fa_Y_h (o : FOps) (m : OpR → L5 → L5 → L5) (m' : OpR → L4 → L4 → L4) (t : Int → N4) (len p : Nat) (i : Int) (q : OpR) (rest : Env) (tl : Mem) (r : V4 L5) (d : V4 L4) : ∀ to, fa_Y o m m' t len p i q rest tl r d to
  | .j0 => fun K => by kernel_rfl
  | .j1 => fun K => by kernel_rfl
  | .j2 => fun K => by kernel_rfl
  | .j3 => fun K => by kernel_rfl
theorem fa_5_h (o : FOps) (m : OpR → L5 → L5 → L5) (m' : OpR → L4 → L4 → L4) (t : Int → N4) (len : Nat) (i : Int) (to : N4) (A : Bool) (rest : Env) (M : Mem) {ρ : Type} (K : Ex → Env → Mem → Option ρ) : codeK (X_fa o m m' t) [] faF.ntmps [0,2,3,4,5,6,7,8,9,10,11,12,13,14,15,16,20,38,87,118,120,131] 98 fa5 (fe5 len i to A rest) M K = K .normal (fe7 len i to A rest) M := by kernel_rfl
theorem fa_out (len p : Nat) (i : Int) (to : N4) (A : Bool) (rest : Env) (q : OpR) (r : V4 L5) (d : V4 L4) (tl : Mem) : outP [0, 3, 4, 5] 3 [0] [] [] .normal (fe7 len i to A rest) (faM2 p q r d tl) = some (.normal, faE len (w64 (i + 1)), faM r d) := by kernel_rfl
theorem fa_outX (len : Nat) (i : Int) (r : V4 L5) (d : V4 L4) : outP [0, 3, 4, 5] 3 [0] [] [] (.exit 0) (fe1 len i) (faM r d) = some (.exit 0, faE len i, faM r d) := by kernel_rfl

noncomputable def faSt (m : OpR → L5 → L5 → L5) (m' : OpR → L4 → L4 → L4) (t : Int → N4) (s : V4 L5 × V4 L4) (q : OpR) : V4 L5 × V4 L4 :=
  brn (decide (q.kind = 11)) (swV q (t q.a) (t q.b) s.1, swV q (t q.a) (t q.b) s.2) (s.1.set (t q.to) (m q (s.1.get (t q.a)) (s.1.get (t q.b))), s.2.set (t q.to) (m' q (s.2.get (t q.a)) (s.2.get (t q.b))))
theorem opT_eq (q : OpR) : opT q = q := by
  unfold opT
  rw [List.drop_zero, List.take_length]
theorem faG_true (q : OpR) (h : q.data.length ≤ 140737488351232) : ∀ c ∈ faG q, c = true := by
  intro c hc
  unfold faG at hc
  rw [List.drop_zero, List.take_length] at hc
  simp only [List.mem_cons, List.not_mem_nil, or_false] at hc
  rcases hc with rfl | rfl | rfl | rfl
  · exact decide_eq_true (by omega)
  · exact decide_eq_true ⟨trivial, by omega⟩
  · exact decide_eq_true (by omega)
  · exact decide_eq_true trivial
/-- one round, where the questions are answered alike -/
theorem fa_round (o : FOps) (m : OpR → L5 → L5 → L5) (m' : OpR → L4 → L4 → L4) (t : Int → N4) (len p : Nat) (i : Int) (q : OpR) (r : V4 L5) (d : V4 L4)
    (h1 : 0 ≤ i) (h2 : i < (len : Int)) (h3 : Nat.beq (0 + i.toNat * 40) p = true) (h4 : q.data.length ≤ 140737488351232)
    (h5 : o.asked ((faSt m m' t (r, d) q).1.get (t q.to)) ((faSt m m' t (r, d) q).1.get (t q.further)) ((faSt m m' t (r, d) q).2.get (t q.to)) ((faSt m m' t (r, d) q).2.get (t q.further)) = true) :
    codeK (X_fa o m m' t) [] faF.ntmps [0,2,3,4,5,6,7,8,9,10,11,12,13,14,15,16,20,38,87,118,120,131] 100 faB (faE len i) (faM1 p q r d) (outP [0, 3, 4, 5] 3 [0] [] []) =
      some (.normal, faE len (w64 (i + 1)), faM (faSt m m' t (r, d) q).1 (faSt m m' t (r, d) q).2) := by
  have hY : ∀ (rest : Env) (tl : Mem) (r : V4 L5) (d : V4 L4), o.asked (r.get (t q.to)) (r.get (t q.further)) (d.get (t q.to)) (d.get (t q.further)) = true → ∀ {ρ : Type} (K : Ex → Env → Mem → Option ρ),
      codeK (X_fa o m m' t) [] faF.ntmps [0,2,3,4,5,6,7,8,9,10,11,12,13,14,15,16,20,38,87,118,120,131] 94 faY (fe4 len i (t q.to) rest) (faM2 p q r d tl) K = K .normal (fe5 len i (t q.to) (!true) rest) (faM2 p q r d tl) := by
    intro rest tl r d ha ρ K
    refine (fa_Y_h o m m' t len p i q rest tl r d (t q.to) K).trans ?_
    rw [r4_eq, r4_eq, ha]; rfl
  rw [faB_eq, codeK_seq, fa_P_h o m m' t len i, brn_eq, decide_eq_true h2, cond_true, thenC_normal, codeK_seq, codeK_block, codeK_seq,
    fa_6_h o m m' t len p i q r d, gds_true (by
      intro c hc
      simp only [List.mem_cons, List.not_mem_nil, or_false] at hc
      rcases hc with rfl | rfl
      · exact decide_eq_true ⟨h1, h2⟩
      · rw [h3]; rfl), thenC_normal, codeK_seq, fa_7_h o m m' t len p i q r d, r4_eq, r4_eq, r4_eq, thenC_normal, codeK_seq, fa_X_h o m m' t len p i q r d (t q.to) (t q.a) (t q.b), gds_true (faG_true q h4), thenC_normal, thenC_normal]
  unfold faSt at h5 ⊢
  rw [opT_eq]
  simp only [brn_eq] at h5 ⊢
  generalize hc : decide (q.kind = 11) = c at h5 ⊢
  cases c with
  | true =>
    rw [cond_true] at h5 ⊢
    rw [cond_true, hY _ _ _ _ h5, blkC_normal, thenC_normal, fa_5_h, fa_out]
  | false =>
    rw [cond_false] at h5 ⊢
    rw [cond_false, hY _ _ _ _ h5, blkC_normal, thenC_normal, fa_5_h, fa_out]
theorem fa_last (o : FOps) (m : OpR → L5 → L5 → L5) (m' : OpR → L4 → L4 → L4) (t : Int → N4) (len : Nat) (i : Int) (r : V4 L5) (d : V4 L4) (h : ¬ i < (len : Int)) :
    codeK (X_fa o m m' t) [] faF.ntmps [0,2,3,4,5,6,7,8,9,10,11,12,13,14,15,16,20,38,87,118,120,131] 100 faB (faE len i) (faM r d) (outP [0, 3, 4, 5] 3 [0] [] []) = some (.exit 0, faE len i, faM r d) := by
  rw [faB_eq, codeK_seq, fa_P_h o m m' t len i, brn_eq, decide_eq_false h, cond_false, thenC_exit, fa_outX]
/-! ### the loop -/
structure S_fa where
  len : Nat
  i : Int
  r : V4 L5
  d : V4 L4
def c54? (l : List AV) : Option (V4 L5) := match num? (.agg (l.take 5)), num? (.agg ((l.drop 5).take 5)), num? (.agg ((l.drop 10).take 5)), num? (.agg (l.drop 15)) with
  | some a, some b, some c, some d => some ⟨a, b, c, d⟩
  | _, _, _, _ => none
def c44? (l : List AV) : Option (V4 L4) := match rnum? (.agg (l.take 4)), rnum? (.agg ((l.drop 4).take 4)), rnum? (.agg ((l.drop 8).take 4)), rnum? (.agg (l.drop 12)) with
  | some a, some b, some c, some d => some ⟨a, b, c, d⟩
  | _, _, _, _ => none
theorem cut4 (l : List AV) (n m k : Nat) (h : n + n = m) (h' : m + n = k) : l = l.take n ++ ((l.drop n).take n ++ ((l.drop m).take n ++ l.drop k)) := by
  subst h'
  subst h
  have e1 := List.take_append_drop n l
  have e2 := List.take_append_drop n (l.drop n)
  have e3 := List.take_append_drop n (l.drop (n + n))
  rw [List.drop_drop] at e2 e3
  rw [e3, e2, e1]
theorem c54?_some {l : List AV} {v : V4 L5} (h : c54? l = some v) : l = c54 v := by
  unfold c54? at h
  split at h
  · rename_i a b c d h1 h2 h3 h4
    cases h
    have e := cut4 l 5 10 15 rfl rfl
    rw [AV.agg.inj (num?_some h1), AV.agg.inj (num?_some h2), AV.agg.inj (num?_some h3), AV.agg.inj (num?_some h4)] at e
    exact e
  · cases h
theorem c44?_some {l : List AV} {v : V4 L4} (h : c44? l = some v) : l = c44 v := by
  unfold c44? at h
  split at h
  · rename_i a b c d h1 h2 h3 h4
    cases h
    have e := cut4 l 4 8 12 rfl rfl
    rw [AV.agg.inj (rnum?_some h1), AV.agg.inj (rnum?_some h2), AV.agg.inj (rnum?_some h3), AV.agg.inj (rnum?_some h4)] at e
    exact e
  · cases h
def d_fa : LoopDefP S_fa 3 where
  ts := [0, 3, 4, 5]
  ks := [0]
  src0 := []
  srcN := []
  srcX := []
  E := fun s => faE s.len s.i
  M := fun s => faM s.r s.d
  Mo := fun s => faM s.r s.d
  dec := fun vs mem => match vs, mem with
    | [.slice 0 0 len false, .ptr 1 0, .ptr 2 0, .n i], [_, ⟨.cells rc, true⟩, ⟨.cells dc, true⟩] => (match c54? rc, c44? dc with
      | some r, some d => some ⟨len, i, r, d⟩
      | _, _ => none)
    | _, _ => none
  ok := by
    intro vs mem s h
    split at h
    · rename_i len i B rc dc
      split at h
      · rename_i r d hr hd
        cases h
        rw [c54?_some hr, c44?_some hd]
        exact ⟨faM r d, faE len i, faM r d, .kill (.of (.refl _) (.of (.refl _) .nil)), by kernel_rfl, rfl, .of (.refl _) (.of (.refl _) (.of (.refl _) .nil))⟩
      · cases h
    · cases h
def z54 (v : V4 L5) : Bool := decide ([v.a.a, v.a.b, v.a.c, v.a.d, v.a.e, v.b.a, v.b.b, v.b.c, v.b.d, v.b.e, v.c.a, v.c.b, v.c.c, v.c.d, v.c.e, v.d.a, v.d.b, v.d.c, v.d.d, v.d.e] = [0, 0, 0, 0, 0, 0, 0, 0, 0, 0, 0, 0, 0, 0, 0, 0, 0, 0, 0, 0])
def z44 (v : V4 L4) : Bool := decide ([v.a.a, v.a.b, v.a.c, v.a.d, v.b.a, v.b.b, v.b.c, v.b.d, v.c.a, v.c.b, v.c.c, v.c.d, v.d.a, v.d.b, v.d.c, v.d.d] = [0, 0, 0, 0, 0, 0, 0, 0, 0, 0, 0, 0, 0, 0, 0, 0])
def Z5 : V4 L5 := ⟨⟨0, 0, 0, 0, 0⟩, ⟨0, 0, 0, 0, 0⟩, ⟨0, 0, 0, 0, 0⟩, ⟨0, 0, 0, 0, 0⟩⟩
def Z4 : V4 L4 := ⟨⟨0, 0, 0, 0⟩, ⟨0, 0, 0, 0⟩, ⟨0, 0, 0, 0⟩, ⟨0, 0, 0, 0⟩⟩
theorem z54_eq {v : V4 L5} (h : z54 v = true) : v = Z5 := by
  have h := of_decide_eq_true h
  obtain ⟨⟨_, _, _, _, _⟩, ⟨_, _, _, _, _⟩, ⟨_, _, _, _, _⟩, ⟨_, _, _, _, _⟩⟩ := v
  simp only [List.cons.injEq, and_true] at h
  obtain ⟨h1, h2, h3, h4, h5, h6, h7, h8, h9, h10, h11, h12, h13, h14, h15, h16, h17, h18, h19, h20⟩ := h
  subst h1 h2 h3 h4 h5 h6 h7 h8 h9 h10 h11 h12 h13 h14 h15 h16 h17 h18 h19 h20
  rfl
theorem z44_eq {v : V4 L4} (h : z44 v = true) : v = Z4 := by
  have h := of_decide_eq_true h
  obtain ⟨⟨_, _, _, _⟩, ⟨_, _, _, _⟩, ⟨_, _, _, _⟩, ⟨_, _, _, _⟩⟩ := v
  simp only [List.cons.injEq, and_true] at h
  obtain ⟨h1, h2, h3, h4, h5, h6, h7, h8, h9, h10, h11, h12, h13, h14, h15, h16⟩ := h
  subst h1 h2 h3 h4 h5 h6 h7 h8 h9 h10 h11 h12 h13 h14 h15 h16
  rfl
/-- what an operation must be for the walk -/
structure OpR.ok (q : OpR) : Prop where
  n : q.n < 18446744073709551616
  key : q.key.wf
  byt : ∀ b ∈ q.data, b < 256
  len : q.data.length ≤ 140737488351232
/-! ### the numbers that stand in the registers are the document's -/
theorem made_sim {q : OpR} (hq : q.ok) {a b : L5} {x y : L4} (h : Sim a x) (h' : Sim b y) : Sim (madeV concFOps q a b) (rmadeV concFOps q x y) := by
  have e0 : concFOps.frm q.key = fromS q.key := by kernel_rfl
  have e1 : concFOps.small q.n = smallS q.n := by kernel_rfl
  have e2 : concFOps.add a b = addS a b := by kernel_rfl
  have e3 : concFOps.sub a b = subS a b := by kernel_rfl
  have e4 : concFOps.neg a = negS a := by kernel_rfl
  have e5 : concFOps.mul a b = mulS a b := by kernel_rfl
  have e6 : concFOps.sq a = sqS a := by kernel_rfl
  have e7 : concFOps.times a (q.n % 2 ^ 32) = timesS a (q.n % 2 ^ 32) := by kernel_rfl
  have f0 : concFOps.rfrm q.key = fromR q.key := by kernel_rfl
  have f1 : concFOps.rsmall q.n = smallR q.n := by kernel_rfl
  have f2 : concFOps.radd x y = addR x y := by kernel_rfl
  have f3 : concFOps.rsub x y = subR x y := by kernel_rfl
  have f4 : concFOps.rneg x = negR x := by kernel_rfl
  have f5 : concFOps.rmul x y = mulR x y := by kernel_rfl
  have f6 : concFOps.rsq x = mulR x x := by kernel_rfl
  have f7 : concFOps.rtimes x (q.n % 2 ^ 32) = timesR x (q.n % 2 ^ 32) := by kernel_rfl
  unfold madeV rmadeV
  rw [e0, e1, e2, e3, e4, e5, e6, e7, f0, f1, f2, f3, f4, f5, f6, f7]
  have g0 := Sim.from hq.key
  have g1 := Sim.small hq.n
  have g2 := h.add h'
  have g3 := h.sub h'
  have g4 := h.neg
  have g5 := h.mul h'
  have g6 := h.sq
  have g7 := h.times (n := q.n % 2 ^ 32) (Nat.mod_lt _ (by decide))
  have g8 := sim_pow h hq.byt
  have g9 := sim_inv h
  have g10 := (sim_root h).1
  generalize decide (q.kind = 0) = c0
  generalize decide (q.kind = 1) = c1
  generalize decide (q.kind = 2) = c2
  generalize decide (q.kind = 3) = c3
  generalize decide (q.kind = 4) = c4
  generalize decide (q.kind = 5) = c5
  generalize decide (q.kind = 6) = c6
  generalize decide (q.kind = 7) = c7
  generalize decide (q.kind = 8) = c8
  generalize decide (q.kind = 9) = c9
  generalize decide (q.kind = 10) = c10
  simp only [brn_eq]
  exact g0.ite (g1.ite (g2.ite (g3.ite (g4.ite (g5.ite (g6.ite (g7.ite (g8.ite (g9.ite (g10.ite h))))))))))
def AllSim (s : V4 L5 × V4 L4) : Prop := ∀ j, Sim (s.1.get j) (s.2.get j)
theorem AllSim.set {r : V4 L5} {d : V4 L4} (h : AllSim (r, d)) (k : N4) {x : L5} {y : L4} (hx : Sim x y) : AllSim (r.set k x, d.set k y) := by
  intro j
  have h0 := h .j0
  have h1 := h .j1
  have h2 := h .j2
  have h3 := h .j3
  cases k <;> cases j <;> assumption
theorem AllSim.step {s : V4 L5 × V4 L4} (h : AllSim s) {q : OpR} (hq : q.ok) (t : Int → N4) : AllSim (faSt (madeV concFOps) (rmadeV concFOps) t s q) := by
  unfold faSt
  rw [brn_eq]
  cases decide (q.kind = 11) with
  | true =>
    rw [cond_true]
    exact AllSim.set (AllSim.set h _ ((h _).ite (h _))) _ ((h _).ite (h _))
  | false =>
    rw [cond_false]
    exact AllSim.set h _ (made_sim hq (h _) (h _))
theorem AllSim.zero : AllSim (Z5, Z4) := by
  intro j
  cases j <;> exact Sim.zero
noncomputable def faAll (m : OpR → L5 → L5 → L5) (m' : OpR → L4 → L4 → L4) (t : Int → N4) (qs : List OpR) : V4 L5 × V4 L4 := qs.foldl (faSt m m' t) (Z5, Z4)
theorem faAll_sim (t : Int → N4) {qs : List OpR} (h : ∀ q ∈ qs, q.ok) : AllSim (faAll (madeV concFOps) (rmadeV concFOps) t qs) := by
  unfold faAll
  generalize hz : (Z5, Z4) = z
  have hs : AllSim z := hz ▸ AllSim.zero
  clear hz
  induction qs generalizing z with
  | nil => exact hs
  | cons q qs ih => exact ih (fun x hx => h x (by simp [hx])) _ (hs.step (h q (by simp)) t)
def faGd (qs : List OpR) (s : S_fa) : Bool := decide (s.len = qs.length ∧ s.i = 0 ∧ qs.length < 9223372036854775808) && (z54 s.r && z44 s.d)
noncomputable def faFin (m : OpR → L5 → L5 → L5) (m' : OpR → L4 → L4 → L4) (t : Int → N4) (qs : List OpR) (s : S_fa) : S_fa := ⟨s.len, (s.len : Int), (faAll m m' t qs).1, (faAll m m' t qs).2⟩
noncomputable def gFa (m : OpR → L5 → L5 → L5) (m' : OpR → L4 → L4 → L4) (t : Int → N4) (qs : List OpR) : LoopFn := d_fa.fn (faGd qs) (.exit 0) (faFin m m' t qs)
abbrev faΦ (qs : List OpR) : Fact 3 := factR 3 0 40 (by decide) (qs.map opLA)
theorem asked_conc (a b : L5) (x y : L4) : concFOps.asked a b x y = askedS a b x y := by kernel_rfl
noncomputable def faAtS (qs : List OpR) (len j : Nat) : S_fa := ⟨len, (j : Int), (faAll (madeV concFOps) (rmadeV concFOps) atN (qs.take j)).1, (faAll (madeV concFOps) (rmadeV concFOps) atN (qs.take j)).2⟩
theorem faAtS_E (qs : List OpR) (len j : Nat) : d_fa.E (faAtS qs len j) = faE len (j : Int) := rfl
theorem faAtS_M (qs : List OpR) (len j : Nat) {z : V4 L5 × V4 L4} (h : faAll (madeV concFOps) (rmadeV concFOps) atN (qs.take j) = z) : d_fa.M (faAtS qs len j) = faM z.1 z.2 := by subst h; rfl
theorem gFa_at {qs : List OpR} (hq : ∀ q ∈ qs, q.ok) : LoopAtP Try.prog (faΦ qs) faF.ntmps faB (gFa (madeV concFOps) (rmadeV concFOps) atN qs) := by
  refine d_fa.loop (keep := [0,2,3,4,5,6,7,8,9,10,11,12,13,14,15,16,20,38,87,118,120,131]) X_fa_ok LoopsOK.nil (by simp) fun s hg => ?_
  unfold faGd at hg
  simp only [Bool.and_eq_true] at hg
  obtain ⟨⟨h1, h2, h3⟩, h4, h5⟩ := And.imp_left of_decide_eq_true hg
  refine ⟨qs.length, faAtS qs s.len, ?_, ?_, fun j hj => ?_, ?_⟩
  · obtain ⟨len, i, r, d⟩ := s
    have e1 := z54_eq h4
    have e2 := z44_eq h5
    subst e1
    subst e2
    subst h2
    rfl
  · exact .of (.refl _) (.of (.refl _) (.of (.refl _) .nil))
  · obtain ⟨q, hqj⟩ : ∃ q, qs[j]? = some q := ⟨qs[j], List.getElem?_eq_getElem hj⟩
    have hqo := hq q (List.mem_of_getElem? hqj)
    have hrec : (qs.map opLA)[j]? = some (opLA q) := by rw [List.getElem?_map, hqj]; rfl
    generalize hs : faAll (madeV concFOps) (rmadeV concFOps) atN (qs.take j) = z
    have hz : AllSim z := hs ▸ faAll_sim atN fun x hx => hq x (List.mem_of_mem_take hx)
    have hnext : faAll (madeV concFOps) (rmadeV concFOps) atN (qs.take (j + 1)) = faSt (madeV concFOps) (rmadeV concFOps) atN z q := by
      rw [List.take_add_one, hqj]
      show List.foldl _ _ (qs.take j ++ [q]) = _
      rw [List.foldl_append, ← hs]
      rfl
    have hn := hz.step hqo atN
    have hi : w64 ((j : Int) + 1) = ((j + 1 : Nat) : Int) := by
      rw [w64_id (by omega) (by omega)]; omega
    refine ⟨faM1 (j * 40) q z.1 z.2, faM (faSt (madeV concFOps) (rmadeV concFOps) atN z q).1 (faSt (madeV concFOps) (rmadeV concFOps) atN z q).2, 100, ?_, ?_, ?_⟩
    · rw [faAtS_E, faAtS_M qs s.len j hs]
      exact tells_rec (sz := 40) (nt := faF.ntmps) (env := faE s.len (j : Int)) (mem := faM z.1 z.2) hrec (show 0 < 3 by decide)
    · rw [faAtS_E, faAtS_E]
      refine (fa_round concFOps (madeV concFOps) (rmadeV concFOps) atN s.len (j * 40) (j : Int) q z.1 z.2 (by omega) (by omega) ?_ hqo.len ?_).trans ?_
      · rw [show 0 + (j : Int).toNat * 40 = j * 40 by omega]
        exact Nat.beq_refl _
      · rw [asked_conc]
        exact asked_true (hn _) (hn _)
      · rw [hi]
    · rw [faAtS_M qs s.len (j + 1) hnext]
      exact .of (.refl _) (.of (.refl _) (.of (.refl _) .nil))
  · generalize hs : faAll (madeV concFOps) (rmadeV concFOps) atN (qs.take qs.length) = z
    have hf : d_fa.M (faFin (madeV concFOps) (rmadeV concFOps) atN qs s) = faM z.1 z.2 := by
      rw [List.take_length] at hs
      subst hs; rfl
    have hE : d_fa.E (faFin (madeV concFOps) (rmadeV concFOps) atN qs s) = faE s.len (qs.length : Int) := by
      rw [← h1]; rfl
    refine ⟨faM z.1 z.2, 100, ?_, ?_⟩
    · rw [faAtS_E, faAtS_M qs s.len qs.length hs, hE]
      exact fa_last concFOps (madeV concFOps) (rmadeV concFOps) atN s.len (qs.length : Int) _ _ (by omega)
    · rw [hf]
      exact .of (.refl _) (.of (.refl _) (.of (.refl _) .nil))
end Go.Proofs.Ytfajgpjpabeafaa

