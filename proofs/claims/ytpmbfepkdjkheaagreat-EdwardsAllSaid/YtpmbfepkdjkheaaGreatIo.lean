/- EdwardsAll: a round keeps that points and numbers are the document's. -/
import Derived.Test.YtpmbfepkdjkheaaGreatIn
import Derived.Test.YtpmbfepkdjkheaaGreatNh
namespace Go.Proofs.YtpmbfepkdjkheaaGreat
open Go Pw Go.RowKit
/-- what the document's numbers stand for -/
structure AGood (A : AOps) : Prop where
  e : EGood A.e
  rred : ∀ {b : List Nat}, (∀ c ∈ b, c < 256) → ND (A.rred b) (leB b % LN)
  rwhole : ∀ {k : K32}, k.wf → ∃ m, (A.rwhole k).2 = (A.e.swhole k).2 ∧ NK (A.e.swhole k).1 m ∧ ND (A.rwhole k).1 m
  rby : ∀ {a m}, ND a m → (A.rby a).wf ∧ leVal (A.rby a) = m
  riz : ∀ {a m}, ND a m → A.riz a = decide (m = 0)
  ru : ∀ {p P}, RR p P → (A.e.ru p).wf ∧ leVal (A.e.ru p) = (uP P).val
  rsadd : ∀ {a b m n}, ND a m → ND b n → ND (A.rsadd a b) ((m + n) % LN)
  rssub : ∀ {a b m n}, ND a m → ND b n → ND (A.rssub a b) ((m + (LN - n)) % LN)
  rsmul : ∀ {a b m n}, ND a m → ND b n → ND (A.rsmul a b) (m * n % LN)
  rsneg : ∀ {a m}, ND a m → ND (A.rsneg a) ((LN - m) % LN)
theorem concA_e : concA.e = concE := by kernel_rfl
theorem concA_rred (b : List Nat) : concA.rred b = redD concD oneD zeroD b := by kernel_rfl
theorem concA_rwhole (k : K32) : concA.rwhole k = (bif wholeC concD k then redD concD oneD zeroD k.toList else zeroD, bif wholeC concD k then 0 else 191) := by kernel_rfl
theorem concA_rby (a : List Nat) : concA.rby a = bytD a := by kernel_rfl
theorem concA_riz (a : List Nat) : concA.riz a = concD.isz a := by kernel_rfl
theorem concA_rsadd (a b : List Nat) : concA.rsadd a b = concD.add a b := by kernel_rfl
theorem concA_rssub (a b : List Nat) : concA.rssub a b = concD.add (resp 16 a) (resp 16 (concD.neg (resp 16 b))) := by kernel_rfl
theorem concA_rsmul (a b : List Nat) : concA.rsmul a b = redD concD (resp 16 (resp 16 a)) (resp 16 zeroD) (bytD (resp 16 b)).toList := by kernel_rfl
theorem concA_rsneg (a : List Nat) : concA.rsneg a = bif concD.isz (resp 16 a) then a else minuD concD.ord a := by kernel_rfl
theorem concD_neg (a : List Nat) : concD.neg a = bif concD.isz (resp 16 a) then a else minuD concD.ord a := by kernel_rfl
theorem concA_ru (p : Pt3) : concA.e.ru p = ruO concFOps p := by kernel_rfl
theorem FGood.ru_pt {o : FOps} (G : FGood o) {p : Pt3} {P : EPt} (h : RR p P) : (ruO o p).wf ∧ leVal (ruO o p) = (uP P).val := by
  obtain ⟨w, e⟩ := G.rbytes (G.rmul (G.radd h.nc h.nb) (G.rinv (G.rsub h.nc h.nb)))
  refine ⟨w, e.trans (congrArg _ ?_)⟩
  have hz := mul_finv h.p.ne
  have hy := h.p.y
  unfold uP
  generalize rv p.c = Z at *
  generalize rv p.b = Y at *
  rw [show Z - Y = Z * (1 - P.y) by rw [hy]; grind, finv_mul, hy]
  generalize finv Z = z at *
  generalize finv (1 - P.y) = v at *
  generalize P.y = y at *
  clear hy e w h
  grind
theorem concAG : AGood concA where
  e := by rw [concA_e]; exact concEG
  rred h := by rw [concA_rred]; exact ND.red h
  rwhole {k} h := by
    rw [concA_rwhole, concA_e, concEG.swhole h, wholeC_val h]
    by_cases hl : leVal k < LN
    · rw [decide_eq_true hl, cond_true, cond_true, cond_true]
      have h1 := ND.red (b := k.toList) h
      rw [leB_key, Nat.mod_eq_of_lt hl] at h1
      exact ⟨leVal k, rfl, ⟨h, rfl, hl⟩, h1⟩
    · rw [decide_eq_false hl, cond_false, cond_false, cond_false]
      exact ⟨0, rfl, NK.zero, ND.zero⟩
  rby h := by
    rw [concA_rby]
    have := h.key
    rwa [h.resp] at this
  riz h := by rw [concA_riz]; exact h.isz
  ru h := by rw [concA_ru]; exact concGood.ru_pt h
  rsadd h h' := by rw [concA_rsadd]; exact h.add h'
  rssub h h' := by
    rw [concA_rssub, h.resp, h'.resp, h'.neg.resp]
    have h2 := h.add h'.neg
    rwa [Nat.add_mod_mod] at h2
  rsmul h h' := by
    rw [concA_rsmul, h.resp, h.resp, ND.zero.resp]
    exact ND.mul h (h'.key).1 (h'.key).2
  rsneg h := by
    rw [concA_rsneg, ← concD_neg]
    exact h.neg
/-- points and numbers of the program and of the document are the same -/
structure WInv (w : WE) : Prop where
  pt : ∀ j, ∃ P, PO (w.p.get j) P ∧ RR (w.q.get j) P
  nm : ∀ j, ∃ m, NK (w.s.get j) m ∧ ND (w.t.get j) m
theorem V4.get_set {α : Type} (v : V4 α) (k : N4) (x : α) (j : N4) : (v.set k x).get j = x ∨ (v.set k x).get j = v.get j := by
  cases k <;> cases j <;> first | exact .inl rfl | exact .inr rfl
theorem WInv.setP {w : WE} (h : WInv w) (k : N4) {x : Rungs} {y : Pt3} {P : EPt} (hx : PO x P) (hy : RR y P) : WInv (epS w k x y) where
  pt j := by
    obtain ⟨Q, h1, h2⟩ := h.pt j
    cases k <;> cases j <;> first | exact ⟨P, hx, hy⟩ | exact ⟨Q, h1, h2⟩
  nm := h.nm
theorem WInv.setN {w : WE} (h : WInv w) (k : N4) {x : K32} {y : List Nat} {m : Nat} (hx : NK x m) (hy : ND y m) : WInv (enS w k x y) where
  pt := h.pt
  nm j := by
    obtain ⟨n, h1, h2⟩ := h.nm j
    cases k <;> cases j <;> first | exact ⟨m, hx, hy⟩ | exact ⟨n, h1, h2⟩
theorem WInv.wR {w : WE} (h : WInv w) : wR w = w := by
  have h0 := (h.nm .j0).choose_spec.2.resp
  have h1 := (h.nm .j1).choose_spec.2.resp
  have h2 := (h.nm .j2).choose_spec.2.resp
  have h3 := (h.nm .j3).choose_spec.2.resp
  obtain ⟨p, q, s, ⟨ta, tb, tc, td⟩⟩ := w
  unfold Go.Proofs.YtpmbfepkdjkheaaGreat.wR r16
  show WE.mk p q s ⟨resp 16 ta, resp 16 tb, resp 16 tc, resp 16 td⟩ = _
  rw [show resp 16 ta = ta from h0, show resp 16 tb = tb from h1, show resp 16 tc = tc from h2, show resp 16 td = td from h3]
structure OpE.ok (q : OpE) : Prop where
  key : q.key.wf
  byt : ∀ b ∈ q.data, b < 256
  len : q.data.length ≤ 140737488351232
def EWok (x : EW) : Prop := x.right = true ∧ WInv x.w
theorem EWok.brn {a b : EW} {c : Bool} (ha : EWok a) (hb : EWok b) : EWok (brn c a b) := by
  cases c
  · exact hb
  · exact ha
def NWok (x : NW) : Prop := x.r = true ∧ WInv x.w
theorem NWok.brn {a b : NW} {c : Bool} (ha : NWok a) (hb : NWok b) : NWok (brn c a b) := by
  cases c
  · exact hb
  · exact ha
theorem ep_inv {A : AOps} (G : AGood A) {q : OpE} (hq : q.ok) (to a b : N4) {w : WE} (h : WInv w) : EWok (epV A q to a b w) := by
  obtain ⟨P, hp, hp'⟩ := h.pt a
  obtain ⟨Q, hr, hr'⟩ := h.pt b
  obtain ⟨m, hm, hm'⟩ := h.nm b
  have H := G.e
  unfold epV
  refine .brn ?_ (.brn ?_ (.brn ?_ (.brn ?_ (.brn ?_ (.brn ?_ (.brn ?_ (.brn ?_ (.brn ?_ ?_))))))))
  · rcases H.parse hq.key with ⟨R, h1, h2, h3⟩ | ⟨h1, h2, h3⟩ <;> rcases H.rparse hq.key with ⟨S, g1, g2, g3⟩ | ⟨g1, g2, g3⟩
    · have : R = S := h1.inj g1
      subst this
      exact ⟨decide_eq_true (by rw [h2, g2]), h.setP to h3 g3⟩
    · exact absurd h1 (g1 R)
    · exact absurd g1 (h1 S)
    · exact ⟨decide_eq_true (by rw [h2, g2]), h.setP to h3 g3⟩
  · rcases H.lift q.flag hq.key with ⟨R, h1, h2, h3⟩ | ⟨h1, h2, h3⟩ <;> rcases H.rlift q.flag hq.key with ⟨S, g1, g2, g3⟩ | ⟨g1, g2, g3⟩
    · have : R = S := h1.pt.uniq g1.pt
      subst this
      exact ⟨decide_eq_true (by rw [h2, g2]), h.setP to h3 g3⟩
    · exact absurd h1 (g1 R)
    · exact absurd g1 (h1 S)
    · exact ⟨decide_eq_true (by rw [h2, g2]), h.setP to h3 g3⟩
  · exact ⟨rfl, h.setP to (H.padd hp hr) (H.radd hp' hr')⟩
  · exact ⟨rfl, h.setP to (H.psub hp hr) (H.rsub hp' hr')⟩
  · exact ⟨rfl, h.setP to (H.pneg hp) (H.rneg hp')⟩
  · exact ⟨rfl, h.setP to (H.dbl hp) (H.rdbl hp')⟩
  · exact ⟨rfl, h.setP to (H.scale hp hq.byt) (H.rscale hp' hq.byt)⟩
  · rw [hm'.resp, hm'.resp]
    obtain ⟨k1, k2⟩ := G.rby hm'
    have h1 := H.times hp hm.wf
    have h2 := H.rscale (b := (A.rby (w.t.get b)).toList) hp' k1
    rw [leB_key, k2] at h2
    rw [hm.val] at h1
    exact ⟨rfl, h.setP to h1 h2⟩
  · exact ⟨rfl, h.setP to H.base H.rbase⟩
  · exact ⟨rfl, h⟩
theorem en_inv {A : AOps} (G : AGood A) {q : OpE} (hq : q.ok) (to a b : N4) {w : WE} (h : WInv w) : NWok (enV A q to a b w) := by
  obtain ⟨m, hm, hm'⟩ := h.nm a
  obtain ⟨n, hn, hn'⟩ := h.nm b
  have H := G.e
  unfold enV
  rw [hm'.resp, hn'.resp]
  refine .brn ?_ (.brn ?_ (.brn ?_ (.brn ?_ (.brn ?_ (.brn ?_ ?_)))))
  · exact ⟨rfl, h.setN to (H.sred hq.byt) (G.rred hq.byt)⟩
  · obtain ⟨x, h1, h2, h3⟩ := G.rwhole hq.key
    exact ⟨decide_eq_true h1.symm, h.setN to h2 h3⟩
  · exact ⟨rfl, h.setN to (H.sadd hm hn) (G.rsadd hm' hn')⟩
  · exact ⟨rfl, h.setN to (H.ssub hm hn) (G.rssub hm' hn')⟩
  · exact ⟨rfl, h.setN to (H.smul hm hn) (G.rsmul hm' hn')⟩
  · exact ⟨rfl, h.setN to (H.sneg hm) (G.rsneg hm')⟩
  · exact ⟨rfl, h⟩
theorem eaQ_false {A : AOps} (G : AGood A) {w : WE} (h : WInv w) (to ot : N4) : ∀ c ∈ eaQ A w to ot, c = false := by
  obtain ⟨P, hp, hp'⟩ := h.pt to
  obtain ⟨Q, hr, hr'⟩ := h.pt ot
  obtain ⟨m, hm, hm'⟩ := h.nm to
  have H := G.e
  intro c hc
  unfold eaQ at hc
  rw [hm'.resp] at hc
  obtain ⟨u1, u2⟩ := H.u hp
  obtain ⟨v1, v2⟩ := G.ru hp'
  obtain ⟨k1, k2⟩ := G.rby hm'
  have e1 := encK_same (H.bytes hp) (H.rbytes hp')
  have e2 : keyEq (A.e.u (w.p.get to)) (A.e.ru (w.q.get to)) = true := by rw [key_eq_iff u1 v1, u2, v2]; exact decide_eq_true rfl
  have e3 : keyEq (w.s.get to) (A.rby (w.t.get to)) = true := by rw [key_eq_iff hm.wf k1, hm.val, k2]; exact decide_eq_true rfl
  rw [e1, e2, e3, H.equal hp hr, H.requal hp' hr', H.isn hp, H.risn hp', H.small hp, H.rsmall hp', H.sisz hm, G.riz hm'] at hc
  simp only [List.mem_cons, List.not_mem_nil, or_false, beq_self_eq_true, Bool.not_true, or_self] at hc
  exact hc
theorem EW.same {F : OpE → WE → EW} {q : OpE} {w : WE} (h : WInv w) : F q (wR w) = F q w := by rw [h.wR]
theorem eaW_inv {A : AOps} (G : AGood A) {q : OpE} (hq : q.ok) (t : Int → N4) {w : WE} (h : WInv w) : WInv (eaW (epF0 A t) (enF0 A t) q w) := by
  have h1 := ep_inv G hq (t q.to) (t q.a) (t q.b) h
  have h2 := en_inv G hq (t q.to) (t q.a) (t q.b) h1.2
  unfold eaW
  rw [h.wR]
  show WInv (brn (!(epV A q (t q.to) (t q.a) (t q.b) w).is) (enF0 A t q (wR (epV A q (t q.to) (t q.a) (t q.b) w).w)).w (epV A q (t q.to) (t q.a) (t q.b) w).w)
  rw [h1.2.wR]
  cases (epV A q (t q.to) (t q.a) (t q.b) w).is
  · exact h2.2
  · exact h1.2
/-- a round, where the world is as it must be -/
theorem ea_round_ok {A : AOps} (G : AGood A) (t : Int → N4) (n p : Nat) (i : Int) {q : OpE} (hq : q.ok) {w : WE} (hw : WInv w) (h1 : 0 ≤ i) (h2 : i < (n : Int)) (h3 : Nat.beq (0 + i.toNat * 39) p = true) :
    codeK (X_ea A t (epF0 A t) (enF0 A t)) [] eaF.ntmps [0,2,3,4,5,6,7,8,9,10,11,12,16,28,50,51,52,53,54,55,56,57,58,77,78,79,80,81,84,85,86,87,88,89,90,91,92,93,94,95,96,97,98,99,100,101,108,109,110,111,112,115,116,117,118,119,120,121,122,123,124,125,126,127,128,129,132,133,134,135,136,137,138,139,140,141,142,143,144,145,146,147] 100 eaB (eaE n i) (eaM1 p q w) eaO = some (.normal, eaE n (w64 (i + 1)), eaM (eaW (epF0 A t) (enF0 A t) q w)) := by
  have g1 := ep_inv G hq (t q.to) (t q.a) (t q.b) hw
  have g2 := en_inv G hq (t q.to) (t q.a) (t q.b) g1.2
  refine ea_round A t (epF0 A t) (enF0 A t) n p i q w h1 h2 h3 hq.len ?_ (fun _ => ?_) (eaQ_false G (eaW_inv G hq t hw) _ _)
  · rw [hw.wR]; exact g1.1
  · rw [hw.wR]
    show (enF0 A t q (wR (epV A q (t q.to) (t q.a) (t q.b) w).w)).r = true
    rw [g1.2.wR]; exact g2.1
end Go.Proofs.YtpmbfepkdjkheaaGreat

