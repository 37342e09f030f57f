/- Layer 20: the program's answers are the document's, in plain. -/
import Derived.Test.YtnnjaijokiknkaaGreatSi
namespace Go.Proofs.YtnnjaijokiknkaaGreat
open Go Pw Go.RowKit
structure DGood (g : GOps) : Prop where
  red : ∀ {b : List Nat}, (∀ c ∈ b, c < 256) → ND (g.dred b) (leB b % LN)
  whole0 : ∀ {k : K32}, k.wf → leVal k < LN → (g.dwhole k).2 = 0 ∧ ND (g.dwhole k).1 (leVal k)
  whole1 : ∀ {k : K32}, k.wf → ¬ leVal k < LN → (g.dwhole k).2 = 191
  add : ∀ {a b : List Nat} {m n : Nat}, ND a m → ND b n → ND (g.dadd a b) ((m + n) % LN)
  mul : ∀ {a b : List Nat} {m n : Nat}, ND a m → ND b n → ND (g.dmul a b) (m * n % LN)
  neg : ∀ {a : List Nat} {m : Nat}, ND a m → ND (g.dneg a) ((LN - m) % LN)
  bytes : ∀ {a : List Nat} {m : Nat}, ND a m → (g.dbytes (resp 16 a)).wf ∧ leVal (g.dbytes (resp 16 a)) = m
theorem conc_dred (b : List Nat) : concGO.dred b = redD concD oneD zeroD b := by kernel_rfl
theorem conc_dwhole (k : K32) : concGO.dwhole k = (bif wholeC concD k then redD concD oneD zeroD k.toList else zeroD, bif wholeC concD k then 0 else 191) := by kernel_rfl
theorem conc_dadd (a b : List Nat) : concGO.dadd a b = concD.add a b := by kernel_rfl
theorem conc_dmul (a b : List Nat) : concGO.dmul a b = redD concD (resp 16 (resp 16 a)) (resp 16 zeroD) (bytD (resp 16 b)).toList := by kernel_rfl
theorem conc_dneg (a : List Nat) : concGO.dneg a = concD.neg a := by kernel_rfl
theorem conc_dbytes (a : List Nat) : concGO.dbytes a = bytD a := by kernel_rfl
theorem concDG : DGood concGO where
  red h := by rw [conc_dred]; exact ND.red h
  whole0 {k} h hl := by
    rw [conc_dwhole, wholeC_val h, decide_eq_true hl, cond_true, cond_true]
    refine ⟨rfl, ?_⟩
    have h1 := ND.red (b := k.toList) h
    rwa [leB_key, Nat.mod_eq_of_lt hl] at h1
  whole1 h hl := by rw [conc_dwhole, wholeC_val h, decide_eq_false hl, cond_false, cond_false]
  add h h' := by rw [conc_dadd]; exact h.add h'
  mul h h' := by
    rw [conc_dmul, h.resp, h.resp, zeroD_ok.resp]
    exact ND.mul h (h'.key).1 (h'.key).2
  neg h := by rw [conc_dneg]; exact h.neg
  bytes h := by rw [conc_dbytes]; exact h.key
variable {g : GOps}
theorem app_lt {a b : List Nat} (ha : ∀ c ∈ a, c < 256) (hb : ∀ c ∈ b, c < 256) : ∀ c ∈ a ++ b, c < 256 := fun c hc => (List.mem_append.1 hc).elim (ha c) (hb c)
theorem GGood.r64 (H : GGood g) (b : List Nat) : resp 64 (g.hash b) = g.hash b := resp_eq (H.hb b).2
/-- the number that a hash is, by both -/
theorem GGood.redG (H : GGood g) (D : DGood g) {b : List Nat} (hb : ∀ c ∈ b, c < 256) : ∃ n, NK (redG g b) n ∧ ND (scG g b) n := by
  refine ⟨leB (g.hash b) % LN, ?_, ?_⟩
  · unfold Go.Proofs.YtnnjaijokiknkaaGreat.redG
    rw [H.r64]
    exact H.e.sred (H.hb b).1
  · unfold scG
    rw [← H.hash hb, H.r64]
    exact D.red (H.hb b).1
theorem DGood.times (H : GGood g) (D : DGood g) {p : Pt3} {P : EPt} {a : List Nat} {m : Nat} (hp : RR p P) (ha : ND a m) : RR (g.e.rscale p (g.dbytes (resp 16 a)).toList) (P.mul m) := by
  obtain ⟨w, e⟩ := D.bytes ha
  have := H.e.rscale (b := (g.dbytes (resp 16 a)).toList) hp w
  rwa [leB_key, e] at this
theorem GGood.times (H : GGood g) {p : Rungs} {P : EPt} {k : K32} {m : Nat} (hp : PO p P) (hk : NK k m) : PO (g.e.times p k) (P.mul m) := by
  have := H.e.times hp hk.wf
  rwa [hk.val] at this
theorem hold_eq (H : GGood g) (D : DGood g) {p : Rungs} {q : Pt3} {P : EPt} (hp : PO p P) (hq : RR q P) {b t : List Nat} (hb : ∀ c ∈ b, c < 256) (ht : ∀ c ∈ t, c < 256) : holdV g p b t = rholdV g q b t := by
  have hk := keyAt_wf ht 32
  have h0 := keyAt_wf ht 0
  unfold holdV rholdV
  rw [H.e.small hp, H.e.rsmall hq]
  cases decide (eightP P = EP.zero ED)
  · rw [cond_false, cond_false]
    have ew : hlW g t = bif decide (leVal (keyAt t 32) < LN) then (keyAt t 32, 0) else (zeroK, 191) := H.e.swhole hk
    by_cases hl : leVal (keyAt t 32) < LN
    · rw [decide_eq_true hl, cond_true] at ew
      obtain ⟨d1, d2⟩ := D.whole0 hk hl
      have d1' : (rhW g t).2 = 0 := d1
      rw [ew, d1']
      have hn : NK (keyAt t 32) (leVal (keyAt t 32)) := ⟨hk, rfl, hl⟩
      have eb := (H.e.bytes hp).uniq (H.e.rbytes hq)
      have hm : ∀ c ∈ (keyAt t 0).toList ++ (g.e.bytes p).toList ++ b, c < 256 := app_lt (app_lt h0 (H.e.bytes hp).wf) hb
      obtain ⟨m, m1, m2⟩ := H.redG D hm
      have m2' : ND (rhC g q b t) m := by
        unfold rhC
        rw [← eb]
        exact m2
      have x1 : EncK (hlB g p b t) ((BP.mul (leVal (keyAt t 32))).add (P.mul m).neg) := by
        unfold hlB
        rw [ew]
        exact H.e.bytes (H.e.psub (H.times H.e.base hn) (H.times hp m1))
      have x2 : EncK (rhB g q b t) ((BP.mul (leVal (keyAt t 32))).add (P.mul m).neg) := by
        have r1 : ND (resp 16 (rhW g t).1) (leVal (keyAt t 32)) := by
          have : ND (rhW g t).1 (leVal (keyAt t 32)) := d2
          rw [this.resp]; exact this
        have r2 : ND (resp 16 (rhC g q b t)) m := by rw [m2'.resp]; exact m2'
        exact H.e.rbytes (H.e.rsub (D.times H H.e.rbase r1) (D.times H hq r2))
      rw [x1.uniq x2]
      rfl
    · rw [decide_eq_false hl, cond_false] at ew
      have d1' : (rhW g t).2 = 191 := D.whole1 hk hl
      rw [ew, d1']
      rfl
  · rfl
theorem made_eq (H : GGood g) (D : DGood g) {r s a : K32} {r' s' : List Nat} {m n : Nat} (hr : NK r m) (hr' : ND r' m) (hs : NK s n) (hs' : ND s' n) (ha : a.wf) {b : List Nat} (hb : ∀ c ∈ b, c < 256) : madeV g r s a b = rmadeV g r' s' a b := by
  have r1 : ND (resp 16 r') m := by rw [hr'.resp]; exact hr'
  have s1 : ND (resp 16 s') n := by rw [hs'.resp]; exact hs'
  have p1 : EncK (mdP g r) (BP.mul m) := H.e.bytes (H.times H.e.base hr)
  have p2 : EncK (rmP g r') (BP.mul m) := H.e.rbytes (D.times H H.e.rbase r1)
  have ep : mdP g r = rmP g r' := p1.uniq p2
  have hm : ∀ c ∈ (mdP g r).toList ++ a.toList ++ b, c < 256 := app_lt (app_lt p1.wf ha) hb
  obtain ⟨c, c1, c2⟩ := H.redG D hm
  have c2' : ND (rmC g r' a b) c := by
    unfold rmC
    rw [← ep]
    exact c2
  have k1 : NK (mdS g r s a b) ((m + c * n % LN) % LN) := H.e.sadd hr (H.e.smul c1 hs)
  have c3 : ND (resp 16 (rmC g r' a b)) c := by rw [c2'.resp]; exact c2'
  have m3 := D.mul c3 s1
  have m4 : ND (resp 16 (g.dmul (resp 16 (rmC g r' a b)) (resp 16 s'))) (c * n % LN) := by rw [m3.resp]; exact m3
  obtain ⟨w, e⟩ := D.bytes (D.add r1 m4)
  have es : mdS g r s a b = rmS g r' s' a b := leVal_inj k1.wf w (by rw [k1.val]; exact e.symm)
  unfold madeV rmadeV
  rw [ep, es]
theorem honour_eq (H : GGood g) (D : DGood g) {k : K32} (hk : k.wf) {b t : List Nat} (hb : ∀ c ∈ b, c < 256) (ht : ∀ c ∈ t, c < 256) : honourV g k b t = rhonourV g k b t := by
  have ek : hnK g k = rhnK g k := by
    unfold hnK rhnK
    obtain ⟨w1, v1⟩ := H.f.bytes (H.f.frm hk)
    obtain ⟨w2, v2⟩ := H.f.rbytes (H.f.rfrm hk)
    rw [key_eq_iff w1 hk, key_eq_iff w2 hk, v1, v2]
  unfold honourV rhonourV
  rw [ek]
  cases rhnK g k
  · rfl
  · rw [Bool.true_and, cond_true]
    rcases H.e.lift false hk with ⟨P, h1, h2, h3⟩ | ⟨h1, h2, h3⟩ <;> rcases H.e.rlift false hk with ⟨Q, g1, g2, g3⟩ | ⟨g1, g2, g3⟩
    · have : P = Q := h1.pt.uniq g1.pt
      subst this
      rw [h2, g2, hold_eq H D h3 g3 hb ht]
      rfl
    · exact absurd h1 (g1 P)
    · exact absurd g1 (h1 Q)
    · rw [h2, g2]; rfl
theorem check_eq (H : GGood g) (D : DGood g) {k : K32} (hk : k.wf) {b t : List Nat} (hb : ∀ c ∈ b, c < 256) (ht : ∀ c ∈ t, c < 256) : checkV g k b t = rcheckV g k b t := by
  unfold checkV rcheckV
  rcases H.e.parse hk with ⟨P, h1, h2, h3⟩ | ⟨h1, h2, h3⟩ <;> rcases H.e.rparse hk with ⟨Q, g1, g2, g3⟩ | ⟨g1, g2, g3⟩
  · have : P = Q := h1.inj g1
    subst this
    rw [h2, g2, hold_eq H D h3 g3 hb ht]
    rfl
  · exact absurd h1 (g1 P)
  · exact absurd g1 (h1 Q)
  · rw [h2, g2]; rfl
theorem pre_eq (H : GGood g) {seed : List Nat} (hs : ∀ c ∈ seed, c < 256) : preL g seed = rpreL g seed ∧ ∀ c ∈ preL g seed, c < 256 := by
  refine ⟨?_, keyAt_wf (H.hb seed).1 32⟩
  unfold preL rpreL
  rw [H.hash hs]
theorem nd_resp {l : List Nat} {n : Nat} (h : ND l n) : ND (resp 16 l) n := by rw [h.resp]; exact h
theorem sign_eq (H : GGood g) (D : DGood g) {seed b : List Nat} (hs : ∀ c ∈ seed, c < 256) (hb : ∀ c ∈ b, c < 256) : signV g seed b = rsignV g seed b := by
  unfold signV rsignV
  cases is32 seed
  · rfl
  · rw [cond_true, cond_true]
    obtain ⟨e1, w1⟩ := pre_eq H hs
    obtain ⟨w2, e2⟩ := H.sec hs
    obtain ⟨c, c1, c2⟩ := H.redG D (app_lt w1 hb)
    have c2' : ND (rsgR g seed b) c := by
      unfold rsgR
      rw [← e1]
      exact c2
    have s1 : NK (sgS g seed) (leB (secK g seed).toList % LN) := H.e.sred (b := (secK g seed).toList) w2
    have s2 : ND (rsgS g seed) (leB (secK g seed).toList % LN) := by
      unfold rsgS
      rw [e2]
      exact D.red (b := (secK g seed).toList) w2
    have ep := (H.pub hs).uniq (H.rpub hs)
    rw [made_eq H D (r := sgR g seed b) c1 (nd_resp c2') s1 (nd_resp s2) (H.pub hs).wf hb, ep]
theorem hi_same : ∀ b, b < 256 → (!decide (b &&& 128 = 0)) = decide (128 ≤ b) := by decide +kernel
theorem lowA_enc {k : K32} {P : EPt} (h : EncK k P) (hh : 128 ≤ k.b31) : EncK (lowA k) P.neg := by
  have hb := b31_lt h.wf
  obtain ⟨r, h1, h2⟩ := hi_low h.wf
  have e : lowA k = { k with b31 := k.b31 - 128 } := by unfold lowA; rw [show (k.b31 + (2 ^ 8 - 128)) % 2 ^ 8 = k.b31 - 128 by omega]
  have h3 := hi_split k (k.b31 - 128)
  have hsp := h.split
  have hl : leVal k = B255 * 1 + leVal { k with b31 := k.b31 - 128 } := by unfold B255; omega
  have hlt : leVal { k with b31 := k.b31 - 128 } < B255 := by unfold B255; omega
  have hx : P.x.val % 2 = 1 := by
    rw [← hsp.2, hl, Nat.mul_add_div (by decide), Nat.div_eq_of_lt hlt]
  have hy : leVal { k with b31 := k.b31 - 128 } = P.y.val := by
    rw [← hsp.1, hl, Nat.mul_add_mod, Nat.mod_eq_of_lt hlt]
  have hx0 : P.x ≠ 0 := fun h0 => by
    rw [h0] at hx
    exact absurd hx (by decide)
  have hn := fneg_val hx0
  have hp := fp_lt P.x
  have ho := PP_odd
  rw [e]
  refine ⟨hi_wf h.wf (by omega), ?_⟩
  show _ = P.y.val + B255 * ((-P.x).val % 2)
  rw [hy, hn, show (PP - P.x.val) % 2 = 0 by omega, Nat.mul_zero, Nat.add_zero]
theorem lend_eq (H : GGood g) (D : DGood g) {k : K32} (hk : k.wf) {b m : List Nat} (hb : ∀ c ∈ b, c < 256) (hm : ∀ c ∈ m, c < 256) : lendV g k b m = rlendV g k b m := by
  have ek := clamp_eq hk
  have wk := clampR_wf hk
  have p1 : PO (lnP g k) (BP.mul (leB (clampR k).toList)) := by
    unfold lnP
    rw [ek]
    exact H.e.scale (b := (clampR k).toList) H.e.base wk
  have a2 : EncK (rlnA g k) (BP.mul (leB (clampR k).toList)) := H.e.rbytes (H.e.rscale (b := (clampR k).toList) H.e.rbase wk)
  have ea : g.e.bytes (lnP g k) = rlnA g k := (H.e.bytes p1).uniq a2
  have s1 : NK (lnS g k) (leB (clampR k).toList % LN) := by
    unfold lnS
    rw [ek]
    exact H.e.sred (b := (clampR k).toList) wk
  have s2 : ND (rlnS g k) (leB (clampR k).toList % LN) := D.red (b := (clampR k).toList) wk
  have eh : lnH g k = rlnH g k := by
    unfold lnH rlnH
    rw [ea, hi_same _ (b31_lt a2.wf)]
  obtain ⟨n, n1, n2, aw, ae⟩ : ∃ n, NK (lendS g k) n ∧ ND (rlendS g k) n ∧ (lendA g k).wf ∧ lendA g k = rlendA g k := by
    unfold lendS rlendS lendA rlendA
    rw [eh]
    cases hh : rlnH g k
    · exact ⟨_, s1, s2, (H.e.bytes p1).wf, ea⟩
    · have hq : 128 ≤ (rlnA g k).b31 := of_decide_eq_true hh
      have x1 := H.e.bytes (H.e.pneg p1)
      exact ⟨_, H.e.sneg s1, D.neg (nd_resp s2), x1.wf, x1.uniq (lowA_enc a2 hq)⟩
  obtain ⟨ow, oe⟩ := D.bytes n2
  have eo : lendS g k = rlnO g (rlendS g k) := leVal_inj n1.wf ow (by rw [n1.val]; exact oe.symm)
  have fl : ∀ c ∈ firstL, c < 256 := fun c hc => of_decide_eq_true (List.all_eq_true.1 (show List.all firstL (fun b => decide (b < 256)) = true by decide +kernel) c hc)
  obtain ⟨c, c1, c2⟩ := H.redG D (app_lt (app_lt (app_lt fl n1.wf) hb) hm)
  have c2' : ND (rlnR g (rlendS g k) b m) c := by
    unfold rlnR
    rw [← eo]
    exact c2
  unfold lendV rlendV
  cases is64 m
  · rfl
  · rw [cond_true, cond_true, made_eq H D (r := lnR g (lendS g k) b m) c1 (nd_resp c2') n1 (nd_resp n2) aw hb, ae]
theorem hand_len (b : List Nat) : (handL b).length = b.length + 80 := by unfold handL; rw [List.length_append, mk20_len]
theorem hand_take (b : List Nat) : List.take ((b.length : Int).toNat - 0) (List.drop (0 + 0 * 1) (handL b)) = b := by
  rw [show (b.length : Int).toNat - 0 = b.length by omega, show 0 + 0 * 1 = 0 from rfl, List.drop_zero]
  unfold handL
  rw [List.take_left' rfl]
theorem hand_all (b : List Nat) : List.take (b.length + 80) (List.drop 0 (handL b)) = handL b := by
  rw [List.drop_zero, ← hand_len, List.take_length]
def hnA (s : List Nat) : List Nat := handL (tkL s.length s)
def hnI (s : List Nat) : List Nat := List.take ((s.length : Int).toNat - 0) (List.drop (0 + 0 * 1) (hnA s))
def hnL (s : List Nat) : List Nat := List.take ((tkL s.length s).length + 80) (List.drop 0 (hnA s))
theorem hnA_eq (s : List Nat) : hnA s = handL s := by unfold hnA; rw [tkL_eq]
theorem hnI_eq (s : List Nat) : hnI s = s := by unfold hnI; rw [hnA_eq, hand_take]
theorem hnL_eq (s : List Nat) : hnL s = handL s := by unfold hnL; rw [tkL_eq, hnA_eq, hand_all]
end Go.Proofs.YtnnjaijokiknkaaGreat

