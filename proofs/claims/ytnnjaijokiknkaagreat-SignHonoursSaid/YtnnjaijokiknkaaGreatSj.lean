/- Layer 20: the program's answers are the document's, in plain. -/
import Derived.Test.YtnnjaijokiknkaaGreatSi
namespace Go.Proofs.YtnnjaijokiknkaaGreat
open Go Pw Go.RowKit
structure DGood (g : GOps) : Prop where
  red : ∀ {b : List Nat}, (∀ c ∈ b, c < 256) → ND (g.dred b) (leB b % LN)
  whole0 : ∀ {k : K32}, k.wf → leVal k < LN → (g.dwhole k).2 = 0 ∧ ND (g.dwhole k).1 (leVal k)
  whole1 : ∀ {k : K32}, k.wf → ¬ leVal k < LN → (g.dwhole k).2 = 191
  add : ∀ {a b : List Nat} {m n : Nat}, ND a m → ND b n → ND (g.dadd a b) ((m + n) % LN)
  mul : ∀ {a b : List Nat} {m n : Nat}, ND a m → ND b n → ND (g.dmul a b) (m * n % LN)
  neg : ∀ {a : List Nat} {m : Nat}, ND a m → ND (g.dneg a) ((LN - m) % LN)
  bytes : ∀ {a : List Nat} {m : Nat}, ND a m → (g.dbytes (resp 16 a)).wf ∧ leVal (g.dbytes (resp 16 a)) = m
theorem conc_dred (b : List Nat) : concGO.dred b = redD concD oneD zeroD b := by kernel_rfl
theorem conc_dwhole (k : K32) : concGO.dwhole k = (bif wholeC concD k then redD concD oneD zeroD k.toList else zeroD, bif wholeC concD k then 0 else 191) := by kernel_rfl
theorem conc_dadd (a b : List Nat) : concGO.dadd a b = concD.add a b := by kernel_rfl
theorem conc_dmul (a b : List Nat) : concGO.dmul a b = redD concD (resp 16 (resp 16 a)) (resp 16 zeroD) (bytD (resp 16 b)).toList := by kernel_rfl
theorem conc_dneg (a : List Nat) : concGO.dneg a = concD.neg a := by kernel_rfl
theorem conc_dbytes (a : List Nat) : concGO.dbytes a = bytD a := by kernel_rfl
theorem concDG : DGood concGO where
  red h := by rw [conc_dred]; exact ND.red h
  whole0 {k} h hl := by
    rw [conc_dwhole, wholeC_val h, decide_eq_true hl, cond_true, cond_true]
    refine ⟨rfl, ?_⟩
    have h1 := ND.red (b := k.toList) h
    rwa [leB_key, Nat.mod_eq_of_lt hl] at h1
  whole1 h hl := by rw [conc_dwhole, wholeC_val h, decide_eq_false hl, cond_false, cond_false]
  add h h' := by rw [conc_dadd]; exact h.add h'
  mul h h' := by
    rw [conc_dmul, h.resp, h.resp, zeroD_ok.resp]
    exact ND.mul h (h'.key).1 (h'.key).2
  neg h := by rw [conc_dneg]; exact h.neg
  bytes h := by rw [conc_dbytes]; exact h.key
variable {g : GOps}
theorem app_lt {a b : List Nat} (ha : ∀ c ∈ a, c < 256) (hb : ∀ c ∈ b, c < 256) : ∀ c ∈ a ++ b, c < 256 := fun c hc => (List.mem_append.1 hc).elim (ha c) (hb c)
theorem GGood.r64 (H : GGood g) (b : List Nat) : resp 64 (g.hash b) = g.hash b := resp_eq (H.hb b).2
/-- the number that a hash is, by both -/
theorem GGood.redG (H : GGood g) (D : DGood g) {b : List Nat} (hb : ∀ c ∈ b, c < 256) : ∃ n, NK (redG g b) n ∧ ND (scG g b) n := by
  refine ⟨leB (g.hash b) % LN, ?_, ?_⟩
  · unfold Go.Proofs.YtnnjaijokiknkaaGreat.redG
    rw [H.r64]
    exact H.e.sred (H.hb b).1
  · unfold scG
    rw [← H.hash hb, H.r64]
    exact D.red (H.hb b).1
theorem DGood.times (H : GGood g) (D : DGood g) {p : Pt3} {P : EPt} {a : List Nat} {m : Nat} (hp : RR p P) (ha : ND a m) : RR (g.e.rscale p (g.dbytes (resp 16 a)).toList) (P.mul m) := by
  obtain ⟨w, e⟩ := D.bytes ha
  have := H.e.rscale (b := (g.dbytes (resp 16 a)).toList) hp w
  rwa [leB_key, e] at this
theorem GGood.times (H : GGood g) {p : Rungs} {P : EPt} {k : K32} {m : Nat} (hp : PO p P) (hk : NK k m) : PO (g.e.times p k) (P.mul m) := by
  have := H.e.times hp hk.wf
  rwa [hk.val] at this
theorem hold_eq (H : GGood g) (D : DGood g) {p : Rungs} {q : Pt3} {P : EPt} (hp : PO p P) (hq : RR q P) {b t : List Nat} (hb : ∀ c ∈ b, c < 256) (ht : ∀ c ∈ t, c < 256) : holdV g p b t = rholdV g q b t := by
  have hk := keyAt_wf ht 32
  have h0 := keyAt_wf ht 0
  unfold holdV rholdV
  rw [H.e.small hp, H.e.rsmall hq]
  cases decide (eightP P = EP.zero ED)
  · rw [cond_false, cond_false]
    have ew : hlW g t = bif decide (leVal (keyAt t 32) < LN) then (keyAt t 32, 0) else (zeroK, 191) := H.e.swhole hk
    by_cases hl : leVal (keyAt t 32) < LN
    · rw [decide_eq_true hl, cond_true] at ew
      obtain ⟨d1, d2⟩ := D.whole0 hk hl
      have d1' : (rhW g t).2 = 0 := d1
      rw [ew, d1']
      have hn : NK (keyAt t 32) (leVal (keyAt t 32)) := ⟨hk, rfl, hl⟩
      have eb := (H.e.bytes hp).uniq (H.e.rbytes hq)
      have hm : ∀ c ∈ (keyAt t 0).toList ++ (g.e.bytes p).toList ++ b, c < 256 := app_lt (app_lt h0 (H.e.bytes hp).wf) hb
      obtain ⟨m, m1, m2⟩ := H.redG D hm
      have m2' : ND (rhC g q b t) m := by
        unfold rhC
        rw [← eb]
        exact m2
      have x1 : EncK (hlB g p b t) ((BP.mul (leVal (keyAt t 32))).add (P.mul m).neg) := by
        unfold hlB
        rw [ew]
        exact H.e.bytes (H.e.psub (H.times H.e.base hn) (H.times hp m1))
      have x2 : EncK (rhB g q b t) ((BP.mul (leVal (keyAt t 32))).add (P.mul m).neg) := by
        have r1 : ND (resp 16 (rhW g t).1) (leVal (keyAt t 32)) := by
          have : ND (rhW g t).1 (leVal (keyAt t 32)) := d2
          rw [this.resp]; exact this
        have r2 : ND (resp 16 (rhC g q b t)) m := by rw [m2'.resp]; exact m2'
        exact H.e.rbytes (H.e.rsub (D.times H H.e.rbase r1) (D.times H hq r2))
      rw [x1.uniq x2]
      rfl
    · rw [decide_eq_false hl, cond_false] at ew
      have d1' : (rhW g t).2 = 191 := D.whole1 hk hl
      rw [ew, d1']
      rfl
  · rfl
theorem made_eq (H : GGood g) (D : DGood g) {r s a : K32} {r' s' : List Nat} {m n : Nat} (hr : NK r m) (hr' : ND r' m) (hs : NK s n) (hs' : ND s' n) (ha : a.wf) {b : List Nat} (hb : ∀ c ∈ b, c < 256) : madeV g r s a b = rmadeV g r' s' a b := by
  have r1 : ND (resp 16 r') m := by rw [hr'.resp]; exact hr'
  have s1 : ND (resp 16 s') n := by rw [hs'.resp]; exact hs'
  have p1 : EncK (mdP g r) (BP.mul m) := H.e.bytes (H.times H.e.base hr)
  have p2 : EncK (rmP g r') (BP.mul m) := H.e.rbytes (D.times H H.e.rbase r1)
  have ep : mdP g r = rmP g r' := p1.uniq p2
  have hm : ∀ c ∈ (mdP g r).toList ++ a.toList ++ b, c < 256 := app_lt (app_lt p1.wf ha) hb
  obtain ⟨c, c1, c2⟩ := H.redG D hm
  have c2' : ND (rmC g r' a b) c := by
    unfold rmC
    rw [← ep]
    exact c2
  have k1 : NK (mdS g r s a b) ((m + c * n % LN) % LN) := H.e.sadd hr (H.e.smul c1 hs)
  have c3 : ND (resp 16 (rmC g r' a b)) c := by rw [c2'.resp]; exact c2'
  have m3 := D.mul c3 s1
  have m4 : ND (resp 16 (g.dmul (resp 16 (rmC g r' a b)) (resp 16 s'))) (c * n % LN) := by rw [m3.resp]; exact m3
  obtain ⟨w, e⟩ := D.bytes (D.add r1 m4)
  have es : mdS g r s a b = rmS g r' s' a b := leVal_inj k1.wf w (by rw [k1.val]; exact e.symm)
  unfold madeV rmadeV
  rw [ep, es]
theorem honour_eq (H : GGood g) (D : DGood g) {k : K32} (hk : k.wf) {b t : List Nat} (hb : ∀ c ∈ b, c < 256) (ht : ∀ c ∈ t, c < 256) : honourV g k b t = rhonourV g k b t := by
  have ek : hnK g k = rhnK g k := by
    unfold hnK rhnK
    obtain ⟨w1, v1⟩ := H.f.bytes (H.f.frm hk)
    obtain ⟨w2, v2⟩ := H.f.rbytes (H.f.rfrm hk)
    rw [key_eq_iff w1 hk, key_eq_iff w2 hk, v1, v2]
  unfold honourV rhonourV
  rw [ek]
  cases rhnK g k
  · rfl
  · rw [Bool.true_and, cond_true]
    rcases H.e.lift false hk with ⟨P, h1, h2, h3⟩ | ⟨h1, h2, h3⟩ <;> rcases H.e.rlift false hk with ⟨Q, g1, g2, g3⟩ | ⟨g1, g2, g3⟩
    · have : P = Q := h1.pt.uniq g1.pt
      subst this
      rw [h2, g2, hold_eq H D h3 g3 hb ht]
      rfl
    · exact absurd h1 (g1 P)
    · exact absurd g1 (h1 Q)
    · rw [h2, g2]; rfl
theorem check_eq (H : GGood g) (D : DGood g) {k : K32} (hk : k.wf) {b t : List Nat} (hb : ∀ c ∈ b, c < 256) (ht : ∀ c ∈ t, c < 256) : checkV g k b t = rcheckV g k b t := by
  unfold checkV rcheckV
  rcases H.e.parse hk with ⟨P, h1, h2, h3⟩ | ⟨h1, h2, h3⟩ <;> rcases H.e.rparse hk with ⟨Q, g1, g2, g3⟩ | ⟨g1, g2, g3⟩
  · have : P = Q := h1.inj g1
    subst this
    rw [h2, g2, hold_eq H D h3 g3 hb ht]
    rfl
  · exact absurd h1 (g1 P)
  · exact absurd g1 (h1 Q)
  · rw [h2, g2]; rfl
theorem hand_len (b : List Nat) : (handL b).length = b.length + 80 := by unfold handL; rw [List.length_append, mk20_len]
theorem hand_take (b : List Nat) : List.take ((b.length : Int).toNat - 0) (List.drop (0 + 0 * 1) (handL b)) = b := by
  rw [show (b.length : Int).toNat - 0 = b.length by omega, show 0 + 0 * 1 = 0 from rfl, List.drop_zero]
  unfold handL
  rw [List.take_left' rfl]
theorem hand_all (b : List Nat) : List.take (b.length + 80) (List.drop 0 (handL b)) = handL b := by
  rw [List.drop_zero, ← hand_len, List.take_length]
def hnA (s : List Nat) : List Nat := handL (tkL s.length s)
def hnI (s : List Nat) : List Nat := List.take ((s.length : Int).toNat - 0) (List.drop (0 + 0 * 1) (hnA s))
def hnL (s : List Nat) : List Nat := List.take ((tkL s.length s).length + 80) (List.drop 0 (hnA s))
theorem hnA_eq (s : List Nat) : hnA s = handL s := by unfold hnA; rw [tkL_eq]
theorem hnI_eq (s : List Nat) : hnI s = s := by unfold hnI; rw [hnA_eq, hand_take]
theorem hnL_eq (s : List Nat) : hnL s = handL s := by unfold hnL; rw [tkL_eq, hnA_eq, hand_all]
end Go.Proofs.YtnnjaijokiknkaaGreat

