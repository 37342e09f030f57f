/- Layer 19: what the variables stand for; lives and same. -/
import Derived.Test.YtpmbfepkdjkheaaGreatPg
namespace Go.Proofs.YtpmbfepkdjkheaaGreat
open Go Pw Go.RowKit

/-- questions, one behind the other: all of them -/
noncomputable def chB : List Bool → Option (AV × Option Blk)
  | [] => some (.bool true, none)
  | [c] => some (.bool c, none)
  | c :: l => brn c (chB l) (some (.bool false, none))
/-- questions, one behind the other: any of them -/
noncomputable def orB {α : Type} : List Bool → α → α → α
  | [], _, e => e
  | [c], t, e => brn c t e
  | c :: l, t, e => brn c t (orB l t e)
def noB : Option (AV × Option Blk) := some (.bool false, none)
theorem chB_true : ∀ {l : List Bool}, (∀ c ∈ l, c = true) → chB l = some (.bool true, none)
  | [], _ => rfl
  | [c], h => by rw [h c (by simp)]; rfl
  | c :: d :: l, h => by
    have := chB_true (l := d :: l) fun x hx => h x (by simp only [List.mem_cons] at hx ⊢; exact .inr hx)
    rw [chB, this, h c (by simp)]
    · rfl
    · simp
theorem orB_false {α : Type} {t e : α} : ∀ {l : List Bool}, (∀ c ∈ l, c = false) → orB l t e = e
  | [], _ => rfl
  | [c], h => by rw [h c (by simp)]; rfl
  | c :: d :: l, h => by
    have := orB_false (t := t) (e := e) (l := d :: l) fun x hx => h x (by simp only [List.mem_cons] at hx ⊢; exact .inr hx)
    rw [orB, this, h c (by simp)]
    · rfl
    · simp
theorem orB_one {α : Type} {t e : α} {c : Bool} (h : c = false) : orB [c] t e = e := by rw [h]; rfl
def nineK19 : K32 := { zeroK with b0 := 9 }
def livesL19 (e : EOps) : List Bool := [keyEq (e.bytes e.base) byKey, keyEq (e.u e.base) nineK19, !(e.isn e.base), !(e.equal (e.dbl e.base) e.base), e.isn zeroP]
def allId (l : List Bool) : Bool := l.all fun c => c
theorem chB_all : ∀ l : List Bool, chB l = some (.bool (allId l), none)
  | [] => rfl
  | [c] => by rw [chB]; cases c <;> rfl
  | c :: d :: l => by
    rw [chB, chB_all (d :: l)]
    · cases c <;> rfl
    · simp
def sameL19 (e : EOps) (p q : Rungs) : List Bool := [keyEq (e.bytes p) (e.bytes q), e.equal p q]
/-! ### the base point -/
def BX : Fp := 15112221349535400772501151409588531511454012693041857206046113283949847762202
def BY : Fp := 46316835694926478169428394003475163141307993866256225615783033603165251855960
theorem base_on : BY * BY - BX * BX = 1 + DF * BX * BX * BY * BY := by decide +kernel
def BP : EPt := ⟨BX, BY, on_of base_on⟩
theorem BP_x : BP.x = BX := rfl
theorem BP_y : BP.y = BY := rfl
theorem bxKey_wf : bxKey.wf := fun b hb => of_decide_eq_true (List.all_eq_true.1 (show List.all bxKey.toList (fun b => decide (b < 256)) = true by decide +kernel) b hb)
theorem byKey_wf : byKey.wf := fun b hb => of_decide_eq_true (List.all_eq_true.1 (show List.all byKey.toList (fun b => decide (b < 256)) = true by decide +kernel) b hb)
theorem bx_val : toF (leVal bxKey % B255) = BX := by decide +kernel
theorem by_val : toF (leVal byKey % B255) = BY := by decide +kernel
theorem base_enc : EncK byKey BP := ⟨byKey_wf, by rw [BP_x, BP_y]; decide +kernel⟩
theorem base_y1 : 1 - BY ≠ 0 := by decide +kernel
theorem base_y9 : 1 + BY = 9 * (1 - BY) := by decide +kernel
theorem base_u : uP BP = 9 := by
  unfold uP
  rw [BP_y, base_y9]
  have := mul_finv base_y1
  generalize 1 - BY = w at *
  grind
theorem base_ne : BP ≠ EP.zero ED := fun h => absurd (congrArg EP.x h) (by show BX ≠ 0; decide +kernel)
theorem base_dbl : BP.add BP ≠ BP := fun h => base_ne (EP.add_cancel (h.trans (EP.add_zero BP).symm))
/-- what the variables stand for -/
structure EGood (e : EOps) : Prop where
  base : PO e.base BP
  parse : ∀ {k : K32}, k.wf → (∃ P, EncK k P ∧ (e.parse k).2 = 0 ∧ PO (e.parse k).1 P) ∨ ((∀ P, ¬ EncK k P) ∧ (e.parse k).2 = 190 ∧ PO (e.parse k).1 (EP.zero ED))
  lift : ∀ {k : K32} (odd : Bool), k.wf → (∃ P, LiftK k odd P ∧ (e.lift k odd).2 = 0 ∧ PO (e.lift k odd).1 P) ∨ ((∀ P, ¬ LiftK k odd P) ∧ (e.lift k odd).2 = 190 ∧ PO (e.lift k odd).1 (EP.zero ED))
  bytes : ∀ {p P}, PO p P → EncK (e.bytes p) P
  u : ∀ {p P}, PO p P → (e.u p).wf ∧ leVal (e.u p) = (uP P).val
  padd : ∀ {p q P Q}, PO p P → PO q Q → PO (e.padd p q) (P.add Q)
  psub : ∀ {p q P Q}, PO p P → PO q Q → PO (e.psub p q) (P.add Q.neg)
  pneg : ∀ {p P}, PO p P → PO (e.pneg p) P.neg
  dbl : ∀ {p P}, PO p P → PO (e.dbl p) (P.add P)
  equal : ∀ {p q P Q}, PO p P → PO q Q → e.equal p q = decide (P = Q)
  isn : ∀ {p P}, PO p P → e.isn p = decide (P = EP.zero ED)
  small : ∀ {p P}, PO p P → e.small p = decide (eightP P = EP.zero ED)
  scale : ∀ {p P} {b : List Nat}, PO p P → (∀ c ∈ b, c < 256) → PO (e.scale p b) (P.mul (leB b))
  times : ∀ {p P} {k : K32}, PO p P → k.wf → PO (e.times p k) (P.mul (leVal k))
  rbase : RR e.rbase BP
  rparse : ∀ {k : K32}, k.wf → (∃ P, EncK k P ∧ (e.rparse k).2 = 0 ∧ RR (e.rparse k).1 P) ∨ ((∀ P, ¬ EncK k P) ∧ (e.rparse k).2 = 190 ∧ RR (e.rparse k).1 (EP.zero ED))
  rlift : ∀ {k : K32} (odd : Bool), k.wf → (∃ P, LiftK k odd P ∧ (e.rlift k odd).2 = 0 ∧ RR (e.rlift k odd).1 P) ∨ ((∀ P, ¬ LiftK k odd P) ∧ (e.rlift k odd).2 = 190 ∧ RR (e.rlift k odd).1 (EP.zero ED))
  rbytes : ∀ {p P}, RR p P → EncK (e.rbytes p) P
  radd : ∀ {p q P Q}, RR p P → RR q Q → RR (e.radd p q) (P.add Q)
  rsub : ∀ {p q P Q}, RR p P → RR q Q → RR (e.rsub p q) (P.add Q.neg)
  rneg : ∀ {p P}, RR p P → RR (e.rneg p) P.neg
  rdbl : ∀ {p P}, RR p P → RR (e.rdbl p) (P.add P)
  requal : ∀ {p q P Q}, RR p P → RR q Q → e.requal p q = decide (P = Q)
  risn : ∀ {p P}, RR p P → e.risn p = decide (P = EP.zero ED)
  rsmall : ∀ {p P}, RR p P → e.rsmall p = decide (eightP P = EP.zero ED)
  rscale : ∀ {p P} {b : List Nat}, RR p P → (∀ c ∈ b, c < 256) → RR (e.rscale p b) (P.mul (leB b))
  sred : ∀ {b : List Nat}, (∀ c ∈ b, c < 256) → NK (e.sred b) (leB b % LN)
  swhole : ∀ {k : K32}, k.wf → e.swhole k = bif decide (leVal k < LN) then (k, 0) else (zeroK, 191)
  sadd : ∀ {a b m n}, NK a m → NK b n → NK (e.sadd a b) ((m + n) % LN)
  ssub : ∀ {a b m n}, NK a m → NK b n → NK (e.ssub a b) ((m + (LN - n)) % LN)
  smul : ∀ {a b m n}, NK a m → NK b n → NK (e.smul a b) (m * n % LN)
  sneg : ∀ {a m}, NK a m → NK (e.sneg a) ((LN - m) % LN)
  sisz : ∀ {a m}, NK a m → e.sisz a = decide (m = 0)
theorem sisz_val {a : K32} {m : Nat} (h : NK a m) : keyEq a zeroK = decide (m = 0) := by
  rw [key_eq_iff h.wf zeroK_wf, h.val]
  exact decide_eq_decide.2 Iff.rfl
theorem concE_parse (k : K32) : concE.parse k = (parseV concFOps k, bif parseB concFOps k then 0 else 190) := by kernel_rfl
theorem concE_lift (k : K32) (b : Bool) : concE.lift k b = (liftV concFOps k b, bif liftB concFOps k b then 0 else 190) := by kernel_rfl
theorem concE_rparse (k : K32) : concE.rparse k = (rparseV concFOps k, bif rparseB concFOps k then 0 else 190) := by kernel_rfl
theorem concE_rlift (k : K32) (b : Bool) : concE.rlift k b = (rliftV concFOps k b, bif rliftB concFOps k b then 0 else 190) := by kernel_rfl
theorem concE_base : concE.base = ptO concFOps (concFOps.frm bxKey) (concFOps.frm byKey) := by kernel_rfl
theorem concE_rbase : concE.rbase = ⟨concFOps.rfrm bxKey, concFOps.rfrm byKey, concFOps.rsmall 1⟩ := by kernel_rfl
theorem concE_bytes (p : Rungs) : concE.bytes p = bytO concFOps p := by kernel_rfl
theorem concE_u (p : Rungs) : concE.u p = uO concFOps p := by kernel_rfl
theorem concE_padd (p q : Rungs) : concE.padd p q = addO concFOps p q := by kernel_rfl
theorem concE_psub (p q : Rungs) : concE.psub p q = addO concFOps p (negO concFOps q) := by kernel_rfl
theorem concE_pneg (p : Rungs) : concE.pneg p = negO concFOps p := by kernel_rfl
theorem concE_dbl (p : Rungs) : concE.dbl p = dblO concFOps p := by kernel_rfl
theorem concE_equal (p q : Rungs) : concE.equal p q = (eqX concFOps p q && eqY concFOps p q) := by kernel_rfl
theorem concE_isn (p : Rungs) : concE.isn p = isnO concFOps p := by kernel_rfl
theorem concE_small (p : Rungs) : concE.small p = isnO concFOps (dblO concFOps (dblO concFOps (dblO concFOps p))) := by kernel_rfl
theorem concE_scale (p : Rungs) (b : List Nat) : concE.scale p b = scaleV concP (d2z concP) (fewL concP p) (tb0 concP) b := by kernel_rfl
theorem concE_times (p : Rungs) (k : K32) : concE.times p k = scaleV concP (d2z concP) (fewL concP p) (tb0 concP) k.toList := by kernel_rfl
theorem concE_rbytes (p : Pt3) : concE.rbytes p = rbytO concFOps p := by kernel_rfl
theorem concE_radd (p q : Pt3) : concE.radd p q = raddO concFOps p q (dR concFOps) := by kernel_rfl
theorem concE_rsub (p q : Pt3) : concE.rsub p q = raddO concFOps p (rnegO concFOps q) (dR concFOps) := by kernel_rfl
theorem concE_rneg (p : Pt3) : concE.rneg p = rnegO concFOps p := by kernel_rfl
theorem concE_rdbl (p : Pt3) : concE.rdbl p = rdblO concFOps p := by kernel_rfl
theorem concE_requal (p q : Pt3) : concE.requal p q = (reqX concFOps p q && reqY concFOps p q) := by kernel_rfl
theorem concE_risn (p : Pt3) : concE.risn p = risnO concFOps p := by kernel_rfl
theorem concE_rsmall (p : Pt3) : concE.rsmall p = risnO concFOps (rdblO concFOps (rdblO concFOps (rdblO concFOps p))) := by kernel_rfl
theorem concE_rscale (p : Pt3) (b : List Nat) : concE.rscale p b = scaleQ concP p concP.rdd concP.rneu b := by kernel_rfl
theorem concE_sred (b : List Nat) : concE.sred b = concNOps.scal (redN concNOps zeroL b) := by kernel_rfl
theorem concE_swhole (k : K32) : concE.swhole k = wholeN concNOps k := by kernel_rfl
theorem concE_sadd (a b : K32) : concE.sadd a b = addN concNOps a b := by kernel_rfl
theorem concE_ssub (a b : K32) : concE.ssub a b = subN concNOps a b := by kernel_rfl
theorem concE_smul (a b : K32) : concE.smul a b = mulN concNOps a b := by kernel_rfl
theorem concE_sneg (a : K32) : concE.sneg a = subN concNOps zeroK a := by kernel_rfl
theorem concE_sisz (a : K32) : concE.sisz a = keyEq a zeroK := by kernel_rfl
theorem bif0 {α : Type} {c : Bool} (h : c = true) (a : α) : ((a, bif c then (0 : Int) else 190) : α × Int).2 = 0 := by subst h; rfl
theorem bif190 {α : Type} {c : Bool} (h : c = false) (a : α) : ((a, bif c then (0 : Int) else 190) : α × Int).2 = 190 := by subst h; rfl
theorem concEG : EGood concE where
  base := by
    rw [concE_base]
    have h1 := concGood.frm bxKey_wf
    have h2 := concGood.frm byKey_wf
    rw [bx_val] at h1
    rw [by_val] at h2
    exact (concGood.pt BP h1 h2).po
  parse h := by
    rw [concE_parse]
    rcases concGood.parse h with ⟨P, h1, h2, h3⟩ | ⟨h1, h2, h3⟩
    · exact .inl ⟨P, h1, bif0 h2 _, h3.po⟩
    · exact .inr ⟨h1, bif190 h2 _, by rw [h3]; exact PO.zero⟩
  lift odd h := by
    rw [concE_lift]
    rcases concGood.lift h odd with ⟨P, h1, h2, h3⟩ | ⟨h1, h2, h3⟩
    · exact .inl ⟨P, h1, bif0 h2 _, h3.po⟩
    · exact .inr ⟨h1, bif190 h2 _, by rw [h3]; exact PO.zero⟩
  bytes h := by rw [concE_bytes]; exact concGood.bytes_pt h
  u h := by rw [concE_u]; exact concGood.u_pt h
  padd h h' := by rw [concE_padd]; exact (concGood.add_pt h h').po
  psub h h' := by rw [concE_psub]; exact (concGood.add_pt h (concGood.neg_pt h').po).po
  pneg h := by rw [concE_pneg]; exact (concGood.neg_pt h).po
  dbl h := by rw [concE_dbl]; exact (concGood.dbl_pt h).po
  equal h h' := by rw [concE_equal]; exact concGood.equal_pt h h'
  isn h := by rw [concE_isn]; exact concGood.isn_pt h
  small h := by rw [concE_small]; exact concGood.small_pt h
  scale h hb := by rw [concE_scale]; exact (concPG.scale h hb).po
  times {p P k} h hk := by
    rw [concE_times, ← leB_key]
    exact (concPG.scale (b := k.toList) h hk).po
  rbase := by
    rw [concE_rbase]
    have h1 := concGood.rfrm bxKey_wf
    have h2 := concGood.rfrm byKey_wf
    rw [bx_val] at h1
    rw [by_val] at h2
    exact concGood.rpt BP h1 h2
  rparse h := by
    rw [concE_rparse]
    rcases concGood.rparse h with ⟨P, h1, h2, h3⟩ | ⟨h1, h2, h3⟩
    · exact .inl ⟨P, h1, bif0 h2 _, h3⟩
    · exact .inr ⟨h1, bif190 h2 _, h3⟩
  rlift {k} odd h := by
    rw [concE_rlift]
    have h0 := concGood.rlift h odd
    generalize rliftV concFOps k odd = r at *
    generalize rliftB concFOps k odd = c at *
    rcases h0 with ⟨P, h1, h2, h3⟩ | ⟨h1, h2, h3⟩
    · exact .inl ⟨P, h1, bif0 h2 _, h3⟩
    · exact .inr ⟨h1, bif190 h2 _, h3⟩
  rbytes h := by rw [concE_rbytes]; exact concGood.rbytes_pt h
  radd h h' := by rw [concE_radd]; exact concGood.radd_pt h h' concGood.rd
  rsub h h' := by rw [concE_rsub]; exact concGood.radd_pt h (concGood.rneg_pt h') concGood.rd
  rneg h := by rw [concE_rneg]; exact concGood.rneg_pt h
  rdbl h := by rw [concE_rdbl]; exact concGood.rdbl_pt h
  requal h h' := by rw [concE_requal]; exact concGood.requal_pt h h'
  risn h := by rw [concE_risn]; exact concGood.risn_pt h
  rsmall h := by rw [concE_rsmall]; exact concGood.rsmall_pt h
  rscale h hb := by rw [concE_rscale]; exact concPG.rscale h hb
  sred h := by rw [concE_sred]; exact NK.red h
  swhole h := by rw [concE_swhole]; exact wholeN_val h
  sadd h h' := by rw [concE_sadd]; exact NK.add h h'
  ssub h h' := by rw [concE_ssub]; exact NK.sub h h'
  smul h h' := by rw [concE_smul]; exact NK.mul h h'
  sneg h := by rw [concE_sneg]; exact NK.neg h
  sisz h := by rw [concE_sisz]; exact sisz_val h
variable {e : EOps}
theorem encK_eq {k k' : K32} {P Q : EPt} (h : EncK k P) (h' : EncK k' Q) : keyEq k k' = decide (P = Q) := by
  rw [keyEq_iff]
  refine decide_eq_decide.2 ⟨fun e => ?_, fun e => ?_⟩
  · subst e; exact h.inj h'
  · subst e; exact h.uniq h'
theorem encK_same {k k' : K32} {P : EPt} (h : EncK k P) (h' : EncK k' P) : keyEq k k' = true := by rw [encK_eq h h', decide_eq_true rfl]
theorem nine_F : (9 : Fp).val = 9 := nine_val
theorem EGood.lives (H : EGood e) : allId (livesL19 e) = true := by
  have hu := H.u H.base
  have h9 : K32.wf nineK19 := fun b hb => of_decide_eq_true (List.all_eq_true.1 (show List.all nineK19.toList (fun b => decide (b < 256)) = true by decide +kernel) b hb)
  have e1 : keyEq (e.bytes e.base) byKey = true := encK_same (H.bytes H.base) base_enc
  have e2 : keyEq (e.u e.base) nineK19 = true := by
    rw [key_eq_iff hu.1 h9, hu.2, base_u, nine_F]
    decide +kernel
  have e3 : e.isn e.base = false := by rw [H.isn H.base]; exact decide_eq_false base_ne
  have e4 : e.equal (e.dbl e.base) e.base = false := by rw [H.equal (H.dbl H.base) H.base]; exact decide_eq_false base_dbl
  have e5 : e.isn zeroP = true := by rw [H.isn PO.zero]; exact decide_eq_true rfl
  unfold livesL19
  rw [e1, e2, e3, e4, e5]
  rfl
theorem EGood.same (H : EGood e) {p q : Rungs} {P Q : EPt} (h : PO p P) (h' : PO q Q) : allId (sameL19 e p q) = decide (P = Q) := by
  unfold sameL19
  rw [encK_eq (H.bytes h) (H.bytes h'), H.equal h h']
  by_cases hh : P = Q
  · rw [decide_eq_true hh]; rfl
  · rw [decide_eq_false hh]; rfl
end Go.Proofs.YtpmbfepkdjkheaaGreat

