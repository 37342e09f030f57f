/- The law SignOnce: of signatures with one R at most one holds: it answers true for every input. No conditions. -/
import Derived.Test.YtnnjaijokiknkaaSx
namespace Go.Proofs.Ytnnjaijokiknkaa
open Go Pw Go.RowKit
def soF (s : List Nat) : Int := bif is32 (tkL s.length s) then 0 else 3
def soG (b : List Nat) : List Bool := [decide (0 + b.length ≤ b.length), decide ((tkL b.length b).length + 512 ≤ maxRoom)]
def soL (v : List Nat) (o : K32) : List Nat := resp 32 v ++ o.toList
def soS (s : List Nat) : List Nat := tkL s.length s
def soD (b : List Nat) : List Nat := tkL b.length b
def soV (g : GOps) (s b : List Nat) : List Nat := signV g (soS s) (soD b)
noncomputable def soT (g : GOps) (s b : List Nat) (o : K32) : Option (AV × Option Blk) :=
  brn (!decide ((s.length : Int) = 32)) (some (.bool true, none))
   (gds [decide (0 + s.length ≤ s.length), decide (0 + s.length ≤ s.length), decide (0 + b.length ≤ b.length), decide ((soD b).length + 512 ≤ maxRoom)]
    (brn (!decide (soF s = 0)) noB (brn (!decide (soF s = 0)) noB
     (brn (eqW 64 (soL (soV g s b) o) (soV g s b)) (gds (soG b) (some (.bool (decide (checkV g (pubV g (soS s)) (soD b) (soL (soV g s b) o) = 0)), none)))
       (gds (soG b) (brn (decide (checkV g (pubV g (soS s)) (soD b) (soL (soV g s b) o) = 191)) (some (.bool true, none)) (some (.bool (decide (checkV g (pubV g (soS s)) (soD b) (soL (soV g s b) o) = 201)), none))))))))
theorem lawSO_run (g : GOps) (s b : List Nat) (o : K32) : runNL (X_vectors20 g) [] [0,1,2,5,6,7,8,9,10,11,12,13,16,32,33,34,37,48,61,62] 900 Try.f17 (bodyOf Try.f17) (laArgs [.l s, .l b, .v (keyV o)] 0) (laLists [.l s, .l b, .v (keyV o)]) = soT g s b o := by kernel_rfl
theorem eqW_get {x y : List Nat} {n : Nat} (h : eqW n x y = true) : ∀ i, i < n → x.getD i 0 = y.getD i 0 := by
  have key : ∀ l : List Nat, l.foldr (fun i r => decide (x.getD i 0 = y.getD i 0) && r) true = true → ∀ i ∈ l, x.getD i 0 = y.getD i 0 := by
    intro l
    induction l with
    | nil => intro _ i hi; cases hi
    | cons a l ih =>
      intro h i hi
      rw [List.foldr_cons, Bool.and_eq_true] at h
      rcases List.mem_cons.1 hi with e | e
      · rw [e]; exact of_decide_eq_true h.1
      · exact ih h.2 i e
  exact fun i hi => key _ h i (List.mem_range.2 hi)
theorem keyAt_get {x y : List Nat} (h : ∀ i, i < 64 → x.getD i 0 = y.getD i 0) : keyAt x 32 = keyAt y 32 := by
  unfold keyAt K32.ofFn
  congr 1 <;> exact h _ (by decide)
theorem resp32 (a b : K32) : resp 32 (a.toList ++ b.toList) = a.toList := rfl
/-- below the order a multiple of the base point says the number -/
theorem mul_inj_le {m n : Nat} (hmn : m ≤ n) (hn : n < LN) (h : BP.mul m = BP.mul n) : m = n := by
  have e : BP.mul n = (BP.mul m).add (BP.mul (n - m)) := by rw [← EP.mul_add]; congr 1; omega
  have hz : BP.mul (n - m) = EP.zero ED := EP.add_cancel (p := BP.mul m) (by rw [← e, h, EP.add_zero])
  rcases Nat.eq_zero_or_pos (n - m) with h0 | h0
  · omega
  · exact absurd (EP.mul_prime LN_pr BP_order hz h0 (by omega)) base_ne
theorem mul_inj {m n : Nat} (hm : m < LN) (hn : n < LN) (h : BP.mul m = BP.mul n) : m = n := by
  rcases Nat.le_total m n with h1 | h1
  · exact mul_inj_le h1 hn h
  · exact (mul_inj_le h1 hm h.symm).symm
theorem once {g : GOps} (H : GGood g) {r s a o : K32} {n m : Nat} {b : List Nat} (hr : NK r n) (hs : NK s (8 * m % LN)) (ha : EncK a (BP.mul (8 * m))) (h0 : 0 < m) (hm : m < LN) (ho : o.wf) (hne : o ≠ mdS g r s a b) :
    checkV g a b ((mdP g r).toList ++ o.toList) = 191 ∨ checkV g a b ((mdP g r).toList ++ o.toList) = 201 := by
  obtain ⟨h1, h2⟩ := enc_inj ha (H.e.parse ha.wf)
  have hP : EncK (mdP g r) (BP.mul n) := by
    have := H.e.bytes (H.e.times H.e.base hr.wf)
    rwa [hr.val] at this
  have hc : NK (mdC g r a b) _ := red_any H _
  have hS : NK (mdS g r s a b) _ := H.e.sadd hr (H.e.smul hc hs)
  have hsm : g.e.small (g.e.parse a).1 = false := by
    rw [H.e.small h2]
    refine decide_eq_false fun e => eight_ne h0 hm ?_
    unfold eightP at e
    rw [mul_dbl, mul_dbl, mul_dbl, eight_m] at e
    exact e
  have hw : hlW g ((mdP g r).toList ++ o.toList) = bif decide (leVal o < LN) then (o, 0) else (zeroK, 191) := by
    unfold hlW
    rw [key_32, H.e.swhole ho]
  by_cases hl : leVal o < LN
  · refine .inr ?_
    rw [decide_eq_true hl, cond_true] at hw
    have hC : hlC g (g.e.parse a).1 b ((mdP g r).toList ++ o.toList) = mdC g r a b := by
      unfold hlC mdC
      rw [key_0, (H.e.bytes h2).uniq ha]
    have hB := H.e.bytes (H.e.psub (H.e.times H.e.base ho) (H.e.times h2 hc.wf))
    have hk : keyEq (hlB g (g.e.parse a).1 b ((mdP g r).toList ++ o.toList)) (keyAt ((mdP g r).toList ++ o.toList) 0) = false := by
      unfold hlB
      rw [hw, hC, key_0]
      cases hq : keyEq (g.e.bytes (g.e.psub (g.e.times g.e.base o) (g.e.times (g.e.parse a).1 (mdC g r a b)))) (mdP g r) with
      | false => rfl
      | true =>
        have e : g.e.bytes (g.e.psub (g.e.times g.e.base o) (g.e.times (g.e.parse a).1 (mdC g r a b))) = mdP g r := leVal_inj hB.wf hP.wf (of_decide_eq_true ((key_eq_iff hB.wf hP.wf).symm.trans hq))
        rw [e] at hB
        have e2 := hB.inj hP
        have e3 := eqn (8 * m) (leVal (mdC g r a b)) n
        rw [← e3] at e2
        have e4 : BP.mul (leVal o) = BP.mul ((n + leVal (mdC g r a b) * (8 * m % LN) % LN) % LN) := by
          rw [EP.add_comm, EP.add_comm (BP.mul ((n + leVal (mdC g r a b) * (8 * m % LN) % LN) % LN))] at e2
          exact EP.add_cancel e2
        have e5 := mul_inj hl (Nat.mod_lt _ (by decide)) e4
        rw [hc.val] at e5
        exact absurd (leVal_inj ho hS.wf (e5.trans hS.val.symm)) hne
    unfold checkV holdV
    rw [h1, hsm, hw, hk]
    rfl
  · refine .inl ?_
    rw [decide_eq_false hl, cond_false] at hw
    unfold checkV holdV
    rw [h1, hsm, hw]
    rfl
theorem so_true {g : GOps} (H : GGood g) {s b : List Nat} {o : K32} (ho : o.wf) (lb : b.length ≤ 140737488351232) : soT g s b o = some (.bool true, none) := by
  have hmx : maxRoom = 175921860444160 := rfl
  have hgb : ∀ c ∈ soG b, c = true := by
    intro c hc
    unfold soG at hc
    rw [tkL_eq] at hc
    simp only [List.mem_cons, List.not_mem_nil, or_false] at hc
    rcases hc with h | h <;> (rw [h]; exact decide_eq_true (by omega))
  have eD : soD b = b := tkL_eq b
  have eS : soS s = s := tkL_eq s
  unfold soT soF soV
  rw [tkL_eq, eS, eD, gds_true, gds_true hgb, gds_true hgb]
  · show brn (!is32 s) _ _ = _
    cases h : is32 s
    · rfl
    · have hkw : (keyAt (g.hash s) 0).wf := keyAt_wf (H.hb s).1 0
      obtain ⟨m, e, h0, hm⟩ := sec_bounds hkw
      have ew : (secK g s).wf := clampS_wf hkw
      have ev : leVal (secK g s) = 8 * m := e
      have hA := H.e.bytes (H.e.scale (b := (secK g s).toList) H.e.base ew)
      rw [leB_key, ev] at hA
      have hs : NK (sgS g s) (8 * m % LN) := by
        have := H.e.sred (b := (secK g s).toList) ew
        rw [leB_key, ev] at this
        exact this
      have hp : pubV g s = pubK g s := by unfold pubV; rw [h]; rfl
      have hv : signV g s b = (mdP g (sgR g s b)).toList ++ (mdS g (sgR g s b) (sgS g s) (pubK g s) b).toList := by unfold signV; rw [h]; rfl
      have hr : NK (sgR g s b) _ := red_any H _
      have hA' : EncK (pubK g s) (BP.mul (8 * m)) := hA
      have hr0 := made_right H hr hs hA' h0 hm (b := b)
      have ho0 := fun hne => once H hr hs hA' h0 hm ho hne (b := b)
      have hL : soL (signV g s b) o = (mdP g (sgR g s b)).toList ++ o.toList := by
        unfold soL
        rw [hv, resp32]
      rw [hL, hp, hv]
      unfold madeV at hr0
      generalize mdS g (sgR g s b) (sgS g s) (pubK g s) b = S at *
      generalize mdP g (sgR g s b) = Rk at *
      generalize pubK g s = A at *
      by_cases hoS : o = S
      · rw [hoS, eqW_self, hr0]
        rfl
      · have hq : eqW 64 (Rk.toList ++ o.toList) (Rk.toList ++ S.toList) = false := by
          cases hq : eqW 64 (Rk.toList ++ o.toList) (Rk.toList ++ S.toList) with
          | false => rfl
          | true =>
            have := keyAt_get (eqW_get hq)
            rw [key_32, key_32] at this
            exact absurd this hoS
        rw [hq]
        rcases ho0 hoS with h1 | h1 <;> (rw [h1]; rfl)
  · intro c hc
    simp only [List.mem_cons, List.not_mem_nil, or_false] at hc
    rcases hc with h | h | h | h <;> (rw [h]; exact decide_eq_true (by omega))
noncomputable abbrev XM4 : Cx := X_vectors20 concGO
theorem XM4_ok : CxOK Try.prog XM4 := X_vectors20_ok
set_option maxRecDepth 100000 in
theorem signOnce_lifted (os : Os) (started : os.Started) (H : Type) (enc : TypeId × Value → H) :
    ReturnsInHanded {} Try.checked os 17 .any (Rows.signOnceSpec.pre6 enc Try.prog Try.f17 Rows.signOnceRow.domain false) (Rows.signOnceSpec.post enc Try.prog Try.f17 false true false false) := by
  refine law_lifted (C := Try.checked) (tb := 4) (by kernel_rfl) started (by kernel_rfl) Try.func17
    (ChangeSpec.witness6 (enc := enc) (C := Try.checked) false ⟨#[], #[.slice none 0 0, .slice none 0 0, .agg #[.int .u8 0, .int .u8 0, .int .u8 0, .int .u8 0, .int .u8 0, .int .u8 0, .int .u8 0, .int .u8 0, .int .u8 0, .int .u8 0, .int .u8 0, .int .u8 0, .int .u8 0, .int .u8 0, .int .u8 0, .int .u8 0, .int .u8 0, .int .u8 0, .int .u8 0, .int .u8 0, .int .u8 0, .int .u8 0, .int .u8 0, .int .u8 0, .int .u8 0, .int .u8 0, .int .u8 0, .int .u8 0, .int .u8 0, .int .u8 0, .int .u8 0, .int .u8 0]], []⟩ 8 (by kernel_rfl) (by kernel_rfl) (by kernel_rfl) (by kernel_rfl)) rfl ?_ (by kernel_rfl) (by kernel_rfl) (by kernel_rfl) (by kernel_rfl) ?_
  · intro ds h
    match ds, h with | [d0, d1, d2], _ => rfl
  · intro W base args ds p hval hsz hA hlt hw
    obtain ⟨args⟩ := args
    match args, hsz, hval with
    | [a0, a1, a2], hsz, hval =>
      have n0 := NSt.empty W
      obtain ⟨_, _, ts, us⟩ := trod_get hA hw 0 _ a0 (by kernel_rfl) rfl
      obtain ⟨s, ws, ls, fs⟩ := argBytes (t := 24) (by kernel_rfl) (hval 0 _ a0 (by kernel_rfl) rfl) ts us
      obtain ⟨_, x1, n1, rs⟩ := n0.arg fs
      obtain ⟨_, _, tb, ub⟩ := trod_get hA hw 1 _ a1 (by kernel_rfl) rfl
      obtain ⟨b, wb, lb, fb⟩ := argBytes (t := 24) (by kernel_rfl) (hval 1 _ a1 (by kernel_rfl) rfl) tb ub
      obtain ⟨_, x2, n2, rb⟩ := n1.arg fb
      obtain ⟨o, wo, ro⟩ := argKey (t := 23) (by kernel_rfl) (hval 2 _ a2 (by kernel_rfl) rfl)
      exact law_runN XM4_ok Try.func17 (by kernel_rfl) LoopsOK.nil ((lawSO_run concGO s b o).trans (so_true concGG wo lb)) n2 (.cons _ _ _ _ (R.ext x2 rs) (.cons _ _ _ _ rb (.cons _ _ _ _ (ro _) .nil)))
theorem signOnce_facts : joinedFacts Try.pinned.checked.prog 17 Try.f17 Rows.signOnceSpec Rows.signOnceRow = true := by
  show joinedFacts Try.prog 17 Try.f17 Rows.signOnceSpec Rows.signOnceRow = true
  unfold joinedFacts
  rw [liftsF, heardF, enterF, makeF]
  kernel_rfl
theorem signOnce_holds : Rows.SignOnceSaid :=
  OpenClaim.holds_of_wide 17 Try.f17 rfl rfl rfl rfl rfl rfl rfl ⟨rfl, rfl, rfl, rfl, rfl⟩ rfl rfl rfl rfl rfl (by kernel_rfl) Try.func17 signOnce_facts
    (of_decide_eq_true (by kernel_rfl)) (by unfold Func.isWrapper; first | (rw [if_pos (by decide +kernel)]; kernel_rfl) | (rw [if_neg (by decide +kernel)]; exact ⟨rfl, rfl⟩))
    (fun os started H enc _ => signOnce_lifted os started H enc)
#print axioms signOnce_holds
end Go.Proofs.Ytnnjaijokiknkaa

