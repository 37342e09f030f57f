/- The law SignLent: a pair of layer 2 signs, too: it answers true for every input. No conditions. -/
import Derived.Test.YtnnjaijokiknkaaSx
import Derived.Test.YtnnjaijokiknkaaEz
namespace Go.Proofs.Ytnnjaijokiknkaa
open Go Pw Go.RowKit
noncomputable def X_lsc (g : GOps) : Cx := { X_vectors20 g with O := addQ (X_vectors20 g).O 74 (lav (g_cscaleP g.e)) }
theorem X_lsc_ok : CxOK Try.prog (X_lsc concGO) := { X_vectors20_ok with quiet := addQ_ok X_vectors20_ok.quiet cscaleP_at }
theorem cpublicP_run (g : GOps) (k : K32) : runNL (X_lsc g) [] [0,1,2] 200 Try.f43 (bodyOf Try.f43) (laArgs [.v (keyV k)] 0) (laLists [.v (keyV k)]) = some (keyV (scaleO g.e.fo k nineK19), none) := by
  kernel_rfl
def g_cpublicP (g : GOps) (args : List LA) : Option (AV × Option Blk) := match args with
  | [.v x0] => (match key? x0 with
    | some k => some (keyV (scaleO g.e.fo k nineK19), none)
    | _ => none)
  | _ => none
theorem cpublicP_at : QuietAt Try.prog 43 (lav (g_cpublicP concGO)) := by
  refine quietAt_of_runA X_lsc_ok (L := []) (keep := [0,1,2]) Try.func43 (c := bodyOf Try.f43) (by kernel_rfl) (by kernel_rfl) (LoopsOK.nil) fun args v h hw => ⟨200, ?_⟩
  unfold g_cpublicP at h
  split at h
  · rename_i x0
    split at h
    · rename_i k hh0
      have ehh0 := key?_some hh0
      subst ehh0
      rw [← h]
      refine (cpublicP_run concGO k).trans ?_
      rfl
    · cases h
  · cases h
noncomputable def X_cpublicP (g : GOps) : Cx := { X_lsc g with O := addQ (X_lsc g).O 43 (lav (g_cpublicP g)) }
theorem X_cpublicP_ok : CxOK Try.prog (X_cpublicP concGO) := { X_lsc_ok with quiet := addQ_ok X_lsc_ok.quiet cpublicP_at }
def slF (m : List Nat) : Int := bif is64 (tkL m.length m) then 0 else 3
def slG (b : List Nat) : List Bool := [decide (0 + b.length ≤ b.length), decide ((tkL b.length b).length + 512 ≤ maxRoom)]
def slV (g : GOps) (k : K32) (b m : List Nat) : List Nat := lendV g k (tkL b.length b) (tkL m.length m)
noncomputable def slT (g : GOps) (k : K32) (b m : List Nat) : Option (AV × Option Blk) :=
  gds [decide (0 + b.length ≤ b.length), decide (0 + m.length ≤ m.length), decide ((tkL b.length b).length + 512 ≤ maxRoom)]
   (brn (!decide ((m.length : Int) = 64)) (brn (decide (slF m = 3)) (some (.bool (eqW 64 (slV g k b m) zero64), none)) noB)
    (brn (decide (slF m = 0)) (gds (slG b) (brn (decide (honourV g (scaleO g.e.fo k nineK19) (tkL b.length b) (resp 64 (slV g k b m)) = 0)) (some (.bool true, none)) noB)) noB))
theorem lawSL_run (g : GOps) (k : K32) (b m : List Nat) : runNL (X_cpublicP g) [] [0,1,2,3,6,7,8,18,22,23,24,29,30,31,32,33,34,37] 500 Try.f6 (bodyOf Try.f6) (laArgs [.v (keyV k), .l b, .l m] 0) (laLists [.v (keyV k), .l b, .l m]) = slT g k b m := by kernel_rfl
theorem hold_same' {g : GOps} (H : GGood g) {p q : Rungs} {P : EPt} (hp : PO p P) (hq : PO q P) {b t : List Nat} (ht : (keyAt t 32).wf) : holdV g p b t = holdV g q b t := by
  have e1 : g.e.small p = g.e.small q := by rw [H.e.small hp, H.e.small hq]
  have e2 : g.e.bytes p = g.e.bytes q := (H.e.bytes hp).uniq (H.e.bytes hq)
  have e3 : hlC g p b t = hlC g q b t := by unfold hlC; rw [e2]
  have hc : NK (hlC g q b t) _ := red_any H _
  have hw : (hlW g t).1.wf := by
    unfold hlW
    rw [H.e.swhole ht]
    cases decide (leVal (keyAt t 32) < LN)
    · exact zeroK_wf
    · exact ht
  have e4 : hlB g p b t = hlB g q b t := by
    have h1 := H.e.bytes (H.e.psub (H.e.times H.e.base hw) (H.e.times hp hc.wf))
    have h2 := H.e.bytes (H.e.psub (H.e.times H.e.base hw) (H.e.times hq hc.wf))
    unfold hlB
    rw [e3]
    exact h1.uniq h2
  unfold holdV
  rw [e1, e4]
theorem y_of_u {y U : Fp} (h : 1 - y ≠ 0) (hU : U = (1 + y) * finv (1 - y)) : U + 1 ≠ 0 ∧ (U - 1) * finv (U + 1) = y := by
  have hi := mul_finv h
  have hn := finv_ne h
  generalize finv (1 - y) = i at *
  have e1 : U + 1 = 2 * i := by
    have : U + 1 = (1 + y) * i + (1 - y) * i := by rw [hU, hi]
    rw [this]
    clear hi hU h hn this; grind
  have e2 : U - 1 = y * (U + 1) := by
    have : U - 1 = (1 + y) * i - (1 - y) * i := by rw [hU, hi]
    rw [this, e1]
    clear hi hU h hn this e1; grind
  have hne : U + 1 ≠ 0 := by rw [e1]; exact fp_mul_ne fp_two_ne hn
  refine ⟨hne, ?_⟩
  have hj := mul_finv hne
  rw [e2]
  generalize finv (U + 1) = j at *
  generalize U + 1 = w at *
  have e3 : y * w * j = y * (w * j) := by clear hj e2 e1 hU; grind
  rw [e3, hj, Fin.mul_one]
theorem neg_even {x : Fp} (h : x.val % 2 = 1) : (-x).val % 2 = 0 := by
  have key : ∀ a p : Nat, a % 2 = 1 → a < p → p % 2 = 1 → (p - a) % p % 2 = 0 := by
    intro a p h1 h2 h3
    rw [Nat.mod_eq_of_lt (show p - a < p by omega)]
    omega
  have h1 : (-x).val = (PP - x.val) % PP := Fin.neg_def x ▸ rfl
  rw [h1]
  exact key _ _ h (fp_lt x) (by decide)
theorem hi_bit : ∀ b, b < 256 → (!decide (b &&& 128 = 0)) = decide (b / 2 ^ 7 = 1) := by decide +kernel
theorem y_ne_one {P : EPt} (h : P ≠ EP.zero ED) : 1 - P.y ≠ 0 := by
  intro h0
  have hy : P.y = 1 := by
    have : P.y = 1 - (1 - P.y) := by clear h0; grind
    rw [this, h0]; decide +kernel
  have on := ed_on P
  rw [hy] at on
  have e : (1 + DF) * (P.x * P.x) = 0 := by
    generalize P.x = x at *
    generalize DF = d at *
    have e2 : (1 + d) * (x * x) = (1 + d * x * x * 1 * 1) - (1 * 1 - x * x) := by clear on; grind
    rw [e2, on, Fin.sub_self]
  rcases fp_mul_zero e with h1 | h1
  · exact absurd h1 (by decide +kernel)
  · exact h (EP.ext' (sq_zero h1) hy)
theorem turn_mod {M : Nat} (h : M < LN) : (LN - 8 * M % LN) % LN = 8 * (LN - M) % LN := by
  unfold LN at *
  omega
theorem turn_mul {M : Nat} (h : M < LN) : BP.mul (8 * (LN - M)) = (BP.mul (8 * M)).neg := by
  refine EP.neg_eq ?_
  rw [← EP.mul_add, show 8 * M + 8 * (LN - M) = LN * 8 by omega, EP.mul_mul, BP_order, EP.zero_mul]
/-- the even one of a point and its opposite -/
theorem lent_secret {g : GOps} (H : GGood g) {k : K32} (hk : k.wf) : ∃ M n, leVal (clampS k) = 8 * M ∧ 0 < M ∧ M < LN ∧ 0 < n ∧ n < LN ∧ NK (lendS g k) (8 * n % LN) ∧ EncK (lendA g k) (BP.mul (8 * n)) ∧
    (BP.mul (8 * n)).y = (BP.mul (8 * M)).y ∧ (BP.mul (8 * n)).x.val % 2 = 0 := by
  obtain ⟨M, e, h0, hm⟩ := sec_bounds hk
  have hw : (clampS k).wf := clampS_wf hk
  have hP : PO (lnP g k) (BP.mul (8 * M)) := by
    have := H.e.scale (b := (clampS k).toList) H.e.base hw
    rwa [leB_key, e] at this
  have hS : NK (lnS g k) (8 * M % LN) := by
    have := H.e.sred (b := (clampS k).toList) hw
    rwa [leB_key, e] at this
  have hB := H.e.bytes hP
  have hh : lnH g k = decide ((BP.mul (8 * M)).x.val % 2 = 1) := by
    have h1 := (hi_val hB.wf).1
    rw [hB.split.2] at h1
    unfold lnH
    rw [hi_bit _ (b31_lt hB.wf)]
    exact h1
  refine ⟨M, bif lnH g k then LN - M else M, e, h0, hm, ?_⟩
  by_cases ho : (BP.mul (8 * M)).x.val % 2 = 1
  · rw [decide_eq_true ho] at hh
    unfold lendS lendA
    rw [hh, cond_true, cond_true, cond_true]
    have h1 := H.e.sneg hS
    rw [turn_mod hm] at h1
    have h2 := H.e.bytes (H.e.pneg hP)
    rw [← turn_mul hm] at h2
    refine ⟨by omega, by omega, h1, h2, ?_, ?_⟩
    · rw [turn_mul hm]; rfl
    · rw [turn_mul hm]; exact neg_even ho
  · rw [decide_eq_false ho] at hh
    unfold lendS lendA
    rw [hh, cond_false, cond_false, cond_false]
    exact ⟨h0, hm, hS, hB, rfl, by omega⟩
theorem eightM_ne {m : Nat} (h0 : 0 < m) (hm : m < LN) : BP.mul (8 * m) ≠ EP.zero ED := by
  intro e
  exact eight_ne h0 hm (by rw [EP.mul_mul, e, EP.zero_mul])
theorem nine_num : numC nineK19 = 9 := by decide +kernel
theorem nine_wf : nineK19.wf := all_lt (by decide +kernel)
theorem lent_check {g : GOps} (H : GGood g) {k : K32} {b m : List Nat} (hk : k.wf) (h64 : is64 m = true) : honourV g (scaleO g.e.fo k nineK19) b (resp 64 (lendV g k b m)) = 0 := by
  obtain ⟨M, n, e, h0, hm, n0, hn, hs, hA, ey, ex⟩ := lent_secret H hk
  have hv : lendV g k b m = madeV g (lnR g (lendS g k) b m) (lendS g k) (lendA g k) b := by unfold lendV; rw [h64]; rfl
  have hl : resp 64 (madeV g (lnR g (lendS g k) b m) (lendS g k) (lendA g k) b) = madeV g (lnR g (lendS g k) b m) (lendS g k) (lendA g k) b := resp_eq rfl
  have hc := made_right H (b := b) (red_any H (firstL ++ (lendS g k).toList ++ b ++ m)) hs hA n0 hn
  obtain ⟨g1, g2⟩ := enc_inj hA (H.e.parse hA.wf)
  -- the public number
  obtain ⟨uw, uv⟩ := H.f.curve_scale (k := k) (u := nineK19) (clampC_wf hk) nine_wf
  obtain ⟨lt, le⟩ := clampC_lt hk
  rw [nine_num, ← base_u, ladder_here lt le, show leVal (clampC k) = 8 * M from e] at uv
  rw [hv, hl]
  change checkV g (lendA g k) b (madeV g (lnR g (lendS g k) b m) (lendS g k) (lendA g k) b) = 0 at hc
  have hkw : (keyAt (madeV g (lnR g (lendS g k) b m) (lendS g k) (lendA g k) b) 32).wf := by
    unfold madeV
    rw [key_32]
    exact (H.e.sadd (red_any H (firstL ++ (lendS g k).toList ++ b ++ m)) (H.e.smul (red_any H _) hs)).wf
  generalize madeV g (lnR g (lendS g k) b m) (lendS g k) (lendA g k) b = t at *
  generalize scaleO g.e.fo k nineK19 = u at *
  have hB255 : leVal u % B255 = leVal u := by
    rw [uv]
    exact Nat.mod_eq_of_lt (Nat.lt_trans (fp_lt _) PP_lt255)
  have hU : toF (leVal u % B255) = uP (BP.mul (8 * M)) := by
    rw [hB255, uv]
    exact fp_ext (by rw [toF_val, Nat.mod_eq_of_lt (fp_lt _)])
  have hon : hnK g u = true := by
    unfold hnK
    obtain ⟨w1, v1⟩ := H.f.bytes (H.f.frm uw)
    rw [key_eq_iff w1 uw, v1, hU, uv]
    exact decide_eq_true rfl
  obtain ⟨hne, hy⟩ := y_of_u (y_ne_one (eightM_ne h0 hm)) (show uP (BP.mul (8 * M)) = _ from rfl)
  have hL : LiftK u false (BP.mul (8 * n)) := by
    refine ⟨by rw [hU]; exact hne, ?_⟩
    rw [hU, hy]
    exact ⟨ey, decide_eq_false (by omega)⟩
  rcases H.e.lift false uw with ⟨Q, h1, h2, h3⟩ | ⟨h1, -, -⟩
  · have eQ : Q = BP.mul (8 * n) := h1.pt.uniq hL.pt
    rw [eQ] at h3
    have hh := hold_same' H h3 g2 (b := b) hkw
    unfold honourV
    rw [hon, h2]
    show holdV g (g.e.lift u false).1 b t = 0
    rw [hh]
    unfold checkV at hc
    rw [g1] at hc
    exact hc
  · exact absurd hL (h1 _)
theorem sl_true {g : GOps} (H : GGood g) {k : K32} {b m : List Nat} (hk : k.wf) (lb : b.length ≤ 140737488351232) : slT g k b m = some (.bool true, none) := by
  have hmx : maxRoom = 175921860444160 := rfl
  have hgb : ∀ c ∈ slG b, c = true := by
    intro c hc
    unfold slG at hc
    rw [tkL_eq] at hc
    simp only [List.mem_cons, List.not_mem_nil, or_false] at hc
    rcases hc with h | h <;> (rw [h]; exact decide_eq_true (by omega))
  unfold slT slF slV
  rw [tkL_eq, tkL_eq, gds_true, gds_true hgb]
  · show brn (!is64 m) _ _ = _
    cases h : is64 m
    · have hv : lendV g k b m = zero64 := by unfold lendV; rw [h]; rfl
      rw [hv]; rfl
    · rw [lent_check H hk h]; rfl
  · intro c hc
    simp only [List.mem_cons, List.not_mem_nil, or_false] at hc
    rcases hc with h | h | h <;> (rw [h]; exact decide_eq_true (by omega))
noncomputable abbrev XM5 : Cx := X_cpublicP concGO
theorem XM5_ok : CxOK Try.prog XM5 := X_cpublicP_ok
set_option maxRecDepth 100000 in
theorem signLent_lifted (os : Os) (started : os.Started) (H : Type) (enc : TypeId × Value → H) :
    ReturnsInHanded {} Try.checked os 6 .any (Rows.signLentSpec.pre6 enc Try.prog Try.f6 Rows.signLentRow.domain false) (Rows.signLentSpec.post enc Try.prog Try.f6 false true false false) := by
  refine law_lifted (C := Try.checked) (tb := 4) (by kernel_rfl) started (by kernel_rfl) Try.func6
    (ChangeSpec.witness6 (enc := enc) (C := Try.checked) false ⟨#[], #[.agg #[.int .u8 0, .int .u8 0, .int .u8 0, .int .u8 0, .int .u8 0, .int .u8 0, .int .u8 0, .int .u8 0, .int .u8 0, .int .u8 0, .int .u8 0, .int .u8 0, .int .u8 0, .int .u8 0, .int .u8 0, .int .u8 0, .int .u8 0, .int .u8 0, .int .u8 0, .int .u8 0, .int .u8 0, .int .u8 0, .int .u8 0, .int .u8 0, .int .u8 0, .int .u8 0, .int .u8 0, .int .u8 0, .int .u8 0, .int .u8 0, .int .u8 0, .int .u8 0], .slice none 0 0, .slice none 0 0], []⟩ 8 (by kernel_rfl) (by kernel_rfl) (by kernel_rfl) (by kernel_rfl)) rfl ?_ (by kernel_rfl) (by kernel_rfl) (by kernel_rfl) (by kernel_rfl) ?_
  · intro ds h
    match ds, h with | [d0, d1, d2], _ => rfl
  · intro W base args ds p hval hsz hA hlt hw
    obtain ⟨args⟩ := args
    match args, hsz, hval with
    | [a0, a1, a2], hsz, hval =>
      have n0 := NSt.empty W
      obtain ⟨k, wk, rk⟩ := argKey (t := 23) (by kernel_rfl) (hval 0 _ a0 (by kernel_rfl) rfl)
      obtain ⟨_, _, tb, ub⟩ := trod_get hA hw 1 _ a1 (by kernel_rfl) rfl
      obtain ⟨b, wb, lb, fb⟩ := argBytes (t := 24) (by kernel_rfl) (hval 1 _ a1 (by kernel_rfl) rfl) tb ub
      obtain ⟨_, x1, n1, rb⟩ := n0.arg fb
      obtain ⟨_, _, tm, um⟩ := trod_get hA hw 2 _ a2 (by kernel_rfl) rfl
      obtain ⟨m, wm, lm, fm⟩ := argBytes (t := 24) (by kernel_rfl) (hval 2 _ a2 (by kernel_rfl) rfl) tm um
      obtain ⟨_, x2, n2, rm⟩ := n1.arg fm
      exact law_runN XM5_ok Try.func6 (by kernel_rfl) LoopsOK.nil ((lawSL_run concGO k b m).trans (sl_true concGG wk lb)) n2 (.cons _ _ _ _ (rk _) (.cons _ _ _ _ (R.ext x2 rb) (.cons _ _ _ _ rm .nil)))
theorem signLent_facts : joinedFacts Try.pinned.checked.prog 6 Try.f6 Rows.signLentSpec Rows.signLentRow = true := by
  show joinedFacts Try.prog 6 Try.f6 Rows.signLentSpec Rows.signLentRow = true
  unfold joinedFacts
  rw [liftsF, heardF, enterF, makeF]
  kernel_rfl
theorem signLent_holds : Rows.SignLentSaid :=
  OpenClaim.holds_of_wide 6 Try.f6 rfl rfl rfl rfl rfl rfl rfl ⟨rfl, rfl, rfl, rfl, rfl⟩ rfl rfl rfl rfl rfl (by kernel_rfl) Try.func6 signLent_facts
    (of_decide_eq_true (by kernel_rfl)) (by unfold Func.isWrapper; first | (rw [if_pos (by decide +kernel)]; kernel_rfl) | (rw [if_neg (by decide +kernel)]; exact ⟨rfl, rfl⟩))
    (fun os started H enc _ => signLent_lifted os started H enc)
#print axioms signLent_holds
end Go.Proofs.Ytnnjaijokiknkaa

