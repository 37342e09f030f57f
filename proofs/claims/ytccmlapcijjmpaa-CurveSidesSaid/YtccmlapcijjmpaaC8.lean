/- The law CurveSides: through layer 1: the curve or its twist, and Scale stays there: it answers true for every input. No conditions. -/
import Derived.Test.YtccmlapcijjmpaaFt
import Derived.Test.YtccmlapcijjmpaaCx
import Derived.Test.YtccmlapcijjmpaaPwSide
namespace Go.Proofs.Ytccmlapcijjmpaa
open Go Pw Go.RowKit
def curvedX (o : FOps) (x : L5) : L5 := o.add (o.add (o.mul x (o.sq x)) (o.times (o.sq x) 486662)) x
theorem curvedL_run (o : FOps) (x : L5) : runNL (X_onD o) [] [0,1,2] 200 Try.f81 (bodyOf Try.f81) (laArgs [.v (numV x)] 0) (laLists [.v (numV x)]) = some (numV (curvedX o x), none) := by
  kernel_rfl
def g_curvedL (o : FOps) (args : List LA) : Option (AV × Option Blk) := match args with
  | [.v x0] => (match num? x0 with
    | some x => some (numV (curvedX o x), none)
    | _ => none)
  | _ => none
theorem curvedL_at : QuietAt Try.prog 81 (lav (g_curvedL concFOps)) := by
  refine quietAt_of_runA X_onD_ok (L := []) (keep := [0,1,2]) Try.func81 (c := bodyOf Try.f81) (by kernel_rfl) (by kernel_rfl) (LoopsOK.nil) fun args v h hw => ⟨200, ?_⟩
  unfold g_curvedL at h
  split at h
  · rename_i x0
    split at h
    · rename_i x hh0
      have ehh0 := num?_some hh0
      subst ehh0
      rw [← h]
      refine (curvedL_run concFOps x).trans ?_
      rfl
    · cases h
  · cases h
noncomputable def X_curvedL (o : FOps) : Cx := { X_onD o with O := addQ (X_onD o).O 81 (lav (g_curvedL o)) }
theorem X_curvedL_ok : CxOK Try.prog (X_curvedL concFOps) := { X_onD_ok with quiet := addQ_ok X_onD_ok.quiet curvedL_at }
def twoK : K32 := { zeroK with b0 := 2 }
def onK (o : FOps) (u : K32) : Bool := rootB o (onX o (o.frm u))
def csE (o : FOps) (k u : K32) : Option AV := bif keyEq (scaleO o k u) zeroK then some (.bool true) else some (.bool (onK o (scaleO o k u) == onK o u))
def csT (o : FOps) (k u : K32) : Option AV := bif !(onK o (scaleO o k nineK)) then some (.bool false) else bif onK o twoK then some (.bool false) else bif onK o (scaleO o k twoK) then some (.bool false) else
  bif !(rootB o (curvedX o (o.frm u)) == onK o u) then some (.bool false) else
  bif rootB o (curvedX o (o.frm u)) == rootB o (o.mul (curvedX o (o.frm u)) (invO o (o.small 2))) then (bif !(o.isZero (curvedX o (o.frm u))) then some (.bool false) else csE o k u) else csE o k u
theorem lawCSd_run (o : FOps) (k : K32) (u : K32) : runQ (X_curvedL o) [0,1,2,3,4,5,6,8,10,11,18,19,22,23,24,25,26,48,49,50,51,52,53,54,55,56,64,65,66,67,68] 100 Try.f25 (bodyOf Try.f25) [keyV k, keyV u] = csT o k u := by
  kernel_rfl
theorem curved_fv {x : L5} (hx : ok5 x) : ok5 (curvedX concFOps x) ∧ fv (curvedX concFOps x) = wF (fv x) := by
  have e : curvedX concFOps x = addS (addS (mulS x (sqS x)) (timesS (sqS x) 486662)) x := by kernel_rfl
  have s := sq_ok hx
  have m := mul_ok hx s
  have t := times_ok (n := 486662) s (by decide)
  rw [e]
  refine ⟨add_ok (add_ok m t) hx, ?_⟩
  rw [fv_add (add_ok m t) hx, fv_add m t, fv_mul hx s, fv_times s (by decide), fv_sq hx, show toF 486662 = (486662 : Fp) by decide +kernel]
  unfold wF
  generalize fv x = y
  grind
theorem onX_fv {x : L5} (hx : ok5 x) : ok5 (onX concFOps x) ∧ fv (onX concFOps x) = wF (fv x) := by
  have e : onX concFOps x = addS (addS (mulS (sqS x) x) (timesS (sqS x) 486662)) x := by kernel_rfl
  have s := sq_ok hx
  have m := mul_ok s hx
  have t := times_ok (n := 486662) s (by decide)
  rw [e]
  refine ⟨add_ok (add_ok m t) hx, ?_⟩
  rw [fv_add (add_ok m t) hx, fv_add m t, fv_mul s hx, fv_times s (by decide), fv_sq hx, show toF 486662 = (486662 : Fp) by decide +kernel]
  unfold wF
  generalize fv x = y
  grind
theorem on_val {u : K32} (hu : u.wf) : onK concFOps u = hasRoot (wF (numK u)) := by
  obtain ⟨h1, h2⟩ := onX_fv (from_ok hu)
  have e : onK concFOps u = rootB concFOps (onX concFOps (fromS u)) := by kernel_rfl
  rw [e, rootB_fv h1, h2, from_fv hu, numK]
theorem twoK_wf : twoK.wf := fun b hb => of_decide_eq_true (List.all_eq_true.1 (show List.all twoK.toList (fun b => decide (b < 256)) = true by decide +kernel) b hb)
theorem num_two : numK twoK = 2 := by decide +kernel
theorem num_nine : numK nineK = 9 := by decide +kernel
theorem has_false {x : Fp} (h : ¬ isSq x) : hasRoot x = false := by
  cases hc : hasRoot x with
  | false => rfl
  | true => exact absurd ((hasRoot_iff x).1 hc) h
theorem has_congr {x y : Fp} (h : isSq x ↔ isSq y) : hasRoot x = hasRoot y := by
  by_cases hx : isSq x
  · rw [(hasRoot_iff x).2 hx, (hasRoot_iff y).2 (h.1 hx)]
  · rw [has_false hx, has_false (fun hy => hx (h.2 hy))]
theorem nine_sq : isSq (wF 9) := half_isSq (by
  rw [show wF 9 = toF 39420360 by decide +kernel, ← toF_one]
  exact pw_of 255 (by decide +kernel) (by decide +kernel))
theorem two_nsq : ¬ isSq (wF 2) := by
  rw [show wF 2 = toF 1946658 by decide +kernel]
  exact nsq_of (by decide +kernel) (by decide +kernel)
theorem zero_iff {k : K32} (hk : k.wf) {y : Fp} (h : leVal k = y.val) : keyEq k zeroK = decide (y = 0) := by
  rw [key_eq_iff hk (fun b hb => of_decide_eq_true (List.all_eq_true.1 (show List.all zeroK.toList (fun b => decide (b < 256)) = true by decide +kernel) b hb)), h, show leVal zeroK = 0 by decide +kernel]
  exact decide_eq_decide.2 ⟨fun e => fp_ext e, fun e => by rw [e]; rfl⟩
theorem csT_true {k u : K32} (hk : k.wf) (hu : u.wf) : csT concFOps k u = some (.bool true) := by
  have hn := scalar_lt hk
  have he : scalarK k % 2 = 0 := by omega
  have e : csT concFOps k u = bif !(onK concFOps (scaleO concFOps k nineK)) then some (.bool false) else bif onK concFOps twoK then some (.bool false) else bif onK concFOps (scaleO concFOps k twoK) then some (.bool false) else
    bif !(rootB concFOps (curvedX concFOps (fromS u)) == onK concFOps u) then some (.bool false) else
    bif rootB concFOps (curvedX concFOps (fromS u)) == rootB concFOps (mulS (curvedX concFOps (fromS u)) (invO concFOps (smallS 2))) then (bif !(isZeroS (curvedX concFOps (fromS u))) then some (.bool false) else csE concFOps k u) else csE concFOps k u := by kernel_rfl
  have h9 : onK concFOps (scaleO concFOps k nineK) = true := by
    rw [on_val (scale_val hk nineK_wf).1, scale_num hk nineK_wf, num_nine, hasRoot_iff]
    by_cases h0 : scaleF (scalarK k).testBit 9 = 0
    · rw [h0, wF_zero]; exact isSq_zero
    · exact (scale_side hn.1 he h0).2 nine_sq
  have h2 : onK concFOps twoK = false := by rw [on_val twoK_wf, num_two, has_false two_nsq]
  have h2s : onK concFOps (scaleO concFOps k twoK) = false := by
    rw [on_val (scale_val hk twoK_wf).1, scale_num hk twoK_wf, num_two]
    refine has_false fun hs => two_nsq ?_
    have h8 : scalarK k = 8 * (scalarK k / 8) := by omega
    have hne : scaleF (scalarK k).testBit 2 ≠ 0 := by
      rw [h8]
      exact scale_two_ne (by omega) (by omega)
    exact (scale_side hn.1 he hne).1 hs
  obtain ⟨c1, c2⟩ := curved_fv (from_ok hu)
  have o2 : ok5 (smallS 2) := small_ok (by decide)
  obtain ⟨i1, i2⟩ := inv_fv o2
  have hnum : fv (fromS u) = numK u := by rw [from_fv hu]; rfl
  have hE : csE concFOps k u = some (.bool true) := by
    obtain ⟨w, ev⟩ := scale_val hk hu
    unfold csE
    rw [zero_iff w ev, on_val w, on_val hu, scale_num hk hu]
    by_cases h0 : scaleF (scalarK k).testBit (numK u) = 0
    · rw [decide_eq_true h0, cond_true]
    · rw [decide_eq_false h0, cond_false, has_congr (scale_side hn.1 he h0), beq_self_eq_true]
  rw [e, h9, h2, h2s, hE, rootB_fv c1, rootB_fv (mul_ok c1 i1), isZeroS_fv c1, fv_mul c1 i1, i2, fv_small (by decide), toF_two, c2, hnum, on_val hu, beq_self_eq_true]
  by_cases hz : wF (numK u) = 0
  · rw [hz, decide_eq_true rfl]
    cases (hasRoot 0 == hasRoot (0 * finv 2)) <;> rfl
  · rw [decide_eq_false hz]
    have hi : ¬ isSq (finv 2 : Fp) := fun hh => two_not_sq (by have := isSq_inv hh; rwa [finv_finv] at this)
    have hd : (hasRoot (wF (numK u)) == hasRoot (wF (numK u) * finv 2)) = false := by
      by_cases hs : isSq (wF (numK u))
      · rw [(hasRoot_iff _).2 hs, has_false (x := wF (numK u) * finv 2) (by rw [Fin.mul_comm]; exact not_sq_mul_sq hi hs hz)]; rfl
      · rw [has_false hs, (hasRoot_iff _).2 (not_sq_mul hs hi)]; rfl
    rw [hd]; rfl
noncomputable abbrev XS : Cx := X_curvedL concFOps
theorem XS_ok : CxOK Try.prog XS := X_curvedL_ok
set_option maxRecDepth 100000 in
theorem curveSides_lifted (os : Os) (started : os.Started) (H : Type) (enc : TypeId × Value → H) :
    ReturnsInHanded {} Try.checked os 25 .any (Rows.curveSidesSpec.pre6 enc Try.prog Try.f25 Rows.curveSidesRow.domain false) (Rows.curveSidesSpec.post enc Try.prog Try.f25 false true false false) := by
  refine law_lifted (C := Try.checked) (tb := 4) (by kernel_rfl) started (by kernel_rfl) Try.func25
    (ChangeSpec.witness6 (enc := enc) (C := Try.checked) false ⟨#[], #[.agg #[.int .u8 0, .int .u8 0, .int .u8 0, .int .u8 0, .int .u8 0, .int .u8 0, .int .u8 0, .int .u8 0, .int .u8 0, .int .u8 0, .int .u8 0, .int .u8 0, .int .u8 0, .int .u8 0, .int .u8 0, .int .u8 0, .int .u8 0, .int .u8 0, .int .u8 0, .int .u8 0, .int .u8 0, .int .u8 0, .int .u8 0, .int .u8 0, .int .u8 0, .int .u8 0, .int .u8 0, .int .u8 0, .int .u8 0, .int .u8 0, .int .u8 0, .int .u8 0], .agg #[.int .u8 0, .int .u8 0, .int .u8 0, .int .u8 0, .int .u8 0, .int .u8 0, .int .u8 0, .int .u8 0, .int .u8 0, .int .u8 0, .int .u8 0, .int .u8 0, .int .u8 0, .int .u8 0, .int .u8 0, .int .u8 0, .int .u8 0, .int .u8 0, .int .u8 0, .int .u8 0, .int .u8 0, .int .u8 0, .int .u8 0, .int .u8 0, .int .u8 0, .int .u8 0, .int .u8 0, .int .u8 0, .int .u8 0, .int .u8 0, .int .u8 0, .int .u8 0]], []⟩ 8 (by kernel_rfl) (by kernel_rfl) (by kernel_rfl) (by kernel_rfl)) rfl ?_ (by kernel_rfl) (by kernel_rfl) (by kernel_rfl) (by kernel_rfl) ?_
  · intro ds h
    match ds, h with | [d0, d1], _ => rfl
  · intro W base args ds p hval hsz hA hlt hw
    obtain ⟨args⟩ := args
    match args, hsz, hval with
    | [a0, a1], hsz, hval =>
      obtain ⟨k, wk, rk⟩ := argKey (t := 23) (by kernel_rfl) (hval 0 _ a0 (by kernel_rfl) rfl)
      obtain ⟨u, wu, ru⟩ := argKey (t := 23) (by kernel_rfl) (hval 1 _ a1 (by kernel_rfl) rfl)
      exact law_run XS_ok Try.func25 (by kernel_rfl) ((lawCSd_run concFOps k u).trans (csT_true wk wu)) (.cons _ _ _ _ (rk _) (.cons _ _ _ _ (ru _) .nil))
theorem curveSides_facts : joinedFacts Try.pinned.checked.prog 25 Try.f25 Rows.curveSidesSpec Rows.curveSidesRow = true := by
  show joinedFacts Try.prog 25 Try.f25 Rows.curveSidesSpec Rows.curveSidesRow = true
  unfold joinedFacts
  rw [liftsF, heardF, enterF, makeF]
  kernel_rfl
theorem curveSides_holds : Rows.CurveSidesSaid :=
  OpenClaim.holds_of_wide 25 Try.f25 rfl rfl rfl rfl rfl rfl rfl ⟨rfl, rfl, rfl, rfl, rfl⟩ rfl rfl rfl rfl rfl (by kernel_rfl) Try.func25 curveSides_facts
    (of_decide_eq_true (by kernel_rfl)) (by unfold Func.isWrapper; first | (rw [if_pos (by decide +kernel)]; kernel_rfl) | (rw [if_neg (by decide +kernel)]; exact ⟨rfl, rfl⟩))
    (fun os started H enc _ => curveSides_lifted os started H enc)
#print axioms curveSides_holds
end Go.Proofs.Ytccmlapcijjmpaa

