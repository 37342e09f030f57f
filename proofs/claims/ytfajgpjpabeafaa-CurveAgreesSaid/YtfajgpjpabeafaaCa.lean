/- The law CurveAgrees: two people come by one secret, never by nothing: it answers true for every input. No conditions. -/
import Derived.Test.YtfajgpjpabeafaaFt
import Derived.Test.YtfajgpjpabeafaaDa
import Derived.Test.YtfajgpjpabeafaaCx
import Derived.Test.YtfajgpjpabeafaaPwMg
import Derived.Test.YtfajgpjpabeafaaPwMf
namespace Go.Proofs.Ytfajgpjpabeafaa
open Go Pw Go.RowKit Go.ChangeShapes
def andN : List Bool → Option (AV × Option Blk)
  | [] => some (.bool true, none)
  | [c] => some (.bool c, none)
  | c :: l => bif c then andN l else some (.bool false, none)
theorem andN_true : ∀ {l : List Bool}, (∀ c ∈ l, c = true) → andN l = some (.bool true, none)
  | [], _ => rfl
  | [c], h => by rw [andN, h c (by simp)]
  | c :: d :: l, h => by
    rw [andN, h c (by simp), cond_true]
    · exact andN_true fun x hx => h x (List.mem_cons_of_mem _ hx)
    · simp
def agL (a : List Nat) : List Nat := List.take a.length (List.drop 0 a)
def agC (a : List Nat) : Bool := decide (pairE (agL a) = 3) == !decide ((a.length : Int) = 32)
def agX (o : FOps) (a b : List Nat) : K32 := scaleO o (pairPa (agL a)) (pairPb o (agL b))
def agT (o : FOps) (a b : List Nat) : Option (AV × Option Blk) :=
  gds [decide (0 + a.length ≤ a.length), decide (0 + b.length ≤ b.length)]
    (bif !decide (pairE (agL a) = 0) then andN [agC a, agC b] else bif !decide (pairE (agL b) = 0) then andN [agC a, agC b] else
      andN [keyEq (agX o a b) (agX o b a), decide ((bif keyEq (agX o a b) zeroK then (20 : Int) else 0) = 0), decide ((bif keyEq (agX o b a) zeroK then (20 : Int) else 0) = 0), !keyEq (agX o a b) zeroK, decide ((a.length : Int) = 32), decide ((b.length : Int) = 32)])
theorem lawCA_run (o : FOps) (a b : List Nat) : runNL (X_pairD o) [] [0,1,4,5,6,7,8,9,10,11,12,26,27,28,36,37,38,39,40,41,63,64,67,68,71,72,73,76,77,78,81,82,83] 100 Try.f24 (bodyOf Try.f24) (laArgs [.l a, .l b] 0) (laLists [.l a, .l b]) = agT o a b := by kernel_rfl
theorem agL_eq (a : List Nat) : agL a = a := by unfold agL; rw [List.drop_zero, List.take_length]
theorem of?_none {a : List Nat} (h : K32.of? a = none) : a.length ≠ 32 := fun e => by
  obtain ⟨k, hk⟩ := K32.of?_len e
  rw [h] at hk; cases hk
theorem of?_32 {a : List Nat} {k : K32} (h : K32.of? a = some k) : a.length = 32 := by rw [of?_some h]; rfl
theorem agC_true (a : List Nat) : agC a = true := by
  unfold agC
  rw [agL_eq]
  unfold pairE
  cases h : K32.of? a with
  | none =>
    have := of?_none h
    rw [show decide ((3 : Int) = 3) = true from rfl, decide_eq_false (by omega)]; rfl
  | some k =>
    have := of?_32 h
    rw [show decide ((0 : Int) = 3) = false from rfl, decide_eq_true (by omega)]; rfl
theorem zeroK_wf : zeroK.wf := fun b hb => of_decide_eq_true (List.all_eq_true.1 (show List.all zeroK.toList (fun b => decide (b < 256)) = true by decide +kernel) b hb)
theorem of_wf {b : List Nat} (hb : ∀ x ∈ b, x < 256) {k : K32} (h : K32.of? b = some k) : k.wf := by
  have := of?_some h
  intro x hx
  exact hb x (by rw [this]; exact hx)
theorem num_nine : numK nineK = 9 := by decide +kernel
theorem scalar_nd {k : K32} (hk : k.wf) : ∃ m, scalarK k = 8 * m ∧ 8 * m < 2 ^ 255 ∧ ¬ LL ∣ m := by
  obtain ⟨h1, h2, h3⟩ := scalar_lt hk
  refine ⟨scalarK k / 8, by omega, by omega, fun hd => ?_⟩
  obtain ⟨c, hc⟩ := hd
  have hL : (2 : Nat) ^ 252 < LL := by decide +kernel
  have : c = 0 ∨ 1 ≤ c := by omega
  rcases this with rfl | h
  · omega
  · have : LL * 1 ≤ LL * c := Nat.mul_le_mul_left _ h
    omega
theorem agree_ne {k l : K32} (hk : k.wf) (hl : l.wf) : keyEq (scaleO concFOps k (scaleO concFOps l nineK)) zeroK = false := by
  obtain ⟨w1, v1⟩ := scale_val hl nineK_wf
  obtain ⟨w2, v2⟩ := scale_val hk w1
  obtain ⟨m, e1, e2, e3⟩ := scalar_nd hk
  obtain ⟨n, f1, f2, f3⟩ := scalar_nd hl
  rw [scale_num hl nineK_wf, num_nine, e1, f1] at v2
  have hne := scale_nine_ne e2 f2 e3 f3
  rw [keyEq_iff]
  refine decide_eq_false fun h => hne (fp_ext ?_)
  rw [← v2, h]; decide +kernel
theorem agT_true {a b : List Nat} (ha : ∀ x ∈ a, x < 256) (hb : ∀ x ∈ b, x < 256) : agT concFOps a b = some (.bool true, none) := by
  unfold agT
  rw [gds_true (by intro c hc; simp at hc; rcases hc with rfl | rfl <;> simp)]
  have hAB : andN [agC a, agC b] = some (.bool true, none) := andN_true (by intro c hc; simp at hc; rcases hc with rfl | rfl <;> exact agC_true _)
  rw [hAB]
  cases h1 : decide (pairE (agL a) = 0) with
  | false => rfl
  | true =>
    cases h2 : decide (pairE (agL b) = 0) with
    | false => rfl
    | true =>
      rw [Bool.not_true, cond_false, cond_false]
      rw [agL_eq] at h1 h2
      have h1 := of_decide_eq_true h1
      have h2 := of_decide_eq_true h2
      unfold pairE at h1 h2
      cases e1 : K32.of? a with
      | none => rw [e1] at h1; cases h1
      | some k =>
        cases e2 : K32.of? b with
        | none => rw [e2] at h2; cases h2
        | some l =>
          have hk := clampS_wf (of_wf ha e1)
          have hl := clampS_wf (of_wf hb e2)
          have x1 : agX concFOps a b = scaleO concFOps (clampS k) (scaleO concFOps (clampS l) nineK) := by
            unfold agX pairPa pairPb
            rw [agL_eq, agL_eq, e1, e2]
          have x2 : agX concFOps b a = scaleO concFOps (clampS l) (scaleO concFOps (clampS k) nineK) := by
            unfold agX pairPa pairPb
            rw [agL_eq, agL_eq, e1, e2]
          rw [x1, x2, turns hl hk nineK_wf, agree_ne hk hl, keyEq_self]
          have la := of?_32 e1
          have lb := of?_32 e2
          exact andN_true (by intro c hc; simp at hc; rcases hc with rfl | rfl | rfl | rfl <;> simp_all)
noncomputable abbrev XP : Cx := X_pairD concFOps
theorem XP_ok : CxOK Try.prog XP := X_pairD_ok
set_option maxRecDepth 100000 in
theorem curveAgrees_lifted (os : Os) (started : os.Started) (H : Type) (enc : TypeId × Value → H) :
    ReturnsInHanded {} Try.checked os 24 .any (Rows.curveAgreesSpec.pre6 enc Try.prog Try.f24 Rows.curveAgreesRow.domain false) (Rows.curveAgreesSpec.post enc Try.prog Try.f24 false true false false) := by
  refine law_lifted (C := Try.checked) (tb := 4) (by kernel_rfl) started (by kernel_rfl) Try.func24
    (ChangeSpec.witness6 (enc := enc) (C := Try.checked) false ⟨#[], #[.slice none 0 0, .slice none 0 0], []⟩ 8 (by kernel_rfl) (by kernel_rfl) (by kernel_rfl) (by kernel_rfl)) rfl ?_ (by kernel_rfl) (by kernel_rfl) (by kernel_rfl) (by kernel_rfl) ?_
  · intro ds h
    match ds, h with | [d0, d1], _ => rfl
  · intro W base args ds p hval hsz hA hlt hw
    obtain ⟨args⟩ := args
    match args, hsz, hval with
    | [a0, a1], hsz, hval =>
      have n0 := NSt.empty W
      obtain ⟨_, _, ta, ua⟩ := trod_get hA hw 0 _ a0 (by kernel_rfl) rfl
      obtain ⟨a, wa, la, fa⟩ := argBytes (t := 48) (by kernel_rfl) (hval 0 _ a0 (by kernel_rfl) rfl) ta ua
      obtain ⟨_, x1, n1, ra⟩ := n0.arg fa
      obtain ⟨_, _, tb, ub⟩ := trod_get hA hw 1 _ a1 (by kernel_rfl) rfl
      obtain ⟨b, wb, lb, fb⟩ := argBytes (t := 48) (by kernel_rfl) (hval 1 _ a1 (by kernel_rfl) rfl) tb ub
      obtain ⟨_, x2, n2, rb⟩ := n1.arg fb
      exact law_runN XP_ok Try.func24 (by kernel_rfl) LoopsOK.nil ((lawCA_run concFOps a b).trans (agT_true wa wb)) n2 (.cons _ _ _ _ (R.ext x2 ra) (.cons _ _ _ _ rb .nil))
theorem curveAgrees_facts : joinedFacts Try.pinned.checked.prog 24 Try.f24 Rows.curveAgreesSpec Rows.curveAgreesRow = true := by
  show joinedFacts Try.prog 24 Try.f24 Rows.curveAgreesSpec Rows.curveAgreesRow = true
  unfold joinedFacts
  rw [liftsF, heardF, enterF, makeF]
  kernel_rfl
theorem curveAgrees_holds : Rows.CurveAgreesSaid :=
  OpenClaim.holds_of_wide 24 Try.f24 rfl rfl rfl rfl rfl rfl rfl ⟨rfl, rfl, rfl, rfl, rfl⟩ rfl rfl rfl rfl rfl (by kernel_rfl) Try.func24 curveAgrees_facts
    (of_decide_eq_true (by kernel_rfl)) (by unfold Func.isWrapper; first | (rw [if_pos (by decide +kernel)]; kernel_rfl) | (rw [if_neg (by decide +kernel)]; exact ⟨rfl, rfl⟩))
    (fun os started H enc _ => curveAgrees_lifted os started H enc)
#print axioms curveAgrees_holds
end Go.Proofs.Ytfajgpjpabeafaa

