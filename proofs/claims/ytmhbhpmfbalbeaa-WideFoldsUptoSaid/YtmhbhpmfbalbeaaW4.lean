/- The law WideFolds: the hash of whole blocks and any end is what Block makes of the start, the blocks, the end and the padding: it answers true for every input. No conditions. -/
import Derived.Test.YtmhbhpmfbalbeaaFt
import Derived.Test.YtmhbhpmfbalbeaaWv
import Derived.Test.YtmhbhpmfbalbeaaFu
namespace Go.Proofs.Ytmhbhpmfbalbeaa
open Go Pw Go.RowKit Go.ChangeShapes
def fA (a : List Nat) : Nat := (w64 ((a.length : Int) - (a.length : Int).tmod 128)).toNat - 0
def fAl (a : List Nat) : List Nat := List.take (fA a) (List.drop (0 + 0 * 1) a)
def fEl (e : List Nat) : List Nat := List.take e.length (List.drop 0 e)
def fP (a e : List Nat) : List Nat := padL (w64 ((fA a : Int) + (e.length : Int)) % 18446744073709551616).toNat
def fPl (a e : List Nat) : List Nat := List.take (fP a e).length (List.drop 0 (fP a e))
def fJ (x : List Nat) : List Nat := List.take 0 (List.drop 0 []) ++ x
def fR (a e : List Nat) : List Nat := List.take (0 + (fEl e).length) (List.drop 0 (fJ (fEl e))) ++ fPl a e
def fRn (a e : List Nat) : Nat := 0 + (fEl e).length + (fPl a e).length
def fRl (a e : List Nat) : List Nat := List.take (fRn a e) (List.drop 0 (fR a e))
def fW (a e : List Nat) : List Nat := List.take (0 + (fAl a).length) (List.drop 0 (fJ (fAl a))) ++ fEl e
def fWn (a e : List Nat) : Nat := 0 + (fAl a).length + (fEl e).length
def fWl (a e : List Nat) : List Nat := List.take (fWn a e) (List.drop 0 (fW a e))
def fF : Option (AV × Option Blk) := some (.bool false, none)
def wfT (o : SOps) (a e : List Nat) : Option (AV × Option Blk) :=
  gds [decide (0 ≤ w64 ((a.length : Int) - (a.length : Int).tmod 128) ∧ w64 ((a.length : Int) - (a.length : Int).tmod 128) ≤ (a.length : Int)), decide (0 + 0 * 1 + fA a ≤ a.length), decide ((fAl a).length < 4611686018427387904), decide (0 + e.length ≤ e.length), decide (0 + (fEl e).length ≤ maxRoom),
    decide (0 + (fP a e).length ≤ (fP a e).length), decide (0 + (0 + (fEl e).length) ≤ (fJ (fEl e)).length), decide (0 + (fEl e).length + (fPl a e).length ≤ maxRoom)]
  (bif !decide ((fRn a e : Int).tmod 128 = 0) then fF else bif decide ((fRn a e : Int) < w64 ((e.length : Int) + 17)) then fF else
    gds [decide (0 + 0 * 1 + fA a ≤ a.length), decide (0 + (fAl a).length ≤ maxRoom), decide (0 + e.length ≤ e.length), decide (0 + (0 + (fAl a).length) ≤ (fJ (fAl a)).length), decide (0 + (fAl a).length + (fEl e).length ≤ maxRoom), decide (0 + fRn a e ≤ (fR a e).length), decide ((fRl a e).length < 4611686018427387904),
      decide (0 + fWn a e ≤ (fW a e).length), decide ((fWl a e).length + 128 ≤ maxRoom)]
    (bif eqW 64 (bytesW (resp 8 (foldAll o.bP (resp 8 (resp 8 (foldAll o.bP (resp 8 SW) (fAl a)))) (fRl a e)))) (hashV o (fWl a e)) then
      gds [decide (0 + 0 * 1 + fA a ≤ a.length), decide ((fAl a).length < 4611686018427387904)] (some (.bool (eqW 8 (foldAll o.bP (resp 8 SW) (fAl a)) (foldAll o.bR (resp 8 SW) (fAl a))), none)) else fF))
theorem lawWF_run (o : SOps) (a e : List Nat) : runNL (X_hashR o) [] [0,1,4,5,6,7,35,36,37,38,39,40,41,55,56,57,58,59] 400 Try.f8 (bodyOf Try.f8) (laArgs [.l a, .l e] 0) (laLists [.l a, .l e]) = wfT o a e := by kernel_rfl
theorem tmod_nat (n : Nat) : (n : Int).tmod 128 = ((n % 128 : Nat) : Int) := by rw [Int.tmod_eq_emod_of_nonneg (by omega)]; omega
theorem wfT_true {a e : List Nat} (ha : ∀ x ∈ a, x < 256) (la : a.length ≤ 140737488351232) (le : e.length ≤ 140737488351232) (hroom : a.length + e.length + 512 ≤ maxRoom) : wfT concS a e = some (.bool true, none) := by
  have hm : maxRoom = 175921860444160 := rfl
  have eA : fA a = a.length - a.length % 128 := by
    unfold fA
    rw [tmod_nat, w64_id (by omega) (by omega)]; omega
  have eAl : fAl a = a.take (a.length - a.length % 128) := by unfold fAl; rw [eA, show 0 + 0 * 1 = 0 from rfl, List.drop_zero]
  have hAl : (fAl a).length = a.length - a.length % 128 := by rw [eAl, List.length_take]; omega
  have eE : fEl e = e := by unfold fEl; rw [List.drop_zero, List.take_length]
  have eP : fP a e = padL ((fAl a).length + e.length) := by
    unfold fP
    rw [w64_id (by omega) (by omega), eA, hAl]
    congr 1; omega
  have hpz : padZ ((fAl a).length + e.length) < 128 := Nat.mod_lt _ (by decide)
  have hpl := padL_len ((fAl a).length + e.length)
  have ePl : fPl a e = fP a e := by unfold fPl; rw [List.drop_zero, List.take_length]
  have eJ : ∀ x, fJ x = x := fun x => by unfold fJ; rw [List.take_zero, List.nil_append]
  have eR : fR a e = e ++ padL ((fAl a).length + e.length) := by unfold fR; rw [eE, eJ, ePl, eP, Nat.zero_add, List.drop_zero, List.take_length]
  have eRn : fRn a e = (fR a e).length := by unfold fRn; rw [eE, eR, ePl, eP, List.length_append]; omega
  have eRl : fRl a e = fR a e := by unfold fRl; rw [eRn, List.drop_zero, List.take_length]
  have eW : fW a e = fAl a ++ e := by unfold fW; rw [eE, eJ, Nat.zero_add, List.drop_zero, List.take_length]
  have eWn : fWn a e = (fW a e).length := by unfold fWn; rw [eE, eW, List.length_append]; omega
  have eWl : fWl a e = fW a e := by unfold fWl; rw [eWn, List.drop_zero, List.take_length]
  have hRl : (fR a e).length = e.length + (padZ ((fAl a).length + e.length) + 17) := by rw [eR, List.length_append, hpl]
  have hWl : (fW a e).length = (fAl a).length + e.length := by rw [eW, List.length_append]
  have hmod : (fR a e).length % 128 = 0 := by rw [hRl, hAl]; unfold padZ; omega
  have hAb : ∀ x ∈ fAl a, x < 256 := fun x hx => ha x (by rw [eAl] at hx; exact List.mem_of_mem_take hx)
  unfold wfT
  rw [gds_true]
  · rw [tmod_nat, eRn, decide_eq_true (show (((fR a e).length % 128 : Nat) : Int) = 0 by omega), Bool.not_true, cond_false, w64_id (x := (e.length : Int) + 17) (by omega) (by omega), decide_eq_false (show ¬ ((fR a e).length : Int) < (e.length : Int) + 17 by omega), cond_false]
    rw [gds_true]
    · have e1 : bytesW (resp 8 (foldAll concS.bP (resp 8 (resp 8 (foldAll concS.bP (resp 8 SW) (fAl a)))) (fRl a e))) = hashV concS (fWl a e) := by
        rw [bytesW_resp, resp_resp, SW_resp, eRl, eWl]
        unfold hashV
        rw [hWl, eW, List.append_assoc, foldAll_app concS.bP SW (fAl a) (e ++ padL ((fAl a).length + e.length)), show 128 * ((fAl a).length / 128) = (fAl a).length by omega, List.drop_length, List.nil_append, ← eR]
        exact bytesW_fold _ _ _ _
      rw [e1, eqW_self, cond_true, gds_true]
      · rw [SW_resp, show foldAll concS.bP SW (fAl a) = foldAll concS.bR SW (fAl a) from foldAll_eq SW_wf hAb, eqW_self]
      · intro c hc
        simp only [List.mem_cons, List.not_mem_nil, or_false] at hc
        rcases hc with h | h <;> (rw [h]; exact decide_eq_true (by omega))
    · intro c hc
      rw [eRl, eWl, eJ, eE, eWn] at hc
      simp only [List.mem_cons, List.not_mem_nil, or_false] at hc
      rcases hc with h | h | h | h | h | h | h | h | h <;> (rw [h]; exact decide_eq_true (by omega))
  · intro c hc
    rw [tmod_nat, w64_id (x := (a.length : Int) - ((a.length % 128 : Nat) : Int)) (by omega) (by omega), eE, eJ, ePl, eP] at hc
    simp only [List.mem_cons, List.not_mem_nil, or_false] at hc
    rcases hc with h | h | h | h | h | h | h | h <;> (rw [h]; exact decide_eq_true (by omega))
noncomputable abbrev XF : Cx := X_hashR concS
theorem XF_ok : CxOK Try.prog XF := X_hashR_ok
set_option maxRecDepth 100000 in
theorem wideFolds_lifted (os : Os) (started : os.Started) (H : Type) (enc : TypeId × Value → H) (F : Stop.Interp) :
    ReturnsInHanded {} Try.checked os 8 .any ((Rows.OpenSpec.upto Rows.wideFoldsSpec).pre6 enc Try.prog Try.f8 Rows.wideFoldsUptoRow.domain false) (((Rows.OpenSpec.upto Rows.wideFoldsSpec).at F).post enc Try.prog Try.f8 false true false false) := by
  refine law_liftedU (C := Try.checked) (s := Rows.OpenSpec.upto Rows.wideFoldsSpec) (k := Rows.uptoSmall) rfl (tb := 4) (by kernel_rfl) started (by kernel_rfl) Try.func8
    (OpenSpec.witness (enc := enc) (C := Try.checked) (s := Rows.OpenSpec.upto Rows.wideFoldsSpec) (k := Rows.uptoSmall) rfl false ⟨#[], #[.slice none 0 0, .slice none 0 0], []⟩ 8 (by kernel_rfl) (by kernel_rfl) (by kernel_rfl) (x := ([.nil, .nil], [], [])) (by kernel_rfl) rfl (by kernel_rfl)) rfl ?_ (by kernel_rfl) (by kernel_rfl) (by kernel_rfl) (by kernel_rfl) ?_
  · intro ds h
    match ds, h with | [d0, d1], _ => rfl
  · intro W base args ds p hval hsz hA hlt hw hk
    obtain ⟨args⟩ := args
    match args, hsz, hval with
    | [a0, a1], hsz, hval =>
      have n0 := NSt.empty W
      obtain ⟨_, _, ta, ua⟩ := trod_get hA hw 0 _ a0 (by kernel_rfl) rfl
      obtain ⟨a, wa, la, fa⟩ := argBytes (t := 23) (by kernel_rfl) (hval 0 _ a0 (by kernel_rfl) rfl) ta ua
      obtain ⟨_, x1, n1, ra⟩ := n0.arg fa
      obtain ⟨_, _, te, ue⟩ := trod_get hA hw 1 _ a1 (by kernel_rfl) rfl
      obtain ⟨e, we, le, fe⟩ := argBytes (t := 23) (by kernel_rfl) (hval 1 _ a1 (by kernel_rfl) rfl) te ue
      obtain ⟨_, x2, n2, re⟩ := n1.arg fe
      have hup := trodAll_slen hA
      rw [show (Try.f8.params.toList : List TypeId) = [23, 23] by kernel_rfl] at hup
      replace hup := Nat.le_trans hup (up_le hk)
      simp only [List.zipWith_cons_cons, List.zipWith_nil_right, List.sum_cons, List.sum_nil] at hup
      rw [sLen_eq (t := 23) (v := a0) (l := a) (by kernel_rfl) fa] at hup
      rw [sLen_eq (t := 23) (v := a1) (l := e) (by kernel_rfl) fe] at hup
      exact law_runN XF_ok Try.func8 (by kernel_rfl) LoopsOK.nil ((lawWF_run concS a e).trans (wfT_true wa (by omega) (by omega) (by rw [show maxRoom = 175921860444160 from rfl]; omega))) n2 (.cons _ _ _ _ (R.ext x2 ra) (.cons _ _ _ _ re .nil))
theorem wideFolds_facts : joinedFacts Try.pinned.checked.prog 8 Try.f8 (Rows.OpenSpec.upto Rows.wideFoldsSpec).bare Rows.wideFoldsUptoRow = true := by
  show joinedFacts Try.prog 8 Try.f8 (Rows.OpenSpec.upto Rows.wideFoldsSpec).bare Rows.wideFoldsUptoRow = true
  unfold joinedFacts
  rw [liftsF, heardF, enterF, makeF]
  kernel_rfl
theorem wideFolds_holds : Rows.WideFoldsUptoSaid :=
  OpenClaim.holds_of_cond 8 Try.f8 rfl rfl rfl rfl rfl rfl rfl ⟨rfl, rfl, rfl, rfl, rfl⟩ rfl rfl rfl rfl rfl (by kernel_rfl) Try.func8 wideFolds_facts
    (of_decide_eq_true (by kernel_rfl)) (by unfold Func.isWrapper; first | (rw [if_pos (by decide +kernel)]; kernel_rfl) | (rw [if_neg (by decide +kernel)]; exact ⟨rfl, rfl⟩))
    (fun os started H enc _ F => wideFolds_lifted os started H enc F)
#print axioms wideFolds_holds
end Go.Proofs.Ytmhbhpmfbalbeaa

