/- The law WidePieces, where what is read is of bulk at most 1048576: bytes that come in pieces give the Sum of the whole. -/
import Derived.Test.YtmhbhpmfbalbeaaHb
import Derived.Test.YtmhbhpmfbalbeaaFt
import Derived.Test.YtmhbhpmfbalbeaaFu
namespace Go.Proofs.Ytmhbhpmfbalbeaa
open Go Pw Go.RowKit Go.ChangeShapes
def wpI (n m : Nat) : S_wp := ⟨false, n, m, 0, hs0, []⟩
noncomputable def wpRes (o : SOps) (ps : List (List Nat)) (aks : List Bool) : Option AV :=
  brn (!eqW 64 (hashV o []) (hashR o [])) (some (.bool false)) (bif wpGd ps aks (wpI ps.length aks.length) then
    gds [decide (0 + (wpAll o ps).1.rest.length ≤ (wpAll o ps).1.rest.length), decide ((wpAll o ps).1.rest.length = (List.take (wpAll o ps).1.rest.length (List.drop 0 (wpAll o ps).1.rest)).length ∧ (wpAll o ps).1.rest.length < 128),
      decide (0 + (wpAll o ps).2.length ≤ (wpAll o ps).2.length), decide ((List.take (wpAll o ps).2.length (List.drop 0 (wpAll o ps).2)).length + 128 ≤ maxRoom)]
    (brn (eqW 64 (sumV o (resp 8 (wpAll o ps).1.w) (wpAll o ps).1.size (List.take (wpAll o ps).1.rest.length (List.drop 0 (wpAll o ps).1.rest))) (hashV o (List.take (wpAll o ps).2.length (List.drop 0 (wpAll o ps).2))))
      (some (.bool (decide ((wpAll o ps).1.size = (((wpAll o ps).2.length : Int) % 18446744073709551616).toNat)))) (some (.bool false))) else none)
theorem wp_run (o : SOps) (aks : List Bool) : ∀ ps : List (List Nat), runKL (ρ := AV) (X_wp o) [(6, gWp o ps aks)] [0,1,4,5,6,7,12,13,14,15,20,42,43,44,45,48,49,50,51,52,53,54,55,62,63,64,65,66,67] 300 wpF (bodyOf wpF) [.slice 0 0 ps.length false, .slice 1 0 aks.length false] [Pw.dead, Pw.dead, Pw.dead] (fun v _ => some v) = wpRes o ps aks
  | [] => by kernel_rfl
  | p :: r => by kernel_rfl
theorem wp_true {ps : List (List Nat)} (aks : List Bool) (hl : ps.flatten.length + 512 ≤ maxRoom) : wpRes concS ps aks = some (.bool true) := by
  have hm : maxRoom = 175921860444160 := rfl
  obtain ⟨h1, h2⟩ := wp_all concS hl
  have hr := h1.rest_len
  have hs := h1.size
  have hg : wpGd ps aks (wpI ps.length aks.length) = true := decide_eq_true ⟨rfl, rfl, rfl, rfl, rfl, rfl, rfl, rfl⟩
  have he : eqW 64 (hashV concS []) (hashR concS []) = true := by
    rw [hash_eq (b := []) (by simp)]; exact eqW_self _ _
  unfold wpRes
  rw [he, brn_eq, Bool.not_true, cond_false, hg, cond_true, gds_true, h1.fin, List.drop_zero, List.take_length, eqW_self, brn_eq, cond_true, hs,
    decide_eq_true (show (wpAll concS ps).2.length = (((wpAll concS ps).2.length : Int) % 18446744073709551616).toNat by rw [h2]; omega)]
  intro c hc
  rw [List.drop_zero, List.drop_zero, List.take_length, List.take_length] at hc
  simp only [List.mem_cons, List.not_mem_nil, or_false] at hc
  rcases hc with hc | hc | hc | hc <;> rw [hc]
  · exact decide_eq_true (by omega)
  · exact decide_eq_true ⟨trivial, by omega⟩
  · exact decide_eq_true (by omega)
  · exact decide_eq_true (by rw [h2]; omega)
/-! ### the arguments -/
def ks_ps : List CK := [.l]
def ks_aks : List CK := [.b]
theorem ks_ps_ok : isRecs Try.prog 56 ks_ps := ⟨23, by kernel_rfl, by kernel_rfl, by kernel_rfl, by decide⟩
theorem ks_aks_ok : isRecs Try.prog 57 ks_aks := ⟨4, by kernel_rfl, by kernel_rfl, by kernel_rfl, by decide⟩
theorem of_l {rec : List LA} (h : fits ks_ps rec) : ∃ l, rec = [.l l] := by
  match rec, h with
  | [a], h =>
    obtain ⟨⟨l, rfl, _⟩, _⟩ := h
    exact ⟨l, rfl⟩
  | _ :: _ :: _, h => exact h.2.elim
theorem of_b {rec : List LA} (h : fits ks_aks rec) : ∃ b, rec = [.v (.bool b)] := by
  match rec, h with
  | [a], h =>
    obtain ⟨⟨l, rfl⟩, _⟩ := h
    exact ⟨l, rfl⟩
  | _ :: _ :: _, h => exact h.2.elim
theorem of_ls : ∀ {recs : List (List LA)}, (∀ rec ∈ recs, fits ks_ps rec) → ∃ ps : List (List Nat), recs = ps.map (fun p => [LA.l p]) ∧ (recs.map laSum).sum = ps.flatten.length
  | [], _ => ⟨[], rfl, rfl⟩
  | rec :: recs, h => by
    obtain ⟨q, rfl⟩ := of_l (h rec (by simp))
    obtain ⟨qs, rfl, h2⟩ := of_ls (recs := recs) fun x hx => h x (by simp [hx])
    refine ⟨q :: qs, rfl, ?_⟩
    rw [List.flatten_cons, List.length_append, List.map_cons, List.sum_cons, h2]
    rfl
theorem of_bs : ∀ {recs : List (List LA)}, (∀ rec ∈ recs, fits ks_aks rec) → ∃ bs : List Bool, recs = bs.map (fun b => [LA.v (.bool b)])
  | [], _ => ⟨[], rfl⟩
  | rec :: recs, h => by
    obtain ⟨q, rfl⟩ := of_b (h rec (by simp))
    obtain ⟨qs, rfl⟩ := of_bs (recs := recs) fun x hx => h x (by simp [hx])
    exact ⟨q :: qs, rfl⟩
theorem up_allS {H : Type} : ∀ l : List (DataW H), Rows.uptoBulkAll l = (l.map Rows.uptoBulk).sum
  | [] => by simp [Rows.uptoBulkAll]
  | x :: l => by simp only [Rows.uptoBulkAll, List.map_cons, List.sum_cons, up_allS l]
theorem up_bulk {H : Type} : Bulk (Rows.uptoBulk (H := H)) where
  one d := by
    cases d with
    | lit l => cases l <;> simp [Rows.uptoBulk]
    | _ => simp [Rows.uptoBulk]
  slice e sp := by simp only [Rows.uptoBulk, ← up_allS]; omega
  agg ps := by simp only [Rows.uptoBulk, ← up_allS]; omega
theorem up_mem {H : Type} {l : List (DataW H)} (hk : Rows.uptoSmall H l = true) {i : Nat} {d : DataW H} (hd : l[i]? = some d) : Rows.uptoBulk d ≤ 1048576 := by
  have h : Rows.uptoBulkAll l ≤ 1048576 := of_decide_eq_true hk
  have key : ∀ (l : List (DataW H)) (i : Nat), l[i]? = some d → Rows.uptoBulk d ≤ Rows.uptoBulkAll l := by
    intro l
    induction l with
    | nil => intro i h; simp at h
    | cons x l ih =>
      intro i h
      simp only [Rows.uptoBulkAll]
      cases i with
      | zero => simp at h; subst h; omega
      | succ i => have := ih i (by simpa using h); omega
  exact Nat.le_trans (key l i hd) h
theorem wp_calls {H : Type} {W : World} {v v' : Value} {ds : List (DataW H)} (hk : Rows.uptoSmall H ds = true) {d : DataW H} (hd : ds[0]? = some d) {recs recs' : List (List LA)}
    (hf : (∀ rec ∈ recs, fits ks_ps rec) ∧ ∀ μ : DataW H → Nat, Bulk μ → (recs.map laSum).sum ≤ μ d ∧ recs.length ≤ μ d) (hf' : ∀ rec ∈ recs', fits ks_aks rec)
    (hv : (∃ a, v = .slice a 0 0 ∧ recs = []) ∨ ∃ b δ s cap, v = .slice (some ⟨b, δ, none⟩) recs.length cap ∧ recs.length ≤ cap ∧ cap < 9223372036854775808 ∧ RecsAt W b δ s ks_ps.length recs)
    (hv' : (∃ a, v' = .slice a 0 0 ∧ recs' = []) ∨ ∃ b δ s cap, v' = .slice (some ⟨b, δ, none⟩) recs'.length cap ∧ recs'.length ≤ cap ∧ cap < 9223372036854775808 ∧ RecsAt W b δ s ks_aks.length recs') :
    Calls Try.prog 10 #[v, v'] W fun e W' => e = .returned (.bool true) ∧ Below W.heap.size W W' := by
  obtain ⟨hf1, hf2⟩ := hf
  have hb := hf2 _ up_bulk
  have hu := up_mem hk hd
  obtain ⟨ps, rfl, hsum⟩ := of_ls hf1
  obtain ⟨aks, rfl⟩ := of_bs hf'
  rw [hsum, List.length_map] at hb
  have hl : ps.flatten.length + 512 ≤ maxRoom := by rw [show maxRoom = 175921860444160 from rfl]; omega
  obtain ⟨σ1, e1, s1, r1, f1⟩ := (FSt.start W).recs hv
  obtain ⟨σ2, e2, s2, r2, f2⟩ := s1.recs hv'
  obtain ⟨σ3, e3, _, s3⟩ := s2.look (B := Pw.dead) rfl none (fun _ _ _ h => by cases h)
  have hr : RL σ3 [.slice 0 0 ps.length false, .slice 1 0 aks.length false] #[v, v'].toList := by
    refine .cons _ _ _ _ ?_ (.cons _ _ _ _ ?_ .nil)
    · have := (r1.ext e2).ext e3
      simpa using this
    · have := r2.ext e3
      simpa using this
  have hΦ : (wpΦ ps aks).ok W σ3 := by
    refine ⟨?_, ?_⟩
    · rcases f1 with h | ⟨b, δ, s, h1, h2⟩
      · exact .inl h
      · exact .inr ⟨b, δ, s, e3 _ _ (e2 _ _ h1), h2⟩
    · rcases f2 with h | ⟨b, δ, s, h1, h2⟩
      · exact .inl h
      · exact .inr ⟨b, δ, s, e3 _ _ h1, h2⟩
  exact law_runP (Φ := wpΦ ps aks) X_wp_ok Try.func10 (by kernel_rfl) (loopsP_cons LoopsP.nil (by kernel_rfl) (gWp_at hl (by omega))) ((wp_run concS aks ps).trans (wp_true aks hl)) hΦ s3 hr
set_option maxRecDepth 100000 in
theorem widePieces_lifted (os : Os) (started : os.Started) (H : Type) (enc : TypeId × Value → H) (F : Stop.Interp) :
    ReturnsInHanded {} Try.checked os 10 .any ((Rows.OpenSpec.upto Rows.widePiecesSpec).pre6 enc Try.prog Try.f10 Rows.widePiecesUptoRow.domain false) (((Rows.OpenSpec.upto Rows.widePiecesSpec).at F).post enc Try.prog Try.f10 false true false false) := by
  refine law_liftedU (C := Try.checked) (s := Rows.OpenSpec.upto Rows.widePiecesSpec) (k := Rows.uptoSmall) rfl (tb := 4) (by kernel_rfl) started (by kernel_rfl) Try.func10
    (OpenSpec.witness (enc := enc) (C := Try.checked) (s := Rows.OpenSpec.upto Rows.widePiecesSpec) (k := Rows.uptoSmall) rfl false ⟨#[], #[.slice none 0 0, .slice none 0 0], []⟩ 8 (by kernel_rfl) (by kernel_rfl) (by kernel_rfl) (x := ([.nil, .nil], [], [])) (by kernel_rfl) rfl (by kernel_rfl)) rfl ?_ (by kernel_rfl) (by kernel_rfl) (by kernel_rfl) (by kernel_rfl) ?_
  · intro ds h
    match ds, h with | [d0, d1], _ => rfl
  · intro W base args ds p hval hsz hA hlt hw hk
    obtain ⟨args⟩ := args
    match args, hsz, hval with
    | [a0, a1], hsz, hval =>
      obtain ⟨dps, _, eps, tps, ups⟩ := trod_getD hA hw 0 _ a0 (by kernel_rfl) rfl
      obtain ⟨ps, wps, fps⟩ := argRecs (t := 56) (ks := ks_ps) ks_ps_ok (hval 0 _ a0 (by kernel_rfl) rfl) tps ups
      obtain ⟨daks, _, eaks, taks, uaks⟩ := trod_getD hA hw 1 _ a1 (by kernel_rfl) rfl
      obtain ⟨aks, waks, faks⟩ := argRecs (t := 57) (ks := ks_aks) ks_aks_ok (hval 1 _ a1 (by kernel_rfl) rfl) taks uaks
      exact wp_calls hk eps wps waks.1 fps faks
theorem widePieces_facts : joinedFacts Try.pinned.checked.prog 10 Try.f10 (Rows.OpenSpec.upto Rows.widePiecesSpec).bare Rows.widePiecesUptoRow = true := by
  show joinedFacts Try.prog 10 Try.f10 (Rows.OpenSpec.upto Rows.widePiecesSpec).bare Rows.widePiecesUptoRow = true
  unfold joinedFacts
  rw [liftsF, heardF, enterF, makeF]
  kernel_rfl
theorem widePieces_holds : Rows.WidePiecesUptoSaid :=
  OpenClaim.holds_of_cond 10 Try.f10 rfl rfl rfl rfl rfl rfl rfl ⟨rfl, rfl, rfl, rfl, rfl⟩ rfl rfl rfl rfl rfl (by kernel_rfl) Try.func10 widePieces_facts
    (of_decide_eq_true (by kernel_rfl)) (by unfold Func.isWrapper; first | (rw [if_pos (by decide +kernel)]; kernel_rfl) | (rw [if_neg (by decide +kernel)]; exact ⟨rfl, rfl⟩))
    (fun os started H enc _ F => widePieces_lifted os started H enc F)
#print axioms widePieces_holds
end Go.Proofs.Ytmhbhpmfbalbeaa

