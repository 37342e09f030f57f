/- The law WideAll, where what is read is of bulk at most 1048576: three hashes, whatever is done on them in whatever order, give the Sum and Size of the bytes that came. -/
import Derived.Test.YtmhbhpmfbalbeaaJf
import Derived.Test.YtmhbhpmfbalbeaaFt
import Derived.Test.YtmhbhpmfbalbeaaFu
namespace Go.Proofs.Ytmhbhpmfbalbeaa
open Go Pw Go.RowKit Go.ChangeShapes
def waF0 : Option AV := some (.bool false)
noncomputable def waJ (o : SOps) (x : HA) (k : Option AV) : Option AV := gds (waG1 x) (brn (!waA1 o x) waF0 (gds [decide (0 + x.s.rest.length ≤ x.s.rest.length)] (brn (!waA2 x) waF0 k)))
def waE0 (o : SOps) : Bool := eqW 64 (sumV o (resp 8 SW) 0 []) (hashR o [])
noncomputable def waRes (o : SOps) (t : Int → N3) (qs : List ActR) : Option AV :=
  brn (!waE0 o) waF0 (brn (!waE0 o) waF0 (brn (!waE0 o) waF0 (bif waGd qs ⟨qs.length, 0, V0⟩ then waJ o (waAll o t qs).a (waJ o (waAll o t qs).b (waJ o (waAll o t qs).c (some (.bool true)))) else none)))
theorem wa_run (o : SOps) (t : Int → N3) (qs : List ActR) : runKL (ρ := AV) (X_wa o t) [(9, gWa o t qs)] [0,2,3,4,5,6,7,8,9,10,11,12,13,19,27,28,29,30,31,32,33,37,51,52,69,82,92,93,104,105,113,120,129,139,141,154,155,156,157,158,159,160,161,162,163,164] 300 waF (bodyOf waF) [.slice 0 0 qs.length false] [Pw.dead] (fun v _ => some v) = waRes o t qs := by kernel_rfl
theorem waJ_true {T : Nat} {v : V3 HA} (hv : WAI T v) (hT : T + 512 ≤ maxRoom) (j : N3) (k : Option AV) : waJ concS (v.get j) k = k := by
  unfold waJ
  rw [gds_true (waG1_true hv hT j), waA1_true hv j, waA2_true hv hT j, Bool.not_true, brn_false, brn_false, gds_true (by
    intro c h
    simp only [List.mem_cons, List.not_mem_nil, or_false] at h
    rw [h]; exact decide_eq_true (by omega))]
theorem wa_true {qs : List ActR} (hq : ∀ q ∈ qs, q.ok) (hl : totA qs + 512 ≤ maxRoom) : waRes concS atN3 qs = some (.bool true) := by
  have hv := waAll_inv atN3 hq hl
  have h0 : waE0 concS = true := by
    have h1 := (HSI.zero concS).fin
    have h2 := hash_eq (b := []) (by simp)
    unfold waE0
    rw [← h2]
    rw [show sumV concS (resp 8 SW) 0 [] = hashV concS [] from h1]
    exact eqW_self _ _
  have hg : waGd qs ⟨qs.length, 0, V0⟩ = true := isP_true ⟨rfl, rfl, rfl⟩
  unfold waRes
  rw [h0, Bool.not_true, brn_false, brn_false, brn_false, hg, cond_true]
  exact (waJ_true hv hl .j0 _).trans ((waJ_true hv hl .j1 _).trans (waJ_true hv hl .j2 _))
/-! ### the argument -/
def ks_acts : List CK := [.n, .n, .n, .l]
theorem ks_acts_ok : isRecs Try.prog 33 ks_acts := ⟨43, by kernel_rfl, by kernel_rfl, by kernel_rfl, by decide⟩
theorem of_fits {rec : List LA} (h : fits ks_acts rec) : ∃ q : ActR, q.ok ∧ rec = actL q := by
  have hlen : rec.length = 4 := h.length.symm
  match rec, hlen, h with
  | a0 :: a1 :: a2 :: a3 :: [], _, h =>
    simp only [ks_acts, fits, CK.fits] at h
    obtain ⟨⟨x0, rfl⟩, ⟨x1, rfl⟩, ⟨x2, rfl⟩, ⟨x3, rfl, y3, z3⟩, -⟩ := h
    exact ⟨⟨x0, x1, x2, x3⟩, ⟨y3⟩, rfl⟩
theorem of_acts : ∀ {recs : List (List LA)}, (∀ rec ∈ recs, fits ks_acts rec) → ∃ qs : List ActR, (∀ q ∈ qs, q.ok) ∧ recs = qs.map actL ∧ (recs.map laSum).sum = totA qs
  | [], _ => ⟨[], by simp, rfl, rfl⟩
  | rec :: recs, h => by
    obtain ⟨q, hq, rfl⟩ := of_fits (h rec (by simp))
    obtain ⟨qs, h1, rfl, h2⟩ := of_acts (recs := recs) fun x hx => h x (by simp [hx])
    refine ⟨q :: qs, fun x hx => ?_, rfl, ?_⟩
    · rcases List.mem_cons.1 hx with rfl | hx
      · exact hq
      · exact h1 x hx
    · have e1 : laSum (actL q) = q.data.length := by simp [actL, laSum, laLen]
      have e2 : totA (q :: qs) = q.data.length + totA qs := by unfold totA; rw [List.map_cons, List.sum_cons]
      rw [List.map_cons, List.sum_cons, h2, e1, e2]
theorem up_allS {H : Type} : ∀ l : List (DataW H), Rows.uptoBulkAll l = (l.map Rows.uptoBulk).sum
  | [] => by simp [Rows.uptoBulkAll]
  | x :: l => by simp only [Rows.uptoBulkAll, List.map_cons, List.sum_cons, up_allS l]
theorem up_bulk {H : Type} : Bulk (Rows.uptoBulk (H := H)) where
  one d := by
    cases d with
    | lit l => cases l <;> simp [Rows.uptoBulk]
    | _ => simp [Rows.uptoBulk]
  slice e sp := by simp only [Rows.uptoBulk, ← up_allS]; omega
  agg ps := by simp only [Rows.uptoBulk, ← up_allS]; omega
theorem up_mem {H : Type} {l : List (DataW H)} (hk : Rows.uptoSmall H l = true) {i : Nat} {d : DataW H} (hd : l[i]? = some d) : Rows.uptoBulk d ≤ 1048576 := by
  have h : Rows.uptoBulkAll l ≤ 1048576 := of_decide_eq_true hk
  have key : ∀ (l : List (DataW H)) (i : Nat), l[i]? = some d → Rows.uptoBulk d ≤ Rows.uptoBulkAll l := by
    intro l
    induction l with
    | nil => intro i h; simp at h
    | cons x l ih =>
      intro i h
      simp only [Rows.uptoBulkAll]
      cases i with
      | zero => simp at h; subst h; omega
      | succ i => have := ih i (by simpa using h); omega
  exact Nat.le_trans (key l i hd) h
theorem wa_calls {H : Type} {W : World} {v : Value} {ds : List (DataW H)} (hk : Rows.uptoSmall H ds = true) {d : DataW H} (hd : ds[0]? = some d) {recs : List (List LA)}
    (hf : (∀ rec ∈ recs, fits ks_acts rec) ∧ ∀ μ : DataW H → Nat, Bulk μ → (recs.map laSum).sum ≤ μ d ∧ recs.length ≤ μ d)
    (hv : (∃ a, v = .slice a 0 0 ∧ recs = []) ∨ ∃ b δ s cap, v = .slice (some ⟨b, δ, none⟩) recs.length cap ∧ recs.length ≤ cap ∧ cap < 9223372036854775808 ∧ RecsAt W b δ s ks_acts.length recs) :
    Calls Try.prog 6 #[v] W fun e W' => e = .returned (.bool true) ∧ Below W.heap.size W W' := by
  obtain ⟨hf1, hf2⟩ := hf
  have hb := hf2 _ up_bulk
  have hu := up_mem hk hd
  obtain ⟨qs, hq, rfl, hsum⟩ := of_acts hf1
  rw [hsum, List.length_map] at hb
  have hl : totA qs + 512 ≤ maxRoom := by rw [show maxRoom = 175921860444160 from rfl]; omega
  obtain ⟨σ, _, h2, h3, h4⟩ := (FSt.start W).recs hv
  have hr : RL σ [.slice 0 0 qs.length false] #[v].toList := .cons _ _ _ _ (by simpa using h3) .nil
  exact law_runP (Φ := waΦ qs) X_wa_ok Try.func6 (by kernel_rfl) (loopsP_cons LoopsP.nil (by kernel_rfl) (gWa_at hq hl (by omega))) ((wa_run concS atN3 qs).trans (wa_true hq hl)) h4 h2 hr
set_option maxRecDepth 100000 in
theorem wideAll_lifted (os : Os) (started : os.Started) (H : Type) (enc : TypeId × Value → H) (F : Stop.Interp) :
    ReturnsInHanded {} Try.checked os 6 .any ((Rows.OpenSpec.upto Rows.wideAllSpec).pre6 enc Try.prog Try.f6 Rows.wideAllUptoRow.domain false) (((Rows.OpenSpec.upto Rows.wideAllSpec).at F).post enc Try.prog Try.f6 false true false false) := by
  refine law_liftedU (C := Try.checked) (s := Rows.OpenSpec.upto Rows.wideAllSpec) (k := Rows.uptoSmall) rfl (tb := 4) (by kernel_rfl) started (by kernel_rfl) Try.func6
    (OpenSpec.witness (enc := enc) (C := Try.checked) (s := Rows.OpenSpec.upto Rows.wideAllSpec) (k := Rows.uptoSmall) rfl false ⟨#[], #[.slice none 0 0], []⟩ 8 (by kernel_rfl) (by kernel_rfl) (by kernel_rfl) (x := ([.nil], [], [])) (by kernel_rfl) rfl (by kernel_rfl)) rfl ?_ (by kernel_rfl) (by kernel_rfl) (by kernel_rfl) (by kernel_rfl) ?_
  · intro ds h
    match ds, h with | [d0], _ => rfl
  · intro W base args ds p hval hsz hA hlt hw hk
    obtain ⟨args⟩ := args
    match args, hsz, hval with
    | [a0], hsz, hval =>
      obtain ⟨dacts, _, eacts, tacts, uacts⟩ := trod_getD hA hw 0 _ a0 (by kernel_rfl) rfl
      obtain ⟨acts, wacts, facts⟩ := argRecs (t := 33) (ks := ks_acts) ks_acts_ok (hval 0 _ a0 (by kernel_rfl) rfl) tacts uacts
      exact wa_calls hk eacts wacts facts
theorem wideAll_facts : joinedFacts Try.pinned.checked.prog 6 Try.f6 (Rows.OpenSpec.upto Rows.wideAllSpec).bare Rows.wideAllUptoRow = true := by
  show joinedFacts Try.prog 6 Try.f6 (Rows.OpenSpec.upto Rows.wideAllSpec).bare Rows.wideAllUptoRow = true
  unfold joinedFacts
  rw [liftsF, heardF, enterF, makeF]
  kernel_rfl
theorem wideAll_holds : Rows.WideAllUptoSaid :=
  OpenClaim.holds_of_cond 6 Try.f6 rfl rfl rfl rfl rfl rfl rfl ⟨rfl, rfl, rfl, rfl, rfl⟩ rfl rfl rfl rfl rfl (by kernel_rfl) Try.func6 wideAll_facts
    (of_decide_eq_true (by kernel_rfl)) (by unfold Func.isWrapper; first | (rw [if_pos (by decide +kernel)]; kernel_rfl) | (rw [if_neg (by decide +kernel)]; exact ⟨rfl, rfl⟩))
    (fun os started H enc _ F => wideAll_lifted os started H enc F)
#print axioms wideAll_holds
end Go.Proofs.Ytmhbhpmfbalbeaa

