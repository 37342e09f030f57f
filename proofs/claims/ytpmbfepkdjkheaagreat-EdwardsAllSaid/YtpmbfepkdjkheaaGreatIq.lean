/- The law EdwardsAll: whatever is done on four points and four numbers is the document's, at each step: it answers true for every input. No conditions. -/
import Derived.Test.YtpmbfepkdjkheaaGreatIp
import Derived.Test.YtpmbfepkdjkheaaGreatFt
namespace Go.Proofs.YtpmbfepkdjkheaaGreat
open Go Pw Go.RowKit Go.ChangeShapes
noncomputable def eaRes (A : AOps) : AV := .bool (keyEq (A.e.bytes A.e.base) (A.e.rbytes A.e.rbase))
theorem ea_run (A : AOps) (t : Int → N4) (F : OpE → WE → EW) (G : OpE → WE → NW) (qs : List OpE) : runKL (ρ := AV) (X_ea A t F G) [(7, gEa A F G qs)] [0,2,3,4,5,6,7,8,9,10,11,12,16,28,50,51,52,53,54,55,56,57,58,77,78,79,80,81,84,85,86,87,88,89,90,91,92,93,94,95,96,97,98,99,100,101,108,109,110,111,112,115,116,117,118,119,120,121,122,123,124,125,126,127,128,129,132,133,134,135,136,137,138,139,140,141,142,143,144,145,146,147] 300 eaF (bodyOf eaF) [.slice 0 0 qs.length false] [Pw.dead] (fun v _ => some v) =
    bif eaGd A qs ⟨qs.length, 0, W0 A⟩ then some (eaRes A) else none := by kernel_rfl
theorem ea_true {qs : List OpE} (hl : qs.length < 9223372036854775808) : runKL (ρ := AV) (X_ea concA atN cF cG) [(7, gEa concA cF cG qs)] [0,2,3,4,5,6,7,8,9,10,11,12,16,28,50,51,52,53,54,55,56,57,58,77,78,79,80,81,84,85,86,87,88,89,90,91,92,93,94,95,96,97,98,99,100,101,108,109,110,111,112,115,116,117,118,119,120,121,122,123,124,125,126,127,128,129,132,133,134,135,136,137,138,139,140,141,142,143,144,145,146,147] 300 eaF (bodyOf eaF) [.slice 0 0 qs.length false] [Pw.dead] (fun v _ => some v) = some (.bool true) := by
  refine (ea_run concA atN cF cG qs).trans ?_
  have hg : eaGd concA qs ⟨qs.length, 0, W0 concA⟩ = true := isP_true ⟨rfl, rfl, hl, rfl⟩
  have H := concAG.e
  rw [hg, cond_true]
  unfold eaRes
  rw [encK_same (H.bytes H.base) (H.rbytes H.rbase)]
/-! ### the argument -/
def ks_qs : List CK := [.n, .n, .n, .n, .u .u8, .u .u8, .u .u8, .u .u8, .u .u8, .u .u8, .u .u8, .u .u8, .u .u8, .u .u8, .u .u8, .u .u8, .u .u8, .u .u8, .u .u8, .u .u8, .u .u8, .u .u8, .u .u8, .u .u8, .u .u8, .u .u8, .u .u8, .u .u8, .u .u8, .u .u8, .u .u8, .u .u8, .u .u8, .u .u8, .u .u8, .u .u8, .l, .b, .n]
theorem ks_qs_ok : isRecs Tryz.prog 22 ks_qs := ⟨52, by kernel_rfl, by kernel_rfl, by kernel_rfl, by decide⟩
theorem of_fits {rec : List LA} (h : fits ks_qs rec) : ∃ q : OpE, q.ok ∧ rec = opLE q := by
  have hlen : rec.length = 39 := h.length.symm
  match rec, hlen, h with
  | a0 :: a1 :: a2 :: a3 :: a4 :: a5 :: a6 :: a7 :: a8 :: a9 :: a10 :: a11 :: a12 :: a13 :: a14 :: a15 :: a16 :: a17 :: a18 :: a19 :: a20 :: a21 :: a22 :: a23 :: a24 :: a25 :: a26 :: a27 :: a28 :: a29 :: a30 :: a31 :: a32 :: a33 :: a34 :: a35 :: a36 :: a37 :: a38 :: [], _, h =>
    simp only [ks_qs, fits, CK.fits] at h
    obtain ⟨⟨x0, rfl⟩, ⟨x1, rfl⟩, ⟨x2, rfl⟩, ⟨x3, rfl⟩, ⟨x4, rfl, y4⟩, ⟨x5, rfl, y5⟩, ⟨x6, rfl, y6⟩, ⟨x7, rfl, y7⟩, ⟨x8, rfl, y8⟩, ⟨x9, rfl, y9⟩, ⟨x10, rfl, y10⟩, ⟨x11, rfl, y11⟩, ⟨x12, rfl, y12⟩, ⟨x13, rfl, y13⟩, ⟨x14, rfl, y14⟩, ⟨x15, rfl, y15⟩, ⟨x16, rfl, y16⟩, ⟨x17, rfl, y17⟩, ⟨x18, rfl, y18⟩, ⟨x19, rfl, y19⟩, ⟨x20, rfl, y20⟩, ⟨x21, rfl, y21⟩, ⟨x22, rfl, y22⟩, ⟨x23, rfl, y23⟩, ⟨x24, rfl, y24⟩, ⟨x25, rfl, y25⟩, ⟨x26, rfl, y26⟩, ⟨x27, rfl, y27⟩, ⟨x28, rfl, y28⟩, ⟨x29, rfl, y29⟩, ⟨x30, rfl, y30⟩, ⟨x31, rfl, y31⟩, ⟨x32, rfl, y32⟩, ⟨x33, rfl, y33⟩, ⟨x34, rfl, y34⟩, ⟨x35, rfl, y35⟩, ⟨x36, rfl, y36, z36⟩, ⟨x37, rfl⟩, ⟨x38, rfl⟩, -⟩ := h
    refine ⟨⟨x0, x1, x2, x3, ⟨x4, x5, x6, x7, x8, x9, x10, x11, x12, x13, x14, x15, x16, x17, x18, x19, x20, x21, x22, x23, x24, x25, x26, x27, x28, x29, x30, x31, x32, x33, x34, x35⟩, x36, x37, x38⟩, ⟨?_, y36, z36⟩, rfl⟩
    intro b hb
    simp only [K32.toList, List.mem_cons, List.not_mem_nil, or_false] at hb
    rcases hb with rfl | rfl | rfl | rfl | rfl | rfl | rfl | rfl | rfl | rfl | rfl | rfl | rfl | rfl | rfl | rfl | rfl | rfl | rfl | rfl | rfl | rfl | rfl | rfl | rfl | rfl | rfl | rfl | rfl | rfl | rfl | rfl
    all_goals assumption
theorem of_fitsL : ∀ {recs : List (List LA)}, (∀ rec ∈ recs, fits ks_qs rec) → ∃ qs : List OpE, (∀ q ∈ qs, q.ok) ∧ recs = qs.map opLE
  | [], _ => ⟨[], by simp, rfl⟩
  | rec :: recs, h => by
    obtain ⟨q, h1, rfl⟩ := of_fits (h rec (by simp))
    obtain ⟨qs, h2, rfl⟩ := of_fitsL (recs := recs) fun x hx => h x (by simp [hx])
    refine ⟨q :: qs, fun x hx => ?_, rfl⟩
    rcases List.mem_cons.1 hx with rfl | hx
    · exact h1
    · exact h2 x hx
theorem ea_calls {W : World} {v : Value} {recs : List (List LA)} (hf : ∀ rec ∈ recs, fits ks_qs rec) (hv : (∃ a, v = .slice a 0 0 ∧ recs = []) ∨ ∃ b δ s cap, v = .slice (some ⟨b, δ, none⟩) recs.length cap ∧ recs.length ≤ cap ∧ cap < 9223372036854775808 ∧ RecsAt W b δ s ks_qs.length recs) :
    Calls Tryz.prog 3 #[v] W fun e W' => e = .returned (.bool true) ∧ Below W.heap.size W W' := by
  obtain ⟨qs, hq, rfl⟩ := of_fitsL hf
  obtain ⟨σ, _, h2, h3, h4⟩ := (FSt.start W).recs hv
  have hl : qs.length < 9223372036854775808 := by
    rcases hv with ⟨a, rfl, h⟩ | ⟨b, δ, s, cap, rfl, k1, k2, k3⟩
    · have := congrArg List.length h
      simp at this; simp [this]
    · simp at k1; omega
  have hr : RL σ [.slice 0 0 qs.length false] #[v].toList := .cons _ _ _ _ (by simpa using h3) .nil
  exact law_runP (Φ := eaΦ qs) X_ea_ok Tryz.func3 (by kernel_rfl) (loopsP_cons LoopsP.nil (by kernel_rfl) (gEa_at hq)) (ea_true hl) h4 h2 hr
set_option maxRecDepth 100000 in
theorem edwardsAll_lifted (os : Os) (started : os.Started) (H : Type) (enc : TypeId × Value → H) :
    ReturnsInHanded {} Tryz.checked os 3 .any (Rows.edwardsAllSpec.pre6 enc Tryz.prog Tryz.f3 Rows.edwardsAllRow.domain false) (Rows.edwardsAllSpec.post enc Tryz.prog Tryz.f3 false true false false) := by
  refine law_lifted (C := Tryz.checked) (tb := 4) (by kernel_rfl) started (by kernel_rfl) Tryz.func3
    (ChangeSpec.witness6 (enc := enc) (C := Tryz.checked) false ⟨#[], #[.slice none 0 0], []⟩ 8 (by kernel_rfl) (by kernel_rfl) (by kernel_rfl) (by kernel_rfl)) rfl ?_ (by kernel_rfl) (by kernel_rfl) (by kernel_rfl) (by kernel_rfl) ?_
  · intro ds h
    match ds, h with | [d0], _ => rfl
  · intro W base args ds p hval hsz hA hlt hw
    obtain ⟨args⟩ := args
    match args, hsz, hval with
    | [a0], hsz, hval =>
      obtain ⟨dqs, _, eqs, tqs, uqs⟩ := trod_getD hA hw 0 _ a0 (by kernel_rfl) rfl
      obtain ⟨qs, wqs, fqs⟩ := argRecs (t := 22) (ks := ks_qs) ks_qs_ok (hval 0 _ a0 (by kernel_rfl) rfl) tqs uqs
      exact ea_calls wqs.1 fqs
theorem edwardsAll_facts : joinedFacts Tryz.pinned.checked.prog 3 Tryz.f3 Rows.edwardsAllSpec Rows.edwardsAllRow = true := by
  show joinedFacts Tryz.prog 3 Tryz.f3 Rows.edwardsAllSpec Rows.edwardsAllRow = true
  unfold joinedFacts
  rw [liftsF, heardF, enterF, makeF]
  kernel_rfl
theorem edwardsAll_holds : Rows.EdwardsAllSaid :=
  OpenClaim.holds_of_wide 3 Tryz.f3 rfl rfl rfl rfl rfl rfl rfl ⟨rfl, rfl, rfl, rfl, rfl⟩ rfl rfl rfl rfl rfl (by kernel_rfl) Tryz.func3 edwardsAll_facts
    (of_decide_eq_true (by kernel_rfl)) (by unfold Func.isWrapper; first | (rw [if_pos (by decide +kernel)]; kernel_rfl) | (rw [if_neg (by decide +kernel)]; exact ⟨rfl, rfl⟩))
    (fun os started H enc _ => edwardsAll_lifted os started H enc)
#print axioms edwardsAll_holds
end Go.Proofs.YtpmbfepkdjkheaaGreat

