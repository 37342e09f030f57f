/- The law FieldAll: whatever is done on four numbers, in turns, is the document's: it answers true for every input. No conditions. -/
import Derived.Test.YtfajgpjpabeafaaGe
import Derived.Test.YtfajgpjpabeafaaFt
namespace Go.Proofs.Ytfajgpjpabeafaa
open Go Pw Go.RowKit Go.ChangeShapes
def faBy (x : L5) (y : L4) (o : FOps) : Bool := keyEq (o.bytes x) (o.rbytes y)
noncomputable def faRes (o : FOps) (z : V4 L5 × V4 L4) : Option AV := brn (!faBy z.1.a z.2.a o) (some (.bool false)) (brn (!faBy z.1.b z.2.b o) (some (.bool false)) (brn (!faBy z.1.c z.2.c o) (some (.bool false)) (brn (!faBy z.1.d z.2.d o) (some (.bool false)) (some (.bool (faBy (o.small 7) (o.rsmall 7) o))))))
theorem fa_run (o : FOps) (m : OpR → L5 → L5 → L5) (m' : OpR → L4 → L4 → L4) (t : Int → N4) (qs : List OpR) : runKL (ρ := AV) (X_fa o m m' t) [(4, gFa m m' t qs)] [0,2,3,4,5,6,7,8,9,10,11,12,13,14,15,16,20,38,87,118,120,131] 300 faF (bodyOf faF) [.slice 0 0 qs.length false] [Pw.dead] (fun v _ => some v) =
    bif faGd qs ⟨qs.length, 0, Z5, Z4⟩ then faRes o ((faFin m m' t qs ⟨qs.length, 0, Z5, Z4⟩).r, (faFin m m' t qs ⟨qs.length, 0, Z5, Z4⟩).d) else none := by kernel_rfl
theorem faBy_conc {x : L5} {y : L4} (h : Sim x y) : faBy x y concFOps = true := by
  have e : faBy x y concFOps = keyEq (bytesS x) (bytesR4 y) := by kernel_rfl
  rw [e]; exact h.key
theorem fa_true {qs : List OpR} (hq : ∀ q ∈ qs, q.ok) (hl : qs.length < 9223372036854775808) : runKL (ρ := AV) (X_fa concFOps (madeV concFOps) (rmadeV concFOps) atN) [(4, gFa (madeV concFOps) (rmadeV concFOps) atN qs)] [0,2,3,4,5,6,7,8,9,10,11,12,13,14,15,16,20,38,87,118,120,131] 300 faF (bodyOf faF) [.slice 0 0 qs.length false] [Pw.dead] (fun v _ => some v) = some (.bool true) := by
  refine (fa_run concFOps (madeV concFOps) (rmadeV concFOps) atN qs).trans ?_
  have hg : faGd qs ⟨qs.length, 0, Z5, Z4⟩ = true := by
    unfold faGd
    rw [decide_eq_true ⟨rfl, rfl, hl⟩]; rfl
  rw [hg, cond_true]
  have hs := faAll_sim atN hq
  have h0 := hs .j0
  have h1 := hs .j1
  have h2 := hs .j2
  have h3 := hs .j3
  have h7 : Sim (concFOps.small 7) (concFOps.rsmall 7) := by
    have e1 : concFOps.small 7 = smallS 7 := by kernel_rfl
    have e2 : concFOps.rsmall 7 = smallR 7 := by kernel_rfl
    rw [e1, e2]; exact Sim.small (by decide)
  unfold faFin faRes
  generalize faAll (madeV concFOps) (rmadeV concFOps) atN qs = z at *
  replace h0 : Sim z.1.a z.2.a := h0
  replace h1 : Sim z.1.b z.2.b := h1
  replace h2 : Sim z.1.c z.2.c := h2
  replace h3 : Sim z.1.d z.2.d := h3
  rw [faBy_conc h0, faBy_conc h1, faBy_conc h2, faBy_conc h3, faBy_conc h7]
  rfl
/-! ### the argument -/
def ks_qs : List CK := [.n, .n, .n, .n, .u .u64, .l, .u .u8, .u .u8, .u .u8, .u .u8, .u .u8, .u .u8, .u .u8, .u .u8, .u .u8, .u .u8, .u .u8, .u .u8, .u .u8, .u .u8, .u .u8, .u .u8, .u .u8, .u .u8, .u .u8, .u .u8, .u .u8, .u .u8, .u .u8, .u .u8, .u .u8, .u .u8, .u .u8, .u .u8, .u .u8, .u .u8, .u .u8, .u .u8, .b, .n]
theorem ks_qs_ok : isRecs Try.prog 69 ks_qs := ⟨73, by kernel_rfl, by kernel_rfl, by kernel_rfl, by decide⟩
theorem of_fits {rec : List LA} (h : fits ks_qs rec) : ∃ q : OpR, q.ok ∧ rec = opLA q := by
  have hlen : rec.length = 40 := h.length.symm
  match rec, hlen, h with
  | a0 :: a1 :: a2 :: a3 :: a4 :: a5 :: a6 :: a7 :: a8 :: a9 :: a10 :: a11 :: a12 :: a13 :: a14 :: a15 :: a16 :: a17 :: a18 :: a19 :: a20 :: a21 :: a22 :: a23 :: a24 :: a25 :: a26 :: a27 :: a28 :: a29 :: a30 :: a31 :: a32 :: a33 :: a34 :: a35 :: a36 :: a37 :: a38 :: a39 :: [], _, h =>
    simp only [ks_qs, fits, CK.fits] at h
    obtain ⟨⟨x0, rfl⟩, ⟨x1, rfl⟩, ⟨x2, rfl⟩, ⟨x3, rfl⟩, ⟨x4, rfl, y4⟩, ⟨x5, rfl, y5, z5⟩, ⟨x6, rfl, y6⟩, ⟨x7, rfl, y7⟩, ⟨x8, rfl, y8⟩, ⟨x9, rfl, y9⟩, ⟨x10, rfl, y10⟩, ⟨x11, rfl, y11⟩, ⟨x12, rfl, y12⟩, ⟨x13, rfl, y13⟩, ⟨x14, rfl, y14⟩, ⟨x15, rfl, y15⟩, ⟨x16, rfl, y16⟩, ⟨x17, rfl, y17⟩, ⟨x18, rfl, y18⟩, ⟨x19, rfl, y19⟩, ⟨x20, rfl, y20⟩, ⟨x21, rfl, y21⟩, ⟨x22, rfl, y22⟩, ⟨x23, rfl, y23⟩, ⟨x24, rfl, y24⟩, ⟨x25, rfl, y25⟩, ⟨x26, rfl, y26⟩, ⟨x27, rfl, y27⟩, ⟨x28, rfl, y28⟩, ⟨x29, rfl, y29⟩, ⟨x30, rfl, y30⟩, ⟨x31, rfl, y31⟩, ⟨x32, rfl, y32⟩, ⟨x33, rfl, y33⟩, ⟨x34, rfl, y34⟩, ⟨x35, rfl, y35⟩, ⟨x36, rfl, y36⟩, ⟨x37, rfl, y37⟩, ⟨x38, rfl⟩, ⟨x39, rfl⟩, -⟩ := h
    refine ⟨⟨x0, x1, x2, x3, x4, x5, ⟨x6, x7, x8, x9, x10, x11, x12, x13, x14, x15, x16, x17, x18, x19, x20, x21, x22, x23, x24, x25, x26, x27, x28, x29, x30, x31, x32, x33, x34, x35, x36, x37⟩, x38, x39⟩, ⟨y4, ?_, y5, z5⟩, rfl⟩
    intro b hb
    simp only [K32.toList, List.mem_cons, List.not_mem_nil, or_false] at hb
    rcases hb with rfl | rfl | rfl | rfl | rfl | rfl | rfl | rfl | rfl | rfl | rfl | rfl | rfl | rfl | rfl | rfl | rfl | rfl | rfl | rfl | rfl | rfl | rfl | rfl | rfl | rfl | rfl | rfl | rfl | rfl | rfl | rfl
    all_goals assumption
theorem of_fitsL : ∀ {recs : List (List LA)}, (∀ rec ∈ recs, fits ks_qs rec) → ∃ qs : List OpR, (∀ q ∈ qs, q.ok) ∧ recs = qs.map opLA
  | [], _ => ⟨[], by simp, rfl⟩
  | rec :: recs, h => by
    obtain ⟨q, h1, rfl⟩ := of_fits (h rec (by simp))
    obtain ⟨qs, h2, rfl⟩ := of_fitsL (recs := recs) fun x hx => h x (by simp [hx])
    refine ⟨q :: qs, fun x hx => ?_, rfl⟩
    rcases List.mem_cons.1 hx with rfl | hx
    · exact h1
    · exact h2 x hx
theorem fa_calls {W : World} {v : Value} {recs : List (List LA)} (hf : ∀ rec ∈ recs, fits ks_qs rec) (hv : (∃ a, v = .slice a 0 0 ∧ recs = []) ∨ ∃ b δ s cap, v = .slice (some ⟨b, δ, none⟩) recs.length cap ∧ recs.length ≤ cap ∧ cap < 9223372036854775808 ∧ RecsAt W b δ s ks_qs.length recs) :
    Calls Try.prog 17 #[v] W fun e W' => e = .returned (.bool true) ∧ Below W.heap.size W W' := by
  obtain ⟨qs, hq, rfl⟩ := of_fitsL hf
  obtain ⟨σ, _, h2, h3, h4⟩ := (FSt.start W).recs hv
  have hl : qs.length < 9223372036854775808 := by
    rcases hv with ⟨a, rfl, h⟩ | ⟨b, δ, s, cap, rfl, k1, k2, k3⟩
    · have := congrArg List.length h
      simp at this; simp [this]
    · simp at k1; omega
  have hr : RL σ [.slice 0 0 qs.length false] #[v].toList := .cons _ _ _ _ (by simpa using h3) .nil
  exact law_runP (Φ := faΦ qs) X_fa_ok Try.func17 (by kernel_rfl) (loopsP_cons LoopsP.nil (by kernel_rfl) (gFa_at hq)) (fa_true hq hl) h4 h2 hr
set_option maxRecDepth 100000 in
theorem fieldAll_lifted (os : Os) (started : os.Started) (H : Type) (enc : TypeId × Value → H) :
    ReturnsInHanded {} Try.checked os 17 .any (Rows.fieldAllSpec.pre6 enc Try.prog Try.f17 Rows.fieldAllRow.domain false) (Rows.fieldAllSpec.post enc Try.prog Try.f17 false true false false) := by
  refine law_lifted (C := Try.checked) (tb := 4) (by kernel_rfl) started (by kernel_rfl) Try.func17
    (ChangeSpec.witness6 (enc := enc) (C := Try.checked) false ⟨#[], #[.slice none 0 0], []⟩ 8 (by kernel_rfl) (by kernel_rfl) (by kernel_rfl) (by kernel_rfl)) rfl ?_ (by kernel_rfl) (by kernel_rfl) (by kernel_rfl) (by kernel_rfl) ?_
  · intro ds h
    match ds, h with | [d0], _ => rfl
  · intro W base args ds p hval hsz hA hlt hw
    obtain ⟨args⟩ := args
    match args, hsz, hval with
    | [a0], hsz, hval =>
      obtain ⟨_, _, tqs, uqs⟩ := trod_get hA hw 0 _ a0 (by kernel_rfl) rfl
      obtain ⟨qs, wqs, fqs⟩ := argRecs (t := 69) (ks := ks_qs) ks_qs_ok (hval 0 _ a0 (by kernel_rfl) rfl) tqs uqs
      exact fa_calls wqs fqs
theorem fieldAll_facts : joinedFacts Try.pinned.checked.prog 17 Try.f17 Rows.fieldAllSpec Rows.fieldAllRow = true := by
  show joinedFacts Try.prog 17 Try.f17 Rows.fieldAllSpec Rows.fieldAllRow = true
  unfold joinedFacts
  rw [liftsF, heardF, enterF, makeF]
  kernel_rfl
theorem fieldAll_holds : Rows.FieldAllSaid :=
  OpenClaim.holds_of_wide 17 Try.f17 rfl rfl rfl rfl rfl rfl rfl ⟨rfl, rfl, rfl, rfl, rfl⟩ rfl rfl rfl rfl rfl (by kernel_rfl) Try.func17 fieldAll_facts
    (of_decide_eq_true (by kernel_rfl)) (by unfold Func.isWrapper; first | (rw [if_pos (by decide +kernel)]; kernel_rfl) | (rw [if_neg (by decide +kernel)]; exact ⟨rfl, rfl⟩))
    (fun os started H enc _ => fieldAll_lifted os started H enc)
#print axioms fieldAll_holds
end Go.Proofs.Ytfajgpjpabeafaa

