/- The law SignSigns: every Sign is the document's; what is handed in stays; over the same lists, written over, it signs what stands there now: it answers true for every input. No conditions. -/
import Derived.Test.YtnnjaijokiknkaaGreatSk
namespace Go.Proofs.YtnnjaijokiknkaaGreat
open Go Pw Go.RowKit
def rN (b : List Nat) : Bool := decide (0 ≤ (b.length : Int) ∧ (b.length : Int) ≤ (((tkL b.length b).length + 80 : Nat) : Int))
def lfB (b : List Nat) : List Bool := [decide (0 + ((tkL b.length b).length + 80) ≤ (hnA b).length), decide (0 + b.length ≤ b.length), decide (hnL b = handL (tkL b.length b) ∧ (tkL b.length b).length < 4611686018427387904)]
def tnB (b : List Nat) : Bool := decide (b.length = b.length ∧ (tkL b.length b).length + 80 = (hnA b).length ∧ b.length ≤ (tkL b.length b).length + 80 ∧ b.length ≤ 281474976710656)
def hdB (b : List Nat) : List Bool := [decide (0 + b.length ≤ b.length), decide ((tkL b.length b).length ≤ 140737488351232)]
def inB (b : List Nat) : Bool := decide (0 + 0 * 1 + ((b.length : Int).toNat - 0) ≤ (hnA b).length)
def wrB' (b : List Nat) : Bool := decide (0 + 0 * 1 + ((b.length : Int).toNat - 0) ≤ (wrA b).length)
def er (x y : List Nat) : Bool := decide ((bif is32 x then (0 : Int) else 3) = bif is32 y then 0 else 3)
noncomputable def ssT (g : GOps) (s b : List Nat) : Option (AV × Option Blk) := gds (hdB s ++ hdB b ++ [rN s, rN b, inB s, inB b, decide ((hnI b).length + 512 ≤ maxRoom), decide (0 + s.length ≤ s.length), decide (0 + b.length ≤ b.length), decide ((tkL b.length b).length + 512 ≤ maxRoom)])
  (brn (!eqW 64 (signV g (hnI s) (hnI b)) (rsignV g (tkL s.length s) (tkL b.length b))) noB (brn (!er (hnI s) (tkL s.length s)) noB
    (gds (lfB s ++ lfB b ++ [tnB s, tnB b, rN s, rN b, wrB' s, wrB' b, decide ((wrI b).length + 512 ≤ maxRoom), decide (0 + s.length ≤ (turnL s).length), decide (0 + b.length ≤ (turnL b).length), decide ((tkL b.length (turnL b)).length + 512 ≤ maxRoom)])
      (brn (eqW 64 (signV g (wrI s) (wrI b)) (rsignV g (tkL s.length (turnL s)) (tkL b.length (turnL b)))) (some (.bool (er (wrI s) (tkL s.length (turnL s))), none)) noB))))
theorem lawSS_run (g : GOps) (s b : List Nat) : runNL (X_turn g) [] [0,1,4,5,6,7,8,9,10,11,12,39,40,41,44,45,46,47,50,51,52,53,54,83,84,85] 500 Tryz.f4 (bodyOf Tryz.f4) (laArgs [.l s, .l b] 0) (laLists [.l s, .l b]) = ssT g s b := by kernel_rfl
theorem hdB_ok {b : List Nat} (lb : b.length ≤ 140737488351232) : ∀ c ∈ hdB b, c = true := by
  intro c hc
  unfold hdB at hc
  rw [tkL_eq] at hc
  simp only [List.mem_cons, List.not_mem_nil, or_false] at hc
  rcases hc with h | h <;> (rw [h]; exact decide_eq_true (by omega))
theorem lfB_ok {b : List Nat} (lb : b.length ≤ 140737488351232) : ∀ c ∈ lfB b, c = true := by
  intro c hc
  unfold lfB at hc
  rw [hnL_eq, hnA_eq, tkL_eq, hand_len] at hc
  simp only [List.mem_cons, List.not_mem_nil, or_false] at hc
  rcases hc with h | h | h
  · rw [h]; exact decide_eq_true (by omega)
  · rw [h]; exact decide_eq_true (by omega)
  · rw [h]; exact decide_eq_true ⟨trivial, by omega⟩
theorem tnB_ok {b : List Nat} (lb : b.length ≤ 140737488351232) : tnB b = true := by
  unfold tnB
  rw [hnA_eq, tkL_eq, hand_len]
  exact decide_eq_true ⟨rfl, rfl, by omega, by omega⟩
theorem rN_ok {b : List Nat} : rN b = true := by
  unfold rN
  rw [tkL_eq]
  exact decide_eq_true (by omega)
theorem inB_ok {b : List Nat} : inB b = true := by
  unfold inB
  rw [hnA_eq, hand_len]
  exact decide_eq_true (by omega)
theorem wrB_ok {b : List Nat} : wrB' b = true := by
  unfold wrB'
  rw [wrA_len]
  exact decide_eq_true (by omega)
theorem er_self (x : List Nat) : er x x = true := decide_eq_true rfl
theorem all_app {l m : List Bool} (h : ∀ c ∈ l, c = true) (h' : ∀ c ∈ m, c = true) : ∀ c ∈ l ++ m, c = true := fun c hc => (List.mem_append.1 hc).elim (h c) (h' c)
theorem ss_true {g : GOps} (H : GGood g) (D : DGood g) {s b : List Nat} (hs : ∀ c ∈ s, c < 256) (ls : s.length ≤ 140737488351232) (hb : ∀ c ∈ b, c < 256) (lb : b.length ≤ 140737488351232) : ssT g s b = some (.bool true, none) := by
  have hm : maxRoom = 175921860444160 := rfl
  unfold ssT
  rw [hnI_eq, hnI_eq, wrI_eq, wrI_eq, tkT_eq, tkT_eq, tkL_eq, tkL_eq, turnL_len, turnL_len]
  rw [gds_true]
  · rw [sign_eq H D hs hb, eqW_self, er_self]
    show gds _ _ = _
    rw [gds_true]
    · rw [sign_eq H D (turnL_lt hs) (turnL_lt hb), eqW_self, er_self]
      rfl
    · refine all_app (all_app (lfB_ok ls) (lfB_ok lb)) ?_
      intro c hc
      rw [tnB_ok ls, tnB_ok lb, rN_ok, rN_ok, wrB_ok, wrB_ok] at hc
      simp only [List.mem_cons, List.not_mem_nil, or_false] at hc
      rcases hc with h | h | h | h | h | h | h | h | h | h
      · exact h
      · exact h
      · exact h
      · exact h
      · exact h
      · exact h
      all_goals (rw [h]; exact decide_eq_true (by omega))
  · refine all_app (all_app (hdB_ok ls) (hdB_ok lb)) ?_
    intro c hc
    rw [rN_ok, rN_ok, inB_ok, inB_ok] at hc
    simp only [List.mem_cons, List.not_mem_nil, or_false] at hc
    rcases hc with h | h | h | h | h | h | h | h
    · exact h
    · exact h
    · exact h
    · exact h
    all_goals (rw [h]; exact decide_eq_true (by omega))
noncomputable abbrev XLs : Cx := X_turn concGO
theorem XLs_ok : CxOK Tryz.prog XLs := X_turn_ok
set_option maxRecDepth 100000 in
theorem signSigns_lifted (os : Os) (started : os.Started) (H : Type) (enc : TypeId × Value → H) :
    ReturnsInHanded {} Tryz.checked os 4 .any (Rows.signSignsSpec.pre6 enc Tryz.prog Tryz.f4 Rows.signSignsRow.domain false) (Rows.signSignsSpec.post enc Tryz.prog Tryz.f4 false true false false) := by
  refine law_lifted (C := Tryz.checked) (tb := 4) (by kernel_rfl) started (by kernel_rfl) Tryz.func4
    (ChangeSpec.witness6 (enc := enc) (C := Tryz.checked) false ⟨#[], #[.slice none 0 0, .slice none 0 0], []⟩ 8 (by kernel_rfl) (by kernel_rfl) (by kernel_rfl) (by kernel_rfl)) rfl ?_ (by kernel_rfl) (by kernel_rfl) (by kernel_rfl) (by kernel_rfl) ?_
  · intro ds h
    match ds, h with | [d0, d1], _ => rfl
  · intro W base args ds p hval hsz hA hlt hw
    obtain ⟨args⟩ := args
    match args, hsz, hval with
    | [a0, a1], hsz, hval =>
      have n0 := NSt.empty W
      obtain ⟨_, _, ts, us⟩ := trod_get hA hw 0 _ a0 (by kernel_rfl) rfl
      obtain ⟨s, ws, ls, fs⟩ := argBytes (t := 50) (by kernel_rfl) (hval 0 _ a0 (by kernel_rfl) rfl) ts us
      obtain ⟨_, x1, n1, rs⟩ := n0.arg fs
      obtain ⟨_, _, tb, ub⟩ := trod_get hA hw 1 _ a1 (by kernel_rfl) rfl
      obtain ⟨b, wb, lb, fb⟩ := argBytes (t := 50) (by kernel_rfl) (hval 1 _ a1 (by kernel_rfl) rfl) tb ub
      obtain ⟨_, x2, n2, rb⟩ := n1.arg fb
      exact law_runN XLs_ok Tryz.func4 (by kernel_rfl) LoopsOK.nil ((lawSS_run concGO s b).trans (ss_true concGG concDG ws ls wb lb)) n2 (.cons _ _ _ _ (R.ext x2 rs) (.cons _ _ _ _ rb .nil))
theorem signSigns_facts : joinedFacts Tryz.pinned.checked.prog 4 Tryz.f4 Rows.signSignsSpec Rows.signSignsRow = true := by
  show joinedFacts Tryz.prog 4 Tryz.f4 Rows.signSignsSpec Rows.signSignsRow = true
  unfold joinedFacts
  rw [liftsF, heardF, enterF, makeF]
  kernel_rfl
theorem signSigns_holds : Rows.SignSignsSaid :=
  OpenClaim.holds_of_wide 4 Tryz.f4 rfl rfl rfl rfl rfl rfl rfl ⟨rfl, rfl, rfl, rfl, rfl⟩ rfl rfl rfl rfl rfl (by kernel_rfl) Tryz.func4 signSigns_facts
    (of_decide_eq_true (by kernel_rfl)) (by unfold Func.isWrapper; first | (rw [if_pos (by decide +kernel)]; kernel_rfl) | (rw [if_neg (by decide +kernel)]; exact ⟨rfl, rfl⟩))
    (fun os started H enc _ => signSigns_lifted os started H enc)
#print axioms signSigns_holds
end Go.Proofs.YtnnjaijokiknkaaGreat

