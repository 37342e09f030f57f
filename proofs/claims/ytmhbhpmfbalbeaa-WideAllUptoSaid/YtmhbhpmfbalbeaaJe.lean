/- WideAll: a round keeps that each hash has taken what came. -/
import Derived.Test.YtmhbhpmfbalbeaaJd
namespace Go.Proofs.Ytmhbhpmfbalbeaa
open Go Pw Go.RowKit
theorem wAll_marks (d r : List Nat) : wAll 0 d.length (d ++ marks 80) r = wAll 0 d.length d r := by
  unfold wAll
  rw [List.drop_zero, List.drop_zero, List.take_left' rfl, List.take_length]
theorem waH_eq (o : SOps) (s : HS) (d : List Nat) : waH o s d = hsS o s s.rest d := by
  unfold waH hsS
  rw [pP_eq, pL_eq]
  unfold wTail wNum
  rw [wAll_marks]
theorem cW_eq (c d : List Nat) : cW c d = c ++ d := by unfold cW; rw [pT_eq, pT_eq, List.drop_zero, List.take_length]
theorem cN_eq (c d : List Nat) : cN c d = (c ++ d).length := by unfold cN; rw [pT_eq, pT_eq, List.length_append]
structure ActR.ok (q : ActR) : Prop where
  byt : ∀ b ∈ q.data, b < 256
/-- every hash has taken what came, and that is not too much -/
structure WAI (T : Nat) (v : V3 HA) : Prop where
  h : ∀ j, HSI concS (v.get j).s (v.get j).c
  l : ∀ j, (v.get j).c.length ≤ T
  b : ∀ j, ∀ x ∈ (v.get j).c, x < 256
theorem WAI.set {T T' : Nat} {v : V3 HA} (hv : WAI T v) (hT : T ≤ T') (k : N3) {x : HA} (h : HSI concS x.s x.c) (l : x.c.length ≤ T') (b : ∀ y ∈ x.c, y < 256) : WAI T' (v.set k x) where
  h j := by
    have := hv.h j
    cases k <;> cases j <;> first | exact h | exact this
  l j := by
    have := hv.l j
    cases k <;> cases j <;> first | exact l | exact Nat.le_trans this hT
  b j := by
    have := hv.b j
    cases k <;> cases j <;> first | exact b | exact this
theorem WAI.mono {T T' : Nat} {v : V3 HA} (hv : WAI T v) (hT : T ≤ T') : WAI T' v := ⟨hv.h, fun j => Nat.le_trans (hv.l j) hT, hv.b⟩
/-- the hashes and what came, behind one act -/
noncomputable def waSt (o : SOps) (t : Int → N3) (v : V3 HA) (q : ActR) : V3 HA :=
  brn (decide (q.kind = 0)) (v.set (t q.on) ⟨waH o (v.get (t q.on)).s q.data, (v.get (t q.on)).c ++ q.data⟩) (brn (decide (q.kind = 1)) v (brn (decide (q.kind = 2)) v (brn (decide (q.kind = 3)) (v.set (t q.on) ⟨hs0, []⟩) (brn (decide (q.kind = 4)) (v.set (t q.on) (v.get (t q.other))) (brn (decide (q.kind = 5)) (v.set (t q.on) ⟨hs0, []⟩) v)))))
theorem WAI.brn {T : Nat} {a b : V3 HA} {c : Bool} (ha : WAI T a) (hb : WAI T b) : WAI T (brn c a b) := by
  cases c
  · exact hb
  · exact ha
theorem WAI.step {T : Nat} {v : V3 HA} (hv : WAI T v) {q : ActR} (hq : q.ok) (t : Int → N3) (hT : T + q.data.length + 512 ≤ maxRoom) : WAI (T + q.data.length) (waSt concS t v q) := by
  unfold waSt
  have hT' : T ≤ T + q.data.length := Nat.le_add_right _ _
  refine .brn ?_ (.brn (hv.mono hT') (.brn (hv.mono hT') (.brn ?_ (.brn ?_ (.brn ?_ (hv.mono hT'))))))
  · have hl := hv.l (t q.on)
    have hlen : ((v.get (t q.on)).c ++ q.data).length ≤ T + q.data.length := by rw [List.length_append]; omega
    refine hv.set hT' _ ?_ hlen ?_
    · show HSI concS (waH concS (v.get (t q.on)).s q.data) _
      rw [waH_eq]
      exact (hv.h (t q.on)).step (by omega)
    · intro y hy
      rcases List.mem_append.1 hy with hy | hy
      · exact hv.b _ y hy
      · exact hq.byt y hy
  · exact hv.set hT' _ (HSI.zero concS) (by simp) (by simp)
  · exact hv.set hT' _ (hv.h _) (Nat.le_trans (hv.l _) hT') (hv.b _)
  · exact hv.set hT' _ (HSI.zero concS) (by simp) (by simp)
theorem waG0_true {T : Nat} {v : V3 HA} (hv : WAI T v) {q : ActR} (on : N3) (hT : T + q.data.length + 512 ≤ maxRoom) : ∀ c ∈ waG0 q (v.get on), c = true := by
  have hm : maxRoom = 175921860444160 := rfl
  have hr := (hv.h on).rest_len
  have hl : (q.data ++ marks 80).length = q.data.length + 80 := by rw [List.length_append, marks_len]
  intro c hc
  unfold waG0 at hc
  rw [pT_eq, hl, List.drop_zero, ← hl, List.take_length, hl] at hc
  simp only [List.mem_cons, List.not_mem_nil, or_false] at hc
  rcases hc with hc | hc | hc | hc | hc | hc | hc <;> rw [hc]
  · exact decide_eq_true ⟨trivial, by omega⟩
  · exact decide_eq_true ⟨rfl, by omega, by omega, by omega⟩
  · exact decide_eq_true (by omega)
  · exact decide_eq_true (by omega)
  · exact decide_eq_true ⟨rfl, by omega⟩
  · exact decide_eq_true (by omega)
  · exact decide_eq_true (by omega)
theorem waL0_go {T : Nat} {o : SOps} {n p : Nat} {i : Int} {q : ActR} {v : V3 HA} {on : N3} (hv : WAI T v) (hT : T + q.data.length + 512 ≤ maxRoom) :
    ∃ M, waL0 o n p i q v on = waK n i M ∧ Retells 1 (waE n (w64 (i + 1))) M (waE n (w64 (i + 1))) (waM (v.set on ⟨waH o (v.get on).s q.data, (v.get on).c ++ q.data⟩)) := by
  have hm : maxRoom = 175921860444160 := rfl
  have hl := hv.l on
  have hG := waG0_true hv on hT
  unfold waL0
  rw [gds_true hG, cN_eq, cW_eq]
  unfold waG0c
  rw [pT_eq, pT_eq]
  cases hc : (v.get on).c.isEmpty with
  | true =>
    have e := List.isEmpty_iff.1 hc
    rw [brn_true, gds_true (by
      intro c h
      simp only [List.mem_cons, List.not_mem_nil, or_false] at h
      rw [h]; exact decide_eq_true (by omega))]
    cases hd : q.data.isEmpty with
    | true =>
      have e' := List.isEmpty_iff.1 hd
      have h2 : (v.get on).c ++ q.data = [] := by rw [e, e']; rfl
      rw [brn_true]
      refine ⟨_, rfl, ?_⟩
      rw [h2]
      exact rt0a o n p _ q v on
    | false =>
      have h2 : (v.get on).c ++ q.data = q.data := by rw [e]; rfl
      rw [brn_false, gds_true (by
        intro c h
        simp only [List.mem_cons, List.not_mem_nil, or_false] at h
        rw [h]; exact decide_eq_true (by omega))]
      refine ⟨_, rfl, ?_⟩
      rw [h2]
      exact rt0b o n p _ q v q.data on
  | false =>
    have hpos : 0 < (v.get on).c.length := by
      cases hh : (v.get on).c with
      | nil => rw [hh] at hc; cases hc
      | cons a l => simp
    rw [brn_false, gds_true (by
      intro c h
      simp only [List.mem_cons, List.not_mem_nil, or_false] at h
      rcases h with h | h | h | h | h <;> rw [h]
      · exact decide_eq_true (by omega)
      · exact decide_eq_true (by omega)
      · rw [Bool.and_true, Nat.blt_eq]; exact hpos
      · exact decide_eq_true (by omega)
      · exact decide_eq_true (by omega))]
    exact ⟨_, rfl, rt0c o n p _ q v ((v.get on).c ++ q.data) on⟩
theorem waA1_true {T : Nat} {v : V3 HA} (hv : WAI T v) (on : N3) : waA1 concS (v.get on) = true := by
  have h1 := (hv.h on).fin
  have h2 := hash_eq (b := (v.get on).c) (hv.b on)
  unfold waA1
  rw [show sumV concS (resp 8 (v.get on).s.w) (v.get on).s.size (pT (v.get on).s.rest) = hashV concS (v.get on).c from h1, pT_eq, h2]
  exact eqW_self _ _
theorem waA2_true {T : Nat} {v : V3 HA} (hv : WAI T v) (hT : T + 512 ≤ maxRoom) (on : N3) : waA2 (v.get on) = true := by
  have hm : maxRoom = 175921860444160 := rfl
  have h1 := (hv.h on).size
  have hl := hv.l on
  refine decide_eq_true ?_
  rw [h1]; omega
theorem waG1_true {T : Nat} {v : V3 HA} (hv : WAI T v) (hT : T + 512 ≤ maxRoom) (on : N3) : ∀ c ∈ waG1 (v.get on), c = true := by
  have hm : maxRoom = 175921860444160 := rfl
  have hr := (hv.h on).rest_len
  have hl := hv.l on
  intro c hc
  unfold waG1 at hc
  rw [pT_eq, pT_eq] at hc
  simp only [List.mem_cons, List.not_mem_nil, or_false] at hc
  rcases hc with hc | hc | hc | hc <;> rw [hc]
  · exact decide_eq_true (by omega)
  · exact decide_eq_true ⟨trivial, by omega⟩
  · exact decide_eq_true (by omega)
  · exact decide_eq_true (by omega)
theorem waL_go {T : Nat} {t : Int → N3} {n p : Nat} {i : Int} {q : ActR} {v : V3 HA} (hv : WAI T v) (hT : T + q.data.length + 512 ≤ maxRoom) :
    ∃ M, waL concS n p i q v (t q.on) (t q.other) = waK n i M ∧ Retells 1 (waE n (w64 (i + 1))) M (waE n (w64 (i + 1))) (waM (waSt concS t v q)) := by
  have hm : maxRoom = 175921860444160 := rfl
  unfold waL waSt
  generalize t q.on = on
  generalize t q.other = ot
  generalize decide (q.kind = 0) = c0
  generalize decide (q.kind = 1) = c1
  generalize decide (q.kind = 2) = c2
  generalize decide (q.kind = 3) = c3
  generalize decide (q.kind = 4) = c4
  generalize decide (q.kind = 5) = c5
  cases c0
  case true =>
    rw [brn_true, brn_true]
    exact waL0_go hv hT
  rw [brn_false, brn_false]
  cases c1
  case true =>
    rw [brn_true, brn_true]
    unfold waL1
    rw [gds_true (waG1_true hv (by omega) on), waA1_true hv on, Bool.not_true, brn_false]
    exact ⟨_, rfl, rt6 n p _ q v⟩
  rw [brn_false, brn_false]
  cases c2
  case true =>
    rw [brn_true, brn_true]
    unfold waL2
    rw [waA2_true hv (by omega) on, Bool.not_true, brn_false, gds_true (by
      intro c h
      simp only [List.mem_cons, List.not_mem_nil, or_false] at h
      rw [h]; exact decide_eq_true (by omega))]
    exact ⟨_, rfl, rt6 n p _ q v⟩
  rw [brn_false, brn_false]
  cases c3
  case true =>
    rw [brn_true, brn_true]
    exact ⟨_, rfl, rt3 n p _ q v on⟩
  rw [brn_false, brn_false]
  cases c4
  case true =>
    rw [brn_true, brn_true]
    have hr := (hv.h ot).rest_len
    unfold waL4
    rw [gds_true (by
      intro c h
      rw [pT_eq] at h
      simp only [List.mem_cons, List.not_mem_nil, or_false] at h
      rcases h with h | h <;> (rw [h]; exact decide_eq_true (by omega)))]
    refine ⟨_, rfl, ?_⟩
    have h4 := rt4 n p (w64 (i + 1)) q v on ot
    have e : (⟨⟨(v.get ot).s.w, (v.get ot).s.size, pT (v.get ot).s.rest⟩, (v.get ot).c⟩ : HA) = v.get ot := by rw [pT_eq]
    rw [e] at h4
    exact h4
  rw [brn_false, brn_false]
  cases c5
  case true =>
    rw [brn_true, brn_true]
    exact ⟨_, rfl, rt5 n p _ q v on⟩
  rw [brn_false, brn_false]
  exact ⟨_, rfl, rt6 n p _ q v⟩
/-- one round -/
theorem wa_round {T : Nat} (t : Int → N3) (n p : Nat) (i : Int) {q : ActR} {v : V3 HA} (hv : WAI T v) (hT : T + q.data.length + 512 ≤ maxRoom) (h1 : 0 ≤ i) (h2 : i < (n : Int)) (h3 : Nat.beq (0 + i.toNat * 4) p = true) :
    ∃ M, codeK (X_wa concS t) [] waF.ntmps [0,2,3,4,5,6,7,8,9,10,11,12,13,19,27,28,29,30,31,32,33,37,51,52,69,82,92,93,104,105,113,120,129,139,141,154,155,156,157,158,159,160,161,162,163,164] 100 waB (waE n i) (waM1 p q v) waO = some (.normal, waE n (w64 (i + 1)), M) ∧ Retells 1 (waE n (w64 (i + 1))) M (waE n (w64 (i + 1))) (waM (waSt concS t v q)) := by
  obtain ⟨M, e, hr⟩ := waL_go (t := t) (n := n) (p := p) (i := i) hv hT
  refine ⟨M, ?_, hr⟩
  have hk : waT concS t = blkC 3 (thenC (fun env mem => codeK (X_wa concS t) [] waF.ntmps [0,2,3,4,5,6,7,8,9,10,11,12,13,19,27,28,29,30,31,32,33,37,51,52,69,82,92,93,104,105,113,120,129,139,141,154,155,156,157,158,159,160,161,162,163,164] 98 waN env mem waO) waO) := rfl
  rw [waB_eq, codeK_seq, waP_h, decide_eq_true h2, brn_true, thenC_normal, codeK_seq, codeK_block, ← hk, codeK_seq, wa11_h, gds_true (by
      intro c hc
      simp only [List.mem_cons, List.not_mem_nil, or_false] at hc
      rcases hc with rfl | rfl
      · exact decide_eq_true ⟨h1, h2⟩
      · rw [h3]; rfl), thenC_normal, codeK_seq, wa12_h, r3_eq, r3_eq, thenC_normal]
  exact (wa13_h concS t n p i q v (t q.on) (t q.other)).trans e
theorem wa_last (o : SOps) (t : Int → N3) (n : Nat) (i : Int) (v : V3 HA) (h : ¬ i < (n : Int)) :
    codeK (X_wa o t) [] waF.ntmps [0,2,3,4,5,6,7,8,9,10,11,12,13,19,27,28,29,30,31,32,33,37,51,52,69,82,92,93,104,105,113,120,129,139,141,154,155,156,157,158,159,160,161,162,163,164] 100 waB (waE n i) (waM v) waO = some (.exit 2, waE n i, waM v) := by
  rw [waB_eq, codeK_seq, waP_h, decide_eq_false h, brn_false, thenC_exit]
  kernel_rfl
end Go.Proofs.Ytmhbhpmfbalbeaa

