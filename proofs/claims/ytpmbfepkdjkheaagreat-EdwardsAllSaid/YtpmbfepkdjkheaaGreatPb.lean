/- The points of layer 19, of the program, walked (2): multiples. -/
import Derived.Test.YtpmbfepkdjkheaaGreatPc
import Derived.Test.YtpmbfepkdjkheaaGreatPwMg
import Derived.Test.YtpmbfepkdjkheaaGreatNb
namespace Go.Proofs.YtpmbfepkdjkheaaGreat
open Go Pw Go.RowKit
noncomputable abbrev XCc (o : FOps) : Cx := X_rSmall o
theorem XCc_ok : CxOK Tryz.prog (XCc concFOps) := X_rSmall_ok
structure POps where
  dd : L5
  here : Rungs → Rungs
  sum : Rungs → Rungs → L5 → Rungs
  tw : Rungs → Rungs
  rdd : L4
  rneu : Pt3
  rsum : Pt3 → Pt3 → L4 → Pt3
  rtw : Pt3 → Pt3
def mkPO (o : FOps) : POps := { dd := dO o, here := hereO o, sum := sumO o, tw := twO o, rdd := dR o, rneu := neuR o, rsum := raddO o, rtw := rwO o }
def concP : POps := mkPO concFOps
noncomputable abbrev XPt (_ : POps) : Cx := XCc concFOps
theorem XPt_ok : CxOK Tryz.prog (XPt concP) := XCc_ok
def gv_dd (z : POps) (args : List LA) : Option (AV × Option Blk) := match args with
  | [] => some (numV (z.dd), none)
  | _ => none
theorem gv_dd_at : QuietAt Tryz.prog 109 (lav (gv_dd concP)) := by
  rw [show gv_dd concP = g_dP concFOps by kernel_rfl]
  exact dP_at
noncomputable def X_vdd (z : POps) : Cx := { XPt z with O := addQ (XPt z).O 109 (lav (gv_dd z)) }
theorem X_vdd_ok : CxOK Tryz.prog (X_vdd concP) := { XPt_ok with quiet := addQ_ok XPt_ok.quiet gv_dd_at }
def gv_here (z : POps) (args : List LA) : Option (AV × Option Blk) := match args with
  | [.v x0] => (match rungs? x0 with
    | some p => some (rungsV (z.here p), none)
    | _ => none)
  | _ => none
theorem gv_here_at : QuietAt Tryz.prog 84 (lav (gv_here concP)) := by
  rw [show gv_here concP = g_hereP concFOps by kernel_rfl]
  exact hereP_at
noncomputable def X_vhere (z : POps) : Cx := { X_vdd z with O := addQ (X_vdd z).O 84 (lav (gv_here z)) }
theorem X_vhere_ok : CxOK Tryz.prog (X_vhere concP) := { X_vdd_ok with quiet := addQ_ok X_vdd_ok.quiet gv_here_at }
def gv_sum (z : POps) (args : List LA) : Option (AV × Option Blk) := match args with
  | [.v x0, .v x1, .v x2] => (match rungs? x0, rungs? x1, num? x2 with
    | some p, some q, some w => some (rungsV (z.sum p q w), none)
    | _, _, _ => none)
  | _ => none
theorem gv_sum_at : QuietAt Tryz.prog 108 (lav (gv_sum concP)) := by
  rw [show gv_sum concP = g_ptSumP concFOps by kernel_rfl]
  exact ptSumP_at
noncomputable def X_vsum (z : POps) : Cx := { X_vhere z with O := addQ (X_vhere z).O 108 (lav (gv_sum z)) }
theorem X_vsum_ok : CxOK Tryz.prog (X_vsum concP) := { X_vhere_ok with quiet := addQ_ok X_vhere_ok.quiet gv_sum_at }
def gv_tw (z : POps) (args : List LA) : Option (AV × Option Blk) := match args with
  | [.v x0] => (match rungs? x0 with
    | some p => some (rungsV (z.tw p), none)
    | _ => none)
  | _ => none
theorem gv_tw_at : QuietAt Tryz.prog 115 (lav (gv_tw concP)) := by
  rw [show gv_tw concP = g_ptTwice concFOps by kernel_rfl]
  exact ptTwice_at
noncomputable def X_vtw (z : POps) : Cx := { X_vsum z with O := addQ (X_vsum z).O 115 (lav (gv_tw z)) }
theorem X_vtw_ok : CxOK Tryz.prog (X_vtw concP) := { X_vsum_ok with quiet := addQ_ok X_vsum_ok.quiet gv_tw_at }
def gv_rdd (z : POps) (args : List LA) : Option (AV × Option Blk) := match args with
  | [] => some (rnumV (z.rdd), none)
  | _ => none
theorem gv_rdd_at : QuietAt Tryz.prog 112 (lav (gv_rdd concP)) := by
  rw [show gv_rdd concP = g_rD concFOps by kernel_rfl]
  exact rD_at
noncomputable def X_vrdd (z : POps) : Cx := { X_vtw z with O := addQ (X_vtw z).O 112 (lav (gv_rdd z)) }
theorem X_vrdd_ok : CxOK Tryz.prog (X_vrdd concP) := { X_vtw_ok with quiet := addQ_ok X_vtw_ok.quiet gv_rdd_at }
def gv_rneu (z : POps) (args : List LA) : Option (AV × Option Blk) := match args with
  | [] => some (pt3V (z.rneu), none)
  | _ => none
theorem gv_rneu_at : QuietAt Tryz.prog 8 (lav (gv_rneu concP)) := by
  rw [show gv_rneu concP = g_rNeu concFOps by kernel_rfl]
  exact rNeu_at
noncomputable def X_vrneu (z : POps) : Cx := { X_vrdd z with O := addQ (X_vrdd z).O 8 (lav (gv_rneu z)) }
theorem X_vrneu_ok : CxOK Tryz.prog (X_vrneu concP) := { X_vrdd_ok with quiet := addQ_ok X_vrdd_ok.quiet gv_rneu_at }
def gv_rsum (z : POps) (args : List LA) : Option (AV × Option Blk) := match args with
  | [.v x0, .v x1, .v x2] => (match pt3? x0, pt3? x1, rnum? x2 with
    | some p, some q, some d => some (pt3V (z.rsum p q d), none)
    | _, _, _ => none)
  | _ => none
theorem gv_rsum_at : QuietAt Tryz.prog 117 (lav (gv_rsum concP)) := by
  rw [show gv_rsum concP = g_rAdd1 concFOps by kernel_rfl]
  exact rAdd1_at
noncomputable def X_vrsum (z : POps) : Cx := { X_vrneu z with O := addQ (X_vrneu z).O 117 (lav (gv_rsum z)) }
theorem X_vrsum_ok : CxOK Tryz.prog (X_vrsum concP) := { X_vrneu_ok with quiet := addQ_ok X_vrneu_ok.quiet gv_rsum_at }
def gv_rtw (z : POps) (args : List LA) : Option (AV × Option Blk) := match args with
  | [.v x0] => (match pt3? x0 with
    | some p => some (pt3V (z.rtw p), none)
    | _ => none)
  | _ => none
theorem gv_rtw_at : QuietAt Tryz.prog 116 (lav (gv_rtw concP)) := by
  rw [show gv_rtw concP = g_rTwice concFOps by kernel_rfl]
  exact rTwice_at
noncomputable def X_vrtw (z : POps) : Cx := { X_vrsum z with O := addQ (X_vrsum z).O 116 (lav (gv_rtw z)) }
theorem X_vrtw_ok : CxOK Tryz.prog (X_vrtw concP) := { X_vrsum_ok with quiet := addQ_ok X_vrsum_ok.quiet gv_rtw_at }
noncomputable abbrev slP : Func := Tryz.f53
structure S_sv where
  m : Nat
  i : Int
  b : List Nat
  B1 : Blk
  B2 : Blk
  w : L5
  few : List Nat
  r : Rungs
def d_sv : LoopDef2 S_sv where
  ts := [1, 4, 5, 6, 8, 9]
  E := fun s => [(1, .slice 0 0 s.m false), (4, .ptr 2 0), (5, .ptr 3 0), (6, .ptr 4 0), (8, .ptr 5 0), (9, .n s.i)]
  M := fun s => [⟨.bytes s.b, false⟩, s.B1, s.B2, bk (numV s.w), ⟨.ints .u64 s.few, true⟩, bk (rungsV s.r)]
  Mo := fun s => [⟨.bytes s.b, false⟩, s.B1, s.B2, bk (numV s.w), ⟨.ints .u64 s.few, true⟩, bk (rungsV s.r)]
  dec := fun vs mem => match vs, mem with
    | [.slice 0 0 m false, .ptr 2 0, .ptr 3 0, .ptr 4 0, .ptr 5 0, .n i], [⟨.bytes b, false⟩, B1, B2, W, ⟨c, true⟩, R] => (match num? (unbk W), blkInts .u64 ⟨c, true⟩, rungs? (unbk R) with
      | some w, some few, some r => some ⟨m, i, b, B1, B2, w, few, r⟩
      | _, _, _ => none)
    | _, _ => none
  ok := fun vs mem s h => by
    split at h
    · split at h
      · rename_i w few r h1 h2 h3
        have e1 := unbk_some (num?_some h1)
        have e3 := unbk_some (rungs?_some h3)
        subst e1 e3
        cases h
        exact ⟨rfl, .cons (.refl _) (.cons (.refl _) (.cons (.refl _) (.cons (.refl _) (.cons (blkInts_some h2) (.cons (.refl _) .nil)))))⟩
      · cases h
    · cases h
/-- a point of a table -/
def fewAt (l : List Nat) (o : Nat) : Rungs := ⟨⟨l.getD (o + 0) 0, l.getD (o + 1) 0, l.getD (o + 2) 0, l.getD (o + 3) 0, l.getD (o + 4) 0⟩, ⟨l.getD (o + 5) 0, l.getD (o + 6) 0, l.getD (o + 7) 0, l.getD (o + 8) 0, l.getD (o + 9) 0⟩, ⟨l.getD (o + 10) 0, l.getD (o + 11) 0, l.getD (o + 12) 0, l.getD (o + 13) 0, l.getD (o + 14) 0⟩, ⟨l.getD (o + 15) 0, l.getD (o + 16) 0, l.getD (o + 17) 0, l.getD (o + 18) 0, l.getD (o + 19) 0⟩⟩
def tw4 (z : POps) (r : Rungs) : Rungs := z.tw (z.tw (z.tw (z.tw r)))
def byteP (z : POps) (w : L5) (few : List Nat) (r : Rungs) (c : Nat) : Rungs := z.sum (tw4 z (z.sum (tw4 z r) (fewAt few (0 + c / 2 ^ 4 * 20)) w)) (fewAt few (0 + (c &&& 15) * 20)) w
def svX (s : S_sv) : Nat := 0 + s.i.toNat * 1
def svC (s : S_sv) : Nat := s.b.getD (svX s) 0
def svN (z : POps) (s : S_sv) : S_sv := { s with i := w64 (s.i - 1), r := byteP z s.w s.few s.r (svC s) }
def svG (s : S_sv) : List Bool := [decide (0 ≤ s.i ∧ s.i < (s.m : Int)), decide (svX s < s.b.length), decide (svC s / 2 ^ 4 < 16), decide (0 + svC s / 2 ^ 4 * 20 + 20 ≤ s.few.length),
  decide (0 ≤ s.i ∧ s.i < (s.m : Int)), decide (svX s < s.b.length), decide (svC s &&& 15 < 16), decide (0 + (svC s &&& 15) * 20 + 20 ≤ s.few.length)]
theorem sv_step (z : POps) (s : S_sv) : codeK (X_vrtw z) [] slP.ntmps [0,1,2,4,5,6,7,8,9,19,38] 60 (loopB (bodyOf slP) 10) (d_sv.E s) (d_sv.M s) (outK d_sv.ts) =
    brn (decide (0 ≤ s.i)) (gds (svG s) (some (.normal, d_sv.E (svN z s), d_sv.M (svN z s)))) (some (.exit 2, d_sv.E s, d_sv.M s)) := by kernel_rfl
def scaleV (z : POps) (w : L5) (few : List Nat) (r : Rungs) (b : List Nat) : Rungs := b.foldr (fun c r => byteP z w few r c) r
def byteOk (b : List Nat) : Bool := b.all fun c => decide (c < 256)
theorem byteOk_iff {b : List Nat} : byteOk b = true ↔ ∀ c ∈ b, c < 256 := by unfold byteOk; simp
def gSv (z : POps) : LoopFn := d_sv.fn (fun s => decide (s.m = s.b.length ∧ s.i = (s.m : Int) - 1 ∧ s.m < 4611686018427387904 ∧ s.few.length = 320 ∧ byteOk s.b = true)) (.exit 2) (fun s => { s with i := -1, r := scaleV z s.w s.few s.r s.b })
def svI (z : POps) (s : S_sv) (k : Nat) : S_sv := { s with i := (s.m : Int) - 1 - (k : Int), r := scaleV z s.w s.few s.r (s.b.drop (s.m - k)) }
theorem drop_pred' {l : List Nat} {k : Nat} (h : k < l.length) : l.drop (l.length - (k + 1)) = l.getD (l.length - (k + 1)) 0 :: l.drop (l.length - k) := by
  rw [List.drop_eq_getElem_cons (by omega), List.getD_eq_getElem?_getD, List.getElem?_eq_getElem (by omega)]
  congr 2; omega
theorem svI_zero (z : POps) (s : S_sv) (h1 : s.m = s.b.length) (h2 : s.i = (s.m : Int) - 1) : svI z s 0 = s := by
  have e1 : (s.m : Int) - 1 - ((0 : Nat) : Int) = s.i := by omega
  have e2 : s.b.drop (s.m - 0) = [] := by rw [Nat.sub_zero, h1, List.drop_length]
  unfold svI
  rw [e1, e2]
  rfl
theorem svI_succ (z : POps) (s : S_sv) (h1 : s.m = s.b.length) (h3 : s.m < 4611686018427387904) {k : Nat} (hk : k < s.m) : svX (svI z s k) = s.m - (k + 1) ∧ svN z (svI z s k) = svI z s (k + 1) := by
  have ei : (svI z s k).i = (s.m : Int) - 1 - (k : Int) := rfl
  have hX : svX (svI z s k) = s.m - (k + 1) := by unfold svX; rw [ei]; omega
  refine ⟨hX, ?_⟩
  have e1 : w64 ((svI z s k).i - 1) = (s.m : Int) - 1 - ((k + 1 : Nat) : Int) := by rw [ei, w64_id (by omega) (by omega)]; omega
  have e2 : byteP z (svI z s k).w (svI z s k).few (svI z s k).r (svC (svI z s k)) = scaleV z s.w s.few s.r (s.b.drop (s.m - (k + 1))) := by
    unfold svC
    rw [hX]
    show byteP z s.w s.few (scaleV z s.w s.few s.r (s.b.drop (s.m - k))) (s.b.getD (s.m - (k + 1)) 0) = _
    rw [h1, drop_pred' (by omega)]
    rfl
  unfold svN
  rw [e1, e2]; rfl
theorem svI_end (z : POps) (s : S_sv) : svI z s s.m = { s with i := -1, r := scaleV z s.w s.few s.r s.b } := by
  unfold svI
  rw [Nat.sub_self, List.drop_zero, show (s.m : Int) - 1 - (s.m : Int) = -1 by omega]
theorem sv_at : LoopAt Tryz.prog slP.ntmps (loopB (bodyOf slP) 10) (gSv concP) := by
  refine d_sv.loop (keep := [0,1,2,4,5,6,7,8,9,19,38]) X_vrtw_ok LoopsOK.nil (by simp) fun s hg => ⟨s.m, svI concP s, ?_, .refl _, fun k hk => ⟨60, ?_⟩, 60, ?_⟩
  · obtain ⟨h1, h2, h3, h4, h5⟩ := of_decide_eq_true hg
    exact svI_zero _ s h1 h2
  · obtain ⟨h1, h2, h3, h4, h5⟩ := of_decide_eq_true hg
    obtain ⟨hX, hN⟩ := svI_succ concP s h1 h3 hk
    refine (sv_step concP _).trans ?_
    have ei : (svI concP s k).i = (s.m : Int) - 1 - (k : Int) := rfl
    have em : (svI concP s k).m = s.m := rfl
    have eb : (svI concP s k).b = s.b := rfl
    have ef : (svI concP s k).few.length = 320 := h4
    have hc : svC (svI concP s k) < 256 := by
      unfold svC
      rw [hX, eb, List.getD_eq_getElem?_getD, List.getElem?_eq_getElem (by omega)]
      exact byteOk_iff.1 h5 _ (List.getElem_mem _)
    have ha : svC (svI concP s k) &&& 15 = svC (svI concP s k) % 16 := by rw [show (15 : Nat) = 2 ^ 4 - 1 from rfl, Nat.and_two_pow_sub_one_eq_mod]
    rw [hN, gds_true]
    · rw [ei, decide_eq_true (by omega), brn_eq, cond_true]
    · intro c hc'
      unfold svG at hc'
      rw [ha, hX, ei, em, eb, ef] at hc'
      simp only [List.mem_cons, List.not_mem_nil, or_false] at hc'
      rcases hc' with h | h | h | h | h | h | h | h <;> (rw [h]; exact decide_eq_true (by omega))
  · obtain ⟨h1, h2, h3, h4, h5⟩ := of_decide_eq_true hg
    refine (sv_step concP _).trans ?_
    rw [show (svI concP s s.m).i = (s.m : Int) - 1 - (s.m : Int) from rfl, decide_eq_false (by omega), brn_eq, cond_false, svI_end]
theorem sv_loops : LoopsOK Tryz.prog slP.ntmps [(10, gSv concP)] (bodyOf slP) := loopsOK_cons LoopsOK.nil (by kernel_rfl) sv_at
def d2z (z : POps) : L5 := concFOps.times z.dd 2
def tb0 (z : POps) : Rungs := z.here zeroP
def tb1 (z : POps) (p : Rungs) : Rungs := z.here p
def tb2 (z : POps) (p : Rungs) : Rungs := z.sum (tb1 z p) (tb1 z p) (d2z z)
def tb3 (z : POps) (p : Rungs) : Rungs := z.sum (tb2 z p) (tb1 z p) (d2z z)
def tb4 (z : POps) (p : Rungs) : Rungs := z.sum (tb3 z p) (tb1 z p) (d2z z)
def tb5 (z : POps) (p : Rungs) : Rungs := z.sum (tb4 z p) (tb1 z p) (d2z z)
def tb6 (z : POps) (p : Rungs) : Rungs := z.sum (tb5 z p) (tb1 z p) (d2z z)
def tb7 (z : POps) (p : Rungs) : Rungs := z.sum (tb6 z p) (tb1 z p) (d2z z)
def tb8 (z : POps) (p : Rungs) : Rungs := z.sum (tb7 z p) (tb1 z p) (d2z z)
def tb9 (z : POps) (p : Rungs) : Rungs := z.sum (tb8 z p) (tb1 z p) (d2z z)
def tb10 (z : POps) (p : Rungs) : Rungs := z.sum (tb9 z p) (tb1 z p) (d2z z)
def tb11 (z : POps) (p : Rungs) : Rungs := z.sum (tb10 z p) (tb1 z p) (d2z z)
def tb12 (z : POps) (p : Rungs) : Rungs := z.sum (tb11 z p) (tb1 z p) (d2z z)
def tb13 (z : POps) (p : Rungs) : Rungs := z.sum (tb12 z p) (tb1 z p) (d2z z)
def tb14 (z : POps) (p : Rungs) : Rungs := z.sum (tb13 z p) (tb1 z p) (d2z z)
def tb15 (z : POps) (p : Rungs) : Rungs := z.sum (tb14 z p) (tb1 z p) (d2z z)
def flatP (r : Rungs) : List Nat := [r.a.a, r.a.b, r.a.c, r.a.d, r.a.e, r.b.a, r.b.b, r.b.c, r.b.d, r.b.e, r.c.a, r.c.b, r.c.c, r.c.d, r.c.e, r.d.a, r.d.b, r.d.c, r.d.d, r.d.e]
def fewL (z : POps) (p : Rungs) : List Nat := flatP (tb0 z) ++ (flatP (tb1 z p) ++ (flatP (tb2 z p) ++ (flatP (tb3 z p) ++ (flatP (tb4 z p) ++ (flatP (tb5 z p) ++ (flatP (tb6 z p) ++ (flatP (tb7 z p) ++ (flatP (tb8 z p) ++ (flatP (tb9 z p) ++ (flatP (tb10 z p) ++ (flatP (tb11 z p) ++ (flatP (tb12 z p) ++ (flatP (tb13 z p) ++ (flatP (tb14 z p) ++ (flatP (tb15 z p))))))))))))))))
theorem fewL_len (z : POps) (p : Rungs) : (fewL z p).length = 320 := by kernel_rfl
theorem ptScale_run (z : POps) (p : Rungs) (b : List Nat) : runNL (X_vrtw z) [(10, gSv z)] [0,1,2,4,5,6,7,8,9,19,38] 900 Tryz.f53 (bodyOf Tryz.f53) (laArgs [.v (rungsV p), .l b] 0) (laLists [.v (rungsV p), .l b]) = bif decide (b.length = b.length ∧ w64 ((b.length : Int) - 1) = (b.length : Int) - 1 ∧ b.length < 4611686018427387904 ∧ (fewL z p).length = 320 ∧ byteOk b = true) then some (rungsV (scaleV z (d2z z) (fewL z p) (tb0 z) b), none) else none := by
  kernel_rfl
def u_ptScale (z : POps) (args : List LA) : Option (AV × Option Blk) := match args with
  | [.v x0, .l b] => (match rungs? x0 with
    | some p => some (rungsV (scaleV z (d2z z) (fewL z p) (tb0 z) b), none)
    | _ => none)
  | _ => none
def c_ptScale (args : List LA) : Bool := match args with
  | [.v x0, .l b] => (match rungs? x0 with
    | some _ => decide (b.length < 4611686018427387904)
    | _ => false)
  | _ => false
def g_ptScale (z : POps) (args : List LA) : Option (AV × Option Blk) := bif c_ptScale args then u_ptScale z args else none
theorem ptScale_at : QuietAt Tryz.prog 53 (lav (g_ptScale concP)) := by
  refine quietAt_of_runA X_vrtw_ok (L := [(10, gSv concP)]) (keep := [0,1,2,4,5,6,7,8,9,19,38]) Tryz.func53 (c := bodyOf Tryz.f53) (by kernel_rfl) (by kernel_rfl) (sv_loops) fun args v h hw => ⟨900, ?_⟩
  unfold g_ptScale at h
  have hg := (bif_some h).1
  replace h := (bif_some h).2
  unfold u_ptScale at h
  split at h
  · rename_i x0 b
    split at h
    · rename_i p hh0
      have ehh0 := rungs?_some hh0
      subst ehh0
      replace hg : (decide (b.length < 4611686018427387904)) = true := hg
      rw [← h]
      refine (ptScale_run concP p b).trans ?_
      have h := of_decide_eq_true hg
      rw [decide_eq_true ⟨rfl, w64_id (by omega) (by omega), h, fewL_len concP p, byteOk_iff.2 (hw.bytes 0 (by rfl))⟩, cond_true]
    · cases h
  · cases h
noncomputable def X_ptScale (z : POps) : Cx := { X_vrtw z with O := addQ (X_vrtw z).O 53 (lavG c_ptScale (u_ptScale z)) }
theorem X_ptScale_ok : CxOK Tryz.prog (X_ptScale concP) := { X_vrtw_ok with quiet := addQ_ok X_vrtw_ok.quiet (lavG_at ptScale_at) }
noncomputable def X_pb (z : POps) : Cx := { X_ptScale z with O := addQ (X_ptScale z).O 22 (lav (g_sBytes concNOps)) }
theorem X_pb_ok : CxOK Tryz.prog (X_pb concP) := { X_ptScale_ok with quiet := addQ_ok X_ptScale_ok.quiet sBytes_at }
theorem ptTimes_run (z : POps) (p : Rungs) (k : K32) : runNL (X_pb z) [] [0,1,2,3,4,5] 200 Tryz.f56 (bodyOf Tryz.f56) (laArgs [.v (rungsV p), .v (keyV k)] 0) (laLists [.v (rungsV p), .v (keyV k)]) = some (rungsV (scaleV z (d2z z) (fewL z p) (tb0 z) k.toList), none) := by
  kernel_rfl
def g_ptTimes (z : POps) (args : List LA) : Option (AV × Option Blk) := match args with
  | [.v x0, .v x1] => (match rungs? x0, key? x1 with
    | some p, some k => some (rungsV (scaleV z (d2z z) (fewL z p) (tb0 z) k.toList), none)
    | _, _ => none)
  | _ => none
theorem ptTimes_at : QuietAt Tryz.prog 56 (lav (g_ptTimes concP)) := by
  refine quietAt_of_runA X_pb_ok (L := []) (keep := [0,1,2,3,4,5]) Tryz.func56 (c := bodyOf Tryz.f56) (by kernel_rfl) (by kernel_rfl) (LoopsOK.nil) fun args v h hw => ⟨200, ?_⟩
  unfold g_ptTimes at h
  split at h
  · rename_i x0 x1
    split at h
    · rename_i p k hh0 hh1
      have ehh0 := rungs?_some hh0
      subst ehh0
      have ehh1 := key?_some hh1
      subst ehh1
      rw [← h]
      refine (ptTimes_run concP p k).trans ?_
      rfl
    · cases h
  · cases h
noncomputable def X_ptTimes (z : POps) : Cx := { X_pb z with O := addQ (X_pb z).O 56 (lav (g_ptTimes z)) }
theorem X_ptTimes_ok : CxOK Tryz.prog (X_ptTimes concP) := { X_pb_ok with quiet := addQ_ok X_pb_ok.quiet ptTimes_at }
/-! ### the document's -/
noncomputable abbrev sdP : Func := Tryz.f54
def qRound (z : POps) (p : Pt3) (d : L4) (r : Pt3) (x : Nat) : Pt3 := bif decide (128 ≤ x) then z.rsum (z.rtw r) p d else z.rtw r
def qRn (z : POps) (p : Pt3) (d : L4) (a : Pt3 × Nat) : Nat → Pt3 × Nat
  | 0 => a
  | n + 1 => (qRound z p d (qRn z p d a n).1 (qRn z p d a n).2, (qRn z p d a n).2 % 128 * 2 % 2 ^ 8)
theorem q_branch {α : Type} (f : Pt3 → α) (z : POps) (p : Pt3) (d : L4) (r : Pt3) (x : Nat) : brn (decide (128 ≤ x)) (f (z.rsum (z.rtw r) p d)) (f (z.rtw r)) = f (qRound z p d r x) := by
  unfold qRound
  rw [brn_eq]
  cases decide (128 ≤ x) <;> rfl
structure S_qi where
  a1 : AV
  a4 : AV
  a7 : AV
  x : Nat
  t : Int
  B0 : Blk
  p : Pt3
  B2 : Blk
  d : L4
  r : Pt3
def d_qi : LoopDef S_qi where
  ts := [1, 2, 4, 5, 6, 7, 8, 9]
  E := fun s => [(1, s.a1), (2, .ptr 1 0), (4, s.a4), (5, .ptr 3 0), (6, .ptr 4 0), (7, s.a7), (8, .u .u8 s.x), (9, .n s.t)]
  M := fun s => [s.B0, bk (pt3V s.p), s.B2, bk (rnumV s.d), bk (pt3V s.r)]
  dec := fun vs mem => match vs, mem with
    | [a1, .ptr 1 0, a4, .ptr 3 0, .ptr 4 0, a7, x8, x9], [B0, B1, B2, B3, B4] => (match u8? x8, int? x9, pt3? (unbk B1), rnum? (unbk B3), pt3? (unbk B4) with
      | some x, some t, some p, some d, some r => some ⟨a1, a4, a7, x, t, B0, p, B2, d, r⟩
      | _, _, _, _, _ => none)
    | _, _ => none
  ok := fun vs mem s h => by
    split at h
    · split at h
      · rename_i x t p d r hh0 hh1 hh2 hh3 hh4
        have ehh0 := u8?_some hh0
        subst ehh0
        have ehh1 := int?_some hh1
        subst ehh1
        have ehh2 := unbk_some (pt3?_some hh2)
        subst ehh2
        have ehh3 := unbk_some (rnum?_some hh3)
        subst ehh3
        have ehh4 := unbk_some (pt3?_some hh4)
        subst ehh4
        cases h; exact ⟨rfl, rfl⟩
      · cases h
    · cases h
def qiW (s : S_qi) (l : Pt3) : S_qi := { s with t := w64 (s.t + 1), r := l, x := s.x % 128 * 2 % 2 ^ 8 }
theorem qi_step (z : POps) (s : S_qi) : codeK (X_pb z) [] sdP.ntmps [0,1,2,4,5,6,7,8,9,16,24,30] 60 (loopB (bodyOf sdP) 8) (d_qi.E s) (d_qi.M s) (outK d_qi.ts) =
    brn (decide (s.t < 8)) (brn (decide (128 ≤ s.x)) (some (.normal, d_qi.E (qiW s (z.rsum (z.rtw s.r) s.p s.d)), d_qi.M (qiW s (z.rsum (z.rtw s.r) s.p s.d))))
      (some (.normal, d_qi.E (qiW s (z.rtw s.r)), d_qi.M (qiW s (z.rtw s.r))))) (some (.exit 2, d_qi.E s, d_qi.M s)) := by kernel_rfl
def qiI (z : POps) (s : S_qi) (n : Nat) : S_qi := { s with t := (n : Int), r := (qRn z s.p s.d (s.r, s.x) n).1, x := (qRn z s.p s.d (s.r, s.x) n).2 }
def gQi (z : POps) : LoopFn := d_qi.fn (fun s => decide (s.t = 0)) (.exit 2) (fun s => { s with t := 8, r := (qRn z s.p s.d (s.r, s.x) 8).1, x := (qRn z s.p s.d (s.r, s.x) 8).2 })
theorem qiI_zero (z : POps) (s : S_qi) (h : s.t = 0) : qiI z s 0 = s := by
  unfold qiI qRn
  rw [show ((0 : Nat) : Int) = s.t by rw [h]; rfl]
theorem qiI_succ (z : POps) (s : S_qi) {n : Nat} (hn : n < 8) : qiW (qiI z s n) (qRound z s.p s.d (qiI z s n).r (qiI z s n).x) = qiI z s (n + 1) := by
  have e : w64 ((qiI z s n).t + 1) = ((n + 1 : Nat) : Int) := by
    show w64 ((n : Int) + 1) = _
    rw [w64_id (by omega) (by omega)]; rfl
  unfold qiW
  rw [e]; rfl
theorem qi_at : LoopAt Tryz.prog sdP.ntmps (loopB (bodyOf sdP) 8) (gQi concP) := by
  refine d_qi.loop (keep := [0,1,2,4,5,6,7,8,9,16,24,30]) X_pb_ok LoopsOK.nil (by simp) fun s hg => ⟨8, qiI concP s, ?_, fun n hn => ⟨60, ?_⟩, 60, ?_⟩
  · exact qiI_zero _ s (of_decide_eq_true hg)
  · refine (qi_step concP _).trans ?_
    rw [show (qiI concP s n).p = s.p from rfl, show (qiI concP s n).d = s.d from rfl, q_branch (fun l => some (Ex.normal, d_qi.E (qiW (qiI concP s n) l), d_qi.M (qiW (qiI concP s n) l))), qiI_succ _ _ hn, show (qiI concP s n).t = (n : Int) from rfl, decide_eq_true (by omega), brn_eq, cond_true]
  · refine (qi_step concP _).trans ?_
    rw [show (qiI concP s 8).t = ((8 : Nat) : Int) from rfl, decide_eq_false (by omega), brn_eq, cond_false]
    rfl
structure S_qo where
  m : Nat
  i : Int
  b : List Nat
  p : Pt3
  B2 : Blk
  d : L4
  r : Pt3
def d_qo : LoopDef S_qo where
  ts := [1, 2, 4, 5, 6, 7]
  E := fun s => [(1, .slice 0 0 s.m false), (2, .ptr 1 0), (4, .ptr 2 0), (5, .ptr 3 0), (6, .ptr 4 0), (7, .n s.i)]
  M := fun s => [⟨.bytes s.b, false⟩, bk (pt3V s.p), s.B2, bk (rnumV s.d), bk (pt3V s.r)]
  dec := fun vs mem => match vs, mem with
    | [.slice 0 0 m false, .ptr 1 0, .ptr 2 0, .ptr 3 0, .ptr 4 0, x7], [⟨.bytes b, false⟩, B1, B2, B3, B4] => (match int? x7, pt3? (unbk B1), rnum? (unbk B3), pt3? (unbk B4) with
      | some i, some p, some d, some r => some ⟨m, i, b, p, B2, d, r⟩
      | _, _, _, _ => none)
    | _, _ => none
  ok := fun vs mem s h => by
    split at h
    · split at h
      · rename_i i p d r hh0 hh1 hh2 hh3
        have ehh0 := int?_some hh0
        subst ehh0
        have ehh1 := unbk_some (pt3?_some hh1)
        subst ehh1
        have ehh2 := unbk_some (rnum?_some hh2)
        subst ehh2
        have ehh3 := unbk_some (pt3?_some hh3)
        subst ehh3
        cases h; exact ⟨rfl, rfl⟩
      · cases h
    · cases h
theorem qi_loops : LoopsOK Tryz.prog sdP.ntmps [(8, gQi concP)] (loopB (bodyOf sdP) 4) := loopsOK_cons LoopsOK.nil (by kernel_rfl) qi_at
def qoX (s : S_qo) : Nat := 0 + s.i.toNat * 1
def byteQ (z : POps) (p : Pt3) (d : L4) (r : Pt3) (c : Nat) : Pt3 := (qRn z p d (r, c) 8).1
def qoN (z : POps) (s : S_qo) : S_qo := { s with i := w64 (s.i - 1), r := byteQ z s.p s.d s.r (s.b.getD (qoX s) 0) }
theorem qo_step (z : POps) (s : S_qo) : codeK (X_pb z) [(8, gQi z)] sdP.ntmps [0,1,2,4,5,6,7,8,9,16,24,30] 60 (loopB (bodyOf sdP) 4) (d_qo.E s) (d_qo.M s) (outK d_qo.ts) =
    brn (decide (0 ≤ s.i)) (gds [decide (0 ≤ s.i ∧ s.i < (s.m : Int)), decide (qoX s < s.b.length)] (some (.normal, d_qo.E (qoN z s), d_qo.M (qoN z s)))) (some (.exit 0, d_qo.E s, d_qo.M s)) := by kernel_rfl
def scaleQ (z : POps) (p : Pt3) (d : L4) (r : Pt3) (b : List Nat) : Pt3 := b.foldr (fun c r => byteQ z p d r c) r
def gQo (z : POps) : LoopFn := d_qo.fn (fun s => decide (s.m = s.b.length ∧ s.i = (s.m : Int) - 1 ∧ s.m < 4611686018427387904)) (.exit 0) (fun s => { s with i := -1, r := scaleQ z s.p s.d s.r s.b })
def qoI (z : POps) (s : S_qo) (k : Nat) : S_qo := { s with i := (s.m : Int) - 1 - (k : Int), r := scaleQ z s.p s.d s.r (s.b.drop (s.m - k)) }
theorem qoI_zero (z : POps) (s : S_qo) (h1 : s.m = s.b.length) (h2 : s.i = (s.m : Int) - 1) : qoI z s 0 = s := by
  have e1 : (s.m : Int) - 1 - ((0 : Nat) : Int) = s.i := by omega
  have e2 : s.b.drop (s.m - 0) = [] := by rw [Nat.sub_zero, h1, List.drop_length]
  unfold qoI
  rw [e1, e2]
  rfl
theorem qoI_succ (z : POps) (s : S_qo) (h1 : s.m = s.b.length) (h3 : s.m < 4611686018427387904) {k : Nat} (hk : k < s.m) : qoX (qoI z s k) = s.m - (k + 1) ∧ qoN z (qoI z s k) = qoI z s (k + 1) := by
  have ei : (qoI z s k).i = (s.m : Int) - 1 - (k : Int) := rfl
  have hX : qoX (qoI z s k) = s.m - (k + 1) := by unfold qoX; rw [ei]; omega
  refine ⟨hX, ?_⟩
  have e1 : w64 ((qoI z s k).i - 1) = (s.m : Int) - 1 - ((k + 1 : Nat) : Int) := by rw [ei, w64_id (by omega) (by omega)]; omega
  have e2 : byteQ z (qoI z s k).p (qoI z s k).d (qoI z s k).r ((qoI z s k).b.getD (s.m - (k + 1)) 0) = scaleQ z s.p s.d s.r (s.b.drop (s.m - (k + 1))) := by
    show byteQ z s.p s.d (scaleQ z s.p s.d s.r (s.b.drop (s.m - k))) (s.b.getD (s.m - (k + 1)) 0) = _
    rw [h1, drop_pred' (by omega)]
    rfl
  unfold qoN
  rw [hX, e1, e2]; rfl
theorem qoI_end (z : POps) (s : S_qo) : qoI z s s.m = { s with i := -1, r := scaleQ z s.p s.d s.r s.b } := by
  unfold qoI
  rw [Nat.sub_self, List.drop_zero, show (s.m : Int) - 1 - (s.m : Int) = -1 by omega]
theorem qo_at : LoopAt Tryz.prog sdP.ntmps (loopB (bodyOf sdP) 4) (gQo concP) := by
  refine d_qo.loop (keep := [0,1,2,4,5,6,7,8,9,16,24,30]) X_pb_ok qi_loops (by simp) fun s hg => ⟨s.m, qoI concP s, ?_, fun k hk => ⟨60, ?_⟩, 60, ?_⟩
  · obtain ⟨h1, h2, h3⟩ := of_decide_eq_true hg
    exact qoI_zero _ s h1 h2
  · obtain ⟨h1, h2, h3⟩ := of_decide_eq_true hg
    obtain ⟨hX, hN⟩ := qoI_succ concP s h1 h3 hk
    refine (qo_step concP _).trans ?_
    have ei : (qoI concP s k).i = (s.m : Int) - 1 - (k : Int) := rfl
    have em : (qoI concP s k).m = s.m := rfl
    have eb : (qoI concP s k).b = s.b := rfl
    rw [hN, gds_true]
    · rw [ei, decide_eq_true (by omega), brn_eq, cond_true]
    · intro c hc
      rw [hX, ei, em, eb] at hc
      simp only [List.mem_cons, List.not_mem_nil, or_false] at hc
      rcases hc with h | h <;> (rw [h]; exact decide_eq_true (by omega))
  · obtain ⟨h1, h2, h3⟩ := of_decide_eq_true hg
    refine (qo_step concP _).trans ?_
    rw [show (qoI concP s s.m).i = (s.m : Int) - 1 - (s.m : Int) from rfl, decide_eq_false (by omega), brn_eq, cond_false, qoI_end]
theorem qo_loops : LoopsOK Tryz.prog sdP.ntmps [(4, gQo concP)] (bodyOf sdP) := loopsOK_cons LoopsOK.nil (by kernel_rfl) qo_at
theorem rScale_run (z : POps) (p : Pt3) (b : List Nat) : runNL (X_pb z) [(4, gQo z)] [0,1,2,4,5,6,7,8,9,16,24,30] 200 Tryz.f54 (bodyOf Tryz.f54) (laArgs [.v (pt3V p), .l b] 0) (laLists [.v (pt3V p), .l b]) = bif decide (b.length = b.length ∧ w64 ((b.length : Int) - 1) = (b.length : Int) - 1 ∧ b.length < 4611686018427387904) then some (pt3V (scaleQ z p z.rdd z.rneu b), none) else none := by
  kernel_rfl
def u_rScale (z : POps) (args : List LA) : Option (AV × Option Blk) := match args with
  | [.v x0, .l b] => (match pt3? x0 with
    | some p => some (pt3V (scaleQ z p z.rdd z.rneu b), none)
    | _ => none)
  | _ => none
def c_rScale (args : List LA) : Bool := match args with
  | [.v x0, .l b] => (match pt3? x0 with
    | some _ => decide (b.length < 4611686018427387904)
    | _ => false)
  | _ => false
def g_rScale (z : POps) (args : List LA) : Option (AV × Option Blk) := bif c_rScale args then u_rScale z args else none
theorem rScale_at : QuietAt Tryz.prog 54 (lav (g_rScale concP)) := by
  refine quietAt_of_runA X_pb_ok (L := [(4, gQo concP)]) (keep := [0,1,2,4,5,6,7,8,9,16,24,30]) Tryz.func54 (c := bodyOf Tryz.f54) (by kernel_rfl) (by kernel_rfl) (qo_loops) fun args v h hw => ⟨200, ?_⟩
  unfold g_rScale at h
  have hg := (bif_some h).1
  replace h := (bif_some h).2
  unfold u_rScale at h
  split at h
  · rename_i x0 b
    split at h
    · rename_i p hh0
      have ehh0 := pt3?_some hh0
      subst ehh0
      replace hg : (decide (b.length < 4611686018427387904)) = true := hg
      rw [← h]
      refine (rScale_run concP p b).trans ?_
      have h := of_decide_eq_true hg
      rw [decide_eq_true ⟨rfl, w64_id (by omega) (by omega), h⟩, cond_true]
    · cases h
  · cases h
noncomputable def X_rScale (z : POps) : Cx := { X_pb z with O := addQ (X_pb z).O 54 (lavG c_rScale (u_rScale z)) }
theorem X_rScale_ok : CxOK Tryz.prog (X_rScale concP) := { X_pb_ok with quiet := addQ_ok X_pb_ok.quiet (lavG_at rScale_at) }
end Go.Proofs.YtpmbfepkdjkheaaGreat

