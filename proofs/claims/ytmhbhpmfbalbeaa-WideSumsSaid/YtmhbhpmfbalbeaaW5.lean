/- The law WideSums: the hash is the document's, the list that is lent stays as it was, and with other bytes in it it is theirs: it answers true for every input. No conditions. -/
import Derived.Test.YtmhbhpmfbalbeaaFt
import Derived.Test.YtmhbhpmfbalbeaaWx
namespace Go.Proofs.Ytmhbhpmfbalbeaa
open Go Pw Go.RowKit Go.ChangeShapes
noncomputable abbrev wsL : Func := Try.f7
structure S_ws where
  n : Nat
  m : Nat
  x : Nat
  i : Int
  B0 : Blk
  B1 : Blk
  B2 : Blk
  a : List Nat
  B4 : Blk
  l : List Nat
def d_ws : LoopDef S_ws where
  ts := [1, 5, 7, 8]
  E := fun s => [(1, .u .u8 s.x), (5, .slice 3 0 s.n true), (7, .slice 5 0 s.m true), (8, .n s.i)]
  M := fun s => [s.B0, s.B1, s.B2, ⟨.bytes s.a, true⟩, s.B4, ⟨.bytes s.l, true⟩]
  dec := fun vs mem => match vs, mem with
    | [x1, .slice 3 0 n true, .slice 5 0 m true, x8], [B0, B1, B2, ⟨.bytes a, true⟩, B4, ⟨.bytes l, true⟩] => (match u8? x1, int? x8 with
      | some x, some i => some ⟨n, m, x, i, B0, B1, B2, a, B4, l⟩
      | _, _ => none)
    | _, _ => none
  ok := fun vs mem s h => by
    split at h
    · split at h
      · rename_i x i hh0 hh1
        have ehh0 := u8?_some hh0
        subst ehh0
        have ehh1 := int?_some hh1
        subst ehh1
        cases h; exact ⟨rfl, rfl⟩
      · cases h
    · cases h
def wsX (s : S_ws) : Nat := 0 + s.i.toNat * 1
def wsV (s : S_ws) : Nat := s.l.getD (wsX s) 0 ^^^ s.x
def wsN (s : S_ws) : S_ws := { s with i := w64 (s.i + 1), l := s.l.set (wsX s) (wsV s), a := s.a.set (wsX s) ((s.l.set (wsX s) (wsV s)).getD (wsX s) 0) }
theorem ws_step (o : SOps) (s : S_ws) : codeK (X_lent o) [] wsL.ntmps [0,1,4,5,6,7,8,20,21,22,23,24,31] 60 (loopB (bodyOf wsL) 6) (d_ws.E s) (d_ws.M s) (outK d_ws.ts) =
    bif decide (s.i < (s.m : Int)) then gds [decide (0 ≤ s.i ∧ s.i < (s.m : Int)), decide (wsX s < s.l.length), decide (0 ≤ s.i ∧ s.i < (s.m : Int)), decide (wsX s < s.l.length), decide (0 ≤ s.i ∧ s.i < (s.m : Int)),
      decide (wsX s < (s.l.set (wsX s) (wsV s)).length), decide (0 ≤ s.i ∧ s.i < (s.n : Int)), decide (wsX s < s.a.length)] (some (.normal, d_ws.E (wsN s), d_ws.M (wsN s))) else some (.exit 0, d_ws.E s, d_ws.M s) := by kernel_rfl
def xorL (x : Nat) (l : List Nat) : List Nat := l.map (· ^^^ x)
def gWs : LoopFn := d_ws.fn (fun s => decide (s.i = 0 ∧ s.m = s.l.length ∧ s.n = s.m ∧ s.m ≤ s.a.length ∧ s.m < 4611686018427387904)) (.exit 0) (fun s => { s with i := (s.m : Int), l := xorL s.x s.l, a := xorL s.x s.l ++ s.a.drop s.m })
def wsI (s : S_ws) (i : Nat) : S_ws := { s with i := (i : Int), l := (xorL s.x s.l).take i ++ s.l.drop i, a := (xorL s.x s.l).take i ++ s.a.drop i }
theorem put_take {l k : List Nat} {i : Nat} (h : i < k.length) (hl : i < l.length) : (l.take i ++ k.drop i).set i (l.getD i 0) = l.take (i + 1) ++ k.drop (i + 1) := by
  have h1 : (l.take i).length = i := by rw [List.length_take]; omega
  rw [List.set_append_right _ _ (by omega), h1, Nat.sub_self, List.drop_eq_getElem_cons h, List.set_cons_zero, List.take_add_one, List.append_assoc, List.getElem?_eq_getElem hl, List.getD_eq_getElem?_getD, List.getElem?_eq_getElem hl]; rfl
theorem ws_at : LoopAt Try.prog wsL.ntmps (loopB (bodyOf wsL) 6) gWs := by
  refine d_ws.loop (keep := [0,1,4,5,6,7,8,20,21,22,23,24,31]) X_lent_ok LoopsOK.nil (by simp) fun s hg => ⟨s.m, wsI s, ?_, fun i hi => ⟨60, ?_⟩, 60, ?_⟩
  · obtain ⟨h, -⟩ := of_decide_eq_true hg
    cases s; simp_all [wsI]
  · obtain ⟨h1, h2, h3, h4, h5⟩ := of_decide_eq_true hg
    have hxl : (xorL s.x s.l).length = s.l.length := by unfold xorL; rw [List.length_map]
    have hl : (wsI s i).l.length = s.l.length := by unfold wsI; simp [hxl]; omega
    have ha : (wsI s i).a.length = s.a.length := by unfold wsI; simp [hxl]; omega
    have hX : wsX (wsI s i) = i := by unfold wsX wsI; dsimp only; omega
    have hV : wsV (wsI s i) = (xorL s.x s.l).getD i 0 := by
      unfold wsV
      rw [hX]
      unfold wsI xorL
      dsimp only
      rw [List.getD_eq_getElem?_getD, List.getD_eq_getElem?_getD, List.getElem?_append_right (by simp; omega), List.getElem?_drop, List.getElem?_map]
      have : i + (0 : Nat) = i := rfl
      simp only [List.length_take, List.length_map]
      rw [show i + (i - min i s.l.length) = i by omega, List.getElem?_eq_getElem (by omega)]
      rfl
    have hg1 : (wsI s i).l.set i ((xorL s.x s.l).getD i 0) = (wsI s (i + 1)).l := put_take (by omega) (by omega)
    have hg2 : (wsI s i).a.set i ((xorL s.x s.l).getD i 0) = (wsI s (i + 1)).a := put_take (by omega) (by omega)
    have hg3 : (wsI s (i + 1)).l.getD i 0 = (xorL s.x s.l).getD i 0 := by
      unfold wsI
      dsimp only
      rw [List.getD_eq_getElem?_getD, List.getElem?_append_left (by simp [hxl]; omega), List.getElem?_take, if_pos (by omega), ← List.getD_eq_getElem?_getD]
    have hN : wsN (wsI s i) = wsI s (i + 1) := by
      have e : ∀ (p q : S_ws), p.n = q.n → p.m = q.m → p.x = q.x → p.i = q.i → p.B0 = q.B0 → p.B1 = q.B1 → p.B2 = q.B2 → p.a = q.a → p.B4 = q.B4 → p.l = q.l → p = q := by
        intro p q; cases p; cases q; simp_all
      refine e _ _ rfl rfl rfl ?_ rfl rfl rfl ?_ rfl ?_
      · show w64 ((i : Int) + 1) = ((i + 1 : Nat) : Int)
        rw [w64_id (by omega) (by omega)]; rfl
      · show (wsI s i).a.set (wsX (wsI s i)) (((wsI s i).l.set (wsX (wsI s i)) (wsV (wsI s i))).getD (wsX (wsI s i)) 0) = _
        rw [hX, hV, hg1, hg3, hg2]
      · show (wsI s i).l.set (wsX (wsI s i)) (wsV (wsI s i)) = _
        rw [hX, hV, hg1]
    refine (ws_step concS _).trans ?_
    rw [hN, hX, hV, hg1]
    have e1 : (wsI s i).i = (i : Int) := rfl
    have e2 : (wsI s i).m = s.m := rfl
    have e3 : (wsI s i).n = s.n := rfl
    have hl2 : (wsI s (i + 1)).l.length = s.l.length := by unfold wsI; simp [hxl]; omega
    rw [e1, e2, e3, hl, ha, hl2, decide_eq_true (by omega), cond_true, gds_true]
    intro c hc
    simp only [List.mem_cons, List.not_mem_nil, or_false] at hc
    rcases hc with h | h | h | h | h | h | h | h <;> (rw [h]; exact decide_eq_true (by omega))
  · obtain ⟨h1, h2, h3, h4, h5⟩ := of_decide_eq_true hg
    have hxl : (xorL s.x s.l).length = s.l.length := by unfold xorL; rw [List.length_map]
    refine (ws_step concS _).trans ?_
    rw [show (wsI s s.m).i = (s.m : Int) from rfl, show (wsI s s.m).m = s.m from rfl, decide_eq_false (show ¬ ((s.m : Nat) : Int) < (s.m : Int) by omega), cond_false]
    have e : wsI s s.m = { s with i := (s.m : Int), l := xorL s.x s.l, a := xorL s.x s.l ++ s.a.drop s.m } := by
      unfold wsI
      rw [List.take_of_length_le (by omega), List.drop_of_length_le (l := s.l) (by omega), List.append_nil (xorL s.x s.l)]
    rw [e]
theorem ws_loops : LoopsOK Try.prog wsL.ntmps [(6, gWs)] (bodyOf wsL) := loopsOK_cons LoopsOK.nil (by kernel_rfl) ws_at
def sB (b : List Nat) : List Nat := List.take b.length (List.drop 0 b)
def sC (b : List Nat) : List Nat := List.take b.length (List.drop 0 (b ++ marks 80))
def sK (b : List Nat) : List Nat := List.take (b.length + 80) (List.drop 0 (b ++ marks 80))
def sL (b : List Nat) : List Nat := List.take 0 (List.drop 0 []) ++ sB b
def sN (b : List Nat) : Nat := 0 + (sB b).length
def sX (x : Nat) (b : List Nat) : List Nat := xorL x (sL b)
def sA (x : Nat) (b : List Nat) : List Nat := xorL x (sL b) ++ List.drop (sN b) (b ++ marks 80)
def sY (x : Nat) (b : List Nat) : List Nat := List.take b.length (List.drop 0 (sA x b))
def sZ (x : Nat) (b : List Nat) : List Nat := List.take (sN b) (List.drop 0 (sX x b))
def sF : Option (AV × Option Blk) := some (.bool false, none)
def wsT (o : SOps) (b : List Nat) (x : Nat) : Option (AV × Option Blk) :=
  gds [decide (b.length = b.length ∧ b.length + 80 ≤ maxRoom), decide (0 + b.length ≤ (b ++ marks 80).length), decide ((sC b).length + 128 ≤ maxRoom), decide (0 + b.length ≤ b.length), decide ((sB b).length + 256 ≤ maxRoom)]
   (bif !eqW 64 (hashV o (sC b)) (hashR o (sB b)) then sF else
    gds [decide (0 + (b.length + 80) ≤ (b ++ marks 80).length), decide (0 + b.length ≤ b.length), keptOk (sK b) (sB b), decide (0 + b.length ≤ b.length), decide (0 + (sB b).length ≤ maxRoom),
      decide ((0 : Int) = 0 ∧ sN b = (sL b).length ∧ b.length = sN b ∧ sN b ≤ (b ++ marks 80).length ∧ sN b < 4611686018427387904), decide (0 + b.length ≤ (sA x b).length), decide ((sY x b).length + 128 ≤ maxRoom),
      decide (0 + sN b ≤ (sX x b).length), decide ((sZ x b).length + 256 ≤ maxRoom)] (some (.bool (eqW 64 (hashV o (sY x b)) (hashR o (sZ x b))), none)))
theorem lawWS_run (o : SOps) (b : List Nat) (x : Nat) : runNL (X_lent o) [(6, gWs)] [0,1,4,5,6,7,8,20,21,22,23,24,31] 300 wsL (bodyOf wsL) (laArgs [.l b, .v (.u .u8 x)] 0) (laLists [.l b, .v (.u .u8 x)]) = wsT o b x := by kernel_rfl
theorem wsT_true {b : List Nat} {x : Nat} (hb : ∀ y ∈ b, y < 256) (hx : x < 256) (lb : b.length ≤ 140737488351232) : wsT concS b x = some (.bool true, none) := by
  have hm : maxRoom = 175921860444160 := rfl
  have eB : sB b = b := by unfold sB; rw [List.drop_zero, List.take_length]
  have eC : sC b = b := by unfold sC; rw [List.drop_zero, List.take_left]
  have hK : (b ++ marks 80).length = b.length + 80 := by rw [List.length_append, marks_len]
  have eK : sK b = b ++ marks 80 := by unfold sK; rw [List.drop_zero, ← hK, List.take_length]
  have eL : sL b = b := by unfold sL; rw [eB, List.take_zero, List.nil_append]
  have eN : sN b = b.length := by unfold sN; rw [eB, Nat.zero_add]
  have hX : (xorL x b).length = b.length := by unfold xorL; rw [List.length_map]
  have eX : sX x b = xorL x b := by unfold sX; rw [eL]
  have hA : (sA x b).length = b.length + 80 := by unfold sA; rw [eL, eN, List.drop_left, List.length_append, marks_len, hX]
  have eY : sY x b = xorL x b := by unfold sY sA; rw [eL, List.drop_zero, ← hX, List.take_left]
  have eZ : sZ x b = xorL x b := by unfold sZ; rw [eX, eN, List.drop_zero, ← hX, List.take_length]
  have hxb : ∀ y ∈ xorL x b, y < 256 := by
    intro y hy
    unfold xorL at hy
    obtain ⟨z, hz, rfl⟩ := List.mem_map.1 hy
    exact Nat.xor_lt_two_pow (n := 8) (hb z hz) hx
  unfold wsT
  rw [eB, eC, eK, eL, eN, eX, eY, eZ, hA, hX, hK, gds_true]
  · rw [hash_eq hb, eqW_self, Bool.not_true, cond_false, hash_eq hxb, eqW_self, gds_true]
    intro c hc
    have hk : keptOk (b ++ marks 80) b = true := decide_eq_true ⟨rfl, by rw [hK]; omega⟩
    rw [hk] at hc
    simp only [List.mem_cons, List.not_mem_nil, or_false] at hc
    rcases hc with h | h | h | h | h | h | h | h | h | h
    · rw [h]; exact decide_eq_true (by omega)
    · rw [h]; exact decide_eq_true (by omega)
    · exact h
    · rw [h]; exact decide_eq_true (by omega)
    · rw [h]; exact decide_eq_true (by omega)
    · rw [h]; exact decide_eq_true ⟨trivial, trivial, trivial, by omega, by omega⟩
    · rw [h]; exact decide_eq_true (by omega)
    · rw [h]; exact decide_eq_true (by omega)
    · rw [h]; exact decide_eq_true (by omega)
    · rw [h]; exact decide_eq_true (by omega)
  · intro c hc
    simp only [List.mem_cons, List.not_mem_nil, or_false] at hc
    rcases hc with h | h | h | h | h
    · rw [h]; exact decide_eq_true ⟨trivial, by omega⟩
    all_goals (rw [h]; exact decide_eq_true (by omega))
noncomputable abbrev XW : Cx := X_lent concS
theorem XW_ok : CxOK Try.prog XW := X_lent_ok
set_option maxRecDepth 100000 in
theorem wideSums_lifted (os : Os) (started : os.Started) (H : Type) (enc : TypeId × Value → H) :
    ReturnsInHanded {} Try.checked os 7 .any (Rows.wideSumsSpec.pre6 enc Try.prog Try.f7 Rows.wideSumsRow.domain false) (Rows.wideSumsSpec.post enc Try.prog Try.f7 false true false false) := by
  refine law_lifted (C := Try.checked) (tb := 4) (by kernel_rfl) started (by kernel_rfl) Try.func7
    (ChangeSpec.witness6 (enc := enc) (C := Try.checked) false ⟨#[], #[.slice none 0 0, .int .u8 0], []⟩ 8 (by kernel_rfl) (by kernel_rfl) (by kernel_rfl) (by kernel_rfl)) rfl ?_ (by kernel_rfl) (by kernel_rfl) (by kernel_rfl) (by kernel_rfl) ?_
  · intro ds h
    match ds, h with | [d0, d1], _ => rfl
  · intro W base args ds p hval hsz hA hlt hw
    obtain ⟨args⟩ := args
    match args, hsz, hval with
    | [a0, a1], hsz, hval =>
      have n0 := NSt.empty W
      obtain ⟨_, _, tb, ub⟩ := trod_get hA hw 0 _ a0 (by kernel_rfl) rfl
      obtain ⟨b, wb, lb, fb⟩ := argBytes (t := 23) (by kernel_rfl) (hval 0 _ a0 (by kernel_rfl) rfl) tb ub
      obtain ⟨_, x1, n1, rb⟩ := n0.arg fb
      obtain ⟨x, wx, rx⟩ := argU (k := .u8) (t := 5) (d := .int .u8) (by kernel_rfl) (by kernel_rfl) rfl (hval 1 _ a1 (by kernel_rfl) rfl)
      exact law_runN XW_ok Try.func7 (by kernel_rfl) ws_loops ((lawWS_run concS b x).trans (wsT_true wb (by simpa [IntKind.bits] using wx) lb)) n1 (.cons _ _ _ _ rb (.cons _ _ _ _ (rx _) .nil))
theorem wideSums_facts : joinedFacts Try.pinned.checked.prog 7 Try.f7 Rows.wideSumsSpec Rows.wideSumsRow = true := by
  show joinedFacts Try.prog 7 Try.f7 Rows.wideSumsSpec Rows.wideSumsRow = true
  unfold joinedFacts
  rw [liftsF, heardF, enterF, makeF]
  kernel_rfl
theorem wideSums_holds : Rows.WideSumsSaid :=
  OpenClaim.holds_of_wide 7 Try.f7 rfl rfl rfl rfl rfl rfl rfl ⟨rfl, rfl, rfl, rfl, rfl⟩ rfl rfl rfl rfl rfl (by kernel_rfl) Try.func7 wideSums_facts
    (of_decide_eq_true (by kernel_rfl)) (by unfold Func.isWrapper; first | (rw [if_pos (by decide +kernel)]; kernel_rfl) | (rw [if_neg (by decide +kernel)]; exact ⟨rfl, rfl⟩))
    (fun os started H enc _ => wideSums_lifted os started H enc)
#print axioms wideSums_holds
end Go.Proofs.Ytmhbhpmfbalbeaa

