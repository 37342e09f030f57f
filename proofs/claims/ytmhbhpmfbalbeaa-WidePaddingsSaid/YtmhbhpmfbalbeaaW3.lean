/- The law WidePaddings: n bytes and their padding are a multiple of 128, the padding has 17 to 144 bytes and says 8 n at its end: it answers true for every input. No conditions. -/
import Derived.Test.YtmhbhpmfbalbeaaFt
import Derived.Test.YtmhbhpmfbalbeaaWr
import Derived.Test.YtmhbhpmfbalbeaaPwMg
namespace Go.Proofs.Ytmhbhpmfbalbeaa
open Go Pw Go.RowKit Go.ChangeShapes
noncomputable abbrev wqL : Func := Try.f4
structure S_q1 where
  m : Nat
  n : Nat
  i : Int
  l : List Nat
def d_q1 : LoopDef S_q1 where
  ts := [0, 3, 4]
  E := fun s => [(0, .u .u64 s.n), (3, .slice 0 0 s.m true), (4, .n s.i)]
  M := fun s => [⟨.bytes s.l, true⟩]
  dec := fun vs mem => match vs, mem with
    | [x0, .slice 0 0 m true, x4], [⟨.bytes l, true⟩] => (match u64? x0, int? x4 with
      | some n, some i => some ⟨m, n, i, l⟩
      | _, _ => none)
    | _, _ => none
  ok := fun vs mem s h => by
    split at h
    · split at h
      · rename_i n i hh0 hh1
        have ehh0 := u64?_some hh0
        subst ehh0
        have ehh1 := int?_some hh1
        subst ehh1
        cases h; exact ⟨rfl, rfl⟩
      · cases h
    · cases h
def q1N (s : S_q1) : S_q1 := { s with i := w64 (s.i + 1) }
theorem q1_step (o : SOps) (s : S_q1) : codeK (X_full o) [] wqL.ntmps [0,2,3,4,5,6,13,14,15,18,19,20,21,22,23,24,25,28,29,30,31,32,37,44,51,67,68,69,70,71,72,73,74,75,76] 60 (loopB (bodyOf wqL) 5) (d_q1.E s) (d_q1.M s) (outK d_q1.ts) =
    bif decide (s.i < w64 ((s.m : Int) - 9)) then (bif decide (0 ≤ s.i ∧ s.i < (s.m : Int)) then (bif decide (0 + s.i.toNat * 1 < s.l.length) then (bif !decide (s.l.getD (0 + s.i.toNat * 1) 0 = 0) then some (.ret, d_q1.E s, d_q1.M s) else some (.normal, d_q1.E (q1N s), d_q1.M (q1N s))) else none) else none) else some (.exit 0, d_q1.E s, d_q1.M s) := by kernel_rfl
def gQ1 : LoopFn := d_q1.fn (fun s => decide (s.i = 1 ∧ s.m = s.l.length ∧ 10 ≤ s.m ∧ s.m ≤ 1000 ∧ (s.l.take (s.m - 9)).drop 1 = List.replicate (s.m - 10) 0)) (.exit 0) (fun s => { s with i := ((s.m - 9 : Nat) : Int) })
theorem q1_at : LoopAt Try.prog wqL.ntmps (loopB (bodyOf wqL) 5) gQ1 := by
  refine d_q1.loop (keep := [0,2,3,4,5,6,13,14,15,18,19,20,21,22,23,24,25,28,29,30,31,32,37,44,51,67,68,69,70,71,72,73,74,75,76]) X_full_ok LoopsOK.nil (by simp) fun s hg => ⟨s.m - 10, fun i => { s with i := ((1 + i : Nat) : Int) }, ?_, fun i hi => ⟨60, ?_⟩, 60, ?_⟩
  · obtain ⟨h, -⟩ := of_decide_eq_true hg
    show S_q1.mk _ _ _ _ = _
    rw [show ((1 + 0 : Nat) : Int) = s.i by rw [h]; rfl]
  · obtain ⟨h1, h2, h3, h4, h5⟩ := of_decide_eq_true hg
    refine (q1_step concS _).trans ?_
    have hN : q1N { s with i := ((1 + i : Nat) : Int) } = { s with i := ((1 + (i + 1) : Nat) : Int) } := by
      unfold q1N
      dsimp only
      rw [w64_id (by omega) (by omega)]; rfl
    have hget : s.l.getD (1 + i) 0 = 0 := by
      have := congrArg (·[i]?) h5
      simp only [List.getElem?_drop, List.getElem?_take] at this
      rw [if_pos (by omega), List.getElem?_replicate, if_pos (by omega)] at this
      rw [List.getD_eq_getElem?_getD, this]; rfl
    rw [hN]
    dsimp only
    rw [w64_id (by omega) (by omega), decide_eq_true (by omega), cond_true, decide_eq_true (by omega), cond_true, decide_eq_true (by omega), cond_true, show 0 + ((1 + i : Nat) : Int).toNat * 1 = 1 + i by omega, hget, decide_eq_true rfl]
    rfl
  · obtain ⟨h1, h2, h3, h4, h5⟩ := of_decide_eq_true hg
    refine (q1_step concS _).trans ?_
    dsimp only
    rw [w64_id (by omega) (by omega), decide_eq_false (by omega), cond_false, show 1 + (s.m - 10) = s.m - 9 by omega]
structure S_q2 where
  m : Nat
  n : Nat
  v : Nat
  i : Int
  l : List Nat
def d_q2 : LoopDef S_q2 where
  ts := [0, 3, 5, 6]
  E := fun s => [(0, .u .u64 s.n), (3, .slice 0 0 s.m true), (5, .u .u64 s.v), (6, .n s.i)]
  M := fun s => [⟨.bytes s.l, true⟩]
  dec := fun vs mem => match vs, mem with
    | [x0, .slice 0 0 m true, x5, x6], [⟨.bytes l, true⟩] => (match u64? x0, u64? x5, int? x6 with
      | some n, some v, some i => some ⟨m, n, v, i, l⟩
      | _, _, _ => none)
    | _, _ => none
  ok := fun vs mem s h => by
    split at h
    · split at h
      · rename_i n v i hh0 hh1 hh2
        have ehh0 := u64?_some hh0
        subst ehh0
        have ehh1 := u64?_some hh1
        subst ehh1
        have ehh2 := int?_some hh2
        subst ehh2
        cases h; exact ⟨rfl, rfl⟩
      · cases h
    · cases h
def q2N (s : S_q2) : S_q2 := { s with i := w64 (s.i + 1), v := putP s.v (s.l.getD (0 + s.i.toNat * 1) 0) }
theorem q2_step (o : SOps) (s : S_q2) : codeK (X_full o) [] wqL.ntmps [0,2,3,4,5,6,13,14,15,18,19,20,21,22,23,24,25,28,29,30,31,32,37,44,51,67,68,69,70,71,72,73,74,75,76] 60 (loopB (bodyOf wqL) 11) (d_q2.E s) (d_q2.M s) (outK d_q2.ts) =
    bif decide (s.i < (s.m : Int)) then (bif decide (0 ≤ s.i ∧ s.i < (s.m : Int)) then (bif decide (0 + s.i.toNat * 1 < s.l.length) then some (.normal, d_q2.E (q2N s), d_q2.M (q2N s)) else none) else none) else some (.exit 2, d_q2.E s, d_q2.M s) := by kernel_rfl
def gQ2 : LoopFn := d_q2.fn (fun s => decide (s.m = s.l.length ∧ 8 ≤ s.m ∧ s.m ≤ 1000 ∧ s.i = ((s.m - 8 : Nat) : Int))) (.exit 2) (fun s => { s with i := (s.m : Int), v := (s.l.drop (s.m - 8)).foldl putP s.v })
theorem q2_at : LoopAt Try.prog wqL.ntmps (loopB (bodyOf wqL) 11) gQ2 := by
  refine d_q2.loop (keep := [0,2,3,4,5,6,13,14,15,18,19,20,21,22,23,24,25,28,29,30,31,32,37,44,51,67,68,69,70,71,72,73,74,75,76]) X_full_ok LoopsOK.nil (by simp) fun s hg => ⟨8, fun i => { s with i := ((s.m - 8 + i : Nat) : Int), v := ((s.l.drop (s.m - 8)).take i).foldl putP s.v }, ?_, fun i hi => ⟨60, ?_⟩, 60, ?_⟩
  · obtain ⟨-, -, -, h⟩ := of_decide_eq_true hg
    show S_q2.mk _ _ _ _ _ = _
    rw [show ((s.m - 8 + 0 : Nat) : Int) = s.i by rw [h]; rfl]; rfl
  · obtain ⟨h1, h2, h3, h4⟩ := of_decide_eq_true hg
    refine (q2_step concS _).trans ?_
    have hN : q2N { s with i := ((s.m - 8 + i : Nat) : Int), v := ((s.l.drop (s.m - 8)).take i).foldl putP s.v } = { s with i := ((s.m - 8 + (i + 1) : Nat) : Int), v := ((s.l.drop (s.m - 8)).take (i + 1)).foldl putP s.v } := by
      unfold q2N
      dsimp only
      have hlt : i < (s.l.drop (s.m - 8)).length := by rw [List.length_drop]; omega
      rw [w64_id (by omega) (by omega), List.take_succ_eq_append_getElem hlt, List.foldl_append, List.getElem_drop, show 0 + ((s.m - 8 + i : Nat) : Int).toNat * 1 = s.m - 8 + i by omega, List.getD_eq_getElem?_getD, List.getElem?_eq_getElem (by omega)]
      rfl
    rw [hN]
    dsimp only
    rw [decide_eq_true (by omega), cond_true, decide_eq_true (by omega), cond_true, decide_eq_true (by omega), cond_true]
  · obtain ⟨h1, h2, h3, h4⟩ := of_decide_eq_true hg
    refine (q2_step concS _).trans ?_
    dsimp only
    rw [decide_eq_false (by omega), cond_false, show s.m - 8 + 8 = s.m by omega, List.take_of_length_le (by rw [List.length_drop]; omega)]
theorem wq_loops : LoopsOK Try.prog wqL.ntmps [(5, gQ1), (11, gQ2)] (bodyOf wqL) := loopsOK_cons (loopsOK_cons LoopsOK.nil (by kernel_rfl) q2_at) (by kernel_rfl) q1_at
theorem put_div {x : Nat} (hx : x < 2 ^ 64) {j : Nat} (hj : j < 8) : putP (x / 2 ^ (64 - 8 * j)) (x / 2 ^ (56 - 8 * j) % 2 ^ 8) = x / 2 ^ (64 - 8 * (j + 1)) := by
  rw [put_eq _ (Nat.mod_lt _ (by decide))]
  have e : x / 2 ^ (64 - 8 * j) = x / 2 ^ (56 - 8 * j) / 256 := by
    rw [Nat.div_div_eq_div_mul, show 64 - 8 * j = (56 - 8 * j) + 8 by omega, Nat.pow_add]
  have hlt : x / 2 ^ (56 - 8 * j) < 2 ^ 64 := Nat.lt_of_le_of_lt (Nat.div_le_self _ _) hx
  rw [e, show 64 - 8 * (j + 1) = 56 - 8 * j by omega]
  generalize x / 2 ^ (56 - 8 * j) = y at hlt
  unfold putR addw
  omega
theorem fold_be {x : Nat} (hx : x < 2 ^ 64) : ∀ k, k ≤ 8 → (beT x k).foldl putP 0 = x / 2 ^ (64 - 8 * k)
  | 0, _ => by rw [show beT x 0 = [] from rfl, List.foldl_nil]; exact (Nat.div_eq_of_lt hx).symm
  | k + 1, h => by
    rw [beT_succ, List.foldl_append, fold_be hx k (by omega), List.foldl_cons, List.foldl_nil, put_div hx (by omega)]
theorem padL_tail (n : Nat) : (padL n).drop ((padL n).length - 8) = be8 (n * 8 % 2 ^ 64) := by
  rw [padL_len]
  have e : padL n = (128 :: (List.replicate (padZ n) 0 ++ beW (n / 2 ^ 61) 8)) ++ beW (n * 8 % 2 ^ 64) 8 := by unfold padL pdT; simp
  rw [e, List.drop_left' (by simp [beW_len])]; rfl
theorem padL_mid {n : Nat} (hn : n < 2 ^ 64) : ((padL n).take ((padL n).length - 9)).drop 1 = List.replicate ((padL n).length - 10) 0 ∧ (padL n).getD ((padL n).length - 9) 0 = n / 2 ^ 61 % 2 ^ 8 := by
  rw [padL_len]
  have e : padL n = (128 :: (List.replicate (padZ n) 0 ++ List.replicate 7 0)) ++ ([n / 2 ^ 61 % 2 ^ 8] ++ beW (n * 8 % 2 ^ 64) 8) := by
    unfold padL pdT
    rw [show beW (n / 2 ^ 61) 8 = List.replicate 7 0 ++ [n / 2 ^ 61 % 2 ^ 8] from be8_low (by omega)]
    simp
  rw [e]
  refine ⟨?_, ?_⟩
  · rw [List.take_left' (by simp), List.drop_one, List.tail_cons, List.replicate_append_replicate]; rfl
  · rw [List.getD_eq_getElem?_getD, List.getElem?_append_right (by simp), show padZ n + 17 - 9 - (128 :: (List.replicate (padZ n) 0 ++ List.replicate 7 0)).length = 0 by simp]; rfl
def w3A (n : Nat) : S_q1 := ⟨(padL n).length, n, 1, padL n⟩
def w3a (s : S_q1) : Bool := decide (s.i = 1 ∧ s.m = s.l.length ∧ 10 ≤ s.m ∧ s.m ≤ 1000 ∧ (s.l.take (s.m - 9)).drop 1 = List.replicate (s.m - 10) 0)
def w3B (s : S_q1) : S_q2 := ⟨s.m, s.n, 0, w64 ((s.m : Int) - 8), s.l⟩
def w3b (s : S_q2) : Bool := decide (s.m = s.l.length ∧ 8 ≤ s.m ∧ s.m ≤ 1000 ∧ s.i = ((s.m - 8 : Nat) : Int))
def w3C (s : S_q2) : S_q2 := { s with i := (s.m : Int), v := (s.l.drop (s.m - 8)).foldl putP s.v }
def w3E (s : S_q2) : Option (AV × Option Blk) := bif decide (s.v = s.n * 8 % 2 ^ 64) then
    gds [decide (0 ≤ w64 ((s.m : Int) - 9) ∧ w64 ((s.m : Int) - 9) < (s.m : Int)), decide (0 + (w64 ((s.m : Int) - 9)).toNat * 1 < s.l.length)] (some (.bool (decide (s.l.getD (0 + (w64 ((s.m : Int) - 9)).toNat * 1) 0 = s.n / 2 ^ (min 61 64) % 2 ^ 8)), none)) else some (.bool false, none)
def w3T (n : Nat) : Option (AV × Option Blk) :=
  bif decide (((padL n).length : Int) < 17) then some (.bool false, none) else
  bif decide (144 < ((padL n).length : Int)) then some (.bool false, none) else
  bif !decide ((n % 128 + (padL n).length % 18446744073709551616) % 2 ^ 64 % 128 = 0) then some (.bool false, none) else
  gds [decide ((0 : Int) ≤ 0 ∧ (0 : Int) < ((padL n).length : Int)), w3a (w3A n), w3b (w3B { w3A n with i := (((w3A n).m - 9 : Nat) : Int) })] (w3E (w3C (w3B { w3A n with i := (((w3A n).m - 9 : Nat) : Int) })))
theorem lawWQ_run (o : SOps) (n : Nat) : runNL (X_full o) [(5, gQ1), (11, gQ2)] [0,2,3,4,5,6,13,14,15,18,19,20,21,22,23,24,25,28,29,30,31,32,37,44,51,67,68,69,70,71,72,73,74,75,76] 100 wqL (bodyOf wqL) (laArgs [.v (.u .u64 n)] 0) (laLists [.v (.u .u64 n)]) = w3T n := by kernel_rfl
theorem w3T_true {n : Nat} (hn : n < 2 ^ 64) : w3T n = some (.bool true, none) := by
  have hz : padZ n < 128 := Nat.mod_lt _ (by decide)
  have hl := padL_len n
  obtain ⟨h1, h2⟩ := padL_mid hn
  have hA : w3a (w3A n) = true := decide_eq_true ⟨rfl, rfl, by show 10 ≤ (padL n).length; omega, by show (padL n).length ≤ 1000; omega, h1⟩
  have hB : w3B { w3A n with i := (((w3A n).m - 9 : Nat) : Int) } = ⟨(padL n).length, n, 0, (((padL n).length - 8 : Nat) : Int), padL n⟩ := by
    unfold w3B w3A
    dsimp only
    rw [w64_id (by omega) (by omega), show ((padL n).length : Int) - 8 = (((padL n).length - 8 : Nat) : Int) by omega]
  have hb : w3b ⟨(padL n).length, n, 0, (((padL n).length - 8 : Nat) : Int), padL n⟩ = true := decide_eq_true ⟨rfl, by dsimp only; omega, by dsimp only; omega, rfl⟩
  have hv : (be8 (n * 8 % 2 ^ 64)).foldl putP 0 = n * 8 % 2 ^ 64 := by
    rw [← beT_be8, fold_be (Nat.mod_lt _ (by decide)) 8 (Nat.le_refl _)]; simp
  have hC : w3C ⟨(padL n).length, n, 0, (((padL n).length - 8 : Nat) : Int), padL n⟩ = ⟨(padL n).length, n, n * 8 % 2 ^ 64, ((padL n).length : Int), padL n⟩ := by
    unfold w3C
    dsimp only
    rw [padL_tail, hv]
  unfold w3T
  rw [hA, hB, hb, hC, decide_eq_false (show ¬ ((padL n).length : Int) < 17 by omega), cond_false, decide_eq_false (show ¬ 144 < ((padL n).length : Int) by omega), cond_false,
    decide_eq_true (show (n % 128 + (padL n).length % 18446744073709551616) % 2 ^ 64 % 128 = 0 by rw [hl]; unfold padZ; omega), Bool.not_true, cond_false, decide_eq_true (show (0 : Int) ≤ 0 ∧ (0 : Int) < ((padL n).length : Int) by omega)]
  unfold w3E
  dsimp only
  rw [w64_id (x := ((padL n).length : Int) - 9) (by omega) (by omega), decide_eq_true rfl, cond_true, decide_eq_true (show (0 : Int) ≤ ((padL n).length : Int) - 9 ∧ ((padL n).length : Int) - 9 < ((padL n).length : Int) by omega),
    decide_eq_true (show 0 + (((padL n).length : Int) - 9).toNat * 1 < (padL n).length by omega), show 0 + (((padL n).length : Int) - 9).toNat * 1 = (padL n).length - 9 by omega, h2, show min 61 64 = 61 by decide, decide_eq_true rfl]
  rfl
noncomputable abbrev XP : Cx := X_full concS
theorem XP_ok : CxOK Try.prog XP := X_full_ok
set_option maxRecDepth 100000 in
theorem widePaddings_lifted (os : Os) (started : os.Started) (H : Type) (enc : TypeId × Value → H) :
    ReturnsInHanded {} Try.checked os 4 .any (Rows.widePaddingsSpec.pre6 enc Try.prog Try.f4 Rows.widePaddingsRow.domain false) (Rows.widePaddingsSpec.post enc Try.prog Try.f4 false true false false) := by
  refine law_lifted (C := Try.checked) (tb := 4) (by kernel_rfl) started (by kernel_rfl) Try.func4
    (ChangeSpec.witness6 (enc := enc) (C := Try.checked) false ⟨#[], #[.int .u64 0], []⟩ 8 (by kernel_rfl) (by kernel_rfl) (by kernel_rfl) (by kernel_rfl)) rfl ?_ (by kernel_rfl) (by kernel_rfl) (by kernel_rfl) (by kernel_rfl) ?_
  · intro ds h
    match ds, h with | [d0], _ => rfl
  · intro W base args ds p hval hsz hA hlt hw
    obtain ⟨args⟩ := args
    match args, hsz, hval with
    | [a0], hsz, hval =>
      obtain ⟨n, wn, rn⟩ := argU (k := .u64) (t := 22) (d := .int .u64) (by kernel_rfl) (by kernel_rfl) rfl (hval 0 _ a0 (by kernel_rfl) rfl)
      exact law_runN XP_ok Try.func4 (by kernel_rfl) wq_loops ((lawWQ_run concS n).trans (w3T_true (by simpa [IntKind.bits] using wn))) (NSt.empty W) (.cons _ _ _ _ (rn _) .nil)
theorem widePaddings_facts : joinedFacts Try.pinned.checked.prog 4 Try.f4 Rows.widePaddingsSpec Rows.widePaddingsRow = true := by
  show joinedFacts Try.prog 4 Try.f4 Rows.widePaddingsSpec Rows.widePaddingsRow = true
  unfold joinedFacts
  rw [liftsF, heardF, enterF, makeF]
  kernel_rfl
theorem widePaddings_holds : Rows.WidePaddingsSaid :=
  OpenClaim.holds_of_wide 4 Try.f4 rfl rfl rfl rfl rfl rfl rfl ⟨rfl, rfl, rfl, rfl, rfl⟩ rfl rfl rfl rfl rfl (by kernel_rfl) Try.func4 widePaddings_facts
    (of_decide_eq_true (by kernel_rfl)) (by unfold Func.isWrapper; first | (rw [if_pos (by decide +kernel)]; kernel_rfl) | (rw [if_neg (by decide +kernel)]; exact ⟨rfl, rfl⟩))
    (fun os started H enc _ => widePaddings_lifted os started H enc)
#print axioms widePaddings_holds
end Go.Proofs.Ytmhbhpmfbalbeaa

