/- FieldAll: what one operation makes, in the program and in the document. -/
import Derived.Test.YtfajgpjpabeafaaFj
import Derived.Test.YtfajgpjpabeafaaPwMg
import Derived.Test.YtfajgpjpabeafaaPwMh
namespace Go.Proofs.Ytfajgpjpabeafaa
open Go Pw Go.RowKit
structure OpR where
  kind : Int
  to : Int
  a : Int
  b : Int
  n : Nat
  data : List Nat
  key : K32
  flag : Bool
  further : Int
def opC (q : OpR) (id len : Nat) : List AV := .n q.kind :: .n q.to :: .n q.a :: .n q.b :: .u .u64 q.n :: .slice id 0 len false :: (q.key.toList.map (AV.u .u8) ++ [.bool q.flag, .n q.further])
def op? : AV → Option (OpR × Nat)
  | .agg (.n kd :: .n to :: .n a :: .n b :: .u .u64 n :: .slice 0 0 len false :: rest) => (match key? (.agg (rest.take 32)), rest.drop 32 with
    | some k, [.bool f, .n fu] => some (⟨kd, to, a, b, n, [], k, f, fu⟩, len)
    | _, _ => none)
  | _ => none
theorem op?_some {v : AV} {q : OpR} {len : Nat} (h : op? v = some (q, len)) (l : List Nat) : v = .agg (opC { q with data := l } 0 len) := by
  unfold op? at h
  split at h
  · rename_i kd to a b n len rest
    split at h
    · rename_i k f fu hk hd
      cases h
      have hk := key?_some hk
      rw [keyV_eq] at hk
      have e : rest = rest.take 32 ++ rest.drop 32 := (List.take_append_drop 32 rest).symm
      rw [hd, AV.agg.inj hk] at e
      rw [e]; rfl
    · cases h
  · cases h
/-! ### a register's place -/
inductive N4 where
  | j0 | j1 | j2 | j3
noncomputable def r4 {α : Type} (x : N4) (f : N4 → α) : α := @N4.rec (fun _ => α) (f .j0) (f .j1) (f .j2) (f .j3) x
theorem r4_eq {α : Type} (x : N4) (f : N4 → α) : r4 x f = f x := by cases x <;> rfl
def N4.val : N4 → Int
  | .j0 => 0
  | .j1 => 1
  | .j2 => 2
  | .j3 => 3
def atN (i : Int) : N4 := if i % 4 = 0 then .j0 else if i % 4 = 1 then .j1 else if i % 4 = 2 then .j2 else .j3
theorem atN_val (i : Int) : (atN i).val = i % 4 := by
  unfold atN
  have h1 := Int.emod_nonneg i (show (4 : Int) ≠ 0 by decide)
  have h2 := Int.emod_lt_of_pos i (show (0 : Int) < 4 by decide)
  by_cases h : i % 4 = 0
  · rw [if_pos h, h]; rfl
  · rw [if_neg h]
    by_cases h' : i % 4 = 1
    · rw [if_pos h', h']; rfl
    · rw [if_neg h']
      by_cases h'' : i % 4 = 2
      · rw [if_pos h'', h'']; rfl
      · rw [if_neg h'']
        show (3 : Int) = _
        omega
theorem at_eq (i : Int) : brn (decide (i.tmod 4 < 0)) (some (AV.n (w64 (i.tmod 4 + 4)), (none : Option Blk))) (some (.n (i.tmod 4), none)) = some (.n (i % 4), none) := by
  rw [brn_eq]
  have h : i.tmod 4 = i % 4 ∧ 0 ≤ i.tmod 4 ∨ i.tmod 4 + 4 = i % 4 ∧ i.tmod 4 < 0 := by
    have h := Int.tmod_eq_emod (a := i) (b := 4)
    by_cases hp : 0 ≤ i ∨ (4 : Int) ∣ i
    · rw [if_pos hp] at h
      exact .inl (by omega)
    · rw [if_neg hp] at h
      refine .inr ?_
      simp only [Int.natAbs] at h
      omega
  by_cases hc : i.tmod 4 < 0
  · have : i.tmod 4 + 4 = i % 4 := by omega
    rw [decide_eq_true hc, cond_true, this, w64_id (by omega) (by omega)]
  · have : i.tmod 4 = i % 4 := by omega
    rw [decide_eq_false hc, cond_false, this]
theorem atL_run (o : FOps) (i : Int) : runNL (X_raisedL o) [] [0,2,6] 200 Try.f68 (bodyOf Try.f68) (laArgs [.v (.n i)] 0) (laLists [.v (.n i)]) = brn (decide (i.tmod 4 < 0)) (some (AV.n (w64 (i.tmod 4 + 4)), none)) (some (.n (i.tmod 4), none)) := by
  kernel_rfl
def g_atL (_ : FOps) (args : List LA) : Option (AV × Option Blk) := match args with
  | [.v x0] => (match int? x0 with
    | some i => some (.n (i % 4), none)
    | _ => none)
  | _ => none
theorem atL_at : QuietAt Try.prog 68 (lav (g_atL concFOps)) := by
  refine quietAt_of_runA X_raisedL_ok (L := []) (keep := [0,2,6]) Try.func68 (c := bodyOf Try.f68) (by kernel_rfl) (by kernel_rfl) (LoopsOK.nil) fun args v h hw => ⟨200, ?_⟩
  unfold g_atL at h
  split at h
  · rename_i x0
    split at h
    · rename_i i hh0
      have ehh0 := int?_some hh0
      subst ehh0
      rw [← h]
      refine (atL_run concFOps i).trans ?_
      exact at_eq i
    · cases h
  · cases h
noncomputable def X_atL (o : FOps) : Cx := { X_raisedL o with O := addQ (X_raisedL o).O 68 (lav (g_atL o)) }
theorem X_atL_ok : CxOK Try.prog (X_atL concFOps) := { X_raisedL_ok with quiet := addQ_ok X_raisedL_ok.quiet atL_at }
noncomputable def gAt (t : Int → N4) : List AV → Mem → ∀ {ρ : Type}, (AV → Option Blk → Option ρ) → Option ρ := fun args _ _ K => match args with
  | [.n i] => r4 (t i) fun j => K (.n j.val) none
  | _ => none
theorem at_at : QuietAt Try.prog 68 (gAt atN) := by
  intro args mem ρ K r hg
  refine atL_at args mem ρ K r ?_
  unfold gAt at hg
  split at hg
  · rename_i i
    rw [r4_eq, atN_val] at hg
    exact hg
  · cases hg
/-! ### made -/
noncomputable def madeV (o : FOps) (q : OpR) (a b : L5) : L5 := brn (decide (q.kind = 0)) (o.frm q.key) (brn (decide (q.kind = 1)) (o.small q.n) (brn (decide (q.kind = 2)) (o.add a b) (brn (decide (q.kind = 3)) (o.sub a b) (brn (decide (q.kind = 4)) (o.neg a) (brn (decide (q.kind = 5)) (o.mul a b) (brn (decide (q.kind = 6)) (o.sq a) (brn (decide (q.kind = 7)) (o.times a (q.n % 2 ^ 32)) (brn (decide (q.kind = 8)) (powL o a q.data) (brn (decide (q.kind = 9)) (invO o a) (brn (decide (q.kind = 10)) (rootO o a) (a)))))))))))
noncomputable def madeT (o : FOps) (q : OpR) (l : Nat) (a b : L5) : Option (AV × Option Blk) := brn (decide (q.kind = 0)) (some (.tup [numV (o.frm q.key), .bool true], none)) (brn (decide (q.kind = 1)) (some (.tup [numV (o.small q.n), .bool true], none)) (brn (decide (q.kind = 2)) (some (.tup [numV (o.add a b), .bool true], none)) (brn (decide (q.kind = 3)) (some (.tup [numV (o.sub a b), .bool true], none)) (brn (decide (q.kind = 4)) (some (.tup [numV (o.neg a), .bool true], none)) (brn (decide (q.kind = 5)) (some (.tup [numV (o.mul a b), .bool true], none)) (brn (decide (q.kind = 6)) (some (.tup [numV (o.sq a), .bool true], none)) (brn (decide (q.kind = 7)) (some (.tup [numV (o.times a (q.n % 2 ^ 32)), .bool true], none)) (brn (decide (q.kind = 8)) (bif decide (0 + l ≤ q.data.length) then (bif decide ((List.take l (List.drop 0 q.data)).length + 32 ≤ 175921860444160) then some (.tup [numV (powL o a (List.take l (List.drop 0 q.data))), .bool true], none) else none) else none) (brn (decide (q.kind = 9)) (some (.tup [numV (invO o a), .bool true], none)) (brn (decide (q.kind = 10)) (some (.tup [numV (rootO o a), .bool true], none)) (some (.tup [numV (a), .bool true], none))))))))))))
theorem madeT_eq (o : FOps) (q : OpR) (a b : L5) (h : q.data.length + 32 ≤ 175921860444160) : madeT o q q.data.length a b = some (.tup [numV (madeV o q a b), .bool true], none) := by
  unfold madeT madeV
  rw [List.drop_zero, List.take_length, decide_eq_true (show 0 + q.data.length ≤ q.data.length by omega), cond_true, decide_eq_true h, cond_true]
  generalize decide (q.kind = 0) = c0
  generalize decide (q.kind = 1) = c1
  generalize decide (q.kind = 2) = c2
  generalize decide (q.kind = 3) = c3
  generalize decide (q.kind = 4) = c4
  generalize decide (q.kind = 5) = c5
  generalize decide (q.kind = 6) = c6
  generalize decide (q.kind = 7) = c7
  generalize decide (q.kind = 8) = c8
  generalize decide (q.kind = 9) = c9
  generalize decide (q.kind = 10) = c10
  simp only [brn_eq]
  cases c0
  case true => rfl
  cases c1
  case true => rfl
  cases c2
  case true => rfl
  cases c3
  case true => rfl
  cases c4
  case true => rfl
  cases c5
  case true => rfl
  cases c6
  case true => rfl
  cases c7
  case true => rfl
  cases c8
  case true => rfl
  cases c9
  case true => rfl
  cases c10 <;> rfl
theorem made_run (o : FOps) (q : OpR) (l : Nat) (a b : L5) : runG (X_atL o) [] [0,1,2,3,4,5,6,7,8,11,12,17,22,27,32,36,41,45,52,60,64] 200 Try.f69 (bodyOf Try.f69) [.agg (opC q 0 l), numV a, numV b] [⟨.bytes q.data, false⟩] = madeT o q l a b := by kernel_rfl
def gMade (m : OpR → L5 → L5 → L5) : List AV → Mem → Option (Bool × AV × Option Blk)
  | [x, y, z], [⟨.bytes l, false⟩] => (match op? x, num? y, num? z with
    | some (q, len), some a, some b => some (decide (len = l.length ∧ l.length + 32 ≤ 175921860444160), .tup [numV (m { q with data := l } a b), .bool true], none)
    | _, _, _ => none)
  | _, _ => none
theorem made_at : QuietAt Try.prog 69 (grab (gMade (madeV concFOps))) := by
  refine quietAt_of_runG X_atL_ok (keep := [0,1,2,3,4,5,6,7,8,11,12,17,22,27,32,36,41,45,52,60,64]) Try.func69 (c := bodyOf Try.f69) (by kernel_rfl) (by kernel_rfl) LoopsOK.nil fun ar ms cd v nb h hc hw => ⟨200, ms, .refl _, ?_⟩
  unfold gMade at h
  split at h
  · rename_i x y z l
    split at h
    · rename_i q len a b hx hy hz
      cases h
      obtain ⟨rfl, h2⟩ := of_decide_eq_true hc
      rw [op?_some hx l, num?_some hy, num?_some hz]
      exact (made_run concFOps { q with data := l } l.length a b).trans (madeT_eq concFOps { q with data := l } a b h2)
    · cases h
  · cases h
/-! ### refMade -/
noncomputable def rmadeV (o : FOps) (q : OpR) (a b : L4) : L4 := brn (decide (q.kind = 0)) (o.rfrm q.key) (brn (decide (q.kind = 1)) (o.rsmall q.n) (brn (decide (q.kind = 2)) (o.radd a b) (brn (decide (q.kind = 3)) (o.rsub a b) (brn (decide (q.kind = 4)) (o.rneg a) (brn (decide (q.kind = 5)) (o.rmul a b) (brn (decide (q.kind = 6)) (o.rsq a) (brn (decide (q.kind = 7)) (o.rtimes a (q.n % 2 ^ 32)) (brn (decide (q.kind = 8)) (rpowL o a q.data) (brn (decide (q.kind = 9)) (rinvO o a) (brn (decide (q.kind = 10)) (rrootO o a) (a)))))))))))
noncomputable def rmadeT (o : FOps) (q : OpR) (l : Nat) (a b : L4) : Option (AV × Option Blk) := brn (decide (q.kind = 0)) (some (rnumV (o.rfrm q.key), none)) (brn (decide (q.kind = 1)) (some (rnumV (o.rsmall q.n), none)) (brn (decide (q.kind = 2)) (some (rnumV (o.radd a b), none)) (brn (decide (q.kind = 3)) (some (rnumV (o.rsub a b), none)) (brn (decide (q.kind = 4)) (some (rnumV (o.rneg a), none)) (brn (decide (q.kind = 5)) (some (rnumV (o.rmul a b), none)) (brn (decide (q.kind = 6)) (some (rnumV (o.rsq a), none)) (brn (decide (q.kind = 7)) (some (rnumV (o.rtimes a (q.n % 2 ^ 32)), none)) (brn (decide (q.kind = 8)) (bif decide (0 + l ≤ q.data.length) then some (rnumV (rpowL o a (List.take l (List.drop 0 q.data))), none) else none) (brn (decide (q.kind = 9)) (some (rnumV (rinvO o a), none)) (brn (decide (q.kind = 10)) (some (rnumV (rrootO o a), none)) (some (rnumV (a), none))))))))))))
theorem rmadeT_eq (o : FOps) (q : OpR) (a b : L4) : rmadeT o q q.data.length a b = some (rnumV (rmadeV o q a b), none) := by
  unfold rmadeT rmadeV
  rw [List.drop_zero, List.take_length, decide_eq_true (show 0 + q.data.length ≤ q.data.length by omega), cond_true]
  generalize decide (q.kind = 0) = c0
  generalize decide (q.kind = 1) = c1
  generalize decide (q.kind = 2) = c2
  generalize decide (q.kind = 3) = c3
  generalize decide (q.kind = 4) = c4
  generalize decide (q.kind = 5) = c5
  generalize decide (q.kind = 6) = c6
  generalize decide (q.kind = 7) = c7
  generalize decide (q.kind = 8) = c8
  generalize decide (q.kind = 9) = c9
  generalize decide (q.kind = 10) = c10
  simp only [brn_eq]
  cases c0
  case true => rfl
  cases c1
  case true => rfl
  cases c2
  case true => rfl
  cases c3
  case true => rfl
  cases c4
  case true => rfl
  cases c5
  case true => rfl
  cases c6
  case true => rfl
  cases c7
  case true => rfl
  cases c8
  case true => rfl
  cases c9
  case true => rfl
  cases c10 <;> rfl
theorem rmade_run (o : FOps) (q : OpR) (l : Nat) (a b : L4) : runG (X_atL o) [] [0,1,2,3,4,5,6,7,10,11,16,21,26,31,35,40,44,51,57,61] 200 Try.f70 (bodyOf Try.f70) [.agg (opC q 0 l), rnumV a, rnumV b] [⟨.bytes q.data, false⟩] = rmadeT o q l a b := by kernel_rfl
def gRmade (m : OpR → L4 → L4 → L4) : List AV → Mem → Option (Bool × AV × Option Blk)
  | [x, y, z], [⟨.bytes l, false⟩] => (match op? x, rnum? y, rnum? z with
    | some (q, len), some a, some b => some (decide (len = l.length), rnumV (m { q with data := l } a b), none)
    | _, _, _ => none)
  | _, _ => none
theorem rmade_at : QuietAt Try.prog 70 (grab (gRmade (rmadeV concFOps))) := by
  refine quietAt_of_runG X_atL_ok (keep := [0,1,2,3,4,5,6,7,10,11,16,21,26,31,35,40,44,51,57,61]) Try.func70 (c := bodyOf Try.f70) (by kernel_rfl) (by kernel_rfl) LoopsOK.nil fun ar ms cd v nb h hc hw => ⟨200, ms, .refl _, ?_⟩
  unfold gRmade at h
  split at h
  · rename_i x y z l
    split at h
    · rename_i q len a b hx hy hz
      cases h
      have h1 := of_decide_eq_true hc
      subst h1
      rw [op?_some hx l, rnum?_some hy, rnum?_some hz]
      exact (rmade_run concFOps { q with data := l } l.length a b).trans (rmadeT_eq concFOps { q with data := l } a b)
    · cases h
  · cases h
/-! ### all as variables -/
noncomputable def X_fa (o : FOps) (m : OpR → L5 → L5 → L5) (m' : OpR → L4 → L4 → L4) (t : Int → N4) : Cx := { X_atL o with O := addQ (addQ (addQ (X_atL o).O 68 (gAt t)) 69 (grab (gMade m))) 70 (grab (gRmade m')) }
theorem X_fa_ok : CxOK Try.prog (X_fa concFOps (madeV concFOps) (rmadeV concFOps) atN) := { X_atL_ok with quiet := addQ_ok (addQ_ok (addQ_ok X_atL_ok.quiet at_at) made_at) rmade_at }
end Go.Proofs.Ytfajgpjpabeafaa

