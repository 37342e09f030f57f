/- Contracts of the field's functions, by the evaluator (2): From, Bytes, the questions; the document's numbers. -/
import Derived.Test.YtpmbfepkdjkheaaGreatFa
import Derived.Test.YtpmbfepkdjkheaaGreatPwMd
namespace Go.Proofs.YtpmbfepkdjkheaaGreat
open Go Pw Go.RowKit

theorem fromF_run  (k : K32) : runQ X_smallF [0,1,2,3,4,5,6,7,8,9,10,23,38,39,40,41] 100 Tryz.f101 (bodyOf Tryz.f101) [keyV k] = some (numV (fromS k)) := by
  kernel_rfl
def g_fromF (args : List AV) : Option AV := match args with
  | [x0] => match key? x0 with
    | some k => some (numV (fromS k))
    | _ => none
  | _ => none
theorem fromF_at : QuietAt Tryz.prog 101 (val g_fromF) := by
  refine quietAt_of_run X_smallF_ok (keep := [0,1,2,3,4,5,6,7,8,9,10,23,38,39,40,41]) Tryz.func101 (c := bodyOf Tryz.f101) (by kernel_rfl) (by kernel_rfl) fun args v h hw => ⟨100, ?_⟩
  unfold g_fromF at h
  split at h
  · rename_i x0
    split at h
    · rename_i k h0
      have eh0 := key?_some h0
      subst eh0
      rw [fromF_run]
      exact h
    · cases h
  · cases h
def X_fromF : Cx := { X_smallF with O := addQ X_smallF.O 101 (val g_fromF) }
theorem X_fromF_ok : CxOK Tryz.prog X_fromF := { X_smallF_ok with quiet := addQ_ok X_smallF_ok.quiet fromF_at }
theorem leastF_run  (x : L5) : runQ X_fromF [0,1,2,3,4,5,6,11,12,27,28] 100 Tryz.f132 (bodyOf Tryz.f132) [numV x] = some (numV (leastS x)) := by
  kernel_rfl
def g_leastF (args : List AV) : Option AV := match args with
  | [x0] => match num? x0 with
    | some x => some (numV (leastS x))
    | _ => none
  | _ => none
theorem leastF_at : QuietAt Tryz.prog 132 (val g_leastF) := by
  refine quietAt_of_run X_fromF_ok (keep := [0,1,2,3,4,5,6,11,12,27,28]) Tryz.func132 (c := bodyOf Tryz.f132) (by kernel_rfl) (by kernel_rfl) fun args v h hw => ⟨100, ?_⟩
  unfold g_leastF at h
  split at h
  · rename_i x0
    split at h
    · rename_i x h0
      have eh0 := num?_some h0
      subst eh0
      rw [leastF_run]
      exact h
    · cases h
  · cases h
def X_leastF : Cx := { X_fromF with O := addQ X_fromF.O 132 (val g_leastF) }
theorem X_leastF_ok : CxOK Tryz.prog X_leastF := { X_fromF_ok with quiet := addQ_ok X_fromF_ok.quiet leastF_at }
theorem bytesF_run  (x : L5) : runQ X_leastF [0,1,2,3,4,5,6,7,8,9,12,13,29,30,31,32] 100 Tryz.f71 (bodyOf Tryz.f71) [numV x] = some (keyV (bytesS x)) := by
  kernel_rfl
def g_bytesF (args : List AV) : Option AV := match args with
  | [x0] => match num? x0 with
    | some x => some (keyV (bytesS x))
    | _ => none
  | _ => none
theorem bytesF_at : QuietAt Tryz.prog 71 (val g_bytesF) := by
  refine quietAt_of_run X_leastF_ok (keep := [0,1,2,3,4,5,6,7,8,9,12,13,29,30,31,32]) Tryz.func71 (c := bodyOf Tryz.f71) (by kernel_rfl) (by kernel_rfl) fun args v h hw => ⟨100, ?_⟩
  unfold g_bytesF at h
  split at h
  · rename_i x0
    split at h
    · rename_i x h0
      have eh0 := num?_some h0
      subst eh0
      rw [bytesF_run]
      exact h
    · cases h
  · cases h
def X_bytesF : Cx := { X_leastF with O := addQ X_leastF.O 71 (val g_bytesF) }
theorem X_bytesF_ok : CxOK Tryz.prog X_bytesF := { X_leastF_ok with quiet := addQ_ok X_leastF_ok.quiet bytesF_at }
theorem equalF_run  (x : L5) (y : L5) : runQ X_bytesF [0,1,2,3,4] 100 Tryz.f85 (bodyOf Tryz.f85) [numV x, numV y] = some (.bool (equalS x y)) := by
  kernel_rfl
def g_equalF (args : List AV) : Option AV := match args with
  | [x0, x1] => match num? x0, num? x1 with
    | some x, some y => some (.bool (equalS x y))
    | _, _ => none
  | _ => none
theorem equalF_at : QuietAt Tryz.prog 85 (val g_equalF) := by
  refine quietAt_of_run X_bytesF_ok (keep := [0,1,2,3,4]) Tryz.func85 (c := bodyOf Tryz.f85) (by kernel_rfl) (by kernel_rfl) fun args v h hw => ⟨100, ?_⟩
  unfold g_equalF at h
  split at h
  · rename_i x0 x1
    split at h
    · rename_i x y h0 h1
      have eh0 := num?_some h0
      subst eh0
      have eh1 := num?_some h1
      subst eh1
      rw [equalF_run]
      exact h
    · cases h
  · cases h
def X_equalF : Cx := { X_bytesF with O := addQ X_bytesF.O 85 (val g_equalF) }
theorem X_equalF_ok : CxOK Tryz.prog X_equalF := { X_bytesF_ok with quiet := addQ_ok X_bytesF_ok.quiet equalF_at }
theorem isZeroF_run  (x : L5) : runQ X_equalF [0,1,2] 100 Tryz.f106 (bodyOf Tryz.f106) [numV x] = some (.bool (isZeroS x)) := by
  kernel_rfl
def g_isZeroF (args : List AV) : Option AV := match args with
  | [x0] => match num? x0 with
    | some x => some (.bool (isZeroS x))
    | _ => none
  | _ => none
theorem isZeroF_at : QuietAt Tryz.prog 106 (val g_isZeroF) := by
  refine quietAt_of_run X_equalF_ok (keep := [0,1,2]) Tryz.func106 (c := bodyOf Tryz.f106) (by kernel_rfl) (by kernel_rfl) fun args v h hw => ⟨100, ?_⟩
  unfold g_isZeroF at h
  split at h
  · rename_i x0
    split at h
    · rename_i x h0
      have eh0 := num?_some h0
      subst eh0
      rw [isZeroF_run]
      exact h
    · cases h
  · cases h
def X_isZeroF : Cx := { X_equalF with O := addQ X_equalF.O 106 (val g_isZeroF) }
theorem X_isZeroF_ok : CxOK Tryz.prog X_isZeroF := { X_equalF_ok with quiet := addQ_ok X_equalF_ok.quiet isZeroF_at }
theorem oddF_run  (x : L5) : runQ X_isZeroF [0,1,2] 100 Tryz.f72 (bodyOf Tryz.f72) [numV x] = some (.bool (oddS x)) := by
  kernel_rfl
def g_oddF (args : List AV) : Option AV := match args with
  | [x0] => match num? x0 with
    | some x => some (.bool (oddS x))
    | _ => none
  | _ => none
theorem oddF_at : QuietAt Tryz.prog 72 (val g_oddF) := by
  refine quietAt_of_run X_isZeroF_ok (keep := [0,1,2]) Tryz.func72 (c := bodyOf Tryz.f72) (by kernel_rfl) (by kernel_rfl) fun args v h hw => ⟨100, ?_⟩
  unfold g_oddF at h
  split at h
  · rename_i x0
    split at h
    · rename_i x h0
      have eh0 := num?_some h0
      subst eh0
      rw [oddF_run]
      exact h
    · cases h
  · cases h
def X_oddF : Cx := { X_isZeroF with O := addQ X_isZeroF.O 72 (val g_oddF) }
theorem X_oddF_ok : CxOK Tryz.prog X_oddF := { X_isZeroF_ok with quiet := addQ_ok X_isZeroF_ok.quiet oddF_at }

/-- math/bits.Sub64 -/
def gSub64 : List AV → Mem → ∀ {ρ : Type}, (AV → Option Blk → Option ρ) → Option ρ := fun args _ _ K => match args with
  | [.u .u64 x, .u .u64 y, .u .u64 c] => bif decide (c ≤ 1) then K (.tup [.u .u64 (sb x y c), .u .u64 (bb x y c)]) none else none
  | _ => none
def sub64Entry : Array Value → Sem Value := fun args => do
  let (x, y, b) ← Extern.MathBitsCarry.three "Sub64" args
  pure (Extern.MathBitsCarry.pair ((x + Extern.MathBitsCarry.m64 - y - b) % Extern.MathBitsCarry.m64) (if x < y + b then 1 else 0))
theorem run_sub64' {P : Program} (x y c : Nat) (hc : c ≤ 1) (w : World) :
    (sub64Entry #[.int .u64 (x : Int), .int .u64 (y : Int), .int .u64 (c : Int)]).run P w =
      .ok (.tuple #[.int .u64 ((sb x y c : Nat) : Int), .int .u64 ((bb x y c : Nat) : Int)]) w := by
  have : c = 0 ∨ c = 1 := by omega
  have e : bb x y c = if x < y + c then 1 else 0 := by unfold bb; by_cases h : x < y + c <;> simp [h]
  rw [e]
  rcases this with rfl | rfl <;> rfl
theorem sub64_find : Extern.find Tryz.f155 = some sub64Entry := by kernel_rfl
theorem sub64_next : (Extern.findNext Tryz.f155).isNone = true := by kernel_rfl
theorem bb_small (x y c : Nat) : bb x y c < 2 ^ 64 := Nat.lt_of_le_of_lt (bb_le x y c) (by decide)
set_option maxRecDepth 100000 in
theorem sub64_at : QuietAt Tryz.prog 155 gSub64 := by
  intro args mem ρ K r h
  unfold gSub64 at h
  split at h
  · rename_i x y c
    obtain ⟨hc, h⟩ := bif_some h
    have hc := of_decide_eq_true hc
    refine ⟨_, _, h, fun σ w real hr _ _ => ?_⟩
    obtain ⟨vx, vy, vc, rfl, h1, h2, h3⟩ := RL.three hr
    cases h1 with | u _ _ _ b1 =>
    cases h2 with | u _ _ _ b2 =>
    cases h3 with | u _ _ _ b3 =>
    have hrun := run_callFunc_extern (P := Tryz.prog) (f := 155) (fn := Tryz.f155) Tryz.func155 (by kernel_rfl) (by kernel_rfl) (by simpa using sub64_next) sub64_find
      #[.int .u64 (x : Int), .int .u64 (y : Int), .int .u64 (c : Int)] w
    rw [run_sub64' _ _ _ hc] at hrun
    unfold CallTo
    rw [hrun]
    simp only [Result.andThen_ok]
    exact ⟨Below.refl _ _, .tup _ _ (.cons _ _ _ _ (.u _ _ rfl (by simp only [IntKind.bits]; exact Nat.mod_lt _ (by decide))) (.cons _ _ _ _ (.u _ _ rfl (by simp only [IntKind.bits]; exact bb_small x y c)) .nil))⟩
  · cases h
def X_sub64 : Cx := { X_oddF with O := addQ X_oddF.O 155 gSub64 }
theorem X_sub64_ok : CxOK Tryz.prog X_sub64 := { X_oddF_ok with quiet := addQ_ok X_oddF_ok.quiet sub64_at }
theorem primeR_run   : runQ X_sub64 [0] 100 Tryz.f154 (bodyOf Tryz.f154) [] = some (rnumV primeD) := by
  kernel_rfl
def g_primeR (args : List AV) : Option AV := match args with
  | [] => some (rnumV primeD)
  | _ => none
theorem primeR_at : QuietAt Tryz.prog 154 (val g_primeR) := by
  refine quietAt_of_run X_sub64_ok (keep := [0]) Tryz.func154 (c := bodyOf Tryz.f154) (by kernel_rfl) (by kernel_rfl) fun args v h hw => ⟨100, ?_⟩
  unfold g_primeR at h
  split at h
  · rw [primeR_run]; exact h
  · cases h
def X_primeR : Cx := { X_sub64 with O := addQ X_sub64.O 154 (val g_primeR) }
theorem X_primeR_ok : CxOK Tryz.prog X_primeR := { X_sub64_ok with quiet := addQ_ok X_sub64_ok.quiet primeR_at }
theorem minusR_run  (x : L4) (y : L4) : runQ X_primeR [0,1,2,3,4,5,6,7,9] 100 Tryz.f153 (bodyOf Tryz.f153) [rnumV x, rnumV y] = bif decide (minB0 x y ≤ 1) then bif decide (minB1 x y ≤ 1) then bif decide (minB2 x y ≤ 1) then some (minV x y) else none else none else none := by
  kernel_rfl
def g_minusR (args : List AV) : Option AV := match args with
  | [x0, x1] => match rnum? x0, rnum? x1 with
    | some x, some y => some (minV x y)
    | _, _ => none
  | _ => none
theorem minusR_at : QuietAt Tryz.prog 153 (val g_minusR) := by
  refine quietAt_of_run X_primeR_ok (keep := [0,1,2,3,4,5,6,7,9]) Tryz.func153 (c := bodyOf Tryz.f153) (by kernel_rfl) (by kernel_rfl) fun args v h hw => ⟨100, ?_⟩
  unfold g_minusR at h
  split at h
  · rename_i x0 x1
    split at h
    · rename_i x y h0 h1
      have eh0 := rnum?_some h0
      subst eh0
      have eh1 := rnum?_some h1
      subst eh1
      rw [minusR_run]
      rw [show decide (minB0 x y ≤ 1) = true from bb_guard _ _ _, show decide (minB1 x y ≤ 1) = true from bb_guard _ _ _, show decide (minB2 x y ≤ 1) = true from bb_guard _ _ _]; exact h
    · cases h
  · cases h
def X_minusR : Cx := { X_primeR with O := addQ X_primeR.O 153 (val g_minusR) }
theorem X_minusR_ok : CxOK Tryz.prog X_minusR := { X_primeR_ok with quiet := addQ_ok X_primeR_ok.quiet minusR_at }
theorem belowR_run  (x : L4) : runQ X_minusR [0,1,2,3,4,12] 100 Tryz.f143 (bodyOf Tryz.f143) [rnumV x] = bif decide (minB x primeD = 1) then some (rnumV x) else some (rnumV (minD x primeD)) := by
  kernel_rfl
def g_belowR (args : List AV) : Option AV := match args with
  | [x0] => match rnum? x0 with
    | some x => some (rnumV (belowR x))
    | _ => none
  | _ => none
theorem belowR_at : QuietAt Tryz.prog 143 (val g_belowR) := by
  refine quietAt_of_run X_minusR_ok (keep := [0,1,2,3,4,12]) Tryz.func143 (c := bodyOf Tryz.f143) (by kernel_rfl) (by kernel_rfl) fun args v h hw => ⟨100, ?_⟩
  unfold g_belowR at h
  split at h
  · rename_i x0
    split at h
    · rename_i x h0
      have eh0 := rnum?_some h0
      subst eh0
      rw [belowR_run]
      rw [bif_some_eq]; exact h
    · cases h
  · cases h
def X_belowR : Cx := { X_minusR with O := addQ X_minusR.O 143 (val g_belowR) }
theorem X_belowR_ok : CxOK Tryz.prog X_belowR := { X_minusR_ok with quiet := addQ_ok X_minusR_ok.quiet belowR_at }
theorem settleR_run  (x : L4) (o : Nat) : runQ X_belowR [0,1,2,4,5,6,19] 100 Tryz.f136 (bodyOf Tryz.f136) [rnumV x, .u .u64 o] = some (rnumV (settleR x o)) := by
  kernel_rfl
def g_settleR (args : List AV) : Option AV := match args with
  | [x0, x1] => match rnum? x0, u64? x1 with
    | some x, some o => some (rnumV (settleR x o))
    | _, _ => none
  | _ => none
theorem settleR_at : QuietAt Tryz.prog 136 (val g_settleR) := by
  refine quietAt_of_run X_belowR_ok (keep := [0,1,2,4,5,6,19]) Tryz.func136 (c := bodyOf Tryz.f136) (by kernel_rfl) (by kernel_rfl) fun args v h hw => ⟨100, ?_⟩
  unfold g_settleR at h
  split at h
  · rename_i x0 x1
    split at h
    · rename_i x o h0 h1
      have eh0 := rnum?_some h0
      subst eh0
      have eh1 := u64?_some h1
      subst eh1
      rw [settleR_run]
      exact h
    · cases h
  · cases h
def X_settleR : Cx := { X_belowR with O := addQ X_belowR.O 136 (val g_settleR) }
theorem X_settleR_ok : CxOK Tryz.prog X_settleR := { X_belowR_ok with quiet := addQ_ok X_belowR_ok.quiet settleR_at }
theorem fromR_run  (k : K32) : runQ X_settleR [0,1,2,3,4,6] 100 Tryz.f89 (bodyOf Tryz.f89) [keyV k] = some (rnumV (fromR k)) := by
  kernel_rfl
def g_fromR (args : List AV) : Option AV := match args with
  | [x0] => match key? x0 with
    | some k => some (rnumV (fromR k))
    | _ => none
  | _ => none
theorem fromR_at : QuietAt Tryz.prog 89 (val g_fromR) := by
  refine quietAt_of_run X_settleR_ok (keep := [0,1,2,3,4,6]) Tryz.func89 (c := bodyOf Tryz.f89) (by kernel_rfl) (by kernel_rfl) fun args v h hw => ⟨100, ?_⟩
  unfold g_fromR at h
  split at h
  · rename_i x0
    split at h
    · rename_i k h0
      have eh0 := key?_some h0
      subst eh0
      rw [fromR_run]
      exact h
    · cases h
  · cases h
def X_fromR : Cx := { X_settleR with O := addQ X_settleR.O 89 (val g_fromR) }
theorem X_fromR_ok : CxOK Tryz.prog X_fromR := { X_settleR_ok with quiet := addQ_ok X_settleR_ok.quiet fromR_at }
theorem smallR_run  (n : Nat) : runQ X_fromR [0,2,3] 100 Tryz.f39 (bodyOf Tryz.f39) [.u .u64 n] = some (rnumV (smallR n)) := by
  kernel_rfl
def g_smallR (args : List AV) : Option AV := match args with
  | [x0] => match u64? x0 with
    | some n => some (rnumV (smallR n))
    | _ => none
  | _ => none
theorem smallR_at : QuietAt Tryz.prog 39 (val g_smallR) := by
  refine quietAt_of_run X_fromR_ok (keep := [0,2,3]) Tryz.func39 (c := bodyOf Tryz.f39) (by kernel_rfl) (by kernel_rfl) fun args v h hw => ⟨100, ?_⟩
  unfold g_smallR at h
  split at h
  · rename_i x0
    split at h
    · rename_i n h0
      have eh0 := u64?_some h0
      subst eh0
      rw [smallR_run]
      exact h
    · cases h
  · cases h
def X_smallR : Cx := { X_fromR with O := addQ X_fromR.O 39 (val g_smallR) }
theorem X_smallR_ok : CxOK Tryz.prog X_smallR := { X_fromR_ok with quiet := addQ_ok X_fromR_ok.quiet smallR_at }
theorem bytesR_run  (x : L4) : runQ X_smallR [0,1,2,3,4,6] 100 Tryz.f75 (bodyOf Tryz.f75) [rnumV x] = some (keyV (bytesR4 x)) := by
  kernel_rfl
def g_bytesR (args : List AV) : Option AV := match args with
  | [x0] => match rnum? x0 with
    | some x => some (keyV (bytesR4 x))
    | _ => none
  | _ => none
theorem bytesR_at : QuietAt Tryz.prog 75 (val g_bytesR) := by
  refine quietAt_of_run X_smallR_ok (keep := [0,1,2,3,4,6]) Tryz.func75 (c := bodyOf Tryz.f75) (by kernel_rfl) (by kernel_rfl) fun args v h hw => ⟨100, ?_⟩
  unfold g_bytesR at h
  split at h
  · rename_i x0
    split at h
    · rename_i x h0
      have eh0 := rnum?_some h0
      subst eh0
      rw [bytesR_run]
      exact h
    · cases h
  · cases h
def X_bytesR : Cx := { X_smallR with O := addQ X_smallR.O 75 (val g_bytesR) }
theorem X_bytesR_ok : CxOK Tryz.prog X_bytesR := { X_smallR_ok with quiet := addQ_ok X_smallR_ok.quiet bytesR_at }
theorem addR_run  (x : L4) (y : L4) : runQ X_bytesR [0,1,2,3,4,5,6,8] 100 Tryz.f82 (bodyOf Tryz.f82) [rnumV x, rnumV y] = bif decide (addC0 x y ≤ 1) then bif decide (addC1 x y ≤ 1) then bif decide (addC2 x y ≤ 1) then some (rnumV (addR x y)) else none else none else none := by
  kernel_rfl
def g_addR (args : List AV) : Option AV := match args with
  | [x0, x1] => match rnum? x0, rnum? x1 with
    | some x, some y => some (rnumV (addR x y))
    | _, _ => none
  | _ => none
theorem addR_at : QuietAt Tryz.prog 82 (val g_addR) := by
  refine quietAt_of_run X_bytesR_ok (keep := [0,1,2,3,4,5,6,8]) Tryz.func82 (c := bodyOf Tryz.f82) (by kernel_rfl) (by kernel_rfl) fun args v h hw => ⟨100, ?_⟩
  unfold g_addR at h
  split at h
  · rename_i x0 x1
    split at h
    · rename_i x y h0 h1
      have eh0 := rnum?_some h0
      subst eh0
      have eh1 := rnum?_some h1
      subst eh1
      rw [addR_run]
      rw [decide_eq_true (addC_le hw).1, decide_eq_true (addC_le hw).2.1, decide_eq_true (addC_le hw).2.2]; exact h
    · cases h
  · cases h
def X_addR : Cx := { X_bytesR with O := addQ X_bytesR.O 82 (val g_addR) }
theorem X_addR_ok : CxOK Tryz.prog X_addR := { X_bytesR_ok with quiet := addQ_ok X_bytesR_ok.quiet addR_at }
theorem negR_run  (x : L4) : runQ X_addR [0,1,2,3] 100 Tryz.f114 (bodyOf Tryz.f114) [rnumV x] = some (rnumV (negR x)) := by
  kernel_rfl
def g_negR (args : List AV) : Option AV := match args with
  | [x0] => match rnum? x0 with
    | some x => some (rnumV (negR x))
    | _ => none
  | _ => none
theorem negR_at : QuietAt Tryz.prog 114 (val g_negR) := by
  refine quietAt_of_run X_addR_ok (keep := [0,1,2,3]) Tryz.func114 (c := bodyOf Tryz.f114) (by kernel_rfl) (by kernel_rfl) fun args v h hw => ⟨100, ?_⟩
  unfold g_negR at h
  split at h
  · rename_i x0
    split at h
    · rename_i x h0
      have eh0 := rnum?_some h0
      subst eh0
      rw [negR_run]
      exact h
    · cases h
  · cases h
def X_negR : Cx := { X_addR with O := addQ X_addR.O 114 (val g_negR) }
theorem X_negR_ok : CxOK Tryz.prog X_negR := { X_addR_ok with quiet := addQ_ok X_addR_ok.quiet negR_at }
theorem subR_run  (x : L4) (y : L4) : runQ X_negR [0,1,2,3,4] 100 Tryz.f83 (bodyOf Tryz.f83) [rnumV x, rnumV y] = some (rnumV (subR x y)) := by
  kernel_rfl
def g_subR (args : List AV) : Option AV := match args with
  | [x0, x1] => match rnum? x0, rnum? x1 with
    | some x, some y => some (rnumV (subR x y))
    | _, _ => none
  | _ => none
theorem subR_at : QuietAt Tryz.prog 83 (val g_subR) := by
  refine quietAt_of_run X_negR_ok (keep := [0,1,2,3,4]) Tryz.func83 (c := bodyOf Tryz.f83) (by kernel_rfl) (by kernel_rfl) fun args v h hw => ⟨100, ?_⟩
  unfold g_subR at h
  split at h
  · rename_i x0 x1
    split at h
    · rename_i x y h0 h1
      have eh0 := rnum?_some h0
      subst eh0
      have eh1 := rnum?_some h1
      subst eh1
      rw [subR_run]
      exact h
    · cases h
  · cases h
def X_subR : Cx := { X_negR with O := addQ X_negR.O 83 (val g_subR) }
theorem X_subR_ok : CxOK Tryz.prog X_subR := { X_negR_ok with quiet := addQ_ok X_negR_ok.quiet subR_at }
theorem timesR0_run  (x : Nat) (y : Nat) (c : Nat) (d : Nat) : runQ X_subR [0,1,2,3,8,9,10,11,12] 100 Tryz.f135 (bodyOf Tryz.f135) [.u .u64 x, .u .u64 y, .u .u64 c, .u .u64 d] = some (.tup [.u .u64 (tmHi x y c d), .u .u64 (tmLo x y c d)]) := by
  kernel_rfl
def g_timesR0 (args : List AV) : Option AV := match args with
  | [x0, x1, x2, x3] => match u64? x0, u64? x1, u64? x2, u64? x3 with
    | some x, some y, some c, some d => some (.tup [.u .u64 (tmHi x y c d), .u .u64 (tmLo x y c d)])
    | _, _, _, _ => none
  | _ => none
theorem timesR0_at : QuietAt Tryz.prog 135 (val g_timesR0) := by
  refine quietAt_of_run X_subR_ok (keep := [0,1,2,3,8,9,10,11,12]) Tryz.func135 (c := bodyOf Tryz.f135) (by kernel_rfl) (by kernel_rfl) fun args v h hw => ⟨100, ?_⟩
  unfold g_timesR0 at h
  split at h
  · rename_i x0 x1 x2 x3
    split at h
    · rename_i x y c d h0 h1 h2 h3
      have eh0 := u64?_some h0
      subst eh0
      have eh1 := u64?_some h1
      subst eh1
      have eh2 := u64?_some h2
      subst eh2
      have eh3 := u64?_some h3
      subst eh3
      rw [timesR0_run]
      exact h
    · cases h
  · cases h
def X_timesR0 : Cx := { X_subR with O := addQ X_subR.O 135 (val g_timesR0) }
theorem X_timesR0_ok : CxOK Tryz.prog X_timesR0 := { X_subR_ok with quiet := addQ_ok X_subR_ok.quiet timesR0_at }
theorem mulR_run  (x : L4) (y : L4) : runQ X_timesR0 [0,1,2,3,4,5,6,7,8,9,10,11,13,17,47] 100 Tryz.f74 (bodyOf Tryz.f74) [rnumV x, rnumV y] = some (rnumV (mulR x y)) := by
  kernel_rfl
def g_mulR (args : List AV) : Option AV := match args with
  | [x0, x1] => match rnum? x0, rnum? x1 with
    | some x, some y => some (rnumV (mulR x y))
    | _, _ => none
  | _ => none
theorem mulR_at : QuietAt Tryz.prog 74 (val g_mulR) := by
  refine quietAt_of_run X_timesR0_ok (keep := [0,1,2,3,4,5,6,7,8,9,10,11,13,17,47]) Tryz.func74 (c := bodyOf Tryz.f74) (by kernel_rfl) (by kernel_rfl) fun args v h hw => ⟨100, ?_⟩
  unfold g_mulR at h
  split at h
  · rename_i x0 x1
    split at h
    · rename_i x y h0 h1
      have eh0 := rnum?_some h0
      subst eh0
      have eh1 := rnum?_some h1
      subst eh1
      rw [mulR_run]
      exact h
    · cases h
  · cases h
def X_mulR : Cx := { X_timesR0 with O := addQ X_timesR0.O 74 (val g_mulR) }
theorem X_mulR_ok : CxOK Tryz.prog X_mulR := { X_timesR0_ok with quiet := addQ_ok X_timesR0_ok.quiet mulR_at }
theorem sqR_run  (x : L4) : runQ X_mulR [0,1,2] 100 Tryz.f111 (bodyOf Tryz.f111) [rnumV x] = some (rnumV (mulR x x)) := by
  kernel_rfl
def g_sqR (args : List AV) : Option AV := match args with
  | [x0] => match rnum? x0 with
    | some x => some (rnumV (mulR x x))
    | _ => none
  | _ => none
theorem sqR_at : QuietAt Tryz.prog 111 (val g_sqR) := by
  refine quietAt_of_run X_mulR_ok (keep := [0,1,2]) Tryz.func111 (c := bodyOf Tryz.f111) (by kernel_rfl) (by kernel_rfl) fun args v h hw => ⟨100, ?_⟩
  unfold g_sqR at h
  split at h
  · rename_i x0
    split at h
    · rename_i x h0
      have eh0 := rnum?_some h0
      subst eh0
      rw [sqR_run]
      exact h
    · cases h
  · cases h
def X_sqR : Cx := { X_mulR with O := addQ X_mulR.O 111 (val g_sqR) }
theorem X_sqR_ok : CxOK Tryz.prog X_sqR := { X_mulR_ok with quiet := addQ_ok X_mulR_ok.quiet sqR_at }
theorem equalR_run  (x : L4) (y : L4) : runQ X_sqR [0,1,2,3,4,5,7,18] 100 Tryz.f86 (bodyOf Tryz.f86) [rnumV x, rnumV y] = bif !decide (x.a = y.a) then some (.bool false) else bif !decide (x.b = y.b) then some (.bool false) else bif !decide (x.c = y.c) then some (.bool false) else bif !decide (x.d = y.d) then some (.bool false) else some (.bool true) := by
  kernel_rfl
def g_equalR (args : List AV) : Option AV := match args with
  | [x0, x1] => match rnum? x0, rnum? x1 with
    | some x, some y => some (.bool (equalR x y))
    | _, _ => none
  | _ => none
theorem equalR_at : QuietAt Tryz.prog 86 (val g_equalR) := by
  refine quietAt_of_run X_sqR_ok (keep := [0,1,2,3,4,5,7,18]) Tryz.func86 (c := bodyOf Tryz.f86) (by kernel_rfl) (by kernel_rfl) fun args v h hw => ⟨100, ?_⟩
  unfold g_equalR at h
  split at h
  · rename_i x0 x1
    split at h
    · rename_i x y h0 h1
      have eh0 := rnum?_some h0
      subst eh0
      have eh1 := rnum?_some h1
      subst eh1
      rw [equalR_run]
      rw [bif_some_eq, bif_some_eq, bif_some_eq, bif_some_eq]; exact h
    · cases h
  · cases h
def X_equalR : Cx := { X_sqR with O := addQ X_sqR.O 86 (val g_equalR) }
theorem X_equalR_ok : CxOK Tryz.prog X_equalR := { X_sqR_ok with quiet := addQ_ok X_sqR_ok.quiet equalR_at }
theorem isZeroR_run  (x : L4) : runQ X_equalR [0,1,2] 100 Tryz.f107 (bodyOf Tryz.f107) [rnumV x] = some (.bool (isZeroR x)) := by
  kernel_rfl
def g_isZeroR (args : List AV) : Option AV := match args with
  | [x0] => match rnum? x0 with
    | some x => some (.bool (isZeroR x))
    | _ => none
  | _ => none
theorem isZeroR_at : QuietAt Tryz.prog 107 (val g_isZeroR) := by
  refine quietAt_of_run X_equalR_ok (keep := [0,1,2]) Tryz.func107 (c := bodyOf Tryz.f107) (by kernel_rfl) (by kernel_rfl) fun args v h hw => ⟨100, ?_⟩
  unfold g_isZeroR at h
  split at h
  · rename_i x0
    split at h
    · rename_i x h0
      have eh0 := rnum?_some h0
      subst eh0
      rw [isZeroR_run]
      exact h
    · cases h
  · cases h
def X_isZeroR : Cx := { X_equalR with O := addQ X_equalR.O 107 (val g_isZeroR) }
theorem X_isZeroR_ok : CxOK Tryz.prog X_isZeroR := { X_equalR_ok with quiet := addQ_ok X_equalR_ok.quiet isZeroR_at }
theorem oddR_run  (x : L4) : runQ X_isZeroR [0,1,2] 100 Tryz.f76 (bodyOf Tryz.f76) [rnumV x] = some (.bool (oddR x)) := by
  kernel_rfl
def g_oddR (args : List AV) : Option AV := match args with
  | [x0] => match rnum? x0 with
    | some x => some (.bool (oddR x))
    | _ => none
  | _ => none
theorem oddR_at : QuietAt Tryz.prog 76 (val g_oddR) := by
  refine quietAt_of_run X_isZeroR_ok (keep := [0,1,2]) Tryz.func76 (c := bodyOf Tryz.f76) (by kernel_rfl) (by kernel_rfl) fun args v h hw => ⟨100, ?_⟩
  unfold g_oddR at h
  split at h
  · rename_i x0
    split at h
    · rename_i x h0
      have eh0 := rnum?_some h0
      subst eh0
      rw [oddR_run]
      exact h
    · cases h
  · cases h
def X_oddR : Cx := { X_isZeroR with O := addQ X_isZeroR.O 76 (val g_oddR) }
theorem X_oddR_ok : CxOK Tryz.prog X_oddR := { X_isZeroR_ok with quiet := addQ_ok X_isZeroR_ok.quiet oddR_at }
end Go.Proofs.YtpmbfepkdjkheaaGreat

