/- Contracts of the field's functions, by the evaluator (1). -/
import Derived.Test.YtpmbfepkdjkheaaGreatTab
import Derived.Test.YtpmbfepkdjkheaaGreatPwMd
import Derived.Laws.Externs
namespace Go.Proofs.YtpmbfepkdjkheaaGreat
open Go Pw Go.RowKit
def bodyOf (f : Func) : Code := match f.body with | some c => c | none => .skip

/-- math/bits.Add64 -/
def gAdd64 : List AV → Mem → ∀ {ρ : Type}, (AV → Option Blk → Option ρ) → Option ρ := fun args _ _ K => match args with
  | [.u .u64 x, .u .u64 y, .u .u64 c] => bif decide (c ≤ 1) then K (.tup [.u .u64 ((x + y + c) % 18446744073709551616), .u .u64 ((x + y + c) / 18446744073709551616)]) none else none
  | _ => none

theorem add64_find : Extern.find Tryz.f142 = some add64Entry := by kernel_rfl
theorem add64_next : (Extern.findNext Tryz.f142).isNone = true := by kernel_rfl

theorem RL.three {σ : Ren} {a b c : AV} {real : Array Value} (h : RL σ [a, b, c] real.toList) : ∃ x y z, real = #[x, y, z] ∧ R σ a x ∧ R σ b y ∧ R σ c z := by
  generalize hl : real.toList = l at h
  cases h with | cons _ x _ _ h1 h =>
  cases h with | cons _ y _ _ h2 h =>
  cases h with | cons _ z _ _ h3 h =>
  cases h
  exact ⟨x, y, z, Array.ext' (by simpa using hl), h1, h2, h3⟩

set_option maxRecDepth 100000 in
theorem add64_at : QuietAt Tryz.prog 142 gAdd64 := by
  intro args mem ρ K r h
  unfold gAdd64 at h
  split at h
  · rename_i x y c
    obtain ⟨hc, h⟩ := bif_some h
    have hc := of_decide_eq_true hc
    refine ⟨_, _, h, fun σ w real hr _ _ => ?_⟩
    obtain ⟨vx, vy, vc, rfl, h1, h2, h3⟩ := RL.three hr
    cases h1 with | u _ _ _ b1 =>
    cases h2 with | u _ _ _ b2 =>
    cases h3 with | u _ _ _ b3 =>
    simp only [IntKind.bits] at b1 b2 b3
    have hrun := run_callFunc_extern (P := Tryz.prog) (f := 142) (fn := Tryz.f142) Tryz.func142 (by kernel_rfl) (by kernel_rfl) (by simpa using add64_next) add64_find
      #[.int .u64 (x : Int), .int .u64 (y : Int), .int .u64 (c : Int)] w
    rw [run_add64 _ _ _ (by omega) (by omega) (by omega) (by omega)] at hrun
    unfold CallTo
    rw [hrun]
    simp only [Result.andThen_ok]
    refine ⟨Below.refl _ _, .tup _ _ (.cons _ _ _ _ ?_ (.cons _ _ _ _ ?_ .nil))⟩
    · rw [show ((x : Int) + y + c) % 18446744073709551616 = (((x + y + c) % 18446744073709551616 : Nat) : Int) from by omega]
      exact .u _ _ rfl (by simp only [IntKind.bits]; omega)
    · rw [show ((x : Int) + y + c) / 18446744073709551616 = (((x + y + c) / 18446744073709551616 : Nat) : Int) from by omega]
      exact .u _ _ rfl (by simp only [IntKind.bits]; omega)
  · cases h

def X0 : Cx := ⟨T, addQ noQ 142 gAdd64, noM⟩
theorem X0_ok : CxOK Tryz.prog X0 := ⟨mix, T_ok, addQ_ok noQ_ok add64_at, noM_ok⟩

theorem mul2_run  (x : Nat) (y : Nat) : runQ X0 [0,1,4,5,6,7,8,9,10,11,12,13] 100 Tryz.f157 (bodyOf Tryz.f157) [.u .u64 x, .u .u64 y] = some (mul2V x y) := by
  kernel_rfl
def g_mul2 (args : List AV) : Option AV := match args with
  | [x0, x1] => match u64? x0, u64? x1 with
    | some x, some y => some (mul2V x y)
    | _, _ => none
  | _ => none
theorem mul2_at : QuietAt Tryz.prog 157 (val g_mul2) := by
  refine quietAt_of_run X0_ok (keep := [0,1,4,5,6,7,8,9,10,11,12,13]) Tryz.func157 (c := bodyOf Tryz.f157) (by kernel_rfl) (by kernel_rfl) fun args v h hw => ⟨100, ?_⟩
  unfold g_mul2 at h
  split at h
  · rename_i x0 x1
    split at h
    · rename_i x y h0 h1
      have eh0 := u64?_some h0
      subst eh0
      have eh1 := u64?_some h1
      subst eh1
      rw [mul2_run]
      exact h
    · cases h
  · cases h
def X_mul2 : Cx := { X0 with O := addQ X0.O 157 (val g_mul2) }
theorem X_mul2_ok : CxOK Tryz.prog X_mul2 := { X0_ok with quiet := addQ_ok X0_ok.quiet mul2_at }
theorem carried_run  (a : Nat) (b : Nat) (c : Nat) (d : Nat) (e : Nat) : runQ X_mul2 [0,1,2,3,4,10] 100 Tryz.f137 (bodyOf Tryz.f137) [.u .u64 a, .u .u64 b, .u .u64 c, .u .u64 d, .u .u64 e] = some (numV (carried a b c d e)) := by
  kernel_rfl
def g_carried (args : List AV) : Option AV := match args with
  | [x0, x1, x2, x3, x4] => match u64? x0, u64? x1, u64? x2, u64? x3, u64? x4 with
    | some a, some b, some c, some d, some e => some (numV (carried a b c d e))
    | _, _, _, _, _ => none
  | _ => none
theorem carried_at : QuietAt Tryz.prog 137 (val g_carried) := by
  refine quietAt_of_run X_mul2_ok (keep := [0,1,2,3,4,10]) Tryz.func137 (c := bodyOf Tryz.f137) (by kernel_rfl) (by kernel_rfl) fun args v h hw => ⟨100, ?_⟩
  unfold g_carried at h
  split at h
  · rename_i x0 x1 x2 x3 x4
    split at h
    · rename_i a b c d e h0 h1 h2 h3 h4
      have eh0 := u64?_some h0
      subst eh0
      have eh1 := u64?_some h1
      subst eh1
      have eh2 := u64?_some h2
      subst eh2
      have eh3 := u64?_some h3
      subst eh3
      have eh4 := u64?_some h4
      subst eh4
      rw [carried_run]
      exact h
    · cases h
  · cases h
def X_carried : Cx := { X_mul2 with O := addQ X_mul2.O 137 (val g_carried) }
theorem X_carried_ok : CxOK Tryz.prog X_carried := { X_mul2_ok with quiet := addQ_ok X_mul2_ok.quiet carried_at }
theorem over_run  (s : W2) : runQ X_carried [0,1,2] 100 Tryz.f139 (bodyOf Tryz.f139) [wideV s] = some (.u .u64 (overS s)) := by
  kernel_rfl
def g_over (args : List AV) : Option AV := match args with
  | [x0] => match wide? x0 with
    | some s => some (.u .u64 (overS s))
    | _ => none
  | _ => none
theorem over_at : QuietAt Tryz.prog 139 (val g_over) := by
  refine quietAt_of_run X_carried_ok (keep := [0,1,2]) Tryz.func139 (c := bodyOf Tryz.f139) (by kernel_rfl) (by kernel_rfl) fun args v h hw => ⟨100, ?_⟩
  unfold g_over at h
  split at h
  · rename_i x0
    split at h
    · rename_i s h0
      have eh0 := wide?_some h0
      subst eh0
      rw [over_run]
      exact h
    · cases h
  · cases h
def X_over : Cx := { X_carried with O := addQ X_carried.O 139 (val g_over) }
theorem X_over_ok : CxOK Tryz.prog X_over := { X_carried_ok with quiet := addQ_ok X_carried_ok.quiet over_at }
theorem plus_run  (s : W2) (a : Nat) (b : Nat) : runQ X_over [0,1,2,3,6,7,8,9] 100 Tryz.f138 (bodyOf Tryz.f138) [wideV s, .u .u64 a, .u .u64 b] = bif decide ((s.lo + mul64 a b + 0) / 18446744073709551616 ≤ 1) then some (wideV (plusS s a b)) else none := by
  kernel_rfl
def g_plus (args : List AV) : Option AV := match args with
  | [x0, x1, x2] => match wide? x0, u64? x1, u64? x2 with
    | some s, some a, some b => some (wideV (plusS s a b))
    | _, _, _ => none
  | _ => none
theorem plus_at : QuietAt Tryz.prog 138 (val g_plus) := by
  refine quietAt_of_run X_over_ok (keep := [0,1,2,3,6,7,8,9]) Tryz.func138 (c := bodyOf Tryz.f138) (by kernel_rfl) (by kernel_rfl) fun args v h hw => ⟨100, ?_⟩
  unfold g_plus at h
  split at h
  · rename_i x0 x1 x2
    split at h
    · rename_i s a b h0 h1 h2
      have eh0 := wide?_some h0
      subst eh0
      have eh1 := u64?_some h1
      subst eh1
      have eh2 := u64?_some h2
      subst eh2
      rw [plus_run]
      rw [plus_guard hw.cons.1.wide, cond_true]; exact h
    · cases h
  · cases h
def X_plus : Cx := { X_over with O := addQ X_over.O 138 (val g_plus) }
theorem X_plus_ok : CxOK Tryz.prog X_plus := { X_over_ok with quiet := addQ_ok X_over_ok.quiet plus_at }
theorem settledF_run  (x : L5) : runQ X_plus [0,1,2] 100 Tryz.f148 (bodyOf Tryz.f148) [numV x] = some (numV (settledS x)) := by
  kernel_rfl
def g_settledF (args : List AV) : Option AV := match args with
  | [x0] => match num? x0 with
    | some x => some (numV (settledS x))
    | _ => none
  | _ => none
theorem settledF_at : QuietAt Tryz.prog 148 (val g_settledF) := by
  refine quietAt_of_run X_plus_ok (keep := [0,1,2]) Tryz.func148 (c := bodyOf Tryz.f148) (by kernel_rfl) (by kernel_rfl) fun args v h hw => ⟨100, ?_⟩
  unfold g_settledF at h
  split at h
  · rename_i x0
    split at h
    · rename_i x h0
      have eh0 := num?_some h0
      subst eh0
      rw [settledF_run]
      exact h
    · cases h
  · cases h
def X_settledF : Cx := { X_plus with O := addQ X_plus.O 148 (val g_settledF) }
theorem X_settledF_ok : CxOK Tryz.prog X_settledF := { X_plus_ok with quiet := addQ_ok X_plus_ok.quiet settledF_at }
theorem addF_run  (x : L5) (y : L5) : runQ X_settledF [0,1,2,3,4] 100 Tryz.f78 (bodyOf Tryz.f78) [numV x, numV y] = some (numV (addS x y)) := by
  kernel_rfl
def g_addF (args : List AV) : Option AV := match args with
  | [x0, x1] => match num? x0, num? x1 with
    | some x, some y => some (numV (addS x y))
    | _, _ => none
  | _ => none
theorem addF_at : QuietAt Tryz.prog 78 (val g_addF) := by
  refine quietAt_of_run X_settledF_ok (keep := [0,1,2,3,4]) Tryz.func78 (c := bodyOf Tryz.f78) (by kernel_rfl) (by kernel_rfl) fun args v h hw => ⟨100, ?_⟩
  unfold g_addF at h
  split at h
  · rename_i x0 x1
    split at h
    · rename_i x y h0 h1
      have eh0 := num?_some h0
      subst eh0
      have eh1 := num?_some h1
      subst eh1
      rw [addF_run]
      exact h
    · cases h
  · cases h
def X_addF : Cx := { X_settledF with O := addQ X_settledF.O 78 (val g_addF) }
theorem X_addF_ok : CxOK Tryz.prog X_addF := { X_settledF_ok with quiet := addQ_ok X_settledF_ok.quiet addF_at }
theorem subF_run  (x : L5) (y : L5) : runQ X_addF [0,1,2,3,4] 100 Tryz.f80 (bodyOf Tryz.f80) [numV x, numV y] = some (numV (subS x y)) := by
  kernel_rfl
def g_subF (args : List AV) : Option AV := match args with
  | [x0, x1] => match num? x0, num? x1 with
    | some x, some y => some (numV (subS x y))
    | _, _ => none
  | _ => none
theorem subF_at : QuietAt Tryz.prog 80 (val g_subF) := by
  refine quietAt_of_run X_addF_ok (keep := [0,1,2,3,4]) Tryz.func80 (c := bodyOf Tryz.f80) (by kernel_rfl) (by kernel_rfl) fun args v h hw => ⟨100, ?_⟩
  unfold g_subF at h
  split at h
  · rename_i x0 x1
    split at h
    · rename_i x y h0 h1
      have eh0 := num?_some h0
      subst eh0
      have eh1 := num?_some h1
      subst eh1
      rw [subF_run]
      exact h
    · cases h
  · cases h
def X_subF : Cx := { X_addF with O := addQ X_addF.O 80 (val g_subF) }
theorem X_subF_ok : CxOK Tryz.prog X_subF := { X_addF_ok with quiet := addQ_ok X_addF_ok.quiet subF_at }
theorem negF_run  (x : L5) : runQ X_subF [0,1,2] 100 Tryz.f113 (bodyOf Tryz.f113) [numV x] = some (numV (negS x)) := by
  kernel_rfl
def g_negF (args : List AV) : Option AV := match args with
  | [x0] => match num? x0 with
    | some x => some (numV (negS x))
    | _ => none
  | _ => none
theorem negF_at : QuietAt Tryz.prog 113 (val g_negF) := by
  refine quietAt_of_run X_subF_ok (keep := [0,1,2]) Tryz.func113 (c := bodyOf Tryz.f113) (by kernel_rfl) (by kernel_rfl) fun args v h hw => ⟨100, ?_⟩
  unfold g_negF at h
  split at h
  · rename_i x0
    split at h
    · rename_i x h0
      have eh0 := num?_some h0
      subst eh0
      rw [negF_run]
      exact h
    · cases h
  · cases h
def X_negF : Cx := { X_subF with O := addQ X_subF.O 113 (val g_negF) }
theorem X_negF_ok : CxOK Tryz.prog X_negF := { X_subF_ok with quiet := addQ_ok X_subF_ok.quiet negF_at }
theorem mulF_run  (x : L5) (y : L5) : runQ X_negF [0,1,2,3,4,5,6,7,8,9,10,11,12,13,14,15,16,17,18,19,20,21,22,23] 100 Tryz.f79 (bodyOf Tryz.f79) [numV x, numV y] = some (numV (mulS x y)) := by
  kernel_rfl
def g_mulF (args : List AV) : Option AV := match args with
  | [x0, x1] => match num? x0, num? x1 with
    | some x, some y => some (numV (mulS x y))
    | _, _ => none
  | _ => none
theorem mulF_at : QuietAt Tryz.prog 79 (val g_mulF) := by
  refine quietAt_of_run X_negF_ok (keep := [0,1,2,3,4,5,6,7,8,9,10,11,12,13,14,15,16,17,18,19,20,21,22,23]) Tryz.func79 (c := bodyOf Tryz.f79) (by kernel_rfl) (by kernel_rfl) fun args v h hw => ⟨100, ?_⟩
  unfold g_mulF at h
  split at h
  · rename_i x0 x1
    split at h
    · rename_i x y h0 h1
      have eh0 := num?_some h0
      subst eh0
      have eh1 := num?_some h1
      subst eh1
      rw [mulF_run]
      exact h
    · cases h
  · cases h
def X_mulF : Cx := { X_negF with O := addQ X_negF.O 79 (val g_mulF) }
theorem X_mulF_ok : CxOK Tryz.prog X_mulF := { X_negF_ok with quiet := addQ_ok X_negF_ok.quiet mulF_at }
theorem sqF_run  (x : L5) : runQ X_mulF [0,1,2,3,4,5,6,7,8,9,10,11,12,13,14,15,16] 100 Tryz.f150 (bodyOf Tryz.f150) [numV x] = some (numV (sqS x)) := by
  kernel_rfl
def g_sqF (args : List AV) : Option AV := match args with
  | [x0] => match num? x0 with
    | some x => some (numV (sqS x))
    | _ => none
  | _ => none
theorem sqF_at : QuietAt Tryz.prog 150 (val g_sqF) := by
  refine quietAt_of_run X_mulF_ok (keep := [0,1,2,3,4,5,6,7,8,9,10,11,12,13,14,15,16]) Tryz.func150 (c := bodyOf Tryz.f150) (by kernel_rfl) (by kernel_rfl) fun args v h hw => ⟨100, ?_⟩
  unfold g_sqF at h
  split at h
  · rename_i x0
    split at h
    · rename_i x h0
      have eh0 := num?_some h0
      subst eh0
      rw [sqF_run]
      exact h
    · cases h
  · cases h
def X_sqF : Cx := { X_mulF with O := addQ X_mulF.O 150 (val g_sqF) }
theorem X_sqF_ok : CxOK Tryz.prog X_sqF := { X_mulF_ok with quiet := addQ_ok X_mulF_ok.quiet sqF_at }
theorem timesF_run  (x : L5) (n : Nat) : runQ X_sqF [0,1,2,4,5,6,7,8,9,10] 100 Tryz.f110 (bodyOf Tryz.f110) [numV x, .u .u32 n] = some (numV (timesS x n)) := by
  kernel_rfl
def g_timesF (args : List AV) : Option AV := match args with
  | [x0, x1] => match num? x0, u32? x1 with
    | some x, some n => some (numV (timesS x n))
    | _, _ => none
  | _ => none
theorem timesF_at : QuietAt Tryz.prog 110 (val g_timesF) := by
  refine quietAt_of_run X_sqF_ok (keep := [0,1,2,4,5,6,7,8,9,10]) Tryz.func110 (c := bodyOf Tryz.f110) (by kernel_rfl) (by kernel_rfl) fun args v h hw => ⟨100, ?_⟩
  unfold g_timesF at h
  split at h
  · rename_i x0 x1
    split at h
    · rename_i x n h0 h1
      have eh0 := num?_some h0
      subst eh0
      have eh1 := u32?_some h1
      subst eh1
      rw [timesF_run]
      exact h
    · cases h
  · cases h
def X_timesF : Cx := { X_sqF with O := addQ X_sqF.O 110 (val g_timesF) }
theorem X_timesF_ok : CxOK Tryz.prog X_timesF := { X_sqF_ok with quiet := addQ_ok X_sqF_ok.quiet timesF_at }
theorem smallF_run  (n : Nat) : runQ X_timesF [0,2] 100 Tryz.f77 (bodyOf Tryz.f77) [.u .u64 n] = some (numV (smallS n)) := by
  kernel_rfl
def g_smallF (args : List AV) : Option AV := match args with
  | [x0] => match u64? x0 with
    | some n => some (numV (smallS n))
    | _ => none
  | _ => none
theorem smallF_at : QuietAt Tryz.prog 77 (val g_smallF) := by
  refine quietAt_of_run X_timesF_ok (keep := [0,2]) Tryz.func77 (c := bodyOf Tryz.f77) (by kernel_rfl) (by kernel_rfl) fun args v h hw => ⟨100, ?_⟩
  unfold g_smallF at h
  split at h
  · rename_i x0
    split at h
    · rename_i n h0
      have eh0 := u64?_some h0
      subst eh0
      rw [smallF_run]
      exact h
    · cases h
  · cases h
def X_smallF : Cx := { X_timesF with O := addQ X_timesF.O 77 (val g_smallF) }
theorem X_smallF_ok : CxOK Tryz.prog X_smallF := { X_timesF_ok with quiet := addQ_ok X_timesF_ok.quiet smallF_at }
end Go.Proofs.YtpmbfepkdjkheaaGreat

