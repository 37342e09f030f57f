/- EdwardsAll: what makes a point (printed by wip/tools/genib.py). -/
import Derived.Test.YtpmbfepkdjkheaaGreatIa
import Derived.Test.YtpmbfepkdjkheaaGreatPwMj
namespace Go.Proofs.YtpmbfepkdjkheaaGreat
open Go Pw Go.RowKit
structure OpE where
  kind : Int
  to : Int
  a : Int
  b : Int
  key : K32
  data : List Nat
  flag : Bool
  other : Int
def opC (q : OpE) (id len : Nat) : List AV := .n q.kind :: .n q.to :: .n q.a :: .n q.b :: (q.key.toList.map (AV.u .u8) ++ [.slice id 0 len false, .bool q.flag, .n q.other])
inductive N4 where
  | j0 | j1 | j2 | j3
noncomputable def r4 {α : Type} (x : N4) (f : N4 → α) : α := @N4.rec (fun _ => α) (f .j0) (f .j1) (f .j2) (f .j3) x
theorem r4_eq {α : Type} (x : N4) (f : N4 → α) : r4 x f = f x := by cases x <;> rfl
def N4.val : N4 → Int
  | .j0 => 0
  | .j1 => 1
  | .j2 => 2
  | .j3 => 3
structure V4 (α : Type) where
  a : α
  b : α
  c : α
  d : α
def V4.get {α : Type} (v : V4 α) : N4 → α
  | .j0 => v.a
  | .j1 => v.b
  | .j2 => v.c
  | .j3 => v.d
def V4.set {α : Type} (v : V4 α) (j : N4) (x : α) : V4 α := match j with
  | .j0 => ⟨x, v.b, v.c, v.d⟩
  | .j1 => ⟨v.a, x, v.c, v.d⟩
  | .j2 => ⟨v.a, v.b, x, v.d⟩
  | .j3 => ⟨v.a, v.b, v.c, x⟩
structure WE where
  p : V4 Rungs
  q : V4 Pt3
  s : V4 K32
  t : V4 (List Nat)
def v4C {α : Type} (f : α → AV) (v : V4 α) : List AV := (f v.a).cells ++ ((f v.b).cells ++ ((f v.c).cells ++ (f v.d).cells))
def wC (w : WE) : List AV := v4C rungsV w.p ++ (v4C pt3V w.q ++ (v4C keyV w.s ++ v4C d16V w.t))
def atN (i : Int) : N4 := if i % 4 = 0 then .j0 else if i % 4 = 1 then .j1 else if i % 4 = 2 then .j2 else .j3
theorem atN_val (i : Int) : (atN i).val = i % 4 := by
  unfold atN
  have h1 := Int.emod_nonneg i (show (4 : Int) ≠ 0 by decide)
  have h2 := Int.emod_lt_of_pos i (show (0 : Int) < 4 by decide)
  by_cases h : i % 4 = 0
  · rw [if_pos h, h]; rfl
  · rw [if_neg h]
    by_cases h' : i % 4 = 1
    · rw [if_pos h', h']; rfl
    · rw [if_neg h']
      by_cases h'' : i % 4 = 2
      · rw [if_pos h'', h'']; rfl
      · rw [if_neg h'']
        show (3 : Int) = _
        omega
theorem at_eq (i : Int) : brn (decide (i.tmod 4 < 0)) (some (AV.n (w64 (i.tmod 4 + 4)), (none : Option Blk))) (some (.n (i.tmod 4), none)) = some (.n (i % 4), none) := by
  rw [brn_eq]
  have h : i.tmod 4 = i % 4 ∧ 0 ≤ i.tmod 4 ∨ i.tmod 4 + 4 = i % 4 ∧ i.tmod 4 < 0 := by
    have h := Int.tmod_eq_emod (a := i) (b := 4)
    by_cases hp : 0 ≤ i ∨ (4 : Int) ∣ i
    · rw [if_pos hp] at h
      exact .inl (by omega)
    · rw [if_neg hp] at h
      refine .inr ?_
      simp only [Int.natAbs] at h
      omega
  by_cases hc : i.tmod 4 < 0
  · have : i.tmod 4 + 4 = i % 4 := by omega
    rw [decide_eq_true hc, cond_true, this, w64_id (by omega) (by omega)]
  · have : i.tmod 4 = i % 4 := by omega
    rw [decide_eq_false hc, cond_false, this]
theorem atL_run (A : AOps) (i : Int) : runNL (X_timesR3 A) [] [0,2,6] 200 Tryz.f9 (bodyOf Tryz.f9) (laArgs [.v (.n i)] 0) (laLists [.v (.n i)]) = brn (decide (i.tmod 4 < 0)) (some (AV.n (w64 (i.tmod 4 + 4)), none)) (some (.n (i.tmod 4), none)) := by
  kernel_rfl
def g_atL (_ : AOps) (args : List LA) : Option (AV × Option Blk) := match args with
  | [.v x0] => (match int? x0 with
    | some i => some (.n (i % 4), none)
    | _ => none)
  | _ => none
theorem atL_at : QuietAt Tryz.prog 9 (lav (g_atL concA)) := by
  refine quietAt_of_runA X_timesR3_ok (L := []) (keep := [0,2,6]) Tryz.func9 (c := bodyOf Tryz.f9) (by kernel_rfl) (by kernel_rfl) (LoopsOK.nil) fun args v h hw => ⟨200, ?_⟩
  unfold g_atL at h
  split at h
  · rename_i x0
    split at h
    · rename_i i hh0
      have ehh0 := int?_some hh0
      subst ehh0
      rw [← h]
      refine (atL_run concA i).trans ?_
      exact at_eq i
    · cases h
  · cases h
noncomputable def X_atL (A : AOps) : Cx := { X_timesR3 A with O := addQ (X_timesR3 A).O 9 (lav (g_atL A)) }
theorem X_atL_ok : CxOK Tryz.prog (X_atL concA) := { X_timesR3_ok with quiet := addQ_ok X_timesR3_ok.quiet atL_at }
noncomputable def gAt (t : Int → N4) : List AV → Mem → ∀ {ρ : Type}, (AV → Option Blk → Option ρ) → Option ρ := fun args _ _ K => match args with
  | [.n i] => r4 (t i) fun j => K (.n j.val) none
  | _ => none
theorem at_at : QuietAt Tryz.prog 9 (gAt atN) := by
  intro args mem ρ K r hg
  refine atL_at args mem ρ K r ?_
  unfold gAt at hg
  split at hg
  · rename_i i
    rw [r4_eq, atN_val] at hg
    exact hg
  · cases hg
noncomputable def X_at (A : AOps) (t : Int → N4) : Cx := { X_atL A with O := addQ (X_atL A).O 9 (gAt t) }
theorem X_at_ok : CxOK Tryz.prog (X_at concA atN) := { X_atL_ok with quiet := addQ_ok X_atL_ok.quiet at_at }
/-! ### points, piece by piece -/
noncomputable abbrev epF : Func := Tryz.f10
noncomputable abbrev epB : Code := bodyOf epF
def sq1 : Code → Code
  | .seq x _ => x
  | c => c
def sq2 : Code → Code
  | .seq _ y => y
  | c => c
noncomputable def ep0 : Code := sq1 epB
noncomputable def ep1 : Code := sq1 (sq2 epB)
noncomputable def ep2 : Code := sq1 (sq2 (sq2 epB))
noncomputable def ep3 : Code := sq1 (sq2 (sq2 (sq2 epB)))
noncomputable def ep4 : Code := sq1 (sq2 (sq2 (sq2 (sq2 epB))))
noncomputable def ep5 : Code := sq2 (sq2 (sq2 (sq2 (sq2 epB))))
theorem epB_eq : epB = .seq ep0 (.seq ep1 (.seq ep2 (.seq ep3 (.seq ep4 ep5)))) := by kernel_rfl
def pe (l : Env) : Env := prune l [0,1,3,4,5,6,7,8,9,10,11,12,13,14,15,16,17,18,19,20,43,44,63,86,114,142,158,174,203,231]
def pbs (q : OpE) (len : Nat) : Env := [(0, .ptr 0 0), (1, .agg (opC q 1 len)), (3, .ptr 2 0), (4, .bool false)]
def pat (to a b : N4) : Env := [(6, .n to.val), (7, .n a.val), (8, .n b.val)]
def pxy : Env := [(9, .ptr 3 0), (10, .ptr 4 0)]
def pM (w : WE) (q : OpE) (len : Nat) (tl : Mem) : Mem := ⟨.cells (wC w), true⟩ :: ⟨.bytes q.data, false⟩ :: ⟨.cells (opC q 1 len), true⟩ :: tl
def pXY (x : Rungs) (y : Pt3) (tl : Mem) : Mem := ⟨.cells (rungsV x).cells, true⟩ :: ⟨.cells (pt3V y).cells, true⟩ :: tl
theorem ep0_h (A : AOps) (t : Int → N4) (w : WE) (q : OpE) (len : Nat) {ρ : Type} (K : Ex → Env → Mem → Option ρ) : codeK (X_at A t) [] epF.ntmps [0,1,3,4,5,6,7,8,9,10,11,12,13,14,15,16,17,18,19,20,43,44,63,86,114,142,158,174,203,231] 299 ep0 (argsEnv [.ptr 0 0, .agg (opC q 1 len)] 0) [⟨.cells (wC w), true⟩, ⟨.bytes q.data, false⟩] K =
  K .normal (pe (pbs q len ++ [(5, .bool false)])) (pM w q len []) := by kernel_rfl
theorem ep1_h (A : AOps) (t : Int → N4) (w : WE) (q : OpE) (len : Nat) {ρ : Type} (K : Ex → Env → Mem → Option ρ) : codeK (X_at A t) [] epF.ntmps [0,1,3,4,5,6,7,8,9,10,11,12,13,14,15,16,17,18,19,20,43,44,63,86,114,142,158,174,203,231] 298 ep1 (pe (pbs q len ++ [(5, .bool false)])) (pM w q len []) K =
  r4 (t q.to) fun to => r4 (t q.a) fun a => r4 (t q.b) fun b => K .normal (pe (pbs q len ++ (pat to a b ++ [(5, .bool false)]))) (pM w q len []) := by kernel_rfl
theorem ep2_h (A : AOps) (t : Int → N4) (w : WE) (q : OpE) (len : Nat) (to b : N4) {ρ : Type} (K : Ex → Env → Mem → Option ρ) : ∀ a, codeK (X_at A t) [] epF.ntmps [0,1,3,4,5,6,7,8,9,10,11,12,13,14,15,16,17,18,19,20,43,44,63,86,114,142,158,174,203,231] 297 ep2 (pe (pbs q len ++ (pat to a b ++ [(5, .bool false)]))) (pM w q len []) K =
  K .normal (pe (pbs q len ++ (pat to a b ++ (pxy ++ [(5, .bool false)])))) (pM w q len (pXY (w.p.get a) (w.q.get a) []))
  | .j0 => by kernel_rfl
  | .j1 => by kernel_rfl
  | .j2 => by kernel_rfl
  | .j3 => by kernel_rfl
theorem ep3_h (A : AOps) (t : Int → N4) (q : OpE) (len : Nat) (to a b : N4) (M : Mem) {ρ : Type} (K : Ex → Env → Mem → Option ρ) : codeK (X_at A t) [] epF.ntmps [0,1,3,4,5,6,7,8,9,10,11,12,13,14,15,16,17,18,19,20,43,44,63,86,114,142,158,174,203,231] 296 ep3 (pe (pbs q len ++ (pat to a b ++ (pxy ++ [(5, .bool false)])))) M K =
  K .normal (pe (pbs q len ++ (pat to a b ++ (pxy ++ [(5, .bool true)])))) M := by kernel_rfl
def pR0 (A : AOps) (q : OpE) (_ : Nat) : Env := [(11, .ptr 5 0), (12, .n (A.e.parse q.key).2), (13, .ptr 6 0), (14, .n (A.e.rparse q.key).2)] ++ [(43, .n q.kind), (44, .bool (decide (q.kind = 0)))]
def pR1 (A : AOps) (q : OpE) (_ : Nat) : Env := [(15, .ptr 5 0), (16, .n (A.e.lift q.key q.flag).2), (17, .ptr 6 0), (18, .n (A.e.rlift q.key q.flag).2)] ++ [(43, .n q.kind), (63, .bool (decide (q.kind = 1))), (44, .bool (decide (q.kind = 0)))]
def pR2 (_ : AOps) (q : OpE) (_ : Nat) : Env := [] ++ [(43, .n q.kind), (86, .bool (decide (q.kind = 2))), (63, .bool (decide (q.kind = 1))), (44, .bool (decide (q.kind = 0)))]
def pR3 (_ : AOps) (q : OpE) (_ : Nat) : Env := [] ++ [(43, .n q.kind), (114, .bool (decide (q.kind = 3))), (86, .bool (decide (q.kind = 2))), (63, .bool (decide (q.kind = 1))), (44, .bool (decide (q.kind = 0)))]
def pR4 (_ : AOps) (q : OpE) (_ : Nat) : Env := [] ++ [(43, .n q.kind), (142, .bool (decide (q.kind = 4))), (114, .bool (decide (q.kind = 3))), (86, .bool (decide (q.kind = 2))), (63, .bool (decide (q.kind = 1))), (44, .bool (decide (q.kind = 0)))]
def pR5 (_ : AOps) (q : OpE) (_ : Nat) : Env := [] ++ [(43, .n q.kind), (158, .bool (decide (q.kind = 5))), (142, .bool (decide (q.kind = 4))), (114, .bool (decide (q.kind = 3))), (86, .bool (decide (q.kind = 2))), (63, .bool (decide (q.kind = 1))), (44, .bool (decide (q.kind = 0)))]
def pR6 (_ : AOps) (q : OpE) (len : Nat) : Env := [(19, .slice 7 0 len true), (20, .slice 7 0 (len + 32) true)] ++ [(43, .n q.kind), (174, .bool (decide (q.kind = 6))), (158, .bool (decide (q.kind = 5))), (142, .bool (decide (q.kind = 4))), (114, .bool (decide (q.kind = 3))), (86, .bool (decide (q.kind = 2))), (63, .bool (decide (q.kind = 1))), (44, .bool (decide (q.kind = 0)))]
def pR7 (_ : AOps) (q : OpE) (_ : Nat) : Env := [] ++ [(43, .n q.kind), (203, .bool (decide (q.kind = 7))), (174, .bool (decide (q.kind = 6))), (158, .bool (decide (q.kind = 5))), (142, .bool (decide (q.kind = 4))), (114, .bool (decide (q.kind = 3))), (86, .bool (decide (q.kind = 2))), (63, .bool (decide (q.kind = 1))), (44, .bool (decide (q.kind = 0)))]
def pR8 (_ : AOps) (q : OpE) (_ : Nat) : Env := [] ++ [(43, .n q.kind), (231, .bool (decide (q.kind = 8))), (203, .bool (decide (q.kind = 7))), (174, .bool (decide (q.kind = 6))), (158, .bool (decide (q.kind = 5))), (142, .bool (decide (q.kind = 4))), (114, .bool (decide (q.kind = 3))), (86, .bool (decide (q.kind = 2))), (63, .bool (decide (q.kind = 1))), (44, .bool (decide (q.kind = 0)))]
def pR9 (q : OpE) : Env := [(43, .n q.kind), (231, .bool (decide (q.kind = 8))), (203, .bool (decide (q.kind = 7))), (174, .bool (decide (q.kind = 6))), (158, .bool (decide (q.kind = 5))), (142, .bool (decide (q.kind = 4))), (114, .bool (decide (q.kind = 3))), (86, .bool (decide (q.kind = 2))), (63, .bool (decide (q.kind = 1))), (44, .bool (decide (q.kind = 0)))]
def pe4 (q : OpE) (len : Nat) (to a b : N4) (right : Bool) (rest : Env) : Env := pe (pbs q len ++ (pat to a b ++ (pxy ++ ((5, .bool right) :: rest))))
def ptG (q : OpE) (len : Nat) : List Bool := [decide (len = q.data.length ∧ len + 32 ≤ maxRoom), decide (0 + len ≤ (q.data ++ marks 32).length), decide ((List.take len (List.drop 0 (q.data ++ marks 32))).length < 4611686018427387904), decide (0 + len ≤ q.data.length), decide ((List.take len (List.drop 0 q.data)).length < 4611686018427387904), decide (0 + (len + 32) ≤ (q.data ++ marks 32).length), decide (0 + len ≤ q.data.length), keptOk (List.take (len + 32) (List.drop 0 (q.data ++ marks 32))) (List.take len (List.drop 0 q.data))]
noncomputable def ep4_p (A : AOps) (t : Int → N4) (w : WE) (q : OpE) (len : Nat) (to a b : N4) : Prop := ∀ {ρ : Type} (K : Ex → Env → Mem → Option ρ), codeK (X_at A t) [] epF.ntmps [0,1,3,4,5,6,7,8,9,10,11,12,13,14,15,16,17,18,19,20,43,44,63,86,114,142,158,174,203,231] 295 ep4 (pe (pbs q len ++ (pat to a b ++ (pxy ++ [(5, .bool true)])))) (pM w q len (pXY (w.p.get a) (w.q.get a) [])) K =
  brn (decide (q.kind = 0)) (K .normal (pe4 q len to a b (decide ((A.e.parse q.key).2 = (A.e.rparse q.key).2)) (pR0 A q len)) (pM w q len (pXY ((A.e.parse q.key).1) ((A.e.rparse q.key).1) [⟨.cells (rungsV (A.e.parse q.key).1).cells, true⟩, ⟨.cells (pt3V (A.e.rparse q.key).1).cells, true⟩])))
    (brn (decide (q.kind = 1)) (K .normal (pe4 q len to a b (decide ((A.e.lift q.key q.flag).2 = (A.e.rlift q.key q.flag).2)) (pR1 A q len)) (pM w q len (pXY ((A.e.lift q.key q.flag).1) ((A.e.rlift q.key q.flag).1) [⟨.cells (rungsV (A.e.lift q.key q.flag).1).cells, true⟩, ⟨.cells (pt3V (A.e.rlift q.key q.flag).1).cells, true⟩])))
    (brn (decide (q.kind = 2)) (K .normal (pe4 q len to a b (true) (pR2 A q len)) (pM w q len (pXY (A.e.padd (w.p.get a) (w.p.get b)) (A.e.radd (w.q.get a) (w.q.get b)) [])))
    (brn (decide (q.kind = 3)) (K .normal (pe4 q len to a b (true) (pR3 A q len)) (pM w q len (pXY (A.e.psub (w.p.get a) (w.p.get b)) (A.e.rsub (w.q.get a) (w.q.get b)) [])))
    (brn (decide (q.kind = 4)) (K .normal (pe4 q len to a b (true) (pR4 A q len)) (pM w q len (pXY (A.e.pneg (w.p.get a)) (A.e.rneg (w.q.get a)) [])))
    (brn (decide (q.kind = 5)) (K .normal (pe4 q len to a b (true) (pR5 A q len)) (pM w q len (pXY (A.e.dbl (w.p.get a)) (A.e.rdbl (w.q.get a)) [])))
    (brn (decide (q.kind = 6)) (gds (ptG q len) (K .normal (pe4 q len to a b (true) (pR6 A q len)) (pM w q len (pXY (A.e.scale (w.p.get a) (List.take len (List.drop 0 (q.data ++ marks 32)))) (A.e.rscale (w.q.get a) (List.take len (List.drop 0 q.data))) [Pw.dead, Pw.dead, ⟨.bytes (q.data ++ marks 32), true⟩]))))
    (brn (decide (q.kind = 7)) (K .normal (pe4 q len to a b (true) (pR7 A q len)) (pM w q len (pXY (A.e.times (w.p.get a) (w.s.get b)) (A.e.rscale (w.q.get a) (A.rby (resp 16 (resp 16 (w.t.get b)))).toList) [])))
    (brn (decide (q.kind = 8)) (K .normal (pe4 q len to a b (true) (pR8 A q len)) (pM w q len (pXY (A.e.base) (A.e.rbase) [])))
    (K .ret (pe4 q len to a b true (pR9 q)) (pM w q len (pXY (w.p.get a) (w.q.get a) [])))))))))))
noncomputable def epS (w : WE) (to : N4) (x : Rungs) (y : Pt3) : WE := ⟨w.p.set to x, w.q.set to y, w.s, w.t⟩
theorem ep5_h (A : AOps) (t : Int → N4) (w : WE) (q : OpE) (len : Nat) (a b : N4) (right : Bool) (rest : Env) (x : Rungs) (y : Pt3) (tl : Mem) {ρ : Type} (K : Ex → Env → Mem → Option ρ) : ∀ to, codeK (X_at A t) [] epF.ntmps [0,1,3,4,5,6,7,8,9,10,11,12,13,14,15,16,17,18,19,20,43,44,63,86,114,142,158,174,203,231] 295 ep5 (pe4 q len to a b right rest) (pM w q len (pXY x y tl)) K =
  K .ret (pe ((4, .bool true) :: (pbs q len ++ (pat to a b ++ (pxy ++ ((5, .bool right) :: rest)))))) (pM (epS w to x y) q len (pXY x y tl))
  | .j0 => by kernel_rfl
  | .j1 => by kernel_rfl
  | .j2 => by kernel_rfl
  | .j3 => by kernel_rfl
theorem epR1 (A : AOps) (t : Int → N4) (q : OpE) (len : Nat) (to a b : N4) (right : Bool) (rest : Env) (M : Mem) {ρ : Type} (K : AV → Mem → Option ρ) : retC (X_at A t) epF.results.toList K .ret (pe ((4, .bool true) :: (pbs q len ++ (pat to a b ++ (pxy ++ ((5, .bool right) :: rest)))))) M = K (.tup [.bool true, .bool right]) M := by kernel_rfl
theorem epR0 (A : AOps) (t : Int → N4) (q : OpE) (len : Nat) (to a b : N4) (right : Bool) (rest : Env) (M : Mem) {ρ : Type} (K : AV → Mem → Option ρ) : retC (X_at A t) epF.results.toList K .ret (pe4 q len to a b right rest) M = K (.tup [.bool false, .bool right]) M := by kernel_rfl
end Go.Proofs.YtpmbfepkdjkheaaGreat

