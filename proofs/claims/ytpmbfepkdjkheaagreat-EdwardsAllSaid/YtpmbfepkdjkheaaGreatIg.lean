/- EdwardsAll: what makes a number, piece by piece (printed by wip/tools/genig.py). -/
import Derived.Test.YtpmbfepkdjkheaaGreatIb
namespace Go.Proofs.YtpmbfepkdjkheaaGreat
open Go Pw Go.RowKit
noncomputable abbrev enF : Func := Tryz.f11
noncomputable abbrev enB : Code := bodyOf enF
def cn1 : Code → Code
  | .cond _ x _ => x
  | c => c
def cn2 : Code → Code
  | .cond _ _ y => y
  | c => c
def cnO : Code → Operand
  | .cond o _ _ => o
  | _ => .tmp 0
def bk1 : Code → Code
  | .block _ x => x
  | c => c
noncomputable def en0 : Code := sq1 enB
noncomputable def en1 : Code := sq1 (sq2 enB)
noncomputable def en2 : Code := sq1 (sq1 (sq2 (sq2 enB)))
noncomputable def enK : Code := bk1 (sq2 (sq1 (sq2 (sq2 enB))))
noncomputable def en20 : Code := sq1 (sq2 (sq2 (sq2 enB)))
noncomputable def er3 : Code := sq1 enK
noncomputable def ec9 : Code := cn1 (sq2 enK)
noncomputable def er4 : Code := sq1 ec9
noncomputable def er5 : Code := sq1 (sq2 ec9)
noncomputable def er6 : Code := sq1 (sq2 (sq2 ec9))
noncomputable def ed9 : Code := cn2 (sq2 enK)
noncomputable def er7 : Code := sq1 ed9
noncomputable def ec10 : Code := cn1 (sq2 ed9)
noncomputable def er8 : Code := sq1 ec10
noncomputable def er9 : Code := sq1 (sq2 ec10)
noncomputable def er10 : Code := sq1 (sq2 (sq2 ec10))
noncomputable def er11 : Code := sq1 (sq2 (sq2 (sq2 ec10)))
noncomputable def ed10 : Code := cn2 (sq2 ed9)
noncomputable def er12 : Code := sq1 ed10
noncomputable def er13 : Code := cn1 (sq2 ed10)
noncomputable def ed11 : Code := cn2 (sq2 ed10)
noncomputable def er14 : Code := sq1 ed11
noncomputable def er15 : Code := cn1 (sq2 ed11)
noncomputable def ed12 : Code := cn2 (sq2 ed11)
noncomputable def er16 : Code := sq1 ed12
noncomputable def er17 : Code := cn1 (sq2 ed12)
noncomputable def ed13 : Code := cn2 (sq2 ed12)
noncomputable def er18 : Code := sq1 ed13
noncomputable def er19 : Code := cn1 (sq2 ed13)
theorem enB_eq : enB = .seq en0 (.seq en1 (.seq (.seq en2 (.block 0 (.seq er3 (.cond (.tmp 25) (.seq er4 (.seq er5 (.seq er6 .ret))) (.seq er7 (.cond (.tmp 52) (.seq er8 (.seq er9 (.seq er10 (.seq er11 .ret))))
  (.seq er12 (.cond (.tmp 81) er13 (.seq er14 (.cond (.tmp 119) er15 (.seq er16 (.cond (.tmp 157) er17 (.seq er18 (.cond (.tmp 195) er19 .skip)))))))))))))) (.seq en20 .ret))) := by kernel_rfl
def ne (l : Env) : Env := prune l [0,1,3,4,5,6,7,8,9,10,11,12,13,24,25,52,81,119,157,195]
def nbs (q : OpE) (len : Nat) : Env := [(0, .ptr 0 0), (1, .agg (opC q 1 len)), (3, .ptr 2 0)]
def nat3 (to a b : N4) : Env := [(5, .n to.val), (6, .n a.val), (7, .n b.val)]
def nE (q : OpE) (len : Nat) (to a b : N4) (rest : Env) : Env := ne (nbs q len ++ (nat3 to a b ++ rest))
def kd0 (q : OpE) : Env := [(24, .n q.kind), (4, .bool false)]
def kd1 (q : OpE) : Env := (25, .bool (decide (q.kind = 9))) :: kd0 q
def kd2 (q : OpE) : Env := (52, .bool (decide (q.kind = 10))) :: kd1 q
def kd3 (q : OpE) : Env := (81, .bool (decide (q.kind = 11))) :: kd2 q
def kd4 (q : OpE) : Env := (119, .bool (decide (q.kind = 12))) :: kd3 q
def kd5 (q : OpE) : Env := (157, .bool (decide (q.kind = 13))) :: kd4 q
def kd6 (q : OpE) : Env := (195, .bool (decide (q.kind = 14))) :: kd5 q
def enS (w : WE) (to : N4) (x : K32) (y : List Nat) : WE := ⟨w.p, w.q, w.s.set to x, w.t.set to y⟩
theorem en0_h (A : AOps) (t : Int → N4) (w : WE) (q : OpE) (len : Nat) {ρ : Type} (K : Ex → Env → Mem → Option ρ) : codeK (X_at A t) [] enF.ntmps [0,1,3,4,5,6,7,8,9,10,11,12,13,24,25,52,81,119,157,195] 299 en0 (argsEnv [.ptr 0 0, .agg (opC q 1 len)] 0) [⟨.cells (wC w), true⟩, ⟨.bytes q.data, false⟩] K =
  K .normal (ne (nbs q len ++ [(4, .bool false)])) (pM w q len []) := by kernel_rfl
theorem en1_h (A : AOps) (t : Int → N4) (w : WE) (q : OpE) (len : Nat) {ρ : Type} (K : Ex → Env → Mem → Option ρ) : codeK (X_at A t) [] enF.ntmps [0,1,3,4,5,6,7,8,9,10,11,12,13,24,25,52,81,119,157,195] 298 en1 (ne (nbs q len ++ [(4, .bool false)])) (pM w q len []) K =
  r4 (t q.to) fun to => r4 (t q.a) fun a => r4 (t q.b) fun b => K .normal (nE q len to a b [(4, .bool false)]) (pM w q len []) := by kernel_rfl
theorem en2_h (A : AOps) (t : Int → N4) (w : WE) (q : OpE) (len : Nat) (to a b : N4) {ρ : Type} (K : Ex → Env → Mem → Option ρ) : codeK (X_at A t) [] enF.ntmps [0,1,3,4,5,6,7,8,9,10,11,12,13,24,25,52,81,119,157,195] 296 en2 (nE q len to a b [(4, .bool false)]) (pM w q len []) K =
  K .normal (nE q len to a b (kd0 q)) (pM w q len []) := by kernel_rfl
theorem er3_h (A : AOps) (t : Int → N4) (q : OpE) (len : Nat) (to a b : N4) (M : Mem) {ρ : Type} (K : Ex → Env → Mem → Option ρ) : codeK (X_at A t) [] enF.ntmps [0,1,3,4,5,6,7,8,9,10,11,12,13,24,25,52,81,119,157,195] 294 er3 (nE q len to a b (kd0 q)) (M) K =
  K .normal (nE q len to a b (kd1 q)) M := by kernel_rfl
theorem er7_h (A : AOps) (t : Int → N4) (q : OpE) (len : Nat) (to a b : N4) (M : Mem) {ρ : Type} (K : Ex → Env → Mem → Option ρ) : codeK (X_at A t) [] enF.ntmps [0,1,3,4,5,6,7,8,9,10,11,12,13,24,25,52,81,119,157,195] 292 er7 (nE q len to a b (kd1 q)) (M) K =
  K .normal (nE q len to a b (kd2 q)) M := by kernel_rfl
theorem er12_h (A : AOps) (t : Int → N4) (q : OpE) (len : Nat) (to a b : N4) (M : Mem) {ρ : Type} (K : Ex → Env → Mem → Option ρ) : codeK (X_at A t) [] enF.ntmps [0,1,3,4,5,6,7,8,9,10,11,12,13,24,25,52,81,119,157,195] 290 er12 (nE q len to a b (kd2 q)) (M) K =
  K .normal (nE q len to a b (kd3 q)) M := by kernel_rfl
theorem er14_h (A : AOps) (t : Int → N4) (q : OpE) (len : Nat) (to a b : N4) (M : Mem) {ρ : Type} (K : Ex → Env → Mem → Option ρ) : codeK (X_at A t) [] enF.ntmps [0,1,3,4,5,6,7,8,9,10,11,12,13,24,25,52,81,119,157,195] 288 er14 (nE q len to a b (kd3 q)) (M) K =
  K .normal (nE q len to a b (kd4 q)) M := by kernel_rfl
theorem er16_h (A : AOps) (t : Int → N4) (q : OpE) (len : Nat) (to a b : N4) (M : Mem) {ρ : Type} (K : Ex → Env → Mem → Option ρ) : codeK (X_at A t) [] enF.ntmps [0,1,3,4,5,6,7,8,9,10,11,12,13,24,25,52,81,119,157,195] 286 er16 (nE q len to a b (kd4 q)) (M) K =
  K .normal (nE q len to a b (kd5 q)) M := by kernel_rfl
theorem er18_h (A : AOps) (t : Int → N4) (q : OpE) (len : Nat) (to a b : N4) (M : Mem) {ρ : Type} (K : Ex → Env → Mem → Option ρ) : codeK (X_at A t) [] enF.ntmps [0,1,3,4,5,6,7,8,9,10,11,12,13,24,25,52,81,119,157,195] 284 er18 (nE q len to a b (kd5 q)) (M) K =
  K .normal (nE q len to a b (kd6 q)) M := by kernel_rfl
theorem er4_h (A : AOps) (t : Int → N4) (w : WE) (q : OpE) (len : Nat) (to a b : N4) {ρ : Type} (K : Ex → Env → Mem → Option ρ) : codeK (X_at A t) [] enF.ntmps [0,1,3,4,5,6,7,8,9,10,11,12,13,24,25,52,81,119,157,195] 292 er4 (nE q len to a b (kd1 q)) (pM w q len []) K =
  gds [decide (len = q.data.length ∧ len + 32 ≤ maxRoom)] (K .normal (nE q len to a b ([(8, .slice 5 0 len true), (9, .slice 5 0 (len + 32) true)] ++ kd1 q)) (pM w q len [Pw.dead, Pw.dead, ⟨.bytes (q.data ++ marks 32), true⟩])) := by kernel_rfl
theorem er5_h (A : AOps) (t : Int → N4) (w : WE) (q : OpE) (len : Nat) (a b : N4) {ρ : Type} (K : Ex → Env → Mem → Option ρ) : ∀ to : N4, codeK (X_at A t) [] enF.ntmps [0,1,3,4,5,6,7,8,9,10,11,12,13,24,25,52,81,119,157,195] 291 er5 (nE q len to a b ([(8, .slice 5 0 len true), (9, .slice 5 0 (len + 32) true)] ++ kd1 q)) (pM w q len [Pw.dead, Pw.dead, ⟨.bytes (q.data ++ marks 32), true⟩]) K =
  gds [decide (0 + len ≤ (q.data ++ marks 32).length), decide ((List.take len (List.drop 0 (q.data ++ marks 32))).length < 4611686018427387904), decide (0 + len ≤ q.data.length), decide ((List.take len (List.drop 0 q.data)).length < 4611686018427387904)] (K .normal (nE q len to a b ([(8, .slice 5 0 len true), (9, .slice 5 0 (len + 32) true)] ++ kd1 q)) (pM (enS w to (A.e.sred (List.take len (List.drop 0 (q.data ++ marks 32)))) (A.rred (List.take len (List.drop 0 q.data)))) q len [Pw.dead, Pw.dead, ⟨.bytes (q.data ++ marks 32), true⟩]))
  | .j0 => by kernel_rfl
  | .j1 => by kernel_rfl
  | .j2 => by kernel_rfl
  | .j3 => by kernel_rfl
theorem er6_h (A : AOps) (t : Int → N4) (w : WE) (q : OpE) (len : Nat) (to a b : N4) {ρ : Type} (K : Ex → Env → Mem → Option ρ) : codeK (X_at A t) [] enF.ntmps [0,1,3,4,5,6,7,8,9,10,11,12,13,24,25,52,81,119,157,195] 290 er6 (nE q len to a b ([(8, .slice 5 0 len true), (9, .slice 5 0 (len + 32) true)] ++ kd1 q)) (pM w q len [Pw.dead, Pw.dead, ⟨.bytes (q.data ++ marks 32), true⟩]) K =
  gds [decide (0 + (len + 32) ≤ (q.data ++ marks 32).length), decide (0 + len ≤ q.data.length), keptOk (List.take (len + 32) (List.drop 0 (q.data ++ marks 32))) (List.take len (List.drop 0 q.data))] (K .normal (nE q len to a b ((4, .bool true) :: ([(8, .slice 5 0 len true), (9, .slice 5 0 (len + 32) true)] ++ kd1 q))) (pM w q len [Pw.dead, Pw.dead, ⟨.bytes (q.data ++ marks 32), true⟩])) := by kernel_rfl
theorem er8_h (A : AOps) (t : Int → N4) (w : WE) (q : OpE) (len : Nat) (to a b : N4) {ρ : Type} (K : Ex → Env → Mem → Option ρ) : codeK (X_at A t) [] enF.ntmps [0,1,3,4,5,6,7,8,9,10,11,12,13,24,25,52,81,119,157,195] 290 er8 (nE q len to a b (kd2 q)) (pM w q len []) K =
  K .normal (nE q len to a b ([(10, .ptr 3 0), (11, .n (A.e.swhole q.key).2)] ++ kd2 q)) (pM w q len [⟨.cells (keyV (A.e.swhole q.key).1).cells, true⟩]) := by kernel_rfl
theorem er9_h (A : AOps) (t : Int → N4) (w : WE) (q : OpE) (len : Nat) (to a b : N4) {ρ : Type} (K : Ex → Env → Mem → Option ρ) : codeK (X_at A t) [] enF.ntmps [0,1,3,4,5,6,7,8,9,10,11,12,13,24,25,52,81,119,157,195] 289 er9 (nE q len to a b ([(10, .ptr 3 0), (11, .n (A.e.swhole q.key).2)] ++ kd2 q)) (pM w q len [⟨.cells (keyV (A.e.swhole q.key).1).cells, true⟩]) K =
  K .normal (nE q len to a b ([(10, .ptr 3 0), (11, .n (A.e.swhole q.key).2), (12, .ptr 4 0), (13, .n (A.rwhole q.key).2)] ++ kd2 q)) (pM w q len [⟨.cells (keyV (A.e.swhole q.key).1).cells, true⟩, ⟨.cells (d16V (A.rwhole q.key).1).cells, true⟩]) := by kernel_rfl
theorem er10_h (A : AOps) (t : Int → N4) (w : WE) (q : OpE) (len : Nat) (a b : N4) {ρ : Type} (K : Ex → Env → Mem → Option ρ) : ∀ to : N4, codeK (X_at A t) [] enF.ntmps [0,1,3,4,5,6,7,8,9,10,11,12,13,24,25,52,81,119,157,195] 288 er10 (nE q len to a b ([(10, .ptr 3 0), (11, .n (A.e.swhole q.key).2), (12, .ptr 4 0), (13, .n (A.rwhole q.key).2)] ++ kd2 q)) (pM w q len [⟨.cells (keyV (A.e.swhole q.key).1).cells, true⟩, ⟨.cells (d16V (A.rwhole q.key).1).cells, true⟩]) K =
  K .normal (nE q len to a b ([(10, .ptr 3 0), (11, .n (A.e.swhole q.key).2), (12, .ptr 4 0), (13, .n (A.rwhole q.key).2)] ++ kd2 q)) (pM (enS w to (A.e.swhole q.key).1 (A.rwhole q.key).1) q len [⟨.cells (keyV (A.e.swhole q.key).1).cells, true⟩, ⟨.cells (d16V (A.rwhole q.key).1).cells, true⟩])
  | .j0 => by kernel_rfl
  | .j1 => by kernel_rfl
  | .j2 => by kernel_rfl
  | .j3 => by kernel_rfl
theorem er11_h (A : AOps) (t : Int → N4) (q : OpE) (len : Nat) (to a b : N4) (M : Mem) {ρ : Type} (K : Ex → Env → Mem → Option ρ) : codeK (X_at A t) [] enF.ntmps [0,1,3,4,5,6,7,8,9,10,11,12,13,24,25,52,81,119,157,195] 287 er11 (nE q len to a b ([(10, .ptr 3 0), (11, .n (A.e.swhole q.key).2), (12, .ptr 4 0), (13, .n (A.rwhole q.key).2)] ++ kd2 q)) (M) K =
  K .normal (nE q len to a b ((4, .bool (decide ((A.e.swhole q.key).2 = (A.rwhole q.key).2))) :: ([(10, .ptr 3 0), (11, .n (A.e.swhole q.key).2), (12, .ptr 4 0), (13, .n (A.rwhole q.key).2)] ++ kd2 q))) M := by kernel_rfl
theorem en20_h (A : AOps) (t : Int → N4) (q : OpE) (len : Nat) (to a b : N4) (rest : Env) (M : Mem) {ρ : Type} (K : Ex → Env → Mem → Option ρ) : codeK (X_at A t) [] enF.ntmps [0,1,3,4,5,6,7,8,9,10,11,12,13,24,25,52,81,119,157,195] 296 en20 (nE q len to a b rest) (M) K =
  K .normal (nE q len to a b ((4, .bool true) :: rest)) M := by kernel_rfl
theorem enR (A : AOps) (t : Int → N4) (q : OpE) (len : Nat) (to a b : N4) (r : Bool) (rest : Env) (M : Mem) {ρ : Type} (K : AV → Mem → Option ρ) : retC (X_at A t) enF.results.toList K .ret (nE q len to a b ((4, .bool r) :: rest)) M = K (.bool r) M := by kernel_rfl
noncomputable def er13_p (A : AOps) (t : Int → N4) (w : WE) (q : OpE) (len : Nat) (to a b : N4) : Prop := ∀ {ρ : Type} (K : Ex → Env → Mem → Option ρ), codeK (X_at A t) [] enF.ntmps [0,1,3,4,5,6,7,8,9,10,11,12,13,24,25,52,81,119,157,195] 289 er13 (nE q len to a b (kd3 q)) (pM w q len []) K =
  K .normal (nE q len to a b (kd3 q)) (pM (enS w to (A.e.sadd (w.s.get a) (w.s.get b)) (A.rsadd (resp 16 (w.t.get a)) (resp 16 (w.t.get b)))) q len [])
noncomputable def er15_p (A : AOps) (t : Int → N4) (w : WE) (q : OpE) (len : Nat) (to a b : N4) : Prop := ∀ {ρ : Type} (K : Ex → Env → Mem → Option ρ), codeK (X_at A t) [] enF.ntmps [0,1,3,4,5,6,7,8,9,10,11,12,13,24,25,52,81,119,157,195] 287 er15 (nE q len to a b (kd4 q)) (pM w q len []) K =
  K .normal (nE q len to a b (kd4 q)) (pM (enS w to (A.e.ssub (w.s.get a) (w.s.get b)) (A.rssub (resp 16 (w.t.get a)) (resp 16 (w.t.get b)))) q len [])
noncomputable def er17_p (A : AOps) (t : Int → N4) (w : WE) (q : OpE) (len : Nat) (to a b : N4) : Prop := ∀ {ρ : Type} (K : Ex → Env → Mem → Option ρ), codeK (X_at A t) [] enF.ntmps [0,1,3,4,5,6,7,8,9,10,11,12,13,24,25,52,81,119,157,195] 285 er17 (nE q len to a b (kd5 q)) (pM w q len []) K =
  K .normal (nE q len to a b (kd5 q)) (pM (enS w to (A.e.smul (w.s.get a) (w.s.get b)) (A.rsmul (resp 16 (w.t.get a)) (resp 16 (w.t.get b)))) q len [])
noncomputable def er19_p (A : AOps) (t : Int → N4) (w : WE) (q : OpE) (len : Nat) (to a b : N4) : Prop := ∀ {ρ : Type} (K : Ex → Env → Mem → Option ρ), codeK (X_at A t) [] enF.ntmps [0,1,3,4,5,6,7,8,9,10,11,12,13,24,25,52,81,119,157,195] 283 er19 (nE q len to a b (kd6 q)) (pM w q len []) K =
  K .normal (nE q len to a b (kd6 q)) (pM (enS w to (A.e.sneg (w.s.get a)) (A.rsneg (resp 16 (w.t.get a)))) q len [])
theorem er13_t (A : AOps) (t : Int → N4) (w : WE) (q : OpE) (len : Nat) : er13_p A t w q len .j0 .j1 .j2 := fun K => by kernel_rfl
theorem er19_t (A : AOps) (t : Int → N4) (w : WE) (q : OpE) (len : Nat) (b : N4) : er19_p A t w q len .j0 .j1 b := fun K => by kernel_rfl
end Go.Proofs.YtpmbfepkdjkheaaGreat

