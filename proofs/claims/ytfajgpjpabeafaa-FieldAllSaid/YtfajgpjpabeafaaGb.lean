/- FieldAll: the walk: round by round. -/
import Derived.Test.YtfajgpjpabeafaaGa
import Derived.Test.YtfajgpjpabeafaaPwDrow
namespace Go.Proofs.Ytfajgpjpabeafaa
open Go Pw Go.RowKit
structure V4 (α : Type) where
  a : α
  b : α
  c : α
  d : α
def V4.get {α : Type} (v : V4 α) : N4 → α
  | .j0 => v.a
  | .j1 => v.b
  | .j2 => v.c
  | .j3 => v.d
def V4.set {α : Type} (v : V4 α) (j : N4) (x : α) : V4 α := match j with
  | .j0 => ⟨x, v.b, v.c, v.d⟩
  | .j1 => ⟨v.a, x, v.c, v.d⟩
  | .j2 => ⟨v.a, v.b, x, v.d⟩
  | .j3 => ⟨v.a, v.b, v.c, x⟩
def c5 (x : L5) : List AV := [.u .u64 x.a, .u .u64 x.b, .u .u64 x.c, .u .u64 x.d, .u .u64 x.e]
def c4 (x : L4) : List AV := [.u .u64 x.a, .u .u64 x.b, .u .u64 x.c, .u .u64 x.d]
def c54 (v : V4 L5) : List AV := c5 v.a ++ (c5 v.b ++ (c5 v.c ++ c5 v.d))
def c44 (v : V4 L4) : List AV := c4 v.a ++ (c4 v.b ++ (c4 v.c ++ c4 v.d))
def opLA (q : OpR) : List LA := .v (.n q.kind) :: .v (.n q.to) :: .v (.n q.a) :: .v (.n q.b) :: .v (.u .u64 q.n) :: .l q.data :: (q.key.toList.map (fun x => LA.v (.u .u8 x)) ++ [.v (.bool q.flag), .v (.n q.further)])
def faE (len : Nat) (i : Int) : Env := [(0, .slice 0 0 len false), (3, .ptr 1 0), (4, .ptr 2 0), (5, .n i)]
def faM (r : V4 L5) (d : V4 L4) : Mem := [Pw.dead, ⟨.cells (c54 r), true⟩, ⟨.cells (c44 d), true⟩]
def faM1 (p : Nat) (q : OpR) (r : V4 L5) (d : V4 L4) : Mem := [⟨.win p (opC q 3 q.data.length), false⟩, ⟨.cells (c54 r), true⟩, ⟨.cells (c44 d), true⟩, ⟨.bytes q.data, false⟩]
noncomputable abbrev faF : Func := Try.f17
noncomputable abbrev faB : Code := loopB (bodyOf faF) 4
def sq1 : Code → Code
  | .seq x _ => x
  | c => c
def sq2 : Code → Code
  | .seq _ y => y
  | c => c
def bk1 : Code → Code
  | .block _ x => x
  | c => c
noncomputable def faIn : Code := bk1 (sq1 (sq2 faB))
noncomputable def faP : Code := sq1 faB
noncomputable def fa5 : Code := sq2 (sq2 faB)
noncomputable def fa6 : Code := sq1 faIn
noncomputable def fa7 : Code := sq1 (sq2 faIn)
noncomputable def faX : Code := sq1 (sq2 (sq2 faIn))
noncomputable def faY : Code := sq2 (sq2 (sq2 faIn))
theorem faB_eq : faB = .seq faP (.seq (.block 1 (.seq fa6 (.seq fa7 (.seq faX faY)))) fa5) := by kernel_rfl
def fe (l : Env) : Env := prune l [0,2,3,4,5,6,7,8,9,10,11,12,13,14,15,16,20,38,87,118,120,131]
def eb (len : Nat) (i : Int) : Env := [(0, .slice 0 0 len false), (3, .ptr 1 0), (4, .ptr 2 0), (5, .n i)]
def e20 (len : Nat) (i : Int) : Env := [(20, .bool (decide (i < (len : Int))))]
def fe1 (len : Nat) (i : Int) : Env := fe (eb len i ++ e20 len i)
def fe2 (len : Nat) (i : Int) : Env := fe ((6, .ptr 4 0) :: (eb len i ++ e20 len i))
def fe3 (len : Nat) (i : Int) (to a b : N4) : Env := fe ((6, .ptr 4 0) :: (7, .n to.val) :: (eb len i ++ ((8, .n a.val) :: (9, .n b.val) :: e20 len i)))
def fe4 (len : Nat) (i : Int) (to : N4) (rest : Env) : Env := fe ((6, .ptr 4 0) :: (7, .n to.val) :: (eb len i ++ rest))
def fe5 (len : Nat) (i : Int) (to : N4) (A : Bool) (rest : Env) : Env := fe ((6, .ptr 4 0) :: (7, .n to.val) :: (eb len i ++ ((118, .bool A) :: rest)))
def fe6 (len : Nat) (i : Int) (to : N4) (A : Bool) (rest : Env) : Env := fe ((6, .ptr 4 0) :: (7, .n to.val) :: (eb len i ++ ((118, .bool A) :: (2, .bool false) :: rest)))
def restS (len : Nat) (i : Int) (q : OpR) (a b : N4) : Env := (8, .n a.val) :: (9, .n b.val) :: (10, .ptr 5 0) :: (11, .ptr 6 0) :: (12, .ptr 7 0) :: (13, .ptr 8 0) :: (38, .bool (decide (q.kind = 11))) :: e20 len i
def restE (len : Nat) (i : Int) (q : OpR) (a b : N4) : Env := (8, .n a.val) :: (9, .n b.val) :: (14, .ptr 5 0) :: (15, .bool true) :: (87, .bool false) :: (38, .bool (decide (q.kind = 11))) :: e20 len i
def faM2 (p : Nat) (q : OpR) (r : V4 L5) (d : V4 L4) (tl : Mem) : Mem := ⟨.win p (opC q 3 q.data.length), false⟩ :: ⟨.cells (c54 r), true⟩ :: ⟨.cells (c44 d), true⟩ :: ⟨.bytes q.data, false⟩ :: ⟨.cells (opC q 3 q.data.length), true⟩ :: tl
def opT (q : OpR) : OpR := { q with data := List.take q.data.length (List.drop 0 q.data) }
def swA {α : Type} (q : OpR) (a b : N4) (r : V4 α) : α := bif q.flag then r.get b else r.get a
def swB {α : Type} (q : OpR) (a b : N4) (r : V4 α) : α := bif q.flag then r.get a else r.get b
def swV {α : Type} (q : OpR) (a b : N4) (r : V4 α) : V4 α := (r.set a (swA q a b r)).set b (swB q a b r)
def faG (q : OpR) : List Bool := [decide (0 + q.data.length ≤ q.data.length), decide (q.data.length = (List.take q.data.length (List.drop 0 q.data)).length ∧ (List.take q.data.length (List.drop 0 q.data)).length + 32 ≤ 175921860444160),
  decide (0 + q.data.length ≤ q.data.length), decide (q.data.length = (List.take q.data.length (List.drop 0 q.data)).length)]
def tlS (q : OpR) (a b : N4) (r : V4 L5) (d : V4 L4) : Mem := [⟨.cells (c5 (swA q a b r)), true⟩, ⟨.cells (c5 (swB q a b r)), true⟩, ⟨.cells (c4 (swA q a b d)), true⟩, ⟨.cells (c4 (swB q a b d)), true⟩]
noncomputable def fa_P (o : FOps) (m : OpR → L5 → L5 → L5) (m' : OpR → L4 → L4 → L4) (t : Int → N4) (len : Nat) (i : Int) (M : Mem) : Prop := ∀ {ρ : Type} (K : Ex → Env → Mem → Option ρ), codeK (X_fa o m m' t) [] faF.ntmps [0,2,3,4,5,6,7,8,9,10,11,12,13,14,15,16,20,38,87,118,120,131] 99 faP (faE len i) M K =
  brn (decide (i < (len : Int))) (K .normal (fe1 len i) M) (K (.exit 0) (fe1 len i) M)
theorem fa_P_h (o : FOps) (m : OpR → L5 → L5 → L5) (m' : OpR → L4 → L4 → L4) (t : Int → N4) (len : Nat) (i : Int) (M : Mem) : fa_P o m m' t len i M := fun K => by kernel_rfl
noncomputable def fa_6 (o : FOps) (m : OpR → L5 → L5 → L5) (m' : OpR → L4 → L4 → L4) (t : Int → N4) (len p : Nat) (i : Int) (q : OpR) (r : V4 L5) (d : V4 L4) : Prop := ∀ {ρ : Type} (K : Ex → Env → Mem → Option ρ), codeK (X_fa o m m' t) [] faF.ntmps [0,2,3,4,5,6,7,8,9,10,11,12,13,14,15,16,20,38,87,118,120,131] 96 fa6 (fe1 len i) (faM1 p q r d) K =
  gds [decide (0 ≤ i ∧ i < (len : Int)), Nat.beq (0 + i.toNat * 40) p && true] (K .normal (fe2 len i) (faM2 p q r d []))
theorem fa_6_h (o : FOps) (m : OpR → L5 → L5 → L5) (m' : OpR → L4 → L4 → L4) (t : Int → N4) (len p : Nat) (i : Int) (q : OpR) (r : V4 L5) (d : V4 L4) : fa_6 o m m' t len p i q r d := fun K => by kernel_rfl
noncomputable def fa_7 (o : FOps) (m : OpR → L5 → L5 → L5) (m' : OpR → L4 → L4 → L4) (t : Int → N4) (len p : Nat) (i : Int) (q : OpR) (r : V4 L5) (d : V4 L4) : Prop := ∀ {ρ : Type} (K : Ex → Env → Mem → Option ρ), codeK (X_fa o m m' t) [] faF.ntmps [0,2,3,4,5,6,7,8,9,10,11,12,13,14,15,16,20,38,87,118,120,131] 95 fa7 (fe2 len i) (faM2 p q r d []) K =
  r4 (t q.to) fun to => r4 (t q.a) fun a => r4 (t q.b) fun b => K .normal (fe3 len i to a b) (faM2 p q r d [])
theorem fa_7_h (o : FOps) (m : OpR → L5 → L5 → L5) (m' : OpR → L4 → L4 → L4) (t : Int → N4) (len p : Nat) (i : Int) (q : OpR) (r : V4 L5) (d : V4 L4) : fa_7 o m m' t len p i q r d := fun K => by kernel_rfl
noncomputable def fa_X (o : FOps) (m : OpR → L5 → L5 → L5) (m' : OpR → L4 → L4 → L4) (t : Int → N4) (len p : Nat) (i : Int) (q : OpR) (r : V4 L5) (d : V4 L4) (to a b : N4) : Prop := ∀ {ρ : Type} (K : Ex → Env → Mem → Option ρ), codeK (X_fa o m m' t) [] faF.ntmps [0,2,3,4,5,6,7,8,9,10,11,12,13,14,15,16,20,38,87,118,120,131] 94 faX (fe3 len i to a b) (faM2 p q r d []) K =
  brn (decide (q.kind = 11)) (K .normal (fe4 len i to (restS len i q a b)) (faM2 p q (swV q a b r) (swV q a b d) (tlS q a b r d)))
    (gds (faG q) (K .normal (fe4 len i to (restE len i q a b)) (faM2 p q (r.set to (m (opT q) (r.get a) (r.get b))) (d.set to (m' (opT q) (d.get a) (d.get b))) [⟨.cells (c5 (m (opT q) (r.get a) (r.get b))), true⟩])))
end Go.Proofs.Ytfajgpjpabeafaa

