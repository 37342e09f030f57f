/- WideAll: a round. -/
import Derived.Test.YtmhbhpmfbalbeaaJa
namespace Go.Proofs.Ytmhbhpmfbalbeaa
open Go Pw Go.RowKit
def sq1 : Code → Code
  | .seq x _ => x
  | c => c
def sq2 : Code → Code
  | .seq _ y => y
  | c => c
def bk1 : Code → Code
  | .block _ c => c
  | c => c
noncomputable def waP : Code := sq1 waB
noncomputable def waI : Code := bk1 (sq1 (sq2 waB))
noncomputable def waN : Code := sq2 (sq2 waB)
noncomputable def wa11 : Code := sq1 waI
noncomputable def wa12 : Code := sq1 (sq2 waI)
noncomputable def wa13 : Code := sq2 (sq2 waI)
theorem waB_eq : waB = .seq waP (.seq (.block 3 (.seq wa11 (.seq wa12 wa13))) waN) := by kernel_rfl
def we (l : Env) : Env := prune l [0,2,3,4,5,6,7,8,9,10,11,12,13,19,27,28,29,30,31,32,33,37,51,52,69,82,92,93,104,105,113,120,129,139,141,154,155,156,157,158,159,160,161,162,163,164]
def w37 (n : Nat) (i : Int) : Env := [(37, .bool (decide (i < (n : Int))))]
noncomputable def waO : Ex → Env → Mem → Option (Ex × Env × Mem) := outR [0, 3, 4, 6]
noncomputable def waT (o : SOps) (t : Int → N3) : Ex → Env → Mem → Option (Ex × Env × Mem) := blkC 3 (thenC (fun env mem => codeK (X_wa o t) [] waF.ntmps [0,2,3,4,5,6,7,8,9,10,11,12,13,19,27,28,29,30,31,32,33,37,51,52,69,82,92,93,104,105,113,120,129,139,141,154,155,156,157,158,159,160,161,162,163,164] 98 waN env mem waO) waO)
theorem waP_h (o : SOps) (t : Int → N3) (n : Nat) (i : Int) (M : Mem) {ρ : Type} (K : Ex → Env → Mem → Option ρ) : codeK (X_wa o t) [] waF.ntmps [0,2,3,4,5,6,7,8,9,10,11,12,13,19,27,28,29,30,31,32,33,37,51,52,69,82,92,93,104,105,113,120,129,139,141,154,155,156,157,158,159,160,161,162,163,164] 99 waP (waE n i) M K =
  brn (decide (i < (n : Int))) (K .normal (we (waE n i ++ w37 n i)) M) (K (.exit 2) (we (waE n i ++ w37 n i)) M) := by kernel_rfl
def waA (q : ActR) : Blk := ⟨.cells (actC q 12), true⟩
def waM2 (p : Nat) (q : ActR) (v : V3 HA) : Mem := waMr ⟨.win p (actC q 12), false⟩ hp0 (cs0 v) (hb0 v) (rb0 v) (cb0 v) [⟨.bytes q.data, false⟩, waA q]
theorem wa11_h (o : SOps) (t : Int → N3) (n p : Nat) (i : Int) (q : ActR) (v : V3 HA) {ρ : Type} (K : Ex → Env → Mem → Option ρ) : codeK (X_wa o t) [] waF.ntmps [0,2,3,4,5,6,7,8,9,10,11,12,13,19,27,28,29,30,31,32,33,37,51,52,69,82,92,93,104,105,113,120,129,139,141,154,155,156,157,158,159,160,161,162,163,164] 96 wa11 (we (waE n i ++ w37 n i)) (waM1 p q v) K =
  gds [decide (0 ≤ i ∧ i < (n : Int)), Nat.beq (0 + i.toNat * 4) p && true] (K .normal (we ((7, .ptr 13 0) :: (waE n i ++ w37 n i))) (waM2 p q v)) := by kernel_rfl
theorem wa12_h (o : SOps) (t : Int → N3) (n p : Nat) (i : Int) (q : ActR) (v : V3 HA) {ρ : Type} (K : Ex → Env → Mem → Option ρ) : codeK (X_wa o t) [] waF.ntmps [0,2,3,4,5,6,7,8,9,10,11,12,13,19,27,28,29,30,31,32,33,37,51,52,69,82,92,93,104,105,113,120,129,139,141,154,155,156,157,158,159,160,161,162,163,164] 95 wa12 (we ((7, .ptr 13 0) :: (waE n i ++ w37 n i))) (waM2 p q v) K =
  r3 (t q.on) fun on => r3 (t q.other) fun ot => K .normal (we ((7, .ptr 13 0) :: (8, .n on.val) :: (9, .n ot.val) :: (waE n i ++ w37 n i))) (waM2 p q v) := by kernel_rfl
def waK (n : Nat) (i : Int) (M : Mem) : Option (Ex × Env × Mem) := some (.normal, waE n (w64 (i + 1)), M)
def waX (n : Nat) (i : Int) (M : Mem) : Option (Ex × Env × Mem) := some (.ret, waE n i, M)
/-- the hash behind a piece -/
def waH (o : SOps) (s : HS) (d : List Nat) : HS := ⟨foldB o.bP (resp 8 s.w) (wAll 0 d.length (d ++ marks 80) s.rest) (wNum 0 d.length (d ++ marks 80) s.rest), (s.size + d.length % 18446744073709551616) % 2 ^ 64, wTail 0 d.length (d ++ marks 80) s.rest⟩
def cN (c d : List Nat) : Nat := (pT c).length + (pT d).length
def cW (c d : List Nat) : List Nat := List.take (pT c).length (List.drop 0 (pT c)) ++ pT d
/-- what a round leaves, by what is written -/
def waR (p : Nat) (q : ActR) (v : V3 HA) (hp cs : V3 AV) (hb rb : V3 Blk) (tl : Mem) : Mem := waMr ⟨.win p (actC q 12), false⟩ hp cs hb rb (cb0 v) (⟨.bytes q.data, false⟩ :: waA q :: tl)
def waR0 (o : SOps) (p : Nat) (q : ActR) (v : V3 HA) (on : N3) (x : AV) (tl : Mem) : Mem := waR p q v hp0 ((cs0 v).set on x) ((hb0 v).set on (hB 18 (waH o (v.get on).s q.data))) ((rb0 v).set on Pw.dead) (Pw.dead :: Pw.dead :: Pw.dead :: Pw.dead :: ⟨.bytes (waH o (v.get on).s q.data).rest, true⟩ :: ⟨.bytes (List.replicate (q.data.length + 90) 9), true⟩ :: ⟨.bytes [], true⟩ :: tl)
def nwB : Blk := ⟨.cells (hshC SW .nils 0), true⟩
def waR3 (p : Nat) (q : ActR) (v : V3 HA) (on : N3) : Mem := waR p q v hp0 ((cs0 v).set on .nils) ((hb0 v).set on nwB) (rb0 v) [nwB]
def waR4 (p : Nat) (q : ActR) (v : V3 HA) (on ot : N3) : Mem := waR p q v (hp0.set on (.ptr 15 0)) ((cs0 v).set on ((cs0 v).get ot)) (hb0 v) (rb0 v) [⟨.bytes (pT (v.get ot).s.rest), true⟩, ⟨.cells (hshC (v.get ot).s.w (.slice 14 0 (pT (v.get ot).s.rest).length true) (v.get ot).s.size), true⟩]
def waR5 (p : Nat) (q : ActR) (v : V3 HA) (on : N3) : Mem := waR p q v (hp0.set on (.ptr 14 0)) ((cs0 v).set on .nils) (hb0 v) (rb0 v) [nwB]
def waR6 (p : Nat) (q : ActR) (v : V3 HA) : Mem := waR p q v hp0 (cs0 v) (hb0 v) (rb0 v) []
def waG0 (q : ActR) (x : HA) : List Bool := [decide (q.data.length = q.data.length ∧ q.data.length + 80 ≤ maxRoom), wCond x.s.rest.length 0 q.data.length (q.data ++ marks 80) x.s.rest, decide (0 + (q.data.length + 80) ≤ (q.data ++ marks 80).length), decide (0 + q.data.length ≤ q.data.length),
  keptOk (List.take (q.data.length + 80) (List.drop 0 (q.data ++ marks 80))) (pT q.data), decide (q.data.length ≤ (q.data ++ marks 80).length ∧ q.data.length + 90 ≤ maxRoom), decide (0 + x.c.length ≤ x.c.length)]
def waG0c (q : ActR) (x : HA) : List Bool := [decide ((pT x.c).length ≤ maxRoom), decide (0 + q.data.length ≤ q.data.length), Nat.blt 0 (pT x.c).length && true, decide (0 + (pT x.c).length ≤ (pT x.c).length), decide ((pT x.c).length + (pT q.data).length ≤ maxRoom)]
def waG1 (x : HA) : List Bool := [decide (0 + x.s.rest.length ≤ x.s.rest.length), decide (x.s.rest.length = (pT x.s.rest).length ∧ x.s.rest.length < 128), decide (0 + x.c.length ≤ x.c.length), decide ((pT x.c).length + 256 ≤ maxRoom)]
noncomputable def waL0 (o : SOps) (n p : Nat) (i : Int) (q : ActR) (v : V3 HA) (on : N3) : Option (Ex × Env × Mem) := gds (waG0 q (v.get on)) (brn (pT (v.get on).c).isEmpty
  (gds [decide (0 + q.data.length ≤ q.data.length)] (brn (pT q.data).isEmpty (waK n i (waR0 o p q v on .emp [])) (gds [decide ((pT q.data).length ≤ maxRoom)] (waK n i (waR0 o p q v on (.slice 21 0 (pT q.data).length true) [⟨.bytes (pT q.data), true⟩])))))
  (gds (waG0c q (v.get on)) (waK n i (waR0 o p q v on (.slice 22 0 (cN (v.get on).c q.data) true) [Pw.dead, ⟨.bytes (cW (v.get on).c q.data), true⟩]))))
def waA1 (o : SOps) (x : HA) : Bool := eqW 64 (sumV o (resp 8 x.s.w) x.s.size (pT x.s.rest)) (hashR o (pT x.c))
def waA2 (x : HA) : Bool := decide (x.s.size = ((x.c.length : Int) % 18446744073709551616).toNat)
noncomputable def waL1 (o : SOps) (n p : Nat) (i : Int) (q : ActR) (v : V3 HA) (on : N3) : Option (Ex × Env × Mem) := gds (waG1 (v.get on)) (brn (!waA1 o (v.get on)) (waX n i (waR6 p q v)) (waK n i (waR6 p q v)))
noncomputable def waL2 (n p : Nat) (i : Int) (q : ActR) (v : V3 HA) (on : N3) : Option (Ex × Env × Mem) := gds [decide (0 + (v.get on).s.rest.length ≤ (v.get on).s.rest.length)] (brn (!waA2 (v.get on)) (waX n i (waR6 p q v)) (waK n i (waR6 p q v)))
noncomputable def waL4 (n p : Nat) (i : Int) (q : ActR) (v : V3 HA) (on ot : N3) : Option (Ex × Env × Mem) := gds [decide (0 + (v.get ot).s.rest.length ≤ (v.get ot).s.rest.length), decide ((pT (v.get ot).s.rest).length ≤ maxRoom)] (waK n i (waR4 p q v on ot))
noncomputable def waL (o : SOps) (n p : Nat) (i : Int) (q : ActR) (v : V3 HA) (on ot : N3) : Option (Ex × Env × Mem) :=
  brn (decide (q.kind = 0)) (waL0 o n p i q v on) (brn (decide (q.kind = 1)) (waL1 o n p i q v on) (brn (decide (q.kind = 2)) (waL2 n p i q v on) (brn (decide (q.kind = 3)) (waK n i (waR3 p q v on)) (brn (decide (q.kind = 4)) (waL4 n p i q v on ot) (brn (decide (q.kind = 5)) (waK n i (waR5 p q v on)) (waK n i (waR6 p q v)))))))
noncomputable def wa13_p (o : SOps) (t : Int → N3) (n p : Nat) (i : Int) (q : ActR) (v : V3 HA) (on ot : N3) : Prop :=
  codeK (X_wa o t) [] waF.ntmps [0,2,3,4,5,6,7,8,9,10,11,12,13,19,27,28,29,30,31,32,33,37,51,52,69,82,92,93,104,105,113,120,129,139,141,154,155,156,157,158,159,160,161,162,163,164] 95 wa13 (we ((7, .ptr 13 0) :: (8, .n on.val) :: (9, .n ot.val) :: (waE n i ++ w37 n i))) (waM2 p q v) (waT o t) = waL o n p i q v on ot
end Go.Proofs.Ytmhbhpmfbalbeaa

