/- Layer 20: the program's functions, walked, over layers 18 and 19 as variables. -/
import Derived.Test.YtnnjaijokiknkaaPh
import Derived.Test.YtnnjaijokiknkaaSa
namespace Go.Proofs.Ytnnjaijokiknkaa
open Go Pw Go.RowKit
structure GOps where
  e : EOps
  hash : List Nat → List Nat
  rhash : List Nat → List Nat
  dred : List Nat → List Nat
  dwhole : K32 → List Nat × Int
  dadd : List Nat → List Nat → List Nat
  dmul : List Nat → List Nat → List Nat
  dneg : List Nat → List Nat
  dbytes : List Nat → K32
def concGO : GOps where
  e := concE
  hash := hashV concS
  rhash := hashR concS
  dred b := redD concD oneD zeroD b
  dwhole k := (bif wholeC concD k then redD concD oneD zeroD k.toList else zeroD, bif wholeC concD k then 0 else 191)
  dadd a b := concD.once (sumD a b)
  dmul a b := redD concD (resp 16 (resp 16 a)) (resp 16 zeroD) (bytD (resp 16 b)).toList
  dneg a := bif concD.isz (resp 16 a) then a else minuD concD.ord a
  dbytes a := bytD a
noncomputable abbrev XG0 (g : GOps) : Cx := X_same19 g.e
theorem XG0_ok : CxOK Try.prog (XG0 concGO) := X_same19_ok
def gv_hash (g : GOps) (args : List LA) : Option (AV × Option Blk) := match args with
  | [.l b] => some (b64V (g.hash b), none)
  | _ => none
theorem gv_hash_at : QuietAt Try.prog 82 (lav fun args => bif c_hashP args then gv_hash concGO args else none) := by
  rw [show (fun args => bif c_hashP args then gv_hash concGO args else none) = g_hashP concS by kernel_rfl]
  exact hashP_at
noncomputable def X_vhash (g : GOps) : Cx := { XG0 g with O := addQ (XG0 g).O 82 (lavG c_hashP (gv_hash g)) }
theorem X_vhash_ok : CxOK Try.prog (X_vhash concGO) := { XG0_ok with quiet := addQ_ok XG0_ok.quiet (lavG_at gv_hash_at) }
def gv_rhash (g : GOps) (args : List LA) : Option (AV × Option Blk) := match args with
  | [.l b] => some (b64V (g.rhash b), none)
  | _ => none
theorem gv_rhash_at : QuietAt Try.prog 161 (lav fun args => bif c_hashR args then gv_rhash concGO args else none) := by
  rw [show (fun args => bif c_hashR args then gv_rhash concGO args else none) = g_hashR concS by kernel_rfl]
  exact hashR_at
noncomputable def X_vrhash (g : GOps) : Cx := { X_vhash g with O := addQ (X_vhash g).O 161 (lavG c_hashR (gv_rhash g)) }
theorem X_vrhash_ok : CxOK Try.prog (X_vrhash concGO) := { X_vhash_ok with quiet := addQ_ok X_vhash_ok.quiet (lavG_at gv_rhash_at) }
def gv_dred (g : GOps) (args : List LA) : Option (AV × Option Blk) := match args with
  | [.l b] => some (d16V (g.dred b), none)
  | _ => none
theorem gv_dred_at : QuietAt Try.prog 27 (lav fun args => bif c_dReduce args then gv_dred concGO args else none) := by
  rw [show (fun args => bif c_dReduce args then gv_dred concGO args else none) = g_dReduce concD by kernel_rfl]
  exact dReduce_at
noncomputable def X_vdred (g : GOps) : Cx := { X_vrhash g with O := addQ (X_vrhash g).O 27 (lavG c_dReduce (gv_dred g)) }
theorem X_vdred_ok : CxOK Try.prog (X_vdred concGO) := { X_vrhash_ok with quiet := addQ_ok X_vrhash_ok.quiet (lavG_at gv_dred_at) }
def gv_dwhole (g : GOps) (args : List LA) : Option (AV × Option Blk) := match args with
  | [.v x0] => (match key? x0 with
    | some k => some (.tup [d16V ((g.dwhole k)).1, .n ((g.dwhole k)).2], none)
    | _ => none)
  | _ => none
theorem gv_dwhole_at : QuietAt Try.prog 29 (lav (gv_dwhole concGO)) := by
  rw [show gv_dwhole concGO = g_dWhole concD by kernel_rfl]
  exact dWhole_at
noncomputable def X_vdwhole (g : GOps) : Cx := { X_vdred g with O := addQ (X_vdred g).O 29 (lav (gv_dwhole g)) }
theorem X_vdwhole_ok : CxOK Try.prog (X_vdwhole concGO) := { X_vdred_ok with quiet := addQ_ok X_vdred_ok.quiet gv_dwhole_at }
def gv_dadd (g : GOps) (args : List LA) : Option (AV × Option Blk) := match args with
  | [.v x0, .v x1] => (match d16? x0, d16? x1 with
    | some a, some b => some (d16V (g.dadd a b), none)
    | _, _ => none)
  | _ => none
theorem gv_dadd_at : QuietAt Try.prog 33 (lav (gv_dadd concGO)) := by
  rw [show gv_dadd concGO = g_dAdd concD by kernel_rfl]
  exact dAdd_at
noncomputable def X_vdadd (g : GOps) : Cx := { X_vdwhole g with O := addQ (X_vdwhole g).O 33 (lav (gv_dadd g)) }
theorem X_vdadd_ok : CxOK Try.prog (X_vdadd concGO) := { X_vdwhole_ok with quiet := addQ_ok X_vdwhole_ok.quiet gv_dadd_at }
def gv_dmul (g : GOps) (args : List LA) : Option (AV × Option Blk) := match args with
  | [.v x0, .v x1] => (match d16? x0, d16? x1 with
    | some a, some b => some (d16V (g.dmul a b), none)
    | _, _ => none)
  | _ => none
theorem gv_dmul_at : QuietAt Try.prog 37 (lav (gv_dmul concGO)) := by
  rw [show gv_dmul concGO = g_dMul concD by kernel_rfl]
  exact dMul_at
noncomputable def X_vdmul (g : GOps) : Cx := { X_vdadd g with O := addQ (X_vdadd g).O 37 (lav (gv_dmul g)) }
theorem X_vdmul_ok : CxOK Try.prog (X_vdmul concGO) := { X_vdadd_ok with quiet := addQ_ok X_vdadd_ok.quiet gv_dmul_at }
def gv_dneg (g : GOps) (args : List LA) : Option (AV × Option Blk) := match args with
  | [.v x0] => (match d16? x0 with
    | some a => some (d16V (g.dneg a), none)
    | _ => none)
  | _ => none
theorem gv_dneg_at : QuietAt Try.prog 39 (lav (gv_dneg concGO)) := by
  rw [show gv_dneg concGO = g_dNeg concD by kernel_rfl]
  exact dNeg_at
noncomputable def X_vdneg (g : GOps) : Cx := { X_vdmul g with O := addQ (X_vdmul g).O 39 (lav (gv_dneg g)) }
theorem X_vdneg_ok : CxOK Try.prog (X_vdneg concGO) := { X_vdmul_ok with quiet := addQ_ok X_vdmul_ok.quiet gv_dneg_at }
def gv_dbytes (g : GOps) (args : List LA) : Option (AV × Option Blk) := match args with
  | [.v x0] => (match d16? x0 with
    | some a => some (keyV (g.dbytes a), none)
    | _ => none)
  | _ => none
theorem gv_dbytes_at : QuietAt Try.prog 31 (lav (gv_dbytes concGO)) := by
  rw [show gv_dbytes concGO = g_dBytes concNOps by kernel_rfl]
  exact dBytes_at
noncomputable def X_vdbytes (g : GOps) : Cx := { X_vdneg g with O := addQ (X_vdneg g).O 31 (lav (gv_dbytes g)) }
theorem X_vdbytes_ok : CxOK Try.prog (X_vdbytes concGO) := { X_vdneg_ok with quiet := addQ_ok X_vdneg_ok.quiet gv_dbytes_at }
noncomputable def X_hsd (g : GOps) : Cx := { X_vdbytes g with O := addQ (X_vdbytes g).O 150 (grab (gHashed g.hash)) }
theorem X_hsd_ok : CxOK Try.prog (X_hsd concGO) := { X_vdbytes_ok with quiet := addQ_ok X_vdbytes_ok.quiet hashed_at }
def clampS (k : K32) : K32 := { k with b0 := k.b0 &&& 248, b31 := k.b31 &&& 127 ||| 64 }
def clampR (k : K32) : K32 := { k with b0 := k.b0 / 8 * 8 % 256, b31 := (k.b31 % 64 + 64) % 256 }
theorem clampP_run (g : GOps) (k : K32) : runNL (X_hsd g) [] [0,1,2] 200 Try.f72 (bodyOf Try.f72) (laArgs [.v (keyV k)] 0) (laLists [.v (keyV k)]) = some (keyV (clampS k), none) := by
  kernel_rfl
def g_clampP (_ : GOps) (args : List LA) : Option (AV × Option Blk) := match args with
  | [.v x0] => (match key? x0 with
    | some k => some (keyV (clampS k), none)
    | _ => none)
  | _ => none
theorem clampP_at : QuietAt Try.prog 72 (lav (g_clampP concGO)) := by
  refine quietAt_of_runA X_hsd_ok (L := []) (keep := [0,1,2]) Try.func72 (c := bodyOf Try.f72) (by kernel_rfl) (by kernel_rfl) (LoopsOK.nil) fun args v h hw => ⟨200, ?_⟩
  unfold g_clampP at h
  split at h
  · rename_i x0
    split at h
    · rename_i k hh0
      have ehh0 := key?_some hh0
      subst ehh0
      rw [← h]
      refine (clampP_run concGO k).trans ?_
      rfl
    · cases h
  · cases h
noncomputable def X_clampP (g : GOps) : Cx := { X_hsd g with O := addQ (X_hsd g).O 72 (lav (g_clampP g)) }
theorem X_clampP_ok : CxOK Try.prog (X_clampP concGO) := { X_hsd_ok with quiet := addQ_ok X_hsd_ok.quiet clampP_at }
def redG (g : GOps) (t : List Nat) : K32 := g.e.sred (resp 64 (g.hash t))
def tkL (l : Nat) (p : List Nat) : List Nat := List.take l (List.drop 0 p)
theorem tkL_eq (p : List Nat) : tkL p.length p = p := by unfold tkL; rw [List.drop_zero, List.take_length]
def r2T (g : GOps) (p0 p1 : List Nat) (l0 l1 : Nat) : Option (AV × Option Blk) := gds [decide (0 + l0 ≤ p0.length), decide (0 + l1 ≤ p1.length), decide (l0 = (tkL l0 p0).length ∧ l1 = (tkL l1 p1).length ∧ (tkL l0 p0 ++ tkL l1 p1).length + 256 ≤ maxRoom)] (some (keyV (redG g (tkL l0 p0 ++ tkL l1 p1)), none))
theorem reduced2_run (g : GOps) (p0 p1 : List Nat) (l0 l1 : Nat) : runG (X_clampP g) [] [0,2,3] 500 Try.f107 (bodyOf Try.f107) [.slice 2 0 2 false] [⟨.bytes p0, false⟩, ⟨.bytes p1, false⟩, ⟨.cells [.slice 0 0 l0 false, .slice 1 0 l1 false], false⟩] = r2T g p0 p1 l0 l1 := by kernel_rfl
theorem r2T_eq (g : GOps) {p0 p1 : List Nat} (h : (p0 ++ p1).length + 256 ≤ maxRoom) : r2T g p0 p1 p0.length p1.length = some (keyV (redG g (p0 ++ p1)), none) := by
  unfold r2T
  rw [tkL_eq p0, tkL_eq p1, gds_true]
  intro c hc
  simp only [List.mem_cons, List.not_mem_nil, or_false] at hc
  rcases hc with hh | hh | hh
  · rw [hh]; exact decide_eq_true (by omega)
  · rw [hh]; exact decide_eq_true (by omega)
  · rw [hh]; exact decide_eq_true ⟨trivial, trivial, h⟩
def r3T (g : GOps) (p0 p1 p2 : List Nat) (l0 l1 l2 : Nat) : Option (AV × Option Blk) := gds [decide (0 + l0 ≤ p0.length), decide (0 + l1 ≤ p1.length), decide (0 + l2 ≤ p2.length), decide (l0 = (tkL l0 p0).length ∧ l1 = (tkL l1 p1).length ∧ l2 = (tkL l2 p2).length ∧ (tkL l0 p0 ++ tkL l1 p1 ++ tkL l2 p2).length + 256 ≤ maxRoom)] (some (keyV (redG g (tkL l0 p0 ++ tkL l1 p1 ++ tkL l2 p2)), none))
theorem reduced3_run (g : GOps) (p0 p1 p2 : List Nat) (l0 l1 l2 : Nat) : runG (X_clampP g) [] [0,2,3] 500 Try.f107 (bodyOf Try.f107) [.slice 3 0 3 false] [⟨.bytes p0, false⟩, ⟨.bytes p1, false⟩, ⟨.bytes p2, false⟩, ⟨.cells [.slice 0 0 l0 false, .slice 1 0 l1 false, .slice 2 0 l2 false], false⟩] = r3T g p0 p1 p2 l0 l1 l2 := by kernel_rfl
theorem r3T_eq (g : GOps) {p0 p1 p2 : List Nat} (h : (p0 ++ p1 ++ p2).length + 256 ≤ maxRoom) : r3T g p0 p1 p2 p0.length p1.length p2.length = some (keyV (redG g (p0 ++ p1 ++ p2)), none) := by
  unfold r3T
  rw [tkL_eq p0, tkL_eq p1, tkL_eq p2, gds_true]
  intro c hc
  simp only [List.mem_cons, List.not_mem_nil, or_false] at hc
  rcases hc with hh | hh | hh | hh
  · rw [hh]; exact decide_eq_true (by omega)
  · rw [hh]; exact decide_eq_true (by omega)
  · rw [hh]; exact decide_eq_true (by omega)
  · rw [hh]; exact decide_eq_true ⟨trivial, trivial, trivial, h⟩
def r4T (g : GOps) (p0 p1 p2 p3 : List Nat) (l0 l1 l2 l3 : Nat) : Option (AV × Option Blk) := gds [decide (0 + l0 ≤ p0.length), decide (0 + l1 ≤ p1.length), decide (0 + l2 ≤ p2.length), decide (0 + l3 ≤ p3.length), decide (l0 = (tkL l0 p0).length ∧ l1 = (tkL l1 p1).length ∧ l2 = (tkL l2 p2).length ∧ l3 = (tkL l3 p3).length ∧ (tkL l0 p0 ++ tkL l1 p1 ++ tkL l2 p2 ++ tkL l3 p3).length + 256 ≤ maxRoom)] (some (keyV (redG g (tkL l0 p0 ++ tkL l1 p1 ++ tkL l2 p2 ++ tkL l3 p3)), none))
theorem reduced4_run (g : GOps) (p0 p1 p2 p3 : List Nat) (l0 l1 l2 l3 : Nat) : runG (X_clampP g) [] [0,2,3] 500 Try.f107 (bodyOf Try.f107) [.slice 4 0 4 false] [⟨.bytes p0, false⟩, ⟨.bytes p1, false⟩, ⟨.bytes p2, false⟩, ⟨.bytes p3, false⟩, ⟨.cells [.slice 0 0 l0 false, .slice 1 0 l1 false, .slice 2 0 l2 false, .slice 3 0 l3 false], false⟩] = r4T g p0 p1 p2 p3 l0 l1 l2 l3 := by kernel_rfl
theorem r4T_eq (g : GOps) {p0 p1 p2 p3 : List Nat} (h : (p0 ++ p1 ++ p2 ++ p3).length + 256 ≤ maxRoom) : r4T g p0 p1 p2 p3 p0.length p1.length p2.length p3.length = some (keyV (redG g (p0 ++ p1 ++ p2 ++ p3)), none) := by
  unfold r4T
  rw [tkL_eq p0, tkL_eq p1, tkL_eq p2, tkL_eq p3, gds_true]
  intro c hc
  simp only [List.mem_cons, List.not_mem_nil, or_false] at hc
  rcases hc with hh | hh | hh | hh | hh
  · rw [hh]; exact decide_eq_true (by omega)
  · rw [hh]; exact decide_eq_true (by omega)
  · rw [hh]; exact decide_eq_true (by omega)
  · rw [hh]; exact decide_eq_true (by omega)
  · rw [hh]; exact decide_eq_true ⟨trivial, trivial, trivial, trivial, h⟩
def gReduced (f : List Nat → K32) : List AV → Mem → Option (Bool × AV × Option Blk)
  | [.slice 2 0 2 false], [⟨.bytes p0, false⟩, ⟨.bytes p1, false⟩, ⟨.cells [.slice 0 0 l0 false, .slice 1 0 l1 false], false⟩] => some (decide (l0 = p0.length ∧ l1 = p1.length ∧ (p0 ++ p1).length + 256 ≤ maxRoom), keyV (f (p0 ++ p1)), none)
  | [.slice 3 0 3 false], [⟨.bytes p0, false⟩, ⟨.bytes p1, false⟩, ⟨.bytes p2, false⟩, ⟨.cells [.slice 0 0 l0 false, .slice 1 0 l1 false, .slice 2 0 l2 false], false⟩] => some (decide (l0 = p0.length ∧ l1 = p1.length ∧ l2 = p2.length ∧ (p0 ++ p1 ++ p2).length + 256 ≤ maxRoom), keyV (f (p0 ++ p1 ++ p2)), none)
  | [.slice 4 0 4 false], [⟨.bytes p0, false⟩, ⟨.bytes p1, false⟩, ⟨.bytes p2, false⟩, ⟨.bytes p3, false⟩, ⟨.cells [.slice 0 0 l0 false, .slice 1 0 l1 false, .slice 2 0 l2 false, .slice 3 0 l3 false], false⟩] => some (decide (l0 = p0.length ∧ l1 = p1.length ∧ l2 = p2.length ∧ l3 = p3.length ∧ (p0 ++ p1 ++ p2 ++ p3).length + 256 ≤ maxRoom), keyV (f (p0 ++ p1 ++ p2 ++ p3)), none)
  | _, _ => none
theorem reduced_at : QuietAt Try.prog 107 (grab (gReduced (redG concGO))) := by
  refine quietAt_of_runG X_clampP_ok (keep := [0,2,3]) Try.func107 (c := bodyOf Try.f107) (by kernel_rfl) (by kernel_rfl) LoopsOK.nil fun ar ms cd v nb h hc hw => ?_
  unfold gReduced at h
  split at h
  · cases h
    obtain ⟨rfl, rfl, hl⟩ := of_decide_eq_true hc
    exact ⟨500, _, .refl _, (reduced2_run concGO _ _ _ _).trans (r2T_eq concGO hl)⟩
  · cases h
    obtain ⟨rfl, rfl, rfl, hl⟩ := of_decide_eq_true hc
    exact ⟨500, _, .refl _, (reduced3_run concGO _ _ _ _ _ _).trans (r3T_eq concGO hl)⟩
  · cases h
    obtain ⟨rfl, rfl, rfl, rfl, hl⟩ := of_decide_eq_true hc
    exact ⟨500, _, .refl _, (reduced4_run concGO _ _ _ _ _ _ _ _).trans (r4T_eq concGO hl)⟩
  · cases h
noncomputable def X_red (g : GOps) : Cx := { X_clampP g with O := addQ (X_clampP g).O 107 (grab (gReduced (redG g))) }
theorem X_red_ok : CxOK Try.prog (X_red concGO) := { X_clampP_ok with quiet := addQ_ok X_clampP_ok.quiet reduced_at }
/-- 32 of the bytes, from a place on -/
def keyAt (t : List Nat) (o : Nat) : K32 := K32.ofFn fun i => t.getD (o + i) 0
def c3 (p0 p1 p2 : List Nat) : Bool := decide (32 - 0 = p0.length ∧ 32 - 0 = p1.length ∧ p2.length = p2.length ∧ (p0 ++ p1 ++ p2).length + 256 ≤ maxRoom)
def c3' (l : Nat) (p0 p1 p2 : List Nat) : Bool := decide (32 - 0 = p0.length ∧ 32 - 0 = p1.length ∧ l = p2.length ∧ (p0 ++ p1 ++ p2).length + 256 ≤ maxRoom)
def mdP (g : GOps) (r : K32) : K32 := g.e.bytes (g.e.times g.e.base r)
def mdC (g : GOps) (r a : K32) (b : List Nat) : K32 := redG g ((mdP g r).toList ++ a.toList ++ b)
def mdS (g : GOps) (r s a : K32) (b : List Nat) : K32 := g.e.sadd r (g.e.smul (mdC g r a b) s)
def madeV (g : GOps) (r s a : K32) (b : List Nat) : List Nat := (mdP g r).toList ++ (mdS g r s a b).toList
def madeT (g : GOps) (r s a : K32) (b : List Nat) : Option (AV × Option Blk) := gds [decide (0 + b.length ≤ b.length), c3' b.length (mdP g r).toList a.toList (tkL b.length b)] (some (b64V (madeV g r s a (tkL b.length b)), none))
theorem key_len (k : K32) : k.toList.length = 32 := rfl
theorem c3_ok {a b : K32} {p : List Nat} (h : p.length + 512 ≤ maxRoom) : c3' p.length a.toList b.toList p = true := by
  refine decide_eq_true ⟨rfl, rfl, rfl, ?_⟩
  rw [List.length_append, List.length_append, key_len, key_len]
  omega
theorem madeT_eq (g : GOps) {r s a : K32} {b : List Nat} (h : b.length + 512 ≤ maxRoom) : madeT g r s a b = some (b64V (madeV g r s a b), none) := by
  unfold madeT
  rw [tkL_eq, c3_ok h, decide_eq_true (by omega)]
  rfl
theorem made_run (g : GOps) (r : K32) (s : K32) (a : K32) (b : List Nat) : runNL (X_red g) [] [0,1,2,3,4,5,6,8,9,10,11] 900 Try.f106 (bodyOf Try.f106) (laArgs [.v (keyV r), .v (keyV s), .v (keyV a), .l b] 0) (laLists [.v (keyV r), .v (keyV s), .v (keyV a), .l b]) = madeT g r s a b := by
  kernel_rfl
def u_made (g : GOps) (args : List LA) : Option (AV × Option Blk) := match args with
  | [.v x0, .v x1, .v x2, .l b] => (match key? x0, key? x1, key? x2 with
    | some r, some s, some a => some (b64V (madeV g r s a b), none)
    | _, _, _ => none)
  | _ => none
def c_made (args : List LA) : Bool := match args with
  | [.v x0, .v x1, .v x2, .l b] => (match key? x0, key? x1, key? x2 with
    | some _, some _, some _ => decide (b.length + 512 ≤ maxRoom)
    | _, _, _ => false)
  | _ => false
def g_made (g : GOps) (args : List LA) : Option (AV × Option Blk) := bif c_made args then u_made g args else none
theorem made_at : QuietAt Try.prog 106 (lav (g_made concGO)) := by
  refine quietAt_of_runA X_red_ok (L := []) (keep := [0,1,2,3,4,5,6,8,9,10,11]) Try.func106 (c := bodyOf Try.f106) (by kernel_rfl) (by kernel_rfl) (LoopsOK.nil) fun args v h hw => ⟨900, ?_⟩
  unfold g_made at h
  have hg := (bif_some h).1
  replace h := (bif_some h).2
  unfold u_made at h
  split at h
  · rename_i x0 x1 x2 b
    split at h
    · rename_i r s a hh0 hh1 hh2
      have ehh0 := key?_some hh0
      subst ehh0
      have ehh1 := key?_some hh1
      subst ehh1
      have ehh2 := key?_some hh2
      subst ehh2
      replace hg : (decide (b.length + 512 ≤ maxRoom)) = true := hg
      rw [← h]
      refine (made_run concGO r s a b).trans ?_
      exact madeT_eq concGO (of_decide_eq_true hg)
    · cases h
  · cases h
noncomputable def X_made (g : GOps) : Cx := { X_red g with O := addQ (X_red g).O 106 (lavG c_made (u_made g)) }
theorem X_made_ok : CxOK Try.prog (X_made concGO) := { X_red_ok with quiet := addQ_ok X_red_ok.quiet (lavG_at made_at) }
def hlW (g : GOps) (t : List Nat) : K32 × Int := g.e.swhole (keyAt t 32)
def hlC (g : GOps) (p : Rungs) (b t : List Nat) : K32 := redG g ((keyAt t 0).toList ++ (g.e.bytes p).toList ++ b)
def hlB (g : GOps) (p : Rungs) (b t : List Nat) : K32 := g.e.bytes (g.e.psub (g.e.times g.e.base (hlW g t).1) (g.e.times p (hlC g p b t)))
def nV (i : Int) : Option (AV × Option Blk) := some (.n i, none)
noncomputable def holdT (g : GOps) (p : Rungs) (b t : List Nat) : Option (AV × Option Blk) := brn (g.e.small p) (nV 200) (brn (!decide ((hlW g t).2 = 0)) (nV 191)
  (gds [decide (0 + b.length ≤ b.length), c3' b.length (keyAt t 0).toList (g.e.bytes p).toList (tkL b.length b)] (brn (!keyEq (hlB g p (tkL b.length b) t) (keyAt t 0)) (nV 201) (nV 0))))
def holdV (g : GOps) (p : Rungs) (b t : List Nat) : Int := bif g.e.small p then 200 else bif !decide ((hlW g t).2 = 0) then 191 else bif !keyEq (hlB g p b t) (keyAt t 0) then 201 else 0
theorem holdT_eq (g : GOps) {p : Rungs} {b t : List Nat} (h : b.length + 512 ≤ maxRoom) : holdT g p b t = some (.n (holdV g p b t), none) := by
  unfold holdT holdV
  rw [tkL_eq, c3_ok h, decide_eq_true (show 0 + b.length ≤ b.length by omega)]
  cases g.e.small p <;> cases decide ((hlW g t).2 = 0) <;> cases keyEq (hlB g p b t) (keyAt t 0) <;> rfl
theorem holds_run (g : GOps) (p : Rungs) (b : List Nat) (t : List Nat) : runNL (X_made g) [] [0,1,2,3,5,6,7,8,9,10,12,21,40] 900 Try.f85 (bodyOf Try.f85) (laArgs [.v (rungsV p), .l b, .v (b64V t)] 0) (laLists [.v (rungsV p), .l b, .v (b64V t)]) = holdT g p b t := by
  kernel_rfl
def u_holds (g : GOps) (args : List LA) : Option (AV × Option Blk) := match args with
  | [.v x0, .l b, .v x2] => (match rungs? x0, b64? x2 with
    | some p, some t => some (.n (holdV g p b t), none)
    | _, _ => none)
  | _ => none
def c_holds (args : List LA) : Bool := match args with
  | [.v x0, .l b, .v x2] => (match rungs? x0, b64? x2 with
    | some _, some _ => decide (b.length + 512 ≤ maxRoom)
    | _, _ => false)
  | _ => false
def g_holds (g : GOps) (args : List LA) : Option (AV × Option Blk) := bif c_holds args then u_holds g args else none
theorem holds_at : QuietAt Try.prog 85 (lav (g_holds concGO)) := by
  refine quietAt_of_runA X_made_ok (L := []) (keep := [0,1,2,3,5,6,7,8,9,10,12,21,40]) Try.func85 (c := bodyOf Try.f85) (by kernel_rfl) (by kernel_rfl) (LoopsOK.nil) fun args v h hw => ⟨900, ?_⟩
  unfold g_holds at h
  have hg := (bif_some h).1
  replace h := (bif_some h).2
  unfold u_holds at h
  split at h
  · rename_i x0 b x2
    split at h
    · rename_i p t hh0 hh1
      have ehh0 := rungs?_some hh0
      subst ehh0
      have ehh1 := b64?_some hh1
      subst ehh1
      replace hg : (decide (b.length + 512 ≤ maxRoom)) = true := hg
      rw [← h]
      refine (holds_run concGO p b t).trans ?_
      exact holdT_eq concGO (of_decide_eq_true hg)
    · cases h
  · cases h
noncomputable def X_holds (g : GOps) : Cx := { X_made g with O := addQ (X_made g).O 85 (lavG c_holds (u_holds g)) }
theorem X_holds_ok : CxOK Try.prog (X_holds concGO) := { X_made_ok with quiet := addQ_ok X_made_ok.quiet (lavG_at holds_at) }
noncomputable def m_parts (g : GOps) : List AV → Mem → ∀ {ρ : Type}, (AV → Mem → Option ρ) → Option ρ := fun args mem _ K => runKL (X_holds g) [] [0,2,3,4] 200 Try.f140 (bodyOf Try.f140) args mem K
theorem m_parts_at : LoudAt Try.prog 140 (m_parts concGO) := loudAt_of_run (L := []) X_holds_ok Try.func140 (by kernel_rfl) (by kernel_rfl) (LoopsOK.nil)
noncomputable def X_parts (g : GOps) : Cx := { X_holds g with M := addM (X_holds g).M 140 (m_parts g) }
theorem X_parts_ok : CxOK Try.prog (X_parts concGO) := { X_holds_ok with loud := addM_ok X_holds_ok.loud m_parts_at }
def secK (g : GOps) (seed : List Nat) : K32 := clampS (keyAt (g.hash seed) 0)
def preL (g : GOps) (seed : List Nat) : List Nat := (keyAt (g.hash seed) 32).toList
def is32 (seed : List Nat) : Bool := decide ((seed.length : Int) = 32)
def pubK (g : GOps) (seed : List Nat) : K32 := g.e.bytes (g.e.scale g.e.base (secK g seed).toList)
def pubV (g : GOps) (seed : List Nat) : K32 := bif is32 seed then pubK g seed else zeroK
noncomputable def pubT (g : GOps) (seed : List Nat) : Option (AV × Option Blk) := brn (!is32 seed) (some (.tup [keyV zeroK, .n 3], none)) (gds [decide (0 + seed.length ≤ seed.length), decide ((tkL seed.length seed).length + 128 ≤ maxRoom)] (some (.tup [keyV (pubK g (tkL seed.length seed)), .n 0], none)))
theorem is32_iff {seed : List Nat} : is32 seed = true ↔ seed.length = 32 := by unfold is32; rw [decide_eq_true_eq]; omega
theorem pubT_eq (g : GOps) (seed : List Nat) : pubT g seed = some (.tup [keyV (pubV g seed), .n (bif is32 seed then 0 else 3)], none) := by
  unfold pubT pubV
  cases h : is32 seed
  · rfl
  · have hl := is32_iff.1 h
    have hm : maxRoom = 175921860444160 := rfl
    rw [tkL_eq, decide_eq_true (show 0 + seed.length ≤ seed.length by omega), decide_eq_true (show seed.length + 128 ≤ maxRoom by omega)]
    rfl
theorem pub_run (g : GOps) (seed : List Nat) : runNL (X_parts g) [] [0,2,3,4,8] 400 Try.f76 (bodyOf Try.f76) (laArgs [.l seed] 0) (laLists [.l seed]) = pubT g seed := by
  kernel_rfl
def g_pub (g : GOps) (args : List LA) : Option (AV × Option Blk) := match args with
  | [.l seed] => some (.tup [keyV (pubV g seed), .n (bif is32 seed then 0 else 3)], none)
  | _ => none
theorem pub_at : QuietAt Try.prog 76 (lav (g_pub concGO)) := by
  refine quietAt_of_runA X_parts_ok (L := []) (keep := [0,2,3,4,8]) Try.func76 (c := bodyOf Try.f76) (by kernel_rfl) (by kernel_rfl) (LoopsOK.nil) fun args v h hw => ⟨400, ?_⟩
  unfold g_pub at h
  split at h
  · rename_i seed
    rw [← h]
    refine (pub_run concGO seed).trans ?_
    exact pubT_eq concGO seed
  · cases h
noncomputable def X_pub (g : GOps) : Cx := { X_parts g with O := addQ (X_parts g).O 76 (lav (g_pub g)) }
theorem X_pub_ok : CxOK Try.prog (X_pub concGO) := { X_parts_ok with quiet := addQ_ok X_parts_ok.quiet pub_at }
def zero64 : List Nat := List.replicate 64 0
def sgR (g : GOps) (seed b : List Nat) : K32 := redG g (preL g seed ++ b)
def sgS (g : GOps) (seed : List Nat) : K32 := g.e.sred (secK g seed).toList
def signV (g : GOps) (seed b : List Nat) : List Nat := bif is32 seed then madeV g (sgR g seed b) (sgS g seed) (pubK g seed) b else zero64
def c2' (l : Nat) (p0 p1 : List Nat) : Bool := decide (64 - 32 = p0.length ∧ l = p1.length ∧ (p0 ++ p1).length + 256 ≤ maxRoom)
noncomputable def signT (g : GOps) (seed b sd bb : List Nat) : Option (AV × Option Blk) := gds [decide (0 + seed.length ≤ seed.length)] (brn (!decide ((bif is32 sd then (0 : Int) else 3) = 0)) (some (.tup [b64V zero64, .n (bif is32 sd then 0 else 3)], none))
  (gds [decide (0 + seed.length ≤ seed.length), decide (sd.length + 128 ≤ maxRoom), decide (0 + b.length ≤ b.length), c2' b.length (preL g sd) bb, decide (0 + b.length ≤ b.length), decide (bb.length + 512 ≤ maxRoom)]
    (some (.tup [b64V (madeV g (sgR g sd bb) (sgS g sd) (pubV g sd) bb), .n 0], none))))
theorem signT_eq (g : GOps) {seed b : List Nat} (h : b.length + 512 ≤ maxRoom) : signT g seed b (tkL seed.length seed) (tkL b.length b) = some (.tup [b64V (signV g seed b), .n (bif is32 seed then 0 else 3)], none) := by
  unfold signT signV
  have hm : maxRoom = 175921860444160 := rfl
  rw [tkL_eq, tkL_eq, gds_true]
  · cases hs : is32 seed
    · rfl
    · have hl := is32_iff.1 hs
      have hc : c2' b.length (preL g seed) b = true := by
        refine decide_eq_true ⟨rfl, rfl, ?_⟩
        rw [List.length_append, show (preL g seed).length = 32 from rfl]
        omega
      have hp : pubV g seed = pubK g seed := by unfold pubV; rw [hs]; rfl
      rw [hc, hp, decide_eq_true (show 0 + seed.length ≤ seed.length by omega), decide_eq_true (show seed.length + 128 ≤ maxRoom by omega), decide_eq_true (show 0 + b.length ≤ b.length by omega), decide_eq_true h]
      rfl
  · intro c hc
    simp only [List.mem_cons, List.not_mem_nil, or_false] at hc
    rw [hc]; exact decide_eq_true (by omega)
theorem sign_run (g : GOps) (seed : List Nat) (b : List Nat) : runNL (X_pub g) [] [0,1,4,5,6,7,8,9,16] 400 Try.f81 (bodyOf Try.f81) (laArgs [.l seed, .l b] 0) (laLists [.l seed, .l b]) = signT g seed b (tkL seed.length seed) (tkL b.length b) := by
  kernel_rfl
def u_sign (g : GOps) (args : List LA) : Option (AV × Option Blk) := match args with
  | [.l seed, .l b] => some (.tup [b64V (signV g seed b), .n (bif is32 seed then 0 else 3)], none)
  | _ => none
def c_sign (args : List LA) : Bool := match args with
  | [.l _, .l b] => decide (b.length + 512 ≤ maxRoom)
  | _ => false
def g_sign (g : GOps) (args : List LA) : Option (AV × Option Blk) := bif c_sign args then u_sign g args else none
theorem sign_at : QuietAt Try.prog 81 (lav (g_sign concGO)) := by
  refine quietAt_of_runA X_pub_ok (L := []) (keep := [0,1,4,5,6,7,8,9,16]) Try.func81 (c := bodyOf Try.f81) (by kernel_rfl) (by kernel_rfl) (LoopsOK.nil) fun args v h hw => ⟨400, ?_⟩
  unfold g_sign at h
  have hg := (bif_some h).1
  replace h := (bif_some h).2
  unfold u_sign at h
  split at h
  · rename_i seed b
    replace hg : (decide (b.length + 512 ≤ maxRoom)) = true := hg
    rw [← h]
    refine (sign_run concGO seed b).trans ?_
    exact signT_eq concGO (of_decide_eq_true hg)
  · cases h
noncomputable def X_sign (g : GOps) : Cx := { X_pub g with O := addQ (X_pub g).O 81 (lavG c_sign (u_sign g)) }
theorem X_sign_ok : CxOK Try.prog (X_sign concGO) := { X_pub_ok with quiet := addQ_ok X_pub_ok.quiet (lavG_at sign_at) }
def checkV (g : GOps) (k : K32) (b t : List Nat) : Int := bif decide ((g.e.parse k).2 = 0) then holdV g (g.e.parse k).1 b t else 190
noncomputable def checkT (g : GOps) (k : K32) (b t : List Nat) : Option (AV × Option Blk) := brn (!decide ((g.e.parse k).2 = 0)) (nV 190) (gds [decide (0 + b.length ≤ b.length), decide ((tkL b.length b).length + 512 ≤ maxRoom)] (nV (holdV g (g.e.parse k).1 (tkL b.length b) t)))
theorem checkT_eq (g : GOps) {k : K32} {b t : List Nat} (h : b.length + 512 ≤ maxRoom) : checkT g k b t = some (.n (checkV g k b t), none) := by
  unfold checkT checkV
  rw [tkL_eq, decide_eq_true (show 0 + b.length ≤ b.length by omega), decide_eq_true h]
  cases decide ((g.e.parse k).2 = 0) <;> rfl
theorem check_run (g : GOps) (k : K32) (b : List Nat) (t : List Nat) : runNL (X_sign g) [] [0,1,2,3,5,6,7,8,15] 400 Try.f24 (bodyOf Try.f24) (laArgs [.v (keyV k), .l b, .v (b64V t)] 0) (laLists [.v (keyV k), .l b, .v (b64V t)]) = checkT g k b t := by
  kernel_rfl
def u_check (g : GOps) (args : List LA) : Option (AV × Option Blk) := match args with
  | [.v x0, .l b, .v x2] => (match key? x0, b64? x2 with
    | some k, some t => some (.n (checkV g k b t), none)
    | _, _ => none)
  | _ => none
def c_check (args : List LA) : Bool := match args with
  | [.v x0, .l b, .v x2] => (match key? x0, b64? x2 with
    | some _, some _ => decide (b.length + 512 ≤ maxRoom)
    | _, _ => false)
  | _ => false
def g_check (g : GOps) (args : List LA) : Option (AV × Option Blk) := bif c_check args then u_check g args else none
theorem check_at : QuietAt Try.prog 24 (lav (g_check concGO)) := by
  refine quietAt_of_runA X_sign_ok (L := []) (keep := [0,1,2,3,5,6,7,8,15]) Try.func24 (c := bodyOf Try.f24) (by kernel_rfl) (by kernel_rfl) (LoopsOK.nil) fun args v h hw => ⟨400, ?_⟩
  unfold g_check at h
  have hg := (bif_some h).1
  replace h := (bif_some h).2
  unfold u_check at h
  split at h
  · rename_i x0 b x2
    split at h
    · rename_i k t hh0 hh1
      have ehh0 := key?_some hh0
      subst ehh0
      have ehh1 := b64?_some hh1
      subst ehh1
      replace hg : (decide (b.length + 512 ≤ maxRoom)) = true := hg
      rw [← h]
      refine (check_run concGO k b t).trans ?_
      exact checkT_eq concGO (of_decide_eq_true hg)
    · cases h
  · cases h
noncomputable def X_check (g : GOps) : Cx := { X_sign g with O := addQ (X_sign g).O 24 (lavG c_check (u_check g)) }
theorem X_check_ok : CxOK Try.prog (X_check concGO) := { X_sign_ok with quiet := addQ_ok X_sign_ok.quiet (lavG_at check_at) }
def hnK (g : GOps) (k : K32) : Bool := keyEq (g.e.fo.bytes (g.e.fo.frm k)) k
def honourV (g : GOps) (k : K32) (b t : List Nat) : Int := bif hnK g k && decide ((g.e.lift k false).2 = 0) then holdV g (g.e.lift k false).1 b t else 190
noncomputable def honourT (g : GOps) (k : K32) (b t : List Nat) : Option (AV × Option Blk) := brn (!hnK g k) (nV 190) (brn (!decide ((g.e.lift k false).2 = 0)) (nV 190) (gds [decide (0 + b.length ≤ b.length), decide ((tkL b.length b).length + 512 ≤ maxRoom)] (nV (holdV g (g.e.lift k false).1 (tkL b.length b) t))))
theorem honourT_eq (g : GOps) {k : K32} {b t : List Nat} (h : b.length + 512 ≤ maxRoom) : honourT g k b t = some (.n (honourV g k b t), none) := by
  unfold honourT honourV
  rw [tkL_eq, decide_eq_true (show 0 + b.length ≤ b.length by omega), decide_eq_true h]
  cases hnK g k <;> cases decide ((g.e.lift k false).2 = 0) <;> rfl
theorem honour_run (g : GOps) (k : K32) (b : List Nat) (t : List Nat) : runNL (X_check g) [] [0,1,2,3,5,6,7,8,20,21,22] 400 Try.f20 (bodyOf Try.f20) (laArgs [.v (keyV k), .l b, .v (b64V t)] 0) (laLists [.v (keyV k), .l b, .v (b64V t)]) = honourT g k b t := by
  kernel_rfl
def u_honour (g : GOps) (args : List LA) : Option (AV × Option Blk) := match args with
  | [.v x0, .l b, .v x2] => (match key? x0, b64? x2 with
    | some k, some t => some (.n (honourV g k b t), none)
    | _, _ => none)
  | _ => none
def c_honour (args : List LA) : Bool := match args with
  | [.v x0, .l b, .v x2] => (match key? x0, b64? x2 with
    | some _, some _ => decide (b.length + 512 ≤ maxRoom)
    | _, _ => false)
  | _ => false
def g_honour (g : GOps) (args : List LA) : Option (AV × Option Blk) := bif c_honour args then u_honour g args else none
theorem honour_at : QuietAt Try.prog 20 (lav (g_honour concGO)) := by
  refine quietAt_of_runA X_check_ok (L := []) (keep := [0,1,2,3,5,6,7,8,20,21,22]) Try.func20 (c := bodyOf Try.f20) (by kernel_rfl) (by kernel_rfl) (LoopsOK.nil) fun args v h hw => ⟨400, ?_⟩
  unfold g_honour at h
  have hg := (bif_some h).1
  replace h := (bif_some h).2
  unfold u_honour at h
  split at h
  · rename_i x0 b x2
    split at h
    · rename_i k t hh0 hh1
      have ehh0 := key?_some hh0
      subst ehh0
      have ehh1 := b64?_some hh1
      subst ehh1
      replace hg : (decide (b.length + 512 ≤ maxRoom)) = true := hg
      rw [← h]
      refine (honour_run concGO k b t).trans ?_
      exact honourT_eq concGO (of_decide_eq_true hg)
    · cases h
  · cases h
noncomputable def X_honour (g : GOps) : Cx := { X_check g with O := addQ (X_check g).O 20 (lavG c_honour (u_honour g)) }
theorem X_honour_ok : CxOK Try.prog (X_honour concGO) := { X_check_ok with quiet := addQ_ok X_check_ok.quiet (lavG_at honour_at) }
/-! ### Lend -/
def firstL : List Nat := [254, 255, 255, 255, 255, 255, 255, 255, 255, 255, 255, 255, 255, 255, 255, 255, 255, 255, 255, 255, 255, 255, 255, 255, 255, 255, 255, 255, 255, 255, 255, 255]
def is64 (m : List Nat) : Bool := decide ((m.length : Int) = 64)
def lnP (g : GOps) (k : K32) : Rungs := g.e.scale g.e.base (clampS k).toList
def lnS (g : GOps) (k : K32) : K32 := g.e.sred (clampS k).toList
def lnH (g : GOps) (k : K32) : Bool := !decide ((g.e.bytes (lnP g k)).b31 &&& 128 = 0)
def lnR (g : GOps) (s : K32) (b m : List Nat) : K32 := redG g (firstL ++ s.toList ++ b ++ m)
def c4' (lb lm : Nat) (p0 p1 p2 p3 : List Nat) : Bool := decide (32 = p0.length ∧ 32 - 0 = p1.length ∧ lb = p2.length ∧ lm = p3.length ∧ (p0 ++ p1 ++ p2 ++ p3).length + 256 ≤ maxRoom)
def lnX (g : GOps) (s a : K32) (b m bb mm : List Nat) : Option (AV × Option Blk) := gds [decide (0 + b.length ≤ b.length), decide (0 + m.length ≤ m.length), c4' b.length m.length firstL s.toList bb mm, decide (0 + b.length ≤ b.length), decide (bb.length + 512 ≤ maxRoom)] (some (.tup [b64V (madeV g (lnR g s bb mm) s a bb), .n 0], none))
noncomputable def lendT (g : GOps) (k : K32) (b m bb mm : List Nat) : Option (AV × Option Blk) := brn (!is64 m) (some (.tup [b64V zero64, .n 3], none)) (brn (lnH g k) (lnX g (g.e.sneg (lnS g k)) (g.e.bytes (g.e.pneg (lnP g k))) b m bb mm) (lnX g (lnS g k) (g.e.bytes (lnP g k)) b m bb mm))
def lendS (g : GOps) (k : K32) : K32 := bif lnH g k then g.e.sneg (lnS g k) else lnS g k
def lendA (g : GOps) (k : K32) : K32 := bif lnH g k then g.e.bytes (g.e.pneg (lnP g k)) else g.e.bytes (lnP g k)
def lendV (g : GOps) (k : K32) (b m : List Nat) : List Nat := bif is64 m then madeV g (lnR g (lendS g k) b m) (lendS g k) (lendA g k) b else zero64
theorem is64_iff {m : List Nat} : is64 m = true ↔ m.length = 64 := by unfold is64; rw [decide_eq_true_eq]; omega
theorem lnX_eq (g : GOps) {s a : K32} {b m : List Nat} (h : b.length + 512 ≤ maxRoom) (hm : m.length = 64) : lnX g s a b m b m = some (.tup [b64V (madeV g (lnR g s b m) s a b), .n 0], none) := by
  unfold lnX
  have hx : maxRoom = 175921860444160 := rfl
  have hc : c4' b.length m.length firstL s.toList b m = true := by
    refine decide_eq_true ⟨rfl, rfl, rfl, rfl, ?_⟩
    rw [List.length_append, List.length_append, List.length_append, key_len, hm, show firstL.length = 32 from rfl]
    omega
  rw [hc, decide_eq_true (show 0 + b.length ≤ b.length by omega), decide_eq_true (show 0 + m.length ≤ m.length by omega), decide_eq_true h]
  rfl
theorem lendT_eq (g : GOps) {k : K32} {b m : List Nat} (h : b.length + 512 ≤ maxRoom) : lendT g k b m (tkL b.length b) (tkL m.length m) = some (.tup [b64V (lendV g k b m), .n (bif is64 m then 0 else 3)], none) := by
  unfold lendT lendV lendS lendA
  rw [tkL_eq, tkL_eq]
  cases hs : is64 m
  · rfl
  · rw [lnX_eq g h (is64_iff.1 hs), lnX_eq g h (is64_iff.1 hs)]
    cases lnH g k <;> rfl
theorem lend_run (g : GOps) (k : K32) (b : List Nat) (m : List Nat) : runNL (X_honour g) [] [0,1,2,3,6,7,8,9,10,11,12,13,14,17,31,40,41,42] 900 Try.f42 (bodyOf Try.f42) (laArgs [.v (keyV k), .l b, .l m] 0) (laLists [.v (keyV k), .l b, .l m]) = lendT g k b m (tkL b.length b) (tkL m.length m) := by
  kernel_rfl
def u_lend (g : GOps) (args : List LA) : Option (AV × Option Blk) := match args with
  | [.v x0, .l b, .l m] => (match key? x0 with
    | some k => some (.tup [b64V (lendV g k b m), .n (bif is64 m then 0 else 3)], none)
    | _ => none)
  | _ => none
def c_lend (args : List LA) : Bool := match args with
  | [.v x0, .l b, .l _] => (match key? x0 with
    | some _ => decide (b.length + 512 ≤ maxRoom)
    | _ => false)
  | _ => false
def g_lend (g : GOps) (args : List LA) : Option (AV × Option Blk) := bif c_lend args then u_lend g args else none
theorem lend_at : QuietAt Try.prog 42 (lav (g_lend concGO)) := by
  refine quietAt_of_runA X_honour_ok (L := []) (keep := [0,1,2,3,6,7,8,9,10,11,12,13,14,17,31,40,41,42]) Try.func42 (c := bodyOf Try.f42) (by kernel_rfl) (by kernel_rfl) (LoopsOK.nil) fun args v h hw => ⟨900, ?_⟩
  unfold g_lend at h
  have hg := (bif_some h).1
  replace h := (bif_some h).2
  unfold u_lend at h
  split at h
  · rename_i x0 b m
    split at h
    · rename_i k hh0
      have ehh0 := key?_some hh0
      subst ehh0
      replace hg : (decide (b.length + 512 ≤ maxRoom)) = true := hg
      rw [← h]
      refine (lend_run concGO k b m).trans ?_
      exact lendT_eq concGO (of_decide_eq_true hg)
    · cases h
  · cases h
noncomputable def X_lend (g : GOps) : Cx := { X_honour g with O := addQ (X_honour g).O 42 (lavG c_lend (u_lend g)) }
theorem X_lend_ok : CxOK Try.prog (X_lend concGO) := { X_honour_ok with quiet := addQ_ok X_honour_ok.quiet (lavG_at lend_at) }
end Go.Proofs.Ytnnjaijokiknkaa

