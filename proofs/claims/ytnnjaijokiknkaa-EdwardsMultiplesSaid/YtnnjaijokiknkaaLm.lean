/- The law EdwardsMultiples: multiples add and multiply; the order: it answers true for every input. No conditions. -/
import Derived.Test.YtnnjaijokiknkaaOr
import Derived.Test.YtnnjaijokiknkaaOq
namespace Go.Proofs.Ytnnjaijokiknkaa
open Go Pw Go.RowKit
def tkE (l : Nat) (p : List Nat) : List Nat := List.take l (List.drop 0 p)
theorem tkE_eq (p : List Nat) : tkE p.length p = p := by unfold tkE; rw [List.drop_zero, List.take_length]
def z1L : List Nat := List.take 1 (List.drop 0 [Int.toNat 0])
def e8L : List Nat := List.take 1 (List.drop 0 [8])
def emA (k : List Nat) : List Nat := tkE (k.length + z1L.length) (tkE k.length k ++ z1L)
def emB (k : List Nat) : List Nat := tkE (1 + k.length) (z1L ++ k)
def c62 (k : List Nat) : Bool := decide (k.length < 4611686018427387904)
def emSm (e : EOps) (p q : Rungs) : Bool := allId (sameL19 e p q)
noncomputable def emT2 (e : EOps) (p i : Rungs) (k kk : List Nat) : Option (AV × Option Blk) :=
  gds [decide (0 + k.length ≤ k.length), c62 kk] (brn (!emSm e (e.scale i kk) (e.times i (e.sred kk))) noB
    (gds [decide (0 + k.length ≤ k.length), decide (kk.length ≤ maxRoom), decide (0 + kk.length ≤ kk.length), decide (kk.length + z1L.length ≤ maxRoom), decide (0 + (kk.length + z1L.length) ≤ (tkE kk.length kk ++ z1L).length), c62 (emA kk), decide (0 + k.length ≤ k.length), c62 kk]
      (brn (!emSm e (e.scale p (emA kk)) (e.scale p kk)) noB
        (gds [decide (0 + k.length ≤ k.length), decide (1 + kk.length ≤ maxRoom), decide (0 + (1 + kk.length) ≤ (z1L ++ kk).length), c62 (emB kk), decide (0 + k.length ≤ k.length), c62 kk]
          (brn (emSm e (e.scale p (emB kk)) (e.scale (e.scale p kk) (List.take 2 (List.drop 0 [0, 1])))) (some (.bool (emSm e (e.psub (e.times e.base (e.sred kk)) (e.times e.base (e.sred kk))) zeroP), none)) noB)))))
noncomputable def emT1 (e : EOps) (p i : Rungs) (k l kk ll : List Nat) : Option (AV × Option Blk) :=
  gds [decide (0 + k.length ≤ k.length), c62 kk, decide (0 + l.length ≤ l.length), c62 ll]
    (brn (!emSm e (e.times i (e.sadd (e.sred kk) (e.sred ll))) (e.padd (e.times i (e.sred kk)) (e.times i (e.sred ll)))) noB
      (brn (!emSm e (e.times i (e.smul (e.sred kk) (e.sred ll))) (e.times (e.times i (e.sred ll)) (e.sred kk))) noB (emT2 e p i k kk)))
noncomputable def emT (e : EOps) (a : K32) (k l kk ll : List Nat) : Option (AV × Option Blk) :=
  brn (!allId (livesL19 e)) noB (brn (!e.isn (e.scale e.base ordL)) noB (brn (!e.isn (e.scale (e.scale (e.parse a).1 e8L) ordL)) noB (emT1 e (e.parse a).1 (e.scale (e.parse a).1 e8L) k l kk ll)))
theorem lawEM0_run (e : EOps) (a : K32) (l : List Nat) : runNL (XOr e) [] [0,1,2,3,6,7,9,10,11,12,14,30,31,32,33,34,35,55,56,57,58,59,60,61,62,63,64,65,66,67,77,78,79,80,81,82,83,84,85,86,87,88,89,102,103,104,105,106,107,108,109,110] 900 Try.f14 (bodyOf Try.f14) (laArgs [.v (keyV a), .l [], .l l] 0) (laLists [.v (keyV a), .l [], .l l]) = emT e a [] l (tkE 0 []) (tkE l.length l) := by kernel_rfl
theorem lawEM1_run (e : EOps) (a : K32) (x : Nat) (k l : List Nat) : runNL (XOr e) [] [0,1,2,3,6,7,9,10,11,12,14,30,31,32,33,34,35,55,56,57,58,59,60,61,62,63,64,65,66,67,77,78,79,80,81,82,83,84,85,86,87,88,89,102,103,104,105,106,107,108,109,110] 900 Try.f14 (bodyOf Try.f14) (laArgs [.v (keyV a), .l (x :: k), .l l] 0) (laLists [.v (keyV a), .l (x :: k), .l l]) = emT e a (x :: k) l (tkE (x :: k).length (x :: k)) (tkE l.length l) := by kernel_rfl
theorem lawEM_run (e : EOps) (a : K32) : ∀ (k l : List Nat), runNL (XOr e) [] [0,1,2,3,6,7,9,10,11,12,14,30,31,32,33,34,35,55,56,57,58,59,60,61,62,63,64,65,66,67,77,78,79,80,81,82,83,84,85,86,87,88,89,102,103,104,105,106,107,108,109,110] 900 Try.f14 (bodyOf Try.f14) (laArgs [.v (keyV a), .l k, .l l] 0) (laLists [.v (keyV a), .l k, .l l]) = emT e a k l k l
  | [], l => by have := lawEM0_run e a l; rwa [tkE_eq, show tkE 0 [] = [] from rfl] at this
  | x :: k, l => by have := lawEM1_run e a x k l; rwa [tkE_eq, tkE_eq] at this
theorem z1L_eq : z1L = [0] := rfl
theorem emA_eq (k : List Nat) : emA k = k ++ [0] := by
  unfold emA
  rw [tkE_eq, z1L_eq, ← List.length_append, tkE_eq]
theorem emB_eq (k : List Nat) : emB k = 0 :: k := by
  unfold emB
  rw [z1L_eq, show 1 + k.length = ([0] ++ k).length by rw [List.length_append]; rfl, tkE_eq]
  rfl
theorem em_bytes {k : List Nat} (h : ∀ c ∈ k, c < 256) : (∀ c ∈ k ++ [0], c < 256) ∧ (∀ c ∈ 0 :: k, c < 256) := by
  constructor
  · intro c hc
    rcases List.mem_append.1 hc with h1 | h1
    · exact h c h1
    · simp at h1; omega
  · intro c hc
    rcases List.mem_cons.1 hc with h1 | h1
    · omega
    · exact h c h1
theorem sm_of {e : EOps} (H : EGood e) {p q : Rungs} {P Q : EPt} (h : PO p P) (h' : PO q Q) (hpq : P = Q) : emSm e p q = true := by
  unfold emSm
  rw [H.same h h', decide_eq_true hpq]
theorem em2_true {e : EOps} (H : EGood e) {p : Rungs} {P : EPt} (hp : PO p P) {i : Rungs} (hi : PO i (P.mul 8)) {k : List Nat} (hk : ∀ c ∈ k, c < 256) (lk : k.length ≤ 140737488351232) : emT2 e p i k k = some (.bool true, none) := by
  have hm : maxRoom = 175921860444160 := rfl
  have nk : NK (e.sred k) (leB k % LN) := H.sred hk
  have h1 : emSm e (e.scale i k) (e.times i (e.sred k)) = true := sm_of H (H.scale hi hk) (H.times hi nk.wf) (by rw [nk.val, eight_mod])
  have h2 : emSm e (e.scale p (emA k)) (e.scale p k) = true := by
    rw [emA_eq]
    refine sm_of H (H.scale hp (em_bytes hk).1) (H.scale hp hk) ?_
    rw [leB_app]
    congr 1
  have h3 : emSm e (e.scale p (emB k)) (e.scale (e.scale p k) (List.take 2 (List.drop 0 [0, 1]))) = true := by
    rw [emB_eq]
    refine sm_of H (H.scale hp (em_bytes hk).2) (H.scale (b := List.take 2 (List.drop 0 [0, 1])) (H.scale hp hk) (by decide)) ?_
    rw [show leB (List.take 2 (List.drop 0 [0, 1])) = 256 by decide, ← EP.mul_mul, leB_cons, Nat.zero_add, Nat.mul_comm]
  have h4 : emSm e (e.psub (e.times e.base (e.sred k)) (e.times e.base (e.sred k))) zeroP = true :=
    sm_of H (H.psub (H.times H.base nk.wf) (H.times H.base nk.wf)) PO.zero (EP.add_neg _)
  have lA : (emA k).length = k.length + 1 := by rw [emA_eq, List.length_append]; rfl
  have lB : (emB k).length = k.length + 1 := by rw [emB_eq, List.length_cons]
  have lz : z1L.length = 1 := rfl
  unfold emT2 c62
  rw [h1, h2, h3, h4, tkE_eq, lA, lB, List.length_append, List.length_append, lz, gds_true]
  · show gds _ _ = _
    rw [gds_true]
    · show gds _ _ = _
      rw [gds_true]
      · rfl
      · intro c hc
        simp only [List.mem_cons, List.not_mem_nil, or_false] at hc
        rcases hc with h | h | h | h | h | h <;> (rw [h]; exact decide_eq_true (by omega))
    · intro c hc
      simp only [List.mem_cons, List.not_mem_nil, or_false] at hc
      rcases hc with h | h | h | h | h | h | h | h <;> (rw [h]; exact decide_eq_true (by omega))
  · intro c hc
    simp only [List.mem_cons, List.not_mem_nil, or_false] at hc
    rcases hc with h | h <;> (rw [h]; exact decide_eq_true (by omega))
theorem em_true {e : EOps} (H : EGood e) {a : K32} {k l : List Nat} (ha : a.wf) (hk : ∀ c ∈ k, c < 256) (hl : ∀ c ∈ l, c < 256) (lk : k.length ≤ 140737488351232) (ll : l.length ≤ 140737488351232) : emT e a k l k l = some (.bool true, none) := by
  have hP : ∃ P, PO (e.parse a).1 P := by
    rcases H.parse ha with ⟨P, -, -, h⟩ | ⟨-, -, h⟩
    · exact ⟨P, h⟩
    · exact ⟨_, h⟩
  obtain ⟨P, hp⟩ := hP
  have hi := H.scale (b := e8L) hp (by decide)
  rw [show leB e8L = 8 by decide] at hi
  have nk : NK (e.sred k) (leB k % LN) := H.sred hk
  have nl : NK (e.sred l) (leB l % LN) := H.sred hl
  have ho : ∀ c ∈ ordL, c < 256 := by decide
  have h1 : e.isn (e.scale e.base ordL) = true := by
    rw [H.isn (H.scale H.base ho), ordL_val]
    exact decide_eq_true BP_order
  have h2 : e.isn (e.scale (e.scale (e.parse a).1 e8L) ordL) = true := by
    rw [H.isn (H.scale hi ho), ordL_val]
    exact decide_eq_true (by rw [← EP.mul_mul]; exact all_order P)
  have na := H.sadd nk nl
  have nm := H.smul nk nl
  have h3 : emSm e (e.times (e.scale (e.parse a).1 e8L) (e.sadd (e.sred k) (e.sred l))) (e.padd (e.times (e.scale (e.parse a).1 e8L) (e.sred k)) (e.times (e.scale (e.parse a).1 e8L) (e.sred l))) = true :=
    sm_of H (H.times hi na.wf) (H.padd (H.times hi nk.wf) (H.times hi nl.wf)) (by rw [na.val, nk.val, nl.val, eight_mod, EP.mul_add])
  have h4 : emSm e (e.times (e.scale (e.parse a).1 e8L) (e.smul (e.sred k) (e.sred l))) (e.times (e.times (e.scale (e.parse a).1 e8L) (e.sred l)) (e.sred k)) = true :=
    sm_of H (H.times hi nm.wf) (H.times (H.times hi nl.wf) nk.wf) (by rw [nm.val, nk.val, nl.val, eight_mod, ← EP.mul_mul (P.mul 8), Nat.mul_comm (leB l % LN)])
  have h5 := em2_true H hp hi hk lk
  unfold emT emT1 c62
  rw [H.lives, h1, h2, h3, h4, h5, gds_true]
  · rfl
  · intro c hc
    simp only [List.mem_cons, List.not_mem_nil, or_false] at hc
    rcases hc with h | h | h | h <;> (rw [h]; exact decide_eq_true (by omega))
noncomputable abbrev XLm : Cx := XOr concE
theorem XLm_ok : CxOK Try.prog XLm := XOr_ok
set_option maxRecDepth 100000 in
theorem edwardsMultiples_lifted (os : Os) (started : os.Started) (H : Type) (enc : TypeId × Value → H) :
    ReturnsInHanded {} Try.checked os 14 .any (Rows.edwardsMultiplesSpec.pre6 enc Try.prog Try.f14 Rows.edwardsMultiplesRow.domain false) (Rows.edwardsMultiplesSpec.post enc Try.prog Try.f14 false true false false) := by
  refine law_lifted (C := Try.checked) (tb := 4) (by kernel_rfl) started (by kernel_rfl) Try.func14
    (ChangeSpec.witness6 (enc := enc) (C := Try.checked) false ⟨#[], #[.agg #[.int .u8 0, .int .u8 0, .int .u8 0, .int .u8 0, .int .u8 0, .int .u8 0, .int .u8 0, .int .u8 0, .int .u8 0, .int .u8 0, .int .u8 0, .int .u8 0, .int .u8 0, .int .u8 0, .int .u8 0, .int .u8 0, .int .u8 0, .int .u8 0, .int .u8 0, .int .u8 0, .int .u8 0, .int .u8 0, .int .u8 0, .int .u8 0, .int .u8 0, .int .u8 0, .int .u8 0, .int .u8 0, .int .u8 0, .int .u8 0, .int .u8 0, .int .u8 0], .slice none 0 0, .slice none 0 0], []⟩ 8 (by kernel_rfl) (by kernel_rfl) (by kernel_rfl) (by kernel_rfl)) rfl ?_ (by kernel_rfl) (by kernel_rfl) (by kernel_rfl) (by kernel_rfl) ?_
  · intro ds h
    match ds, h with | [d0, d1, d2], _ => rfl
  · intro W base args ds p hval hsz hA hlt hw
    obtain ⟨args⟩ := args
    match args, hsz, hval with
    | [a0, a1, a2], hsz, hval =>
      have n0 := NSt.empty W
      obtain ⟨a, wa, ra⟩ := argKey (t := 23) (by kernel_rfl) (hval 0 _ a0 (by kernel_rfl) rfl)
      obtain ⟨_, _, tk, uk⟩ := trod_get hA hw 1 _ a1 (by kernel_rfl) rfl
      obtain ⟨k, wk, lk, fk⟩ := argBytes (t := 24) (by kernel_rfl) (hval 1 _ a1 (by kernel_rfl) rfl) tk uk
      obtain ⟨_, x1, n1, rk⟩ := n0.arg fk
      obtain ⟨_, _, tl, ul⟩ := trod_get hA hw 2 _ a2 (by kernel_rfl) rfl
      obtain ⟨l, wl, ll, fl⟩ := argBytes (t := 24) (by kernel_rfl) (hval 2 _ a2 (by kernel_rfl) rfl) tl ul
      obtain ⟨_, x2, n2, rl⟩ := n1.arg fl
      exact law_runN XLm_ok Try.func14 (by kernel_rfl) LoopsOK.nil ((lawEM_run concE a k l).trans (em_true concEG wa wk wl lk ll)) n2 (.cons _ _ _ _ (ra _) (.cons _ _ _ _ (R.ext x2 rk) (.cons _ _ _ _ rl .nil)))
theorem edwardsMultiples_facts : joinedFacts Try.pinned.checked.prog 14 Try.f14 Rows.edwardsMultiplesSpec Rows.edwardsMultiplesRow = true := by
  show joinedFacts Try.prog 14 Try.f14 Rows.edwardsMultiplesSpec Rows.edwardsMultiplesRow = true
  unfold joinedFacts
  rw [liftsF, heardF, enterF, makeF]
  kernel_rfl
theorem edwardsMultiples_holds : Rows.EdwardsMultiplesSaid :=
  OpenClaim.holds_of_wide 14 Try.f14 rfl rfl rfl rfl rfl rfl rfl ⟨rfl, rfl, rfl, rfl, rfl⟩ rfl rfl rfl rfl rfl (by kernel_rfl) Try.func14 edwardsMultiples_facts
    (of_decide_eq_true (by kernel_rfl)) (by unfold Func.isWrapper; first | (rw [if_pos (by decide +kernel)]; kernel_rfl) | (rw [if_neg (by decide +kernel)]; exact ⟨rfl, rfl⟩))
    (fun os started H enc _ => edwardsMultiples_lifted os started H enc)
#print axioms edwardsMultiples_holds
end Go.Proofs.Ytnnjaijokiknkaa

