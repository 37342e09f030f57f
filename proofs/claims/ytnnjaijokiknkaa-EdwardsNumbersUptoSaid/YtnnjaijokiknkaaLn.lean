/- The law EdwardsNumbers, where the arguments are together of bulk at most 1048576: numbers modulo the order are a ring: it answers true. No other conditions. -/
import Derived.Test.YtnnjaijokiknkaaOr
import Derived.Test.YtnnjaijokiknkaaFu
namespace Go.Proofs.Ytnnjaijokiknkaa
open Go Pw Go.RowKit
def tkN (l : Nat) (p : List Nat) : List Nat := List.take l (List.drop 0 p)
theorem tkN_eq (p : List Nat) : tkN p.length p = p := by unfold tkN; rw [List.drop_zero, List.take_length]
def u1L : List Nat := List.take 1 (List.drop 0 [Int.toNat 1])
def o1L : List Nat := List.take 1 (List.drop 0 [1])
def oneK : K32 := { zeroK with b0 := Int.toNat 1 }
def c62n (k : List Nat) : Bool := decide (k.length < 4611686018427387904)
def lenN (a : List Nat) : Nat := (a.length : Int).toNat
def repN (a : List Nat) : List Nat := List.replicate (lenN a) 0
def uniL (a : List Nat) : List Nat := tkN (lenN a + u1L.length) (tkN (lenN a) (repN a) ++ u1L)
def joiL (aa bb : List Nat) : List Nat := tkN (aa.length + bb.length) (tkN aa.length aa ++ bb)
def guaN (a b aa bb : List Nat) : List Bool := [Nat.beq 1 1 && (Nat.beq 1 1 && decide (0 ≤ (a.length : Int) ∧ (a.length : Int) ≤ (a.length : Int) ∧ (a.length : Int) ≤ 281474976710656)), decide (0 + lenN a ≤ (repN a).length), decide (lenN a + u1L.length ≤ maxRoom),
  decide (0 + a.length ≤ a.length), decide (aa.length ≤ maxRoom), decide (0 + b.length ≤ b.length), decide (0 + aa.length ≤ aa.length), decide (aa.length + bb.length ≤ maxRoom), decide (0 + (aa.length + bb.length) ≤ (tkN aa.length aa ++ bb).length), c62n (joiL aa bb),
  decide (0 + (lenN a + u1L.length) ≤ (tkN (lenN a) (repN a) ++ u1L).length), c62n (uniL a)]
def guaB (b bb : List Nat) : List Bool := [decide (0 + b.length ≤ b.length), decide (bb.length ≤ maxRoom), decide (0 + bb.length ≤ bb.length), c62n (tkN bb.length bb)]
noncomputable def enT3 (e : EOps) (x y u w : K32) : Option (AV × Option Blk) :=
  brn (!keyEq w (e.sadd x (e.smul y u))) noB (brn (decide ((e.swhole x).2 = 0)) (brn (keyEq (e.swhole x).1 x) (some (.bool (keyEq (e.ssub x y) (e.sadd x (e.sneg y))), none)) noB) noB)
noncomputable def enT2 (e : EOps) (x y z o : K32) (G : List Bool) (u w : K32) : Option (AV × Option Blk) :=
  brn (!keyEq (e.sadd x y) (e.sadd y x)) noB (brn (!keyEq (e.smul x y) (e.smul y x)) noB (brn (!keyEq (e.smul x (e.sadd y z)) (e.sadd (e.smul x y) (e.smul x z))) noB
    (brn (!keyEq (e.smul (e.smul x y) z) (e.smul x (e.smul y z))) noB (brn (!keyEq (e.sadd (e.sadd x y) z) (e.sadd x (e.sadd y z))) noB (brn (!e.sisz (e.ssub x x)) noB (brn (!keyEq (e.smul x o) x) noB
      (gds G (enT3 e x y u w))))))))
noncomputable def enT (e : EOps) (a b c aa bb cc : List Nat) (G : List Bool) (U W : List Nat) : Option (AV × Option Blk) :=
  gds [decide (0 + a.length ≤ a.length), c62n aa, decide (0 + b.length ≤ b.length), c62n bb, decide (0 + c.length ≤ c.length), c62n cc]
    (brn (!keyEq (e.sred u1L) oneK) noB (brn (e.sisz (e.sred o1L)) noB (brn (!e.sisz (e.sred ordL)) noB (enT2 e (e.sred aa) (e.sred bb) (e.sred cc) (e.sred u1L) G (e.sred U) (e.sred W)))))
theorem lawEN0_run (e : EOps) (c : List Nat) : runNL (XOr e) [] [0,1,2,6,7,8,9,10,11,12,13,27,28,31,32,33,34,35,46,47,48,49,50,51,52,53,54,57,58,59,60,61,62,63,64,65,66,67,68,69,70,71,72,87,88,89,90,91,92,93,94,95,96,97,98,99,102,103,104,105,106,109,110,111,112,113,114,115,116,136,146,147,148,149,150,153,154,155,156,157,158,159,160,161,162] 900 Try.f5 (bodyOf Try.f5) (laArgs [.l [], .l [], .l c] 0) (laLists [.l [], .l [], .l c]) = enT e [] [] c (tkN 0 []) (tkN 0 []) (tkN c.length c) [] (uniL []) [] := by kernel_rfl
theorem lawEN1_run (e : EOps) (y : Nat) (b c : List Nat) : runNL (XOr e) [] [0,1,2,6,7,8,9,10,11,12,13,27,28,31,32,33,34,35,46,47,48,49,50,51,52,53,54,57,58,59,60,61,62,63,64,65,66,67,68,69,70,71,72,87,88,89,90,91,92,93,94,95,96,97,98,99,102,103,104,105,106,109,110,111,112,113,114,115,116,136,146,147,148,149,150,153,154,155,156,157,158,159,160,161,162] 900 Try.f5 (bodyOf Try.f5) (laArgs [.l [], .l (y :: b), .l c] 0) (laLists [.l [], .l (y :: b), .l c]) =
    enT e [] (y :: b) c (tkN 0 []) (tkN (y :: b).length (y :: b)) (tkN c.length c) (guaB (y :: b) (tkN (y :: b).length (y :: b))) (uniL []) (tkN (tkN (y :: b).length (y :: b)).length (tkN (y :: b).length (y :: b))) := by kernel_rfl
theorem lawEN2_run (e : EOps) (x : Nat) (a b c : List Nat) : runNL (XOr e) [] [0,1,2,6,7,8,9,10,11,12,13,27,28,31,32,33,34,35,46,47,48,49,50,51,52,53,54,57,58,59,60,61,62,63,64,65,66,67,68,69,70,71,72,87,88,89,90,91,92,93,94,95,96,97,98,99,102,103,104,105,106,109,110,111,112,113,114,115,116,136,146,147,148,149,150,153,154,155,156,157,158,159,160,161,162] 900 Try.f5 (bodyOf Try.f5) (laArgs [.l (x :: a), .l b, .l c] 0) (laLists [.l (x :: a), .l b, .l c]) =
    enT e (x :: a) b c (tkN (x :: a).length (x :: a)) (tkN b.length b) (tkN c.length c) (guaN (x :: a) b (tkN (x :: a).length (x :: a)) (tkN b.length b)) (uniL (x :: a)) (joiL (tkN (x :: a).length (x :: a)) (tkN b.length b)) := by kernel_rfl
theorem lenN_eq (a : List Nat) : lenN a = a.length := Int.toNat_natCast _
theorem repN_len (a : List Nat) : (repN a).length = lenN a := List.length_replicate
theorem u1L_eq : u1L = [1] := rfl
theorem uniL_eq (a : List Nat) : uniL a = List.replicate a.length 0 ++ [1] := by
  unfold uniL
  have h1 : tkN (lenN a) (repN a) = repN a := by rw [← repN_len, tkN_eq]
  rw [h1, u1L_eq, show lenN a + [1].length = (repN a ++ [1]).length by rw [List.length_append, repN_len], tkN_eq]
  unfold repN
  rw [lenN_eq]
theorem joiL_eq (a b : List Nat) : joiL a b = a ++ b := by
  unfold joiL
  rw [tkN_eq, ← List.length_append, tkN_eq]
theorem leB_zero : ∀ n, leB (List.replicate n 0) = 0
  | 0 => rfl
  | n + 1 => by rw [List.replicate_succ, leB_cons, leB_zero n]
theorem leB_uni (a : List Nat) : leB (uniL a) = 256 ^ a.length := by
  rw [uniL_eq, leB_app, leB_zero, List.length_replicate, show leB [1] = 1 from rfl]
  omega
theorem lt_app {a b : List Nat} (ha : ∀ c ∈ a, c < 256) (hb : ∀ c ∈ b, c < 256) : ∀ c ∈ a ++ b, c < 256 := by
  intro c hc
  rcases List.mem_append.1 hc with h | h
  · exact ha c h
  · exact hb c h
theorem uni_lt (a : List Nat) : ∀ c ∈ uniL a, c < 256 := by
  rw [uniL_eq]
  refine lt_app (fun c hc => ?_) (by decide)
  rw [(List.mem_replicate.1 hc).2]; decide
theorem nk_same {a b : K32} {m n : Nat} (ha : NK a m) (hb : NK b n) (h : m = n) : keyEq a b = true := by
  subst h
  rw [ha.inj hb, keyEq_self]
theorem oneK_nk : NK oneK 1 := ⟨fun b hb => of_decide_eq_true (List.all_eq_true.1 (show List.all oneK.toList (fun b => decide (b < 256)) = true by decide +kernel) b hb), by decide +kernel, by decide +kernel⟩
theorem mod3 (m n : Nat) : (m % LN + n % LN) % LN = (m + n) % LN := (Nat.add_mod _ _ _).symm
theorem mod_a (a b c : Nat) : a * ((b + c) % LN) % LN = (a * b % LN + a * c % LN) % LN := by rw [Nat.mul_mod_mod, Nat.mul_add, ← Nat.add_mod]
theorem mod_b (a b c : Nat) : a * b % LN * c % LN = a * (b * c % LN) % LN := by rw [Nat.mod_mul_mod, Nat.mul_mod_mod, Nat.mul_assoc]
theorem mod_c (a b c : Nat) : ((a + b) % LN + c) % LN = (a + (b + c) % LN) % LN := by rw [Nat.mod_add_mod, Nat.add_mod_mod, Nat.add_assoc]
theorem en3_true {e : EOps} (H : EGood e) {x y u w : K32} {a b f : Nat} (hx : NK x (a % LN)) (hy : NK y (b % LN)) (hu : NK u (f % LN)) (hw : NK w ((a + f * b) % LN)) : enT3 e x y u w = some (.bool true, none) := by
  have h1 : keyEq w (e.sadd x (e.smul y u)) = true := nk_same hw (H.sadd hx (H.smul hy hu)) (by rw [← Nat.mul_mod, mod3, Nat.mul_comm])
  have h2 : e.swhole x = (x, 0) := by rw [H.swhole hx.wf, hx.val, decide_eq_true hx.lt, cond_true]
  have h3 : keyEq (e.ssub x y) (e.sadd x (e.sneg y)) = true := nk_same (H.ssub hx hy) (H.sadd hx (H.sneg hy)) (by rw [Nat.add_mod_mod])
  unfold enT3
  rw [h1, h2, h3, keyEq_self]
  rfl
theorem en2_true {e : EOps} (H : EGood e) {x y z o u w : K32} {a b c f : Nat} {G : List Bool} (hx : NK x (a % LN)) (hy : NK y (b % LN)) (hz : NK z (c % LN)) (ho : NK o 1) (hu : NK u (f % LN)) (hw : NK w ((a + f * b) % LN)) (hG : ∀ q ∈ G, q = true) :
    enT2 e x y z o G u w = some (.bool true, none) := by
  have h1 : keyEq (e.sadd x y) (e.sadd y x) = true := nk_same (H.sadd hx hy) (H.sadd hy hx) (by rw [Nat.add_comm])
  have h2 : keyEq (e.smul x y) (e.smul y x) = true := nk_same (H.smul hx hy) (H.smul hy hx) (by rw [Nat.mul_comm])
  have h3 : keyEq (e.smul x (e.sadd y z)) (e.sadd (e.smul x y) (e.smul x z)) = true := nk_same (H.smul hx (H.sadd hy hz)) (H.sadd (H.smul hx hy) (H.smul hx hz)) (mod_a _ _ _)
  have h4 : keyEq (e.smul (e.smul x y) z) (e.smul x (e.smul y z)) = true := nk_same (H.smul (H.smul hx hy) hz) (H.smul hx (H.smul hy hz)) (mod_b _ _ _)
  have h5 : keyEq (e.sadd (e.sadd x y) z) (e.sadd x (e.sadd y z)) = true := nk_same (H.sadd (H.sadd hx hy) hz) (H.sadd hx (H.sadd hy hz)) (mod_c _ _ _)
  have h6 : e.sisz (e.ssub x x) = true := by
    rw [H.sisz (H.ssub hx hx)]
    have := hx.lt
    refine decide_eq_true ?_
    rw [show a % LN + (LN - a % LN) = LN by omega, Nat.mod_self]
  have h7 : keyEq (e.smul x o) x = true := nk_same (H.smul hx ho) hx (by rw [Nat.mul_one, Nat.mod_mod])
  unfold enT2
  rw [h1, h2, h3, h4, h5, h6, h7, gds_true hG, en3_true H hx hy hu hw]
  rfl
theorem en_true {e : EOps} (H : EGood e) {a b c : List Nat} {G : List Bool} (wa : ∀ c ∈ a, c < 256) (wb : ∀ c ∈ b, c < 256) (wc : ∀ q ∈ c, q < 256) (la : a.length ≤ 1048576) (lb : b.length ≤ 1048576) (lc : c.length ≤ 1048576) (hG : ∀ q ∈ G, q = true) :
    enT e a b c a b c G (uniL a) (a ++ b) = some (.bool true, none) := by
  have hx := H.sred wa
  have hy := H.sred wb
  have hz := H.sred wc
  have hu := H.sred (uni_lt a)
  have hw := H.sred (lt_app wa wb)
  rw [leB_uni] at hu
  rw [leB_app] at hw
  have h1 : NK (e.sred u1L) 1 := H.sred (b := u1L) (by decide)
  have h2 : NK (e.sred o1L) 1 := H.sred (b := o1L) (by decide)
  have h3 : NK (e.sred ordL) 0 := by
    have := H.sred (b := ordL) (by decide)
    rwa [ordL_val, Nat.mod_self] at this
  have e1 : keyEq (e.sred u1L) oneK = true := nk_same h1 oneK_nk rfl
  have e2 : e.sisz (e.sred o1L) = false := by rw [H.sisz h2]; rfl
  have e3 : e.sisz (e.sred ordL) = true := by rw [H.sisz h3]; rfl
  unfold enT c62n
  rw [gds_true, e1, e2, e3, en2_true H hx hy hz h1 hu hw hG]
  · rfl
  · intro q hq
    simp only [List.mem_cons, List.not_mem_nil, or_false] at hq
    rcases hq with h | h | h | h | h | h <;> (rw [h]; exact decide_eq_true (by omega))
theorem guaN_ok {a b : List Nat} (la : a.length ≤ 1048576) (lb : b.length ≤ 1048576) : ∀ q ∈ guaN a b a b, q = true := by
  have hm : maxRoom = 175921860444160 := rfl
  have l1 : u1L.length = 1 := rfl
  have l2 : (uniL a).length = a.length + 1 := by rw [uniL_eq, List.length_append, List.length_replicate]; rfl
  have h1 : tkN (lenN a) (repN a) = repN a := by rw [← repN_len, tkN_eq]
  intro q hq
  unfold guaN c62n at hq
  rw [joiL_eq, tkN_eq, h1, l2, List.length_append, List.length_append, repN_len, lenN_eq, l1] at hq
  simp only [List.mem_cons, List.not_mem_nil, or_false] at hq
  rcases hq with h | h | h | h | h | h | h | h | h | h | h | h
  · rw [h]
    have : decide (0 ≤ (a.length : Int) ∧ (a.length : Int) ≤ (a.length : Int) ∧ (a.length : Int) ≤ 281474976710656) = true := decide_eq_true (by omega)
    rw [this]; rfl
  all_goals (rw [h]; exact decide_eq_true (by omega))
theorem guaB_ok {b : List Nat} (lb : b.length ≤ 1048576) : ∀ q ∈ guaB b b, q = true := by
  have hm : maxRoom = 175921860444160 := rfl
  intro q hq
  unfold guaB c62n at hq
  rw [tkN_eq] at hq
  simp only [List.mem_cons, List.not_mem_nil, or_false] at hq
  rcases hq with h | h | h | h <;> (rw [h]; exact decide_eq_true (by omega))
theorem lawEN_run {e : EOps} (H : EGood e) : ∀ {a b c : List Nat} (_ : ∀ c ∈ a, c < 256) (_ : ∀ c ∈ b, c < 256) (_ : ∀ q ∈ c, q < 256) (_ : a.length ≤ 1048576) (_ : b.length ≤ 1048576) (_ : c.length ≤ 1048576),
    runNL (XOr e) [] [0,1,2,6,7,8,9,10,11,12,13,27,28,31,32,33,34,35,46,47,48,49,50,51,52,53,54,57,58,59,60,61,62,63,64,65,66,67,68,69,70,71,72,87,88,89,90,91,92,93,94,95,96,97,98,99,102,103,104,105,106,109,110,111,112,113,114,115,116,136,146,147,148,149,150,153,154,155,156,157,158,159,160,161,162] 900 Try.f5 (bodyOf Try.f5) (laArgs [.l a, .l b, .l c] 0) (laLists [.l a, .l b, .l c]) = some (.bool true, none)
  | [], [], c, wa, wb, wc, la, lb, lc => by
    have h := lawEN0_run e c
    rw [tkN_eq, show tkN 0 [] = [] from rfl] at h
    exact h.trans (en_true H wa wb wc la lb lc (by simp))
  | [], y :: b, c, wa, wb, wc, la, lb, lc => by
    have h := lawEN1_run e y b c
    rw [tkN_eq, tkN_eq, tkN_eq, show tkN 0 [] = [] from rfl] at h
    exact h.trans (en_true H wa wb wc la lb lc (guaB_ok lb))
  | x :: a, b, c, wa, wb, wc, la, lb, lc => by
    have h := lawEN2_run e x a b c
    rw [tkN_eq, tkN_eq, tkN_eq, joiL_eq] at h
    exact h.trans (en_true H wa wb wc la lb lc (guaN_ok la lb))
noncomputable abbrev XLn : Cx := XOr concE
theorem XLn_ok : CxOK Try.prog XLn := XOr_ok
set_option maxRecDepth 100000 in
theorem edwardsNumbers_lifted (os : Os) (started : os.Started) (H : Type) (enc : TypeId × Value → H) (F : Stop.Interp) :
    ReturnsInHanded {} Try.checked os 5 .any ((Rows.OpenSpec.upto Rows.edwardsNumbersSpec).pre6 enc Try.prog Try.f5 Rows.edwardsNumbersUptoRow.domain false) (((Rows.OpenSpec.upto Rows.edwardsNumbersSpec).at F).post enc Try.prog Try.f5 false true false false) := by
  refine law_liftedU (C := Try.checked) (s := Rows.OpenSpec.upto Rows.edwardsNumbersSpec) (k := Rows.uptoSmall) rfl (tb := 4) (by kernel_rfl) started (by kernel_rfl) Try.func5
    (OpenSpec.witness (enc := enc) (C := Try.checked) (s := Rows.OpenSpec.upto Rows.edwardsNumbersSpec) (k := Rows.uptoSmall) rfl false ⟨#[], #[.slice none 0 0, .slice none 0 0, .slice none 0 0], []⟩ 8 (by kernel_rfl) (by kernel_rfl) (by kernel_rfl) (x := ([.nil, .nil, .nil], [], [])) (by kernel_rfl) rfl (by kernel_rfl)) rfl ?_ (by kernel_rfl) (by kernel_rfl) (by kernel_rfl) (by kernel_rfl) ?_
  · intro ds h
    match ds, h with | [d0, d1, d2], _ => rfl
  · intro W base args ds p hval hsz hA hlt hw hk
    obtain ⟨args⟩ := args
    match args, hsz, hval with
    | [a0, a1, a2], hsz, hval =>
      have n0 := NSt.empty W
      obtain ⟨_, _, ta, ua⟩ := trod_get hA hw 0 _ a0 (by kernel_rfl) rfl
      obtain ⟨a, wa, la, fa⟩ := argBytes (t := 24) (by kernel_rfl) (hval 0 _ a0 (by kernel_rfl) rfl) ta ua
      obtain ⟨_, x1, n1, ra⟩ := n0.arg fa
      obtain ⟨_, _, tb, ub⟩ := trod_get hA hw 1 _ a1 (by kernel_rfl) rfl
      obtain ⟨b, wb, lb, fb⟩ := argBytes (t := 24) (by kernel_rfl) (hval 1 _ a1 (by kernel_rfl) rfl) tb ub
      obtain ⟨_, x2, n2, rb⟩ := n1.arg fb
      obtain ⟨_, _, tc, uc⟩ := trod_get hA hw 2 _ a2 (by kernel_rfl) rfl
      obtain ⟨c, wc, lc, fc⟩ := argBytes (t := 24) (by kernel_rfl) (hval 2 _ a2 (by kernel_rfl) rfl) tc uc
      obtain ⟨_, x3, n3, rc⟩ := n2.arg fc
      have hup := trodAll_slen hA
      rw [show (Try.f5.params.toList : List TypeId) = [24, 24, 24] by kernel_rfl] at hup
      replace hup := Nat.le_trans hup (up_le hk)
      simp only [List.zipWith_cons_cons, List.zipWith_nil_right, List.sum_cons, List.sum_nil] at hup
      rw [sLen_eq (t := 24) (v := a0) (l := a) (by kernel_rfl) fa] at hup
      rw [sLen_eq (t := 24) (v := a1) (l := b) (by kernel_rfl) fb] at hup
      rw [sLen_eq (t := 24) (v := a2) (l := c) (by kernel_rfl) fc] at hup
      exact law_runN XLn_ok Try.func5 (by kernel_rfl) LoopsOK.nil (lawEN_run concEG wa wb wc (by omega) (by omega) (by omega)) n3 (.cons _ _ _ _ (R.ext x3 (R.ext x2 ra)) (.cons _ _ _ _ (R.ext x3 rb) (.cons _ _ _ _ rc .nil)))
theorem edwardsNumbers_facts : joinedFacts Try.pinned.checked.prog 5 Try.f5 (Rows.OpenSpec.upto Rows.edwardsNumbersSpec).bare Rows.edwardsNumbersUptoRow = true := by
  show joinedFacts Try.prog 5 Try.f5 (Rows.OpenSpec.upto Rows.edwardsNumbersSpec).bare Rows.edwardsNumbersUptoRow = true
  unfold joinedFacts
  rw [liftsF, heardF, enterF, makeF]
  kernel_rfl
theorem edwardsNumbers_holds : Rows.EdwardsNumbersUptoSaid :=
  OpenClaim.holds_of_cond 5 Try.f5 rfl rfl rfl rfl rfl rfl rfl ⟨rfl, rfl, rfl, rfl, rfl⟩ rfl rfl rfl rfl rfl (by kernel_rfl) Try.func5 edwardsNumbers_facts
    (of_decide_eq_true (by kernel_rfl)) (by unfold Func.isWrapper; first | (rw [if_pos (by decide +kernel)]; kernel_rfl) | (rw [if_neg (by decide +kernel)]; exact ⟨rfl, rfl⟩))
    (fun os started H enc _ F => edwardsNumbers_lifted os started H enc F)
#print axioms edwardsNumbers_holds
end Go.Proofs.Ytnnjaijokiknkaa

