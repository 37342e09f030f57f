/- Contracts of the numbers modulo the order, of the program (3): the products. -/
import Derived.Test.YtpmbfepkdjkheaaGreatNb
import Derived.Test.YtpmbfepkdjkheaaGreatPwMg
namespace Go.Proofs.YtpmbfepkdjkheaaGreat
open Go Pw Go.RowKit
def byts8 (l : Nat) : List Nat := [l / 2 ^ 0 % 2 ^ 8, l / 2 ^ 8 % 2 ^ 8, l / 2 ^ 16 % 2 ^ 8, l / 2 ^ 24 % 2 ^ 8, l / 2 ^ 32 % 2 ^ 8, l / 2 ^ 40 % 2 ^ 8, l / 2 ^ 48 % 2 ^ 8, l / 2 ^ 56 % 2 ^ 8]
def tmL (o : NOps) (w c k : Nat) : Nat := ac (o.mul2 w c).2 k 0
def tmC (o : NOps) (w c k : Nat) : Nat := add64 (o.mul2 w c).1 (cc (o.mul2 w c).2 k 0)
def tm1 (o : NOps) (x : L4) (c : Nat) : Nat := tmC o x.a c 0
def tm2 (o : NOps) (x : L4) (c : Nat) : Nat := tmC o x.b c (tm1 o x c)
def tm3 (o : NOps) (x : L4) (c : Nat) : Nat := tmC o x.c c (tm2 o x c)
def tm4 (o : NOps) (x : L4) (c : Nat) : Nat := tmC o x.d c (tm3 o x c)
def timesN (o : NOps) (x : L4) (c : Nat) : List Nat := byts8 (tmL o x.a c 0) ++ (byts8 (tmL o x.b c (tm1 o x c)) ++ (byts8 (tmL o x.c c (tm2 o x c)) ++ (byts8 (tmL o x.d c (tm3 o x c)) ++ [tm4 o x c % 2 ^ 8])))
theorem times_run (o : NOps) (x : L4) (c : Nat) : runG (X_sIsZero o) [] [0,1,2,4,5,6,8,9,10,11,12,13,14,15,33,34] 900 Tryz.f130 (bodyOf Tryz.f130) [rnumV x, .u .u8 c] [] = some (.slice 0 0 33 true, some ⟨.bytes (timesN o x c), true⟩) := by kernel_rfl
def gTimes (o : NOps) : List AV → Mem → Option (Bool × AV × Option Blk)
  | [.agg [.u .u64 a, .u .u64 b, .u .u64 c, .u .u64 d], .u .u8 e], [] => some (true, .slice 0 0 33 true, some ⟨.bytes (timesN o ⟨a, b, c, d⟩ e), true⟩)
  | _, _ => none
theorem times_at : QuietAt Tryz.prog 130 (grab (gTimes concNOps)) := by
  refine quietAt_of_runG X_sIsZero_ok (keep := [0,1,2,4,5,6,8,9,10,11,12,13,14,15,33,34]) Tryz.func130 (c := bodyOf Tryz.f130) (by kernel_rfl) (by kernel_rfl) LoopsOK.nil fun ar ms cd v nb h hc hw => ⟨900, ms, .refl _, ?_⟩
  unfold gTimes at h
  split at h
  · rename_i a b c d e
    cases h; exact times_run concNOps ⟨a, b, c, d⟩ e
  · cases h
noncomputable def X_times (o : NOps) : Cx := { X_sIsZero o with O := addQ (X_sIsZero o).O 130 (grab (gTimes o)) }
theorem X_times_ok : CxOK Tryz.prog (X_times concNOps) := { X_sIsZero_ok with quiet := addQ_ok X_sIsZero_ok.quiet times_at }
/-! ### the loop of Mul -/
noncomputable abbrev muL : Func := Tryz.f66
structure S_mu where
  i : Int
  a : K32
  k : List Nat
  z : K32
  x : L4
  n : L4
def d_mu : LoopDefG S_mu where
  ts := [3, 4, 5, 6, 7]
  n := 5
  src0 := []
  srcN := []
  srcX := []
  E := fun s => [(3, .ptr 1 0), (4, .ptr 2 0), (5, .ptr 3 0), (6, .ptr 4 0), (7, .n s.i)]
  M := fun s => [bk (keyV s.a), ⟨.ints .u8 s.k, true⟩, bk (keyV s.z), bk (rnumV s.x), bk (rnumV s.n)]
  Mo := fun s => [bk (keyV s.a), ⟨.ints .u8 s.k, true⟩, bk (keyV s.z), bk (rnumV s.x), bk (rnumV s.n)]
  dec := fun vs mem => match vs, mem with
    | [.ptr 1 0, .ptr 2 0, .ptr 3 0, .ptr 4 0, .n i], [A, ⟨c, true⟩, Z, X, N] => (match key? (unbk A), blkInts .u8 ⟨c, true⟩, key? (unbk Z), rnum? (unbk X), rnum? (unbk N) with
      | some a, some k, some z, some x, some n => some ⟨i, a, k, z, x, n⟩
      | _, _, _, _, _ => none)
    | _, _ => none
  ok := fun vs mem s h => by
    split at h
    · split at h
      · rename_i a k z x n h1 h2 h3 h4 h5
        have e1 := unbk_some (key?_some h1)
        have e3 := unbk_some (key?_some h3)
        have e4 := unbk_some (rnum?_some h4)
        have e5 := unbk_some (rnum?_some h5)
        subst e1 e3 e4 e5
        cases h
        exact ⟨rfl, [bk (keyV a), ⟨.ints .u8 k, true⟩, bk (keyV z), bk (rnumV x), bk (rnumV n)], _, _, .cons (.refl _) (.cons (blkInts_some h2) (.cons (.refl _) (.cons (.refl _) (.cons (.refl _) .nil)))), rfl, rfl, .refl _⟩
      · cases h
    · cases h
def muX (s : S_mu) : Nat := 0 + 0 + s.i.toNat * 1
def muP (o : NOps) (x n : L4) (c : Nat) : L4 := (o.ladd (stepN o n 0) (redN o zeroL (List.take 33 (List.drop 0 (timesN o x c))))).1
def muV (o : NOps) (x n : L4) (c : Nat) : L4 := bif lessN o (muP o x n c) then muP o x n c else (o.lsub (muP o x n c) ordL).1
def muW (s : S_mu) (n : L4) : S_mu := { s with i := w64 (s.i - 1), n := n }
theorem mu_step (o : NOps) (s : S_mu) : codeK (X_times o) [] muL.ntmps [0,1,2,3,4,5,6,7,13,31] 60 (loopB (bodyOf muL) 3) (d_mu.E s) (d_mu.M s) (outG d_mu.ts d_mu.n d_mu.srcN d_mu.srcX) =
    brn (decide (0 ≤ s.i)) (brn (decide (0 ≤ s.i ∧ s.i < 32)) (brn (decide (muX s < s.k.length)) (brn (lessN o (muP o s.x s.n (s.k.getD (muX s) 0)))
      (some (.normal, d_mu.E (muW s (muP o s.x s.n (s.k.getD (muX s) 0))), d_mu.M (muW s (muP o s.x s.n (s.k.getD (muX s) 0)))))
      (some (.normal, d_mu.E (muW s (o.lsub (muP o s.x s.n (s.k.getD (muX s) 0)) ordL).1), d_mu.M (muW s (o.lsub (muP o s.x s.n (s.k.getD (muX s) 0)) ordL).1)))) none) none) (some (.exit 0, d_mu.E s, d_mu.M s)) := by kernel_rfl
def mulF (o : NOps) (x n : L4) (k : List Nat) : L4 := k.foldr (fun c n => muV o x n c) n
def gMu (o : NOps) : LoopFn := d_mu.fn (fun s => decide (s.i = 31 ∧ s.k.length = 32)) (.exit 0) (fun s => { s with i := -1, n := mulF o s.x s.n s.k })
def muI (o : NOps) (s : S_mu) (j : Nat) : S_mu := { s with i := 31 - (j : Int), n := mulF o s.x s.n (s.k.drop (32 - j)) }
theorem muI_zero (o : NOps) (s : S_mu) (h1 : s.i = 31) (h2 : s.k.length = 32) : muI o s 0 = s := by
  have e1 : (31 : Int) - ((0 : Nat) : Int) = s.i := by omega
  have e2 : s.k.drop (32 - 0) = [] := List.drop_of_length_le (by omega)
  unfold muI
  rw [e1, e2]
  rfl
theorem muI_succ (o : NOps) (s : S_mu) (h2 : s.k.length = 32) {j : Nat} (hj : j < 32) : muX (muI o s j) = 32 - (j + 1) ∧ muW (muI o s j) (muV o (muI o s j).x (muI o s j).n ((muI o s j).k.getD (32 - (j + 1)) 0)) = muI o s (j + 1) := by
  have ei : (muI o s j).i = 31 - (j : Int) := rfl
  have hX : muX (muI o s j) = 32 - (j + 1) := by unfold muX; rw [ei]; omega
  refine ⟨hX, ?_⟩
  have e1 : w64 ((muI o s j).i - 1) = 31 - ((j + 1 : Nat) : Int) := by rw [ei, w64_id (by omega) (by omega)]; omega
  have e2 : muV o (muI o s j).x (muI o s j).n ((muI o s j).k.getD (32 - (j + 1)) 0) = mulF o s.x s.n (s.k.drop (32 - (j + 1))) := by
    show muV o s.x (mulF o s.x s.n (s.k.drop (32 - j))) (s.k.getD (32 - (j + 1)) 0) = _
    have := drop_pred (l := s.k) (k := j) (by omega)
    rw [h2] at this
    rw [this]; rfl
  rw [e2]
  unfold muW
  rw [e1]; rfl
theorem muI_end (o : NOps) (s : S_mu) : muI o s 32 = { s with i := -1, n := mulF o s.x s.n s.k } := by
  unfold muI
  rw [Nat.sub_self, List.drop_zero, show (31 : Int) - ((32 : Nat) : Int) = -1 by omega]
theorem mu_branch {α : Type} (f : L4 → α) (o : NOps) (x n : L4) (c : Nat) : brn (lessN o (muP o x n c)) (f (muP o x n c)) (f (o.lsub (muP o x n c) ordL).1) = f (muV o x n c) := by
  unfold muV
  rw [brn_eq]
  cases lessN o (muP o x n c) <;> rfl
theorem mu_at : LoopAt Tryz.prog muL.ntmps (loopB (bodyOf muL) 3) (gMu concNOps) := by
  refine d_mu.loop (keep := [0,1,2,3,4,5,6,7,13,31]) X_times_ok LoopsOK.nil (by simp) fun s hg => ⟨32, muI concNOps s, ?_, .refl _, fun j hj => ⟨60, ?_⟩, 60, ?_⟩
  · obtain ⟨h1, h2⟩ := of_decide_eq_true hg
    exact muI_zero _ s h1 h2
  · obtain ⟨h1, h2⟩ := of_decide_eq_true hg
    obtain ⟨hX, hN⟩ := muI_succ concNOps s h2 hj
    refine (mu_step concNOps _).trans ?_
    have ei : (muI concNOps s j).i = 31 - (j : Int) := rfl
    have ek : (muI concNOps s j).k.length = 32 := h2
    rw [hX, mu_branch (fun n => some (Ex.normal, d_mu.E (muW (muI concNOps s j) n), d_mu.M (muW (muI concNOps s j) n))), hN, ei, ek, decide_eq_true (by omega), decide_eq_true (by omega), decide_eq_true (by omega), brn_eq, brn_eq, brn_eq, cond_true, cond_true, cond_true]
  · refine (mu_step concNOps _).trans ?_
    rw [show (muI concNOps s 32).i = 31 - ((32 : Nat) : Int) from rfl, decide_eq_false (by omega), brn_eq, cond_false, muI_end]
theorem mu_loops : LoopsOK Tryz.prog muL.ntmps [(3, gMu concNOps)] (bodyOf muL) := loopsOK_cons LoopsOK.nil (by kernel_rfl) mu_at
def mulN (o : NOps) (a b : K32) : K32 := o.scal (mulF o (o.whole a) zeroL b.toList)
theorem sMul_run (o : NOps) (a : K32) (b : K32) : runNL (X_times o) [(3, gMu o)] [0,1,2,3,4,5,6,7,13,31] 200 Tryz.f66 (bodyOf Tryz.f66) (laArgs [.v (keyV a), .v (keyV b)] 0) (laLists [.v (keyV a), .v (keyV b)]) = some (keyV (mulN o a b), none) := by
  kernel_rfl
def g_sMul (o : NOps) (args : List LA) : Option (AV × Option Blk) := match args with
  | [.v x0, .v x1] => (match key? x0, key? x1 with
    | some a, some b => some (keyV (mulN o a b), none)
    | _, _ => none)
  | _ => none
theorem sMul_at : QuietAt Tryz.prog 66 (lav (g_sMul concNOps)) := by
  refine quietAt_of_runA X_times_ok (L := [(3, gMu concNOps)]) (keep := [0,1,2,3,4,5,6,7,13,31]) Tryz.func66 (c := bodyOf Tryz.f66) (by kernel_rfl) (by kernel_rfl) (mu_loops) fun args v h hw => ⟨200, ?_⟩
  unfold g_sMul at h
  split at h
  · rename_i x0 x1
    split at h
    · rename_i a b hh0 hh1
      have ehh0 := key?_some hh0
      subst ehh0
      have ehh1 := key?_some hh1
      subst ehh1
      rw [← h]
      refine (sMul_run concNOps a b).trans ?_
      rfl
    · cases h
  · cases h
noncomputable def X_sMul (o : NOps) : Cx := { X_times o with O := addQ (X_times o).O 66 (lav (g_sMul o)) }
theorem X_sMul_ok : CxOK Tryz.prog (X_sMul concNOps) := { X_times_ok with quiet := addQ_ok X_times_ok.quiet sMul_at }
end Go.Proofs.YtpmbfepkdjkheaaGreat

