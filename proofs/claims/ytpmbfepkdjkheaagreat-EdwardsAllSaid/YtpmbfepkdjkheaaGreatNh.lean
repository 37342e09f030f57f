/- Numbers modulo the order, of the program and of the document, by value. -/
import Derived.Test.YtpmbfepkdjkheaaGreatPwMh
import Derived.Test.YtpmbfepkdjkheaaGreatNf
namespace Go.Proofs.YtpmbfepkdjkheaaGreat
open Go Pw Go.RowKit

/-! ### the program's -/

theorem stepN_conc (x : L4) (c : Nat) : stepN concNOps x c = stepLV x c := by kernel_rfl
theorem red_conc (n : L4) (b : List Nat) : redN concNOps n b = redV n b := by
  unfold redN redV
  congr 1
theorem less_conc {x : L4} (h : x.wf) : lessN concNOps x = decide (val4 x < LN) := by
  have e : lessN concNOps x = decide ((bif decide (minB x ordL = 1) then (-1 : Int) else bif isZ (minD x ordL) then 0 else 1) < 0) := by kernel_rfl
  rw [e, minB_lt h ordL_wf, ordL_val]
  by_cases hl : val4 x < LN
  · rw [decide_eq_true hl]; rfl
  · rw [decide_eq_false hl]
    cases isZ (minD x ordL) <;> rfl
/-- a number of the program, below the order -/
structure NK (k : K32) (n : Nat) : Prop where
  wf : k.wf
  val : leVal k = n
  lt : n < LN
theorem NK.of {x : L4} {n : Nat} (h : x.wf) (e : val4 x = n) (l : n < LN) : NK (bytesR4 x) n := ⟨bytesR_wf x, by rw [bytesR_val h, e], l⟩
theorem NK.inj {a b : K32} {n : Nat} (ha : NK a n) (hb : NK b n) : a = b := leVal_inj ha.wf hb.wf (by rw [ha.val, hb.val])
theorem NK.zero : NK zeroK 0 := ⟨zeroK_wf, rfl, LN_pos⟩
theorem NK.red {a : List Nat} (h : ∀ c ∈ a, c < 256) : NK (concNOps.scal (redN concNOps zeroL a)) (leB a % LN) := by
  obtain ⟨w, e⟩ := redV_val h
  rw [red_conc]
  exact NK.of w e (Nat.mod_lt _ LN_pos)
theorem NK.whole {a : K32} {n : Nat} (h : NK a n) : (wholeL a).wf ∧ val4 (wholeL a) = n := by
  obtain ⟨w, e⟩ := wholeL_val h.wf
  exact ⟨w, by rw [e, h.val]⟩
theorem mod_once {n : Nat} (h : n < LN + LN) : n % LN = if n < LN then n else n - LN := by
  split
  · exact Nat.mod_eq_of_lt (by assumption)
  · rw [Nat.mod_eq_sub_mod (by omega), Nat.mod_eq_of_lt (by omega)]
theorem off_once {p : L4} (w : p.wf) {n : Nat} (e : val4 p = n) (h : n < LN + LN) : (bif lessN concNOps p then p else minD p ordL).wf ∧ val4 (bif lessN concNOps p then p else minD p ordL) = n % LN := by
  rw [less_conc w, e, mod_once h]
  by_cases hl : n < LN
  · rw [decide_eq_true hl, if_pos hl, cond_true]
    exact ⟨w, e⟩
  · rw [decide_eq_false hl, if_neg hl, cond_false]
    obtain ⟨w2, e2⟩ := off_red w (by omega)
    exact ⟨w2, by omega⟩
theorem bif_not {α : Type} (c : Bool) (x y : α) : (bif !c then x else y) = bif c then y else x := by cases c <;> rfl
theorem NK.add {a b : K32} {m n : Nat} (ha : NK a m) (hb : NK b n) : NK (addN concNOps a b) ((m + n) % LN) := by
  have e : addN concNOps a b = bytesR4 (bif !lessN concNOps (addL (wholeL a) (wholeL b)) then minD (addL (wholeL a) (wholeL b)) ordL else addL (wholeL a) (wholeL b)) := by kernel_rfl
  obtain ⟨wa, ea⟩ := ha.whole
  obtain ⟨wb, eb⟩ := hb.whole
  have la := ha.lt
  have lb := hb.lt
  obtain ⟨ws, es⟩ := sum_red wa wb (by rw [ea]; exact la) (by rw [eb]; exact lb)
  rw [ea, eb] at es
  rw [e, bif_not]
  obtain ⟨w, v⟩ := off_once ws es (by omega)
  exact NK.of w v (Nat.mod_lt _ LN_pos)
theorem NK.sub {a b : K32} {m n : Nat} (ha : NK a m) (hb : NK b n) : NK (subN concNOps a b) ((m + (LN - n)) % LN) := by
  have e : subN concNOps a b = bytesR4 (bif decide (minB (wholeL a) (wholeL b) = 1) then addL (minD (wholeL a) (wholeL b)) ordL else minD (wholeL a) (wholeL b)) := by kernel_rfl
  obtain ⟨wa, ea⟩ := ha.whole
  obtain ⟨wb, eb⟩ := hb.whole
  have la := ha.lt
  have lb := hb.lt
  rw [e, minB_lt wa wb, ea, eb, mod_once (by omega)]
  by_cases h : m < n
  · obtain ⟨w, v⟩ := on_red wa wb (by rw [ea, eb]; exact h) (by rw [ea, eb]; omega)
    rw [decide_eq_true h, cond_true, if_pos (by omega)]
    exact NK.of w (by rw [v, ea, eb]; omega) (by omega)
  · obtain ⟨e1, w, hm⟩ := min_val wa wb
    have hb := minB_lt wa wb
    rw [ea, eb, decide_eq_false h] at hb
    have h0 : minB (wholeL a) (wholeL b) = 0 := by
      have := of_decide_eq_false hb
      omega
    rw [h0, ea, eb, Nat.mul_zero, Nat.add_zero] at e1
    rw [decide_eq_false h, cond_false, if_neg (by omega)]
    exact NK.of w (by omega) (by omega)
theorem NK.neg {a : K32} {m : Nat} (ha : NK a m) : NK (subN concNOps zeroK a) ((LN - m) % LN) := by
  have := NK.sub NK.zero ha
  rwa [Nat.zero_add] at this
theorem times_conc (x : L4) (c : Nat) : timesN concNOps x c = timesV x c := by kernel_rfl
theorem muP_conc (x n : L4) (c : Nat) : muP concNOps x n c = addL (stepLV n 0) (redV zeroL (timesV x c)) := by
  have e : muP concNOps x n c = addL (stepN concNOps n 0) (redN concNOps zeroL (List.take 33 (List.drop 0 (timesN concNOps x c)))) := by kernel_rfl
  rw [e, stepN_conc, red_conc, times_conc, List.drop_zero, show List.take 33 (timesV x c) = timesV x c from List.take_of_length_le (Nat.le_refl 33)]
theorem muV_val {x n : L4} (hx : x.wf) (hn : n.wf) (ln : val4 n < LN) {c : Nat} (hc : c < 256) : (muV concNOps x n c).wf ∧ val4 (muV concNOps x n c) = (val4 n * 256 + val4 x * c) % LN := by
  obtain ⟨w1, e1⟩ := stepLV_val hn ln (c := 0) (by decide)
  obtain ⟨t1, t2, t3⟩ := timesV_val hx hc
  obtain ⟨w2, e2⟩ := redV_val t2
  rw [t1] at e2
  have l1 : val4 (stepLV n 0) < LN := by rw [e1]; exact Nat.mod_lt _ LN_pos
  have l2 : val4 (redV zeroL (timesV x c)) < LN := by rw [e2]; exact Nat.mod_lt _ LN_pos
  obtain ⟨w, e⟩ := sum_red w1 w2 l1 l2
  have em : muV concNOps x n c = bif lessN concNOps (muP concNOps x n c) then muP concNOps x n c else minD (muP concNOps x n c) ordL := by kernel_rfl
  rw [em, muP_conc]
  obtain ⟨w3, e3⟩ := off_once w e (by omega)
  refine ⟨w3, ?_⟩
  rw [e3, e1, e2, Nat.add_zero, ← Nat.add_mod]
theorem mulF_cons (x n : L4) (c : Nat) (k : List Nat) : mulF concNOps x n (c :: k) = muV concNOps x (mulF concNOps x n k) c := by
  unfold mulF
  rw [List.foldr_cons]
theorem mul_step (X B c L : Nat) : (X * B % L * 256 + X * c) % L = X * (c + 256 * B) % L := by
  rw [Nat.add_mod, Nat.mul_mod (X * B % L), Nat.mod_mod, ← Nat.mul_mod, ← Nat.add_mod, Nat.mul_add, Nat.add_comm, Nat.mul_comm (X * B), ← Nat.mul_assoc, ← Nat.mul_assoc, Nat.mul_comm X 256]
theorem mulF_val {x : L4} (hx : x.wf) : ∀ {k : List Nat}, (∀ c ∈ k, c < 256) → (mulF concNOps x zeroL k).wf ∧ val4 (mulF concNOps x zeroL k) = val4 x * leB k % LN
  | [], _ => by
    unfold mulF
    rw [List.foldr_nil, zeroL_val]
    exact ⟨zeroL_wf, by rw [leB, Nat.mul_zero, Nat.zero_mod]⟩
  | c :: k, h => by
    obtain ⟨w, e⟩ := mulF_val hx (k := k) fun y hy => h y (by simp [hy])
    obtain ⟨w2, e2⟩ := muV_val hx w (by rw [e]; exact Nat.mod_lt _ LN_pos) (h c (by simp))
    rw [mulF_cons]
    refine ⟨w2, ?_⟩
    rw [e2, e, leB]
    exact mul_step _ _ _ _
theorem NK.mul {a b : K32} {m n : Nat} (ha : NK a m) (hb : NK b n) : NK (mulN concNOps a b) (m * n % LN) := by
  have e : mulN concNOps a b = bytesR4 (mulF concNOps (wholeL a) zeroL b.toList) := by kernel_rfl
  obtain ⟨wa, ea⟩ := ha.whole
  obtain ⟨w, v⟩ := mulF_val wa (k := b.toList) hb.wf
  rw [e]
  exact NK.of w (by rw [v, ea, leB_key, hb.val]) (Nat.mod_lt _ LN_pos)
theorem wholeN_val {k : K32} (h : k.wf) : wholeN concNOps k = bif decide (leVal k < LN) then (k, 0) else (zeroK, 191) := by
  obtain ⟨w, e⟩ := wholeL_val h
  have e1 : wholeN concNOps k = bif decide (0 ≤ (bif decide (minB (wholeL k) ordL = 1) then (-1 : Int) else bif isZ (minD (wholeL k) ordL) then 0 else 1)) then (zeroK, 191) else (k, 0) := by kernel_rfl
  rw [e1, minB_lt w ordL_wf, ordL_val, e]
  by_cases hl : leVal k < LN
  · rw [decide_eq_true hl]; rfl
  · rw [decide_eq_false hl]
    cases isZ (minD (wholeL k) ordL) <;> rfl

/-! ### the document's -/

theorem dRound_val {e s : List Nat} {E S : Nat} (he : ND e E) (hs : ND s S) (x : Nat) : ND (dRound concD e s x) ((S + S + (if 128 ≤ x then E else 0)) % LN) := by
  have e1 : dRound concD e s x = bif decide (128 ≤ x) then concD.add (resp 16 (concD.add (resp 16 s) (resp 16 s))) (resp 16 e) else concD.add (resp 16 s) (resp 16 s) := by
    unfold dRound; rfl
  rw [e1, hs.resp, he.resp]
  have h1 := hs.add hs
  by_cases h : 128 ≤ x
  · rw [decide_eq_true h, if_pos h, cond_true, h1.resp]
    have h2 := h1.add he
    rwa [Nat.mod_add_mod] at h2
  · rw [decide_eq_false h, if_neg h, cond_false, Nat.add_zero]
    exact h1
theorem bit_stepD {c : Nat} {n : Nat} (hn : n < 8) : c / 2 ^ (8 - (n + 1)) = 2 * (c / 2 ^ (8 - n)) + (if 128 ≤ c * 2 ^ n % 256 then 1 else 0) ∧ c * 2 ^ n % 256 % 128 * 2 % 2 ^ 8 = c * 2 ^ (n + 1) % 256 := by
  have h : n = 0 ∨ n = 1 ∨ n = 2 ∨ n = 3 ∨ n = 4 ∨ n = 5 ∨ n = 6 ∨ n = 7 := by omega
  rcases h with h | h | h | h | h | h | h | h <;> subst h <;> simp only [Nat.reduceAdd, Nat.reduceSub, Nat.reducePow] <;> refine ⟨?_, by omega⟩ <;> split <;> omega
theorem dRn_val {e s : List Nat} {E S c : Nat} (he : ND e E) (hs : ND s S) (hc : c < 256) : ∀ n, n ≤ 8 → ND (dRn concD e (s, c) n).1 ((2 ^ n * S + E * (c / 2 ^ (8 - n))) % LN) ∧ (dRn concD e (s, c) n).2 = c * 2 ^ n % 256
  | 0, _ => by
    rw [dRn]
    refine ⟨?_, by show c = c * 2 ^ 0 % 256; omega⟩
    show ND s _
    rw [show c / 2 ^ (8 - 0) = 0 by show c / 256 = 0; omega, Nat.mul_zero, Nat.add_zero, Nat.pow_zero, Nat.one_mul, Nat.mod_eq_of_lt hs.lt]
    exact hs
  | n + 1, hn => by
    obtain ⟨h1, h2⟩ := dRn_val he hs hc n (by omega)
    obtain ⟨b1, b2⟩ := bit_stepD (c := c) (n := n) (by omega)
    rw [dRn]
    dsimp only
    rw [h2, b2]
    refine ⟨?_, rfl⟩
    have h3 := dRound_val he h1 (c * 2 ^ n % 256)
    rw [b1]
    have ee : ((2 ^ n * S + E * (c / 2 ^ (8 - n))) % LN + (2 ^ n * S + E * (c / 2 ^ (8 - n))) % LN + (if 128 ≤ c * 2 ^ n % 256 then E else 0)) % LN =
        (2 ^ (n + 1) * S + E * (2 * (c / 2 ^ (8 - n)) + (if 128 ≤ c * 2 ^ n % 256 then 1 else 0))) % LN := by
      have e1 : 2 ^ (n + 1) * S = 2 ^ n * S + 2 ^ n * S := by rw [Nat.pow_succ, Nat.mul_comm (2 ^ n) 2, Nat.mul_assoc, Nat.two_mul]
      have e2 : E * (2 * (c / 2 ^ (8 - n)) + (if 128 ≤ c * 2 ^ n % 256 then 1 else 0)) = E * (c / 2 ^ (8 - n)) + E * (c / 2 ^ (8 - n)) + (if 128 ≤ c * 2 ^ n % 256 then E else 0) := by
        rw [Nat.mul_add, Nat.two_mul, Nat.mul_add]
        split
        · rw [Nat.mul_one]
        · rw [Nat.mul_zero]
      rw [e1, e2]
      generalize 2 ^ n * S = u
      generalize E * (c / 2 ^ (8 - n)) = v
      generalize (if 128 ≤ c * 2 ^ n % 256 then E else 0) = w
      rw [Nat.add_mod, ← Nat.add_mod (u + v) (u + v), ← Nat.add_mod]
      congr 1
      omega
    rw [← ee]
    exact h3
theorem byteR_val {e s : List Nat} {E S c : Nat} (he : ND e E) (hs : ND s S) (hc : c < 256) : ND (byteR concD e s c) ((256 * S + E * c) % LN) := by
  have h := (dRn_val he hs hc 8 (Nat.le_refl _)).1
  have e1 : byteR concD e s c = (dRn concD e (resp 16 s, c) 8).1 := by unfold byteR; rfl
  rw [e1, hs.resp]
  rw [show c / 2 ^ (8 - 8) = c by show c / 1 = c; omega] at h
  exact h
theorem redD_cons (e s : List Nat) (c : Nat) (b : List Nat) : redD concD e s (c :: b) = byteR concD e (redD concD e s b) c := by
  unfold redD
  rw [List.foldr_cons]
theorem redD_val {e : List Nat} {E : Nat} (he : ND e E) : ∀ {b : List Nat}, (∀ c ∈ b, c < 256) → ND (redD concD e zeroD b) (E * leB b % LN)
  | [], _ => by
    unfold redD
    rw [List.foldr_nil, leB, Nat.mul_zero, Nat.zero_mod]
    exact ND.zero
  | c :: b, h => by
    have ih := redD_val he (b := b) fun y hy => h y (by simp [hy])
    have h2 := byteR_val he ih (h c (by simp))
    rw [redD_cons, leB, ← mul_step]
    rwa [Nat.mul_comm 256] at h2
theorem ND.red {b : List Nat} (h : ∀ c ∈ b, c < 256) : ND (redD concD oneD zeroD b) (leB b % LN) := by
  have := redD_val ND.one h
  rwa [Nat.one_mul] at this
theorem ND.mul {a : List Nat} {m : Nat} (ha : ND a m) {k : K32} {n : Nat} (hk : k.wf) (hv : leVal k = n) : ND (redD concD a zeroD k.toList) (m * n % LN) := by
  have := redD_val ha (b := k.toList) hk
  rwa [leB_key, hv] at this
theorem wholeC_val {k : K32} (h : k.wf) : wholeC concD k = decide (leVal k < LN) := by
  have h1 := ND.red (b := k.toList) h
  rw [leB_key] at h1
  obtain ⟨w, e⟩ := h1.key
  unfold wholeC
  rw [key_eq_iff w h, e]
  by_cases hl : leVal k < LN
  · rw [decide_eq_true hl, decide_eq_true (Nat.mod_eq_of_lt hl)]
  · rw [decide_eq_false hl, decide_eq_false (fun hh => hl (by rw [← hh]; exact Nat.mod_lt _ LN_pos))]
theorem same_key {a : K32} {l : List Nat} {n : Nat} (ha : NK a n) (hl : ND l n) : keyEq a (bytD (resp 16 l)) = true := by
  obtain ⟨w, e⟩ := hl.key
  rw [key_eq_iff ha.wf w, ha.val, e]
  exact decide_eq_true rfl
end Go.Proofs.YtpmbfepkdjkheaaGreat

