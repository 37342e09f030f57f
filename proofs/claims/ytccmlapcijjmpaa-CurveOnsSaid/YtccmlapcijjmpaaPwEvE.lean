/- A part of the proof: PwEvE. -/
import Derived.Test.YtccmlapcijjmpaaPwEvD
namespace Pw
open Go

variable {P : Program} {T : List (Nat × TE)} {ρ : Type}

/-! ### operations that touch no memory -/

def binK (T : List (Nat × TE)) (op : BinOp) (t : Nat) (x y : AV) (K : AV → Option ρ) : Option ρ :=
  match op, x, y with
  | .shl, .u k a, .u _ b => shK .shl k a b K
  | .shr, .u k a, .u _ b => shK .shr k a b K
  | .shl, .u k a, .n b => bif decide (0 ≤ b) then shK .shl k a b.toNat K else none
  | .shr, .u k a, .n b => bif decide (0 ≤ b) then shK .shr k a b.toNat K else none
  | .shl, _, _ => none
  | .shr, _, _ => none
  | op, .u k a, .u k' b => bif decide (k = k') then binU op k a b K else none
  | op, .n a, .n b => binN op a b K
  | .eql, .agg xs, .agg ys => match (teAt T t).eqp with
    | some kd => bif (teAt T t).ty.agg && (Nat.beq xs.length (teAt T t).size && Nat.beq ys.length (teAt T t).size) then
        (match eqCells kd xs ys with | some c => K (.bool c) | none => none) else none
    | none => none
  | .neq, .agg xs, .agg ys => match (teAt T t).eqp with
    | some kd => bif (teAt T t).ty.agg && (Nat.beq xs.length (teAt T t).size && Nat.beq ys.length (teAt T t).size) then
        (match eqCells kd xs ys with | some c => K (.bool (!c)) | none => none) else none
    | none => none
  | .eql, .bool a, .bool b => match (teAt T t).ty with | .bool => K (.bool (a == b)) | _ => none
  | .neq, .bool a, .bool b => match (teAt T t).ty with | .bool => K (.bool (!(a == b))) | _ => none
  | .eql, .str a, .str b => K (.bool (a.toList == b.toList))
  | .neq, .str a, .str b => K (.bool (!(a.toList == b.toList)))
  | .eql, .ptr _ _, .nilp => match (teAt T t).ty with | .ptr => K (.bool false) | _ => none
  | .neq, .ptr _ _, .nilp => match (teAt T t).ty with | .ptr => K (.bool true) | _ => none
  | _, _, _ => none

theorem eqGuard_scalar {op : BinOp} {t : TypeId} {x y : Operand} {a b : Value} (h : ∀ cs, a ≠ .agg cs) (h' : a ≠ .nilIface) (w : World) :
    (eqGuard op t x y a b).run P w = .ok () w := by
  unfold eqGuard
  cases op <;> simp <;> cases a <;> first
    | (exact absurd rfl (h _))
    | (exact absurd rfl h')
    | rfl

theorem eqGuard_agg {op : BinOp} {t : TypeId} {x y : Operand} {xs ys : Array Value} (h : P.eqGuardType P.depth t = false) (w : World) :
    (eqGuard op t x y (.agg xs) (.agg ys)).run P w = .ok () w := by
  unfold eqGuard
  cases op <;> simp [h]

theorem Ty.agg_cases {y : Ty} (h : y.agg = true) : (∃ n e, y = .arr n e) ∨ ∃ fs, y = .struct fs := by
  cases y <;> simp_all [Ty.agg]

theorem Known.agg_under {t : Nat} {e : TE} (k : Known P t e) (h : e.ty.agg = true) : (∃ n el, P.underlying t = some (.array n el)) ∨ ∃ fs, P.underlying t = some (.struct fs) := by
  rcases Ty.agg_cases h with ⟨n, el, he⟩ | ⟨fs, he⟩
  · exact .inl ⟨n, el, k.arr he⟩
  · obtain ⟨fa, hfa, -⟩ := k.struct he
    exact .inr ⟨fa, hfa⟩

theorem mkv_agg {t : TypeId} (hagg : (∃ n e, P.underlying t = some (.array n e)) ∨ ∃ fs, P.underlying t = some (.struct fs)) (xs : Array Value) : mkv P t xs.toList = .agg xs := by
  rcases hagg with ⟨n, e, hu⟩ | ⟨fs, hu⟩ <;> simp [mkv, hu]

theorem ty_agg_ne {y : Ty} (h : y.agg = true) : y ≠ .other := by intro e; subst e; simp [Ty.agg] at h

theorem Known.cellsOf {t : Nat} {e : TE} (k : Known P t e) : P.cellsOf t = e.size := by
  obtain ⟨i, hi, h, -⟩ := k.info
  simp [Program.cellsOf, hi, h]

theorem eq_agg_sound (hT : TabOK P T) {t : Nat} {kd : IntKind} (hagg : (teAt T t).ty.agg = true) (he : (teAt T t).eqp = some kd) {xs ys : List AV} {c : Bool} (h : eqCells kd xs ys = some c)
    (h1 : xs.length = (teAt T t).size) (h2 : ys.length = (teAt T t).size) {σ : Ren} {x y : Value} (hx : R σ (.agg xs) x) (hy : R σ (.agg ys) y) (w : World) :
    ∃ xa ya, x = .agg xa ∧ y = .agg ya ∧ P.eqGuardType P.depth t = false ∧ (Op.equal t x y).run P w = .ok c w := by
  have k := hT.known (ty_agg_ne hagg)
  obtain ⟨m, hm, hg⟩ := k.eq kd he
  have hu := k.agg_under hagg
  have hsz := (plainCells_info hm).1
  rw [k.cellsOf] at hsz
  cases hx with | agg _ xa hx =>
  cases hy with | agg _ ya hy =>
  refine ⟨xa, ya, rfl, rfl, hg, ?_⟩
  have := eqIn_sound 8 t m hm Op.maxDepth (by simp [Op.maxDepth]) xs ys c xa.toList ya.toList (by omega) (by omega) h hx hy w
  rwa [mkv_agg hu, mkv_agg hu] at this

theorem run_guarded {op : BinOp} {t : TypeId} {x y : Operand} {va vb rv : Value} {w : World} (h : ∀ cs, va ≠ .agg cs) (h' : va ≠ .nilIface) (hr : (binOp op t va vb).run P w = .ok rv w) :
    (do eqGuard op t x y va vb; binOp op t va vb : Sem Value).run P w = .ok rv w := by
  rw [Sem.run_bind, eqGuard_scalar h h']; exact hr

theorem run_equal_ptr {t el : TypeId} (hu : P.underlying t = some (.pointer el)) (a : Addr) (w : World) : (Op.equal t (.pointer (some a)) (.pointer none)).run P w = .ok false w := by
  show (Op.equalIn (9999 + 1) t _ _).run P w = _
  generalize 9999 = d
  simp [Op.equalIn, run_under hu]

theorem binK_sound (hT : TabOK P T) {op : BinOp} {t : Nat} {a b : AV} {K : AV → Option ρ} {r : ρ} (h : binK T op t a b K = some r) :
    ∃ v, K v = some r ∧ ∀ (σ : Ren) (x y : Operand) (va vb : Value) (w : World), R σ a va → R σ b vb →
      ∃ rv, (do eqGuard op t x y va vb; binOp op t va vb : Sem Value).run P w = .ok rv w ∧ R σ v rv := by
  unfold binK at h
  split at h
  case h_1 k a k' b =>
    obtain ⟨v, hv, hs⟩ := shK_sound (P := P) h
    refine ⟨v, hv, fun σ x y va vb w ha hb => ?_⟩
    cases ha with | u _ _ hk hlt =>
    cases hb with | u _ _ hk' hlt' =>
    obtain ⟨rv, hr, hR⟩ := hs hk hlt t k' w
    exact ⟨rv, run_guarded (by simp) (by simp) hr, hR σ⟩
  case h_2 k a k' b =>
    obtain ⟨v, hv, hs⟩ := shK_sound (P := P) h
    refine ⟨v, hv, fun σ x y va vb w ha hb => ?_⟩
    cases ha with | u _ _ hk hlt =>
    cases hb with | u _ _ hk' hlt' =>
    obtain ⟨rv, hr, hR⟩ := hs hk hlt t k' w
    exact ⟨rv, run_guarded (by simp) (by simp) hr, hR σ⟩
  case h_3 k a b =>
    obtain ⟨h1, h2⟩ := bif_some h
    have h1' := of_decide_eq_true h1
    obtain ⟨v, hv, hs⟩ := shK_sound (P := P) h2
    refine ⟨v, hv, fun σ x y va vb w ha hb => ?_⟩
    cases ha with | u _ _ hk hlt =>
    cases hb with | n _ h3 h4 =>
    obtain ⟨rv, hr, hR⟩ := hs hk hlt t .i64 w
    rw [Int.toNat_of_nonneg h1'] at hr
    exact ⟨rv, run_guarded (by simp) (by simp) hr, hR σ⟩
  case h_4 k a b =>
    obtain ⟨h1, h2⟩ := bif_some h
    have h1' := of_decide_eq_true h1
    obtain ⟨v, hv, hs⟩ := shK_sound (P := P) h2
    refine ⟨v, hv, fun σ x y va vb w ha hb => ?_⟩
    cases ha with | u _ _ hk hlt =>
    cases hb with | n _ h3 h4 =>
    obtain ⟨rv, hr, hR⟩ := hs hk hlt t .i64 w
    rw [Int.toNat_of_nonneg h1'] at hr
    exact ⟨rv, run_guarded (by simp) (by simp) hr, hR σ⟩
  case h_5 => cases h
  case h_6 => cases h
  case h_7 op k a k' b hx1 hx2 hx3 hx4 =>
    obtain ⟨h1, h2⟩ := bif_some h
    have h1' := of_decide_eq_true h1
    subst h1'
    obtain ⟨v, hv, hs⟩ := binU_sound (P := P) h2 ⟨fun e => by subst e; simp_all, fun e => by subst e; simp_all⟩
    refine ⟨v, hv, fun σ x y va vb w ha hb => ?_⟩
    cases ha with | u _ _ hk hlt =>
    cases hb with | u _ _ hk' hlt' =>
    obtain ⟨rv, hr, hR⟩ := hs hk hlt hlt' t w
    exact ⟨rv, run_guarded (by simp) (by simp) hr, hR σ⟩
  case h_8 op a b hx1 hx2 =>
    obtain ⟨v, hv, hs⟩ := binN_sound (P := P) h ⟨fun e => by subst e; simp_all, fun e => by subst e; simp_all⟩
    refine ⟨v, hv, fun σ x y va vb w ha hb => ?_⟩
    cases ha with | n _ h1 h2 =>
    cases hb with | n _ h3 h4 =>
    obtain ⟨rv, hr, hR⟩ := hs h1 h2 t w
    exact ⟨rv, run_guarded (by simp) (by simp) hr, hR σ⟩
  case h_9 xs ys =>
    split at h
    · rename_i kd hkd
      obtain ⟨h1, h2⟩ := bif_some h
      simp only [Bool.and_eq_true] at h1
      split at h2
      · rename_i c hc
        refine ⟨_, h2, fun σ x y va vb w ha hb => ?_⟩
        obtain ⟨xa, ya, rfl, rfl, hg, he⟩ := eq_agg_sound hT h1.1 hkd hc (Nat.eq_of_beq_eq_true h1.2.1) (Nat.eq_of_beq_eq_true h1.2.2) ha hb w
        exact ⟨.bool c, by rw [Sem.run_bind, eqGuard_agg hg]; simp [binOp, he], .bool c⟩
      · cases h2
    · cases h
  case h_10 xs ys =>
    split at h
    · rename_i kd hkd
      obtain ⟨h1, h2⟩ := bif_some h
      simp only [Bool.and_eq_true] at h1
      split at h2
      · rename_i c hc
        refine ⟨_, h2, fun σ x y va vb w ha hb => ?_⟩
        obtain ⟨xa, ya, rfl, rfl, hg, he⟩ := eq_agg_sound hT h1.1 hkd hc (Nat.eq_of_beq_eq_true h1.2.1) (Nat.eq_of_beq_eq_true h1.2.2) ha hb w
        exact ⟨.bool (!c), by rw [Sem.run_bind, eqGuard_agg hg]; simp [binOp, he], .bool _⟩
      · cases h2
    · cases h
  case h_11 a b =>
    split at h
    · rename_i hty
      have hu := (hT.known (t := t) (by rw [hty]; simp)).bool hty
      refine ⟨_, h, fun σ x y va vb w ha hb => ?_⟩
      cases ha; cases hb
      exact ⟨.bool (a == b), run_guarded (by simp) (by simp) (by simp [binOp, run_equal_bool w t a b hu]), .bool _⟩
    · cases h
  case h_12 a b =>
    split at h
    · rename_i hty
      have hu := (hT.known (t := t) (by rw [hty]; simp)).bool hty
      refine ⟨_, h, fun σ x y va vb w ha hb => ?_⟩
      cases ha; cases hb
      exact ⟨.bool (!(a == b)), run_guarded (by simp) (by simp) (by simp [binOp, run_equal_bool w t a b hu]), .bool _⟩
    · cases h
  case h_13 a b =>
    refine ⟨_, h, fun σ x y va vb w ha hb => ?_⟩
    cases ha; cases hb
    exact ⟨.bool (a.toList == b.toList), run_guarded (by simp) (by simp) (by simp [binOp, Op.stringOp]), .bool _⟩
  case h_14 a b =>
    refine ⟨_, h, fun σ x y va vb w ha hb => ?_⟩
    cases ha; cases hb
    exact ⟨.bool (!(a.toList == b.toList)), run_guarded (by simp) (by simp) (by simp [binOp, Op.stringOp]), .bool _⟩
  case h_15 =>
    split at h
    · rename_i hty
      obtain ⟨el, hu⟩ := (hT.known (t := t) (by rw [hty]; simp)).ptr hty
      refine ⟨_, h, fun σ x y va vb w ha hb => ?_⟩
      cases ha; cases hb
      exact ⟨.bool false, run_guarded (by simp) (by simp) (by simp [binOp, run_equal_ptr hu]), .bool _⟩
    · cases h
  case h_16 =>
    split at h
    · rename_i hty
      obtain ⟨el, hu⟩ := (hT.known (t := t) (by rw [hty]; simp)).ptr hty
      refine ⟨_, h, fun σ x y va vb w ha hb => ?_⟩
      cases ha; cases hb
      exact ⟨.bool true, run_guarded (by simp) (by simp) (by simp [binOp, run_equal_ptr hu]), .bool _⟩
    · cases h
  case h_17 => cases h

end Pw
