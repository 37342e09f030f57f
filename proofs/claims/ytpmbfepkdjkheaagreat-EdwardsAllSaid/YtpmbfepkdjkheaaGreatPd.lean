/- The points of layer 19, of the program and of the document, by value (1): over any numbers that reckon right. -/
import Derived.Test.YtpmbfepkdjkheaaGreatPb
import Derived.Test.YtpmbfepkdjkheaaGreatFf
import Derived.Test.YtpmbfepkdjkheaaGreatPwMi
namespace Go.Proofs.YtpmbfepkdjkheaaGreat
open Go Pw Go.RowKit

/-- a number that says v -/
def NV (x : L5) (v : Fp) : Prop := ok5 x ∧ fv x = v
def RV (x : L4) (v : Fp) : Prop := ok4 x ∧ rv x = v
theorem NV.zero : NV zero5 0 := ⟨Sim.zero.ok, fv_zero⟩
theorem RV.zero : RV zeroR 0 := ⟨rzero_ok, rv_zero⟩
/-- numbers that reckon right -/
structure FGood (o : FOps) : Prop where
  frm : ∀ {k : K32}, k.wf → NV (o.frm k) (toF (leVal k % B255))
  bytes : ∀ {x : L5} {u : Fp}, NV x u → (o.bytes x).wf ∧ leVal (o.bytes x) = u.val
  small : ∀ {n : Nat}, n < 18446744073709551616 → NV (o.small n) (toF n)
  add : ∀ {x y : L5} {u v : Fp}, NV x u → NV y v → NV (o.add x y) (u + v)
  sub : ∀ {x y : L5} {u v : Fp}, NV x u → NV y v → NV (o.sub x y) (u - v)
  neg : ∀ {x : L5} {u : Fp}, NV x u → NV (o.neg x) (-u)
  mul : ∀ {x y : L5} {u v : Fp}, NV x u → NV y v → NV (o.mul x y) (u * v)
  sq : ∀ {x : L5} {u : Fp}, NV x u → NV (o.sq x) (u * u)
  times : ∀ {x : L5} {u : Fp} {n : Nat}, NV x u → n ≤ 4294967295 → NV (o.times x n) (u * toF n)
  equal : ∀ {x y : L5} {u v : Fp}, NV x u → NV y v → o.equal x y = decide (u = v)
  isZero : ∀ {x : L5} {u : Fp}, NV x u → o.isZero x = decide (u = 0)
  odd : ∀ {x : L5} {u : Fp}, NV x u → o.odd x = decide (u.val % 2 = 1)
  inv : ∀ {x : L5} {u : Fp}, NV x u → NV (invO o x) (finv u)
  root : ∀ {x : L5} {u : Fp}, NV x u → NV (rootO o x) (rootF u) ∧ rootB o x = hasRoot u
  rfrm : ∀ {k : K32}, k.wf → RV (o.rfrm k) (toF (leVal k % B255))
  rbytes : ∀ {x : L4} {u : Fp}, RV x u → (o.rbytes x).wf ∧ leVal (o.rbytes x) = u.val
  rsmall : ∀ {n : Nat}, n < 18446744073709551616 → RV (o.rsmall n) (toF n)
  radd : ∀ {x y : L4} {u v : Fp}, RV x u → RV y v → RV (o.radd x y) (u + v)
  rsub : ∀ {x y : L4} {u v : Fp}, RV x u → RV y v → RV (o.rsub x y) (u - v)
  rneg : ∀ {x : L4} {u : Fp}, RV x u → RV (o.rneg x) (-u)
  rmul : ∀ {x y : L4} {u v : Fp}, RV x u → RV y v → RV (o.rmul x y) (u * v)
  rsq : ∀ {x : L4} {u : Fp}, RV x u → RV (o.rsq x) (u * u)
  requal : ∀ {x y : L4} {u v : Fp}, RV x u → RV y v → o.requal x y = decide (u = v)
  risZero : ∀ {x : L4} {u : Fp}, RV x u → o.risZero x = decide (u = 0)
  rodd : ∀ {x : L4} {u : Fp}, RV x u → o.rodd x = decide (u.val % 2 = 1)
  rinv : ∀ {x : L4} {u : Fp}, RV x u → RV (rinvO o x) (finv u)
  rroot : ∀ {x : L4} {u : Fp}, RV x u → RV (rrootO o x) (rootF u) ∧ rrootB o x = hasRoot u
theorem conc_frm (k : K32) : concFOps.frm k = fromS k := by kernel_rfl
theorem conc_bytes (x : L5) : concFOps.bytes x = bytesS x := by kernel_rfl
theorem conc_small (n : Nat) : concFOps.small n = smallS n := by kernel_rfl
theorem conc_add (x y : L5) : concFOps.add x y = addS x y := by kernel_rfl
theorem conc_sub (x y : L5) : concFOps.sub x y = subS x y := by kernel_rfl
theorem conc_neg (x : L5) : concFOps.neg x = negS x := by kernel_rfl
theorem conc_mul (x y : L5) : concFOps.mul x y = mulS x y := by kernel_rfl
theorem conc_sq (x : L5) : concFOps.sq x = sqS x := by kernel_rfl
theorem conc_times (x : L5) (n : Nat) : concFOps.times x n = timesS x n := by kernel_rfl
theorem conc_equal (x y : L5) : concFOps.equal x y = equalS x y := by kernel_rfl
theorem conc_isZero (x : L5) : concFOps.isZero x = isZeroS x := by kernel_rfl
theorem conc_odd (x : L5) : concFOps.odd x = oddS x := by kernel_rfl
theorem conc_rfrm (k : K32) : concFOps.rfrm k = fromR k := by kernel_rfl
theorem conc_rbytes (x : L4) : concFOps.rbytes x = bytesR4 x := by kernel_rfl
theorem conc_rsmall (n : Nat) : concFOps.rsmall n = smallR n := by kernel_rfl
theorem conc_radd (x y : L4) : concFOps.radd x y = addR x y := by kernel_rfl
theorem conc_rsub (x y : L4) : concFOps.rsub x y = subR x y := by kernel_rfl
theorem conc_rneg (x : L4) : concFOps.rneg x = negR x := by kernel_rfl
theorem conc_requal (x y : L4) : concFOps.requal x y = equalR x y := by kernel_rfl
theorem conc_risZero (x : L4) : concFOps.risZero x = isZeroR x := by kernel_rfl
theorem conc_rodd (x : L4) : concFOps.rodd x = oddR x := by kernel_rfl
theorem concGood : FGood concFOps where
  frm h := by rw [conc_frm]; exact ⟨from_ok h, from_fv h⟩
  bytes h := by rw [conc_bytes]; exact ⟨bytesS_wf _, by rw [bytes_val h.1, h.2]⟩
  small h := by rw [conc_small]; exact ⟨small_ok h, fv_small h⟩
  add hx hy := by rw [conc_add]; exact ⟨add_ok hx.1 hy.1, by rw [fv_add hx.1 hy.1, hx.2, hy.2]⟩
  sub hx hy := by rw [conc_sub]; exact ⟨sub_ok hx.1 hy.1, by rw [fv_sub hx.1 hy.1, hx.2, hy.2]⟩
  neg hx := by rw [conc_neg]; exact ⟨neg_ok hx.1, by rw [fv_neg hx.1, hx.2]⟩
  mul hx hy := by rw [conc_mul]; exact ⟨mul_ok hx.1 hy.1, by rw [fv_mul hx.1 hy.1, hx.2, hy.2]⟩
  sq hx := by rw [conc_sq]; exact ⟨sq_ok hx.1, by rw [fv_sq hx.1, hx.2]⟩
  times hx hn := by rw [conc_times]; exact ⟨times_ok hx.1 hn, by rw [fv_times hx.1 hn, hx.2]⟩
  equal hx hy := by rw [conc_equal, equalS_fv hx.1 hy.1, hx.2, hy.2]
  isZero hx := by rw [conc_isZero, isZeroS_fv hx.1, hx.2]
  odd hx := by rw [conc_odd, oddS_fv hx.1, hx.2]
  inv hx := ⟨(inv_fv hx.1).1, by rw [(inv_fv hx.1).2, hx.2]⟩
  root hx := ⟨⟨(rootO_fv hx.1).1, by rw [(rootO_fv hx.1).2, hx.2]⟩, by rw [rootB_fv hx.1, hx.2]⟩
  rfrm h := by rw [conc_rfrm]; exact ⟨(Sim.from h).ok4, rv_from h⟩
  rbytes h := by rw [conc_rbytes]; exact ⟨bytesR_wf _, by rw [rbytes_val h.1, h.2]⟩
  rsmall h := by rw [conc_rsmall]; exact ⟨rsmall_ok h, rv_small h⟩
  radd hx hy := by rw [conc_radd]; exact ⟨radd_ok hx.1 hy.1, by rw [rv_add hx.1 hy.1, hx.2, hy.2]⟩
  rsub hx hy := by rw [conc_rsub]; exact ⟨rsub_ok hx.1 hy.1, by rw [rv_sub hx.1 hy.1, hx.2, hy.2]⟩
  rneg hx := by rw [conc_rneg]; exact ⟨rneg_ok hx.1, by rw [rv_neg hx.1, hx.2]⟩
  rmul hx hy := by rw [rmul_conc]; exact ⟨rmul_ok hx.1 hy.1, by rw [rv_mul hx.1 hy.1, hx.2, hy.2]⟩
  rsq hx := by rw [rsq_conc]; exact ⟨rmul_ok hx.1 hx.1, by rw [rv_mul hx.1 hx.1, hx.2]⟩
  requal hx hy := by rw [conc_requal, requal_rv hx.1 hy.1, hx.2, hy.2]
  risZero hx := by rw [conc_risZero, risZero_rv hx.1, hx.2]
  rodd hx := by rw [conc_rodd, oddR_rv hx.1, hx.2]
  rinv hx := ⟨(rinv_rv hx.1).1, by rw [(rinv_rv hx.1).2, hx.2]⟩
  rroot hx := ⟨⟨(rrootO_rv hx.1).1, by rw [(rrootO_rv hx.1).2, hx.2]⟩, by rw [rrootB_rv hx.1, hx.2]⟩
end Go.Proofs.YtpmbfepkdjkheaaGreat

