/- The program's ladder gives what the document's gives. -/
import Derived.Test.YtfajgpjpabeafaaCv
import Derived.Test.YtfajgpjpabeafaaFf
namespace Go.Proofs.Ytfajgpjpabeafaa
open Go Pw Go.RowKit

theorem byte_low : ∀ b, b < 256 → b &&& 248 = b / 8 * 8 % 256 := by decide +kernel
theorem byte_high : ∀ b, b < 256 → b &&& 127 ||| 64 = (b % 64 + 64) % 256 := by decide +kernel
theorem clamp_eq {k : K32} (h : k.wf) : clampS k = clampR k := by
  unfold clampS clampR
  rw [byte_low _ (h k.b0 (by simp [K32.toList])), byte_high _ (h k.b31 (by simp [K32.toList]))]
theorem clampR_wf {k : K32} (h : k.wf) : (clampR k).wf := by
  intro b hb
  simp only [clampR, K32.toList, List.mem_cons, List.not_mem_nil, or_false] at hb
  have hm : ∀ c ∈ k.toList, c < 256 := h
  simp only [K32.toList, List.mem_cons, List.not_mem_nil, or_false, forall_eq_or_imp, forall_eq] at hm
  omega
theorem clampS_wf {k : K32} (h : k.wf) : (clampS k).wf := by rw [clamp_eq h]; exact clampR_wf h
theorem kbit_eq (k : K32) (t : Nat) : kbit k t = rkbit k t := by
  unfold kbit rkbit
  rw [and_one]

structure SimG (r : Rungs) (s : RRungs) : Prop where
  a : Sim r.a s.a
  b : Sim r.b s.b
  c : Sim r.c s.c
  d : Sim r.d s.d
theorem SimG.turn {r : Rungs} {s : RRungs} (h : SimG r s) : SimG (swapRg r true) (turnRg s) := ⟨h.c, h.d, h.a, h.b⟩
theorem SimG.turn' {r : Rungs} {s : RRungs} (h : SimG (swapRg r true) s) : SimG r (turnRg s) := ⟨h.c, h.d, h.a, h.b⟩
theorem swap_false (r : Rungs) : swapRg r false = r := rfl
theorem times_sim {d y : L5} {d' y' : L4} (hd : Sim d d') (hy : Sim y y') : Sim (addS y (timesS d 121665)) (addR y' (mulR (smallR 121665) d')) := by
  have hs : ok4 (smallR 121665) := rsmall_ok (by decide)
  refine sim_of (add_ok hy.ok (times_ok hd.ok (by decide))) (radd_ok hy.ok4 (rmul_ok hs hd.ok4)) ?_
  rw [fv_add hy.ok (times_ok hd.ok (by decide)), fv_times hd.ok (by decide), rv_add hy.ok4 (rmul_ok hs hd.ok4), rv_mul hs hd.ok4, rv_small (by decide), hy.fv, hd.fv]
  generalize toF 121665 = c
  grind
theorem step_conc (r : Rungs) (x : L5) : stepRg concFOps r x = ⟨mulS (sqS (addS r.a r.b)) (sqS (subS r.a r.b)),
    mulS (subS (sqS (addS r.a r.b)) (sqS (subS r.a r.b))) (addS (sqS (addS r.a r.b)) (timesS (subS (sqS (addS r.a r.b)) (sqS (subS r.a r.b))) 121665)),
    sqS (addS (mulS (subS r.c r.d) (addS r.a r.b)) (mulS (addS r.c r.d) (subS r.a r.b))), mulS x (sqS (subS (mulS (subS r.c r.d) (addS r.a r.b)) (mulS (addS r.c r.d) (subS r.a r.b))))⟩ := by kernel_rfl
def sqR4 (x : L4) : L4 := mulR x x
theorem rstep_conc (x : L4) (r : RRungs) : rstepRg concFOps x r = ⟨mulR (sqR4 (addR r.a r.b)) (sqR4 (subR r.a r.b)),
    mulR (subR (sqR4 (addR r.a r.b)) (sqR4 (subR r.a r.b))) (addR (sqR4 (addR r.a r.b)) (mulR (smallR 121665) (subR (sqR4 (addR r.a r.b)) (sqR4 (subR r.a r.b))))),
    sqR4 (addR (mulR (subR r.c r.d) (addR r.a r.b)) (mulR (addR r.c r.d) (subR r.a r.b))), mulR x (sqR4 (subR (mulR (subR r.c r.d) (addR r.a r.b)) (mulR (addR r.c r.d) (subR r.a r.b))))⟩ := by kernel_rfl
theorem SimG.step {r : Rungs} {s : RRungs} {x : L5} {x' : L4} (h : SimG r s) (hx : Sim x x') : SimG (stepRg concFOps r x) (rstepRg concFOps x' s) := by
  rw [step_conc, rstep_conc]
  have sq : ∀ {u : L5} {v : L4}, Sim u v → Sim (sqS u) (sqR4 v) := fun h => h.sq
  have e := h.a.add h.b
  have f := h.a.sub h.b
  have m := (h.c.sub h.d).mul e
  have n := (h.c.add h.d).mul f
  have y := sq e
  have z := sq f
  have w := y.sub z
  exact ⟨y.mul z, w.mul (times_sim w y), sq (m.add n), hx.mul (sq (m.sub n))⟩
theorem lad_sim {k : K32} {x : L5} {x' : L4} (hx : Sim x x') {r : Rungs} {s : RRungs} (h : SimG r s) : ∀ i, i ≤ 255 → SimG (swapRg (ladP concFOps k x r false i).1 (ladP concFOps k x r false i).2) (ladD concFOps k x' s i)
  | 0, _ => h
  | i + 1, hi => by
    have ih := lad_sim (k := k) hx h i (by omega)
    rw [show ladP concFOps k x r false (i + 1) = (stepRg concFOps (swapRg (ladP concFOps k x r false i).1 (!(kbit k (254 - i) == (ladP concFOps k x r false i).2))) x, kbit k (254 - i)) from rfl,
      show ladD concFOps k x' s (i + 1) = bif rkbit k (254 - i) then turnRg (rstepRg concFOps x' (turnRg (ladD concFOps k x' s i))) else rstepRg concFOps x' (ladD concFOps k x' s i) from rfl, ← kbit_eq]
    generalize ladP concFOps k x r false i = p at *
    obtain ⟨g, b⟩ := p
    generalize ladD concFOps k x' s i = d at *
    generalize kbit k (254 - i) = c
    dsimp only at ih ⊢
    cases c
    · rw [cond_false, swap_false]
      cases b
      · exact ih.step hx
      · exact ih.step hx
    · rw [cond_true]
      cases b
      · exact (ih.turn.step hx).turn
      · exact (ih.turn'.step hx).turn
theorem scale_eq {k u : K32} (hk : k.wf) (hu : u.wf) : scaleO concFOps k u = rscaleO concFOps k u := by
  have hx := Sim.from hu
  have h0 : SimG ⟨smallS 1, zero5, fromS u, smallS 1⟩ ⟨smallR 1, smallR 0, fromR u, smallR 1⟩ := ⟨Sim.small (by decide), Sim.zero, hx, Sim.small (by decide)⟩
  have h := lad_sim (k := clampR k) hx h0 255 (Nat.le_refl _)
  have e1 : scaleO concFOps k u = bytesS (mulS (ladEnd concFOps (clampS k) (fromS u)).a (invO concFOps (ladEnd concFOps (clampS k) (fromS u)).b)) := by kernel_rfl
  have e2 : rscaleO concFOps k u = bytesR4 (mulR (rladEnd concFOps (clampR k) (fromR u)).a (rinvO concFOps (rladEnd concFOps (clampR k) (fromR u)).b)) := by kernel_rfl
  have h' : SimG (ladEnd concFOps (clampR k) (fromS u)) (rladEnd concFOps (clampR k) (fromR u)) := h
  rw [e1, e2, clamp_eq hk]
  exact (h'.a.mul (sim_inv h'.b)).bytes
theorem rbytes_wf (x : L4) : (bytesR4 x).wf := bytesR_wf x
theorem rscale_wf (k u : K32) : (rscaleO concFOps k u).wf := by
  have e2 : rscaleO concFOps k u = bytesR4 (mulR (rladEnd concFOps (clampR k) (fromR u)).a (rinvO concFOps (rladEnd concFOps (clampR k) (fromR u)).b)) := by kernel_rfl
  rw [e2]; exact bytesR_wf _
theorem nineK_wf : nineK.wf := fun b hb => of_decide_eq_true (List.all_eq_true.1 (show List.all nineK.toList (fun b => decide (b < 256)) = true by decide +kernel) b hb)
theorem on_conc (u : K32) : rootB concFOps (onX concFOps (fromS u)) = rootB concFOps (addS (addS (mulS (sqS (fromS u)) (fromS u)) (timesS (sqS (fromS u)) 486662)) (fromS u)) := by kernel_rfl
theorem ron_conc (u : K32) : rrootB concFOps (curveX concFOps (fromR u)) = rrootB concFOps (mulR (fromR u) (addR (addR (sqR4 (fromR u)) (mulR (smallR 486662) (fromR u))) (smallR 1))) := by kernel_rfl
theorem on_eq {u : K32} (hu : u.wf) : rootB concFOps (onX concFOps (fromS u)) = rrootB concFOps (curveX concFOps (fromR u)) := by
  have hx := Sim.from hu
  have x4 := hx.ok4
  have s4 : ok4 (sqR4 (fromR u)) := rmul_ok x4 x4
  have c4 : ok4 (smallR 486662) := rsmall_ok (by decide)
  have o4 : ok4 (smallR 1) := rsmall_ok (by decide)
  have m4 := rmul_ok c4 x4
  have x5 := hx.ok
  have s5 := sq_ok x5
  rw [on_conc, ron_conc]
  refine (sim_root (sim_of (add_ok (add_ok (mul_ok s5 x5) (times_ok s5 (by decide))) x5) (rmul_ok x4 (radd_ok (radd_ok s4 m4) o4)) ?_)).2
  rw [fv_add (add_ok (mul_ok s5 x5) (times_ok s5 (by decide))) x5, fv_add (mul_ok s5 x5) (times_ok s5 (by decide)), fv_mul s5 x5, fv_times s5 (by decide), fv_sq x5, rv_mul x4 (radd_ok (radd_ok s4 m4) o4), rv_add (radd_ok s4 m4) o4, rv_add s4 m4, rv_mul c4 x4,
    rv_small (by decide), rv_small (by decide), show rv (sqR4 (fromR u)) = rv (fromR u) * rv (fromR u) from rv_mul x4 x4, hx.fv, toF_one]
  generalize toF 486662 = c
  generalize rv (fromR u) = x
  grind
noncomputable abbrev XC : Cx := X_onD concFOps
theorem XC_ok : CxOK Try.prog XC := X_onD_ok
end Go.Proofs.Ytfajgpjpabeafaa

