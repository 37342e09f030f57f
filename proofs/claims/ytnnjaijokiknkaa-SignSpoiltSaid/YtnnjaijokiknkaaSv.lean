/- Layer 20: the known answer, reckoned. Printed by wip/tools/gensv.py. -/
import Derived.Test.YtnnjaijokiknkaaSc
import Derived.Test.YtnnjaijokiknkaaSg
import Derived.Test.YtnnjaijokiknkaaPo
namespace Go.Proofs.Ytnnjaijokiknkaa
open Go Pw Go.RowKit
/-! ### multiples of the base point by their numbers -/
theorem mul_x {n f x : Nat} (hn : n < 2 ^ f) (hx : x < PP) (h : x * (mulGo f bN n O3).z % PP = (mulGo f bN n O3).x % PP) : (BP.mul n).x.val = x := by
  have hr := bN_BP.mul f n hn
  have h1 := hr.x
  have h2 : toF x * toF (mulGo f bN n O3).z = toF (mulGo f bN n O3).x := by
    rw [← toF_mul]
    exact toF_eq.2 h
  generalize toF (mulGo f bN n O3).x = X at *
  have h3 : toF (mulGo f bN n O3).z * (BP.mul n).x = toF (mulGo f bN n O3).z * toF x := by rw [Fin.mul_comm, ← h1, ← h2, Fin.mul_comm]
  rw [fp_cancel hr.ne h3, toF_val, Nat.mod_eq_of_lt hx]
theorem mul_y {n f y : Nat} (hn : n < 2 ^ f) (hy : y < PP) (h : y * (mulGo f bN n O3).z % PP = (mulGo f bN n O3).y % PP) : (BP.mul n).y.val = y := by
  have hr := bN_BP.mul f n hn
  have h1 := hr.y
  have h2 : toF y * toF (mulGo f bN n O3).z = toF (mulGo f bN n O3).y := by
    rw [← toF_mul]
    exact toF_eq.2 h
  generalize toF (mulGo f bN n O3).y = X at *
  have h3 : toF (mulGo f bN n O3).z * (BP.mul n).y = toF (mulGo f bN n O3).z * toF y := by rw [Fin.mul_comm, ← h1, ← h2, Fin.mul_comm]
  rw [fp_cancel hr.ne h3, toF_val, Nat.mod_eq_of_lt hy]
theorem mul_ne {n f : Nat} (hn : n < 2 ^ f) (h : (mulGo f bN n O3).x % PP ≠ 0) : BP.mul n ≠ EP.zero ED := by
  intro e
  have hr := bN_BP.mul f n hn
  have h1 := hr.x
  rw [e] at h1
  have h2 : toF (mulGo f bN n O3).x = 0 := h1.trans (Fin.zero_mul _)
  rw [← toF_zero] at h2
  have := toF_eq.1 h2
  exact h (by rw [this]; rfl)
/-! ### the numbers -/
def vH1 : List Nat := [53, 124, 131, 134, 79, 40, 51, 203, 66, 122, 46, 241, 192, 10, 1, 60, 253, 255, 39, 104, 217, 128, 192, 163, 165, 32, 240, 6, 144, 77, 233, 15, 155, 79, 10, 254, 40, 11, 116, 106, 119, 134, 132, 231, 84, 66, 80, 32, 87, 183, 71, 58, 3, 240, 143, 150, 245, 163, 142, 146, 135, 224, 31, 143]
def vH2 : List Nat := [182, 177, 156, 216, 224, 66, 111, 89, 131, 250, 17, 45, 137, 161, 67, 170, 151, 218, 184, 188, 93, 235, 141, 91, 98, 83, 201, 40, 182, 82, 114, 244, 4, 64, 152, 194, 169, 144, 3, 156, 222, 91, 106, 72, 24, 223, 11, 251, 110, 64, 220, 93, 238, 84, 36, 128, 50, 150, 35, 35, 231, 1, 53, 45]
def vH3 : List Nat := [39, 113, 6, 43, 107, 83, 111, 231, 255, 189, 218, 3, 32, 195, 130, 123, 3, 93, 241, 13, 40, 77, 243, 240, 130, 34, 240, 77, 188, 167, 164, 194, 14, 241, 91, 220, 152, 138, 34, 199, 32, 116, 17, 55, 124, 51, 242, 172, 9, 177, 232, 106, 4, 98, 52, 40, 55, 104, 238, 123, 160, 60, 14, 159]
def vH4 : List Nat := [254, 38, 206, 2, 229, 210, 48, 85, 22, 93, 174, 65, 250, 230, 205, 17, 153, 165, 52, 87, 251, 111, 213, 218, 79, 168, 99, 249, 209, 228, 71, 145, 243, 102, 29, 76, 150, 181, 184, 177, 234, 122, 202, 246, 157, 204, 84, 232, 202, 189, 229, 62, 110, 1, 159, 47, 8, 166, 77, 180, 86, 154, 13, 162]
def vA : Nat := 36144925721603087658594284515452164870581325872720374094707712194495455132720
def vR : Nat := 2015312323900227545039973048451112962192803170366412514267238242679089760755
def vK : Nat := 1958233733501237659471134851339390337284068724042047466985993338226439154310
def vK4 : Nat := 5739917060239399386628100714654249777605879736788356462454918389142766655041
def vS : Nat := 5004556735901913393272427758925840403246877222315506387332009764265656498271
def kA : K32 := keyAt hxL2 0
def kR : K32 := keyAt hxL3 0
def kS : K32 := keyAt hxL3 32
theorem vh1 : hashV concS hxL1 = vH1 := by decide +kernel
theorem vh2 : hashV concS ((keyAt vH1 32).toList ++ []) = vH2 := by decide +kernel
theorem vh3 : hashV concS (kR.toList ++ kA.toList ++ []) = vH3 := by decide +kernel
theorem vh4 : hashV concS (kR.toList ++ kA.toList ++ [0]) = vH4 := by decide +kernel
theorem all_lt {l : List Nat} (h : l.all (fun b => decide (b < 256)) = true) : ∀ c ∈ l, c < 256 := fun c hc => of_decide_eq_true (List.all_eq_true.1 h c hc)
theorem kA_wf : kA.wf := all_lt (by decide +kernel)
theorem kR_wf : kR.wf := all_lt (by decide +kernel)
theorem kS_wf : kS.wf := all_lt (by decide +kernel)
theorem vH1_lt : ∀ c ∈ vH1, c < 256 := all_lt (by decide +kernel)
theorem vH2_lt : ∀ c ∈ resp 64 vH2, c < 256 := all_lt (by decide +kernel)
theorem vH3_lt : ∀ c ∈ resp 64 vH3, c < 256 := all_lt (by decide +kernel)
theorem vH4_lt : ∀ c ∈ resp 64 vH4, c < 256 := all_lt (by decide +kernel)
theorem vA_val : leVal (clampS (keyAt vH1 0)) = vA := by decide +kernel
theorem vR_val : leB (resp 64 vH2) % LN = vR := by decide +kernel
theorem vK_val : leB (resp 64 vH3) % LN = vK := by decide +kernel
theorem vK4_val : leB (resp 64 vH4) % LN = vK4 := by decide +kernel
theorem vS_val : (vR + vK * (vA % LN) % LN) % LN = vS := by decide +kernel
theorem vS_val2 : (vR + vA * vK) % LN = vS := by decide +kernel
theorem kS_val : leVal kS = vS := by decide +kernel
theorem vS_lt : vS < LN := by decide +kernel
theorem A_enc : EncK kA (BP.mul vA) := ⟨kA_wf, by
  rw [mul_x (f := 255) (x := 38815646466658113194383306759739515082307681141926459231621296960732224964046) (by decide +kernel) (by decide +kernel) (by decide +kernel), mul_y (f := 255) (y := 11903303657706407974989296177215005343713679411332034699907763981919547054807) (by decide +kernel) (by decide +kernel) (by decide +kernel)]
  decide +kernel⟩
theorem R_enc : EncK kR (BP.mul vR) := ⟨kR_wf, by
  rw [mul_x (f := 255) (x := 44370630452101398467924320556439323233869374150616132215183787387252341590058) (by decide +kernel) (by decide +kernel) (by decide +kernel), mul_y (f := 255) (y := 38448863731492799660668882834560725606410712239157980760146247592118262650597) (by decide +kernel) (by decide +kernel) (by decide +kernel)]
  decide +kernel⟩
theorem A_eight : BP.mul (vA * 8) ≠ EP.zero ED := mul_ne (f := 259) (by decide +kernel) (by decide +kernel)
def vT : Nat := 6655698206250242986474940959206640972858812032857520279363802298628424108679
theorem vT_val : (vR + vA * vK4) % LN = vT := by decide +kernel
theorem S_ne_T : BP.mul vS ≠ BP.mul vT := by
  intro e
  have h1 := mul_y (n := vS) (f := 255) (y := 17903225727030484718372622726273485911589928373860394710736664880395775012094) (by decide +kernel) (by decide +kernel) (by decide +kernel)
  have h2 := mul_y (n := vT) (f := 255) (y := 34267105924823401229771441850001143906598118107298506375563346011053518567181) (by decide +kernel) (by decide +kernel) (by decide +kernel)
  rw [e, h2] at h1
  exact absurd h1 (by decide)
end Go.Proofs.Ytnnjaijokiknkaa

