/- A part of the proof: PwLaw. -/
import Derived.Test.YtccmlapcijjmpaaPwVf
import Derived.Test.YtccmlapcijjmpaaPwRow
namespace Pw
open Go

/-! ### how the laws' texts chain their questions -/

def orF : List Bool → Option AV → Option AV → Option AV
  | [], _, e => e
  | [c], t, e => bif c then t else e
  | c :: l, t, e => bif c then t else orF l t e
def andR : List Bool → Option AV
  | [] => some (.bool true)
  | [c] => some (.bool c)
  | c :: l => bif c then andR l else some (.bool false)
def allB : List Bool → Bool
  | [] => true
  | [c] => c
  | c :: l => bif c then allB l else false
def anyB : List Bool → Bool
  | [] => false
  | c :: l => bif c then true else anyB l
theorem andR_eq : ∀ l : List Bool, andR l = some (.bool (allB l))
  | [] => rfl
  | [c] => rfl
  | c :: d :: l => by
    have := andR_eq (d :: l)
    cases c
    · rfl
    · exact this
theorem orF_eq (a b : Bool) : ∀ l : List Bool, orF l (some (.bool a)) (some (.bool b)) = some (.bool (bif anyB l then a else b))
  | [] => rfl
  | [c] => by cases c <;> rfl
  | c :: d :: l => by
    have := orF_eq a b (d :: l)
    cases c
    · exact this
    · rfl
theorem orF_none {t e : Option AV} : ∀ {l : List Bool}, (∀ c ∈ l, c = false) → orF l t e = e
  | [], _ => rfl
  | [c], h => by rw [h c (by simp)]; rfl
  | c :: d :: l, h => by
    rw [h c (by simp)]
    exact orF_none (l := d :: l) fun x hx => h x (by simp only [List.mem_cons] at hx ⊢; exact .inr hx)
theorem allB_true : ∀ {l : List Bool}, (∀ c ∈ l, c = true) → allB l = true
  | [], _ => rfl
  | [c], h => h c (by simp)
  | c :: d :: l, h => by
    rw [h c (by simp)]
    exact allB_true (l := d :: l) fun x hx => h x (by simp only [List.mem_cons] at hx ⊢; exact .inr hx)
theorem andR_true {l : List Bool} (h : ∀ c ∈ l, c = true) : andR l = some (.bool true) := by rw [andR_eq, allB_true h]
theorem anyB_false : ∀ {l : List Bool}, (∀ c ∈ l, c = false) → anyB l = false
  | [], _ => rfl
  | c :: l, h => by
    rw [h c (by simp)] at *
    exact anyB_false (l := l) fun x hx => h x (by simp [hx])
theorem bif_b (c x y : Bool) : (bif c then some (AV.bool x) else some (AV.bool y)) = some (AV.bool (bif c then x else y)) := by cases c <;> rfl

/-! ### the field's laws, in plain -/

def oneK : K32 := { zeroK with b0 := 1 }
def livesL (p : K32) : List Bool := [keyEq (bytesS (fromS p)) (belowS p), keyEq (bytesS (smallS 1)) oneK, !(isZeroS (smallS 1)), !(equalS (smallS 1) zero5)]
def livesS (p : K32) : Bool := allB (livesL p)
theorem lives_true {p : K32} (h : p.wf) : livesS p = true := by
  unfold livesS livesL
  rw [from_bytes h, show keyEq (bytesS (smallS 1)) oneK = true by decide +kernel, show isZeroS (smallS 1) = false by decide +kernel, show equalS (smallS 1) zero5 = false by decide +kernel]
  rfl
def askedN (x y : L5) (v w : L4) : List Bool := [!(equalS x y == equalR v w), !(isZeroS x == isZeroR v), !(oddS x == oddR v)]
def askedL (x y : L5) (v w : L4) : List Bool := [keyEq (bytesS x) (bytesR4 v), keyEq (bytesS y) (bytesR4 w)]
def askedS (x y : L5) (v w : L4) : Bool := bif anyB (askedN x y v w) then false else allB (askedL x y v w)
theorem keyEq_self (x : K32) : keyEq x x = true := by rw [keyEq_iff]; exact decide_eq_true rfl
theorem Sim.key {x : L5} {y : L4} (h : Sim x y) : keyEq (bytesS x) (bytesR4 y) = true := by rw [h.bytes]; exact keyEq_self _
theorem asked_true {x y : L5} {v w : L4} (h : Sim x v) (h' : Sim y w) : askedS x y v w = true := by
  unfold askedS askedN askedL
  rw [h.equal h', h.isZero, h.odd, h.key, h'.key]
  simp [anyB, allB]
theorem same_true {x y : L5} (hx : ok5 x) (hy : ok5 y) (h : fv x = fv y) : sameS x y = true := by
  rw [sameS_fv hx hy]; exact decide_eq_true h
theorem from_ok {k : K32} (h : k.wf) : ok5 (fromS k) := (Sim.from h).ok
theorem add_ok {x y : L5} (hx : ok5 x) (hy : ok5 y) : ok5 (addS x y) := (add_val hx hy).2
theorem sub_ok {x y : L5} (hx : ok5 x) (hy : ok5 y) : ok5 (subS x y) := (sub_val hx hy).2
theorem mul_ok {x y : L5} (hx : ok5 x) (hy : ok5 y) : ok5 (mulS x y) := (mul_val hx hy).2
theorem sq_ok {x : L5} (hx : ok5 x) : ok5 (sqS x) := (sq_val hx).2
theorem neg_ok {x : L5} (hx : ok5 x) : ok5 (negS x) := (neg_val hx).2
theorem small_ok {n : Nat} (hn : n < 18446744073709551616) : ok5 (smallS n) := (small_val hn).2
theorem times_ok {x : L5} (hx : ok5 x) {n : Nat} (hn : n ≤ 4294967295) : ok5 (timesS x n) := (times_val hx hn).2
theorem leVal_bytes {x : L5} (h : ok5 x) : leVal (bytesS x) = val5 x % PP := bytesS_val h.wf
theorem bytes_lt {x : L5} (h : ok5 x) : leVal (bytesS x) % B255 = val5 x % PP := by
  rw [leVal_bytes h]
  exact Nat.mod_eq_of_lt (Nat.lt_trans (Nat.mod_lt _ PP_pos) (by decide))
theorem from_bytes_fv {x : L5} (h : ok5 x) : fv (fromS (bytesS x)) = fv x := by
  rw [from_fv (bytesS_wf x), bytes_lt h]
  exact toF_eq.2 (Nat.mod_mod _ _)
end Pw
