/- A part of the proof: PwRowU. -/
import Derived.Test.YtmhbhpmfbalbeaaPwMg
import Derived.Deep.CondSized
namespace Pw
open Go Go.ChangeShapes Go.RowKit
variable {P : Program}

/-! ### rows with a bound on all that is read -/

/-- how many places of a slice are read -/
def dLen {H : Type} : DataW H → Nat
  | .slice e _ => e.length
  | _ => 0
def vLen : Value → Nat
  | .slice (some _) len _ => len
  | _ => 0
def sLen (P : Program) (t : TypeId) (v : Value) : Nat := bif isU8Slice P t then vLen v else 0

theorem trod_slen {H : Type} {enc : TypeId × Value → H} {t : TypeId} {W : World} {v : Value} {d : DataW H} {p : List MemPlace} (ht : DataW.Trod enc P W 0 (fun _ => true) true t v d p) : sLen P t v ≤ dLen d := by
  unfold sLen
  cases h : isU8Slice P t with
  | false => exact Nat.zero_le _
  | true =>
    rw [cond_true]
    cases v with
    | slice a len cap =>
      cases a with
      | none => exact Nat.zero_le _
      | some a =>
        obtain ⟨fuel, hf⟩ := ht
        unfold isU8Slice at h
        split at h
        · rename_i e hu
          cases fuel with
          | zero => simp [DataW.trod] at hf
          | succ fuel =>
            unfold DataW.trod at hf
            rw [hu] at hf
            simp only [Value.cells, List.toList_toArray] at hf
            split at hf
            · rw [Option.bind_eq_some_iff] at hf
              obtain ⟨elems, he, hf⟩ := hf
              rw [Option.map_eq_some_iff] at hf
              obtain ⟨rest, hrest, hf⟩ := hf
              simp only [Prod.mk.injEq] at hf
              obtain ⟨hd, -⟩ := hf
              subst hd
              obtain ⟨hel, -⟩ := mapM_get he
              rw [List.length_range] at hel
              show len ≤ (elems.map (·.1)).length
              rw [List.length_map, hel]; exact Nat.le_refl _
            · cases hf
        · cases h
    | _ => exact Nat.zero_le _

theorem trodAll_slen {H : Type} {enc : TypeId × Value → H} {W : World} : ∀ {ts : List TypeId} {vs : List Value} {ds : List (DataW H)} {p : List MemPlace}, DataW.TrodAll enc P W 0 (fun _ => true) true ts vs ds p →
    (List.zipWith (sLen P) ts vs).sum ≤ (ds.map dLen).sum
  | [], _, _, _, h => by obtain ⟨rfl, rfl, rfl⟩ := trodAll_nil h; exact Nat.le_refl _
  | t :: ts, vs, ds, p, h => by
    obtain ⟨v, vs, d, ds, q, q', rfl, rfl, rfl, h3, h4⟩ := trodAll_cons h
    have := trodAll_slen h4
    have := trod_slen h3
    simp only [List.zipWith_cons_cons, List.sum_cons, List.map_cons]
    omega

theorem sLen_eq {t : TypeId} (h : isU8Slice P t = true) {v : Value} {l : List Nat} {Q : Nat → Nat → Nat → Nat → Prop}
    (hv : (∃ a, v = .slice a 0 0 ∧ l = []) ∨ ∃ b δ s cap, v = .slice (some ⟨b, δ, none⟩) l.length cap ∧ Q b δ s cap) : sLen P t v = l.length := by
  unfold sLen
  rw [h, cond_true]
  rcases hv with ⟨a, rfl, rfl⟩ | ⟨b, δ, s, cap, rfl, -⟩
  · cases a <;> rfl
  · rfl

section
variable {H : Type} {enc : TypeId × Value → H}
theorem law_liftedU {C : Checked} {os : Os} {f : FuncId} {fn : Func} {s : OpenSpec} {k : (H : Type) → List (DataW H) → Bool} (hkc : s.cond = some k) {F : Stop.Interp} {conds : List PathCond} {apart : Bool} {tb : TypeId}
    (own : ownKnob C.prog.godebug = none) (started : os.Started) (noInit : C.prog.inits.idxOf? f = none) (hfn : C.prog.funcs[f]? = some fn)
    (witness : ∃ (w : World) (tape : Tape) (i : Input), w.os = os ∧ (w.forCall tape i).Shaped C.prog ∧ i.vars = [] ∧ Input.okWide C.prog (w.forCall tape i) .any w.heap.size f i ∧
      s.pre6 enc C.prog fn conds apart (w.forCall tape i).memory i.args ∧ ({} : Assume).holds C.prog (lone (Frame.enter C.prog f i.args .normal) [] (w.forCall tape i)))
    (hvars : s.vars = [])
    (hspec : ∀ ds : List (DataW H), ds.length = fn.params.size → (s.at F).fn H ds = { results := [.lit (.bool true)], args := ds })
    (hres : fn.resultTypes = #[tb]) (hb : C.prog.underlying tb = some .bool) (hl : laidOutB C.prog = true)
    (hrd : fn.params.all (fun t => C.prog.readableRec t && decide (t < C.prog.types.size)) = true)
    (walk : ∀ (W : World) (base : Nat) (args : Array Value) (ds : List (DataW H)) (p : List MemPlace),
      (∀ (j : Nat) t v, fn.params[j]? = some t → args[j]? = some v → Value.okWide C.prog W .any base t v) →
      args.size = fn.params.size →
      DataW.TrodAll enc C.prog W 0 (fun _ => true) true fn.params.toList args.toList ds p →
      (∀ x ∈ p, x.block < W.heap.size) →
      (DataW.weightsEach C.prog fn.params.toList ds).all (· ≤ reachBytes) = true →
      k H ds = true →
      Calls C.prog f args W fun e W' => e = .returned (.bool true) ∧ Below W.heap.size W W') :
    ReturnsInHanded {} C os f .any (s.pre6 enc C.prog fn conds apart) ((s.at F).post enc C.prog fn apart true false false) := by
  refine returnsInHanded_of_cond_sized hkc own started noInit hfn witness ?_
  intro W base args ds gs before hval hW _ hkk hsz _
  have hW' := hW
  obtain ⟨p, q, hA, hV, rfl, _, _⟩ := hW
  rw [hvars] at hV
  obtain ⟨rfl, rfl⟩ := trodVars_none hV
  simp only [List.append_nil] at hW' hsz hkk
  have hlt : ∀ x ∈ p, x.block < W.heap.size := fun x hx => by simpa using hW'.lt x hx
  have hlen := trodAll_length hA
  have hvt : s.bare.plain.varTypes C.prog = [] := by
    unfold ChangeSpec.plain DataSpec.varTypes OpenSpec.bare
    simp only [hvars]
    rfl
  rw [hvt, List.append_nil] at hsz
  have hrd' : ∀ t ∈ fn.params.toList, C.prog.readableRec t = true ∧ t < C.prog.types.size := by
    intro t ht
    simp only [Array.all_eq_true_iff_forall_mem, Bool.and_eq_true, decide_eq_true_eq] at hrd
    exact hrd t (by simpa using ht)
  refine (walk W base args ds p hval (by simpa using hlen.1) hA hlt hsz hkk).mono fun e W' ⟨he, hbw⟩ => ?_
  subst he
  have hs : (s.at F).fn H (ds ++ []) = { results := [.lit (.bool true)], args := ds } := by
    rw [List.append_nil]; exact hspec ds (by simpa using hlen.2)
  refine ⟨_, rfl, ds, [], p, [], p, [], hW', ?_, ?_, ?_, hbw.frame _, fun h => by cases h⟩
  · rw [hs, hres]
    exact trodAll_mk1 (shut_bool hb true)
  · rw [hs]
    exact trodAll_below hl hbw hrd' hA hlt
  · rw [hs, show (s.at F).vars = [] from hvars]; rfl
end
end Pw
