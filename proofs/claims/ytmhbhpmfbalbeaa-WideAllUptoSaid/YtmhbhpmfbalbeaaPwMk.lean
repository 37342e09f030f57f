/- A part of the proof, for all claims alike: PwRowU, PwDrow. -/
import Derived.Deep.CondSized
import Derived.Test.YtmhbhpmfbalbeaaPwMg
import Derived.Test.YtmhbhpmfbalbeaaPwMj
namespace Pw
open Go Go.ChangeShapes Go.RowKit
variable {P : Program}

/-! ### rows with a bound on all that is read -/

/-- how many places of a slice are read -/
def dLen {H : Type} : DataW H → Nat
  | .slice e _ => e.length
  | _ => 0
def vLen : Value → Nat
  | .slice (some _) len _ => len
  | _ => 0
def sLen (P : Program) (t : TypeId) (v : Value) : Nat := bif isU8Slice P t then vLen v else 0

theorem trod_slen {H : Type} {enc : TypeId × Value → H} {t : TypeId} {W : World} {v : Value} {d : DataW H} {p : List MemPlace} (ht : DataW.Trod enc P W 0 (fun _ => true) true t v d p) : sLen P t v ≤ dLen d := by
  unfold sLen
  cases h : isU8Slice P t with
  | false => exact Nat.zero_le _
  | true =>
    rw [cond_true]
    cases v with
    | slice a len cap =>
      cases a with
      | none => exact Nat.zero_le _
      | some a =>
        obtain ⟨fuel, hf⟩ := ht
        unfold isU8Slice at h
        split at h
        · rename_i e hu
          cases fuel with
          | zero => simp [DataW.trod] at hf
          | succ fuel =>
            unfold DataW.trod at hf
            rw [hu] at hf
            simp only [Value.cells, List.toList_toArray] at hf
            split at hf
            · rw [Option.bind_eq_some_iff] at hf
              obtain ⟨elems, he, hf⟩ := hf
              rw [Option.map_eq_some_iff] at hf
              obtain ⟨rest, hrest, hf⟩ := hf
              simp only [Prod.mk.injEq] at hf
              obtain ⟨hd, -⟩ := hf
              subst hd
              obtain ⟨hel, -⟩ := mapM_get he
              rw [List.length_range] at hel
              show len ≤ (elems.map (·.1)).length
              rw [List.length_map, hel]; exact Nat.le_refl _
            · cases hf
        · cases h
    | _ => exact Nat.zero_le _

theorem trodAll_slen {H : Type} {enc : TypeId × Value → H} {W : World} : ∀ {ts : List TypeId} {vs : List Value} {ds : List (DataW H)} {p : List MemPlace}, DataW.TrodAll enc P W 0 (fun _ => true) true ts vs ds p →
    (List.zipWith (sLen P) ts vs).sum ≤ (ds.map dLen).sum
  | [], _, _, _, h => by obtain ⟨rfl, rfl, rfl⟩ := trodAll_nil h; exact Nat.le_refl _
  | t :: ts, vs, ds, p, h => by
    obtain ⟨v, vs, d, ds, q, q', rfl, rfl, rfl, h3, h4⟩ := trodAll_cons h
    have := trodAll_slen h4
    have := trod_slen h3
    simp only [List.zipWith_cons_cons, List.sum_cons, List.map_cons]
    omega

theorem sLen_eq {t : TypeId} (h : isU8Slice P t = true) {v : Value} {l : List Nat} {Q : Nat → Nat → Nat → Nat → Prop}
    (hv : (∃ a, v = .slice a 0 0 ∧ l = []) ∨ ∃ b δ s cap, v = .slice (some ⟨b, δ, none⟩) l.length cap ∧ Q b δ s cap) : sLen P t v = l.length := by
  unfold sLen
  rw [h, cond_true]
  rcases hv with ⟨a, rfl, rfl⟩ | ⟨b, δ, s, cap, rfl, -⟩
  · cases a <;> rfl
  · rfl

section
variable {H : Type} {enc : TypeId × Value → H}
theorem law_liftedU {C : Checked} {os : Os} {f : FuncId} {fn : Func} {s : OpenSpec} {k : (H : Type) → List (DataW H) → Bool} (hkc : s.cond = some k) {F : Stop.Interp} {conds : List PathCond} {apart : Bool} {tb : TypeId}
    (own : ownKnob C.prog.godebug = none) (started : os.Started) (noInit : C.prog.inits.idxOf? f = none) (hfn : C.prog.funcs[f]? = some fn)
    (witness : ∃ (w : World) (tape : Tape) (i : Input), w.os = os ∧ (w.forCall tape i).Shaped C.prog ∧ i.vars = [] ∧ Input.okWide C.prog (w.forCall tape i) .any w.heap.size f i ∧
      s.pre6 enc C.prog fn conds apart (w.forCall tape i).memory i.args ∧ ({} : Assume).holds C.prog (lone (Frame.enter C.prog f i.args .normal) [] (w.forCall tape i)))
    (hvars : s.vars = [])
    (hspec : ∀ ds : List (DataW H), ds.length = fn.params.size → (s.at F).fn H ds = { results := [.lit (.bool true)], args := ds })
    (hres : fn.resultTypes = #[tb]) (hb : C.prog.underlying tb = some .bool) (hl : laidOutB C.prog = true)
    (hrd : fn.params.all (fun t => C.prog.readableRec t && decide (t < C.prog.types.size)) = true)
    (walk : ∀ (W : World) (base : Nat) (args : Array Value) (ds : List (DataW H)) (p : List MemPlace),
      (∀ (j : Nat) t v, fn.params[j]? = some t → args[j]? = some v → Value.okWide C.prog W .any base t v) →
      args.size = fn.params.size →
      DataW.TrodAll enc C.prog W 0 (fun _ => true) true fn.params.toList args.toList ds p →
      (∀ x ∈ p, x.block < W.heap.size) →
      (DataW.weightsEach C.prog fn.params.toList ds).all (· ≤ reachBytes) = true →
      k H ds = true →
      Calls C.prog f args W fun e W' => e = .returned (.bool true) ∧ Below W.heap.size W W') :
    ReturnsInHanded {} C os f .any (s.pre6 enc C.prog fn conds apart) ((s.at F).post enc C.prog fn apart true false false) := by
  refine returnsInHanded_of_cond_sized hkc own started noInit hfn witness ?_
  intro W base args ds gs before hval hW _ hkk hsz _
  have hW' := hW
  obtain ⟨p, q, hA, hV, rfl, _, _⟩ := hW
  rw [hvars] at hV
  obtain ⟨rfl, rfl⟩ := trodVars_none hV
  simp only [List.append_nil] at hW' hsz hkk
  have hlt : ∀ x ∈ p, x.block < W.heap.size := fun x hx => by simpa using hW'.lt x hx
  have hlen := trodAll_length hA
  have hvt : s.bare.plain.varTypes C.prog = [] := by
    unfold ChangeSpec.plain DataSpec.varTypes OpenSpec.bare
    simp only [hvars]
    rfl
  rw [hvt, List.append_nil] at hsz
  have hrd' : ∀ t ∈ fn.params.toList, C.prog.readableRec t = true ∧ t < C.prog.types.size := by
    intro t ht
    simp only [Array.all_eq_true_iff_forall_mem, Bool.and_eq_true, decide_eq_true_eq] at hrd
    exact hrd t (by simpa using ht)
  refine (walk W base args ds p hval (by simpa using hlen.1) hA hlt hsz hkk).mono fun e W' ⟨he, hbw⟩ => ?_
  subst he
  have hs : (s.at F).fn H (ds ++ []) = { results := [.lit (.bool true)], args := ds } := by
    rw [List.append_nil]; exact hspec ds (by simpa using hlen.2)
  refine ⟨_, rfl, ds, [], p, [], p, [], hW', ?_, ?_, ?_, hbw.frame _, fun h => by cases h⟩
  · rw [hs, hres]
    exact trodAll_mk1 (shut_bool hb true)
  · rw [hs]
    exact trodAll_below hl hbw hrd' hA hlt
  · rw [hs, show (s.at F).vars = [] from hvars]; rfl
end
end Pw

namespace Pw
open Go Go.ChangeShapes Go.RowKit

variable {P : Program}

/-! ### arguments that are lists of records: opened -/

/-- the kinds of the cells of a record -/
inductive CK where
  | b | n | l
  | u (k : IntKind)

def CK.fits : CK → LA → Prop
  | .b, a => ∃ x, a = .v (.bool x)
  | .n, a => ∃ x, a = .v (.n x)
  | .l, a => ∃ x, a = .l x ∧ (∀ b ∈ x, b < 256) ∧ x.length ≤ 140737488351232
  | .u k, a => ∃ x, a = .v (.u k x) ∧ x < 2 ^ k.bits
def fits : List CK → List LA → Prop
  | [], [] => True
  | k :: ks, a :: l => k.fits a ∧ fits ks l
  | _, _ => False
theorem fits.append : ∀ {ks ks' : List CK} {l l' : List LA}, fits ks l → fits ks' l' → fits (ks ++ ks') (l ++ l')
  | [], _, [], _, _, h => h
  | _ :: _, _, _ :: _, _, h, h' => ⟨h.1, fits.append h.2 h'⟩
  | [], _, _ :: _, _, h, _ => h.elim
  | _ :: _, _, [], _, h, _ => h.elim
theorem fits.length : ∀ {ks : List CK} {l : List LA}, fits ks l → ks.length = l.length
  | [], [], _ => rfl
  | _ :: _, _ :: _, h => by simp [fits.length h.2]
  | [], _ :: _, h => h.elim
  | _ :: _, [], h => h.elim

/-- how many bytes the lists in a record have -/
def laLen : LA → Nat
  | .v _ => 0
  | .l b => b.length
def laSum (las : List LA) : Nat := (las.map laLen).sum
theorem laSum_append (l m : List LA) : laSum (l ++ m) = laSum l + laSum m := by unfold laSum; rw [List.map_append, List.sum_append]

/-- fields that lie one behind the other -/
def ckFields (P : Program) (f : TypeId → Option (List CK)) : List Field → Nat → Option (List CK)
  | [], _ => some []
  | g :: r, off => if g.offset = off then (match f g.type with
    | some c => if c.length = P.cellsOf g.type then (match ckFields P f r (off + c.length) with | some cs => some (c ++ cs) | none => none) else none
    | none => none) else none

def ckInt : IntKind → Option CK
  | .i64 => some .n
  | .u8 => some (.u .u8)
  | .u32 => some (.u .u32)
  | .u64 => some (.u .u64)
  | _ => none

def ckOf (P : Program) : Nat → TypeId → Option (List CK)
  | 0, _ => none
  | f + 1, t => match isU8Slice P t with
    | true => some [.l]
    | false => match P.underlying t with
      | some .bool => some [.b]
      | some (.int k) => (ckInt k).map fun c => [c]
      | some (.struct fs) => (match ckFields P (ckOf P f) fs.toList 0 with | some c => if c.length = P.cellsOf t then some c else none | none => none)
      | some (.array m e) => (match ckOf P f e with | some c => if c.length = P.cellsOf e ∧ P.cellsOf t = m * c.length then some (List.replicate m c).flatten else none | none => none)
      | _ => none

theorem ckInt_spec {k : IntKind} {c : CK} (h : ckInt k = some c) {n : Int} (hn : (Lit.int k n).wf = true) : ∃ a, c.fits a ∧ (∀ W, DRel W a (.int k n)) ∧ laSum [a] = 0 := by
  cases k <;> simp [ckInt] at h <;> subst h
  all_goals simp [Lit.wf, IntKind.min, IntKind.max, IntKind.signed, IntKind.bits] at hn
  case i64 => exact ⟨.v (.n n), ⟨n, rfl⟩, fun W σ => .n n (by omega) (by omega), rfl⟩
  all_goals
    refine ⟨.v (.u _ n.toNat), ⟨n.toNat, rfl, by simp only [IntKind.bits]; omega⟩, fun W σ => ?_, rfl⟩
    have e : n = (n.toNat : Int) := by omega
    rw [e]
    refine .u _ _ rfl ?_
    simp only [Int.toNat_natCast, IntKind.bits]; omega

section
variable {H : Type} {enc : TypeId × Value → H}

/-- a measure of what is read that counts all parts -/
structure Bulk (μ : DataW H → Nat) : Prop where
  one : ∀ d, 1 ≤ μ d
  slice : ∀ e sp, (e.map μ).sum ≤ μ (.slice e sp)
  agg : ∀ ps, (ps.map μ).sum ≤ μ (.agg ps)
theorem Bulk.len {μ : DataW H → Nat} (h : Bulk μ) : ∀ l : List (DataW H), l.length ≤ (l.map μ).sum
  | [] => Nat.le_refl _
  | x :: l => by
    have := h.one x
    have := h.len l
    simp only [List.length_cons, List.map_cons, List.sum_cons]; omega
theorem Bulk.dlen {μ : DataW H → Nat} (h : Bulk μ) (d : DataW H) : dLen d ≤ μ d := by
  cases d with
  | slice e sp => exact Nat.le_trans (h.len e) (h.slice e sp)
  | _ => exact Nat.zero_le _

theorem weightsEach_all {B : Nat} : ∀ {ts : List TypeId} {ds : List (DataW H)}, (DataW.weightsEach P ts ds).all (· ≤ B) = true → ∀ (i : Nat) (t : TypeId) (d : DataW H), ts[i]? = some t → ds[i]? = some d → (d.weights P t).all (· ≤ B) = true
  | [], _, _, i, t, d, h, _ => by simp at h
  | _ :: _, [], _, i, t, d, _, h => by simp at h
  | t0 :: ts, d0 :: ds, hw, i, t, d, h1, h2 => by
    unfold DataW.weightsEach at hw
    rw [List.all_append, Bool.and_eq_true] at hw
    cases i with
    | zero => simp at h1 h2; subst h1; subst h2; exact hw.1
    | succ i => exact weightsEach_all hw.2 i t d (by simpa using h1) (by simpa using h2)
theorem weightsAll_all {B : Nat} {e : TypeId} : ∀ {ds : List (DataW H)}, (DataW.weightsAll P e ds).all (· ≤ B) = true → ∀ (i : Nat) (d : DataW H), ds[i]? = some d → (d.weights P e).all (· ≤ B) = true
  | [], _, i, d, h => by simp at h
  | d0 :: ds, hw, i, d, h => by
    unfold DataW.weightsAll at hw
    rw [List.all_append, Bool.and_eq_true] at hw
    cases i with
    | zero => simp at h; subst h; exact hw.1
    | succ i => exact weightsAll_all hw.2 i d (by simpa using h)

def Opens (enc : TypeId × Value → H) (P : Program) (f : Nat) : Prop := ∀ (t : TypeId) (ks : List CK), ckOf P f t = some ks → ∀ (W : World) (fuel : Nat) (cs : List Value) (d : DataW H) (p : List MemPlace),
  DataW.trod enc P W 0 (fun _ => true) true fuel t cs = some (d, p) → (d.weights P t).all (· ≤ reachBytes) = true → ∃ las, fits ks las ∧ DRels W las cs ∧ ∀ μ : DataW H → Nat, Bulk μ → laSum las ≤ μ d

theorem opens_fields {f : Nat} (ih : Opens enc P f) : ∀ (fs : List Field) (off : Nat) (ks : List CK), ckFields P (ckOf P f) fs off = some ks → ∀ (W : World) (fuel : Nat) (cs : List Value) (xs : List (DataW H × List MemPlace)),
    (fs.mapM fun g => DataW.trod enc P W 0 (fun _ => true) true fuel g.type ((cs.drop g.offset).take (P.cellsOf g.type))) = some xs → off + ks.length ≤ cs.length →
    (DataW.weightsEach P (fs.map (·.type)) (xs.map (·.1))).all (· ≤ reachBytes) = true → ∃ las, fits ks las ∧ DRels W las ((cs.drop off).take ks.length) ∧ ∀ μ : DataW H → Nat, Bulk μ → laSum las ≤ ((xs.map (·.1)).map μ).sum
  | [], off, ks, hk, W, fuel, cs, xs, hx, hl, hw => by
    simp [ckFields] at hk; subst hk
    exact ⟨[], trivial, by simp [DRels], fun μ _ => Nat.zero_le _⟩
  | g :: r, off, ks, hk, W, fuel, cs, xs, hx, hl, hw => by
    unfold ckFields at hk
    split at hk
    · rename_i hoff
      split at hk
      · rename_i c hc
        split at hk
        · rename_i hlen
          split at hk
          · rename_i cr hcr
            cases hk
            simp only [List.mapM_cons, Option.bind_eq_bind, Option.bind_eq_some_iff] at hx
            obtain ⟨x, hx1, xr, hxr, hx⟩ := hx
            simp only [Option.pure_def, Option.some.injEq] at hx
            subst hx
            simp only [List.map_cons] at hw
            unfold DataW.weightsEach at hw
            rw [List.all_append, Bool.and_eq_true] at hw
            rw [hoff, ← hlen] at hx1
            rw [List.length_append] at hl
            obtain ⟨l1, a1, a2, a3⟩ := ih g.type c hc W fuel _ x.1 x.2 hx1 hw.1
            obtain ⟨l2, b1, b2, b3⟩ := opens_fields ih r (off + c.length) cr hcr W fuel cs xr hxr (by omega) hw.2
            refine ⟨l1 ++ l2, a1.append b1, ?_, fun μ hμ => by
              have q1 := a3 μ hμ
              have q2 := b3 μ hμ
              rw [laSum_append]
              simp only [List.map_cons, List.sum_cons]; omega⟩
            have e : (cs.drop off).take (c ++ cr).length = (cs.drop off).take c.length ++ (cs.drop (off + c.length)).take cr.length := by
              rw [List.length_append, List.take_add, List.drop_drop]
            rw [e]
            exact a2.append b2
          · cases hk
        · cases hk
      · cases hk
    · cases hk

theorem opens_arr {W : World} {c : List CK} {cs : List Value} (xs : List (DataW H)) : ∀ (m k : Nat), k + m = xs.length → (∀ i, i < k + m → k ≤ i → ∃ las, fits c las ∧ DRels W las ((cs.drop (i * c.length)).take c.length) ∧ ∀ d, xs[i]? = some d → ∀ μ : DataW H → Nat, Bulk μ → laSum las ≤ μ d) →
    ∃ las, fits (List.replicate m c).flatten las ∧ DRels W las ((cs.drop (k * c.length)).take (m * c.length)) ∧ ∀ μ : DataW H → Nat, Bulk μ → laSum las ≤ ((xs.drop k).map μ).sum
  | 0, k, _, _ => ⟨[], trivial, by simp [DRels], fun μ _ => Nat.zero_le _⟩
  | m + 1, k, hx, h => by
    obtain ⟨l1, a1, a2, a3⟩ := h k (by omega) (Nat.le_refl _)
    obtain ⟨l2, b1, b2, b3⟩ := opens_arr xs m (k + 1) (by omega) fun i hi hk => h i (by omega) (by omega)
    refine ⟨l1 ++ l2, ?_, ?_, fun μ hμ => ?_⟩
    rotate_left 2
    · have q1 := a3 xs[k] (List.getElem?_eq_getElem (by omega)) μ hμ
      have q2 := b3 μ hμ
      rw [laSum_append, List.drop_eq_getElem_cons (by omega : k < xs.length)]
      simp only [List.map_cons, List.sum_cons]; omega
    · rw [List.replicate_succ, List.flatten_cons]
      exact a1.append b1
    · have e1 : (cs.drop (k * c.length)).take ((m + 1) * c.length) = (cs.drop (k * c.length)).take c.length ++ (cs.drop ((k + 1) * c.length)).take (m * c.length) := by
        rw [show (m + 1) * c.length = c.length + m * c.length by rw [Nat.succ_mul]; omega, List.take_add, List.drop_drop, Nat.succ_mul]
      rw [e1]
      exact a2.append b2

theorem opens : ∀ f, Opens enc P f
  | 0 => fun t ks h => by simp [ckOf] at h
  | f + 1 => fun t ks h W fuel cs d p ht hw => by
    have ih := opens f
    unfold ckOf at h
    split at h
    · rename_i hu8
      cases h
      have hcs : ∃ a len cap, cs = [.slice a len cap] := by
        unfold isU8Slice at hu8
        split at hu8
        · rename_i e hu
          cases fuel with
          | zero => simp [DataW.trod] at ht
          | succ fuel =>
            unfold DataW.trod at ht
            rw [hu] at ht
            split at ht <;> first | exact ⟨_, _, _, rfl⟩ | (rename_i h; cases h) | (cases ht; done) | skip
            all_goals first | exact ⟨_, _, _, rfl⟩ | simp_all
        · cases hu8
      obtain ⟨a, len, cap, rfl⟩ := hcs
      obtain ⟨l, h1, h2, h3⟩ := argBytes' (enc := enc) hu8 ⟨a, len, cap, rfl⟩ ⟨fuel, ht⟩ hw
      refine ⟨[.l l], ⟨⟨l, rfl, h1, h2⟩, trivial⟩, ⟨⟨h1, h2, h3⟩, trivial⟩, fun μ hμ => ?_⟩
      have q1 : sLen P t (.slice a len cap) ≤ dLen d := trod_slen (enc := enc) ⟨fuel, ht⟩
      rw [sLen_eq hu8 h3] at q1
      have := hμ.dlen d
      show l.length + 0 ≤ _
      omega
    · cases fuel with
      | zero => simp [DataW.trod] at ht
      | succ fuel =>
      unfold DataW.trod at ht
      split at h
      · rename_i hu
        cases h
        rw [hu] at ht
        match cs, ht with
        | [.bool b], _ => exact ⟨[.v (.bool b)], ⟨⟨b, rfl⟩, trivial⟩, ⟨fun σ => .bool b, trivial⟩, fun μ _ => Nat.zero_le _⟩
      · rename_i k hu
        rw [Option.map_eq_some_iff] at h
        obtain ⟨c, hc, rfl⟩ := h
        rw [hu] at ht
        match cs, ht with
        | [.int k' n], ht =>
          simp only at ht
          split at ht
          · rename_i hk
            obtain ⟨rfl, hwf⟩ := hk
            obtain ⟨a, h1, h2, h3⟩ := ckInt_spec hc hwf
            exact ⟨[a], ⟨h1, trivial⟩, ⟨h2 W, trivial⟩, fun μ _ => by rw [h3]; exact Nat.zero_le _⟩
          · cases ht
      · rename_i fs hu
        split at h
        · rename_i c hc
          split at h
          · rename_i hlen
            cases h
            rw [hu] at ht
            simp only at ht
            split at ht
            · rename_i hl
              rw [Option.map_eq_some_iff] at ht
              obtain ⟨xs, hxs, hd⟩ := ht
              simp only [Prod.mk.injEq] at hd
              obtain ⟨hd, -⟩ := hd
              subst hd
              unfold DataW.weights at hw
              rw [hu] at hw
              obtain ⟨las, q1, q2, q3⟩ := opens_fields ih fs.toList 0 _ hc W fuel cs xs hxs (by omega) hw
              exact ⟨las, q1, by simpa [hlen, ← hl] using q2, fun μ hμ => Nat.le_trans (q3 μ hμ) (hμ.agg _)⟩
            · cases ht
          · cases h
        · cases h
      · rename_i m e hu
        split at h
        · rename_i c hc
          split at h
          · rename_i hlen
            cases h
            rw [hu] at ht
            simp only at ht
            split at ht
            · rename_i hl
              rw [Option.map_eq_some_iff] at ht
              obtain ⟨xs, hxs, hd⟩ := ht
              simp only [Prod.mk.injEq] at hd
              obtain ⟨hd, -⟩ := hd
              subst hd
              unfold DataW.weights at hw
              rw [hu] at hw
              obtain ⟨q1, q2⟩ := mapM_get hxs
              rw [List.length_range] at q1
              obtain ⟨las, r1, r2, r3⟩ := opens_arr (W := W) (c := c) (cs := cs) (xs.map (·.1)) m 0 (by rw [List.length_map, q1]; omega) fun i hi _ => by
                obtain ⟨x, hx, hxi⟩ := q2 i i (by rw [List.getElem?_range (by omega)])
                rw [← hlen.1] at hx
                obtain ⟨las, s1, s2, s3⟩ := ih e c hc W fuel _ x.1 x.2 hx (weightsAll_all hw i x.1 (by simp [hxi]))
                exact ⟨las, s1, s2, fun d hd => by
                  rw [List.getElem?_map, hxi] at hd
                  cases hd; exact s3⟩
              exact ⟨las, r1, by simpa [← hlen.2, ← hl] using r2, fun μ hμ => Nat.le_trans (r3 μ hμ) (by rw [List.drop_zero]; exact hμ.agg _)⟩
            · cases ht
          · cases h
        · cases h
      · cases h
theorem trod_getD {W : World} : ∀ {ts : List TypeId} {vs : List Value} {ds : List (DataW H)} {p : List MemPlace}, DataW.TrodAll enc P W 0 (fun _ => true) true ts vs ds p →
    (DataW.weightsEach P ts ds).all (· ≤ reachBytes) = true → ∀ (i : Nat) (t : TypeId) (v : Value), ts[i]? = some t → vs[i]? = some v → ∃ d q, ds[i]? = some d ∧ DataW.Trod enc P W 0 (fun _ => true) true t v d q ∧ (d.weights P t).all (· ≤ reachBytes) = true
  | [], _, _, _, _, _, _, _, _, h, _ => by simp at h
  | t :: ts, vs, ds, p, h, hw, i, t', v', h1, h2 => by
    obtain ⟨v, vs, d, ds, q, q', rfl, rfl, rfl, h3, h4⟩ := trodAll_cons h
    unfold DataW.weightsEach at hw
    rw [List.all_append, Bool.and_eq_true] at hw
    cases i with
    | zero =>
      simp only [List.getElem?_cons_zero, Option.some.injEq] at h1 h2
      subst h1
      subst h2
      exact ⟨d, q, rfl, h3, hw.1⟩
    | succ i => exact trod_getD h4 hw.2 i t' v' (by simpa using h1) (by simpa using h2)

/-- the cells that stand one behind the other in a block -/
theorem cells_at {W : World} {a : Addr} {m : Nat} {cs : List Value} (h : W.cells? 0 a m = some cs) : cs.length = m ∧ (0 < m → ∃ C e fz, a.spot = none ∧ W.heap[a.block]? = some (.cells C e fz) ∧ ∀ (j : Nat) (x : Value), cs[j]? = some x → C[a.off + j]? = some x) := by
  unfold World.cells? at h
  rw [if_pos (Nat.zero_le _)] at h
  obtain ⟨h1, h2⟩ := mapM_get h
  rw [List.length_range] at h1
  refine ⟨h1, fun hm => ?_⟩
  obtain ⟨b, δ, sp⟩ := a
  have key : ∀ j, j < m → ∃ x, W.cell? ((⟨b, δ, sp⟩ : Addr).add j) = some x ∧ cs[j]? = some x := fun j hj => by
    obtain ⟨x, hx, hx2⟩ := h2 j j (List.getElem?_range hj)
    exact ⟨x, hx, hx2⟩
  obtain ⟨x0, q1, q2⟩ := key 0 hm
  cases sp with
  | some y =>
    unfold World.cell? at q1
    simp only [Addr.add] at q1
    split at q1 <;> simp at q1
  | none =>
    have hblk : ∃ C e0 fz, W.heap[b]? = some (.cells C e0 fz) := by
      unfold World.cell? at q1
      simp only [Addr.add] at q1
      split at q1
      · rename_i C e0 fz heq; exact ⟨C, e0, fz, heq⟩
      · cases q1
    obtain ⟨C, e0, fz, heq⟩ := hblk
    refine ⟨C, e0, fz, rfl, heq, fun j x hj => ?_⟩
    have hjm : j < m := by have := (List.getElem?_eq_some_iff.1 hj).1; omega
    obtain ⟨y, k1, k2⟩ := key j hjm
    rw [k2] at hj
    cases hj
    rw [add_addr] at k1
    simpa [World.cell?, heq] using k1

theorem list_of {α : Type} {Q : Nat → α → Prop} : ∀ m, (∀ i, i < m → ∃ a, Q i a) → ∃ l : List α, l.length = m ∧ ∀ i a, l[i]? = some a → Q i a
  | 0, _ => ⟨[], rfl, fun i a h => by simp at h⟩
  | m + 1, h => by
    obtain ⟨l, h1, h2⟩ := list_of m fun i hi => h i (by omega)
    obtain ⟨a, ha⟩ := h m (by omega)
    refine ⟨l ++ [a], by simp [h1], fun i x hx => ?_⟩
    rcases Nat.lt_or_ge i l.length with hlt | hge
    · rw [List.getElem?_append_left hlt] at hx; exact h2 i x hx
    · rw [List.getElem?_append_right hge] at hx
      cases hd : i - l.length with
      | zero =>
        rw [hd] at hx
        simp at hx
        subst hx
        have : i = m := by omega
        subst this; exact ha
      | succ q => rw [hd] at hx; simp at hx

theorem sum_le {α β : Type} {f : α → Nat} {g : β → Nat} : ∀ (l : List α) (m : List β), l.length = m.length → (∀ (i : Nat) (a : α) (b : β), l[i]? = some a → m[i]? = some b → f a ≤ g b) → (l.map f).sum ≤ (m.map g).sum
  | [], _, _, _ => Nat.zero_le _
  | _ :: _, [], h, _ => by simp at h
  | a :: l, b :: m, h, hp => by
    have h1 := hp 0 a b rfl rfl
    have h2 := sum_le (f := f) (g := g) l m (by simpa using h) fun i x y hx hy => hp (i + 1) x y (by simpa using hx) (by simpa using hy)
    simp only [List.map_cons, List.sum_cons]; omega

/-- what is handed in as a list of records whose cells are of the kinds ks -/
def isRecs (P : Program) (t : TypeId) (ks : List CK) : Prop := ∃ e, P.underlying t = some (.slice e) ∧ ckOf P 6 e = some ks ∧ P.cellsOf e = ks.length ∧ 0 < ks.length

theorem argRecs {t : TypeId} {ks : List CK} (h : isRecs P t ks) {W : World} {v : Value} {d : DataW H} {p : List MemPlace}
    {base : Nat} (hval : Value.okWide P W .any base t v) (ht : DataW.Trod enc P W 0 (fun _ => true) true t v d p) (hw : (d.weights P t).all (· ≤ reachBytes) = true) :
    ∃ recs : List (List LA), ((∀ rec ∈ recs, fits ks rec) ∧ ∀ μ : DataW H → Nat, Bulk μ → (recs.map laSum).sum ≤ μ d ∧ recs.length ≤ μ d) ∧ ((∃ a, v = .slice a 0 0 ∧ recs = []) ∨
      ∃ b δ s cap, v = .slice (some ⟨b, δ, none⟩) recs.length cap ∧ recs.length ≤ cap ∧ cap < 9223372036854775808 ∧ RecsAt W b δ s ks.length recs) := by
  obtain ⟨e, hu, hk, hc, hpos⟩ := h
  obtain ⟨a, len, cap, rfl⟩ := slice_arg hu hval
  obtain ⟨fuel, hf⟩ := ht
  cases fuel with
  | zero => simp [DataW.trod] at hf
  | succ fuel =>
    unfold DataW.trod at hf
    rw [hu] at hf
    simp only [Value.cells, List.toList_toArray] at hf
    cases a with
    | none =>
      cases len with
      | zero => cases cap with
        | zero => exact ⟨[], ⟨by simp, fun μ _ => ⟨Nat.zero_le _, Nat.zero_le _⟩⟩, .inl ⟨none, rfl, rfl⟩⟩
        | succ c => simp at hf
      | succ n => simp at hf
    | some a =>
      simp only at hf
      split at hf
      · rename_i hcond
        rw [Option.bind_eq_some_iff] at hf
        obtain ⟨elems, he, hf⟩ := hf
        rw [Option.map_eq_some_iff] at hf
        obtain ⟨rest, hrest, hf⟩ := hf
        simp only [Prod.mk.injEq] at hf
        obtain ⟨hd, -⟩ := hf
        subst hd
        obtain ⟨hel, heg⟩ := mapM_get he
        rw [List.length_range] at hel
        rw [if_pos trivial] at hrest
        obtain ⟨hrl, hrg⟩ := mapM_get hrest
        rw [List.length_range] at hrl
        unfold DataW.weights at hw
        rw [hu] at hw
        simp only [List.all_cons, List.all_append, Bool.and_eq_true] at hw
        have hone : ∀ i, i < len → ∃ rec : List LA, (fits ks rec ∧ ∀ d, (elems.map (·.1))[i]? = some d → ∀ μ : DataW H → Nat, Bulk μ → laSum rec ≤ μ d) ∧ ∃ cs, DRels W rec cs ∧ W.cells? 0 (a.add (i * ks.length)) ks.length = some cs := by
          intro i hi
          obtain ⟨x, hx, hxi⟩ := heg i i (by rw [List.getElem?_range hi])
          rw [Option.bind_eq_some_iff] at hx
          obtain ⟨cs, hcs, hx⟩ := hx
          rw [hc] at hcs
          obtain ⟨las, h1, h2, h3⟩ := opens 6 e ks hk W fuel cs x.1 x.2 hx (weightsAll_all hw.2.1 i x.1 (by simp [hxi]))
          exact ⟨las, ⟨h1, fun d hd => by
            rw [List.getElem?_map, hxi] at hd
            cases hd; exact h3⟩, cs, h2, hcs⟩
        obtain ⟨recs, hrlen, hrec⟩ := list_of (Q := fun i (rec : List LA) => (fits ks rec ∧ ∀ d, (elems.map (·.1))[i]? = some d → ∀ μ : DataW H → Nat, Bulk μ → laSum rec ≤ μ d) ∧ ∃ cs, DRels W rec cs ∧ W.cells? 0 (a.add (i * ks.length)) ks.length = some cs) len hone
        have hfit : (∀ rec ∈ recs, fits ks rec) ∧ ∀ μ : DataW H → Nat, Bulk μ → (recs.map laSum).sum ≤ μ (.slice (elems.map (·.1)) (rest.map (·.1))) ∧ recs.length ≤ μ (.slice (elems.map (·.1)) (rest.map (·.1))) := by
          refine ⟨fun rec hm => ?_, fun μ hμ => ?_⟩
          · obtain ⟨i, hi⟩ := List.mem_iff_getElem?.1 hm
            exact (hrec i rec hi).1.1
          · have key := sum_le (f := laSum) (g := μ) recs (elems.map (·.1)) (by rw [hrlen, List.length_map, hel]) fun i rec d h1 h2 => (hrec i rec h1).1.2 d h2 μ hμ
            have k2 := hμ.slice (elems.map (·.1)) (rest.map (·.1))
            have k3 := hμ.len (elems.map (·.1))
            rw [List.length_map, hel] at k3
            omega
        by_cases hz : cap = 0
        · subst hz
          have : len = 0 := by omega
          subst this
          have : recs = [] := List.eq_nil_of_length_eq_zero hrlen
          subst this
          exact ⟨[], hfit, .inl ⟨some a, rfl, rfl⟩⟩
        · -- the first place of all tells the block
          have hfirst : ∃ cs, W.cells? 0 (a.add (0 * ks.length)) ks.length = some cs := by
            rcases Nat.eq_zero_or_pos len with h0 | h0
            · obtain ⟨x, hx, -⟩ := hrg 0 0 (by rw [List.getElem?_range (by omega)])
              rw [Option.bind_eq_some_iff] at hx
              obtain ⟨cs, hcs, -⟩ := hx
              rw [hc, h0] at hcs
              exact ⟨cs, by simpa using hcs⟩
            · obtain ⟨rec, -, cs, -, hcs⟩ := hone 0 h0
              exact ⟨cs, hcs⟩
          obtain ⟨cs0, hcs0⟩ := hfirst
          obtain ⟨g1, g2⟩ := cells_at hcs0
          obtain ⟨C, e0, fz, g3, g4, g5⟩ := g2 hpos
          obtain ⟨b, δ, sp⟩ := a
          have hsp : sp = none := by simpa [Addr.add] using g3
          subst hsp
          have hin : δ < C.size := by
            have := g5 0 cs0[0] (List.getElem?_eq_getElem (by omega))
            have := (Array.getElem?_eq_some_iff.1 this).1
            simp [Addr.add] at this; omega
          have g4 : W.heap[b]? = some (.cells C e0 fz) := by simpa [Addr.add] using g4
          refine ⟨recs, hfit, .inr ⟨b, δ, C.size - δ, cap, by rw [hrlen], by rw [hrlen]; exact hcond.2.1, ?_, ⟨(Array.getElem?_eq_some_iff.1 g4).1, C, e0, fz.1, fz.2, g4, by omega, ?_⟩⟩⟩
          · have := hcond.2.2; simp only [maxLen] at this; omega
          · intro i rec hi
            obtain ⟨q1, cs, q2, q3⟩ := hrec i rec hi
            refine ⟨q1.1.length.symm, cs, q2, fun j x hx => ?_⟩
            obtain ⟨k1, k2⟩ := cells_at q3
            obtain ⟨C', e', fz', k3, k4, k5⟩ := k2 hpos
            rw [add_addr] at k4
            rw [g4] at k4
            cases k4
            have := k5 j x hx
            rw [add_addr] at this
            simpa [Nat.add_assoc] using this
      · cases hf
end

end Pw
