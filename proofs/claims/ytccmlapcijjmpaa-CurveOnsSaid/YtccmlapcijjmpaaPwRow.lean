/- A part of the proof: PwRow. -/
import Derived.Test.YtccmlapcijjmpaaPwKey
import Derived.ProofKit
import Derived.SizedLaws
namespace Pw
open Go Go.ChangeShapes Go.RowKit
variable {P : Program}

/-! ### arguments of plain types -/

theorem bytesR {l : List Value} (h : ∀ v ∈ l, ∃ n : Nat, v = .int .u8 (n : Int) ∧ n < 256) : ∃ l' : List Nat, l'.length = l.length ∧ ∀ σ, RL σ (l'.map (AV.u .u8)) l := by
  induction l with
  | nil => exact ⟨[], rfl, fun σ => .nil⟩
  | cons v l ih =>
    obtain ⟨n, rfl, hn⟩ := h v (by simp)
    obtain ⟨l', h1, h2⟩ := ih fun x hx => h x (by simp [hx])
    exact ⟨n :: l', by simp [h1], fun σ => .cons _ _ _ _ (.u .u8 n rfl (by simpa [IntKind.bits] using hn)) (h2 σ)⟩

def isArr : TypeDesc → Bool
  | .array _ _ => true
  | _ => false
def isInt (k : IntKind) : TypeDesc → Bool
  | .int k' => decide (k' = k)
  | _ => false
def keyTy (P : Program) (t : TypeId) : Bool :=
  (match P.underlying t with | some d => isArr d | none => false) && decide (P.cellsOf t = 32) &&
  (match P.cellTypes P.depth t with
    | some ts => ts.all fun u => match P.underlying u with | some d => isInt .u8 d | none => false
    | none => false)

theorem cellInt {k : IntKind} {u : TypeId} {d : TypeDesc} (hu : P.underlying u = some d) (hd : isInt k d = true) {W : World} {r : Reach} {base : Nat} {v : Value} (h : Cell.okWide P W r base u v) : ∃ n, v = .int k n ∧ k.has n := by
  cases d <;> simp [isInt] at hd
  subst hd
  unfold Cell.okWide at h
  rw [hu] at h
  simp only at h
  unfold Cell.ok at h
  rw [hu] at h
  cases v <;> simp at h
  obtain ⟨rfl, h2⟩ := h
  exact ⟨_, rfl, h2⟩

theorem has_u8 {n : Int} (h : IntKind.u8.has n) : ∃ m : Nat, n = (m : Int) ∧ m < 256 := by
  simp [IntKind.has, IntKind.min, IntKind.max, IntKind.signed, IntKind.bits] at h
  exact ⟨n.toNat, by omega, by omega⟩

theorem K32.of?_len {l : List Nat} (h : l.length = 32) : ∃ k, K32.of? l = some k := by
  match l, h with
  | [b0, b1, b2, b3, b4, b5, b6, b7, b8, b9, b10, b11, b12, b13, b14, b15, b16, b17, b18, b19, b20, b21, b22, b23, b24, b25, b26, b27, b28, b29, b30, b31], _ => exact ⟨_, rfl⟩

theorem argKey {t : TypeId} (h : keyTy P t = true) {W : World} {base : Nat} {v : Value} (hv : Value.okWide P W .any base t v) : ∃ k : K32, k.wf ∧ ∀ σ, R σ (keyV k) v := by
  simp only [keyTy, Bool.and_eq_true, decide_eq_true_eq] at h
  obtain ⟨⟨h1, h2⟩, h3⟩ := h
  split at h1
  · rename_i d hd
    cases d <;> simp [isArr] at h1
    unfold Value.okWide at hv
    rw [hd] at hv
    obtain ⟨cs, rfl, hsz, ts, hts, _, hc⟩ := hv
    rw [hts] at h3
    simp only [List.all_eq_true] at h3
    obtain ⟨l', hl, hr⟩ := bytesR (l := cs.toList) fun v hv => by
      obtain ⟨i, hi, rfl⟩ := List.getElem_of_mem hv
      obtain ⟨u, hu, hok⟩ := hc i cs.toList[i] (by simp at hi ⊢)
      have hm := List.mem_of_getElem? hu
      have h4 := h3 u hm
      split at h4
      · rename_i d hd2
        obtain ⟨n, e, hn⟩ := cellInt hd2 h4 hok
        obtain ⟨m, rfl, hm2⟩ := has_u8 hn
        exact ⟨m, e, hm2⟩
      · cases h4
    obtain ⟨k, hk⟩ := K32.of?_len (l := l') (by rw [hl]; simp [hsz, h2])
    have e := of?_some hk
    have hR : ∀ σ, R σ (keyV k) (.agg cs) := fun σ => by
      rw [keyV_eq, ← e]; exact .agg _ _ (hr σ)
    exact ⟨k, wf1.key ⟨fun _ => none, _, hR _⟩, hR⟩
  · cases h1

theorem argU {k : IntKind} {t : TypeId} {d : TypeDesc} (hu : P.underlying t = some d) (hd : isInt k d = true) (hs : k.signed = false) {W : World} {base : Nat} {v : Value} (hv : Value.okWide P W .any base t v) :
    ∃ n : Nat, n < 2 ^ k.bits ∧ ∀ σ, R σ (.u k n) v := by
  have hv' : Cell.okWide P W .any base t v := by
    unfold Value.okWide at hv
    rw [hu] at hv
    cases d <;> simp [isInt] at hd
    exact hv
  obtain ⟨n, rfl, hn⟩ := cellInt hu hd hv'
  have hpos : (0 : Int) ≤ n := by cases k <;> simp [IntKind.signed] at hs <;> simp [IntKind.has, IntKind.min, IntKind.signed] at hn <;> exact hn.1
  have hlt : n.toNat < 2 ^ k.bits := by
    cases k <;> simp [IntKind.signed] at hs <;> simp [IntKind.has, IntKind.max, IntKind.bits, IntKind.signed] at hn <;> simp [IntKind.bits] <;> omega
  refine ⟨n.toNat, hlt, fun σ => ?_⟩
  have e : n = (n.toNat : Int) := by omega
  rw [e]
  exact .u k _ hs hlt

theorem argN {t : TypeId} {d : TypeDesc} (hu : P.underlying t = some d) (hd : isInt .i64 d = true) {W : World} {base : Nat} {v : Value} (hv : Value.okWide P W .any base t v) :
    ∃ n : Int, ∀ σ, R σ (.n n) v := by
  have hv' : Cell.okWide P W .any base t v := by
    unfold Value.okWide at hv
    rw [hu] at hv
    cases d <;> simp [isInt] at hd
    exact hv
  obtain ⟨n, rfl, hn⟩ := cellInt hu hd hv'
  simp [IntKind.has, IntKind.min, IntKind.max, IntKind.signed, IntKind.bits] at hn
  exact ⟨n, fun σ => .n n (by omega) (by omega)⟩

theorem argBool {t : TypeId} (hu : P.underlying t = some .bool) {W : World} {base : Nat} {v : Value} (hv : Value.okWide P W .any base t v) : ∃ b, ∀ σ, R σ (.bool b) v := by
  unfold Value.okWide at hv
  rw [hu] at hv
  simp only at hv
  unfold Cell.okWide at hv
  rw [hu] at hv
  simp only at hv
  unfold Cell.ok at hv
  rw [hu] at hv
  cases v <;> simp at hv
  exact ⟨_, fun σ => .bool _⟩

/-! ### a law's row -/

section
variable {H : Type} {enc : TypeId × Value → H}

theorem trodAll_below (hl : laidOutB P = true) {W W' : World} (hb : Below W.heap.size W W') : ∀ {ts : List TypeId} {vs : List Value} {ds : List (DataW H)} {p : List MemPlace},
    (∀ t ∈ ts, P.readableRec t = true ∧ t < P.types.size) → DataW.TrodAll enc P W 0 (fun _ => true) true ts vs ds p → (∀ x ∈ p, x.block < W.heap.size) →
    DataW.TrodAll enc P W' 0 (fun b => decide (b < W.heap.size)) true ts vs ds p
  | [], _, _, _, _, h, _ => by
    obtain ⟨rfl, rfl, rfl⟩ := trodAll_nil h
    exact trodAll_mk0
  | t :: ts, _, _, _, ht, h, hlt => by
    obtain ⟨v, vs1, d, ds1, a, b, rfl, rfl, rfl, h1, h2⟩ := trodAll_cons h
    have := ht t (by simp)
    exact ⟨a, b, Below.trod hl this.1 this.2 h1 hb (fun x hx => hlt x (by simp [hx])), trodAll_below hl hb (fun t' h' => ht t' (by simp [h'])) h2 (fun x hx => hlt x (by simp [hx])), rfl⟩

theorem trodAll_length : ∀ {ts : List TypeId} {vs : List Value} {ds : List (DataW H)} {p : List MemPlace} {W : World} {base : Nat} {sp : Nat → Bool} {hd : Bool},
    DataW.TrodAll enc P W base sp hd ts vs ds p → vs.length = ts.length ∧ ds.length = ts.length
  | [], _, _, _, _, _, _, _, h => by
    obtain ⟨rfl, rfl, rfl⟩ := trodAll_nil h
    exact ⟨rfl, rfl⟩
  | t :: ts, _, _, _, _, _, _, _, h => by
    obtain ⟨v, vs1, d, ds1, a, b, rfl, rfl, rfl, h1, h2⟩ := trodAll_cons h
    have := trodAll_length h2
    simp [this.1, this.2]

/-- from a run that answers true and writes nothing that was there to the row's word -/
theorem law_lifted {C : Checked} {os : Os} {f : FuncId} {fn : Func} {s : ChangeSpec} {conds : List PathCond} {apart : Bool} {tb : TypeId}
    (own : ownKnob C.prog.godebug = none) (started : os.Started) (noInit : C.prog.inits.idxOf? f = none) (hfn : C.prog.funcs[f]? = some fn)
    (witness : ∃ (w : World) (tape : Tape) (i : Input), w.os = os ∧ (w.forCall tape i).Shaped C.prog ∧ i.vars = [] ∧ Input.okWide C.prog (w.forCall tape i) .any w.heap.size f i ∧
      s.pre6 enc C.prog fn conds apart (w.forCall tape i).memory i.args ∧ ({} : Assume).holds C.prog (lone (Frame.enter C.prog f i.args .normal) [] (w.forCall tape i)))
    (hvars : s.vars = [])
    (hspec : ∀ ds : List (DataW H), ds.length = fn.params.size → s.fn H ds = { results := [.lit (.bool true)], args := ds })
    (hres : fn.resultTypes = #[tb]) (hb : C.prog.underlying tb = some .bool) (hl : laidOutB C.prog = true)
    (hrd : fn.params.all (fun t => C.prog.readableRec t && decide (t < C.prog.types.size)) = true)
    (walk : ∀ (W : World) (base : Nat) (args : Array Value) (ds : List (DataW H)) (p : List MemPlace),
      (∀ (j : Nat) t v, fn.params[j]? = some t → args[j]? = some v → Value.okWide C.prog W .any base t v) →
      args.size = fn.params.size →
      DataW.TrodAll enc C.prog W 0 (fun _ => true) true fn.params.toList args.toList ds p →
      (∀ x ∈ p, x.block < W.heap.size) →
      (DataW.weightsEach C.prog fn.params.toList ds).all (· ≤ reachBytes) = true →
      Calls C.prog f args W fun e W' => e = .returned (.bool true) ∧ Below W.heap.size W W') :
    ReturnsInHanded {} C os f .any (s.pre6 enc C.prog fn conds apart) (s.post enc C.prog fn apart true false false) := by
  refine returnsInHanded_of_change_sized own started noInit hfn witness ?_
  intro W base args ds gs before hval hW _ hsz _
  have hW' := hW
  obtain ⟨p, q, hA, hV, rfl, _, _⟩ := hW
  rw [hvars] at hV
  obtain ⟨rfl, rfl⟩ := trodVars_none hV
  simp only [List.append_nil] at hW' hsz
  have hlt : ∀ x ∈ p, x.block < W.heap.size := fun x hx => by simpa using hW'.lt x hx
  have hlen := trodAll_length hA
  have hvt : s.plain.varTypes C.prog = [] := by
    unfold ChangeSpec.plain DataSpec.varTypes
    simp only [hvars]
    rfl
  rw [hvt, List.append_nil] at hsz
  have hrd' : ∀ t ∈ fn.params.toList, C.prog.readableRec t = true ∧ t < C.prog.types.size := by
    intro t ht
    simp only [Array.all_eq_true_iff_forall_mem, Bool.and_eq_true, decide_eq_true_eq] at hrd
    exact hrd t (by simpa using ht)
  refine (walk W base args ds p hval (by simpa using hlen.1) hA hlt hsz).mono fun e W' ⟨he, hbw⟩ => ?_
  subst he
  have hs : s.fn H (ds ++ []) = { results := [.lit (.bool true)], args := ds } := by
    rw [List.append_nil]; exact hspec ds (by simpa using hlen.2)
  refine ⟨_, rfl, ds, [], p, [], p, [], hW', ?_, ?_, ?_, hbw.frame _, fun h => by cases h⟩
  · rw [hs, hres]
    exact trodAll_mk1 (shut_bool hb true)
  · rw [hs]
    exact trodAll_below hl hbw hrd' hA hlt
  · rw [hs, hvars]; rfl
end

/-- the run of a law on plain values -/
theorem law_runL {X : Cx} (hX : CxOK P X) {L : Loops} {keep : List Nat} {fuel : Nat} {f : FuncId} {fn : Func} {c : Code} {args : List AV} (hf : P.funcs[f]? = some fn) (hb : fn.body = some c) (hL : LoopsOK P fn.ntmps L c)
    (h : runQL X L keep fuel fn c args = some (.bool true)) {W : World} {real : Array Value} (hr : RL (fun _ => none) args real.toList) :
    Calls P f real W fun e W' => e = .returned (.bool true) ∧ Below W.heap.size W W' := by
  unfold runQL at h
  split at h
  · rename_i hc
    obtain ⟨v', mem', h, hs⟩ := runKL_sound hX hf hb hL h
    split at h
    · rename_i hcv
      simp only [Option.some.injEq] at h
      subst h
      refine (hs W _ _ W real (St.empty W) (hr.closed hc)).mono fun e w' ⟨σ', rv, he, _, hv, hst⟩ => ?_
      cases hv
      exact ⟨he, Below.mk hst.1.os hst.1.tape hst.1.output hst.1.size (fun k hk => hst.1.old k hk (fun h => h))⟩
    · cases h
  · cases h

theorem law_run {X : Cx} (hX : CxOK P X) {keep : List Nat} {fuel : Nat} {f : FuncId} {fn : Func} {c : Code} {args : List AV} (hf : P.funcs[f]? = some fn) (hb : fn.body = some c)
    (h : runQ X keep fuel fn c args = some (.bool true)) {W : World} {real : Array Value} (hr : RL (fun _ => none) args real.toList) :
    Calls P f real W fun e W' => e = .returned (.bool true) ∧ Below W.heap.size W W' := law_runL hX hf hb LoopsOK.nil h hr
end Pw
