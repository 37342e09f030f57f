/- A part of the proof: PwEvG. -/
import Derived.Test.YtccmlapcijjmpaaPwEvF
namespace Pw
open Go

variable {P : Program} {T : List (Nat × TE)} {ρ : Type}

def nth {α : Type} : List α → Nat → Option α
  | [], _ => none
  | a :: _, 0 => some a
  | _ :: l, n + 1 => nth l n
theorem nth_eq {α : Type} : ∀ (l : List α) (n : Nat), nth l n = l[n]?
  | [], _ => by simp [nth]
  | _ :: _, 0 => by simp [nth]
  | _ :: l, n + 1 => by simp [nth, nth_eq l n]

/-- a part of cells, as a value -/
def partA (T : List (Nat × TE)) (t : Nat) (cs : List AV) (off : Nat) : Option AV :=
  match (teAt T t).ty with
  | .other => none
  | .arr .. | .struct _ => some (.agg ((cs.drop off).take (teAt T t).size))
  | _ => nth cs off

theorem partA_sound (hT : TabOK P T) {t off : Nat} {cs : List AV} {v : AV} (h : partA T t cs off = some v) {σ : Ren} {arr : Array Value} (hr : RL σ cs arr.toList) (w : World) :
    ∃ rv, (part t arr off).run P w = .ok rv w ∧ R σ v rv := by
  unfold partA at h
  have hcell : ∀ (hne : (teAt T t).ty ≠ .other) (hag : (teAt T t).ty.agg = false), nth cs off = some v → ∃ rv, (part t arr off).run P w = .ok rv w ∧ R σ v rv := by
    intro hne hag hn
    have k := hT.known hne
    rw [nth_eq] at hn
    obtain ⟨rv, h1, h2⟩ := hr.get hn
    have h1' : arr[off]? = some rv := by simpa using h1
    exact ⟨rv, by simp [part, k.run_isAgg, hag, h1'], h2⟩
  have hagg : ∀ (hag : (teAt T t).ty.agg = true), v = .agg ((cs.drop off).take (teAt T t).size) → ∃ rv, (part t arr off).run P w = .ok rv w ∧ R σ v rv := by
    intro hag hv
    subst hv
    have k := hT.known (ty_agg_ne hag)
    refine ⟨.agg (arr.extract off (off + (teAt T t).size)), by simp [part, k.run_isAgg, hag, k.run_size], .agg _ _ ?_⟩
    have := hr.slices off (teAt T t).size
    simpa [List.drop_take, Array.toList_extract] using this
  split at h
  · cases h
  · rename_i hty; exact hagg (by rw [hty]; rfl) (by simpa using h.symm)
  · rename_i hty; exact hagg (by rw [hty]; rfl) (by simpa using h.symm)
  · rename_i h1 h2 h3
    refine hcell (fun e => h1 e) ?_ h
    cases hty : (teAt T t).ty <;> first | rfl | (exact absurd hty (h2 _ _)) | (exact absurd hty (h3 _)) 

/-- a bound of a slice -/
def bndK (x : Option AV) (dflt hi : Nat) (K : Nat → Option ρ) : Option ρ :=
  match x with
  | none => K dflt
  | some (.n i) => bif decide (0 ≤ i ∧ i ≤ (hi : Int)) then K i.toNat else none
  | some (.u _ m) => bif decide (m ≤ hi) then K m else none
  | _ => none

def placesA (T : List (Nat × TE)) : List (Nat × Nat) → Option (List (Nat × Nat))
  | [] => some []
  | (o, ft) :: r => match sz T ft with
    | some s => match placesA T r with
      | some l => some ((o, s) :: l)
      | none => none
    | none => none

theorem placesA_sound (hT : TabOK P T) (w : World) : ∀ (fs : List Field) (l : List (Nat × Nat)), placesA T (fs.map fun f => (f.offset, f.type)) = some l →
    (fs.mapM fun f => do pure (f.offset, ← Go.sizeOf f.type) : Sem (List (Nat × Nat))).run P w = .ok l w
  | [], l, h => by simp only [List.map_nil, placesA, Option.some.injEq] at h; subst h; simp
  | f :: fs, l, h => by
    simp only [List.map_cons, placesA] at h
    split at h
    · rename_i s hs
      split at h
      · rename_i l' hl
        simp only [Option.some.injEq] at h
        subst h
        obtain ⟨k, hk⟩ := sz_known hT hs
        have ih := placesA_sound hT w fs l' hl
        rw [List.mapM_cons]
        have h1 : (do pure (f.offset, ← Go.sizeOf f.type) : Sem (Nat × Nat)).run P w = .ok (f.offset, s) w := by simp [k.run_size, hk]
        rw [Sem.run_bind, h1]
        simp only [Result.andThen_ok]
        rw [Sem.run_bind, ih]
        simp
      · cases h
    · cases h

def pureK (T : List (Nat × TE)) (ev : Operand → AV) (o : Op) (K : AV → Option ρ) : Option ρ :=
  match o with
  | .move x | .assign x => K (ev x)
  | .pick c a b => match ev c with
    | .bool t => bif t then K (ev a) else K (ev b)
    | _ => none
  | .build t parts => match (teAt T t).zero with
    | none => none
    | some z => match (teAt T t).ty with
      | .struct fs => (match placesA T fs with
        | some pl => (match fillA (nth pl) z (parts.toList.map fun x => (x.1, ev x.2)) with
          | some cs => K (.agg cs)
          | none => none)
        | none => none)
      | .arr _ e => (match sz T e with
        | some s => (match fillA (fun i => some (i * s, s)) z (parts.toList.map fun x => (x.1, ev x.2)) with
          | some cs => K (.agg cs)
          | none => none)
        | none => none)
      | _ => none
  | .nilCheck x => match ev x with
    | .ptr id off => K (.ptr id off)
    | .fn f c => K (.fn f c)
    | _ => none
  | .binOp op t x y _ => binK T op t (ev x) (ev y) K
  | .unOp op _ x => unK op (ev x) K
  | .convert src dst x => match (teAt T src).ty, (teAt T dst).ty with
    | .int _, .int kd => convK kd (ev x) K
    | _, _ => none
  | .fieldAddr t x f => match (teAt T t).ty, ev x with
    | .struct fs, .ptr id off => (match nth fs f with
      | some (o, ft) => (match sz T ft with | some (_ + 1) => K (.ptr id (off + o)) | _ => none)
      | none => none)
    | _, _ => none
  | .field t x f => match (teAt T t).ty, ev x with
    | .struct fs, .agg cs => (match nth fs f with
      | some (o, ft) => (match partA T ft cs o with | some v => K v | none => none)
      | none => none)
    | _, _ => none
  | .indexAddr t x i => match (teAt T t).ty, ev x with
    | .arr n e, .ptr id off => (match sz T e with
      | some s => idxK (ev i) n fun m => K (.ptr id (off + m * s))
      | none => none)
    | .slice e, .slice id off len _ap => (match sz T e with
      | some s => idxK (ev i) len fun m => K (.ptr id (off + m * s))
      | none => none)
    | _, _ => none
  | .index t x i => match (teAt T t).ty, ev x with
    | .arr n e, .agg cs => (match sz T e with
      | some s => idxK (ev i) n fun m => (match partA T e cs (m * s) with | some v => K v | none => none)
      | none => none)
    | .str, .str s => idxK (ev i) s.size fun m => (match s[m]? with | some b => K (.u .u8 b.toNat) | none => none)
    | _, _ => none
  | .extract x i => match ev x with
    | .tup vs => (match nth vs i with | some v => K v | none => none)
    | _ => none
  | .slice t x lo hi none => match (teAt T t).ty, ev x with
    | .arr n e, .ptr id off => (match sz T e with
      | some s => bif decide (n < 9223372036854775808) then bndK (hi.map ev) n n fun h => bndK (lo.map ev) 0 h fun l => K (.slice id (off + l * s) (h - l) false) else none
      | none => none)
    | .slice e, .slice id off len ap => (match sz T e with
      | some s => bndK (hi.map ev) len len fun h => bndK (lo.map ev) 0 h fun l => K (.slice id (off + l * s) (h - l) (ap && Nat.beq s 1))
      | none => none)
    | .slice e, .nils => (match sz T e with
      | some _ => bndK (hi.map ev) 0 0 fun h => bndK (lo.map ev) 0 h fun _ => K .nils
      | none => none)
    | .str, .str s => bndK (hi.map ev) s.size s.size fun h => bndK (lo.map ev) 0 h fun l => K (.str (s.extract l h))
    | _, _ => none
  | .slice t x lo hi (some mx) => match (teAt T t).ty, ev x with
    | .arr n e, .ptr id off => (match sz T e with
      | some s => bif decide (n < 9223372036854775808) && hi.isSome then bndK (some (ev mx)) n n fun m => bndK (hi.map ev) m m fun h => bndK (lo.map ev) 0 h fun l =>
          K (.slice id (off + l * s) (h - l) false) else none
      | none => none)
    | .slice e, .slice id off len ap => (match sz T e with
      | some s => bif hi.isSome then bndK (some (ev mx)) len len fun m => bndK (hi.map ev) m m fun h => bndK (lo.map ev) 0 h fun l =>
          K (.slice id (off + l * s) (h - l) (ap && Nat.beq s 1)) else none
      | none => none)
    | _, _ => none
  | .makeFunc (.func f) first caps => bif first.toList.isEmpty then K (.fn f (caps.toList.map ev)) else none
  | .sliceToArrayPointer t x => match (teAt T t).ty, ev x with
    | .arr n _, .slice id off len _ => bif decide (0 < n ∧ n ≤ len) then K (.ptr id off) else none
    | _, _ => none
  | _ => none

theorem add_addr (b x n : Nat) : (⟨b, x, none⟩ : Addr).add n = ⟨b, x + n, none⟩ := by
  unfold Addr.add
  split
  · rename_i h; subst h; rfl
  · rfl

theorem bndK_sound {x : Option AV} {dflt hi : Nat} {K : Nat → Option ρ} {r : ρ} (h : bndK x dflt hi K = some r) :
    ∃ m, K m = some r ∧ ((x = none ∧ m = dflt) ∨ ∃ a, x = some a ∧ m ≤ hi ∧ ∀ (σ : Ren) (v : Value), R σ a v → ∃ k, v = .int k (m : Int)) := by
  unfold bndK at h
  split at h
  · exact ⟨_, h, .inl ⟨rfl, rfl⟩⟩
  · rename_i i
    obtain ⟨hc, hk⟩ := bif_some h
    have hc' := of_decide_eq_true hc
    refine ⟨_, hk, .inr ⟨_, rfl, by omega, fun σ v hv => ?_⟩⟩
    cases hv
    exact ⟨_, by rw [Int.toNat_of_nonneg hc'.1]⟩
  · rename_i m
    obtain ⟨hc, hk⟩ := bif_some h
    refine ⟨_, hk, .inr ⟨_, rfl, of_decide_eq_true hc, fun σ v hv => ?_⟩⟩
    cases hv; exact ⟨_, rfl⟩
  · cases h

theorem run_sliceBound {k : IntKind} {m y : Nat} (h : m ≤ y) (c : BoundsCode) (w : World) : (Instr.sliceBound (.int k (m : Int)) y c).run P w = .ok m w := by
  simp [Instr.sliceBound, asIntOf, h]

theorem run_bounds {ev : Operand → AV} {re : Operand → Value} {σ : Ren} {lo hi : Option Operand} (hlo : ∀ x, lo = some x → R σ (ev x) (re x)) (hhi : ∀ x, hi = some x → R σ (ev x) (re x))
    {len cap h l : Nat} (hcap : len ≤ cap) (b : Bool)
    (hh : (hi.map ev = none ∧ h = len) ∨ ∃ a, hi.map ev = some a ∧ h ≤ len ∧ ∀ (σ : Ren) (v : Value), R σ a v → ∃ k, v = .int k (h : Int))
    (hl : (lo.map ev = none ∧ l = 0) ∨ ∃ a, lo.map ev = some a ∧ l ≤ h ∧ ∀ (σ : Ren) (v : Value), R σ a v → ∃ k, v = .int k (l : Int)) (w : World) :
    (Instr.sliceBounds b len cap (lo.map re) (hi.map re) none).run P w = .ok (l, h, cap) w ∧ l ≤ h ∧ h ≤ len := by
  have h1 : h ≤ len := by rcases hh with ⟨_, rfl⟩ | ⟨_, _, h, _⟩ <;> omega
  have h2 : l ≤ h := by rcases hl with ⟨_, rfl⟩ | ⟨_, _, h, _⟩ <;> omega
  refine ⟨?_, h2, h1⟩
  unfold Instr.sliceBounds
  simp only [Sem.run_bind, Sem.run_pure, Result.andThen_ok]
  cases hi with
  | none =>
    have : h = len := by rcases hh with ⟨_, h⟩ | ⟨_, h, _⟩ <;> simp_all
    subst this
    simp only [Option.map_none]
    cases lo with
    | none =>
      have : l = 0 := by rcases hl with ⟨_, h⟩ | ⟨_, h, _⟩ <;> simp_all
      subst this; simp
    | some x =>
      obtain ⟨k, hk⟩ : ∃ k, re x = .int k (l : Int) := by
        rcases hl with ⟨h, _⟩ | ⟨_, h, _, h3⟩
        · simp at h
        · simp at h; subst h; exact h3 _ _ (hlo x rfl)
      simp [hk, run_sliceBound h2]
  | some y =>
    obtain ⟨k, hk⟩ : ∃ k, re y = .int k (h : Int) := by
      rcases hh with ⟨h, _⟩ | ⟨_, h, _, h3⟩
      · simp at h
      · simp at h; subst h; exact h3 _ _ (hhi y rfl)
    have hb := fun c => run_sliceBound (P := P) (k := k) (Nat.le_trans h1 hcap) c w
    simp only [Option.map_some, hk, Sem.run_bind, hb]
    simp only [Result.andThen_ok]
    cases lo with
    | none =>
      have : l = 0 := by rcases hl with ⟨_, h⟩ | ⟨_, h, _⟩ <;> simp_all
      subst this; simp
    | some x =>
      obtain ⟨k', hk'⟩ : ∃ k, re x = .int k (l : Int) := by
        rcases hl with ⟨h, _⟩ | ⟨_, h, _, h3⟩
        · simp at h
        · simp at h; subst h; exact h3 _ _ (hlo x rfl)
      simp [hk', run_sliceBound h2]

theorem run_bounds3 {ev : Operand → AV} {re : Operand → Value} {σ : Ren} {lo : Option Operand} {hi mx : Operand} (hlo : ∀ x, lo = some x → R σ (ev x) (re x)) (hhi : R σ (ev hi) (re hi)) (hmx : R σ (ev mx) (re mx))
    {len cap h l m : Nat} (hcap : len ≤ cap) (b : Bool)
    (hm : m ≤ len ∧ ∀ (σ : Ren) (v : Value), R σ (ev mx) v → ∃ k, v = .int k (m : Int))
    (hh : h ≤ m ∧ ∀ (σ : Ren) (v : Value), R σ (ev hi) v → ∃ k, v = .int k (h : Int))
    (hl : (lo.map ev = none ∧ l = 0) ∨ ∃ a, lo.map ev = some a ∧ l ≤ h ∧ ∀ (σ : Ren) (v : Value), R σ a v → ∃ k, v = .int k (l : Int)) (w : World) :
    (Instr.sliceBounds b len cap (lo.map re) (some (re hi)) (some (re mx))).run P w = .ok (l, h, m) w ∧ l ≤ h := by
  have h2 : l ≤ h := by rcases hl with ⟨_, rfl⟩ | ⟨_, _, h, _⟩ <;> omega
  refine ⟨?_, h2⟩
  obtain ⟨k1, e1⟩ := hm.2 _ _ hmx
  obtain ⟨k2, e2⟩ := hh.2 _ _ hhi
  unfold Instr.sliceBounds
  simp only [Sem.run_bind, e1, e2, run_sliceBound (Nat.le_trans hm.1 hcap), run_sliceBound hh.1, Result.andThen_ok]
  cases lo with
  | none =>
    have : l = 0 := by rcases hl with ⟨_, h⟩ | ⟨_, h, _⟩ <;> simp_all
    subst this; simp
  | some x =>
    obtain ⟨k', hk'⟩ : ∃ k, re x = .int k (l : Int) := by
      rcases hl with ⟨h, _⟩ | ⟨_, h, _, h3⟩
      · simp at h
      · simp at h; subst h; exact h3 _ _ (hlo x rfl)
    simp [hk', run_sliceBound h2]


theorem slice_val {σ : Ren} {id off b δ z l h m s : Nat} (hσ : σ id = some (b, δ, z)) (hl : l ≤ h) (hm : h ≤ m) (h63 : m < 9223372036854775808) {ap : Bool} (hz : ap = true → off + l * s + (m - l) ≤ z) :
    R σ (.slice id (off + l * s) (h - l) ap) (.slice (some (if m = l then ⟨b, δ + off, none⟩ else (⟨b, δ + off, none⟩ : Addr).add (l * s))) (h - l) (m - l)) := by
  by_cases e2 : m = l
  · subst e2
    have e : h - m = 0 := by omega
    rw [e, Nat.sub_self]; exact .slic0 _ _ _ _
  · rw [if_neg e2, add_addr, Nat.add_assoc]
    exact .slice _ _ _ _ _ _ _ _ hσ (by omega) (by omega) (fun h => by have := hz h; omega)

theorem pureK_sound (hT : TabOK P T) {ev : Operand → AV} {o : Oper} {K : AV → Option ρ} {r : ρ} (h : pureK T ev o.op K = some r) :
    ∃ v, K v = some r ∧ ∀ (σ : Ren) (re : Operand → Value) (w : World), (∀ x ∈ o.op.operands.toList, R σ (ev x) (re x)) →
      ∃ rv, (execOp re o).run P w = .ok (.value rv) w ∧ R σ v rv := by
  cases ho : o.op <;> rw [ho] at h <;> simp only [pureK] at h <;> try (cases h; done)
  case move x => exact ⟨_, h, fun σ re w hr => ⟨re x, by simp [execOp, ho], hr x (by simp [Op.operands])⟩⟩
  case assign x => exact ⟨_, h, fun σ re w hr => ⟨re x, by simp [execOp, ho], hr x (by simp [Op.operands])⟩⟩
  case pick c a b =>
    split at h
    · rename_i t hc
      cases t
      · refine ⟨_, h, fun σ re w hr => ?_⟩
        have h1 := hr c (by simp [Op.operands])
        rw [hc] at h1
        cases h1' : re c <;> rw [h1'] at h1 <;> cases h1
        exact ⟨re b, by simp [execOp, ho, h1', asBool], hr b (by simp [Op.operands])⟩
      · refine ⟨_, h, fun σ re w hr => ?_⟩
        have h1 := hr c (by simp [Op.operands])
        rw [hc] at h1
        cases h1' : re c <;> rw [h1'] at h1 <;> cases h1
        exact ⟨re a, by simp [execOp, ho, h1', asBool], hr a (by simp [Op.operands])⟩
    · cases h
  case build t parts =>
    split at h
    · cases h
    · rename_i z hz
      split at h
      · rename_i fs hty
        split at h
        · rename_i pl hpl
          split at h
          · rename_i cs hcs
            refine ⟨_, h, fun σ re w hr => ?_⟩
            have k := hT.known (t := t) (by rw [hty]; simp)
            obtain ⟨fa, hfa, hfs⟩ := k.struct hty
            subst hfs
            obtain ⟨zv, hzr, hzR⟩ := k.run_zero (w := w) hz
            have hpr := placesA_sound hT w fa.toList pl hpl
            obtain ⟨ra, hra, hR⟩ := fillA_sound (σ := σ) (ev := ev) (re := re) (placeR := fun i => pl.toArray[i]?) (placeA := nth pl) (fun i p hp => by simpa [nth_eq] using hp)
              parts.toList z zv.cells cs (fun x hx => hr x.2 (by simp only [Op.operands]; simp; exact ⟨x.1, by simpa using hx⟩)) (hzR σ) hcs
            refine ⟨.agg ra, ?_, .agg _ _ hR⟩
            simp only [execOp, ho, Instr.build, Sem.run_bind, hzr, Result.andThen_ok, run_under hfa, Array.mapM_eq_mapM_toList, Sem.run_map, hpr]
            rw [show (Array.map (fun (x : Nat × Operand) => (x.1, re x.2)) parts).toList = parts.toList.map fun x => (x.1, re x.2) from by simp]
            simp only [hra, Sem.run_pure, Result.andThen_ok]
          · cases h
        · cases h
      · rename_i n e hty
        split at h
        · rename_i s hs
          split at h
          · rename_i cs hcs
            refine ⟨_, h, fun σ re w hr => ?_⟩
            have k := hT.known (t := t) (by rw [hty]; simp)
            obtain ⟨ke, hke⟩ := sz_known hT hs
            obtain ⟨zv, hzr, hzR⟩ := k.run_zero (w := w) hz
            obtain ⟨ra, hra, hR⟩ := fillA_sound (σ := σ) (ev := ev) (re := re) (placeR := fun i => some (i * s, s)) (placeA := fun i => some (i * s, s)) (fun i p hp => hp)
              parts.toList z zv.cells cs (fun x hx => hr x.2 (by simp only [Op.operands]; simp; exact ⟨x.1, by simpa using hx⟩)) (hzR σ) hcs
            refine ⟨.agg ra, ?_, .agg _ _ hR⟩
            simp only [execOp, ho, Instr.build, Sem.run_bind, hzr, Result.andThen_ok, run_under (k.arr hty), ke.run_size, hke]
            rw [show (Array.map (fun (x : Nat × Operand) => (x.1, re x.2)) parts).toList = parts.toList.map fun x => (x.1, re x.2) from by simp]
            simp only [hra, Sem.run_pure, Result.andThen_ok]
          · cases h
        · cases h
      · cases h
  case nilCheck x =>
    split at h
    · rename_i id off hx
      refine ⟨_, h, fun σ re w hr => ?_⟩
      have h1 := hr x (by simp [Op.operands])
      rw [hx] at h1
      generalize hv : re x = v at h1
      cases h1 with | ptr _ _ b δ z hs => exact ⟨_, by simp [execOp, ho, hv], .ptr _ _ b δ z hs⟩
    · rename_i f c hx
      refine ⟨_, h, fun σ re w hr => ?_⟩
      have h1 := hr x (by simp [Op.operands])
      rw [hx] at h1
      generalize hv : re x = v at h1
      cases h1 with | fn _ _ arr hs => exact ⟨_, by simp [execOp, ho, hv], .fn _ _ arr hs⟩
    · cases h
  case binOp op t x y yt =>
    obtain ⟨v, hv, hs⟩ := binK_sound hT h
    refine ⟨v, hv, fun σ re w hr => ?_⟩
    obtain ⟨rv, h1, h2⟩ := hs σ x y (re x) (re y) w (hr x (by simp [Op.operands])) (hr y (by simp [Op.operands]))
    refine ⟨rv, ?_, h2⟩
    simp only [execOp, ho]
    rw [Sem.run_bind, h1]; rfl
  case unOp op t x =>
    obtain ⟨v, hv, hs⟩ := unK_sound (P := P) h
    refine ⟨v, hv, fun σ re w hr => ?_⟩
    obtain ⟨rv, h1, h2⟩ := hs σ (re x) w (hr x (by simp [Op.operands]))
    exact ⟨rv, by simp [execOp, ho, h1], h2⟩
  case convert src dst x =>
    split at h
    · rename_i k1 kd hs hd
      obtain ⟨v, hv, hc⟩ := convK_sound h
      refine ⟨v, hv, fun σ re w hr => ?_⟩
      obtain ⟨k, n, h1, h2⟩ := hc σ (re x) (hr x (by simp [Op.operands]))
      have us := (hT.known (t := src) (by rw [hs]; simp)).int hs
      have ud := (hT.known (t := dst) (by rw [hd]; simp)).int hd
      exact ⟨_, by simp [execOp, ho, convert, run_under us, run_under ud, h1, Conv.intToInt], h2⟩
    · cases h
  case fieldAddr t x f =>
    split at h
    · rename_i fs id off hty hx
      split at h
      · rename_i o ft hn
        split at h
        · rename_i s hs
          refine ⟨_, h, fun σ re w hr => ?_⟩
          have h1 := hr x (by simp [Op.operands])
          rw [hx] at h1
          generalize hv : re x = v at h1
          cases h1 with | ptr _ _ b δ z hσ =>
          have k := hT.known (t := t) (by rw [hty]; simp)
          obtain ⟨fa, hfa, hfs⟩ := k.struct hty
          subst hfs
          rw [nth_eq, List.getElem?_map] at hn
          cases hg : fa.toList[f]? with
          | none => simp [hg] at hn
          | some g =>
            simp only [hg, Option.map_some, Option.some.injEq, Prod.mk.injEq] at hn
            obtain ⟨rfl, rfl⟩ := hn
            have hg' : fa[f]? = some g := by simpa using hg
            obtain ⟨kf, hkf⟩ := sz_known hT hs
            refine ⟨.pointer (some ⟨b, δ + (off + g.offset), none⟩), ?_, .ptr _ _ b δ z hσ⟩
            simp only [execOp, ho, hv, Instr.fieldAt, Instr.sureAddr, Sem.run_bind, run_under hfa, Result.andThen_ok, hg', Sem.run_pure, fieldPlace, kf.run_size, hkf, add_addr]
            simp [Nat.add_assoc]
        · cases h
      · cases h
    · cases h
  case field t x f =>
    split at h
    · rename_i fs cs hty hx
      split at h
      · rename_i o ft hn
        split at h
        · rename_i v hp
          refine ⟨_, h, fun σ re w hr => ?_⟩
          have h1 := hr x (by simp [Op.operands])
          rw [hx] at h1
          generalize hv : re x = vx at h1
          cases h1 with | agg _ arr hR =>
          have k := hT.known (t := t) (by rw [hty]; simp)
          obtain ⟨fa, hfa, hfs⟩ := k.struct hty
          subst hfs
          rw [nth_eq, List.getElem?_map] at hn
          cases hg : fa.toList[f]? with
          | none => simp [hg] at hn
          | some g =>
            simp only [hg, Option.map_some, Option.some.injEq, Prod.mk.injEq] at hn
            obtain ⟨rfl, rfl⟩ := hn
            have hg' : fa[f]? = some g := by simpa using hg
            obtain ⟨rv, h2, h3⟩ := partA_sound hT hp hR w
            exact ⟨rv, by simp [execOp, ho, hv, Instr.field, run_under hfa, hg', asAgg, h2], h3⟩
        · cases h
      · cases h
    · cases h
  case indexAddr t x i =>
    split at h
    · rename_i n e id off hty hx
      split at h
      · rename_i s hs
        obtain ⟨m, hm, hk, hi⟩ := idxK_sound h
        refine ⟨_, hk, fun σ re w hr => ?_⟩
        have h1 := hr x (by simp [Op.operands])
        rw [hx] at h1
        generalize hv : re x = v at h1
        cases h1 with | ptr _ _ b δ z hσ =>
        obtain ⟨ki, hki⟩ := hi σ (re i) (hr i (by simp [Op.operands]))
        have k := hT.known (t := t) (by rw [hty]; simp)
        obtain ⟨ke, hke⟩ := sz_known hT hs
        have ua := k.arr hty
        refine ⟨.pointer (some ⟨b, δ + (off + m * s), none⟩), ?_, .ptr _ _ b δ z hσ⟩
        have hm' : (m : Int) < (n : Int) := by omega
        simp only [execOp, ho, hv, hki, Instr.indexAt, Instr.sureAddr, asIntOf, Sem.run_bind, run_under ua, Result.andThen_ok, Sem.run_pure]
        simp [hm', ke.run_size, hke, add_addr, Nat.add_assoc]
      · cases h
    · rename_i e id off len ap hty hx
      split at h
      · rename_i s hs
        obtain ⟨m, hm, hk, hi⟩ := idxK_sound h
        refine ⟨_, hk, fun σ re w hr => ?_⟩
        have h1 := hr x (by simp [Op.operands])
        rw [hx] at h1
        generalize hv : re x = v at h1
        cases h1 with
        | slic0 => omega
        | slice _ _ _ _ cap b δ z hσ hcap hc63 hz =>
          obtain ⟨ki, hki⟩ := hi σ (re i) (hr i (by simp [Op.operands]))
          have k := hT.known (t := t) (by rw [hty]; simp)
          obtain ⟨ke, hke⟩ := sz_known hT hs
          have ua := k.slice hty
          refine ⟨.pointer (some ⟨b, δ + (off + m * s), none⟩), ?_, .ptr _ _ b δ z hσ⟩
          have hm' : (m : Int) < (len : Int) := by omega
          simp only [execOp, ho, hv, hki, Instr.indexAt, asIntOf, Sem.run_bind, run_under ua, Result.andThen_ok, Sem.run_pure]
          simp [hm', ke.run_size, hke, add_addr, Nat.add_assoc]
      · cases h
    · cases h
  case index t x i =>
    split at h
    · rename_i n e cs hty hx
      split at h
      · rename_i s hs
        obtain ⟨m, hm, hk, hi⟩ := idxK_sound h
        split at hk
        · rename_i v hp
          refine ⟨_, hk, fun σ re w hr => ?_⟩
          have h1 := hr x (by simp [Op.operands])
          rw [hx] at h1
          generalize hv : re x = vx at h1
          cases h1 with | agg _ arr hR =>
          obtain ⟨ki, hki⟩ := hi σ (re i) (hr i (by simp [Op.operands]))
          have k := hT.known (t := t) (by rw [hty]; simp)
          obtain ⟨ke, hke⟩ := sz_known hT hs
          have ua := k.arr hty
          obtain ⟨rv, h2, h3⟩ := partA_sound hT hp hR w
          have hm' : (m : Int) < (n : Int) := by omega
          refine ⟨rv, ?_, h3⟩
          simp only [execOp, ho, hv, hki, Instr.index, asIntOf, Sem.run_bind, run_under ua, Result.andThen_ok, Sem.run_pure]
          simp [hm', ke.run_size, hke, h2]
        · cases hk
      · cases h
    · rename_i s hty hx
      obtain ⟨m, hm, hk, hi⟩ := idxK_sound h
      split at hk
      · rename_i b hb
        refine ⟨_, hk, fun σ re w hr => ?_⟩
        have h1 := hr x (by simp [Op.operands])
        rw [hx] at h1
        generalize hv : re x = vx at h1
        cases h1 with | str _ =>
        obtain ⟨ki, hki⟩ := hi σ (re i) (hr i (by simp [Op.operands]))
        have k := hT.known (t := t) (by rw [hty]; simp)
        have ua := k.str hty
        refine ⟨.int .u8 (b.toNat : Int), ?_, .u _ _ rfl (by simpa [IntKind.bits] using b.toNat_lt)⟩
        simp only [execOp, ho, hv, hki, Instr.index, asIntOf, Sem.run_bind, run_under ua, Result.andThen_ok, Sem.run_pure]
        simp [hb]
      · cases hk
    · cases h
  case extract x i =>
    split at h
    · rename_i vs hx
      split at h
      · rename_i v hn
        refine ⟨_, h, fun σ re w hr => ?_⟩
        have h1 := hr x (by simp [Op.operands])
        rw [hx] at h1
        generalize hv : re x = vx at h1
        cases h1 with | tup _ arr hR =>
        rw [nth_eq] at hn
        obtain ⟨rv, h2, h3⟩ := hR.get hn
        have h2' : arr[i]? = some rv := by simpa using h2
        exact ⟨rv, by simp [execOp, ho, hv, Instr.extract, h2'], h3⟩
      · cases h
    · cases h
  case slice t x lo hi mx =>
    cases mx with
    | none =>
      have hops : ∀ {σ : Ren} {re : Operand → Value}, (∀ x ∈ o.op.operands.toList, R σ (ev x) (re x)) → R σ (ev x) (re x) ∧ (∀ y, lo = some y → R σ (ev y) (re y)) ∧ (∀ y, hi = some y → R σ (ev y) (re y)) := by
        intro σ re hr
        rw [ho] at hr
        refine ⟨hr x (by simp [Op.operands]), fun y hy => hr y ?_, fun y hy => hr y ?_⟩
        · subst hy; simp [Op.operands]
        · subst hy; simp [Op.operands]
      rw [ho] at hops
      simp only at h
      split at h
      · rename_i n e id off hty hx
        split at h
        · rename_i s hs
          obtain ⟨hn, h⟩ := bif_some h
          have hn := of_decide_eq_true hn
          obtain ⟨hh, h, c1⟩ := bndK_sound h
          obtain ⟨ll, h, c2⟩ := bndK_sound h
          refine ⟨_, h, fun σ re w hr => ?_⟩
          obtain ⟨h1, h2, h3⟩ := hops hr
          rw [hx] at h1
          generalize hv : re x = v at h1
          cases h1 with | ptr _ _ b δ z hσ =>
          obtain ⟨ke, hke⟩ := sz_known hT hs
          have ua := (hT.known (t := t) (by rw [hty]; simp)).arr hty
          obtain ⟨r1, r2, r3⟩ := run_bounds (P := P) h2 h3 (Nat.le_refl n) false c1 c2 w
          refine ⟨_, ?_, slice_val (m := n) hσ r2 r3 hn (by simp)⟩
          simp only [execOp, ho, hv, Instr.sliceAt, Sem.run_bind, run_under ua, Result.andThen_ok, Instr.sureAddr, Sem.run_pure, Option.map_none, r1, ke.run_size, hke]
        · cases h
      · rename_i e id off len ap hty hx
        split at h
        · rename_i s hs
          obtain ⟨hh, h, c1⟩ := bndK_sound h
          obtain ⟨ll, h, c2⟩ := bndK_sound h
          refine ⟨_, h, fun σ re w hr => ?_⟩
          obtain ⟨h1, h2, h3⟩ := hops hr
          rw [hx] at h1
          generalize hv : re x = v at h1
          obtain ⟨ke, hke⟩ := sz_known hT hs
          have ua := (hT.known (t := t) (by rw [hty]; simp)).slice hty
          cases h1 with
          | slice _ _ _ _ cap b δ z hσ hcap hc63 hz =>
            obtain ⟨r1, r2, r3⟩ := run_bounds (P := P) h2 h3 hcap true c1 c2 w
            refine ⟨_, ?_, slice_val (m := cap) hσ r2 (Nat.le_trans r3 hcap) hc63 (fun h => by simp only [Bool.and_eq_true] at h; have := hz h.1; have := Nat.eq_of_beq_eq_true h.2; subst this; omega)⟩
            simp only [execOp, ho, hv, Instr.sliceAt, Instr.slice, Sem.run_bind, run_under ua, Result.andThen_ok, Sem.run_pure, Option.map_none, r1, ke.run_size, hke]
            congr 3
            split <;> simp
          | slic0 _ _ _ a =>
            obtain ⟨r1, r2, r3⟩ := run_bounds (P := P) h2 h3 (Nat.le_refl 0) true c1 c2 w
            have e1 : hh = 0 := by omega
            have e2 : ll = 0 := by omega
            subst e1; subst e2
            refine ⟨.slice (if 0 = 0 then a else a.map (·.add (0 * s))) (0 - 0) (0 - 0), ?_, .slic0 _ _ _ _⟩
            simp only [execOp, ho, hv, Instr.sliceAt, Instr.slice, Sem.run_bind, run_under ua, Result.andThen_ok, Sem.run_pure, Option.map_none, r1, ke.run_size, hke]
        · cases h
      · rename_i e hty hx
        split at h
        case h_2 => cases h
        rename_i s hs
        obtain ⟨hh, h, c1⟩ := bndK_sound h
        obtain ⟨ll, h, c2⟩ := bndK_sound h
        refine ⟨_, h, fun σ re w hr => ?_⟩
        obtain ⟨h1, h2, h3⟩ := hops hr
        rw [hx] at h1
        generalize hv : re x = v at h1
        obtain ⟨ke, hke⟩ := sz_known hT hs
        cases h1 with | nils =>
        have ua := (hT.known (t := t) (by rw [hty]; simp)).slice hty
        obtain ⟨r1, r2, r3⟩ := run_bounds (P := P) h2 h3 (Nat.le_refl 0) true c1 c2 w
        have e1 : hh = 0 := by omega
        have e2 : ll = 0 := by omega
        subst e1; subst e2
        refine ⟨.slice none 0 0, ?_, .nils⟩
        simp only [execOp, ho, hv, Instr.sliceAt, Instr.slice, Sem.run_bind, run_under ua, Result.andThen_ok, Sem.run_pure, Option.map_none, r1, ke.run_size, hke]
        simp
      · rename_i s hty hx
        obtain ⟨hh, h, c1⟩ := bndK_sound h
        obtain ⟨ll, h, c2⟩ := bndK_sound h
        refine ⟨_, h, fun σ re w hr => ?_⟩
        obtain ⟨h1, h2, h3⟩ := hops hr
        rw [hx] at h1
        generalize hv : re x = v at h1
        cases h1 with | str _ =>
        have ua := (hT.known (t := t) (by rw [hty]; simp)).str hty
        obtain ⟨r1, r2, r3⟩ := run_bounds (P := P) h2 h3 (Nat.le_refl s.size) false c1 c2 w
        refine ⟨_, ?_, .str _⟩
        simp only [execOp, ho, hv, Instr.sliceAt, Instr.slice, Sem.run_bind, run_under ua, Result.andThen_ok, Sem.run_pure, Option.map_none, Option.isSome_none, Bool.false_eq_true, if_false, r1]
      · cases h
    | some mx =>
      have hops : ∀ {σ : Ren} {re : Operand → Value}, (∀ x ∈ o.op.operands.toList, R σ (ev x) (re x)) → R σ (ev x) (re x) ∧ (∀ y, lo = some y → R σ (ev y) (re y)) ∧ (∀ y, hi = some y → R σ (ev y) (re y)) ∧ R σ (ev mx) (re mx) := by
        intro σ re hr
        rw [ho] at hr
        refine ⟨hr x (by simp [Op.operands]), fun y hy => hr y ?_, fun y hy => hr y ?_, hr mx (by simp [Op.operands])⟩
        · subst hy; simp [Op.operands]
        · subst hy; simp [Op.operands]
      rw [ho] at hops
      simp only at h
      split at h
      · rename_i n e id off hty hx
        split at h
        · rename_i s hs
          obtain ⟨hn, h⟩ := bif_some h
          simp only [Bool.and_eq_true] at hn
          have hn1 := of_decide_eq_true hn.1
          cases hi with
          | none => simp at hn
          | some hi =>
          obtain ⟨mm, h, c0⟩ := bndK_sound h
          obtain ⟨hh, h, c1⟩ := bndK_sound h
          obtain ⟨ll, h, c2⟩ := bndK_sound h
          refine ⟨_, h, fun σ re w hr => ?_⟩
          obtain ⟨h1, h2, h3, h4⟩ := hops hr
          rw [hx] at h1
          generalize hv : re x = v at h1
          cases h1 with | ptr _ _ b δ z hσ =>
          obtain ⟨ke, hke⟩ := sz_known hT hs
          have ua := (hT.known (t := t) (by rw [hty]; simp)).arr hty
          have c0' : mm ≤ n ∧ ∀ (σ : Ren) (v : Value), R σ (ev mx) v → ∃ k, v = .int k (mm : Int) := by
            rcases c0 with ⟨h, _⟩ | ⟨a, h, hle, hf⟩
            · simp at h
            · simp at h; subst h; exact ⟨hle, hf⟩
          have c1' : hh ≤ mm ∧ ∀ (σ : Ren) (v : Value), R σ (ev hi) v → ∃ k, v = .int k (hh : Int) := by
            rcases c1 with ⟨h, _⟩ | ⟨a, h, hle, hf⟩
            · simp at h
            · simp at h; subst h; exact ⟨hle, hf⟩
          obtain ⟨r1, r2⟩ := run_bounds3 (P := P) h2 (h3 hi rfl) h4 (Nat.le_refl n) false c0' c1' c2 w
          refine ⟨_, ?_, slice_val (m := mm) hσ r2 c1'.1 (by omega) (by simp)⟩
          simp only [execOp, ho, hv, Instr.sliceAt, Sem.run_bind, run_under ua, Result.andThen_ok, Instr.sureAddr, Sem.run_pure, Option.map_some, r1, ke.run_size, hke]
        · cases h
      · rename_i e id off len ap hty hx
        split at h
        · rename_i s hs
          obtain ⟨hn, h⟩ := bif_some h
          cases hi with
          | none => simp at hn
          | some hi =>
          obtain ⟨mm, h, c0⟩ := bndK_sound h
          obtain ⟨hh, h, c1⟩ := bndK_sound h
          obtain ⟨ll, h, c2⟩ := bndK_sound h
          refine ⟨_, h, fun σ re w hr => ?_⟩
          obtain ⟨h1, h2, h3, h4⟩ := hops hr
          rw [hx] at h1
          generalize hv : re x = v at h1
          obtain ⟨ke, hke⟩ := sz_known hT hs
          have ua := (hT.known (t := t) (by rw [hty]; simp)).slice hty
          have c0' : mm ≤ len ∧ ∀ (σ : Ren) (v : Value), R σ (ev mx) v → ∃ k, v = .int k (mm : Int) := by
            rcases c0 with ⟨h, _⟩ | ⟨a, h, hle, hf⟩
            · simp at h
            · simp at h; subst h; exact ⟨hle, hf⟩
          have c1' : hh ≤ mm ∧ ∀ (σ : Ren) (v : Value), R σ (ev hi) v → ∃ k, v = .int k (hh : Int) := by
            rcases c1 with ⟨h, _⟩ | ⟨a, h, hle, hf⟩
            · simp at h
            · simp at h; subst h; exact ⟨hle, hf⟩
          cases h1 with
          | slice _ _ _ _ cap b δ z hσ hcap hc63 hz =>
            obtain ⟨r1, r2⟩ := run_bounds3 (P := P) h2 (h3 hi rfl) h4 hcap true c0' c1' c2 w
            refine ⟨_, ?_, slice_val (m := mm) hσ r2 c1'.1 (by omega) (fun h => by simp only [Bool.and_eq_true] at h; have := hz h.1; have := Nat.eq_of_beq_eq_true h.2; subst this; omega)⟩
            simp only [execOp, ho, hv, Instr.sliceAt, Instr.slice, Sem.run_bind, run_under ua, Result.andThen_ok, Sem.run_pure, Option.map_some, r1, ke.run_size, hke]
            congr 3
            split <;> simp
          | slic0 _ _ _ a =>
            obtain ⟨r1, r2⟩ := run_bounds3 (P := P) h2 (h3 hi rfl) h4 (Nat.le_refl 0) true c0' c1' c2 w
            have e1 : hh = 0 := by omega
            have e2 : ll = 0 := by omega
            have e3 : mm = 0 := by omega
            subst e1; subst e2; subst e3
            refine ⟨.slice (if 0 = 0 then a else a.map (·.add (0 * s))) (0 - 0) (0 - 0), ?_, .slic0 _ _ _ _⟩
            simp only [execOp, ho, hv, Instr.sliceAt, Instr.slice, Sem.run_bind, run_under ua, Result.andThen_ok, Sem.run_pure, Option.map_some, r1, ke.run_size, hke]
        · cases h
      · cases h
  case makeFunc fn first caps =>
    cases fn <;> simp only at h <;> try (cases h; done)
    rename_i f
    obtain ⟨hc, hk⟩ := bif_some h
    refine ⟨_, hk, fun σ re w hr => ?_⟩
    have hfirst : first = #[] := by
      have : first.toList = [] := by simpa using hc
      exact Array.ext' (by simpa using this)
    refine ⟨.func (.func f) #[] (caps.map re), by simp [execOp, ho, Instr.makeFunc, hfirst], .fn _ _ _ ?_⟩
    have hall : ∀ x ∈ caps.toList, R σ (ev x) (re x) := fun x hx => hr x (by simp [Op.operands]; right; simpa using hx)
    rw [Array.toList_map]
    generalize caps.toList = l at hall
    induction l with
    | nil => exact .nil
    | cons y l ih => exact .cons _ _ _ _ (hall y (by simp)) (ih fun x hx => hall x (by simp [hx]))
  case sliceToArrayPointer t x =>
    split at h
    · rename_i n e id off len _ hty hx
      obtain ⟨hc, hk⟩ := bif_some h
      have hc' := of_decide_eq_true hc
      refine ⟨_, hk, fun σ re w hr => ?_⟩
      have h1 := hr x (by simp [Op.operands])
      rw [hx] at h1
      generalize hv : re x = v at h1
      cases h1 with
      | slic0 => omega
      | slice _ _ _ _ cap b δ z hσ hcap hc63 hz =>
        have k := hT.known (t := t) (by rw [hty]; simp)
        have ua := k.arr hty
        refine ⟨_, ?_, .ptr _ _ b δ z hσ⟩
        simp [execOp, ho, hv, Instr.arrayAt, run_under ua, Nat.not_lt.2 hc'.2]
    · cases h

end Pw
