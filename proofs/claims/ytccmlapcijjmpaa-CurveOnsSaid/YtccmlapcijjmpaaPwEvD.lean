/- A part of the proof: PwEvD. -/
import Derived.Test.YtccmlapcijjmpaaPwEvC
import Derived.ChangeKeysEq
namespace Pw
open Go

variable {P : Program} {T : List (Nat × TE)} {ρ : Type}

def cellEq (kd : IntKind) : AV → AV → Option Bool
  | .u k a, .u k' b => bif decide (k = kd ∧ k' = kd) then some (decide (a = b)) else none
  | _, _ => none

def eqCells (kd : IntKind) : List AV → List AV → Option Bool
  | [], [] => some true
  | a :: l, b :: m => match cellEq kd a b with
    | some x => match eqCells kd l m with
      | some y => some (x && y)
      | none => none
    | none => none
  | _, _ => none

theorem eqCells_cons {kd : IntKind} {a b : AV} {l m : List AV} {c : Bool} (h : eqCells kd (a :: l) (b :: m) = some c) :
    ∃ x y, cellEq kd a b = some x ∧ eqCells kd l m = some y ∧ c = (x && y) := by
  unfold eqCells at h
  split at h
  · rename_i x hx
    split at h
    · rename_i y hy
      exact ⟨x, y, hx, hy, by simpa using h.symm⟩
    · cases h
  · cases h

theorem eqCells_split {kd : IntKind} : ∀ {as bs : List AV} {c : Bool} (k : Nat), eqCells kd as bs = some c →
    ∃ x y, eqCells kd (as.take k) (bs.take k) = some x ∧ eqCells kd (as.drop k) (bs.drop k) = some y ∧ c = (x && y)
  | [], [], c, k, h => by simp [eqCells] at h; subst h; exact ⟨true, true, by simp [eqCells], by simp [eqCells], rfl⟩
  | [], _ :: _, _, _, h => by simp [eqCells] at h
  | _ :: _, [], _, _, h => by simp [eqCells] at h
  | a :: as, b :: bs, c, 0, h => ⟨true, c, by simp [eqCells], by simpa using h, by simp⟩
  | a :: as, b :: bs, c, k + 1, h => by
    obtain ⟨x, y, h1, h2, rfl⟩ := eqCells_cons h
    obtain ⟨x', y', h3, h4, rfl⟩ := eqCells_split k h2
    refine ⟨x && x', y', ?_, by simpa using h4, by cases x <;> simp⟩
    simp [eqCells, h1, h3]

/-- the value of a type that some cells make -/
def mkv (P : Program) (t : TypeId) (xs : List Value) : Value :=
  match P.underlying t with
  | some (.array ..) | some (.struct _) => .agg xs.toArray
  | _ => xs.headD undef

theorem cellsOf_info {t : TypeId} {d : TypeDesc} (h : P.underlying t = some d) : ∃ i, P.info? t = some i ∧ i.size = P.cellsOf t := by
  obtain ⟨i, hi⟩ := info_of_underlying h
  exact ⟨i, hi, by simp [Program.cellsOf, hi]⟩

theorem plainCells_info {kd : IntKind} {d : Nat} {t : TypeId} {m : Nat} (h : plainCells P kd d t = some m) : P.cellsOf t = m ∧ (∃ u, P.underlying t = some u) := by
  cases d with
  | zero => simp [plainCells] at h
  | succ d =>
    unfold plainCells at h
    split at h
    · rename_i hu; split at h <;> simp_all
    · rename_i n e hu
      cases hp : plainCells P kd d e with
      | none => simp [hp] at h
      | some m' =>
        simp only [hp, Option.bind_some] at h
        split at h
        · rename_i hc; simp at h; exact ⟨by rw [hc.2.2, h], _, hu⟩
        · cases h
    · rename_i fs hu
      split at h
      · cases h
      · generalize (plainFields _ fs.toList 0) = r at h
        cases r with
        | none => simp at h
        | some s =>
          simp only [Option.bind_some] at h
          split at h
          · rename_i hc; simp at h; exact ⟨by rw [hc, h], _, hu⟩
          · cases h
    · cases h

theorem run_part {t : TypeId} {u : TypeDesc} (hu : P.underlying t = some u) {arr : Array Value} {off : Nat} (h : off + P.cellsOf t ≤ arr.size) (h1 : 0 < P.cellsOf t) (w : World) :
    (part t arr off).run P w = .ok (mkv P t ((arr.toList.drop off).take (P.cellsOf t))) w := by
  obtain ⟨i, hi, hsz⟩ := cellsOf_info hu
  have hscal : ∀ v : Value, arr[off]? = some v → ((arr.toList.drop off).take (P.cellsOf t)).headD undef = v := by
    intro v hv
    have h3 : arr.toList[off]? = some v := by simpa using hv
    obtain ⟨n, hn⟩ : ∃ n, P.cellsOf t = n + 1 := ⟨P.cellsOf t - 1, by omega⟩
    rw [hn]
    have : arr.toList.drop off = v :: arr.toList.drop (off + 1) := by
      rw [List.drop_eq_getElem_cons (by simp; omega)]
      congr 1
      rw [List.getElem?_eq_getElem (by simp; omega)] at h3
      simpa using h3
    rw [this]; rfl
  have hsome : ∃ v, arr[off]? = some v := ⟨arr[off]'(by omega), by simp⟩
  obtain ⟨v, hv⟩ := hsome
  have hz : (Go.sizeOf t).run P w = .ok (P.cellsOf t) w := by simp [Go.sizeOf, typeInfo, hi, hsz]
  have hv2 := hscal v hv
  cases u <;> simp only [part, isAgg, run_under hu, mkv, hu, hv, hz, hv2, Sem.run_bind, Sem.run_pure, Result.andThen_ok, Bool.false_eq_true, if_false, if_true, Sem.run_ite]
  all_goals (congr 2; apply Array.ext'; simp)

theorem cellEq_sound {σ : Ren} {kd : IntKind} {a b : AV} {c : Bool} {x y : Value} (h : cellEq kd a b = some c) (hx : R σ a x) (hy : R σ b y) {t : TypeId} (hu : P.underlying t = some (.int kd))
    (d : Nat) (w : World) : (Op.equalIn (d + 1) t x y).run P w = .ok c w := by
  unfold cellEq at h
  split at h
  · obtain ⟨h1, h2⟩ := bif_some h
    obtain ⟨rfl, rfl⟩ := of_decide_eq_true h1
    rename_i p _ q
    cases hx; cases hy
    simp only [Op.equalIn, Sem.run_bind, run_under hu, Result.andThen_ok, if_true, Sem.run_pure]
    simp only [Option.some.injEq] at h2; subst h2
    congr 1
    by_cases e : p = q
    · subst e; simp
    · simp only [e, decide_false]; rw [beq_eq_false_iff_ne]; omega
  · cases h

theorem mkv_int {t : TypeId} {kd : IntKind} (hu : P.underlying t = some (.int kd)) (v : Value) (l : List Value) : mkv P t (v :: l) = v := by simp [mkv, hu]

theorem RL.slices {σ : Ren} {as : List AV} {xs : List Value} (h : RL σ as xs) (i m : Nat) : RL σ ((as.drop i).take m) ((xs.drop i).take m) := (h.drop i).take m

theorem eqItems_sound {kd : IntKind} {σ : Ren} {el : TypeId} {u : TypeDesc} {m n e : Nat} (hu : P.underlying el = some u) (hm : P.cellsOf el = m) (h0 : 0 < m)
    (ih : ∀ (as bs : List AV) (c : Bool) (xs ys : List Value), as.length = m → bs.length = m → eqCells kd as bs = some c → RL σ as xs → RL σ bs ys → ∀ w : World,
      (Op.equalIn e el (mkv P el xs) (mkv P el ys)).run P w = .ok c w)
    {as bs : List AV} {xs ys : List Value} (ha : as.length = n * m) (hb : bs.length = n * m) (hx : RL σ as xs) (hy : RL σ bs ys) (w : World) :
    ∀ (cnt i : Nat) (c : Bool), i + cnt = n → eqCells kd (as.drop (i * m)) (bs.drop (i * m)) = some c →
      (Op.eqItems e el m xs.toArray ys.toArray (List.range' i cnt)).run P w = .ok c w
  | 0, i, c, hi, hc => by
    have h1 : as.drop (i * m) = [] := by rw [List.drop_eq_nil_iff, ha, show i = n by omega]; exact Nat.le_refl _
    have h2 : bs.drop (i * m) = [] := by rw [List.drop_eq_nil_iff, hb, show i = n by omega]; exact Nat.le_refl _
    rw [h1, h2] at hc
    simp only [eqCells, Option.some.injEq] at hc
    subst hc
    simp [Op.eqItems]
  | cnt + 1, i, c, hi, hc => by
    obtain ⟨x, y, h1, h2, rfl⟩ := eqCells_split m hc
    have hle : i * m + m ≤ n * m := by
      have : (i + 1) * m ≤ n * m := Nat.mul_le_mul_right _ (by omega)
      rwa [Nat.add_mul, Nat.one_mul] at this
    have hxl := hx.length
    have hyl := hy.length
    rw [List.drop_drop, List.drop_drop, show i * m + m = (i + 1) * m by rw [Nat.add_mul, Nat.one_mul]] at h2
    have p1 := run_part (P := P) hu (arr := xs.toArray) (off := i * m) (by simp only [List.size_toArray]; omega) (by omega) w
    have p2 := run_part (P := P) hu (arr := ys.toArray) (off := i * m) (by simp only [List.size_toArray]; omega) (by omega) w
    have hl1 : ((as.drop (i * m)).take m).length = m := by rw [List.length_take, List.length_drop]; omega
    have hl2 : ((bs.drop (i * m)).take m).length = m := by rw [List.length_take, List.length_drop]; omega
    have h3 := ih _ _ _ _ _ hl1 hl2 h1 (hx.slices (i * m) m) (hy.slices (i * m) m) w
    have h4 := eqItems_sound hu hm h0 ih ha hb hx hy w cnt (i + 1) y (by omega) h2
    simp only [hm] at p1 p2
    simp only [List.range'_succ, Op.eqItems, Sem.run_bind, p1, p2, Result.andThen_ok, h3, Sem.run_ite]
    cases x <;> simp [h4]

theorem eqFields_sound {kd : IntKind} {σ : Ren} {d e : Nat} 
    (ih : ∀ (t : TypeId) (m : Nat), plainCells P kd d t = some m → ∀ (as bs : List AV) (c : Bool) (xs ys : List Value), as.length = m → bs.length = m → eqCells kd as bs = some c → RL σ as xs → RL σ bs ys → ∀ w : World,
      (Op.equalIn e t (mkv P t xs) (mkv P t ys)).run P w = .ok c w)
    {as bs : List AV} {xs ys : List Value} (hx : RL σ as xs) (hy : RL σ bs ys) (w : World) :
    ∀ (fs : List Field) (off s : Nat) (c : Bool), plainFields (plainCells P kd d) fs off = some s → as.length = s → bs.length = s → eqCells kd (as.drop off) (bs.drop off) = some c →
      (Op.eqFields e xs.toArray ys.toArray fs).run P w = .ok c w
  | [], off, s, c, hp, ha, hb, hc => by
    simp only [plainFields, Option.some.injEq] at hp
    subst hp
    rw [List.drop_of_length_le (by omega), List.drop_of_length_le (by omega)] at hc
    simp only [eqCells, Option.some.injEq] at hc
    subst hc
    simp [Op.eqFields]
  | g :: fs, off, s, c, hp, ha, hb, hc => by
    unfold plainFields at hp
    split at hp
    · rename_i m hm
      split at hp
      · rename_i hcond
        obtain ⟨h0, hn, hoff⟩ := hcond
        have hge : ∀ (fs : List Field) (off s : Nat), plainFields (plainCells P kd d) fs off = some s → off ≤ s := by
          intro fs
          induction fs with
          | nil => intro off s h; simp only [plainFields, Option.some.injEq] at h; omega
          | cons g fs ihf =>
            intro off s h
            unfold plainFields at h
            split at h
            · split at h
              · have := ihf _ _ h; omega
              · cases h
            · cases h
        have hs := hge _ _ _ hp
        obtain ⟨x, y, h1, h2, rfl⟩ := eqCells_split m hc
        rw [List.drop_drop, List.drop_drop] at h2
        obtain ⟨hsz, u, hu⟩ := plainCells_info hm
        have hxl := hx.length
        have hyl := hy.length
        have p1 := run_part (P := P) hu (arr := xs.toArray) (off := off) (by simp only [List.size_toArray]; omega) (by omega) w
        have p2 := run_part (P := P) hu (arr := ys.toArray) (off := off) (by simp only [List.size_toArray]; omega) (by omega) w
        have hl1 : ((as.drop off).take m).length = m := by rw [List.length_take, List.length_drop]; omega
        have hl2 : ((bs.drop off).take m).length = m := by rw [List.length_take, List.length_drop]; omega
        have h3 := ih _ _ hm _ _ _ _ _ hl1 hl2 h1 (hx.slices off m) (hy.slices off m) w
        have h4 := eqFields_sound ih hx hy w fs (off + m) s y hp ha hb h2
        simp only [hsz] at p1 p2
        simp only [Op.eqFields, hn, ne_eq, not_false_eq_true, if_true, hoff, Sem.run_bind, p1, p2, Result.andThen_ok, h3, Sem.run_ite]
        cases x <;> simp [h4]
      · cases hp
    · cases hp

theorem eqIn_sound {kd : IntKind} {σ : Ren} : ∀ (d : Nat) (t : TypeId) (m : Nat), plainCells P kd d t = some m → ∀ (e : Nat), d ≤ e →
    ∀ (as bs : List AV) (c : Bool) (xs ys : List Value), as.length = m → bs.length = m → eqCells kd as bs = some c → RL σ as xs → RL σ bs ys → ∀ w : World,
    (Op.equalIn e t (mkv P t xs) (mkv P t ys)).run P w = .ok c w
  | 0, _, _, h, _, _, _, _, _, _, _, _, _, _, _, _, _ => by simp [plainCells] at h
  | d + 1, t, m, h, e, he, as, bs, c, xs, ys, ha, hb, hc, hx, hy, w => by
    obtain ⟨e, rfl⟩ : ∃ e', e = e' + 1 := ⟨e - 1, by omega⟩
    have h0 := h
    unfold plainCells at h
    split at h
    · rename_i k hu
      split at h
      · rename_i hk
        obtain ⟨rfl, -⟩ := hk
        simp only [Option.some.injEq] at h
        subst h
        obtain ⟨a, rfl⟩ := List.length_eq_one_iff.1 ha
        obtain ⟨b, rfl⟩ := List.length_eq_one_iff.1 hb
        cases hx with | cons _ x _ l1 hx _ => cases hy with | cons _ y _ l2 hy _ =>
        rw [mkv_int hu, mkv_int hu]
        obtain ⟨c1, c2, h1, h2, rfl⟩ := eqCells_cons hc
        simp only [eqCells, Option.some.injEq] at h2
        subst h2
        rw [Bool.and_true]
        exact cellEq_sound h1 hx hy hu e w
      · cases h
    · rename_i n el hu
      cases hp : plainCells P kd d el with
      | none => simp [hp] at h
      | some m' =>
        simp only [hp, Option.bind_some] at h
        split at h
        · rename_i hc1
          simp only [Option.some.injEq] at h
          obtain ⟨hsz, u, hu2⟩ := plainCells_info hp
          have hmx : mkv P t xs = .agg xs.toArray := by simp [mkv, hu]
          have hmy : mkv P t ys = .agg ys.toArray := by simp [mkv, hu]
          rw [hmx, hmy]
          obtain ⟨i, hi⟩ := info_of_underlying hu2
          rw [run_equalIn_array w e xs.toArray ys.toArray hu hi, hsz, List.range_eq_range']
          exact eqItems_sound hu2 hsz hc1.1 (fun as bs c xs ys => eqIn_sound d el m' hp e (by omega) as bs c xs ys) (by rw [ha, h]) (by rw [hb, h]) hx hy w n 0 c (by omega) (by simpa using hc)
        · cases h
    · rename_i fs hu
      split at h
      · cases h
      · rename_i hst
        cases hp : plainFields (plainCells P kd d) fs.toList 0 with
        | none => simp [hp] at h
        | some s =>
          simp only [hp, Option.bind_some] at h
          split at h
          · simp only [Option.some.injEq] at h
            have hmx : mkv P t xs = .agg xs.toArray := by simp [mkv, hu]
            have hmy : mkv P t ys = .agg ys.toArray := by simp [mkv, hu]
            have hfs : P.fieldsOf t = fs := by simp [Program.fieldsOf, hu]
            rw [hmx, hmy, run_equalIn_struct w e t xs.toArray ys.toArray (by rw [hfs]; exact hu) (by simpa using hst), hfs]
            exact eqFields_sound (fun t m hm as bs c xs ys => eqIn_sound d t m hm e (by omega) as bs c xs ys) hx hy w fs.toList 0 s c hp (by omega) (by omega) (by simpa using hc)
          · cases h
    · cases h

end Pw
