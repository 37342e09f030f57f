/- Layer 20: lists written over. -/
import Derived.Test.YtnnjaijokiknkaaGreatSj
namespace Go.Proofs.YtnnjaijokiknkaaGreat
open Go Pw Go.RowKit
noncomputable abbrev tnL : Func := Tryz.f32
structure S_tn where
  n : Nat
  m : Nat
  q : Nat
  i : Int
  B0 : Blk
  b : List Nat
  o : List Nat
def d_tn : LoopDef S_tn where
  ts := [0, 1, 5, 6]
  E := fun s => [(0, .slice 0 0 s.n false), (1, .slice 1 0 s.m false), (5, .slice 2 0 s.q true), (6, .n s.i)]
  M := fun s => [s.B0, ⟨.bytes s.b, false⟩, ⟨.bytes s.o, true⟩]
  dec := fun vs mem => match vs, mem with
    | [.slice 0 0 n false, .slice 1 0 m false, .slice 2 0 q true, x6], [B0, ⟨.bytes b, false⟩, ⟨.bytes o, true⟩] => (match int? x6 with
      | some i => some ⟨n, m, q, i, B0, b, o⟩
      | _ => none)
    | _, _ => none
  ok := fun vs mem s h => by
    split at h
    · split at h
      · rename_i i hh0
        have ehh0 := int?_some hh0
        subst ehh0
        cases h; exact ⟨rfl, rfl⟩
      · cases h
    · cases h
def tnI (s : S_tn) : Int := w64 (w64 ((s.m : Int) - 1) - s.i)
def tnX (s : S_tn) : Nat := 0 + (tnI s).toNat * 1
def tnY (s : S_tn) : Nat := 0 + s.i.toNat * 1
def tnN (s : S_tn) : S_tn := { s with i := w64 (s.i + 1), o := s.o.set (tnY s) (s.b.getD (tnX s) 0 ^^^ 51) }
theorem tn_step (g : GOps) (s : S_tn) : codeK (X_rlend g) [] tnL.ntmps [0,1,4,5,6,13] 60 (loopB (bodyOf tnL) 3) (d_tn.E s) (d_tn.M s) (outK d_tn.ts) =
    brn (decide (s.i < (s.m : Int))) (gds [decide (0 ≤ tnI s ∧ tnI s < (s.m : Int)), decide (tnX s < s.b.length), decide (0 ≤ s.i ∧ s.i < (s.q : Int)), decide (tnY s < s.o.length)] (some (.normal, d_tn.E (tnN s), d_tn.M (tnN s)))) (some (.exit 0, d_tn.E s, d_tn.M s)) := by kernel_rfl
/-- bytes, turned about and changed -/
def turnL (b : List Nat) : List Nat := b.reverse.map (· ^^^ 51)
def gTn : LoopFn := d_tn.fn (fun s => decide (s.i = 0 ∧ s.m = s.b.length ∧ s.o.length = s.m ∧ s.m < 4611686018427387904 ∧ s.q = s.m)) (.exit 0) (fun s => { s with i := (s.m : Int), o := turnL s.b })
def tnAt (s : S_tn) (k : Nat) : S_tn := { s with i := (k : Int), o := (turnL s.b).take k ++ s.o.drop k }
theorem turnL_len (b : List Nat) : (turnL b).length = b.length := by unfold turnL; simp
theorem turnL_get {b : List Nat} {k : Nat} (hk : k < b.length) : (turnL b)[k]? = some (b.getD (b.length - 1 - k) 0 ^^^ 51) := by
  unfold turnL
  rw [List.getElem?_map, List.getElem?_reverse hk, List.getD_eq_getElem?_getD, List.getElem?_eq_getElem (by omega)]
  rfl
theorem set_step {t o : List Nat} (hl : o.length = t.length) {k : Nat} (hk : k < t.length) {x : Nat} (hx : t[k]? = some x) : (t.take k ++ o.drop k).set (0 + (k : Int).toNat * 1) x = t.take (k + 1) ++ o.drop (k + 1) := by
  have e0 : 0 + (k : Int).toNat * 1 = k := by omega
  have e1 : (t.take k).length = k := by rw [List.length_take]; omega
  rw [e0, List.set_append_right _ _ (by omega), e1, Nat.sub_self, List.drop_eq_getElem_cons (by omega), List.set_cons_zero, List.take_add_one, hx, List.append_assoc]
  rfl
theorem tnAt_succ {s : S_tn} (h2 : s.m = s.b.length) (h3 : s.o.length = s.m) (h4 : s.m < 4611686018427387904) {k : Nat} (hk : k < s.m) : tnI (tnAt s k) = ((s.m - 1 - k : Nat) : Int) ∧ tnN (tnAt s k) = tnAt s (k + 1) := by
  have hI : tnI (tnAt s k) = ((s.m - 1 - k : Nat) : Int) := by
    show w64 (w64 ((s.m : Int) - 1) - (k : Int)) = _
    rw [w64_id (x := (s.m : Int) - 1) (by omega) (by omega), w64_id (by omega) (by omega)]
    omega
  refine ⟨hI, ?_⟩
  have hX : tnX (tnAt s k) = s.m - 1 - k := by unfold tnX; rw [hI]; omega
  have e1 : w64 ((tnAt s k).i + 1) = ((k + 1 : Nat) : Int) := by
    show w64 ((k : Int) + 1) = _
    rw [w64_id (by omega) (by omega)]; rfl
  have e2 : (tnAt s k).o.set (tnY (tnAt s k)) ((tnAt s k).b.getD (s.m - 1 - k) 0 ^^^ 51) = (turnL s.b).take (k + 1) ++ s.o.drop (k + 1) := by
    refine set_step (by rw [turnL_len]; omega) (by rw [turnL_len]; omega) ?_
    rw [turnL_get (by omega), ← h2]
    rfl
  unfold tnN
  rw [e1, hX, e2]; rfl
theorem tn_at : LoopAt Tryz.prog tnL.ntmps (loopB (bodyOf tnL) 3) gTn := by
  refine d_tn.loop (keep := [0,1,4,5,6,13]) X_rlend_ok LoopsOK.nil (by simp) fun s hg => ⟨s.m, tnAt s, ?_, fun k hk => ⟨60, ?_⟩, 60, ?_⟩
  · obtain ⟨h1, h2, h3, h4, h5⟩ := of_decide_eq_true hg
    unfold tnAt
    rw [List.take_zero, List.drop_zero, List.nil_append, show ((0 : Nat) : Int) = s.i by rw [h1]; rfl]
  · obtain ⟨h1, h2, h3, h4, h5⟩ := of_decide_eq_true hg
    obtain ⟨hI, hN⟩ := tnAt_succ h2 h3 h4 hk
    refine (tn_step concGO _).trans ?_
    have ei : (tnAt s k).i = (k : Int) := rfl
    have em : (tnAt s k).m = s.m := rfl
    have eq5 : (tnAt s k).q = s.m := h5
    have eb : (tnAt s k).b = s.b := rfl
    have eX : tnX (tnAt s k) = s.m - 1 - k := by unfold tnX; rw [hI]; omega
    have eY : tnY (tnAt s k) = k := by unfold tnY; rw [ei]; omega
    have eo : (tnAt s k).o.length = s.m := by
      show ((turnL s.b).take k ++ s.o.drop k).length = _
      rw [List.length_append, List.length_take, List.length_drop, turnL_len]; omega
    rw [hN, gds_true]
    · rw [ei, em, decide_eq_true (by omega), brn_eq, cond_true]
    · intro c hc
      rw [eX, eY, eo, hI, ei, em, eb, eq5] at hc
      simp only [List.mem_cons, List.not_mem_nil, or_false] at hc
      rcases hc with h | h | h | h <;> (rw [h]; exact decide_eq_true (by omega))
  · obtain ⟨h1, h2, h3, h4, h5⟩ := of_decide_eq_true hg
    refine (tn_step concGO _).trans ?_
    have ee : tnAt s s.m = { s with i := (s.m : Int), o := turnL s.b } := by
      unfold tnAt
      rw [List.take_of_length_le (by rw [turnL_len]; omega), List.drop_eq_nil_of_le (by omega), List.append_nil]
    rw [ee]
    dsimp only
    rw [decide_eq_false (by omega), brn_eq, cond_false]
theorem tn_loops : LoopsOK Tryz.prog tnL.ntmps [(3, gTn)] (bodyOf tnL) := loopsOK_cons LoopsOK.nil (by kernel_rfl) tn_at
def tnQ (m : Nat) : Nat := (m : Int).toNat
def tnP (n m : Nat) (b : List Nat) : List Nat := List.take n (List.take (tnQ m) (List.drop 0 (turnL b)))
def turnT (n m : Nat) (l b : List Nat) : Option (AV × Mem) := gds [decide (0 ≤ (m : Int) ∧ (m : Int) ≤ (m : Int) ∧ (m : Int) ≤ 281474976710656), decide ((0 : Int) = 0 ∧ m = b.length ∧ (List.replicate (tnQ m) 0).length = m ∧ m < 4611686018427387904 ∧ tnQ m = m),
  decide (0 + tnQ m ≤ (turnL b).length), decide (0 + (tnP n m b).length ≤ l.length)] (some (.slice 2 0 (tnQ m) true, [⟨.bytes (List.take 0 l ++ (tnP n m b ++ List.drop (0 + (tnP n m b).length) l)), true⟩, ⟨.bytes b, false⟩, ⟨.bytes (turnL b), true⟩]))
theorem turned_run (g : GOps) (n m : Nat) (l b : List Nat) : runKL (X_rlend g) [(3, gTn)] [0,1,4,5,6,13] 100 tnL (bodyOf tnL) [.slice 0 0 n false, .slice 1 0 m false] [⟨.bytes l, true⟩, ⟨.bytes b, false⟩] (fun v m => some (v, m)) = turnT n m l b := by kernel_rfl
def gTurned : List AV → Mem → Option (Bool × AV × Mem)
  | [.slice 0 0 n _, .slice 1 0 m _], [⟨.bytes l, true⟩, ⟨.bytes b, false⟩] => some (decide (m = b.length ∧ n = l.length ∧ m ≤ n ∧ m ≤ 281474976710656), .slice 2 0 m true, [⟨.bytes (turnL b ++ l.drop m), true⟩, ⟨.bytes b, false⟩, ⟨.bytes (turnL b), true⟩])
  | _, _ => none
theorem turned_at : LoudAt Tryz.prog 32 (told gTurned) := by
  refine told_at X_rlend_ok (keep := [0,1,4,5,6,13]) Tryz.func32 (c := bodyOf tnL) (by kernel_rfl) (by kernel_rfl) tn_loops fun ar mem cd v mm h hc hw => ?_
  unfold gTurned at h
  split at h
  · rename_i n a1 m a2 l b
    cases h
    obtain ⟨rfl, rfl, h3, h4⟩ := of_decide_eq_true hc
    refine ⟨100, [.slice 0 0 l.length false, .slice 1 0 b.length false], [⟨.bytes l, true⟩, ⟨.bytes b, false⟩], _, .ap (.ap (.refl _)), .refl _, ?_, (MemEq.refl _).w⟩
    refine (turned_run concGO l.length b.length l b).trans ?_
    have hq : tnQ b.length = b.length := by unfold tnQ; omega
    have hp : tnP l.length b.length b = turnL b := by
      unfold tnP
      have ht : List.take b.length (turnL b) = turnL b := List.take_of_length_le (by rw [turnL_len]; exact Nat.le_refl _)
      rw [hq, List.drop_zero, ht]
      exact List.take_of_length_le (by rw [turnL_len]; exact h3)
    unfold turnT
    rw [hq, hp, turnL_len, gds_true, List.take_zero, List.nil_append, Nat.zero_add]
    intro c hcc
    rw [List.length_replicate] at hcc
    simp only [List.mem_cons, List.not_mem_nil, or_false] at hcc
    rcases hcc with hh | hh | hh | hh
    · rw [hh]; exact decide_eq_true ⟨by omega, by omega, by omega⟩
    · rw [hh]; exact decide_eq_true ⟨trivial, trivial, trivial, by omega, trivial⟩
    · rw [hh]; exact decide_eq_true (by omega)
    · rw [hh]; exact decide_eq_true (by omega)
  · cases h
def selT : List AV → Mem → Option (List (Option Nat) × Nat × Nat)
  | [.slice id _ _ _, .slice id2 _ _ _], _ => some ([some id, some id2], 0, 0)
  | _, _ => none
noncomputable def X_turn (g : GOps) : Cx := { X_rlend g with M := addM (X_rlend g).M 32 (frame selT (told gTurned)) }
theorem X_turn_ok : CxOK Tryz.prog (X_turn concGO) := { X_rlend_ok with loud := addM_ok X_rlend_ok.loud (frame_at turned_at) }
theorem turnL_lt {b : List Nat} (hb : ∀ c ∈ b, c < 256) : ∀ c ∈ turnL b, c < 256 := by
  intro c hc
  unfold turnL at hc
  obtain ⟨x, hx, rfl⟩ := List.mem_map.1 hc
  exact Nat.xor_lt_two_pow (n := 8) (hb x (List.mem_reverse.1 hx)) (by decide)
/-- the list handed in, written over -/
def wrA (b : List Nat) : List Nat := turnL b ++ List.drop b.length (hnA b)
def wrI (b : List Nat) : List Nat := List.take ((b.length : Int).toNat - 0) (List.drop (0 + 0 * 1) (wrA b))
theorem wrA_len (b : List Nat) : (wrA b).length = b.length + 80 := by
  unfold wrA
  rw [List.length_append, turnL_len, List.length_drop, hnA_eq, hand_len]; omega
theorem wrI_eq (b : List Nat) : wrI b = turnL b := by
  unfold wrI wrA
  rw [show (b.length : Int).toNat - 0 = (turnL b).length by rw [turnL_len]; omega, show 0 + 0 * 1 = 0 from rfl, List.drop_zero, List.take_left' rfl]
theorem tkT_eq (b : List Nat) : tkL b.length (turnL b) = turnL b := by
  have := tkL_eq (turnL b)
  rwa [turnL_len] at this
end Go.Proofs.YtnnjaijokiknkaaGreat

