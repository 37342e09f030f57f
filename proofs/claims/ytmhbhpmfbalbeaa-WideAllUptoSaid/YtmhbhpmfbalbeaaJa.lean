/- WideAll: the calls. -/
import Derived.Test.YtmhbhpmfbalbeaaHa
import Derived.Test.YtmhbhpmfbalbeaaWr
import Derived.Test.YtmhbhpmfbalbeaaPwMj
namespace Go.Proofs.Ytmhbhpmfbalbeaa
open Go Pw Go.RowKit
inductive N3 where
  | j0 | j1 | j2
noncomputable def r3 {α : Type} (x : N3) (f : N3 → α) : α := @N3.rec (fun _ => α) (f .j0) (f .j1) (f .j2) x
theorem r3_eq {α : Type} (x : N3) (f : N3 → α) : r3 x f = f x := by cases x <;> rfl
def N3.val : N3 → Int
  | .j0 => 0
  | .j1 => 1
  | .j2 => 2
structure V3 (α : Type) where
  a : α
  b : α
  c : α
def V3.get {α : Type} (v : V3 α) : N3 → α
  | .j0 => v.a
  | .j1 => v.b
  | .j2 => v.c
def V3.set {α : Type} (v : V3 α) (j : N3) (x : α) : V3 α := match j with
  | .j0 => ⟨x, v.b, v.c⟩
  | .j1 => ⟨v.a, x, v.c⟩
  | .j2 => ⟨v.a, v.b, x⟩
def atN3 (i : Int) : N3 := if i % 3 = 0 then .j0 else if i % 3 = 1 then .j1 else .j2
theorem atN3_val (i : Int) : (atN3 i).val = i % 3 := by
  unfold atN3
  have h1 := Int.emod_nonneg i (show (3 : Int) ≠ 0 by decide)
  have h2 := Int.emod_lt_of_pos i (show (0 : Int) < 3 by decide)
  by_cases h : i % 3 = 0
  · rw [if_pos h, h]; rfl
  · rw [if_neg h]
    by_cases h' : i % 3 = 1
    · rw [if_pos h', h']; rfl
    · rw [if_neg h']
      show (2 : Int) = _
      omega
theorem brn_true {α : Type} (x y : α) : brn true x y = x := rfl
theorem brn_false {α : Type} (x y : α) : brn false x y = y := rfl
theorem at3_eq (i : Int) : brn (decide (i.tmod 3 < 0)) (some (AV.n (w64 (i.tmod 3 + 3)), (none : Option Blk))) (some (.n (i.tmod 3), none)) = some (.n (i % 3), none) := by
  rw [brn_eq]
  have h : i.tmod 3 = i % 3 ∧ 0 ≤ i.tmod 3 ∨ i.tmod 3 + 3 = i % 3 ∧ i.tmod 3 < 0 := by
    have h := Int.tmod_eq_emod (a := i) (b := 3)
    by_cases hp : 0 ≤ i ∨ (3 : Int) ∣ i
    · rw [if_pos hp] at h
      exact .inl (by omega)
    · rw [if_neg hp] at h
      refine .inr ?_
      simp only [Int.natAbs] at h
      omega
  by_cases hc : i.tmod 3 < 0
  · have : i.tmod 3 + 3 = i % 3 := by omega
    rw [decide_eq_true hc, cond_true, this, w64_id (by omega) (by omega)]
  · have : i.tmod 3 = i % 3 := by omega
    rw [decide_eq_false hc, cond_false, this]
theorem atL_run (o : SOps) (i : Int) : runNL (X_lent o) [] [0,2,6] 200 Try.f20 (bodyOf Try.f20) (laArgs [.v (.n i)] 0) (laLists [.v (.n i)]) = brn (decide (i.tmod 3 < 0)) (some (AV.n (w64 (i.tmod 3 + 3)), none)) (some (.n (i.tmod 3), none)) := by
  kernel_rfl
def g_atL (_ : SOps) (args : List LA) : Option (AV × Option Blk) := match args with
  | [.v x0] => (match int? x0 with
    | some i => some (.n (i % 3), none)
    | _ => none)
  | _ => none
theorem atL_at : QuietAt Try.prog 20 (lav (g_atL concS)) := by
  refine quietAt_of_runA X_lent_ok (L := []) (keep := [0,2,6]) Try.func20 (c := bodyOf Try.f20) (by kernel_rfl) (by kernel_rfl) (LoopsOK.nil) fun args v h hw => ⟨200, ?_⟩
  unfold g_atL at h
  split at h
  · rename_i x0
    split at h
    · rename_i i hh0
      have ehh0 := int?_some hh0
      subst ehh0
      rw [← h]
      refine (atL_run concS i).trans ?_
      exact at3_eq i
    · cases h
  · cases h
noncomputable def X_atL (o : SOps) : Cx := { X_lent o with O := addQ (X_lent o).O 20 (lav (g_atL o)) }
theorem X_atL_ok : CxOK Try.prog (X_atL concS) := { X_lent_ok with quiet := addQ_ok X_lent_ok.quiet atL_at }
noncomputable def gAt3 (t : Int → N3) : List AV → Mem → ∀ {ρ : Type}, (AV → Option Blk → Option ρ) → Option ρ := fun args _ _ K => match args with
  | [.n i] => r3 (t i) fun j => K (.n j.val) none
  | _ => none
theorem at3_at : QuietAt Try.prog 20 (gAt3 atN3) := by
  intro args mem ρ K r hg
  refine atL_at args mem ρ K r ?_
  unfold gAt3 at hg
  split at hg
  · rename_i i
    rw [r3_eq, atN3_val] at hg
    exact hg
  · cases hg
def gSize : List AV → Mem → Option (Bool × AV × Option Blk)
  | [.ptr 1 0], [⟨.bytes _, false⟩, ⟨.cells [.u .u64 _, .u .u64 _, .u .u64 _, .u .u64 _, .u .u64 _, .u .u64 _, .u .u64 _, .u .u64 _, .slice 0 0 _ false, .u .u64 size], false⟩] => some (true, .u .u64 size, none)
  | _, _ => none
theorem size_run (o : SOps) (w : List Nat) (rl size : Nat) (rest : List Nat) : runG (X_atL o) [] [0,2] 60 Try.f24 (bodyOf Try.f24) [.ptr 1 0] [⟨.bytes rest, false⟩, ⟨.cells (hshC w (.slice 0 0 rl false) size), false⟩] = some (.u .u64 size, none) := by kernel_rfl
theorem size_at : QuietAt Try.prog 24 (grab gSize) := by
  refine quietAt_of_runG X_atL_ok (keep := [0,2]) Try.func24 (c := bodyOf Try.f24) (by kernel_rfl) (by kernel_rfl) LoopsOK.nil fun ar ms cd v nb h hc hw => ?_
  unfold gSize at h
  split at h
  · rename_i rest a b c d e f g hh rl size
    cases h
    exact ⟨60, [⟨.bytes rest, false⟩, ⟨.cells (hshC [a, b, c, d, e, f, g, hh] (.slice 0 0 rl false) size), false⟩], .refl _, size_run concS _ rl size rest⟩
  · cases h
noncomputable def mRst (o : SOps) : LoudFn := fun args mem _ K => runKL (X_atL o) [] [0] 60 Try.f25 (bodyOf Try.f25) args mem K
theorem mRst_at : LoudAt Try.prog 25 (mRst concS) := loudAt_of_run X_atL_ok Try.func25 (by kernel_rfl) (by kernel_rfl) LoopsOK.nil
noncomputable def mCln (o : SOps) : LoudFn := fun args mem _ K => runKL (X_atL o) [] [0,2] 260 Try.f26 (bodyOf Try.f26) args mem K
theorem mCln_at : LoudAt Try.prog 26 (mCln concS) := loudAt_of_run X_atL_ok Try.func26 (by kernel_rfl) (by kernel_rfl) LoopsOK.nil
noncomputable def X_wa (o : SOps) (t : Int → N3) : Cx := { X_atL o with
  O := addQ (addQ (addQ (X_atL o).O 20 (gAt3 t)) 18 (grab (gSum2 o))) 24 (grab gSize)
  M := addM (addM (addM (X_atL o).M 25 (mRst o)) 26 (mCln o)) 14 (frame selOne (told gFull)) }
theorem X_wa_ok : CxOK Try.prog (X_wa concS atN3) := { X_atL_ok with
  quiet := addQ_ok (addQ_ok (addQ_ok X_atL_ok.quiet at3_at) sum2_at) size_at
  loud := addM_ok (addM_ok (addM_ok X_atL_ok.loud mRst_at) mCln_at) (frame_at full_at) }
/-! ### the world of a round -/
structure ActR where
  kind : Int
  on : Int
  other : Int
  data : List Nat
structure HA where
  s : HS
  c : List Nat
def actC (q : ActR) (id : Nat) : List AV := [.n q.kind, .n q.on, .n q.other, .slice id 0 q.data.length false]
noncomputable abbrev waF : Func := Try.f6
noncomputable abbrev waB : Code := loopB (bodyOf waF) 9
def waE (n : Nat) (i : Int) : Env := [(0, .slice 0 0 n false), (3, .ptr 1 0), (4, .ptr 2 0), (6, .n i)]
/-- the memory of a round: pointers to the hashes, what came, the hashes, their rests, the bytes that came -/
def waMr (B0 : Blk) (hp cs : V3 AV) (hb rb cb : V3 Blk) (tl : Mem) : Mem := B0 :: ⟨.cells [hp.a, hp.b, hp.c], true⟩ :: ⟨.cells [cs.a, cs.b, cs.c], true⟩ :: hb.a :: hb.b :: hb.c :: rb.a :: rb.b :: rb.c :: cb.a :: cb.b :: cb.c :: tl
def hp0 : V3 AV := ⟨.ptr 3 0, .ptr 4 0, .ptr 5 0⟩
def cs0 (v : V3 HA) : V3 AV := ⟨.slice 9 0 v.a.c.length false, .slice 10 0 v.b.c.length false, .slice 11 0 v.c.c.length false⟩
def hB (r : Nat) (s : HS) : Blk := ⟨.cells (hshC s.w (.slice r 0 s.rest.length true) s.size), true⟩
def hb0 (v : V3 HA) : V3 Blk := ⟨hB 6 v.a.s, hB 7 v.b.s, hB 8 v.c.s⟩
def rb0 (v : V3 HA) : V3 Blk := ⟨⟨.bytes v.a.s.rest, true⟩, ⟨.bytes v.b.s.rest, true⟩, ⟨.bytes v.c.s.rest, true⟩⟩
def cb0 (v : V3 HA) : V3 Blk := ⟨⟨.bytes v.a.c, false⟩, ⟨.bytes v.b.c, false⟩, ⟨.bytes v.c.c, false⟩⟩
def waM (v : V3 HA) : Mem := waMr Pw.dead hp0 (cs0 v) (hb0 v) (rb0 v) (cb0 v) []
def waM1 (p : Nat) (q : ActR) (v : V3 HA) : Mem := waMr ⟨.win p (actC q 12), false⟩ hp0 (cs0 v) (hb0 v) (rb0 v) (cb0 v) [⟨.bytes q.data, false⟩]
end Go.Proofs.Ytmhbhpmfbalbeaa

