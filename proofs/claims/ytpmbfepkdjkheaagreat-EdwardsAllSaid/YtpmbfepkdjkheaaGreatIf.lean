/- EdwardsAll: points as a call that is told by the world before and after. -/
import Derived.Test.YtpmbfepkdjkheaaGreatIe
namespace Go.Proofs.YtpmbfepkdjkheaaGreat
open Go Pw Go.RowKit
def ope? : AV → Option (OpE × Nat)
  | .agg (.n kd :: .n to :: .n a :: .n b :: rest) => (match key? (.agg (rest.take 32)), rest.drop 32 with
    | some k, [.slice 1 0 len false, .bool f, .n o] => some (⟨kd, to, a, b, k, [], f, o⟩, len)
    | _, _ => none)
  | _ => none
theorem ope?_some {v : AV} {q : OpE} {len : Nat} (h : ope? v = some (q, len)) (l : List Nat) : v = .agg (opC { q with data := l } 1 len) := by
  unfold ope? at h
  split at h
  · rename_i kd to a b rest
    split at h
    · rename_i k len f o hk hd
      cases h
      have hk := key?_some hk
      rw [keyV_eq] at hk
      have e : rest = rest.take 32 ++ rest.drop 32 := (List.take_append_drop 32 rest).symm
      rw [hd, AV.agg.inj hk] at e
      rw [e]; rfl
    · cases h
  · cases h
theorem cut4 (l : List AV) (n m k : Nat) (n' m' : Nat) (h : n + n' = m) (h' : m + m' = k) : l = l.take n ++ ((l.drop n).take n' ++ ((l.drop m).take m' ++ l.drop k)) := by
  subst h'
  subst h
  have e1 := List.take_append_drop n l
  have e2 := List.take_append_drop n' (l.drop n)
  have e3 := List.take_append_drop m' (l.drop (n + n'))
  rw [List.drop_drop] at e2 e3
  rw [e3, e2, e1]
def v4? {α : Type} (f : AV → Option α) (n m k : Nat) (l : List AV) : Option (V4 α) := match f (.agg (l.take n)), f (.agg ((l.drop n).take n)), f (.agg ((l.drop m).take n)), f (.agg (l.drop k)) with
  | some a, some b, some c, some d => some ⟨a, b, c, d⟩
  | _, _, _, _ => none
theorem v4?_some {α : Type} {f : AV → Option α} {g : α → AV} (hf : ∀ {v : AV} {x : α}, f v = some x → v = g x) {n m k : Nat} (h1 : n + n = m) (h2 : m + n = k) {l : List AV} {v : V4 α} (h : v4? f n m k l = some v) : l = v4C g v := by
  unfold v4? at h
  split at h
  · rename_i a b c d q1 q2 q3 q4
    cases h
    have e := cut4 l n m k n n h1 h2
    have k1 : l.take n = (g a).cells := congrArg AV.cells (hf q1)
    have k2 : (l.drop n).take n = (g b).cells := congrArg AV.cells (hf q2)
    have k3 : (l.drop m).take n = (g c).cells := congrArg AV.cells (hf q3)
    have k4 : l.drop k = (g d).cells := congrArg AV.cells (hf q4)
    rw [k1, k2, k3, k4] at e
    exact e
  · cases h
def wC? (l : List AV) : Option WE := match v4? rungs? 20 40 60 (l.take 80), v4? pt3? 12 24 36 ((l.drop 80).take 48), v4? key? 32 64 96 ((l.drop 128).take 128), v4? d16? 16 32 48 (l.drop 256) with
  | some p, some q, some s, some t => some ⟨p, q, s, t⟩
  | _, _, _, _ => none
theorem wC?_some {l : List AV} {w : WE} (h : wC? l = some w) : l = wC w := by
  unfold wC? at h
  split at h
  · rename_i p q s t h1 h2 h3 h4
    cases h
    have e := cut4 l 80 128 256 48 128 rfl rfl
    rw [v4?_some rungs?_some rfl rfl h1, v4?_some pt3?_some rfl rfl h2, v4?_some key?_some rfl rfl h3, v4?_some d16?_some rfl rfl h4] at e
    exact e
  · cases h
noncomputable def gPts (F : OpE → WE → EW) : List AV → Mem → Option (Bool × AV × Mem)
  | [.ptr 0 0, x], [⟨.cells cs, true⟩, ⟨.bytes l, false⟩] => (match ope? x, wC? cs with
    | some (q, len), some w => some (decide (len = l.length ∧ l.length ≤ 140737488351232), .tup [.bool (F { q with data := l } w).is, .bool (F { q with data := l } w).right], epM (F { q with data := l } w).w l)
    | _, _ => none)
  | _, _ => none
noncomputable def epF0 (A : AOps) (t : Int → N4) (q : OpE) (w : WE) : EW := epV A q (t q.to) (t q.a) (t q.b) w
theorem pts_at : LoudAt Tryz.prog 10 (told (gPts (epF0 concA atN))) := by
  refine told_atP X_at_ok (keep := [0,1,3,4,5,6,7,8,9,10,11,12,13,14,15,16,17,18,19,20,43,44,63,86,114,142,158,174,203,231]) Tryz.func10 (c := epB) (by kernel_rfl) (by kernel_rfl) LoopsOK.nil fun ar mem cd v m h hc hw => ?_
  unfold gPts at h
  split at h
  · rename_i x cs l
    split at h
    · rename_i q len w hx hcs
      cases h
      obtain ⟨rfl, h2⟩ := of_decide_eq_true hc
      obtain ⟨m1, e1, k, e2⟩ := ep_run concA atN w { q with data := l } h2
      rw [ope?_some hx l, wC?_some hcs]
      exact ⟨300, _, _, m1, k, .refl _, .refl _, e1, e2⟩
    · cases h
  · cases h
def selP : List AV → Mem → Option (List (Option Nat) × Nat × Nat)
  | [.ptr hid 0, .agg cs], _ => (match nth cs 36 with
    | some (.slice id _ _ _) => some ([some hid, some id], 1, 1)
    | _ => none)
  | _, _ => none
noncomputable def X_pts (A : AOps) (t : Int → N4) (F : OpE → WE → EW) : Cx := { X_at A t with M := addM (X_at A t).M 10 (frame selP (told (gPts F))) }
theorem X_pts_ok : CxOK Tryz.prog (X_pts concA atN (epF0 concA atN)) := { X_at_ok with loud := addM_ok X_at_ok.loud (frame_at pts_at) }
end Go.Proofs.YtpmbfepkdjkheaaGreat

