/- WideAll: the loop over the acts. -/
import Derived.Test.YtmhbhpmfbalbeaaJe
namespace Go.Proofs.Ytmhbhpmfbalbeaa
open Go Pw Go.RowKit
structure S_wa where
  n : Nat
  i : Int
  v : V3 HA
def waRet0 (n : Nat) (i : Int) (B : Blk) (u v w : HS) : Prop := Retells 1 [(0, .slice 0 0 n false), (3, .ptr 4 0), (4, .ptr 5 0), (6, .n i)]
  [B, ⟨.cells (hshC u.w .nils u.size), true⟩, ⟨.cells (hshC v.w .nils v.size), true⟩, ⟨.cells (hshC w.w .nils w.size), true⟩, ⟨.cells [.ptr 1 0, .ptr 2 0, .ptr 3 0], true⟩, ⟨.cells [.nils, .nils, .nils], true⟩]
  (waE n i) (waM ⟨⟨⟨u.w, u.size, []⟩, []⟩, ⟨⟨v.w, v.size, []⟩, []⟩, ⟨⟨w.w, w.size, []⟩, []⟩⟩)
theorem wa_ret0 (n : Nat) (i : Int) (B : Blk) (u v w : HS) : waRet0 n i B u v w :=
  RetOK.tells (G := [some 0, some 4, some 5, some 1, some 2, some 3, none, none, none, none, none, none]) (.of [false, true, true, true, true, true, true, true, true, false, false, false] rfl
    (.some rfl (.dead _) (.some rfl (.cells true true id (.cons (.ptr 1 3 0 rfl) (.cons (.ptr 2 4 0 rfl) (.cons (.ptr 3 5 0 rfl) .nil)))) (.some rfl (.cells true true id (.cons (.nil0 9 0 false) (.cons (.nil0 10 0 false) (.cons (.nil0 11 0 false) .nil))))
      (.some rfl (.cells true true id (VToL.hsh (.nil0 6 0 true))) (.some rfl (.cells true true id (VToL.hsh (.nil0 7 0 true))) (.some rfl (.cells true true id (VToL.hsh (.nil0 8 0 true)))
        (.none _ (.none _ (.none _ (.none _ (.none _ (.none _ .nil)))))))))))) (by decide +kernel) (by decide))
    (.cons (.sl 0 0 0 n false rfl) (.cons (.ptr 4 1 0 rfl) (.cons (.ptr 5 2 0 rfl) (.cons (.cl _ rfl) .nil))))
def hs? : List AV → Option HS
  | [.u .u64 a, .u .u64 b, .u .u64 c, .u .u64 d, .u .u64 e, .u .u64 f, .u .u64 g, .u .u64 h, .nils, .u .u64 size] => some ⟨[a, b, c, d, e, f, g, h], size, []⟩
  | _ => none
theorem hs?_some {l : List AV} {s : HS} (h : hs? l = some s) : l = hshC s.w .nils s.size ∧ s.rest = [] := by
  unfold hs? at h
  split at h
  · cases h; exact ⟨rfl, rfl⟩
  · cases h
def d_wa : LoopDefR S_wa 1 where
  ts := [0, 3, 4, 6]
  E := fun s => waE s.n s.i
  M := fun s => waM s.v
  dec := fun vs mem => match vs, mem with
    | [.slice 0 0 n false, .ptr 4 0, .ptr 5 0, .n i], [_, ⟨.cells c1, true⟩, ⟨.cells c2, true⟩, ⟨.cells c3, true⟩, ⟨.cells [.ptr 1 0, .ptr 2 0, .ptr 3 0], true⟩, ⟨.cells [.nils, .nils, .nils], true⟩] => (match hs? c1, hs? c2, hs? c3 with
      | some u, some v, some w => some ⟨n, i, ⟨⟨u, []⟩, ⟨v, []⟩, ⟨w, []⟩⟩⟩
      | _, _, _ => none)
    | _, _ => none
  ok := by
    intro vs mem s h
    split at h
    · rename_i n i B c1 c2 c3
      split at h
      · rename_i u v w h1 h2 h3
        cases h
        obtain ⟨e1, r1⟩ := hs?_some h1
        obtain ⟨e2, r2⟩ := hs?_some h2
        obtain ⟨e3, r3⟩ := hs?_some h3
        have := wa_ret0 n i B u v w
        rw [e1, e2, e3]
        obtain ⟨uw, us, ur⟩ := u
        obtain ⟨vw, vs, vr⟩ := v
        obtain ⟨ww, ws, wr⟩ := w
        subst r1 r2 r3
        exact this
      · cases h
    · cases h
noncomputable def isP (p : Prop) : Bool := @decide p (Classical.propDecidable p)
theorem isP_true {p : Prop} (h : p) : isP p = true := @decide_eq_true p (Classical.propDecidable p) h
theorem of_isP {p : Prop} (h : isP p = true) : p := @of_decide_eq_true p (Classical.propDecidable p) h
def V0 : V3 HA := ⟨⟨hs0, []⟩, ⟨hs0, []⟩, ⟨hs0, []⟩⟩
theorem V0_inv : WAI 0 V0 where
  h j := by cases j <;> exact HSI.zero concS
  l j := by cases j <;> exact Nat.le_refl _
  b j := by cases j <;> (intro x hx; cases hx)
def totA (qs : List ActR) : Nat := (qs.map fun q => q.data.length).sum
noncomputable def waAll (o : SOps) (t : Int → N3) (qs : List ActR) : V3 HA := qs.foldl (waSt o t) V0
theorem wa_inv (t : Int → N3) : ∀ (qs : List ActR) (v : V3 HA) (T : Nat), (∀ q ∈ qs, q.ok) → WAI T v → T + totA qs + 512 ≤ maxRoom → WAI (T + totA qs) (qs.foldl (waSt concS t) v)
  | [], v, T, _, h, _ => h
  | q :: qs, v, T, hq, h, hl => by
    have e : totA (q :: qs) = q.data.length + totA qs := by unfold totA; rw [List.map_cons, List.sum_cons]
    rw [e] at hl ⊢
    have h1 := h.step (hq q (by simp)) t (by omega)
    have h2 := wa_inv t qs _ _ (fun x hx => hq x (by simp [hx])) h1 (by omega)
    rw [← Nat.add_assoc]
    exact h2
theorem waAll_inv (t : Int → N3) {qs : List ActR} (hq : ∀ q ∈ qs, q.ok) (hl : totA qs + 512 ≤ maxRoom) : WAI (totA qs) (waAll concS t qs) := by
  have := wa_inv t qs V0 0 hq V0_inv (by omega)
  rwa [Nat.zero_add] at this
theorem totA_take (qs : List ActR) (j : Nat) : totA (qs.take j) ≤ totA qs := by
  have e := congrArg (fun l : List ActR => totA l) (List.take_append_drop j qs)
  unfold totA at e ⊢
  rw [List.map_append, List.sum_append] at e
  omega
theorem totA_succ {qs : List ActR} {j : Nat} {q : ActR} (h : qs[j]? = some q) : totA (qs.take (j + 1)) = totA (qs.take j) + q.data.length := by
  unfold totA
  rw [List.take_add_one, h, List.map_append, List.sum_append]
  simp
noncomputable def waGd (qs : List ActR) (s : S_wa) : Bool := isP (s.n = qs.length ∧ s.i = 0 ∧ s.v = V0)
noncomputable def waFin (o : SOps) (t : Int → N3) (qs : List ActR) (s : S_wa) : S_wa := ⟨s.n, (s.n : Int), waAll o t qs⟩
noncomputable def gWa (o : SOps) (t : Int → N3) (qs : List ActR) : LoopFn := d_wa.fn (waGd qs) (.exit 2) (waFin o t qs)
def actL (q : ActR) : List LA := [.v (.n q.kind), .v (.n q.on), .v (.n q.other), .l q.data]
abbrev waΦ (qs : List ActR) : Fact 1 := factR 1 0 4 (by decide) (qs.map actL)
noncomputable def waAtS (qs : List ActR) (n j : Nat) : S_wa := ⟨n, (j : Int), waAll concS atN3 (qs.take j)⟩
theorem waAtS_E (qs : List ActR) (n j : Nat) : d_wa.E (waAtS qs n j) = waE n (j : Int) := rfl
theorem waAtS_M (qs : List ActR) (n j : Nat) {z : V3 HA} (h : waAll concS atN3 (qs.take j) = z) : d_wa.M (waAtS qs n j) = waM z := by subst h; rfl
theorem actL_args (q : ActR) (n : Nat) : laArgs (actL q) n = actC q n := by kernel_rfl
theorem gWa_at {qs : List ActR} (hq : ∀ q ∈ qs, q.ok) (hl : totA qs + 512 ≤ maxRoom) (hn : qs.length < 9223372036854775807) : LoopAtP Try.prog (waΦ qs) waF.ntmps waB (gWa concS atN3 qs) := by
  refine d_wa.loop (keep := [0,2,3,4,5,6,7,8,9,10,11,12,13,19,27,28,29,30,31,32,33,37,51,52,69,82,92,93,104,105,113,120,129,139,141,154,155,156,157,158,159,160,161,162,163,164]) X_wa_ok LoopsOK.nil (by simp) fun s hg => ?_
  unfold waGd at hg
  obtain ⟨h1, h2, h4⟩ := of_isP hg
  refine ⟨qs.length, waAtS qs s.n, ?_, fun j hj => ?_, ?_⟩
  · obtain ⟨n, i, v⟩ := s
    subst h2
    subst h4
    rfl
  · obtain ⟨q, hqj⟩ : ∃ q, qs[j]? = some q := ⟨qs[j], List.getElem?_eq_getElem hj⟩
    have hrec : (qs.map actL)[j]? = some (actL q) := by rw [List.getElem?_map, hqj]; rfl
    have ht := totA_take qs (j + 1)
    rw [totA_succ hqj] at ht
    have hz := waAll_inv atN3 (qs := qs.take j) (fun x hx => hq x (List.mem_of_mem_take hx)) (by omega)
    have hnext : waAll concS atN3 (qs.take (j + 1)) = waSt concS atN3 (waAll concS atN3 (qs.take j)) q := by
      unfold waAll
      rw [List.take_add_one, hqj]
      show List.foldl _ _ (qs.take j ++ [q]) = _
      rw [List.foldl_append]
      rfl
    generalize hs : waAll concS atN3 (qs.take j) = z at hz hnext
    have hi : w64 ((j : Int) + 1) = ((j + 1 : Nat) : Int) := by
      rw [w64_id (by omega) (by omega)]; omega
    obtain ⟨M2, e1, e2⟩ := wa_round atN3 s.n (j * 4) (j : Int) (q := q) hz (by omega) (by omega) (by omega) (by
      rw [show 0 + (j : Int).toNat * 4 = j * 4 by omega]
      exact Nat.beq_refl _)
    rw [hi] at e1 e2
    refine ⟨waM1 (j * 4) q z, waE s.n ((j + 1 : Nat) : Int), M2, 100, ?_, ?_, ?_⟩
    · rw [waAtS_E, waAtS_M qs s.n j hs]
      have := tells_rec (n := 1) (k := 0) (sz := 4) (hk := by decide) (nt := waF.ntmps) (env := waE s.n (j : Int)) (mem := waM z) hrec (show 0 < 12 by decide)
      rw [actL_args] at this
      exact this
    · rw [waAtS_E]
      exact e1
    · rw [waAtS_E, waAtS_M qs s.n (j + 1) hnext]
      exact e2
  · generalize hs : waAll concS atN3 (qs.take qs.length) = z
    have hf : d_wa.M (waFin concS atN3 qs s) = waM z := by
      rw [List.take_length] at hs
      subst hs; rfl
    have hE : d_wa.E (waFin concS atN3 qs s) = waE s.n (qs.length : Int) := by
      rw [← h1]; rfl
    refine ⟨waE s.n (qs.length : Int), waM z, 100, ?_, ?_⟩
    · rw [waAtS_E, waAtS_M qs s.n qs.length hs]
      exact wa_last concS atN3 s.n (qs.length : Int) _ (by omega)
    · rw [hf, hE]
      exact Retells.refl _ _ _
end Go.Proofs.Ytmhbhpmfbalbeaa

