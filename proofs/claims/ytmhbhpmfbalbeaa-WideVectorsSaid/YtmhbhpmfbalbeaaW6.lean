/- The law WideVectors: known answers: it answers true. No conditions. -/
import Derived.Test.YtmhbhpmfbalbeaaFt
import Derived.Test.YtmhbhpmfbalbeaaWt
namespace Go.Proofs.Ytmhbhpmfbalbeaa
open Go Pw Go.RowKit
def vE : List Nat := [0xcf, 0x83, 0xe1, 0x35, 0x7e, 0xef, 0xb8, 0xbd, 0xf1, 0x54, 0x28, 0x50, 0xd6, 0x6d, 0x80, 0x07, 0xd6, 0x20, 0xe4, 0x05, 0x0b, 0x57, 0x15, 0xdc, 0x83, 0xf4, 0xa9, 0x21, 0xd3, 0x6c, 0xe9, 0xce, 0x47, 0xd0, 0xd1, 0x3c, 0x5d, 0x85, 0xf2, 0xb0, 0xff, 0x83, 0x18, 0xd2, 0x87, 0x7e, 0xec, 0x2f, 0x63, 0xb9, 0x31, 0xbd, 0x47, 0x41, 0x7a, 0x81, 0xa5, 0x38, 0x32, 0x7a, 0xf9, 0x27, 0xda, 0x3e]
def vA : List Nat := [0xdd, 0xaf, 0x35, 0xa1, 0x93, 0x61, 0x7a, 0xba, 0xcc, 0x41, 0x73, 0x49, 0xae, 0x20, 0x41, 0x31, 0x12, 0xe6, 0xfa, 0x4e, 0x89, 0xa9, 0x7e, 0xa2, 0x0a, 0x9e, 0xee, 0xe6, 0x4b, 0x55, 0xd3, 0x9a, 0x21, 0x92, 0x99, 0x2a, 0x27, 0x4f, 0xc1, 0xa8, 0x36, 0xba, 0x3c, 0x23, 0xa3, 0xfe, 0xeb, 0xbd, 0x45, 0x4d, 0x44, 0x23, 0x64, 0x3c, 0xe8, 0x0e, 0x2a, 0x9a, 0xc9, 0x4f, 0xa5, 0x4c, 0xa4, 0x9f]
theorem hE : hashV concS [] = vE := by decide +kernel
theorem hA : hashV concS [97, 98, 99] = vA := by decide +kernel
def hexD (n : Nat) : UInt8 := UInt8.ofNat (if n < 10 then 48 + n else 87 + n)
/-- bytes as hexadecimal digits -/
def hexS (l : List Nat) : ByteArray := ⟨⟨l.flatMap fun n => [hexD (n / 16), hexD (n % 16)]⟩⟩
def isV (t : List Nat) : Bool := decide (t = vE) || decide (t = vA)
theorem digE_run (o : SOps) : runNL (X_hashP o) [] [0,1,2,3,4,6] 4000 Try.f32 (bodyOf Try.f32) (laArgs [.v (b64V vE)] 0) (laLists [.v (b64V vE)]) = some (.str (hexS vE), none) := by kernel_rfl
theorem digA_run (o : SOps) : runNL (X_hashP o) [] [0,1,2,3,4,6] 4000 Try.f32 (bodyOf Try.f32) (laArgs [.v (b64V vA)] 0) (laLists [.v (b64V vA)]) = some (.str (hexS vA), none) := by kernel_rfl
theorem b64V_resp (t : List Nat) : b64V (resp 64 t) = b64V t := by kernel_rfl
theorem dig_eq (o : SOps) {t : List Nat} (h : isV (resp 64 t) = true) : runNL (X_hashP o) [] [0,1,2,3,4,6] 4000 Try.f32 (bodyOf Try.f32) (laArgs [.v (b64V t)] 0) (laLists [.v (b64V t)]) = some (.str (hexS (resp 64 t)), none) := by
  unfold isV at h
  simp only [Bool.or_eq_true, decide_eq_true_eq] at h
  rw [← b64V_resp]
  rcases h with h | h
  · rw [h]; exact digE_run o
  · rw [h]; exact digA_run o
def u_dig (_ : SOps) (args : List LA) : Option (AV × Option Blk) := match args with
  | [.v x0] => (match b64? x0 with
    | some t => some (.str (hexS (resp 64 t)), none)
    | _ => none)
  | _ => none
def c_dig (args : List LA) : Bool := match args with
  | [.v x0] => (match b64? x0 with
    | some t => isV (resp 64 t)
    | _ => false)
  | _ => false
def g_dig (o : SOps) (args : List LA) : Option (AV × Option Blk) := bif c_dig args then u_dig o args else none
theorem dig_at : QuietAt Try.prog 32 (lav (g_dig concS)) := by
  refine quietAt_of_runA X_hashP_ok (L := []) (keep := [0,1,2,3,4,6]) Try.func32 (c := bodyOf Try.f32) (by kernel_rfl) (by kernel_rfl) (LoopsOK.nil) fun args v h hw => ⟨4000, ?_⟩
  unfold g_dig at h
  have hg := (bif_some h).1
  replace h := (bif_some h).2
  unfold u_dig at h
  split at h
  · rename_i x0
    split at h
    · rename_i t hh0
      have ehh0 := b64?_some hh0
      subst ehh0
      replace hg : (isV (resp 64 t)) = true := hg
      rw [← h]
      exact dig_eq concS hg
    · cases h
  · cases h
noncomputable def X_dig (o : SOps) : Cx := { X_hashP o with O := addQ (X_hashP o).O 32 (lavG c_dig (u_dig o)) }
theorem X_dig_ok : CxOK Try.prog (X_dig concS) := { X_hashP_ok with quiet := addQ_ok X_hashP_ok.quiet (lavG_at dig_at) }
def abcL : List Nat := List.take 3 (List.drop 0 [97, 98, 99])
def strE : ByteArray := hexS vE
def strA : ByteArray := hexS vA
noncomputable def brw {α : Type} (c : Bool) (t f : α) : α := @Bool.rec (fun _ => α) f t c
noncomputable def wvT (o : SOps) : Option (AV × Option Blk) :=
  gds [isV (resp 64 (hashV o []))] (brw ((hexS (resp 64 (hashV o []))).toList == strE.toList)
    (gds [isV (resp 64 (hashV o abcL))] (some (.bool ((hexS (resp 64 (hashV o abcL))).toList == strA.toList), none))) (some (.bool false, none)))
theorem lawWV_run (o : SOps) : runNL (X_dig o) [] [0,5,6,7,8,9] 900 Try.f9 (bodyOf Try.f9) (laArgs [] 0) (laLists []) = wvT o := by kernel_rfl
theorem abcL_eq : abcL = [97, 98, 99] := rfl
theorem vE_ok : isV (resp 64 vE) = true := by decide +kernel
theorem vA_ok : isV (resp 64 vA) = true := by decide +kernel
theorem vE_resp : resp 64 vE = vE := by decide +kernel
theorem vA_resp : resp 64 vA = vA := by decide +kernel
theorem wv_true : wvT concS = some (.bool true, none) := by
  unfold wvT
  rw [abcL_eq, hE, hA, vE_ok, vA_ok, vE_resp, vA_resp]
  unfold strE strA
  rw [beq_self_eq_true, beq_self_eq_true]
  rfl
noncomputable abbrev XV6 : Cx := X_dig concS
theorem XV6_ok : CxOK Try.prog XV6 := X_dig_ok
set_option maxRecDepth 100000 in
theorem wideVectors_lifted (os : Os) (started : os.Started) (H : Type) (enc : TypeId × Value → H) :
    ReturnsInHanded {} Try.checked os 9 .any (Rows.wideVectorsSpec.pre6 enc Try.prog Try.f9 Rows.wideVectorsRow.domain false) (Rows.wideVectorsSpec.post enc Try.prog Try.f9 false true false false) := by
  refine law_lifted (C := Try.checked) (tb := 4) (by kernel_rfl) started (by kernel_rfl) Try.func9
    (ChangeSpec.witness6 (enc := enc) (C := Try.checked) false ⟨#[], #[], []⟩ 8 (by kernel_rfl) (by kernel_rfl) (by kernel_rfl) (by kernel_rfl)) rfl ?_ (by kernel_rfl) (by kernel_rfl) (by kernel_rfl) (by kernel_rfl) ?_
  · intro ds h
    match ds, h with | [], _ => rfl
  · intro W base args ds p hval hsz hA hlt hw
    obtain ⟨args⟩ := args
    match args, hsz, hval with
    | [], hsz, hval =>
      exact law_runN XV6_ok Try.func9 (by kernel_rfl) LoopsOK.nil ((lawWV_run concS).trans wv_true) (NSt.empty W) .nil
theorem wideVectors_facts : joinedFacts Try.pinned.checked.prog 9 Try.f9 Rows.wideVectorsSpec Rows.wideVectorsRow = true := by
  show joinedFacts Try.prog 9 Try.f9 Rows.wideVectorsSpec Rows.wideVectorsRow = true
  unfold joinedFacts
  rw [liftsF, heardF, enterF, makeF]
  kernel_rfl
theorem wideVectors_holds : Rows.WideVectorsSaid :=
  OpenClaim.holds_of_wide 9 Try.f9 rfl rfl rfl rfl rfl rfl rfl ⟨rfl, rfl, rfl, rfl, rfl⟩ rfl rfl rfl rfl rfl (by kernel_rfl) Try.func9 wideVectors_facts
    (of_decide_eq_true (by kernel_rfl)) (by unfold Func.isWrapper; first | (rw [if_pos (by decide +kernel)]; kernel_rfl) | (rw [if_neg (by decide +kernel)]; exact ⟨rfl, rfl⟩))
    (fun os started H enc _ => wideVectors_lifted os started H enc)
#print axioms wideVectors_holds
end Go.Proofs.Ytmhbhpmfbalbeaa

