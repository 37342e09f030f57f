/- Layer 20: known answers, walked. Printed by wip/tools/gensc.py. -/
import Derived.Test.YtnnjaijokiknkaaSb
namespace Go.Proofs.Ytnnjaijokiknkaa
open Go Pw Go.RowKit
def digS (c : Nat) : Nat := bif decide (97 ≤ c) then ((c + (2 ^ 8 - 97)) % 2 ^ 8 + 10) % 2 ^ 8 else (c + (2 ^ 8 - 48)) % 2 ^ 8
theorem digit20_run (g : GOps) (c : Nat) : runNL (X_lend g) [] [0,2,4] 200 Try.f142 (bodyOf Try.f142) (laArgs [.v (.u .u8 c)] 0) (laLists [.v (.u .u8 c)]) = bif decide (97 ≤ c) then some (.u .u8 (((c + (2 ^ 8 - 97)) % 2 ^ 8 + 10) % 2 ^ 8), none) else some (.u .u8 ((c + (2 ^ 8 - 48)) % 2 ^ 8), none) := by
  kernel_rfl
def g_digit20 (_ : GOps) (args : List LA) : Option (AV × Option Blk) := match args with
  | [.v x0] => (match u8? x0 with
    | some c => some (.u .u8 (digS c), none)
    | _ => none)
  | _ => none
theorem digit20_at : QuietAt Try.prog 142 (lav (g_digit20 concGO)) := by
  refine quietAt_of_runA X_lend_ok (L := []) (keep := [0,2,4]) Try.func142 (c := bodyOf Try.f142) (by kernel_rfl) (by kernel_rfl) (LoopsOK.nil) fun args v h hw => ⟨200, ?_⟩
  unfold g_digit20 at h
  split at h
  · rename_i x0
    split at h
    · rename_i c hh0
      have ehh0 := u8?_some hh0
      subst ehh0
      rw [← h]
      refine (digit20_run concGO c).trans ?_
      unfold digS
      cases decide (97 ≤ c) <;> rfl
    · cases h
  · cases h
noncomputable def X_digit20 (g : GOps) : Cx := { X_lend g with O := addQ (X_lend g).O 142 (lav (g_digit20 g)) }
theorem X_digit20_ok : CxOK Try.prog (X_digit20 concGO) := { X_lend_ok with quiet := addQ_ok X_lend_ok.quiet digit20_at }
def hxA1 : List UInt8 := [57, 100, 54, 49, 98, 49, 57, 100, 101, 102, 102, 100, 53, 97, 54, 48, 98, 97, 56, 52, 52, 97, 102, 52, 57, 50, 101, 99, 50, 99, 99, 52, 52, 52, 52, 57, 99, 53, 54, 57, 55, 98, 51, 50, 54, 57, 49, 57, 55, 48, 51, 98, 97, 99, 48, 51, 49, 99, 97, 101, 55, 102, 54, 48]
def hxL1 : List Nat := [157, 97, 177, 157, 239, 253, 90, 96, 186, 132, 74, 244, 146, 236, 44, 196, 68, 73, 197, 105, 123, 50, 105, 25, 112, 59, 172, 3, 28, 174, 127, 96]
def hxS1 : ByteArray := ⟨hxA1.toArray⟩
theorem hex1_run (g : GOps) : runNL (X_digit20 g) [] [0,2,3,4,9] 400 Try.f80 (bodyOf Try.f80) (laArgs [.v (.str hxS1)] 0) (laLists [.v (.str hxS1)]) = some (.slice 0 0 32 true, some ⟨.bytes hxL1, true⟩) := by kernel_rfl
def hxA2 : List UInt8 := [100, 55, 53, 97, 57, 56, 48, 49, 56, 50, 98, 49, 48, 97, 98, 55, 100, 53, 52, 98, 102, 101, 100, 51, 99, 57, 54, 52, 48, 55, 51, 97, 48, 101, 101, 49, 55, 50, 102, 51, 100, 97, 97, 54, 50, 51, 50, 53, 97, 102, 48, 50, 49, 97, 54, 56, 102, 55, 48, 55, 53, 49, 49, 97]
def hxL2 : List Nat := [215, 90, 152, 1, 130, 177, 10, 183, 213, 75, 254, 211, 201, 100, 7, 58, 14, 225, 114, 243, 218, 166, 35, 37, 175, 2, 26, 104, 247, 7, 81, 26]
def hxS2 : ByteArray := ⟨hxA2.toArray⟩
theorem hex2_run (g : GOps) : runNL (X_digit20 g) [] [0,2,3,4,9] 400 Try.f80 (bodyOf Try.f80) (laArgs [.v (.str hxS2)] 0) (laLists [.v (.str hxS2)]) = some (.slice 0 0 32 true, some ⟨.bytes hxL2, true⟩) := by kernel_rfl
def hxA3 : List UInt8 := [101, 53, 53, 54, 52, 51, 48, 48, 99, 51, 54, 48, 97, 99, 55, 50, 57, 48, 56, 54, 101, 50, 99, 99, 56, 48, 54, 101, 56, 50, 56, 97, 56, 52, 56, 55, 55, 102, 49, 101, 98, 56, 101, 53, 100, 57, 55, 52, 100, 56, 55, 51, 101, 48, 54, 53, 50, 50, 52, 57, 48, 49, 53, 53, 53, 102, 98, 56, 56, 50, 49, 53, 57, 48, 97, 51, 51, 98, 97, 99, 99, 54, 49, 101, 51, 57, 55, 48, 49, 99, 102, 57, 98, 52, 54, 98, 100, 50, 53, 98, 102, 53, 102, 48, 53, 57, 53, 98, 98, 101, 50, 52, 54, 53, 53, 49, 52, 49, 52, 51, 56, 101, 55, 97, 49, 48, 48, 98]
def hxL3 : List Nat := [229, 86, 67, 0, 195, 96, 172, 114, 144, 134, 226, 204, 128, 110, 130, 138, 132, 135, 127, 30, 184, 229, 217, 116, 216, 115, 224, 101, 34, 73, 1, 85, 95, 184, 130, 21, 144, 163, 59, 172, 198, 30, 57, 112, 28, 249, 180, 107, 210, 91, 245, 240, 89, 91, 190, 36, 101, 81, 65, 67, 142, 122, 16, 11]
def hxS3 : ByteArray := ⟨hxA3.toArray⟩
theorem hex3_run (g : GOps) : runNL (X_digit20 g) [] [0,2,3,4,9] 400 Try.f80 (bodyOf Try.f80) (laArgs [.v (.str hxS3)] 0) (laLists [.v (.str hxS3)]) = some (.slice 0 0 64 true, some ⟨.bytes hxL3, true⟩) := by kernel_rfl
def g_hex (args : List LA) : Option (AV × Option Blk) := match args with
  | [.v (.str s)] => bif s.data.toList == hxA1 then some (.slice 0 0 32 true, some ⟨.bytes hxL1, true⟩) else bif s.data.toList == hxA2 then some (.slice 0 0 32 true, some ⟨.bytes hxL2, true⟩) else bif s.data.toList == hxA3 then some (.slice 0 0 64 true, some ⟨.bytes hxL3, true⟩) else none
  | _ => none
theorem hx_of {s : ByteArray} {l : List UInt8} (h : (s.data.toList == l) = true) : s = ⟨l.toArray⟩ := by
  have := eq_of_beq h
  cases s
  subst this
  simp
theorem hex_at : QuietAt Try.prog 80 (lav g_hex) := by
  refine quietAt_of_runA X_digit20_ok (L := []) (keep := [0,2,3,4,9]) Try.func80 (c := bodyOf Try.f80) (by kernel_rfl) (by kernel_rfl) LoopsOK.nil fun args v h hw => ⟨400, ?_⟩
  unfold g_hex at h
  split at h
  · rename_i s
    rw [← h]
    cases h1 : s.data.toList == hxA1
    · rw [cond_false]
      cases h2 : s.data.toList == hxA2
      · rw [cond_false]
        cases h3 : s.data.toList == hxA3
        · rw [h1, h2, h3] at h; cases h
        · have := hx_of h3
          subst this
          exact hex3_run concGO
      · have := hx_of h2
        subst this
        exact hex2_run concGO
    · have := hx_of h1
      subst this
      exact hex1_run concGO
  · cases h
noncomputable def X_hex (g : GOps) : Cx := { X_digit20 g with O := addQ (X_digit20 g).O 80 (lav g_hex) }
theorem X_hex_ok : CxOK Try.prog (X_hex concGO) := { X_digit20_ok with quiet := addQ_ok X_digit20_ok.quiet hex_at }
end Go.Proofs.Ytnnjaijokiknkaa


