/- The table of types that the evaluator looks into, checked against the loaded program. -/
import Derived.Test.YtmhbhpmfbalbeaaProg
import Derived.Test.YtmhbhpmfbalbeaaPwMg
namespace Go.Proofs.Ytmhbhpmfbalbeaa
open Go Pw

def T : List (Nat × TE) := [
  (3, ⟨(.int .i64), 1, 8, some [(.n 0)], none⟩),
  (4, ⟨.bool, 1, 1, some [(.bool false)], none⟩),
  (5, ⟨(.int .u8), 1, 1, some [(.u .u8 0)], some .u8⟩),
  (9, ⟨.str, 1, 16, some [(.str ByteArray.empty)], none⟩),
  (22, ⟨(.int .u64), 1, 8, some [(.u .u64 0)], some .u64⟩),
  (23, ⟨(.slice 5), 1, 24, some [.nils], none⟩),
  (28, ⟨(.int .u64), 1, 8, some [(.u .u64 0)], some .u64⟩),
  (29, ⟨(.arr 8 22), 8, 64, some (List.replicate 8 (.u .u64 0)), some .u64⟩),
  (30, ⟨(.arr 128 5), 128, 128, some (List.replicate 128 (.u .u8 0)), some .u8⟩),
  (33, ⟨(.slice 43), 1, 24, some [.nils], none⟩),
  (34, ⟨.ptr, 1, 8, some [.nilp], none⟩),
  (36, ⟨(.arr 3 34), 3, 24, some [.nilp, .nilp, .nilp], none⟩),
  (37, ⟨(.arr 3 23), 3, 72, some [.nils, .nils, .nils], none⟩),
  (39, ⟨(.arr 64 5), 64, 64, some (List.replicate 64 (.u .u8 0)), some .u8⟩),
  (43, ⟨(.struct [(0, 3), (1, 3), (2, 3), (3, 23)]), 4, 48, some [(.n 0), (.n 0), (.n 0), .nils], none⟩),
  (56, ⟨(.slice 23), 1, 24, some [.nils], none⟩),
  (57, ⟨(.slice 4), 1, 24, some [.nils], none⟩),
  (61, ⟨(.arr 80 22), 80, 640, some (List.replicate 80 (.u .u64 0)), some .u64⟩),
  (63, ⟨.ptr, 1, 8, some [.nilp], none⟩),
  (64, ⟨.ptr, 1, 8, some [.nilp], none⟩),
  (70, ⟨(.struct [(0, 29), (8, 23), (9, 22)]), 10, 96, some [(.u .u64 0), (.u .u64 0), (.u .u64 0), (.u .u64 0), (.u .u64 0), (.u .u64 0), (.u .u64 0), (.u .u64 0), .nils, (.u .u64 0)], none⟩)]

theorem T_eq : ([3, 4, 5, 9, 22, 23, 28, 29, 30, 33, 34, 36, 37, 39, 43, 56, 57, 61, 63, 64, 70].map fun t => (t, entOf Try.prog t)) = T := by kernel_rfl
theorem T_ok : TabOK Try.prog T := by rw [← T_eq]; exact tab_of _ _
theorem mix : Try.prog.follows .mixedOrders = true := by kernel_rfl

end Go.Proofs.Ytmhbhpmfbalbeaa
