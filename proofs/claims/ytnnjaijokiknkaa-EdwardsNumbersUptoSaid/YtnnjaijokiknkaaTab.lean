/- The table of types that the evaluator looks into, checked against the loaded program. -/
import Derived.Test.YtnnjaijokiknkaaProg
import Derived.Test.YtnnjaijokiknkaaPwMg
namespace Go.Proofs.Ytnnjaijokiknkaa
open Go Pw

def T : List (Nat × TE) := [
  (3, ⟨(.int .i64), 1, 8, some [(.n 0)], none⟩),
  (4, ⟨.bool, 1, 1, some [(.bool false)], none⟩),
  (5, ⟨(.int .u8), 1, 1, some [(.u .u8 0)], some .u8⟩),
  (9, ⟨.str, 1, 16, some [(.str ByteArray.empty)], none⟩),
  (23, ⟨(.arr 32 5), 32, 32, some (List.replicate 32 (.u .u8 0)), some .u8⟩),
  (24, ⟨(.slice 5), 1, 24, some [.nils], none⟩),
  (26, ⟨(.arr 64 5), 64, 64, some (List.replicate 64 (.u .u8 0)), some .u8⟩),
  (28, ⟨(.int .i64), 1, 8, some [(.n 0)], none⟩),
  (30, ⟨(.int .u64), 1, 8, some [(.u .u64 0)], some .u64⟩),
  (31, ⟨(.arr 5 30), 5, 40, some [(.u .u64 0), (.u .u64 0), (.u .u64 0), (.u .u64 0), (.u .u64 0)], some .u64⟩),
  (33, ⟨(.struct [(0, 31)]), 5, 40, some [(.u .u64 0), (.u .u64 0), (.u .u64 0), (.u .u64 0), (.u .u64 0)], some .u64⟩),
  (35, ⟨(.struct [(0, 33), (5, 33), (10, 33), (15, 33)]), 20, 160, some (List.replicate 20 (.u .u64 0)), some .u64⟩),
  (42, ⟨(.struct [(0, 23)]), 32, 32, some (List.replicate 32 (.u .u8 0)), some .u8⟩),
  (44, ⟨(.int .u32), 1, 4, some [(.u .u32 0)], some .u32⟩),
  (45, ⟨(.arr 16 44), 16, 64, some (List.replicate 16 (.u .u32 0)), some .u32⟩),
  (47, ⟨(.struct [(0, 45)]), 16, 64, some (List.replicate 16 (.u .u32 0)), some .u32⟩),
  (65, ⟨(.arr 4 30), 4, 32, some [(.u .u64 0), (.u .u64 0), (.u .u64 0), (.u .u64 0)], some .u64⟩),
  (67, ⟨(.struct [(0, 65)]), 4, 32, some [(.u .u64 0), (.u .u64 0), (.u .u64 0), (.u .u64 0)], some .u64⟩),
  (69, ⟨(.struct [(0, 67), (4, 67), (8, 67)]), 12, 96, some (List.replicate 12 (.u .u64 0)), some .u64⟩),
  (101, ⟨(.arr 64 5), 64, 64, some (List.replicate 64 (.u .u8 0)), some .u8⟩),
  (111, ⟨(.arr 4 30), 4, 32, some [(.u .u64 0), (.u .u64 0), (.u .u64 0), (.u .u64 0)], some .u64⟩),
  (124, ⟨(.int .u64), 1, 8, some [(.u .u64 0)], some .u64⟩),
  (134, ⟨(.struct [(0, 30), (1, 30)]), 2, 16, some [(.u .u64 0), (.u .u64 0)], some .u64⟩),
  (142, ⟨(.arr 16 35), 320, 2560, some (List.replicate 320 (.u .u64 0)), some .u64⟩),
  (147, ⟨(.struct [(0, 33), (5, 33), (10, 33), (15, 33)]), 20, 160, some (List.replicate 20 (.u .u64 0)), some .u64⟩),
  (153, ⟨.ptr, 1, 8, some [.nilp], none⟩),
  (161, ⟨(.slice 24), 1, 24, some [.nils], none⟩),
  (166, ⟨(.arr 8 30), 8, 64, some (List.replicate 8 (.u .u64 0)), some .u64⟩),
  (175, ⟨(.struct [(0, 166), (8, 24), (9, 30)]), 10, 96, some [(.u .u64 0), (.u .u64 0), (.u .u64 0), (.u .u64 0), (.u .u64 0), (.u .u64 0), (.u .u64 0), (.u .u64 0), .nils, (.u .u64 0)], none⟩),
  (176, ⟨(.arr 128 5), 128, 128, some (List.replicate 128 (.u .u8 0)), some .u8⟩),
  (184, ⟨(.arr 80 30), 80, 640, some (List.replicate 80 (.u .u64 0)), some .u64⟩),
  (186, ⟨.ptr, 1, 8, some [.nilp], none⟩),
  (187, ⟨.ptr, 1, 8, some [.nilp], none⟩)]

theorem T_eq : ([3, 4, 5, 9, 23, 24, 26, 28, 30, 31, 33, 35, 42, 44, 45, 47, 65, 67, 69, 101, 111, 124, 134, 142, 147, 153, 161, 166, 175, 176, 184, 186, 187].map fun t => (t, entOf Try.prog t)) = T := by kernel_rfl
theorem T_ok : TabOK Try.prog T := by rw [← T_eq]; exact tab_of _ _
theorem mix : Try.prog.follows .mixedOrders = true := by kernel_rfl

end Go.Proofs.Ytnnjaijokiknkaa
