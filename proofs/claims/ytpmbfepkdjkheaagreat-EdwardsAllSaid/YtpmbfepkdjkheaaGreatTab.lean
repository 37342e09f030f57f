/- The table of types that the evaluator looks into, checked against the loaded program. -/
import Derived.Test.YtpmbfepkdjkheaaGreatProg
import Derived.Test.YtpmbfepkdjkheaaGreatPwMg
namespace Go.Proofs.YtpmbfepkdjkheaaGreat
open Go Pw

def T : List (Nat × TE) := [
  (3, ⟨(.int .i64), 1, 8, some [(.n 0)], none⟩),
  (4, ⟨.bool, 1, 1, some [(.bool false)], none⟩),
  (5, ⟨(.int .u8), 1, 1, some [(.u .u8 0)], some .u8⟩),
  (9, ⟨.str, 1, 16, some [(.str ByteArray.empty)], none⟩),
  (22, ⟨(.slice 52), 1, 24, some [.nils], none⟩),
  (23, ⟨.ptr, 1, 8, some [.nilp], none⟩),
  (24, ⟨(.int .u64), 1, 8, some [(.u .u64 0)], some .u64⟩),
  (25, ⟨(.arr 5 24), 5, 40, some [(.u .u64 0), (.u .u64 0), (.u .u64 0), (.u .u64 0), (.u .u64 0)], some .u64⟩),
  (27, ⟨(.struct [(0, 25)]), 5, 40, some [(.u .u64 0), (.u .u64 0), (.u .u64 0), (.u .u64 0), (.u .u64 0)], some .u64⟩),
  (29, ⟨(.struct [(0, 27), (5, 27), (10, 27), (15, 27)]), 20, 160, some (List.replicate 20 (.u .u64 0)), some .u64⟩),
  (30, ⟨(.arr 4 29), 80, 640, some (List.replicate 80 (.u .u64 0)), some .u64⟩),
  (31, ⟨(.arr 4 24), 4, 32, some [(.u .u64 0), (.u .u64 0), (.u .u64 0), (.u .u64 0)], some .u64⟩),
  (33, ⟨(.struct [(0, 31)]), 4, 32, some [(.u .u64 0), (.u .u64 0), (.u .u64 0), (.u .u64 0)], some .u64⟩),
  (35, ⟨(.struct [(0, 33), (4, 33), (8, 33)]), 12, 96, some (List.replicate 12 (.u .u64 0)), some .u64⟩),
  (36, ⟨(.arr 4 35), 48, 384, some (List.replicate 48 (.u .u64 0)), some .u64⟩),
  (38, ⟨(.arr 32 5), 32, 32, some (List.replicate 32 (.u .u8 0)), some .u8⟩),
  (40, ⟨(.struct [(0, 38)]), 32, 32, some (List.replicate 32 (.u .u8 0)), some .u8⟩),
  (41, ⟨(.arr 4 40), 128, 128, some (List.replicate 128 (.u .u8 0)), some .u8⟩),
  (42, ⟨(.int .u32), 1, 4, some [(.u .u32 0)], some .u32⟩),
  (43, ⟨(.arr 16 42), 16, 64, some (List.replicate 16 (.u .u32 0)), some .u32⟩),
  (45, ⟨(.struct [(0, 43)]), 16, 64, some (List.replicate 16 (.u .u32 0)), some .u32⟩),
  (46, ⟨(.arr 4 45), 64, 256, some (List.replicate 64 (.u .u32 0)), some .u32⟩),
  (48, ⟨(.struct [(0, 30), (80, 36), (128, 41), (256, 46)]), 320, 1408, some [(.u .u64 0), (.u .u64 0), (.u .u64 0), (.u .u64 0), (.u .u64 0), (.u .u64 0), (.u .u64 0), (.u .u64 0), (.u .u64 0), (.u .u64 0), (.u .u64 0), (.u .u64 0), (.u .u64 0), (.u .u64 0), (.u .u64 0), (.u .u64 0), (.u .u64 0), (.u .u64 0), (.u .u64 0), (.u .u64 0), (.u .u64 0), (.u .u64 0), (.u .u64 0), (.u .u64 0), (.u .u64 0), (.u .u64 0), (.u .u64 0), (.u .u64 0), (.u .u64 0), (.u .u64 0), (.u .u64 0), (.u .u64 0), (.u .u64 0), (.u .u64 0), (.u .u64 0), (.u .u64 0), (.u .u64 0), (.u .u64 0), (.u .u64 0), (.u .u64 0), (.u .u64 0), (.u .u64 0), (.u .u64 0), (.u .u64 0), (.u .u64 0), (.u .u64 0), (.u .u64 0), (.u .u64 0), (.u .u64 0), (.u .u64 0), (.u .u64 0), (.u .u64 0), (.u .u64 0), (.u .u64 0), (.u .u64 0), (.u .u64 0), (.u .u64 0), (.u .u64 0), (.u .u64 0), (.u .u64 0), (.u .u64 0), (.u .u64 0), (.u .u64 0), (.u .u64 0), (.u .u64 0), (.u .u64 0), (.u .u64 0), (.u .u64 0), (.u .u64 0), (.u .u64 0), (.u .u64 0), (.u .u64 0), (.u .u64 0), (.u .u64 0), (.u .u64 0), (.u .u64 0), (.u .u64 0), (.u .u64 0), (.u .u64 0), (.u .u64 0), (.u .u64 0), (.u .u64 0), (.u .u64 0), (.u .u64 0), (.u .u64 0), (.u .u64 0), (.u .u64 0), (.u .u64 0), (.u .u64 0), (.u .u64 0), (.u .u64 0), (.u .u64 0), (.u .u64 0), (.u .u64 0), (.u .u64 0), (.u .u64 0), (.u .u64 0), (.u .u64 0), (.u .u64 0), (.u .u64 0), (.u .u64 0), (.u .u64 0), (.u .u64 0), (.u .u64 0), (.u .u64 0), (.u .u64 0), (.u .u64 0), (.u .u64 0), (.u .u64 0), (.u .u64 0), (.u .u64 0), (.u .u64 0), (.u .u64 0), (.u .u64 0), (.u .u64 0), (.u .u64 0), (.u .u64 0), (.u .u64 0), (.u .u64 0), (.u .u64 0), (.u .u64 0), (.u .u64 0), (.u .u64 0), (.u .u64 0), (.u .u64 0), (.u .u64 0), (.u .u64 0), (.u .u64 0), (.u .u8 0), (.u .u8 0), (.u .u8 0), (.u .u8 0), (.u .u8 0), (.u .u8 0), (.u .u8 0), (.u .u8 0), (.u .u8 0), (.u .u8 0), (.u .u8 0), (.u .u8 0), (.u .u8 0), (.u .u8 0), (.u .u8 0), (.u .u8 0), (.u .u8 0), (.u .u8 0), (.u .u8 0), (.u .u8 0), (.u .u8 0), (.u .u8 0), (.u .u8 0), (.u .u8 0), (.u .u8 0), (.u .u8 0), (.u .u8 0), (.u .u8 0), (.u .u8 0), (.u .u8 0), (.u .u8 0), (.u .u8 0), (.u .u8 0), (.u .u8 0), (.u .u8 0), (.u .u8 0), (.u .u8 0), (.u .u8 0), (.u .u8 0), (.u .u8 0), (.u .u8 0), (.u .u8 0), (.u .u8 0), (.u .u8 0), (.u .u8 0), (.u .u8 0), (.u .u8 0), (.u .u8 0), (.u .u8 0), (.u .u8 0), (.u .u8 0), (.u .u8 0), (.u .u8 0), (.u .u8 0), (.u .u8 0), (.u .u8 0), (.u .u8 0), (.u .u8 0), (.u .u8 0), (.u .u8 0), (.u .u8 0), (.u .u8 0), (.u .u8 0), (.u .u8 0), (.u .u8 0), (.u .u8 0), (.u .u8 0), (.u .u8 0), (.u .u8 0), (.u .u8 0), (.u .u8 0), (.u .u8 0), (.u .u8 0), (.u .u8 0), (.u .u8 0), (.u .u8 0), (.u .u8 0), (.u .u8 0), (.u .u8 0), (.u .u8 0), (.u .u8 0), (.u .u8 0), (.u .u8 0), (.u .u8 0), (.u .u8 0), (.u .u8 0), (.u .u8 0), (.u .u8 0), (.u .u8 0), (.u .u8 0), (.u .u8 0), (.u .u8 0), (.u .u8 0), (.u .u8 0), (.u .u8 0), (.u .u8 0), (.u .u8 0), (.u .u8 0), (.u .u8 0), (.u .u8 0), (.u .u8 0), (.u .u8 0), (.u .u8 0), (.u .u8 0), (.u .u8 0), (.u .u8 0), (.u .u8 0), (.u .u8 0), (.u .u8 0), (.u .u8 0), (.u .u8 0), (.u .u8 0), (.u .u8 0), (.u .u8 0), (.u .u8 0), (.u .u8 0), (.u .u8 0), (.u .u8 0), (.u .u8 0), (.u .u8 0), (.u .u8 0), (.u .u8 0), (.u .u8 0), (.u .u8 0), (.u .u8 0), (.u .u8 0), (.u .u8 0), (.u .u8 0), (.u .u32 0), (.u .u32 0), (.u .u32 0), (.u .u32 0), (.u .u32 0), (.u .u32 0), (.u .u32 0), (.u .u32 0), (.u .u32 0), (.u .u32 0), (.u .u32 0), (.u .u32 0), (.u .u32 0), (.u .u32 0), (.u .u32 0), (.u .u32 0), (.u .u32 0), (.u .u32 0), (.u .u32 0), (.u .u32 0), (.u .u32 0), (.u .u32 0), (.u .u32 0), (.u .u32 0), (.u .u32 0), (.u .u32 0), (.u .u32 0), (.u .u32 0), (.u .u32 0), (.u .u32 0), (.u .u32 0), (.u .u32 0), (.u .u32 0), (.u .u32 0), (.u .u32 0), (.u .u32 0), (.u .u32 0), (.u .u32 0), (.u .u32 0), (.u .u32 0), (.u .u32 0), (.u .u32 0), (.u .u32 0), (.u .u32 0), (.u .u32 0), (.u .u32 0), (.u .u32 0), (.u .u32 0), (.u .u32 0), (.u .u32 0), (.u .u32 0), (.u .u32 0), (.u .u32 0), (.u .u32 0), (.u .u32 0), (.u .u32 0), (.u .u32 0), (.u .u32 0), (.u .u32 0), (.u .u32 0), (.u .u32 0), (.u .u32 0), (.u .u32 0), (.u .u32 0)], none⟩),
  (50, ⟨(.slice 5), 1, 24, some [.nils], none⟩),
  (52, ⟨(.struct [(0, 3), (1, 3), (2, 3), (3, 3), (4, 38), (36, 50), (37, 4), (38, 3)]), 39, 104, some [(.n 0), (.n 0), (.n 0), (.n 0), (.u .u8 0), (.u .u8 0), (.u .u8 0), (.u .u8 0), (.u .u8 0), (.u .u8 0), (.u .u8 0), (.u .u8 0), (.u .u8 0), (.u .u8 0), (.u .u8 0), (.u .u8 0), (.u .u8 0), (.u .u8 0), (.u .u8 0), (.u .u8 0), (.u .u8 0), (.u .u8 0), (.u .u8 0), (.u .u8 0), (.u .u8 0), (.u .u8 0), (.u .u8 0), (.u .u8 0), (.u .u8 0), (.u .u8 0), (.u .u8 0), (.u .u8 0), (.u .u8 0), (.u .u8 0), (.u .u8 0), (.u .u8 0), .nils, (.bool false), (.n 0)], none⟩),
  (65, ⟨(.arr 64 5), 64, 64, some (List.replicate 64 (.u .u8 0)), some .u8⟩),
  (66, ⟨(.int .i64), 1, 8, some [(.n 0)], none⟩),
  (125, ⟨(.int .u64), 1, 8, some [(.u .u64 0)], some .u64⟩),
  (132, ⟨(.arr 16 29), 320, 2560, some (List.replicate 320 (.u .u64 0)), some .u64⟩),
  (134, ⟨(.arr 4 24), 4, 32, some [(.u .u64 0), (.u .u64 0), (.u .u64 0), (.u .u64 0)], some .u64⟩),
  (148, ⟨(.arr 8 24), 8, 64, some (List.replicate 8 (.u .u64 0)), some .u64⟩),
  (154, ⟨(.struct [(0, 24), (1, 24)]), 2, 16, some [(.u .u64 0), (.u .u64 0)], some .u64⟩),
  (160, ⟨(.arr 64 5), 64, 64, some (List.replicate 64 (.u .u8 0)), some .u8⟩),
  (162, ⟨(.slice 50), 1, 24, some [.nils], none⟩),
  (176, ⟨.ptr, 1, 8, some [.nilp], none⟩),
  (185, ⟨(.struct [(0, 148), (8, 50), (9, 24)]), 10, 96, some [(.u .u64 0), (.u .u64 0), (.u .u64 0), (.u .u64 0), (.u .u64 0), (.u .u64 0), (.u .u64 0), (.u .u64 0), .nils, (.u .u64 0)], none⟩),
  (186, ⟨(.arr 128 5), 128, 128, some (List.replicate 128 (.u .u8 0)), some .u8⟩),
  (188, ⟨(.arr 80 24), 80, 640, some (List.replicate 80 (.u .u64 0)), some .u64⟩),
  (190, ⟨.ptr, 1, 8, some [.nilp], none⟩),
  (191, ⟨.ptr, 1, 8, some [.nilp], none⟩)]

theorem T_eq : ([3, 4, 5, 9, 22, 23, 24, 25, 27, 29, 30, 31, 33, 35, 36, 38, 40, 41, 42, 43, 45, 46, 48, 50, 52, 65, 66, 125, 132, 134, 148, 154, 160, 162, 176, 185, 186, 188, 190, 191].map fun t => (t, entOf Tryz.prog t)) = T := by kernel_rfl
theorem T_ok : TabOK Tryz.prog T := by rw [← T_eq]; exact tab_of _ _
theorem mix : Tryz.prog.follows .mixedOrders = true := by kernel_rfl

end Go.Proofs.YtpmbfepkdjkheaaGreat
