/- The table of types that the evaluator looks into, checked against the loaded program. -/
import Derived.Test.YtfajgpjpabeafaaProg
import Derived.Test.YtfajgpjpabeafaaPwMg
namespace Go.Proofs.Ytfajgpjpabeafaa
open Go Pw

def T : List (Nat × TE) := [
  (3, ⟨(.int .i64), 1, 8, some [(.n 0)], none⟩),
  (4, ⟨.bool, 1, 1, some [(.bool false)], none⟩),
  (5, ⟨(.int .u8), 1, 1, some [(.u .u8 0)], some .u8⟩),
  (9, ⟨.str, 1, 16, some [(.str ByteArray.empty)], none⟩),
  (23, ⟨(.arr 32 5), 32, 32, some (List.replicate 32 (.u .u8 0)), some .u8⟩),
  (26, ⟨(.int .u64), 1, 8, some [(.u .u64 0)], some .u64⟩),
  (27, ⟨(.arr 5 26), 5, 40, some [(.u .u64 0), (.u .u64 0), (.u .u64 0), (.u .u64 0), (.u .u64 0)], some .u64⟩),
  (29, ⟨(.struct [(0, 27)]), 5, 40, some [(.u .u64 0), (.u .u64 0), (.u .u64 0), (.u .u64 0), (.u .u64 0)], some .u64⟩),
  (32, ⟨(.arr 4 26), 4, 32, some [(.u .u64 0), (.u .u64 0), (.u .u64 0), (.u .u64 0)], some .u64⟩),
  (34, ⟨(.struct [(0, 32)]), 4, 32, some [(.u .u64 0), (.u .u64 0), (.u .u64 0), (.u .u64 0)], some .u64⟩),
  (36, ⟨(.int .u32), 1, 4, some [(.u .u32 0)], some .u32⟩),
  (48, ⟨(.slice 5), 1, 24, some [.nils], none⟩),
  (69, ⟨(.slice 73), 1, 24, some [.nils], none⟩),
  (70, ⟨(.arr 4 29), 20, 160, some (List.replicate 20 (.u .u64 0)), some .u64⟩),
  (71, ⟨(.arr 4 34), 16, 128, some (List.replicate 16 (.u .u64 0)), some .u64⟩),
  (73, ⟨(.struct [(0, 3), (1, 3), (2, 3), (3, 3), (4, 26), (5, 48), (6, 23), (38, 4), (39, 3)]), 40, 112, some [(.n 0), (.n 0), (.n 0), (.n 0), (.u .u64 0), .nils, (.u .u8 0), (.u .u8 0), (.u .u8 0), (.u .u8 0), (.u .u8 0), (.u .u8 0), (.u .u8 0), (.u .u8 0), (.u .u8 0), (.u .u8 0), (.u .u8 0), (.u .u8 0), (.u .u8 0), (.u .u8 0), (.u .u8 0), (.u .u8 0), (.u .u8 0), (.u .u8 0), (.u .u8 0), (.u .u8 0), (.u .u8 0), (.u .u8 0), (.u .u8 0), (.u .u8 0), (.u .u8 0), (.u .u8 0), (.u .u8 0), (.u .u8 0), (.u .u8 0), (.u .u8 0), (.u .u8 0), (.u .u8 0), (.bool false), (.n 0)], none⟩),
  (79, ⟨(.struct [(0, 34), (4, 34), (8, 34), (12, 34), (16, 4)]), 17, 136, some [(.u .u64 0), (.u .u64 0), (.u .u64 0), (.u .u64 0), (.u .u64 0), (.u .u64 0), (.u .u64 0), (.u .u64 0), (.u .u64 0), (.u .u64 0), (.u .u64 0), (.u .u64 0), (.u .u64 0), (.u .u64 0), (.u .u64 0), (.u .u64 0), (.bool false)], none⟩),
  (82, ⟨(.int .i64), 1, 8, some [(.n 0)], none⟩),
  (86, ⟨(.struct [(0, 23), (32, 23)]), 64, 64, some (List.replicate 64 (.u .u8 0)), some .u8⟩),
  (93, ⟨(.int .u64), 1, 8, some [(.u .u64 0)], some .u64⟩),
  (96, ⟨(.struct [(0, 26), (1, 26)]), 2, 16, some [(.u .u64 0), (.u .u64 0)], some .u64⟩),
  (105, ⟨(.arr 8 26), 8, 64, some (List.replicate 8 (.u .u64 0)), some .u64⟩),
  (118, ⟨(.struct [(0, 29), (5, 29), (10, 29), (15, 29)]), 20, 160, some (List.replicate 20 (.u .u64 0)), some .u64⟩),
  (122, ⟨(.struct [(0, 34), (4, 34), (8, 34), (12, 34)]), 16, 128, some (List.replicate 16 (.u .u64 0)), some .u64⟩)]

theorem T_eq : ([3, 4, 5, 9, 23, 26, 27, 29, 32, 34, 36, 48, 69, 70, 71, 73, 79, 82, 86, 93, 96, 105, 118, 122].map fun t => (t, entOf Try.prog t)) = T := by kernel_rfl
theorem T_ok : TabOK Try.prog T := by rw [← T_eq]; exact tab_of _ _
theorem mix : Try.prog.follows .mixedOrders = true := by kernel_rfl

end Go.Proofs.Ytfajgpjpabeafaa
