/- The types of the program's translation, as the conditions look at them. Written by types.py. -/
import Derived.Test.YtdbedlomiedncaaVc17
import Derived.Test.YtdbedlomiedncaaChecked
namespace Go.Proofs.Ytdbedlomiedncaa.Vc
open Go

def tab : Tab := [
  (3, ⟨1, 8, [.int .i64 0], .int .i64, false⟩), -- int
  (9, ⟨1, 16, [.str []], .string, false⟩), -- string
  (4, ⟨1, 1, [.bool false], .bool, false⟩), -- bool
  (5, ⟨1, 1, [.int .u8 0], .int .u8, false⟩), -- uint8
  (49, ⟨10, 88, [.str [], .int .i64 0, .int .i64 0, .bool false, .int .i64 0, .int .i64 0, .int .i64 0, .int .i64 0, .int .i64 0, .int .i64 0], .struct [(0, 9), (1, 3), (2, 3), (3, 4), (4, 3), (5, 3), (6, 3), (7, 3), (8, 3), (9, 3)], true⟩), -- impl.Row
  (24, ⟨1, 24, [.nils], .slice 49, false⟩), -- []impl.Row
  (2, ⟨1, 8, [.int .i64 0], .int .i64, false⟩), -- int64
  (21, ⟨1, 4, [.int .i32 0], .int .i32, false⟩), -- int32
  (22, ⟨1, 24, [.nils], .slice 79, false⟩), -- []laws.Row
  (30, ⟨1, 24, [.nils], .slice 22, false⟩), -- [][]laws.Row
  (31, ⟨3, 40, [.int .i64 0, .int .i64 0, .nils], .struct [(0, 3), (1, 3), (2, 30)], false⟩), -- struct { Cap int; First int; Kept [][]laws.Row }
  (32, ⟨3, 40, [.int .i64 0, .int .i64 0, .nils], .struct [(0, 3), (1, 3), (2, 30)], false⟩), -- laws.Store
  (34, ⟨1, 24, [.nils], .slice 24, false⟩), -- [][]impl.Row
  (35, ⟨3, 40, [.int .i64 0, .int .i64 0, .nils], .struct [(0, 3), (1, 3), (2, 34)], false⟩), -- struct { Cap int; First int; Kept [][]impl.Row }
  (36, ⟨3, 40, [.int .i64 0, .int .i64 0, .nils], .struct [(0, 3), (1, 3), (2, 34)], false⟩), -- impl.Store
  (42, ⟨1, 24, [.nils], .slice 5, false⟩), -- []uint8
  (48, ⟨10, 88, [.str [], .int .i64 0, .int .i64 0, .bool false, .int .i64 0, .int .i64 0, .int .i64 0, .int .i64 0, .int .i64 0, .int .i64 0], .struct [(0, 9), (1, 3), (2, 3), (3, 4), (4, 3), (5, 3), (6, 3), (7, 3), (8, 3), (9, 3)], true⟩), -- struct { Key string; Kind int; Sum int; Set bool; Last int; N int; Min int; Max int; Total int; Dropped int }
  (57, ⟨1, 24, [.nils], .slice 9, false⟩), -- []string
  (74, ⟨1, 24, [.nils], .slice 3, false⟩), -- []int
  (79, ⟨10, 88, [.str [], .int .i64 0, .int .i64 0, .bool false, .int .i64 0, .int .i64 0, .int .i64 0, .int .i64 0, .int .i64 0, .int .i64 0], .struct [(0, 9), (1, 3), (2, 3), (3, 4), (4, 3), (5, 3), (6, 3), (7, 3), (8, 3), (9, 3)], true⟩), -- laws.Row
  (93, ⟨1, 8, [.nilp], .other, false⟩), -- *spec.l1Cur
  (112, ⟨3, 40, [.nils, .int .i64 0, .int .i64 0], .struct [(0, 42), (1, 3), (2, 3)], false⟩), -- struct { b []uint8; i int; h int }
  (113, ⟨3, 40, [.nils, .int .i64 0, .int .i64 0], .struct [(0, 42), (1, 3), (2, 3)], false⟩), -- spec.l1Cur
  (124, ⟨1, 8, [.int .u64 0], .int .u64, false⟩), -- uint
  (133, ⟨1, 4, [.int .u32 0], .int .u32, false⟩), -- uint32
  (137, ⟨1, 8, [.nilp], .other, false⟩) -- *uint8
]

theorem tb3 : (tab.at 3).bytes = 8 := rfl
theorem tb9 : (tab.at 9).bytes = 16 := rfl
theorem tb4 : (tab.at 4).bytes = 1 := rfl
theorem tb5 : (tab.at 5).bytes = 1 := rfl
theorem tb49 : (tab.at 49).bytes = 88 := rfl
theorem tb24 : (tab.at 24).bytes = 24 := rfl
theorem tb2 : (tab.at 2).bytes = 8 := rfl
theorem tb21 : (tab.at 21).bytes = 4 := rfl
theorem tb22 : (tab.at 22).bytes = 24 := rfl
theorem tb30 : (tab.at 30).bytes = 24 := rfl
theorem tb31 : (tab.at 31).bytes = 40 := rfl
theorem tb32 : (tab.at 32).bytes = 40 := rfl
theorem tb34 : (tab.at 34).bytes = 24 := rfl
theorem tb35 : (tab.at 35).bytes = 40 := rfl
theorem tb36 : (tab.at 36).bytes = 40 := rfl
theorem tb42 : (tab.at 42).bytes = 24 := rfl
theorem tb48 : (tab.at 48).bytes = 88 := rfl
theorem tb57 : (tab.at 57).bytes = 24 := rfl
theorem tb74 : (tab.at 74).bytes = 24 := rfl
theorem tb79 : (tab.at 79).bytes = 88 := rfl
theorem tb93 : (tab.at 93).bytes = 8 := rfl
theorem tb112 : (tab.at 112).bytes = 40 := rfl
theorem tb113 : (tab.at 113).bytes = 40 := rfl
theorem tb124 : (tab.at 124).bytes = 8 := rfl
theorem tb133 : (tab.at 133).bytes = 4 := rfl
theorem tb137 : (tab.at 137).bytes = 8 := rfl
theorem tab_ok : TabOk Try.prog tab := tabB_ok (by kernel_rfl)

theorem mixed : Try.prog.follows .mixedOrders = true := by kernel_rfl

end Go.Proofs.Ytdbedlomiedncaa.Vc
