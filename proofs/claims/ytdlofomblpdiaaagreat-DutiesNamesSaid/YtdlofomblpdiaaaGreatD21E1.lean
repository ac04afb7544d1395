/- Written by entries.py: proved answers. -/
import Derived.Test.YtdlofomblpdiaaaGreatD21E0
namespace Go.Ks
noncomputable section
set_option maxRecDepth 1000000
/-- slices.pdqsortCmpFunc[keysmith/api.Fact] -/
def e4 : Entry := ⟨138, [.sl 0 0 3, .p (.int .i64 (0)), .p (.int .i64 (3)), .p (.int .i64 (2)), .p (.fn 82)], [.arr 3 [.agg [.int .i64 (1), .int .i64 (1), .int .i64 (-1)], .agg [.int .i64 (2), .int .i64 (0), .int .i64 (1)], .agg [.int .i64 (2), .int .i64 (2), .int .i64 (1)]]], (.p (.tup []), [.arr 3 [.agg [.int .i64 (1), .int .i64 (1), .int .i64 (-1)], .agg [.int .i64 (2), .int .i64 (0), .int .i64 (1)], .agg [.int .i64 (2), .int .i64 (2), .int .i64 (1)]]])⟩
theorem e4_ok : EntryOK PP e4 := entry_of (callT_sound none0_ok E0_ok noCount mixed t3_ok 2000 40) (by kernel_rfl : gives (callT PP E0 none0 t3 2000 40 e4.f e4.args e4.G) e4.r = true)
def t4 : List Entry := e4 :: t3
theorem t4_ok : TabOK PP t4 := .cons e4_ok t3_ok
/-- keysmith/duties.after -/
def e5 : Entry := ⟨50, [.agg [.sl 0 0 3, .sl 1 0 1, .sl 2 0 2], .p (.agg [.int .i64 (12), .int .i64 (2), .int .i64 (-1), .int .i64 (0), .int .i64 (0), .int .i64 (1), .int .u64 (0)]), .sl 3 0 2], [.arr 3 [.agg [.int .i64 (1), .bool true, .int .i64 (2)], .agg [.int .i64 (1), .bool true, .int .i64 (2)], .agg [.int .i64 (1), .bool true, .int .i64 (3)]], .arr 7 [.agg [.int .i64 (12), .int .i64 (2), .int .i64 (-1), .int .i64 (0), .int .i64 (0), .int .i64 (1), .int .u64 (0)]], .arr 7 [.agg [.int .i64 (17), .int .i64 (-1), .int .i64 (-1), .int .i64 (1), .int .i64 (-1), .int .i64 (-1), .int .u64 (1)], .agg [.int .i64 (17), .int .i64 (-1), .int .i64 (-1), .int .i64 (0), .int .i64 (1), .int .i64 (-1), .int .u64 (2)]], .ice 3 [.agg [.int .i64 (1), .int .i64 (1), .int .i64 (-1)], .agg [.int .i64 (2), .int .i64 (0), .int .i64 (1)]]], (.sl 4 0 3, [.arr 3 [.agg [.int .i64 (1), .bool true, .int .i64 (2)], .agg [.int .i64 (1), .bool true, .int .i64 (2)], .agg [.int .i64 (1), .bool true, .int .i64 (3)]], .arr 7 [.agg [.int .i64 (12), .int .i64 (2), .int .i64 (-1), .int .i64 (0), .int .i64 (0), .int .i64 (1), .int .u64 (0)]], .arr 7 [.agg [.int .i64 (17), .int .i64 (-1), .int .i64 (-1), .int .i64 (1), .int .i64 (-1), .int .i64 (-1), .int .u64 (1)], .agg [.int .i64 (17), .int .i64 (-1), .int .i64 (-1), .int .i64 (0), .int .i64 (1), .int .i64 (-1), .int .u64 (2)]], .ice 3 [.agg [.int .i64 (1), .int .i64 (1), .int .i64 (-1)], .agg [.int .i64 (2), .int .i64 (0), .int .i64 (1)]], .arr 3 [.agg [.int .i64 (1), .int .i64 (1), .int .i64 (-1)], .agg [.int .i64 (2), .int .i64 (0), .int .i64 (1)], .agg [.int .i64 (2), .int .i64 (2), .int .i64 (1)]]])⟩
theorem e5_ok : EntryOK PP e5 := entry_of (callT_sound none0_ok E0_ok noCount mixed t4_ok 2000 40) (by kernel_rfl : gives (callT PP E0 none0 t4 2000 40 e5.f e5.args e5.G) e5.r = true)
def t5 : List Entry := e5 :: t4
theorem t5_ok : TabOK PP t5 := .cons e5_ok t4_ok
/-- keysmith/duties.Ahead -/
def e6 : Entry := ⟨18, [.agg [.sl 0 0 3, .sl 1 0 1, .sl 2 0 2]], [.arr 3 [.agg [.int .i64 (1), .bool true, .int .i64 (2)], .agg [.int .i64 (1), .bool true, .int .i64 (2)], .agg [.int .i64 (1), .bool true, .int .i64 (3)]], .arr 7 [.agg [.int .i64 (12), .int .i64 (2), .int .i64 (-1), .int .i64 (0), .int .i64 (0), .int .i64 (1), .int .u64 (0)]], .arr 7 [.agg [.int .i64 (17), .int .i64 (-1), .int .i64 (-1), .int .i64 (1), .int .i64 (-1), .int .i64 (-1), .int .u64 (1)], .agg [.int .i64 (17), .int .i64 (-1), .int .i64 (-1), .int .i64 (0), .int .i64 (1), .int .i64 (-1), .int .u64 (2)]]], (.sl 3 0 1, [.arr 3 [.agg [.int .i64 (1), .bool true, .int .i64 (2)], .agg [.int .i64 (1), .bool true, .int .i64 (2)], .agg [.int .i64 (1), .bool true, .int .i64 (3)]], .arr 7 [.agg [.int .i64 (12), .int .i64 (2), .int .i64 (-1), .int .i64 (0), .int .i64 (0), .int .i64 (1), .int .u64 (0)]], .arr 7 [.agg [.int .i64 (17), .int .i64 (-1), .int .i64 (-1), .int .i64 (1), .int .i64 (-1), .int .i64 (-1), .int .u64 (1)], .agg [.int .i64 (17), .int .i64 (-1), .int .i64 (-1), .int .i64 (0), .int .i64 (1), .int .i64 (-1), .int .u64 (2)]], .arr 1 [.list 3 [.agg [.int .i64 (1), .int .i64 (1), .int .i64 (-1)], .agg [.int .i64 (2), .int .i64 (0), .int .i64 (1)]]]])⟩
theorem e6_ok : EntryOK PP e6 := entry_of (callT_sound none0_ok E0_ok noCount mixed t5_ok 2000 40) (by kernel_rfl : gives (callT PP E0 none0 t5 2000 40 e6.f e6.args e6.G) e6.r = true)
def t6 : List Entry := e6 :: t5
theorem t6_ok : TabOK PP t6 := .cons e6_ok t5_ok
/-- keysmith/lengths.one -/
def e7 : Entry := ⟨63, [.sl 0 0 3, .p (.agg [.int .i64 (9), .int .i64 (2), .int .i64 (-1), .int .i64 (0), .int .i64 (-1), .int .i64 (0), .int .u64 (0)])], [.arr 3 [.agg [.int .i64 (1), .bool true, .int .i64 (2)], .agg [.int .i64 (1), .bool true, .int .i64 (2)], .agg [.int .i64 (1), .bool true, .int .i64 (3)]]], (.p (.bool true), [.arr 3 [.agg [.int .i64 (1), .bool true, .int .i64 (2)], .agg [.int .i64 (1), .bool true, .int .i64 (2)], .agg [.int .i64 (1), .bool true, .int .i64 (3)]]])⟩
theorem e7_ok : EntryOK PP e7 := entry_of (callT_sound none0_ok E0_ok noCount mixed t6_ok 2000 40) (by kernel_rfl : gives (callT PP E0 none0 t6 2000 40 e7.f e7.args e7.G) e7.r = true)
def t7 : List Entry := e7 :: t6
theorem t7_ok : TabOK PP t7 := .cons e7_ok t6_ok
end
end Go.Ks
