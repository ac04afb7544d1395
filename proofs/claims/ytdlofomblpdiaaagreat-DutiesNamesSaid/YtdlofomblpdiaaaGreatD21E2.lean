/- Written by entries.py: proved answers. -/
import Derived.Test.YtdlofomblpdiaaaGreatD21E1
namespace Go.Ks
noncomputable section
set_option maxRecDepth 1000000
/-- keysmith/lengths.Check -/
def e8 : Entry := ⟨37, [.agg [.sl 0 0 3, .sl 1 0 1, .sl 2 0 2]], [.arr 3 [.agg [.int .i64 (1), .bool true, .int .i64 (2)], .agg [.int .i64 (1), .bool true, .int .i64 (2)], .agg [.int .i64 (1), .bool true, .int .i64 (3)]], .arr 7 [.agg [.int .i64 (9), .int .i64 (2), .int .i64 (-1), .int .i64 (0), .int .i64 (-1), .int .i64 (0), .int .u64 (0)]], .arr 7 [.agg [.int .i64 (17), .int .i64 (-1), .int .i64 (-1), .int .i64 (1), .int .i64 (-1), .int .i64 (-1), .int .u64 (1)], .agg [.int .i64 (17), .int .i64 (-1), .int .i64 (-1), .int .i64 (0), .int .i64 (1), .int .i64 (-1), .int .u64 (2)]]], (.p (.int .i64 (0)), [.arr 3 [.agg [.int .i64 (1), .bool true, .int .i64 (2)], .agg [.int .i64 (1), .bool true, .int .i64 (2)], .agg [.int .i64 (1), .bool true, .int .i64 (3)]], .arr 7 [.agg [.int .i64 (9), .int .i64 (2), .int .i64 (-1), .int .i64 (0), .int .i64 (-1), .int .i64 (0), .int .u64 (0)]], .arr 7 [.agg [.int .i64 (17), .int .i64 (-1), .int .i64 (-1), .int .i64 (1), .int .i64 (-1), .int .i64 (-1), .int .u64 (1)], .agg [.int .i64 (17), .int .i64 (-1), .int .i64 (-1), .int .i64 (0), .int .i64 (1), .int .i64 (-1), .int .u64 (2)]]])⟩
theorem e8_ok : EntryOK PP e8 := entry_of (callT_sound none0_ok E0_ok noCount mixed t7_ok 2000 40) (by kernel_rfl : gives (callT PP E0 none0 t7 2000 40 e8.f e8.args e8.G) e8.r = true)
def t8 : List Entry := e8 :: t7
theorem t8_ok : TabOK PP t8 := .cons e8_ok t7_ok
/-- keysmith/lengths.Ends -/
def e9 : Entry := ⟨47, [.agg [.sl 0 0 3, .sl 1 0 1, .sl 2 0 2]], [.arr 3 [.agg [.int .i64 (1), .bool true, .int .i64 (2)], .agg [.int .i64 (1), .bool true, .int .i64 (2)], .agg [.int .i64 (1), .bool true, .int .i64 (3)]], .arr 7 [.agg [.int .i64 (9), .int .i64 (2), .int .i64 (-1), .int .i64 (0), .int .i64 (-1), .int .i64 (0), .int .u64 (0)]], .arr 7 [.agg [.int .i64 (17), .int .i64 (-1), .int .i64 (-1), .int .i64 (1), .int .i64 (-1), .int .i64 (-1), .int .u64 (1)], .agg [.int .i64 (17), .int .i64 (-1), .int .i64 (-1), .int .i64 (0), .int .i64 (1), .int .i64 (-1), .int .u64 (2)]]], (.sl 3 0 1, [.arr 3 [.agg [.int .i64 (1), .bool true, .int .i64 (2)], .agg [.int .i64 (1), .bool true, .int .i64 (2)], .agg [.int .i64 (1), .bool true, .int .i64 (3)]], .arr 7 [.agg [.int .i64 (9), .int .i64 (2), .int .i64 (-1), .int .i64 (0), .int .i64 (-1), .int .i64 (0), .int .u64 (0)]], .arr 7 [.agg [.int .i64 (17), .int .i64 (-1), .int .i64 (-1), .int .i64 (1), .int .i64 (-1), .int .i64 (-1), .int .u64 (1)], .agg [.int .i64 (17), .int .i64 (-1), .int .i64 (-1), .int .i64 (0), .int .i64 (1), .int .i64 (-1), .int .u64 (2)]], .arr 1 [.int .i64 (-1)]])⟩
theorem e9_ok : EntryOK PP e9 := entry_of (callT_sound none0_ok E0_ok noCount mixed t8_ok 2000 40) (by kernel_rfl : gives (callT PP E0 none0 t8 2000 40 e9.f e9.args e9.G) e9.r = true)
def t9 : List Entry := e9 :: t8
theorem t9_ok : TabOK PP t9 := .cons e9_ok t8_ok
/-- keysmith/duties.Start -/
def e10 : Entry := ⟨25, [.agg [.sl 0 0 3, .sl 1 0 1, .sl 2 0 2]], [.arr 3 [.agg [.int .i64 (1), .bool true, .int .i64 (2)], .agg [.int .i64 (1), .bool true, .int .i64 (2)], .agg [.int .i64 (1), .bool true, .int .i64 (3)]], .arr 7 [.agg [.int .i64 (9), .int .i64 (2), .int .i64 (-1), .int .i64 (0), .int .i64 (-1), .int .i64 (0), .int .u64 (0)]], .arr 7 [.agg [.int .i64 (17), .int .i64 (-1), .int .i64 (-1), .int .i64 (1), .int .i64 (-1), .int .i64 (-1), .int .u64 (1)], .agg [.int .i64 (17), .int .i64 (-1), .int .i64 (-1), .int .i64 (0), .int .i64 (1), .int .i64 (-1), .int .u64 (2)]]], (.sl 3 0 2, [.arr 3 [.agg [.int .i64 (1), .bool true, .int .i64 (2)], .agg [.int .i64 (1), .bool true, .int .i64 (2)], .agg [.int .i64 (1), .bool true, .int .i64 (3)]], .arr 7 [.agg [.int .i64 (9), .int .i64 (2), .int .i64 (-1), .int .i64 (0), .int .i64 (-1), .int .i64 (0), .int .u64 (0)]], .arr 7 [.agg [.int .i64 (17), .int .i64 (-1), .int .i64 (-1), .int .i64 (1), .int .i64 (-1), .int .i64 (-1), .int .u64 (1)], .agg [.int .i64 (17), .int .i64 (-1), .int .i64 (-1), .int .i64 (0), .int .i64 (1), .int .i64 (-1), .int .u64 (2)]], .arr 3 [.agg [.int .i64 (1), .int .i64 (1), .int .i64 (-1)], .agg [.int .i64 (2), .int .i64 (0), .int .i64 (1)]]])⟩
theorem e10_ok : EntryOK PP e10 := entry_of (callT_sound none0_ok E0_ok noCount mixed t9_ok 2000 40) (by kernel_rfl : gives (callT PP E0 none0 t9 2000 40 e10.f e10.args e10.G) e10.r = true)
def t10 : List Entry := e10 :: t9
theorem t10_ok : TabOK PP t10 := .cons e10_ok t9_ok
/-- slices.SortFunc[[]keysmith/api.Fact,keysmith/api.Fact] -/
def e11 : Entry := ⟨115, [.sl 0 0 3, .p (.fn 82)], [.arr 3 [.agg [.int .i64 (1), .int .i64 (1), .int .i64 (-1)], .agg [.int .i64 (2), .int .i64 (0), .int .i64 (1)], .agg [.int .i64 (2), .int .i64 (2), .int .i64 (0)]]], (.p (.tup []), [.arr 3 [.agg [.int .i64 (1), .int .i64 (1), .int .i64 (-1)], .agg [.int .i64 (2), .int .i64 (0), .int .i64 (1)], .agg [.int .i64 (2), .int .i64 (2), .int .i64 (0)]]])⟩
theorem e11_ok : EntryOK PP e11 := entry_of (callT_sound none0_ok E0_ok noCount mixed t10_ok 2000 40) (by kernel_rfl : gives (callT PP E0 none0 t10 2000 40 e11.f e11.args e11.G) e11.r = true)
def t11 : List Entry := e11 :: t10
theorem t11_ok : TabOK PP t11 := .cons e11_ok t10_ok
end
end Go.Ks
