/- Written by entries.py: proved answers. -/
import Derived.Test.YtdlofomblpdiaaaGreatD21E3
namespace Go.Ks
noncomputable section
set_option maxRecDepth 1000000
/-- keysmith/duties.After -/
def e16 : Entry := ⟨23, [.agg [.sl 0 0 3, .sl 1 0 1, .sl 2 0 2], .p (.int .i64 (0)), .sl 3 0 2], [.arr 3 [.agg [.int .i64 (1), .bool true, .int .i64 (2)], .agg [.int .i64 (1), .bool true, .int .i64 (2)], .agg [.int .i64 (1), .bool true, .int .i64 (3)]], .arr 7 [.agg [.int .i64 (12), .int .i64 (2), .int .i64 (-1), .int .i64 (0), .int .i64 (0), .int .i64 (1), .int .u64 (0)]], .arr 7 [.agg [.int .i64 (17), .int .i64 (-1), .int .i64 (-1), .int .i64 (1), .int .i64 (-1), .int .i64 (-1), .int .u64 (1)], .agg [.int .i64 (17), .int .i64 (-1), .int .i64 (-1), .int .i64 (0), .int .i64 (1), .int .i64 (-1), .int .u64 (2)]], .arr 3 [.agg [.int .i64 (1), .int .i64 (1), .int .i64 (-1)], .agg [.int .i64 (2), .int .i64 (0), .int .i64 (1)]]], (.sl 4 0 3, [.arr 3 [.agg [.int .i64 (1), .bool true, .int .i64 (2)], .agg [.int .i64 (1), .bool true, .int .i64 (2)], .agg [.int .i64 (1), .bool true, .int .i64 (3)]], .arr 7 [.agg [.int .i64 (12), .int .i64 (2), .int .i64 (-1), .int .i64 (0), .int .i64 (0), .int .i64 (1), .int .u64 (0)]], .arr 7 [.agg [.int .i64 (17), .int .i64 (-1), .int .i64 (-1), .int .i64 (1), .int .i64 (-1), .int .i64 (-1), .int .u64 (1)], .agg [.int .i64 (17), .int .i64 (-1), .int .i64 (-1), .int .i64 (0), .int .i64 (1), .int .i64 (-1), .int .u64 (2)]], .arr 3 [.agg [.int .i64 (1), .int .i64 (1), .int .i64 (-1)], .agg [.int .i64 (2), .int .i64 (0), .int .i64 (1)]], .arr 3 [.agg [.int .i64 (1), .int .i64 (1), .int .i64 (-1)], .agg [.int .i64 (2), .int .i64 (0), .int .i64 (1)], .agg [.int .i64 (2), .int .i64 (2), .int .i64 (1)]]])⟩
theorem e16_ok : EntryOK PP e16 := entry_of (callT_sound none0_ok E0_ok noCount mixed t15_ok 2000 40) (by kernel_rfl : gives (callT PP E0 none0 t15 2000 40 e16.f e16.args e16.G) e16.r = true)
def t16 : List Entry := e16 :: t15
theorem t16_ok : TabOK PP t16 := .cons e16_ok t15_ok
/-- keysmith/lengths.one -/
def e17 : Entry := ⟨63, [.sl 0 0 3, .p (.agg [.int .i64 (1), .int .i64 (2), .int .i64 (-1), .int .i64 (-1), .int .i64 (-1), .int .i64 (-1), .int .u64 (6)])], [.arr 3 [.agg [.int .i64 (1), .bool true, .int .i64 (2)], .agg [.int .i64 (1), .bool true, .int .i64 (2)], .agg [.int .i64 (1), .bool true, .int .i64 (3)]]], (.p (.bool true), [.arr 3 [.agg [.int .i64 (1), .bool true, .int .i64 (2)], .agg [.int .i64 (1), .bool true, .int .i64 (2)], .agg [.int .i64 (1), .bool true, .int .i64 (3)]]])⟩
theorem e17_ok : EntryOK PP e17 := entry_of (callT_sound none0_ok E0_ok noCount mixed t16_ok 2000 40) (by kernel_rfl : gives (callT PP E0 none0 t16 2000 40 e17.f e17.args e17.G) e17.r = true)
def t17 : List Entry := e17 :: t16
theorem t17_ok : TabOK PP t17 := .cons e17_ok t16_ok
/-- keysmith/lengths.one -/
def e18 : Entry := ⟨63, [.sl 0 0 3, .p (.agg [.int .i64 (15), .int .i64 (-1), .int .i64 (-1), .int .i64 (-1), .int .i64 (-1), .int .i64 (-1), .int .u64 (2)])], [.arr 3 [.agg [.int .i64 (1), .bool true, .int .i64 (2)], .agg [.int .i64 (1), .bool true, .int .i64 (2)], .agg [.int .i64 (1), .bool true, .int .i64 (3)]]], (.p (.bool true), [.arr 3 [.agg [.int .i64 (1), .bool true, .int .i64 (2)], .agg [.int .i64 (1), .bool true, .int .i64 (2)], .agg [.int .i64 (1), .bool true, .int .i64 (3)]]])⟩
theorem e18_ok : EntryOK PP e18 := entry_of (callT_sound none0_ok E0_ok noCount mixed t17_ok 2000 40) (by kernel_rfl : gives (callT PP E0 none0 t17 2000 40 e18.f e18.args e18.G) e18.r = true)
def t18 : List Entry := e18 :: t17
theorem t18_ok : TabOK PP t18 := .cons e18_ok t17_ok
/-- keysmith/lengths.one -/
def e19 : Entry := ⟨63, [.sl 0 0 3, .p (.agg [.int .i64 (9), .int .i64 (2), .int .i64 (-1), .int .i64 (2), .int .i64 (-1), .int .i64 (1), .int .u64 (0)])], [.arr 3 [.agg [.int .i64 (1), .bool true, .int .i64 (2)], .agg [.int .i64 (1), .bool true, .int .i64 (2)], .agg [.int .i64 (1), .bool true, .int .i64 (3)]]], (.p (.bool true), [.arr 3 [.agg [.int .i64 (1), .bool true, .int .i64 (2)], .agg [.int .i64 (1), .bool true, .int .i64 (2)], .agg [.int .i64 (1), .bool true, .int .i64 (3)]]])⟩
theorem e19_ok : EntryOK PP e19 := entry_of (callT_sound none0_ok E0_ok noCount mixed t18_ok 2000 40) (by kernel_rfl : gives (callT PP E0 none0 t18 2000 40 e19.f e19.args e19.G) e19.r = true)
def t19 : List Entry := e19 :: t18
theorem t19_ok : TabOK PP t19 := .cons e19_ok t18_ok
end
end Go.Ks
