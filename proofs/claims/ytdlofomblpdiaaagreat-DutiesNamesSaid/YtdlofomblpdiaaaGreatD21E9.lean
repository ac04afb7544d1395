/- Written by entries.py: proved answers. -/
import Derived.Test.YtdlofomblpdiaaaGreatD21E8
namespace Go.Ks
noncomputable section
set_option maxRecDepth 1000000
/-- keysmith/lengths.one -/
def e36 : Entry := ⟨63, [.sl 0 0 4, .p (.agg [.int .i64 (16), .int .i64 (-1), .int .i64 (-1), .int .i64 (-1), .int .i64 (-1), .int .i64 (-1), .int .u64 (0)])], [.arr 3 [.agg [.int .i64 (1), .bool true, .int .i64 (2)], .agg [.int .i64 (1), .bool true, .int .i64 (2)], .agg [.int .i64 (1), .bool true, .int .i64 (3)], .agg [.int .i64 (1), .bool true, .int .i64 (0)]]], (.p (.bool true), [.arr 3 [.agg [.int .i64 (1), .bool true, .int .i64 (2)], .agg [.int .i64 (1), .bool true, .int .i64 (2)], .agg [.int .i64 (1), .bool true, .int .i64 (3)], .agg [.int .i64 (1), .bool true, .int .i64 (0)]]])⟩
theorem e36_ok : EntryOK PP e36 := entry_of (callT_sound none0_ok E0_ok noCount mixed t35_ok 2000 40) (by kernel_rfl : gives (callT PP E0 none0 t35 2000 40 e36.f e36.args e36.G) e36.r = true)
def t36 : List Entry := e36 :: t35
theorem t36_ok : TabOK PP t36 := .cons e36_ok t35_ok
/-- keysmith/lengths.one -/
def e37 : Entry := ⟨63, [.sl 0 0 4, .p (.agg [.int .i64 (2), .int .i64 (3), .int .i64 (-1), .int .i64 (0), .int .i64 (-1), .int .i64 (-1), .int .u64 (0)])], [.arr 3 [.agg [.int .i64 (1), .bool true, .int .i64 (2)], .agg [.int .i64 (1), .bool true, .int .i64 (2)], .agg [.int .i64 (1), .bool true, .int .i64 (3)], .agg [.int .i64 (1), .bool true, .int .i64 (0)]]], (.p (.bool true), [.arr 3 [.agg [.int .i64 (1), .bool true, .int .i64 (2)], .agg [.int .i64 (1), .bool true, .int .i64 (2)], .agg [.int .i64 (1), .bool true, .int .i64 (3)], .agg [.int .i64 (1), .bool true, .int .i64 (0)]]])⟩
theorem e37_ok : EntryOK PP e37 := entry_of (callT_sound none0_ok E0_ok noCount mixed t36_ok 2000 40) (by kernel_rfl : gives (callT PP E0 none0 t36 2000 40 e37.f e37.args e37.G) e37.r = true)
def t37 : List Entry := e37 :: t36
theorem t37_ok : TabOK PP t37 := .cons e37_ok t36_ok
/-- keysmith/lengths.one -/
def e38 : Entry := ⟨63, [.sl 0 0 4, .p (.agg [.int .i64 (8), .int .i64 (2), .int .i64 (-1), .int .i64 (3), .int .i64 (0), .int .i64 (0), .int .u64 (0)])], [.arr 3 [.agg [.int .i64 (1), .bool true, .int .i64 (2)], .agg [.int .i64 (1), .bool true, .int .i64 (2)], .agg [.int .i64 (1), .bool true, .int .i64 (3)], .agg [.int .i64 (1), .bool true, .int .i64 (0)]]], (.p (.bool true), [.arr 3 [.agg [.int .i64 (1), .bool true, .int .i64 (2)], .agg [.int .i64 (1), .bool true, .int .i64 (2)], .agg [.int .i64 (1), .bool true, .int .i64 (3)], .agg [.int .i64 (1), .bool true, .int .i64 (0)]]])⟩
theorem e38_ok : EntryOK PP e38 := entry_of (callT_sound none0_ok E0_ok noCount mixed t37_ok 2000 40) (by kernel_rfl : gives (callT PP E0 none0 t37 2000 40 e38.f e38.args e38.G) e38.r = true)
def t38 : List Entry := e38 :: t37
theorem t38_ok : TabOK PP t38 := .cons e38_ok t37_ok
/-- keysmith/lengths.one -/
def e39 : Entry := ⟨63, [.sl 0 0 4, .p (.agg [.int .i64 (14), .int .i64 (2), .int .i64 (3), .int .i64 (-1), .int .i64 (-1), .int .i64 (0), .int .u64 (0)])], [.arr 3 [.agg [.int .i64 (1), .bool true, .int .i64 (2)], .agg [.int .i64 (1), .bool true, .int .i64 (2)], .agg [.int .i64 (1), .bool true, .int .i64 (3)], .agg [.int .i64 (1), .bool true, .int .i64 (0)]]], (.p (.bool true), [.arr 3 [.agg [.int .i64 (1), .bool true, .int .i64 (2)], .agg [.int .i64 (1), .bool true, .int .i64 (2)], .agg [.int .i64 (1), .bool true, .int .i64 (3)], .agg [.int .i64 (1), .bool true, .int .i64 (0)]]])⟩
theorem e39_ok : EntryOK PP e39 := entry_of (callT_sound none0_ok E0_ok noCount mixed t38_ok 2000 40) (by kernel_rfl : gives (callT PP E0 none0 t38 2000 40 e39.f e39.args e39.G) e39.r = true)
def t39 : List Entry := e39 :: t38
theorem t39_ok : TabOK PP t39 := .cons e39_ok t38_ok
end
end Go.Ks
