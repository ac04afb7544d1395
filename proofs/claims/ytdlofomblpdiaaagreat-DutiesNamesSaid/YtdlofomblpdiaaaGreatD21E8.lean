/- Written by entries.py: proved answers. -/
import Derived.Test.YtdlofomblpdiaaaGreatD21E7
namespace Go.Ks
noncomputable section
set_option maxRecDepth 1000000
/-- keysmith/lengths.one -/
def e32 : Entry := ⟨63, [.sl 0 0 4, .p (.agg [.int .i64 (1), .int .i64 (2), .int .i64 (-1), .int .i64 (-1), .int .i64 (-1), .int .i64 (-1), .int .u64 (6)])], [.arr 3 [.agg [.int .i64 (1), .bool true, .int .i64 (2)], .agg [.int .i64 (1), .bool true, .int .i64 (2)], .agg [.int .i64 (1), .bool true, .int .i64 (3)], .agg [.int .i64 (1), .bool true, .int .i64 (0)]]], (.p (.bool true), [.arr 3 [.agg [.int .i64 (1), .bool true, .int .i64 (2)], .agg [.int .i64 (1), .bool true, .int .i64 (2)], .agg [.int .i64 (1), .bool true, .int .i64 (3)], .agg [.int .i64 (1), .bool true, .int .i64 (0)]]])⟩
theorem e32_ok : EntryOK PP e32 := entry_of (callT_sound none0_ok E0_ok noCount mixed t31_ok 2000 40) (by kernel_rfl : gives (callT PP E0 none0 t31 2000 40 e32.f e32.args e32.G) e32.r = true)
def t32 : List Entry := e32 :: t31
theorem t32_ok : TabOK PP t32 := .cons e32_ok t31_ok
/-- keysmith/lengths.one -/
def e33 : Entry := ⟨63, [.sl 0 0 4, .p (.agg [.int .i64 (15), .int .i64 (-1), .int .i64 (-1), .int .i64 (-1), .int .i64 (-1), .int .i64 (-1), .int .u64 (2)])], [.arr 3 [.agg [.int .i64 (1), .bool true, .int .i64 (2)], .agg [.int .i64 (1), .bool true, .int .i64 (2)], .agg [.int .i64 (1), .bool true, .int .i64 (3)], .agg [.int .i64 (1), .bool true, .int .i64 (0)]]], (.p (.bool true), [.arr 3 [.agg [.int .i64 (1), .bool true, .int .i64 (2)], .agg [.int .i64 (1), .bool true, .int .i64 (2)], .agg [.int .i64 (1), .bool true, .int .i64 (3)], .agg [.int .i64 (1), .bool true, .int .i64 (0)]]])⟩
theorem e33_ok : EntryOK PP e33 := entry_of (callT_sound none0_ok E0_ok noCount mixed t32_ok 2000 40) (by kernel_rfl : gives (callT PP E0 none0 t32 2000 40 e33.f e33.args e33.G) e33.r = true)
def t33 : List Entry := e33 :: t32
theorem t33_ok : TabOK PP t33 := .cons e33_ok t32_ok
/-- keysmith/lengths.one -/
def e34 : Entry := ⟨63, [.sl 0 0 4, .p (.agg [.int .i64 (9), .int .i64 (2), .int .i64 (-1), .int .i64 (2), .int .i64 (-1), .int .i64 (1), .int .u64 (0)])], [.arr 3 [.agg [.int .i64 (1), .bool true, .int .i64 (2)], .agg [.int .i64 (1), .bool true, .int .i64 (2)], .agg [.int .i64 (1), .bool true, .int .i64 (3)], .agg [.int .i64 (1), .bool true, .int .i64 (0)]]], (.p (.bool true), [.arr 3 [.agg [.int .i64 (1), .bool true, .int .i64 (2)], .agg [.int .i64 (1), .bool true, .int .i64 (2)], .agg [.int .i64 (1), .bool true, .int .i64 (3)], .agg [.int .i64 (1), .bool true, .int .i64 (0)]]])⟩
theorem e34_ok : EntryOK PP e34 := entry_of (callT_sound none0_ok E0_ok noCount mixed t33_ok 2000 40) (by kernel_rfl : gives (callT PP E0 none0 t33 2000 40 e34.f e34.args e34.G) e34.r = true)
def t34 : List Entry := e34 :: t33
theorem t34_ok : TabOK PP t34 := .cons e34_ok t33_ok
/-- keysmith/lengths.one -/
def e35 : Entry := ⟨63, [.sl 0 0 4, .p (.agg [.int .i64 (1), .int .i64 (2), .int .i64 (-1), .int .i64 (-1), .int .i64 (-1), .int .i64 (-1), .int .u64 (3)])], [.arr 3 [.agg [.int .i64 (1), .bool true, .int .i64 (2)], .agg [.int .i64 (1), .bool true, .int .i64 (2)], .agg [.int .i64 (1), .bool true, .int .i64 (3)], .agg [.int .i64 (1), .bool true, .int .i64 (0)]]], (.p (.bool true), [.arr 3 [.agg [.int .i64 (1), .bool true, .int .i64 (2)], .agg [.int .i64 (1), .bool true, .int .i64 (2)], .agg [.int .i64 (1), .bool true, .int .i64 (3)], .agg [.int .i64 (1), .bool true, .int .i64 (0)]]])⟩
theorem e35_ok : EntryOK PP e35 := entry_of (callT_sound none0_ok E0_ok noCount mixed t34_ok 2000 40) (by kernel_rfl : gives (callT PP E0 none0 t34 2000 40 e35.f e35.args e35.G) e35.r = true)
def t35 : List Entry := e35 :: t34
theorem t35_ok : TabOK PP t35 := .cons e35_ok t34_ok
end
end Go.Ks
