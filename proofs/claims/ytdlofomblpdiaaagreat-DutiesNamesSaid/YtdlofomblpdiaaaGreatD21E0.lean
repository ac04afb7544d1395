/- Written by entries.py: proved answers. -/
import Derived.Test.YtdlofomblpdiaaaGreatD21EBase
namespace Go.Ks
noncomputable section
set_option maxRecDepth 1000000
/-- keysmith/lengths.one -/
def e0 : Entry := ⟨63, [.sl 0 0 3, .p (.agg [.int .i64 (12), .int .i64 (2), .int .i64 (-1), .int .i64 (0), .int .i64 (0), .int .i64 (1), .int .u64 (0)])], [.arr 3 [.agg [.int .i64 (1), .bool true, .int .i64 (2)], .agg [.int .i64 (1), .bool true, .int .i64 (2)], .agg [.int .i64 (1), .bool true, .int .i64 (3)]]], (.p (.bool true), [.arr 3 [.agg [.int .i64 (1), .bool true, .int .i64 (2)], .agg [.int .i64 (1), .bool true, .int .i64 (2)], .agg [.int .i64 (1), .bool true, .int .i64 (3)]]])⟩
theorem e0_ok : EntryOK PP e0 := entry_of (callT_sound none0_ok E0_ok noCount mixed TabOK.nil 2000 40) (by kernel_rfl : gives (callT PP E0 none0 [] 2000 40 e0.f e0.args e0.G) e0.r = true)
def t0 : List Entry := e0 :: []
theorem t0_ok : TabOK PP t0 := .cons e0_ok TabOK.nil
/-- keysmith/lengths.Check -/
def e1 : Entry := ⟨37, [.agg [.sl 0 0 3, .sl 1 0 1, .sl 2 0 2]], [.arr 3 [.agg [.int .i64 (1), .bool true, .int .i64 (2)], .agg [.int .i64 (1), .bool true, .int .i64 (2)], .agg [.int .i64 (1), .bool true, .int .i64 (3)]], .arr 7 [.agg [.int .i64 (12), .int .i64 (2), .int .i64 (-1), .int .i64 (0), .int .i64 (0), .int .i64 (1), .int .u64 (0)]], .arr 7 [.agg [.int .i64 (17), .int .i64 (-1), .int .i64 (-1), .int .i64 (1), .int .i64 (-1), .int .i64 (-1), .int .u64 (1)], .agg [.int .i64 (17), .int .i64 (-1), .int .i64 (-1), .int .i64 (0), .int .i64 (1), .int .i64 (-1), .int .u64 (2)]]], (.p (.int .i64 (0)), [.arr 3 [.agg [.int .i64 (1), .bool true, .int .i64 (2)], .agg [.int .i64 (1), .bool true, .int .i64 (2)], .agg [.int .i64 (1), .bool true, .int .i64 (3)]], .arr 7 [.agg [.int .i64 (12), .int .i64 (2), .int .i64 (-1), .int .i64 (0), .int .i64 (0), .int .i64 (1), .int .u64 (0)]], .arr 7 [.agg [.int .i64 (17), .int .i64 (-1), .int .i64 (-1), .int .i64 (1), .int .i64 (-1), .int .i64 (-1), .int .u64 (1)], .agg [.int .i64 (17), .int .i64 (-1), .int .i64 (-1), .int .i64 (0), .int .i64 (1), .int .i64 (-1), .int .u64 (2)]]])⟩
theorem e1_ok : EntryOK PP e1 := entry_of (callT_sound none0_ok E0_ok noCount mixed t0_ok 2000 40) (by kernel_rfl : gives (callT PP E0 none0 t0 2000 40 e1.f e1.args e1.G) e1.r = true)
def t1 : List Entry := e1 :: t0
theorem t1_ok : TabOK PP t1 := .cons e1_ok t0_ok
/-- keysmith/lengths.Ends -/
def e2 : Entry := ⟨47, [.agg [.sl 0 0 3, .sl 1 0 1, .sl 2 0 2]], [.arr 3 [.agg [.int .i64 (1), .bool true, .int .i64 (2)], .agg [.int .i64 (1), .bool true, .int .i64 (2)], .agg [.int .i64 (1), .bool true, .int .i64 (3)]], .arr 7 [.agg [.int .i64 (12), .int .i64 (2), .int .i64 (-1), .int .i64 (0), .int .i64 (0), .int .i64 (1), .int .u64 (0)]], .arr 7 [.agg [.int .i64 (17), .int .i64 (-1), .int .i64 (-1), .int .i64 (1), .int .i64 (-1), .int .i64 (-1), .int .u64 (1)], .agg [.int .i64 (17), .int .i64 (-1), .int .i64 (-1), .int .i64 (0), .int .i64 (1), .int .i64 (-1), .int .u64 (2)]]], (.sl 3 0 1, [.arr 3 [.agg [.int .i64 (1), .bool true, .int .i64 (2)], .agg [.int .i64 (1), .bool true, .int .i64 (2)], .agg [.int .i64 (1), .bool true, .int .i64 (3)]], .arr 7 [.agg [.int .i64 (12), .int .i64 (2), .int .i64 (-1), .int .i64 (0), .int .i64 (0), .int .i64 (1), .int .u64 (0)]], .arr 7 [.agg [.int .i64 (17), .int .i64 (-1), .int .i64 (-1), .int .i64 (1), .int .i64 (-1), .int .i64 (-1), .int .u64 (1)], .agg [.int .i64 (17), .int .i64 (-1), .int .i64 (-1), .int .i64 (0), .int .i64 (1), .int .i64 (-1), .int .u64 (2)]], .arr 1 [.int .i64 (-1)]])⟩
theorem e2_ok : EntryOK PP e2 := entry_of (callT_sound none0_ok E0_ok noCount mixed t1_ok 2000 40) (by kernel_rfl : gives (callT PP E0 none0 t1 2000 40 e2.f e2.args e2.G) e2.r = true)
def t2 : List Entry := e2 :: t1
theorem t2_ok : TabOK PP t2 := .cons e2_ok t1_ok
/-- keysmith/duties.Start -/
def e3 : Entry := ⟨25, [.agg [.sl 0 0 3, .sl 1 0 1, .sl 2 0 2]], [.arr 3 [.agg [.int .i64 (1), .bool true, .int .i64 (2)], .agg [.int .i64 (1), .bool true, .int .i64 (2)], .agg [.int .i64 (1), .bool true, .int .i64 (3)]], .arr 7 [.agg [.int .i64 (12), .int .i64 (2), .int .i64 (-1), .int .i64 (0), .int .i64 (0), .int .i64 (1), .int .u64 (0)]], .arr 7 [.agg [.int .i64 (17), .int .i64 (-1), .int .i64 (-1), .int .i64 (1), .int .i64 (-1), .int .i64 (-1), .int .u64 (1)], .agg [.int .i64 (17), .int .i64 (-1), .int .i64 (-1), .int .i64 (0), .int .i64 (1), .int .i64 (-1), .int .u64 (2)]]], (.sl 3 0 2, [.arr 3 [.agg [.int .i64 (1), .bool true, .int .i64 (2)], .agg [.int .i64 (1), .bool true, .int .i64 (2)], .agg [.int .i64 (1), .bool true, .int .i64 (3)]], .arr 7 [.agg [.int .i64 (12), .int .i64 (2), .int .i64 (-1), .int .i64 (0), .int .i64 (0), .int .i64 (1), .int .u64 (0)]], .arr 7 [.agg [.int .i64 (17), .int .i64 (-1), .int .i64 (-1), .int .i64 (1), .int .i64 (-1), .int .i64 (-1), .int .u64 (1)], .agg [.int .i64 (17), .int .i64 (-1), .int .i64 (-1), .int .i64 (0), .int .i64 (1), .int .i64 (-1), .int .u64 (2)]], .arr 3 [.agg [.int .i64 (1), .int .i64 (1), .int .i64 (-1)], .agg [.int .i64 (2), .int .i64 (0), .int .i64 (1)]]])⟩
theorem e3_ok : EntryOK PP e3 := entry_of (callT_sound none0_ok E0_ok noCount mixed t2_ok 2000 40) (by kernel_rfl : gives (callT PP E0 none0 t2 2000 40 e3.f e3.args e3.G) e3.r = true)
def t3 : List Entry := e3 :: t2
theorem t3_ok : TabOK PP t3 := .cons e3_ok t2_ok
end
end Go.Ks
