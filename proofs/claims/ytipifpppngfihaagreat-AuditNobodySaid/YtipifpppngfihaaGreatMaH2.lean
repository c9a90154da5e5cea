/- Functions' texts, compiled with hints, are what the compile makes of them. No condition. -/
import Derived.Test.YtipifpppngfihaaGreatMaT
import Derived.KernelRfl
namespace Go.Proofs.YtipifpppngfihaaGreat.ma
open Go.Ab
noncomputable def o123 : Option IFn := compF2 CX [] Tryz.f123
theorem e123 : compF CX Tryz.f123 = o123 := by kernel_rfl
noncomputable def o124 : Option IFn := compF2 CX [(4, [(0, 0), (1, 0), (2, 0), (3, 0), (4, 0), (5, 0), (6, 0), (7, 0), (8, 0), (9, 0), (10, 0), (11, 0), (12, 0)])] Tryz.f124
theorem e124 : compF CX Tryz.f124 = o124 := by kernel_rfl
noncomputable def o125 : Option IFn := compF2 CX [(1, [(0, 0), (1, 0), (2, 0), (3, 0), (4, 0), (5, 0), (6, 0), (7, 0), (8, 0)])] Tryz.f125
theorem e125 : compF CX Tryz.f125 = o125 := by kernel_rfl
noncomputable def o126 : Option IFn := compF2 CX [(4, [(0, 0), (1, 0), (3, 0), (4, 1), (7, 0), (8, 2), (11, 0), (12, 3), (15, 0), (16, 4), (19, 0), (20, 5), (23, 0), (24, 6), (27, 0), (28, 7), (29, 0), (30, 0), (2, 0), (5, 0), (6, 0), (9, 0), (10, 0), (13, 0), (14, 0), (17, 0), (18, 0), (21, 0), (22, 0), (25, 0), (26, 0), (31, 0), (32, 0), (33, 0)])] Tryz.f126
theorem e126 : compF CX Tryz.f126 = o126 := by kernel_rfl
noncomputable def o127 : Option IFn := compF2 CX [] Tryz.f127
theorem e127 : compF CX Tryz.f127 = o127 := by kernel_rfl
noncomputable def o128 : Option IFn := compF2 CX [] Tryz.f128
theorem e128 : compF CX Tryz.f128 = o128 := by kernel_rfl
end Go.Proofs.YtipifpppngfihaaGreat.ma
