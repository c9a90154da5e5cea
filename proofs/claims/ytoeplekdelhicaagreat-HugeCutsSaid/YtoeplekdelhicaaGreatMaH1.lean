/- Functions' texts, compiled with hints, are what the compile makes of them. No condition. -/
import Derived.Test.YtoeplekdelhicaaGreatMaT
import Derived.KernelRfl
namespace Go.Proofs.YtoeplekdelhicaaGreat.ma
open Go.Ab
noncomputable def o63 : Option IFn := compF2 CX [(3, [(0, 0), (1, 0), (2, 0), (3, 0), (4, 0), (5, 0), (6, 0), (7, 0)])] Tryz.f63
theorem e63 : compF CX Tryz.f63 = o63 := by kernel_rfl
noncomputable def o64 : Option IFn := compF2 CX [] Tryz.f64
theorem e64 : compF CX Tryz.f64 = o64 := by kernel_rfl
noncomputable def o65 : Option IFn := compF2 CX [] Tryz.f65
theorem e65 : compF CX Tryz.f65 = o65 := by kernel_rfl
noncomputable def o66 : Option IFn := compF2 CX [] Tryz.f66
theorem e66 : compF CX Tryz.f66 = o66 := by kernel_rfl
noncomputable def o67 : Option IFn := compF2 CX [] Tryz.f67
theorem e67 : compF CX Tryz.f67 = o67 := by kernel_rfl
noncomputable def o68 : Option IFn := compF2 CX [] Tryz.f68
theorem e68 : compF CX Tryz.f68 = o68 := by kernel_rfl
noncomputable def o69 : Option IFn := compF2 CX [] Tryz.f69
theorem e69 : compF CX Tryz.f69 = o69 := by kernel_rfl
noncomputable def o70 : Option IFn := compF2 CX [] Tryz.f70
theorem e70 : compF CX Tryz.f70 = o70 := by kernel_rfl
noncomputable def o71 : Option IFn := compF2 CX [(5, [(0, 0), (1, 0), (2, 0), (3, 0), (4, 0), (6, 0), (5, 0), (7, 0)]), (13, [(0, 0), (1, 0), (2, 0), (3, 0), (4, 0), (5, 0), (6, 0), (7, 1), (8, 0), (9, 1), (10, 0), (11, 0), (12, 0), (13, 0)])] Tryz.f71
theorem e71 : compF CX Tryz.f71 = o71 := by kernel_rfl
noncomputable def o72 : Option IFn := compF2 CX [] Tryz.f72
theorem e72 : compF CX Tryz.f72 = o72 := by kernel_rfl
noncomputable def o73 : Option IFn := compF2 CX [(1, [(0, 0), (1, 0), (2, 0), (3, 1), (4, 0), (5, 0), (6, 0), (7, 0), (8, 0), (10, 0), (9, 0), (11, 0)]), (4, [(0, 0), (1, 0), (2, 0), (3, 0), (4, 0), (5, 0), (6, 0), (7, 0), (8, 0), (9, 0), (10, 0), (11, 0)]), (9, [(0, 0), (1, 0), (2, 0), (3, 1), (4, 0), (5, 0), (6, 0), (7, 0), (8, 0), (9, 0), (10, 0), (11, 0), (12, 0)])] Tryz.f73
theorem e73 : compF CX Tryz.f73 = o73 := by kernel_rfl
noncomputable def o74 : Option IFn := compF2 CX [] Tryz.f74
theorem e74 : compF CX Tryz.f74 = o74 := by kernel_rfl
noncomputable def o75 : Option IFn := compF2 CX [] Tryz.f75
theorem e75 : compF CX Tryz.f75 = o75 := by kernel_rfl
noncomputable def o76 : Option IFn := compF2 CX [(4, [(0, 0), (1, 0), (2, 0), (3, 0), (4, 0), (5, 0), (6, 0), (7, 0), (8, 0)]), (5, [(0, 0), (1, 0), (2, 0), (3, 0), (4, 0), (5, 0), (6, 0), (7, 0), (8, 0), (9, 0), (10, 0), (11, 0), (12, 0)])] Tryz.f76
theorem e76 : compF CX Tryz.f76 = o76 := by kernel_rfl
noncomputable def o77 : Option IFn := compF2 CX [] Tryz.f77
theorem e77 : compF CX Tryz.f77 = o77 := by kernel_rfl
noncomputable def o78 : Option IFn := compF2 CX [] Tryz.f78
theorem e78 : compF CX Tryz.f78 = o78 := by kernel_rfl
noncomputable def o79 : Option IFn := compF2 CX [(5, [(0, 0), (1, 0), (2, 1), (3, 0), (4, 0), (8, 0), (10, 0), (5, 0), (6, 0), (7, 0), (9, 0), (11, 0)])] Tryz.f79
theorem e79 : compF CX Tryz.f79 = o79 := by kernel_rfl
noncomputable def o80 : Option IFn := compF2 CX [(4, [(0, 0), (1, 0), (2, 0), (7, 0), (8, 0), (9, 2), (3, 0), (4, 0), (5, 0), (6, 0), (10, 0)])] Tryz.f80
theorem e80 : compF CX Tryz.f80 = o80 := by kernel_rfl
noncomputable def o81 : Option IFn := compF2 CX [(4, [(0, 0), (1, 0), (2, 1), (3, 0), (6, 0), (4, 0), (5, 0), (7, 0), (8, 0), (9, 0)]), (15, [(0, 0), (2, 0), (3, 0), (5, 0), (6, 2), (7, 0), (8, 2), (1, 0), (4, 0), (9, 0)]), (19, [(0, 0), (2, 0), (3, 0), (4, 1), (5, 0), (1, 0), (6, 0)])] Tryz.f81
theorem e81 : compF CX Tryz.f81 = o81 := by kernel_rfl
noncomputable def o82 : Option IFn := compF2 CX [(5, [(0, 0), (1, 0), (2, 1), (3, 0), (4, 0), (7, 0), (10, 0), (5, 0), (6, 0), (8, 0), (9, 0), (11, 0)]), (10, [(0, 0), (1, 0), (2, 0), (5, 0), (6, 3), (7, 2), (3, 0), (4, 0), (8, 0), (9, 0)]), (11, [(0, 1), (1, 0), (2, 0), (3, 0), (4, 0), (5, 0)])] Tryz.f82
theorem e82 : compF CX Tryz.f82 = o82 := by kernel_rfl
noncomputable def o83 : Option IFn := compF2 CX [] Tryz.f83
theorem e83 : compF CX Tryz.f83 = o83 := by kernel_rfl
noncomputable def o84 : Option IFn := compF2 CX [(3, [(0, 0), (1, 0), (2, 0), (3, 0), (4, 0), (5, 0), (6, 0), (7, 0), (8, 0), (9, 0)])] Tryz.f84
theorem e84 : compF CX Tryz.f84 = o84 := by kernel_rfl
noncomputable def o85 : Option IFn := compF2 CX [] Tryz.f85
theorem e85 : compF CX Tryz.f85 = o85 := by kernel_rfl
noncomputable def o86 : Option IFn := compF2 CX [] Tryz.f86
theorem e86 : compF CX Tryz.f86 = o86 := by kernel_rfl
noncomputable def o87 : Option IFn := compF2 CX [(5, [(0, 0), (1, 0), (2, 0), (3, 0), (4, 0), (5, 0), (6, 0), (7, 0), (8, 1), (9, 0), (10, 0)]), (8, [(0, 0), (1, 0), (2, 0), (3, 0), (4, 0), (5, 0), (6, 0), (7, 0), (8, 0), (9, 0), (10, 0), (11, 0), (12, 0), (13, 0), (14, 0), (15, 0), (16, 0), (17, 0), (18, 0), (19, 0)]), (10, [(0, 0), (1, 0), (2, 0), (3, 0), (4, 0), (5, 0), (6, 0), (7, 0), (8, 0), (9, 0), (10, 0), (11, 0), (12, 0), (13, 0), (14, 0), (15, 0), (16, 0), (17, 0), (18, 0), (19, 0), (20, 0), (21, 0), (22, 0), (23, 0), (24, 0), (25, 0), (26, 0), (27, 0), (28, 0), (29, 0)])] Tryz.f87
theorem e87 : compF CX Tryz.f87 = o87 := by kernel_rfl
noncomputable def o88 : Option IFn := compF2 CX [] Tryz.f88
theorem e88 : compF CX Tryz.f88 = o88 := by kernel_rfl
noncomputable def o89 : Option IFn := compF2 CX [] Tryz.f89
theorem e89 : compF CX Tryz.f89 = o89 := by kernel_rfl
noncomputable def o90 : Option IFn := compF2 CX [] Tryz.f90
theorem e90 : compF CX Tryz.f90 = o90 := by kernel_rfl
noncomputable def o91 : Option IFn := compF2 CX [] Tryz.f91
theorem e91 : compF CX Tryz.f91 = o91 := by kernel_rfl
noncomputable def o92 : Option IFn := compF2 CX [(6, [(0, 1), (1, 0), (2, 0), (3, 0), (4, 0), (5, 1), (6, 0), (7, 0), (8, 1), (9, 1), (10, 0), (11, 0), (12, 0), (14, 1), (13, 0), (15, 0), (16, 0), (17, 0), (18, 0), (19, 0)])] Tryz.f92
theorem e92 : compF CX Tryz.f92 = o92 := by kernel_rfl
noncomputable def o93 : Option IFn := compF2 CX [] Tryz.f93
theorem e93 : compF CX Tryz.f93 = o93 := by kernel_rfl
noncomputable def o94 : Option IFn := compF2 CX [(5, [(0, 0), (1, 0), (2, 0), (3, 0), (4, 0), (5, 0), (6, 0), (7, 0), (8, 0), (9, 0), (10, 0), (11, 0), (12, 0)])] Tryz.f94
theorem e94 : compF CX Tryz.f94 = o94 := by kernel_rfl
noncomputable def o95 : Option IFn := compF2 CX [] Tryz.f95
theorem e95 : compF CX Tryz.f95 = o95 := by kernel_rfl
noncomputable def o96 : Option IFn := compF2 CX [] Tryz.f96
theorem e96 : compF CX Tryz.f96 = o96 := by kernel_rfl
noncomputable def o97 : Option IFn := compF2 CX [(7, [(0, 0), (1, 0), (2, 0), (4, 0), (5, 0), (8, 0), (3, 0), (6, 0), (7, 0), (9, 0)]), (9, [(0, 0), (1, 0), (2, 0), (4, 1), (5, 0), (6, 0), (3, 0), (7, 0), (8, 0)])] Tryz.f97
theorem e97 : compF CX Tryz.f97 = o97 := by kernel_rfl
noncomputable def o98 : Option IFn := compF2 CX [(1, [(0, 1), (1, 1), (2, 0), (3, 0), (4, 0), (5, 1), (6, 1), (7, 0), (8, 0), (9, 0), (10, 0), (12, 1), (11, 0), (13, 0), (14, 0), (15, 0)])] Tryz.f98
theorem e98 : compF CX Tryz.f98 = o98 := by kernel_rfl
noncomputable def o99 : Option IFn := compF2 CX [] Tryz.f99
theorem e99 : compF CX Tryz.f99 = o99 := by kernel_rfl
noncomputable def o100 : Option IFn := compF2 CX [(5, [(0, 0), (1, 0), (2, 0), (3, 4), (4, 0), (5, 0), (6, 0), (7, 0), (8, 0), (9, 0), (10, 0)]), (10, [(0, 0), (2, 0), (3, 0), (4, 0), (5, 0), (6, 2), (7, 0), (1, 0), (8, 0)])] Tryz.f100
theorem e100 : compF CX Tryz.f100 = o100 := by kernel_rfl
noncomputable def o101 : Option IFn := compF2 CX [(8, [(0, 0), (1, 0), (3, 0), (4, 1), (2, 0), (5, 0)])] Tryz.f101
theorem e101 : compF CX Tryz.f101 = o101 := by kernel_rfl
noncomputable def o102 : Option IFn := compF2 CX [] Tryz.f102
theorem e102 : compF CX Tryz.f102 = o102 := by kernel_rfl
noncomputable def o103 : Option IFn := compF2 CX [(6, [(0, 0), (2, 0), (3, 0), (4, 1), (1, 0), (5, 0)]), (9, [(0, 0), (2, 0), (3, 0), (4, 1), (1, 0), (5, 0)])] Tryz.f103
theorem e103 : compF CX Tryz.f103 = o103 := by kernel_rfl
noncomputable def o104 : Option IFn := compF2 CX [(4, [(0, 0), (1, 0), (2, 0), (4, 0), (5, 1), (10, 0), (3, 0), (6, 0), (7, 0), (8, 0), (9, 0), (11, 0), (12, 0)]), (7, [(0, 0), (2, 0), (3, 1), (1, 0), (4, 0), (5, 0), (6, 0), (7, 0), (8, 0), (9, 0)]), (10, [(0, 0), (2, 0), (3, 1), (1, 0), (4, 0), (5, 0), (6, 0)]), (14, [(0, 0), (2, 0), (3, 1), (4, 0), (5, 2), (6, 0), (7, 0), (8, 1), (1, 0), (9, 0)]), (17, [(0, 0), (1, 0), (2, 0), (5, 2), (6, 2), (3, 0), (4, 0), (7, 0), (8, 0), (9, 0)])] Tryz.f104
theorem e104 : compF CX Tryz.f104 = o104 := by kernel_rfl
noncomputable def o105 : Option IFn := compF2 CX [(2, [(0, 0), (1, 0), (2, 1), (3, 0), (4, 0), (5, 0), (6, 0), (7, 0)]), (3, [(0, 0), (1, 0), (2, 0), (3, 0), (6, 0), (7, 2), (8, 0), (9, 3), (10, 0), (4, 0), (5, 0), (11, 0)]), (8, [(0, 0), (2, 0), (3, 1), (4, 0), (5, 2), (6, 0), (1, 0), (7, 0), (8, 0), (9, 0), (10, 0), (11, 0), (12, 0), (13, 0)]), (12, [(0, 0), (2, 0), (3, 0), (4, 1), (1, 0), (5, 0), (6, 0), (7, 0)]), (14, [(0, 0), (2, 0), (3, 1), (1, 0), (4, 0), (5, 0), (6, 0)]), (22, [(0, 0), (2, 0), (3, 1), (4, 0), (5, 0), (6, 1), (7, 0), (8, 1), (1, 0), (9, 0)]), (23, [(0, 0), (2, 0), (3, 1), (4, 0), (5, 2), (6, 0), (7, 0), (8, 1), (1, 0), (9, 0)])] Tryz.f105
theorem e105 : compF CX Tryz.f105 = o105 := by kernel_rfl
noncomputable def o106 : Option IFn := compF2 CX [] Tryz.f106
theorem e106 : compF CX Tryz.f106 = o106 := by kernel_rfl
noncomputable def o107 : Option IFn := compF2 CX [(6, [(0, 0), (1, 0), (2, 0), (3, 0), (4, 0), (5, 0), (6, 0), (7, 0), (8, 0)])] Tryz.f107
theorem e107 : compF CX Tryz.f107 = o107 := by kernel_rfl
noncomputable def o108 : Option IFn := compF2 CX [] Tryz.f108
theorem e108 : compF CX Tryz.f108 = o108 := by kernel_rfl
noncomputable def o109 : Option IFn := compF2 CX [] Tryz.f109
theorem e109 : compF CX Tryz.f109 = o109 := by kernel_rfl
noncomputable def o110 : Option IFn := compF2 CX [(5, [(0, 0), (2, 1), (1, 0), (3, 0), (4, 0), (5, 0), (6, 0), (7, 0), (8, 0)])] Tryz.f110
theorem e110 : compF CX Tryz.f110 = o110 := by kernel_rfl
noncomputable def o111 : Option IFn := compF2 CX [] Tryz.f111
theorem e111 : compF CX Tryz.f111 = o111 := by kernel_rfl
noncomputable def o112 : Option IFn := compF2 CX [(4, [(0, 0), (1, 0), (4, 0), (5, 2), (2, 0), (3, 0), (6, 0)]), (7, [(0, 0), (2, 0), (3, 1), (1, 0), (4, 0)]), (11, [(0, 0), (1, 0), (2, 0), (3, 0), (4, 0), (5, 0), (6, 0), (7, 0), (8, 0), (9, 0), (10, 0), (11, 0)]), (18, [(0, 0), (2, 0), (3, 1), (1, 0), (4, 0), (5, 0), (6, 0)])] Tryz.f112
theorem e112 : compF CX Tryz.f112 = o112 := by kernel_rfl
noncomputable def o113 : Option IFn := compF2 CX [] Tryz.f113
theorem e113 : compF CX Tryz.f113 = o113 := by kernel_rfl
noncomputable def o114 : Option IFn := compF2 CX [(2, [(0, 0), (1, 0), (2, 0), (3, 0), (4, 0), (5, 0), (6, 0), (7, 0)])] Tryz.f114
theorem e114 : compF CX Tryz.f114 = o114 := by kernel_rfl
noncomputable def o115 : Option IFn := compF2 CX [(6, [(0, 0), (2, 0), (3, 2), (4, 0), (5, 1), (1, 0), (6, 0), (7, 0), (8, 0), (9, 0), (10, 0), (11, 0)])] Tryz.f115
theorem e115 : compF CX Tryz.f115 = o115 := by kernel_rfl
noncomputable def o116 : Option IFn := compF2 CX [] Tryz.f116
theorem e116 : compF CX Tryz.f116 = o116 := by kernel_rfl
noncomputable def o117 : Option IFn := compF2 CX [] Tryz.f117
theorem e117 : compF CX Tryz.f117 = o117 := by kernel_rfl
noncomputable def o118 : Option IFn := compF2 CX [] Tryz.f118
theorem e118 : compF CX Tryz.f118 = o118 := by kernel_rfl
noncomputable def o119 : Option IFn := compF2 CX [(2, [(0, 0), (1, 1), (2, 0), (3, 0), (4, 0), (5, 0)])] Tryz.f119
theorem e119 : compF CX Tryz.f119 = o119 := by kernel_rfl
noncomputable def o120 : Option IFn := compF2 CX [(3, [(0, 0), (2, 0), (3, 0), (4, 1), (5, 0), (6, 0), (7, 2), (8, 0), (1, 0), (9, 0), (10, 0), (11, 0), (12, 0), (13, 0), (14, 0)]), (5, [(0, 0), (2, 0), (3, 1), (1, 0), (4, 0), (5, 0), (6, 0)])] Tryz.f120
theorem e120 : compF CX Tryz.f120 = o120 := by kernel_rfl
noncomputable def o121 : Option IFn := compF2 CX [] Tryz.f121
theorem e121 : compF CX Tryz.f121 = o121 := by kernel_rfl
noncomputable def o122 : Option IFn := compF2 CX [(4, [(0, 0), (1, 0), (2, 0), (3, 0), (4, 0), (5, 0), (6, 0), (7, 0), (8, 0), (9, 0), (10, 0), (11, 0)])] Tryz.f122
theorem e122 : compF CX Tryz.f122 = o122 := by kernel_rfl
end Go.Proofs.YtoeplekdelhicaaGreat.ma
