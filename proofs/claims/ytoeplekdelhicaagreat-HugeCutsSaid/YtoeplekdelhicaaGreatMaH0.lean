/- Functions' texts, compiled with hints, are what the compile makes of them. No condition. -/
import Derived.Test.YtoeplekdelhicaaGreatMaT
import Derived.KernelRfl
namespace Go.Proofs.YtoeplekdelhicaaGreat.ma
open Go.Ab
noncomputable def o3 : Option IFn := compF2 CX [(14, [(0, 0), (1, 0), (4, 0), (5, 2), (2, 0), (3, 0), (6, 0), (7, 0), (8, 0), (9, 0)]), (18, [(0, 0), (1, 0), (4, 0), (5, 2), (9, 0), (10, 0), (11, 0), (2, 0), (3, 0), (6, 0), (7, 0), (8, 0), (12, 0)])] Tryz.f3
theorem e3 : compF CX Tryz.f3 = o3 := by kernel_rfl
noncomputable def o4 : Option IFn := compF2 CX [] Tryz.f4
theorem e4 : compF CX Tryz.f4 = o4 := by kernel_rfl
noncomputable def o5 : Option IFn := compF2 CX [] Tryz.f5
theorem e5 : compF CX Tryz.f5 = o5 := by kernel_rfl
noncomputable def o6 : Option IFn := compF2 CX [(4, [(0, 1), (1, 0), (2, 0), (3, 0), (4, 0), (5, 0)])] Tryz.f6
theorem e6 : compF CX Tryz.f6 = o6 := by kernel_rfl
noncomputable def o7 : Option IFn := compF2 CX [(10, [(0, 0), (1, 0), (2, 0), (3, 0), (4, 0), (5, 0), (6, 0), (7, 0), (8, 0), (9, 0), (10, 0), (11, 0), (12, 0), (13, 1), (14, 0), (15, 0)])] Tryz.f7
theorem e7 : compF CX Tryz.f7 = o7 := by kernel_rfl
noncomputable def o8 : Option IFn := compF2 CX [] Tryz.f8
theorem e8 : compF CX Tryz.f8 = o8 := by kernel_rfl
noncomputable def o9 : Option IFn := compF2 CX [(4, [(0, 0), (1, 0), (2, 0), (3, 0), (4, 0), (5, 0)])] Tryz.f9
theorem e9 : compF CX Tryz.f9 = o9 := by kernel_rfl
noncomputable def o10 : Option IFn := compF2 CX [] Tryz.f10
theorem e10 : compF CX Tryz.f10 = o10 := by kernel_rfl
noncomputable def o11 : Option IFn := compF2 CX [(7, [(0, 0), (1, 0), (2, 0), (3, 0), (4, 0), (5, 0), (6, 0), (7, 0), (8, 0), (9, 0), (10, 0), (11, 0), (12, 0), (13, 0), (14, 0), (15, 0), (16, 0), (17, 0), (18, 0), (19, 0), (20, 0), (21, 0), (22, 0), (23, 0), (24, 0), (25, 0)]), (15, [(0, 0), (1, 0), (2, 0), (3, 0), (4, 0), (5, 0), (6, 0), (7, 0), (8, 0), (9, 0), (10, 0), (11, 0)])] Tryz.f11
theorem e11 : compF CX Tryz.f11 = o11 := by kernel_rfl
noncomputable def o12 : Option IFn := compF2 CX [(7, [(0, 0), (1, 0), (2, 0), (3, 0), (4, 0), (5, 0), (6, 0), (7, 0), (8, 0)])] Tryz.f12
theorem e12 : compF CX Tryz.f12 = o12 := by kernel_rfl
noncomputable def o13 : Option IFn := compF2 CX [] Tryz.f13
theorem e13 : compF CX Tryz.f13 = o13 := by kernel_rfl
noncomputable def o14 : Option IFn := compF2 CX [] Tryz.f14
theorem e14 : compF CX Tryz.f14 = o14 := by kernel_rfl
noncomputable def o15 : Option IFn := compF2 CX [] Tryz.f15
theorem e15 : compF CX Tryz.f15 = o15 := by kernel_rfl
noncomputable def o16 : Option IFn := compF2 CX [] Tryz.f16
theorem e16 : compF CX Tryz.f16 = o16 := by kernel_rfl
noncomputable def o17 : Option IFn := compF2 CX [] Tryz.f17
theorem e17 : compF CX Tryz.f17 = o17 := by kernel_rfl
noncomputable def o18 : Option IFn := compF2 CX [(3, [(0, 0), (1, 0), (2, 0), (3, 0), (4, 0), (5, 0), (6, 0), (7, 0), (8, 0), (9, 0), (10, 0), (11, 0), (12, 0), (13, 0), (14, 0)]), (8, [(0, 0), (1, 0), (3, 1), (2, 0), (4, 0), (5, 0), (6, 0), (7, 0), (8, 0), (9, 0)]), (9, [(0, 0), (1, 1), (2, 0), (3, 0), (4, 0), (5, 0), (6, 0), (7, 0), (8, 0), (9, 0), (10, 0), (11, 0)]), (15, [(0, 0), (1, 0), (2, 0), (3, 0), (4, 0), (5, 0), (6, 0), (7, 0), (8, 0), (9, 0), (10, 0), (11, 0), (12, 0), (13, 0), (14, 0), (15, 0), (16, 0), (17, 0)]), (18, [(0, 0), (1, 0), (2, 0), (3, 0), (4, 0), (5, 0), (6, 0), (7, 0), (8, 0), (9, 0), (10, 0), (11, 0), (12, 0), (13, 0), (14, 0)])] Tryz.f18
theorem e18 : compF CX Tryz.f18 = o18 := by kernel_rfl
noncomputable def o19 : Option IFn := compF2 CX [(6, [(0, 0), (1, 0), (2, 0), (3, 0), (4, 0), (5, 0), (6, 0), (7, 0)]), (7, [(0, 0), (1, 0), (2, 0), (3, 0), (4, 0), (5, 0), (6, 1), (7, 0), (8, 0), (9, 0), (10, 0), (11, 0), (12, 0)])] Tryz.f19
theorem e19 : compF CX Tryz.f19 = o19 := by kernel_rfl
noncomputable def o20 : Option IFn := compF2 CX [] Tryz.f20
theorem e20 : compF CX Tryz.f20 = o20 := by kernel_rfl
noncomputable def o21 : Option IFn := compF2 CX [] Tryz.f21
theorem e21 : compF CX Tryz.f21 = o21 := by kernel_rfl
noncomputable def o22 : Option IFn := compF2 CX [] Tryz.f22
theorem e22 : compF CX Tryz.f22 = o22 := by kernel_rfl
noncomputable def o23 : Option IFn := compF2 CX [] Tryz.f23
theorem e23 : compF CX Tryz.f23 = o23 := by kernel_rfl
noncomputable def o24 : Option IFn := compF2 CX [] Tryz.f24
theorem e24 : compF CX Tryz.f24 = o24 := by kernel_rfl
noncomputable def o25 : Option IFn := compF2 CX [] Tryz.f25
theorem e25 : compF CX Tryz.f25 = o25 := by kernel_rfl
noncomputable def o26 : Option IFn := compF2 CX [] Tryz.f26
theorem e26 : compF CX Tryz.f26 = o26 := by kernel_rfl
noncomputable def o27 : Option IFn := compF2 CX [] Tryz.f27
theorem e27 : compF CX Tryz.f27 = o27 := by kernel_rfl
noncomputable def o28 : Option IFn := compF2 CX [] Tryz.f28
theorem e28 : compF CX Tryz.f28 = o28 := by kernel_rfl
noncomputable def o29 : Option IFn := compF2 CX [] Tryz.f29
theorem e29 : compF CX Tryz.f29 = o29 := by kernel_rfl
noncomputable def o30 : Option IFn := compF2 CX [] Tryz.f30
theorem e30 : compF CX Tryz.f30 = o30 := by kernel_rfl
noncomputable def o31 : Option IFn := compF2 CX [(3, [(0, 0), (1, 0), (2, 0), (3, 0), (4, 0), (5, 0), (6, 0), (7, 0), (8, 0), (9, 0)])] Tryz.f31
theorem e31 : compF CX Tryz.f31 = o31 := by kernel_rfl
noncomputable def o32 : Option IFn := compF2 CX [(3, [(0, 0), (1, 0), (2, 0), (3, 0), (4, 0), (5, 0), (6, 0), (7, 0), (8, 0), (9, 0), (10, 0), (11, 0), (12, 0), (13, 0), (14, 0), (15, 0), (16, 0), (17, 0), (18, 0), (19, 0)])] Tryz.f32
theorem e32 : compF CX Tryz.f32 = o32 := by kernel_rfl
noncomputable def o33 : Option IFn := compF2 CX [] Tryz.f33
theorem e33 : compF CX Tryz.f33 = o33 := by kernel_rfl
noncomputable def o34 : Option IFn := compF2 CX [] Tryz.f34
theorem e34 : compF CX Tryz.f34 = o34 := by kernel_rfl
noncomputable def o35 : Option IFn := compF2 CX [] Tryz.f35
theorem e35 : compF CX Tryz.f35 = o35 := by kernel_rfl
noncomputable def o36 : Option IFn := compF2 CX [] Tryz.f36
theorem e36 : compF CX Tryz.f36 = o36 := by kernel_rfl
noncomputable def o37 : Option IFn := compF2 CX [(3, [(0, 0), (1, 0), (2, 0), (3, 0), (4, 0), (5, 0), (6, 0), (7, 0), (8, 0), (9, 0), (10, 0), (11, 0), (12, 0), (13, 0), (14, 0)]), (5, [(0, 0), (1, 0), (2, 0), (3, 0), (4, 0), (5, 0), (6, 0), (7, 0), (8, 0), (9, 0), (10, 0), (11, 0), (12, 0), (13, 0), (14, 0), (15, 0), (16, 0)])] Tryz.f37
theorem e37 : compF CX Tryz.f37 = o37 := by kernel_rfl
noncomputable def o38 : Option IFn := compF2 CX [(1, [(0, 0), (1, 0), (2, 0), (3, 0), (4, 0), (5, 0), (6, 0), (7, 0), (8, 0), (9, 0), (10, 0), (11, 0), (12, 0), (13, 0), (14, 0)]), (3, [(0, 0), (1, 0), (2, 0), (3, 0), (4, 0), (5, 1), (6, 0), (7, 0), (8, 0), (9, 0), (10, 0)])] Tryz.f38
theorem e38 : compF CX Tryz.f38 = o38 := by kernel_rfl
noncomputable def o39 : Option IFn := compF2 CX [(7, [(0, 0), (1, 0), (2, 0), (3, 1), (4, 0), (5, 0), (6, 0), (7, 0), (9, 0), (8, 0), (10, 0)]), (11, [(0, 0), (1, 0), (2, 0), (3, 0), (4, 0), (5, 0), (6, 0), (7, 0), (8, 0)])] Tryz.f39
theorem e39 : compF CX Tryz.f39 = o39 := by kernel_rfl
noncomputable def o40 : Option IFn := compF2 CX [(1, [(0, 0), (1, 0), (2, 0), (3, 0), (4, 0), (5, 0), (6, 0), (7, 0), (8, 1), (9, 0), (10, 0), (11, 0), (12, 0), (13, 0), (14, 0), (15, 1), (16, 0), (17, 0), (18, 1), (19, 0), (20, 0), (21, 0), (22, 0)]), (3, [(0, 0), (1, 0), (2, 0), (3, 0), (4, 0), (5, 0), (6, 0), (7, 0), (8, 0), (9, 0), (10, 0), (11, 0), (12, 0), (13, 0), (14, 0), (15, 0), (16, 0), (17, 0)]), (6, [(0, 0), (1, 0), (2, 0), (3, 0), (4, 0), (5, 0), (6, 0), (7, 0), (8, 0), (9, 0), (10, 0), (11, 0), (12, 0)]), (7, [(0, 0), (1, 0), (2, 0), (3, 0), (4, 0), (5, 1), (6, 0), (7, 0), (8, 0), (9, 0), (10, 0)])] Tryz.f40
theorem e40 : compF CX Tryz.f40 = o40 := by kernel_rfl
noncomputable def o41 : Option IFn := compF2 CX [(0, [(0, 0), (1, 0), (2, 0), (3, 0), (4, 0), (5, 0), (6, 1), (7, 0), (8, 0), (9, 0), (10, 0), (11, 0), (12, 0), (13, 0)])] Tryz.f41
theorem e41 : compF CX Tryz.f41 = o41 := by kernel_rfl
noncomputable def o42 : Option IFn := compF2 CX [] Tryz.f42
theorem e42 : compF CX Tryz.f42 = o42 := by kernel_rfl
noncomputable def o43 : Option IFn := compF2 CX [] Tryz.f43
theorem e43 : compF CX Tryz.f43 = o43 := by kernel_rfl
noncomputable def o44 : Option IFn := compF2 CX [] Tryz.f44
theorem e44 : compF CX Tryz.f44 = o44 := by kernel_rfl
noncomputable def o45 : Option IFn := compF2 CX [] Tryz.f45
theorem e45 : compF CX Tryz.f45 = o45 := by kernel_rfl
noncomputable def o46 : Option IFn := compF2 CX [] Tryz.f46
theorem e46 : compF CX Tryz.f46 = o46 := by kernel_rfl
noncomputable def o47 : Option IFn := compF2 CX [] Tryz.f47
theorem e47 : compF CX Tryz.f47 = o47 := by kernel_rfl
noncomputable def o48 : Option IFn := compF2 CX [(4, [(0, 0), (1, 1), (2, 1), (3, 0), (4, 0), (5, 0), (6, 1), (7, 0), (8, 0), (9, 1), (10, 0), (11, 0), (12, 0), (13, 1), (14, 0), (15, 0), (16, 0), (17, 0)])] Tryz.f48
theorem e48 : compF CX Tryz.f48 = o48 := by kernel_rfl
noncomputable def o49 : Option IFn := compF2 CX [] Tryz.f49
theorem e49 : compF CX Tryz.f49 = o49 := by kernel_rfl
noncomputable def o50 : Option IFn := compF2 CX [] Tryz.f50
theorem e50 : compF CX Tryz.f50 = o50 := by kernel_rfl
noncomputable def o51 : Option IFn := compF2 CX [] Tryz.f51
theorem e51 : compF CX Tryz.f51 = o51 := by kernel_rfl
noncomputable def o52 : Option IFn := compF2 CX [] Tryz.f52
theorem e52 : compF CX Tryz.f52 = o52 := by kernel_rfl
noncomputable def o53 : Option IFn := compF2 CX [] Tryz.f53
theorem e53 : compF CX Tryz.f53 = o53 := by kernel_rfl
noncomputable def o54 : Option IFn := compF2 CX [] Tryz.f54
theorem e54 : compF CX Tryz.f54 = o54 := by kernel_rfl
noncomputable def o55 : Option IFn := compF2 CX [] Tryz.f55
theorem e55 : compF CX Tryz.f55 = o55 := by kernel_rfl
noncomputable def o56 : Option IFn := compF2 CX [] Tryz.f56
theorem e56 : compF CX Tryz.f56 = o56 := by kernel_rfl
noncomputable def o57 : Option IFn := compF2 CX [] Tryz.f57
theorem e57 : compF CX Tryz.f57 = o57 := by kernel_rfl
noncomputable def o58 : Option IFn := compF2 CX [] Tryz.f58
theorem e58 : compF CX Tryz.f58 = o58 := by kernel_rfl
noncomputable def o59 : Option IFn := compF2 CX [(4, [(0, 0), (1, 0), (2, 0), (3, 0), (4, 0), (5, 0), (6, 0), (7, 0), (8, 0), (9, 0), (10, 0)])] Tryz.f59
theorem e59 : compF CX Tryz.f59 = o59 := by kernel_rfl
noncomputable def o60 : Option IFn := compF2 CX [] Tryz.f60
theorem e60 : compF CX Tryz.f60 = o60 := by kernel_rfl
noncomputable def o61 : Option IFn := compF2 CX [] Tryz.f61
theorem e61 : compF CX Tryz.f61 = o61 := by kernel_rfl
noncomputable def o62 : Option IFn := compF2 CX [] Tryz.f62
theorem e62 : compF CX Tryz.f62 = o62 := by kernel_rfl
end Go.Proofs.YtoeplekdelhicaaGreat.ma
