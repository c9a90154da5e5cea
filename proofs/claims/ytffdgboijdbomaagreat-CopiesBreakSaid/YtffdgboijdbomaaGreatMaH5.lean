/- Functions' texts, compiled with hints, are what the compile makes of them. No condition. -/
import Derived.Test.YtffdgboijdbomaaGreatMaT
import Derived.KernelRfl
namespace Go.Proofs.YtffdgboijdbomaaGreat.ma
open Go.Ab
noncomputable def o303 : Option IFn := compF2 CX [(4, [(0, 0), (1, 0), (2, 0), (3, 0), (4, 0), (5, 0), (6, 0), (7, 0), (8, 0), (9, 0), (10, 0), (11, 0), (12, 0), (13, 0), (14, 0)]), (6, [(0, 0), (1, 0), (2, 0), (3, 0), (4, 0), (5, 0), (6, 0), (7, 0), (8, 0), (9, 0), (10, 0), (11, 0), (12, 0), (13, 0), (14, 0), (15, 0), (16, 0), (17, 0)])] Tryz.f303
theorem e303 : compF CX Tryz.f303 = o303 := by kernel_rfl
noncomputable def o304 : Option IFn := compF2 CX [(10, [(0, 0), (1, 0), (2, 0), (3, 0), (4, 0), (5, 0), (6, 0), (7, 0), (8, 0), (9, 0), (10, 0), (11, 0), (12, 0), (13, 0), (14, 0), (15, 0), (16, 0), (17, 0), (18, 0), (19, 0)])] Tryz.f304
theorem e304 : compF CX Tryz.f304 = o304 := by kernel_rfl
noncomputable def o305 : Option IFn := compF2 CX [(10, [(0, 0), (1, 0), (2, 0), (3, 0), (4, 0), (5, 0), (6, 0), (7, 0), (8, 0), (9, 0), (10, 0), (11, 0), (12, 0), (13, 0), (14, 0), (15, 0), (16, 0), (17, 0), (18, 0), (19, 0)])] Tryz.f305
theorem e305 : compF CX Tryz.f305 = o305 := by kernel_rfl
noncomputable def o306 : Option IFn := compF2 CX [] Tryz.f306
theorem e306 : compF CX Tryz.f306 = o306 := by kernel_rfl
noncomputable def o307 : Option IFn := compF2 CX [(3, [(0, 0), (1, 0), (2, 0), (3, 0), (4, 0), (5, 0), (6, 0), (7, 0), (8, 0), (9, 0), (10, 0), (11, 0), (12, 0), (13, 0), (14, 0), (15, 0)])] Tryz.f307
theorem e307 : compF CX Tryz.f307 = o307 := by kernel_rfl
noncomputable def o308 : Option IFn := compF2 CX [(5, [(0, 0), (1, 0), (2, 0), (3, 0), (4, 0), (5, 0), (6, 0), (7, 0), (8, 0), (9, 0), (10, 0), (11, 0), (12, 0), (13, 0), (14, 0), (15, 0)]), (11, [(0, 0), (1, 0), (2, 0), (3, 0), (4, 0), (5, 0), (6, 0), (7, 0), (8, 0), (9, 0), (10, 0), (11, 0), (12, 0), (13, 0), (14, 0), (15, 0), (16, 0), (17, 0)]), (16, [(0, 0), (1, 0), (2, 0), (3, 0), (4, 0), (5, 0), (6, 0), (7, 0), (8, 0), (9, 0), (10, 0)]), (17, [(0, 0), (1, 0), (2, 0), (3, 0), (4, 0), (5, 0), (6, 0), (7, 0), (8, 0), (9, 0), (10, 0), (11, 0), (12, 0), (13, 0), (14, 0), (15, 0), (16, 0), (17, 0)]), (22, [(0, 0), (1, 0), (2, 0), (3, 0), (4, 0), (5, 0), (6, 0), (7, 0), (8, 0), (9, 0), (10, 0)]), (23, [(0, 0), (1, 0), (2, 0), (3, 0), (4, 0), (5, 0), (6, 0), (7, 0), (8, 0), (9, 0), (10, 0), (11, 0), (12, 0), (13, 0), (14, 0), (15, 0), (16, 0), (17, 0)])] Tryz.f308
theorem e308 : compF CX Tryz.f308 = o308 := by kernel_rfl
noncomputable def o309 : Option IFn := compF2 CX [] Tryz.f309
theorem e309 : compF CX Tryz.f309 = o309 := by kernel_rfl
noncomputable def o310 : Option IFn := compF2 CX [(1, [(0, 0), (1, 0), (2, 0), (3, 0), (4, 0), (5, 0), (6, 0), (7, 0), (8, 0), (9, 0), (10, 0), (11, 0), (12, 0), (13, 0), (14, 0), (15, 0)]), (3, [(0, 0), (1, 0), (2, 0), (3, 0), (4, 0), (5, 0), (6, 0), (7, 0), (8, 0), (9, 0), (10, 0), (11, 0), (12, 0), (13, 0), (14, 0)]), (5, [(0, 0), (1, 0), (2, 0), (3, 0), (4, 0), (5, 0), (6, 0), (7, 0), (8, 0), (9, 0), (10, 0), (11, 0), (12, 0), (13, 0)]), (8, [(0, 0), (1, 0), (2, 0), (3, 0), (4, 0), (5, 0), (6, 0), (7, 0), (8, 0), (9, 0), (10, 0), (11, 0), (12, 0), (13, 0), (14, 0), (15, 0)])] Tryz.f310
theorem e310 : compF CX Tryz.f310 = o310 := by kernel_rfl
noncomputable def o311 : Option IFn := compF2 CX [(1, [(0, 0), (1, 0), (2, 0), (3, 0), (4, 0), (5, 0), (6, 0), (7, 0), (8, 0), (9, 0), (10, 0), (11, 0), (12, 0), (13, 0), (14, 0), (15, 0)]), (3, [(0, 0), (1, 0), (2, 0), (3, 0), (4, 0), (5, 0), (6, 0), (7, 0), (8, 0), (9, 0), (10, 0), (11, 0), (12, 0), (13, 0)]), (5, [(0, 0), (1, 0), (2, 0), (3, 0), (4, 0), (5, 0), (6, 0), (7, 0), (8, 0), (9, 0), (10, 0), (11, 0), (12, 0), (13, 0), (14, 0)]), (8, [(0, 0), (1, 0), (2, 0), (3, 0), (4, 0), (5, 0), (6, 0), (7, 0), (8, 0), (9, 0), (10, 0), (11, 0), (12, 0), (13, 0), (14, 0), (15, 0)]), (10, [(0, 0), (1, 0), (2, 0), (3, 0), (4, 0), (5, 0), (6, 0), (7, 0), (8, 0), (9, 0), (10, 0), (11, 0), (12, 0), (13, 0), (14, 0), (15, 0)]), (13, [(0, 0), (1, 0), (2, 0), (3, 0), (4, 0), (5, 0), (6, 0), (7, 0), (8, 0), (9, 0), (10, 0), (11, 0), (12, 0), (13, 0)]), (15, [(0, 0), (1, 0), (2, 0), (3, 0), (4, 0), (5, 0), (6, 0), (7, 0), (8, 0), (9, 0), (10, 0), (11, 0), (12, 0), (13, 0), (14, 0)]), (18, [(0, 0), (1, 0), (2, 0), (3, 0), (4, 0), (5, 0), (6, 0), (7, 0), (8, 0), (9, 0), (10, 0), (11, 0), (12, 0), (13, 0), (14, 0), (15, 0)]), (21, [(0, 0), (1, 0), (2, 0), (3, 0), (4, 0), (5, 0), (6, 0), (7, 0), (8, 0), (9, 0), (10, 0), (11, 0), (12, 0), (13, 0), (14, 0), (15, 0)])] Tryz.f311
theorem e311 : compF CX Tryz.f311 = o311 := by kernel_rfl
noncomputable def o312 : Option IFn := compF2 CX [] Tryz.f312
theorem e312 : compF CX Tryz.f312 = o312 := by kernel_rfl
noncomputable def o313 : Option IFn := compF2 CX [] Tryz.f313
theorem e313 : compF CX Tryz.f313 = o313 := by kernel_rfl
noncomputable def o314 : Option IFn := compF2 CX [] Tryz.f314
theorem e314 : compF CX Tryz.f314 = o314 := by kernel_rfl
noncomputable def o315 : Option IFn := compF2 CX [(2, [(0, 0), (1, 0), (2, 0), (3, 0), (4, 0), (5, 0), (6, 0), (7, 0), (8, 0), (9, 0), (10, 0), (11, 0), (12, 0), (13, 0), (14, 0), (15, 0), (16, 0), (17, 0), (18, 0), (19, 0), (20, 0), (21, 0), (22, 0), (23, 0)])] Tryz.f315
theorem e315 : compF CX Tryz.f315 = o315 := by kernel_rfl
noncomputable def o316 : Option IFn := compF2 CX [] Tryz.f316
theorem e316 : compF CX Tryz.f316 = o316 := by kernel_rfl
noncomputable def o317 : Option IFn := compF2 CX [] Tryz.f317
theorem e317 : compF CX Tryz.f317 = o317 := by kernel_rfl
noncomputable def o318 : Option IFn := compF2 CX [] Tryz.f318
theorem e318 : compF CX Tryz.f318 = o318 := by kernel_rfl
noncomputable def o319 : Option IFn := compF2 CX [] Tryz.f319
theorem e319 : compF CX Tryz.f319 = o319 := by kernel_rfl
noncomputable def o320 : Option IFn := compF2 CX [] Tryz.f320
theorem e320 : compF CX Tryz.f320 = o320 := by kernel_rfl
noncomputable def o321 : Option IFn := compF2 CX [] Tryz.f321
theorem e321 : compF CX Tryz.f321 = o321 := by kernel_rfl
noncomputable def o322 : Option IFn := compF2 CX [] Tryz.f322
theorem e322 : compF CX Tryz.f322 = o322 := by kernel_rfl
noncomputable def o323 : Option IFn := compF2 CX [] Tryz.f323
theorem e323 : compF CX Tryz.f323 = o323 := by kernel_rfl
noncomputable def o324 : Option IFn := compF2 CX [(4, [(0, 0), (1, 0), (2, 0), (3, 0), (4, 0), (5, 0), (6, 0), (7, 0), (8, 0), (9, 0), (10, 0), (11, 0)])] Tryz.f324
theorem e324 : compF CX Tryz.f324 = o324 := by kernel_rfl
noncomputable def o325 : Option IFn := compF2 CX [] Tryz.f325
theorem e325 : compF CX Tryz.f325 = o325 := by kernel_rfl
noncomputable def o326 : Option IFn := compF2 CX [] Tryz.f326
theorem e326 : compF CX Tryz.f326 = o326 := by kernel_rfl
noncomputable def o327 : Option IFn := compF2 CX [] Tryz.f327
theorem e327 : compF CX Tryz.f327 = o327 := by kernel_rfl
noncomputable def o328 : Option IFn := compF2 CX [] Tryz.f328
theorem e328 : compF CX Tryz.f328 = o328 := by kernel_rfl
noncomputable def o329 : Option IFn := compF2 CX [(3, [(0, 0), (1, 0), (2, 0), (3, 0), (4, 0), (5, 0), (6, 0), (7, 0), (8, 0), (9, 0), (10, 0), (11, 0), (12, 0), (13, 0), (14, 0), (15, 0), (16, 0), (17, 0), (18, 0), (19, 0)]), (5, [(0, 0), (1, 0), (2, 0), (3, 0), (4, 0), (5, 0), (6, 0), (7, 0), (8, 0), (9, 0), (10, 0), (11, 0), (12, 0), (13, 0)]), (6, [(0, 0), (1, 0), (2, 0), (3, 0), (4, 0), (5, 0), (6, 0), (7, 0), (8, 0), (9, 0), (10, 0), (11, 0), (12, 0), (13, 0), (14, 0), (15, 0), (16, 0), (17, 0), (18, 0), (19, 0), (20, 0), (21, 0), (22, 0), (23, 0)])] Tryz.f329
theorem e329 : compF CX Tryz.f329 = o329 := by kernel_rfl
noncomputable def o330 : Option IFn := compF2 CX [] Tryz.f330
theorem e330 : compF CX Tryz.f330 = o330 := by kernel_rfl
noncomputable def o331 : Option IFn := compF2 CX [(1, [(0, 0), (1, 0), (2, 0), (3, 0), (4, 0), (5, 0), (6, 0), (7, 0), (8, 0), (9, 0)]), (2, [(0, 0), (1, 0), (2, 0), (3, 0), (4, 0), (5, 0), (6, 0), (7, 0), (8, 0), (9, 0)]), (3, [(0, 0), (1, 0), (2, 0), (3, 0), (4, 0), (5, 0), (6, 0), (7, 0), (8, 0), (9, 0)])] Tryz.f331
theorem e331 : compF CX Tryz.f331 = o331 := by kernel_rfl
noncomputable def o332 : Option IFn := compF2 CX [] Tryz.f332
theorem e332 : compF CX Tryz.f332 = o332 := by kernel_rfl
noncomputable def o333 : Option IFn := compF2 CX [] Tryz.f333
theorem e333 : compF CX Tryz.f333 = o333 := by kernel_rfl
noncomputable def o334 : Option IFn := compF2 CX [] Tryz.f334
theorem e334 : compF CX Tryz.f334 = o334 := by kernel_rfl
noncomputable def o335 : Option IFn := compF2 CX [] Tryz.f335
theorem e335 : compF CX Tryz.f335 = o335 := by kernel_rfl
noncomputable def o336 : Option IFn := compF2 CX [] Tryz.f336
theorem e336 : compF CX Tryz.f336 = o336 := by kernel_rfl
noncomputable def o337 : Option IFn := compF2 CX [] Tryz.f337
theorem e337 : compF CX Tryz.f337 = o337 := by kernel_rfl
noncomputable def o338 : Option IFn := compF2 CX [] Tryz.f338
theorem e338 : compF CX Tryz.f338 = o338 := by kernel_rfl
noncomputable def o339 : Option IFn := compF2 CX [] Tryz.f339
theorem e339 : compF CX Tryz.f339 = o339 := by kernel_rfl
noncomputable def o340 : Option IFn := compF2 CX [(1, [(0, 0), (1, 0), (2, 0), (3, 0), (4, 0), (5, 0), (6, 0), (7, 0), (8, 0)])] Tryz.f340
theorem e340 : compF CX Tryz.f340 = o340 := by kernel_rfl
end Go.Proofs.YtffdgboijdbomaaGreat.ma
