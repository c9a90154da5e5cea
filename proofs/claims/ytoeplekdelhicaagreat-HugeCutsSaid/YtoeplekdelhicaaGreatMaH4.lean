/- Functions' texts, compiled with hints, are what the compile makes of them. No condition. -/
import Derived.Test.YtoeplekdelhicaaGreatMaT
import Derived.KernelRfl
namespace Go.Proofs.YtoeplekdelhicaaGreat.ma
open Go.Ab
noncomputable def o243 : Option IFn := compF2 CX [(2, [(0, 0), (1, 0), (2, 0), (3, 0), (4, 0), (5, 0), (6, 0), (7, 0), (8, 0), (9, 0), (10, 0), (11, 0), (12, 0), (13, 0)])] Tryz.f243
theorem e243 : compF CX Tryz.f243 = o243 := by kernel_rfl
noncomputable def o244 : Option IFn := compF2 CX [] Tryz.f244
theorem e244 : compF CX Tryz.f244 = o244 := by kernel_rfl
noncomputable def o245 : Option IFn := compF2 CX [(1, [(0, 0), (1, 1), (2, 0), (3, 1), (4, 0), (5, 1), (6, 0), (7, 0), (8, 0), (9, 0), (10, 0), (11, 0), (12, 0), (13, 0), (14, 0), (15, 0)])] Tryz.f245
theorem e245 : compF CX Tryz.f245 = o245 := by kernel_rfl
noncomputable def o246 : Option IFn := compF2 CX [(1, [(0, 0), (1, 0), (2, 0), (3, 0), (4, 0), (5, 0), (6, 0), (7, 0), (8, 0), (9, 0), (10, 0), (11, 0)]), (7, [(0, 0), (1, 0), (2, 0), (3, 0), (4, 0), (5, 1), (6, 0), (7, 0), (8, 0), (9, 0), (10, 0), (11, 0), (12, 0), (13, 0)])] Tryz.f246
theorem e246 : compF CX Tryz.f246 = o246 := by kernel_rfl
noncomputable def o247 : Option IFn := compF2 CX [(5, [(0, 0), (1, 0), (2, 0), (3, 0), (4, 0), (5, 0), (6, 0), (7, 0), (8, 0), (9, 0), (10, 0)]), (11, [(0, 0), (1, 0), (2, 0), (3, 0), (4, 0), (5, 0)])] Tryz.f247
theorem e247 : compF CX Tryz.f247 = o247 := by kernel_rfl
noncomputable def o248 : Option IFn := compF2 CX [] Tryz.f248
theorem e248 : compF CX Tryz.f248 = o248 := by kernel_rfl
noncomputable def o249 : Option IFn := compF2 CX [] Tryz.f249
theorem e249 : compF CX Tryz.f249 = o249 := by kernel_rfl
noncomputable def o250 : Option IFn := compF2 CX [] Tryz.f250
theorem e250 : compF CX Tryz.f250 = o250 := by kernel_rfl
noncomputable def o251 : Option IFn := compF2 CX [] Tryz.f251
theorem e251 : compF CX Tryz.f251 = o251 := by kernel_rfl
noncomputable def o252 : Option IFn := compF2 CX [] Tryz.f252
theorem e252 : compF CX Tryz.f252 = o252 := by kernel_rfl
noncomputable def o253 : Option IFn := compF2 CX [] Tryz.f253
theorem e253 : compF CX Tryz.f253 = o253 := by kernel_rfl
noncomputable def o254 : Option IFn := compF2 CX [] Tryz.f254
theorem e254 : compF CX Tryz.f254 = o254 := by kernel_rfl
noncomputable def o255 : Option IFn := compF2 CX [(1, [(0, 0), (1, 0), (2, 0), (3, 0), (4, 0), (5, 0), (6, 0), (7, 0), (8, 0), (9, 0), (10, 0), (11, 0), (12, 0), (13, 0), (14, 0), (15, 0), (16, 0), (17, 0), (18, 0), (19, 0), (20, 0), (21, 0), (22, 0), (23, 0), (24, 0), (25, 0), (26, 0), (27, 0), (28, 0), (29, 0), (30, 0), (31, 0), (32, 0), (33, 0), (34, 0), (35, 0), (36, 0), (37, 0), (38, 0), (39, 0), (40, 0), (41, 0)])] Tryz.f255
theorem e255 : compF CX Tryz.f255 = o255 := by kernel_rfl
noncomputable def o256 : Option IFn := compF2 CX [] Tryz.f256
theorem e256 : compF CX Tryz.f256 = o256 := by kernel_rfl
noncomputable def o257 : Option IFn := compF2 CX [(4, [(0, 0), (1, 0), (2, 0), (3, 0), (4, 0), (5, 0), (6, 0), (7, 0), (8, 0), (9, 0), (10, 0), (11, 0), (12, 0)])] Tryz.f257
theorem e257 : compF CX Tryz.f257 = o257 := by kernel_rfl
noncomputable def o258 : Option IFn := compF2 CX [] Tryz.f258
theorem e258 : compF CX Tryz.f258 = o258 := by kernel_rfl
noncomputable def o259 : Option IFn := compF2 CX [] Tryz.f259
theorem e259 : compF CX Tryz.f259 = o259 := by kernel_rfl
noncomputable def o260 : Option IFn := compF2 CX [] Tryz.f260
theorem e260 : compF CX Tryz.f260 = o260 := by kernel_rfl
noncomputable def o261 : Option IFn := compF2 CX [] Tryz.f261
theorem e261 : compF CX Tryz.f261 = o261 := by kernel_rfl
noncomputable def o262 : Option IFn := compF2 CX [] Tryz.f262
theorem e262 : compF CX Tryz.f262 = o262 := by kernel_rfl
noncomputable def o263 : Option IFn := compF2 CX [] Tryz.f263
theorem e263 : compF CX Tryz.f263 = o263 := by kernel_rfl
noncomputable def o264 : Option IFn := compF2 CX [] Tryz.f264
theorem e264 : compF CX Tryz.f264 = o264 := by kernel_rfl
noncomputable def o265 : Option IFn := compF2 CX [] Tryz.f265
theorem e265 : compF CX Tryz.f265 = o265 := by kernel_rfl
noncomputable def o266 : Option IFn := compF2 CX [] Tryz.f266
theorem e266 : compF CX Tryz.f266 = o266 := by kernel_rfl
noncomputable def o267 : Option IFn := compF2 CX [(1, [(0, 0), (1, 1), (2, 0), (3, 0), (4, 0), (5, 0), (6, 0)])] Tryz.f267
theorem e267 : compF CX Tryz.f267 = o267 := by kernel_rfl
noncomputable def o268 : Option IFn := compF2 CX [] Tryz.f268
theorem e268 : compF CX Tryz.f268 = o268 := by kernel_rfl
noncomputable def o269 : Option IFn := compF2 CX [] Tryz.f269
theorem e269 : compF CX Tryz.f269 = o269 := by kernel_rfl
noncomputable def o270 : Option IFn := compF2 CX [] Tryz.f270
theorem e270 : compF CX Tryz.f270 = o270 := by kernel_rfl
noncomputable def o271 : Option IFn := compF2 CX [] Tryz.f271
theorem e271 : compF CX Tryz.f271 = o271 := by kernel_rfl
noncomputable def o272 : Option IFn := compF2 CX [] Tryz.f272
theorem e272 : compF CX Tryz.f272 = o272 := by kernel_rfl
noncomputable def o273 : Option IFn := compF2 CX [(10, [(0, 0), (1, 0), (3, 0), (4, 2), (5, 1), (7, 0), (8, 2), (2, 0), (6, 0), (9, 0), (10, 0), (11, 0)]), (12, [(0, 0), (1, 0), (3, 0), (4, 1), (5, 0), (6, 1), (2, 0), (7, 0), (8, 0), (9, 0)])] Tryz.f273
theorem e273 : compF CX Tryz.f273 = o273 := by kernel_rfl
noncomputable def o274 : Option IFn := compF2 CX [] Tryz.f274
theorem e274 : compF CX Tryz.f274 = o274 := by kernel_rfl
noncomputable def o275 : Option IFn := compF2 CX [] Tryz.f275
theorem e275 : compF CX Tryz.f275 = o275 := by kernel_rfl
noncomputable def o276 : Option IFn := compF2 CX [] Tryz.f276
theorem e276 : compF CX Tryz.f276 = o276 := by kernel_rfl
noncomputable def o277 : Option IFn := compF2 CX [] Tryz.f277
theorem e277 : compF CX Tryz.f277 = o277 := by kernel_rfl
noncomputable def o278 : Option IFn := compF2 CX [(3, [(0, 0), (1, 2), (2, 0), (3, 0), (5, 0), (6, 0), (4, 0), (7, 0), (8, 0), (9, 0), (10, 0)])] Tryz.f278
theorem e278 : compF CX Tryz.f278 = o278 := by kernel_rfl
noncomputable def o279 : Option IFn := compF2 CX [] Tryz.f279
theorem e279 : compF CX Tryz.f279 = o279 := by kernel_rfl
noncomputable def o280 : Option IFn := compF2 CX [] Tryz.f280
theorem e280 : compF CX Tryz.f280 = o280 := by kernel_rfl
noncomputable def o281 : Option IFn := compF2 CX [] Tryz.f281
theorem e281 : compF CX Tryz.f281 = o281 := by kernel_rfl
noncomputable def o282 : Option IFn := compF2 CX [] Tryz.f282
theorem e282 : compF CX Tryz.f282 = o282 := by kernel_rfl
noncomputable def o283 : Option IFn := compF2 CX [] Tryz.f283
theorem e283 : compF CX Tryz.f283 = o283 := by kernel_rfl
noncomputable def o284 : Option IFn := compF2 CX [(15, [(0, 1), (1, 0), (2, 0), (3, 1), (4, 0), (5, 0), (6, 0), (7, 0), (8, 0), (9, 0)])] Tryz.f284
theorem e284 : compF CX Tryz.f284 = o284 := by kernel_rfl
noncomputable def o285 : Option IFn := compF2 CX [] Tryz.f285
theorem e285 : compF CX Tryz.f285 = o285 := by kernel_rfl
noncomputable def o286 : Option IFn := compF2 CX [] Tryz.f286
theorem e286 : compF CX Tryz.f286 = o286 := by kernel_rfl
noncomputable def o287 : Option IFn := compF2 CX [] Tryz.f287
theorem e287 : compF CX Tryz.f287 = o287 := by kernel_rfl
noncomputable def o288 : Option IFn := compF2 CX [] Tryz.f288
theorem e288 : compF CX Tryz.f288 = o288 := by kernel_rfl
noncomputable def o289 : Option IFn := compF2 CX [] Tryz.f289
theorem e289 : compF CX Tryz.f289 = o289 := by kernel_rfl
noncomputable def o290 : Option IFn := compF2 CX [(2, [(0, 0), (1, 0), (2, 0), (3, 0), (4, 0), (5, 0), (6, 0), (7, 0), (8, 0), (9, 0), (10, 0), (11, 0), (12, 0), (13, 0), (14, 0), (15, 0), (16, 0), (17, 0), (18, 0), (19, 0), (20, 0), (21, 0), (22, 0), (23, 0)])] Tryz.f290
theorem e290 : compF CX Tryz.f290 = o290 := by kernel_rfl
noncomputable def o291 : Option IFn := compF2 CX [] Tryz.f291
theorem e291 : compF CX Tryz.f291 = o291 := by kernel_rfl
noncomputable def o292 : Option IFn := compF2 CX [] Tryz.f292
theorem e292 : compF CX Tryz.f292 = o292 := by kernel_rfl
noncomputable def o293 : Option IFn := compF2 CX [] Tryz.f293
theorem e293 : compF CX Tryz.f293 = o293 := by kernel_rfl
noncomputable def o294 : Option IFn := compF2 CX [] Tryz.f294
theorem e294 : compF CX Tryz.f294 = o294 := by kernel_rfl
noncomputable def o295 : Option IFn := compF2 CX [] Tryz.f295
theorem e295 : compF CX Tryz.f295 = o295 := by kernel_rfl
noncomputable def o296 : Option IFn := compF2 CX [] Tryz.f296
theorem e296 : compF CX Tryz.f296 = o296 := by kernel_rfl
noncomputable def o297 : Option IFn := compF2 CX [] Tryz.f297
theorem e297 : compF CX Tryz.f297 = o297 := by kernel_rfl
noncomputable def o298 : Option IFn := compF2 CX [] Tryz.f298
theorem e298 : compF CX Tryz.f298 = o298 := by kernel_rfl
noncomputable def o299 : Option IFn := compF2 CX [(4, [(0, 0), (1, 0), (2, 0), (3, 0), (4, 0), (5, 0), (6, 0), (7, 0), (8, 0), (9, 0), (10, 0), (11, 0)])] Tryz.f299
theorem e299 : compF CX Tryz.f299 = o299 := by kernel_rfl
noncomputable def o300 : Option IFn := compF2 CX [] Tryz.f300
theorem e300 : compF CX Tryz.f300 = o300 := by kernel_rfl
noncomputable def o301 : Option IFn := compF2 CX [] Tryz.f301
theorem e301 : compF CX Tryz.f301 = o301 := by kernel_rfl
noncomputable def o302 : Option IFn := compF2 CX [] Tryz.f302
theorem e302 : compF CX Tryz.f302 = o302 := by kernel_rfl
end Go.Proofs.YtoeplekdelhicaaGreat.ma
