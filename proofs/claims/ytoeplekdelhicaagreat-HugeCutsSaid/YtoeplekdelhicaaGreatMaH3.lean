/- Functions' texts, compiled with hints, are what the compile makes of them. No condition. -/
import Derived.Test.YtoeplekdelhicaaGreatMaT
import Derived.KernelRfl
namespace Go.Proofs.YtoeplekdelhicaaGreat.ma
open Go.Ab
noncomputable def o183 : Option IFn := compF2 CX [(15, [(0, 0), (1, 0), (2, 0), (3, 0), (4, 0), (5, 0), (6, 0)])] Tryz.f183
theorem e183 : compF CX Tryz.f183 = o183 := by kernel_rfl
noncomputable def o184 : Option IFn := compF2 CX [(3, [(0, 0), (1, 0), (2, 0), (3, 0), (4, 0), (5, 0), (6, 0), (7, 0), (8, 0), (9, 0), (10, 0), (11, 0), (12, 0), (13, 0), (14, 0), (15, 0), (16, 0), (17, 0), (18, 0), (19, 0), (20, 0)])] Tryz.f184
theorem e184 : compF CX Tryz.f184 = o184 := by kernel_rfl
noncomputable def o185 : Option IFn := compF2 CX [(5, [(0, 0), (1, 0), (2, 0), (3, 0), (4, 0), (5, 0), (6, 0), (7, 0), (8, 0), (9, 0), (10, 0), (11, 0), (12, 0)]), (7, [(0, 0), (1, 0), (2, 0), (3, 0), (4, 0), (5, 0), (6, 0), (7, 0), (8, 0), (9, 0), (10, 0), (11, 0)])] Tryz.f185
theorem e185 : compF CX Tryz.f185 = o185 := by kernel_rfl
noncomputable def o186 : Option IFn := compF2 CX [] Tryz.f186
theorem e186 : compF CX Tryz.f186 = o186 := by kernel_rfl
noncomputable def o187 : Option IFn := compF2 CX [(3, [(0, 0), (1, 0), (2, 0), (3, 0), (4, 0), (5, 0), (6, 0), (7, 0), (8, 0), (9, 0), (10, 0), (11, 1), (12, 0), (13, 0), (14, 0), (15, 1), (16, 0), (17, 0)])] Tryz.f187
theorem e187 : compF CX Tryz.f187 = o187 := by kernel_rfl
noncomputable def o188 : Option IFn := compF2 CX [] Tryz.f188
theorem e188 : compF CX Tryz.f188 = o188 := by kernel_rfl
noncomputable def o189 : Option IFn := compF2 CX [(10, [(0, 0), (2, 0), (3, 0), (4, 0), (5, 1), (1, 0), (6, 0)])] Tryz.f189
theorem e189 : compF CX Tryz.f189 = o189 := by kernel_rfl
noncomputable def o190 : Option IFn := compF2 CX [] Tryz.f190
theorem e190 : compF CX Tryz.f190 = o190 := by kernel_rfl
noncomputable def o191 : Option IFn := compF2 CX [] Tryz.f191
theorem e191 : compF CX Tryz.f191 = o191 := by kernel_rfl
noncomputable def o192 : Option IFn := compF2 CX [] Tryz.f192
theorem e192 : compF CX Tryz.f192 = o192 := by kernel_rfl
noncomputable def o193 : Option IFn := compF2 CX [] Tryz.f193
theorem e193 : compF CX Tryz.f193 = o193 := by kernel_rfl
noncomputable def o194 : Option IFn := compF2 CX [(1, [(0, 0), (1, 0), (2, 0), (3, 0), (4, 0), (5, 0), (6, 0), (7, 0), (8, 0), (9, 0), (10, 0), (11, 0), (12, 0), (13, 0), (14, 0), (15, 0)])] Tryz.f194
theorem e194 : compF CX Tryz.f194 = o194 := by kernel_rfl
noncomputable def o195 : Option IFn := compF2 CX [(28, [(0, 0), (1, 0), (2, 0), (3, 0), (4, 0), (5, 0), (6, 0), (7, 0), (8, 0)])] Tryz.f195
theorem e195 : compF CX Tryz.f195 = o195 := by kernel_rfl
noncomputable def o196 : Option IFn := compF2 CX [] Tryz.f196
theorem e196 : compF CX Tryz.f196 = o196 := by kernel_rfl
noncomputable def o197 : Option IFn := compF2 CX [(13, [(0, 0), (1, 0), (2, 0), (3, 0), (4, 0), (5, 0), (6, 0), (7, 0), (8, 0), (9, 0), (10, 0), (11, 0), (12, 0)])] Tryz.f197
theorem e197 : compF CX Tryz.f197 = o197 := by kernel_rfl
noncomputable def o198 : Option IFn := compF2 CX [] Tryz.f198
theorem e198 : compF CX Tryz.f198 = o198 := by kernel_rfl
noncomputable def o199 : Option IFn := compF2 CX [] Tryz.f199
theorem e199 : compF CX Tryz.f199 = o199 := by kernel_rfl
noncomputable def o200 : Option IFn := compF2 CX [(1, [(0, 0), (1, 1), (2, 0), (3, 0), (4, 0)]), (4, [(0, 0), (1, 0), (2, 0), (3, 0), (5, 0), (8, 2), (4, 0), (6, 0), (7, 0), (9, 0), (10, 0)])] Tryz.f200
theorem e200 : compF CX Tryz.f200 = o200 := by kernel_rfl
noncomputable def o201 : Option IFn := compF2 CX [] Tryz.f201
theorem e201 : compF CX Tryz.f201 = o201 := by kernel_rfl
noncomputable def o202 : Option IFn := compF2 CX [] Tryz.f202
theorem e202 : compF CX Tryz.f202 = o202 := by kernel_rfl
noncomputable def o203 : Option IFn := compF2 CX [(1, [(0, 0), (1, 0), (3, 0), (4, 2), (5, 0), (6, 0), (2, 0), (7, 0), (8, 0), (9, 0)])] Tryz.f203
theorem e203 : compF CX Tryz.f203 = o203 := by kernel_rfl
noncomputable def o204 : Option IFn := compF2 CX [] Tryz.f204
theorem e204 : compF CX Tryz.f204 = o204 := by kernel_rfl
noncomputable def o205 : Option IFn := compF2 CX [(1, [(0, 0), (1, 0), (2, 0), (3, 0), (4, 0), (5, 0), (6, 0), (7, 0), (8, 0), (9, 0), (10, 0), (11, 0), (12, 0), (13, 0), (14, 0), (15, 0), (16, 0), (17, 0), (18, 0), (19, 0), (20, 0), (21, 0), (22, 0), (23, 0), (24, 0), (25, 0), (26, 0), (27, 0), (28, 0), (29, 0), (30, 0), (31, 0), (32, 0), (33, 0), (34, 0), (35, 0)])] Tryz.f205
theorem e205 : compF CX Tryz.f205 = o205 := by kernel_rfl
noncomputable def o206 : Option IFn := compF2 CX [] Tryz.f206
theorem e206 : compF CX Tryz.f206 = o206 := by kernel_rfl
noncomputable def o207 : Option IFn := compF2 CX [] Tryz.f207
theorem e207 : compF CX Tryz.f207 = o207 := by kernel_rfl
noncomputable def o208 : Option IFn := compF2 CX [] Tryz.f208
theorem e208 : compF CX Tryz.f208 = o208 := by kernel_rfl
noncomputable def o209 : Option IFn := compF2 CX [] Tryz.f209
theorem e209 : compF CX Tryz.f209 = o209 := by kernel_rfl
noncomputable def o210 : Option IFn := compF2 CX [] Tryz.f210
theorem e210 : compF CX Tryz.f210 = o210 := by kernel_rfl
noncomputable def o211 : Option IFn := compF2 CX [(6, [(0, 0), (1, 0), (2, 0), (3, 0), (4, 0), (5, 0), (6, 0), (7, 0), (8, 0), (9, 0), (10, 0), (11, 0)])] Tryz.f211
theorem e211 : compF CX Tryz.f211 = o211 := by kernel_rfl
noncomputable def o212 : Option IFn := compF2 CX [(1, [(0, 0), (1, 0), (2, 0), (3, 0), (4, 0), (5, 0), (6, 0), (7, 0), (8, 0), (9, 0), (10, 0), (11, 0), (12, 0), (13, 0), (14, 0), (15, 0)])] Tryz.f212
theorem e212 : compF CX Tryz.f212 = o212 := by kernel_rfl
noncomputable def o213 : Option IFn := compF2 CX [] Tryz.f213
theorem e213 : compF CX Tryz.f213 = o213 := by kernel_rfl
noncomputable def o214 : Option IFn := compF2 CX [(4, [(0, 0), (1, 0), (2, 0), (3, 0), (4, 0), (5, 0), (6, 0), (7, 0), (8, 0), (9, 0), (10, 0), (11, 0), (12, 0)])] Tryz.f214
theorem e214 : compF CX Tryz.f214 = o214 := by kernel_rfl
noncomputable def o215 : Option IFn := compF2 CX [] Tryz.f215
theorem e215 : compF CX Tryz.f215 = o215 := by kernel_rfl
noncomputable def o216 : Option IFn := compF2 CX [] Tryz.f216
theorem e216 : compF CX Tryz.f216 = o216 := by kernel_rfl
noncomputable def o217 : Option IFn := compF2 CX [] Tryz.f217
theorem e217 : compF CX Tryz.f217 = o217 := by kernel_rfl
noncomputable def o218 : Option IFn := compF2 CX [] Tryz.f218
theorem e218 : compF CX Tryz.f218 = o218 := by kernel_rfl
noncomputable def o219 : Option IFn := compF2 CX [] Tryz.f219
theorem e219 : compF CX Tryz.f219 = o219 := by kernel_rfl
noncomputable def o220 : Option IFn := compF2 CX [] Tryz.f220
theorem e220 : compF CX Tryz.f220 = o220 := by kernel_rfl
noncomputable def o221 : Option IFn := compF2 CX [] Tryz.f221
theorem e221 : compF CX Tryz.f221 = o221 := by kernel_rfl
noncomputable def o222 : Option IFn := compF2 CX [] Tryz.f222
theorem e222 : compF CX Tryz.f222 = o222 := by kernel_rfl
noncomputable def o223 : Option IFn := compF2 CX [] Tryz.f223
theorem e223 : compF CX Tryz.f223 = o223 := by kernel_rfl
noncomputable def o224 : Option IFn := compF2 CX [(3, [(0, 2), (1, 2), (2, 0), (3, 0), (4, 0), (5, 2), (6, 2), (7, 0), (8, 0), (9, 0), (10, 0), (12, 2), (11, 0), (13, 0), (14, 0), (15, 0), (16, 0), (17, 0), (18, 0), (19, 0), (20, 0)])] Tryz.f224
theorem e224 : compF CX Tryz.f224 = o224 := by kernel_rfl
noncomputable def o225 : Option IFn := compF2 CX [] Tryz.f225
theorem e225 : compF CX Tryz.f225 = o225 := by kernel_rfl
noncomputable def o226 : Option IFn := compF2 CX [(4, [(0, 0), (1, 0), (3, 0), (4, 1), (7, 0), (8, 2), (11, 0), (12, 3), (15, 0), (16, 4), (19, 0), (20, 5), (23, 0), (24, 6), (27, 0), (28, 7), (29, 0), (30, 0), (2, 0), (5, 0), (6, 0), (9, 0), (10, 0), (13, 0), (14, 0), (17, 0), (18, 0), (21, 0), (22, 0), (25, 0), (26, 0), (31, 0), (32, 0), (33, 0)])] Tryz.f226
theorem e226 : compF CX Tryz.f226 = o226 := by kernel_rfl
noncomputable def o227 : Option IFn := compF2 CX [] Tryz.f227
theorem e227 : compF CX Tryz.f227 = o227 := by kernel_rfl
noncomputable def o228 : Option IFn := compF2 CX [] Tryz.f228
theorem e228 : compF CX Tryz.f228 = o228 := by kernel_rfl
noncomputable def o229 : Option IFn := compF2 CX [] Tryz.f229
theorem e229 : compF CX Tryz.f229 = o229 := by kernel_rfl
noncomputable def o230 : Option IFn := compF2 CX [] Tryz.f230
theorem e230 : compF CX Tryz.f230 = o230 := by kernel_rfl
noncomputable def o231 : Option IFn := compF2 CX [] Tryz.f231
theorem e231 : compF CX Tryz.f231 = o231 := by kernel_rfl
noncomputable def o232 : Option IFn := compF2 CX [(1, [(0, 0), (1, 0), (3, 0), (4, 1), (7, 0), (8, 2), (11, 0), (12, 3), (15, 0), (16, 4), (19, 0), (20, 5), (23, 0), (24, 6), (27, 0), (28, 7), (29, 0), (30, 0), (2, 0), (5, 0), (6, 0), (9, 0), (10, 0), (13, 0), (14, 0), (17, 0), (18, 0), (21, 0), (22, 0), (25, 0), (26, 0), (31, 0), (32, 0)])] Tryz.f232
theorem e232 : compF CX Tryz.f232 = o232 := by kernel_rfl
noncomputable def o233 : Option IFn := compF2 CX [] Tryz.f233
theorem e233 : compF CX Tryz.f233 = o233 := by kernel_rfl
noncomputable def o234 : Option IFn := compF2 CX [] Tryz.f234
theorem e234 : compF CX Tryz.f234 = o234 := by kernel_rfl
noncomputable def o235 : Option IFn := compF2 CX [] Tryz.f235
theorem e235 : compF CX Tryz.f235 = o235 := by kernel_rfl
noncomputable def o236 : Option IFn := compF2 CX [] Tryz.f236
theorem e236 : compF CX Tryz.f236 = o236 := by kernel_rfl
noncomputable def o237 : Option IFn := compF2 CX [(1, [(0, 0), (1, 0), (2, 0), (3, 0), (4, 0), (5, 0), (6, 0), (7, 0), (8, 0), (9, 0), (10, 0), (11, 0), (12, 0), (13, 0)])] Tryz.f237
theorem e237 : compF CX Tryz.f237 = o237 := by kernel_rfl
noncomputable def o238 : Option IFn := compF2 CX [] Tryz.f238
theorem e238 : compF CX Tryz.f238 = o238 := by kernel_rfl
noncomputable def o239 : Option IFn := compF2 CX [] Tryz.f239
theorem e239 : compF CX Tryz.f239 = o239 := by kernel_rfl
noncomputable def o240 : Option IFn := compF2 CX [] Tryz.f240
theorem e240 : compF CX Tryz.f240 = o240 := by kernel_rfl
noncomputable def o241 : Option IFn := compF2 CX [] Tryz.f241
theorem e241 : compF CX Tryz.f241 = o241 := by kernel_rfl
noncomputable def o242 : Option IFn := compF2 CX [] Tryz.f242
theorem e242 : compF CX Tryz.f242 = o242 := by kernel_rfl
end Go.Proofs.YtoeplekdelhicaaGreat.ma
