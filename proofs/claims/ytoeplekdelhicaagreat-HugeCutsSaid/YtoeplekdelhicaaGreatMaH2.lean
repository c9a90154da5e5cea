/- Functions' texts, compiled with hints, are what the compile makes of them. No condition. -/
import Derived.Test.YtoeplekdelhicaaGreatMaT
import Derived.KernelRfl
namespace Go.Proofs.YtoeplekdelhicaaGreat.ma
open Go.Ab
noncomputable def o123 : Option IFn := compF2 CX [] Tryz.f123
theorem e123 : compF CX Tryz.f123 = o123 := by kernel_rfl
noncomputable def o124 : Option IFn := compF2 CX [] Tryz.f124
theorem e124 : compF CX Tryz.f124 = o124 := by kernel_rfl
noncomputable def o125 : Option IFn := compF2 CX [] Tryz.f125
theorem e125 : compF CX Tryz.f125 = o125 := by kernel_rfl
noncomputable def o126 : Option IFn := compF2 CX [] Tryz.f126
theorem e126 : compF CX Tryz.f126 = o126 := by kernel_rfl
noncomputable def o127 : Option IFn := compF2 CX [] Tryz.f127
theorem e127 : compF CX Tryz.f127 = o127 := by kernel_rfl
noncomputable def o128 : Option IFn := compF2 CX [] Tryz.f128
theorem e128 : compF CX Tryz.f128 = o128 := by kernel_rfl
noncomputable def o129 : Option IFn := compF2 CX [(2, [(0, 0), (1, 0), (3, 0), (4, 1), (2, 0), (5, 0), (6, 0), (7, 0), (8, 0), (9, 0), (10, 0)]), (11, [(0, 0), (1, 0), (3, 0), (4, 2), (5, 1), (7, 0), (8, 2), (2, 0), (6, 0), (9, 0)])] Tryz.f129
theorem e129 : compF CX Tryz.f129 = o129 := by kernel_rfl
noncomputable def o130 : Option IFn := compF2 CX [] Tryz.f130
theorem e130 : compF CX Tryz.f130 = o130 := by kernel_rfl
noncomputable def o131 : Option IFn := compF2 CX [] Tryz.f131
theorem e131 : compF CX Tryz.f131 = o131 := by kernel_rfl
noncomputable def o132 : Option IFn := compF2 CX [(2, [(0, 0), (1, 0), (3, 0), (4, 0), (5, 1), (2, 0), (6, 0), (7, 0)]), (7, [(0, 0), (1, 0), (3, 0), (4, 2), (5, 1), (2, 0), (6, 0), (7, 0), (8, 0), (9, 0), (10, 0), (11, 0), (12, 0), (13, 0)])] Tryz.f132
theorem e132 : compF CX Tryz.f132 = o132 := by kernel_rfl
noncomputable def o133 : Option IFn := compF2 CX [(2, [(0, 0), (1, 0), (3, 1), (4, 0), (6, 0), (7, 0), (8, 3), (9, 0), (10, 0), (11, 0), (12, 0), (13, 3), (14, 0), (2, 0), (5, 0), (15, 0)])] Tryz.f133
theorem e133 : compF CX Tryz.f133 = o133 := by kernel_rfl
noncomputable def o134 : Option IFn := compF2 CX [(24, [(0, 0), (1, 0), (2, 1), (3, 0), (5, 0), (6, 1), (4, 0), (7, 0)])] Tryz.f134
theorem e134 : compF CX Tryz.f134 = o134 := by kernel_rfl
noncomputable def o135 : Option IFn := compF2 CX [] Tryz.f135
theorem e135 : compF CX Tryz.f135 = o135 := by kernel_rfl
noncomputable def o136 : Option IFn := compF2 CX [(5, [(0, 0), (1, 0), (2, 0), (3, 0), (4, 0), (5, 0), (6, 0), (7, 0), (8, 1), (9, 0), (10, 0)])] Tryz.f136
theorem e136 : compF CX Tryz.f136 = o136 := by kernel_rfl
noncomputable def o137 : Option IFn := compF2 CX [] Tryz.f137
theorem e137 : compF CX Tryz.f137 = o137 := by kernel_rfl
noncomputable def o138 : Option IFn := compF2 CX [(7, [(0, 0), (1, 0), (2, 0), (3, 0), (4, 0), (5, 0), (6, 0), (7, 0), (8, 0), (9, 0), (10, 0), (11, 0), (12, 0), (13, 0), (14, 0), (15, 0), (16, 0), (17, 0), (18, 0), (19, 0), (20, 0), (21, 0), (22, 0), (23, 0), (24, 0), (25, 0), (26, 0), (27, 0), (28, 0), (29, 0), (30, 0), (31, 0), (32, 0)]), (15, [(0, 0), (1, 0), (2, 0), (3, 0), (4, 1), (5, 0), (6, 2), (7, 0), (8, 0), (11, 0), (12, 2), (9, 0), (10, 0), (13, 0), (14, 0), (15, 0), (16, 0), (17, 0)]), (16, [(0, 0), (1, 0), (2, 0), (3, 0), (4, 0), (5, 0), (6, 0), (7, 0), (8, 0), (9, 0)])] Tryz.f138
theorem e138 : compF CX Tryz.f138 = o138 := by kernel_rfl
noncomputable def o139 : Option IFn := compF2 CX [] Tryz.f139
theorem e139 : compF CX Tryz.f139 = o139 := by kernel_rfl
noncomputable def o140 : Option IFn := compF2 CX [(3, [(0, 0), (1, 0), (2, 0), (3, 0), (4, 0), (5, 0), (6, 0), (7, 0)])] Tryz.f140
theorem e140 : compF CX Tryz.f140 = o140 := by kernel_rfl
noncomputable def o141 : Option IFn := compF2 CX [(3, [(0, 0), (1, 0), (2, 1), (3, 0), (4, 0), (5, 1), (6, 0), (7, 1), (8, 0), (9, 0), (10, 1), (11, 0), (12, 0), (13, 0), (14, 0), (15, 0), (16, 0)])] Tryz.f141
theorem e141 : compF CX Tryz.f141 = o141 := by kernel_rfl
noncomputable def o142 : Option IFn := compF2 CX [(8, [(0, 0), (1, 1), (2, 0), (3, 0), (4, 0), (5, 1), (6, 0), (7, 0), (8, 0), (9, 0), (10, 0), (11, 0), (12, 0), (13, 0), (14, 0), (15, 0), (16, 0), (17, 0)])] Tryz.f142
theorem e142 : compF CX Tryz.f142 = o142 := by kernel_rfl
noncomputable def o143 : Option IFn := compF2 CX [(1, [(0, 0), (1, 0), (2, 0), (3, 0), (4, 0), (5, 0), (6, 0), (7, 0), (8, 0)]), (7, [(0, 1), (1, 0), (2, 0), (3, 0), (4, 0), (5, 1), (6, 0), (7, 1), (8, 0), (9, 0), (10, 0), (11, 0)]), (9, [(0, 1), (1, 0), (2, 0), (3, 0), (4, 0), (5, 0), (6, 0)])] Tryz.f143
theorem e143 : compF CX Tryz.f143 = o143 := by kernel_rfl
noncomputable def o144 : Option IFn := compF2 CX [] Tryz.f144
theorem e144 : compF CX Tryz.f144 = o144 := by kernel_rfl
noncomputable def o145 : Option IFn := compF2 CX [] Tryz.f145
theorem e145 : compF CX Tryz.f145 = o145 := by kernel_rfl
noncomputable def o146 : Option IFn := compF2 CX [(2, [(0, 0), (1, 0), (2, 0), (3, 0), (4, 0), (5, 0), (6, 0), (7, 0), (8, 0), (9, 0)])] Tryz.f146
theorem e146 : compF CX Tryz.f146 = o146 := by kernel_rfl
noncomputable def o147 : Option IFn := compF2 CX [] Tryz.f147
theorem e147 : compF CX Tryz.f147 = o147 := by kernel_rfl
noncomputable def o148 : Option IFn := compF2 CX [(5, [(0, 0), (1, 1), (2, 0), (3, 0), (4, 0), (5, 1), (6, 0), (7, 0), (8, 0), (9, 0), (10, 0), (11, 0), (12, 0), (13, 0), (14, 0), (15, 0), (16, 0), (17, 0)])] Tryz.f148
theorem e148 : compF CX Tryz.f148 = o148 := by kernel_rfl
noncomputable def o149 : Option IFn := compF2 CX [(5, [(0, 0), (1, 0), (2, 0), (3, 0), (4, 0), (5, 0), (6, 0), (7, 0), (8, 0), (9, 0), (10, 0), (11, 0), (12, 0), (13, 0)]), (6, [(0, 0), (1, 0), (2, 0), (3, 0), (4, 0), (5, 0), (6, 0), (7, 0), (8, 0), (9, 0), (10, 0), (11, 0), (12, 0), (13, 0)]), (7, [(0, 0), (1, 0), (2, 0), (3, 0), (4, 0), (5, 0), (6, 0), (7, 0), (8, 0), (9, 0), (10, 0), (11, 0), (12, 0), (13, 0)])] Tryz.f149
theorem e149 : compF CX Tryz.f149 = o149 := by kernel_rfl
noncomputable def o150 : Option IFn := compF2 CX [(12, [(0, 0), (1, 0), (2, 0), (3, 0), (4, 0), (5, 0), (6, 0), (7, 0), (8, 0)]), (14, [(0, 0), (1, 0), (2, 0), (3, 0), (4, 0), (5, 0), (6, 0), (7, 0), (8, 0)])] Tryz.f150
theorem e150 : compF CX Tryz.f150 = o150 := by kernel_rfl
noncomputable def o151 : Option IFn := compF2 CX [(7, [(0, 0), (1, 0), (2, 0), (3, 0), (4, 0), (5, 0), (6, 0), (7, 0), (8, 0), (9, 0), (10, 0), (11, 0), (12, 0), (13, 0), (14, 0), (15, 0), (16, 0), (17, 0), (18, 0), (19, 0), (20, 0), (21, 0), (22, 0), (23, 0), (24, 0), (25, 0), (26, 0), (27, 0), (28, 0), (29, 0), (30, 0), (31, 0), (32, 0), (33, 0), (34, 0), (35, 0), (36, 0), (37, 0), (38, 0), (39, 0), (40, 0), (41, 0), (42, 0), (43, 0)]), (8, [(0, 0), (1, 0), (2, 0), (3, 0), (4, 0), (5, 1), (6, 0), (7, 0), (8, 1), (9, 0), (10, 0), (11, 0), (12, 1), (13, 0), (14, 0), (15, 1), (16, 0), (17, 0), (18, 0), (19, 0)])] Tryz.f151
theorem e151 : compF CX Tryz.f151 = o151 := by kernel_rfl
noncomputable def o152 : Option IFn := compF2 CX [] Tryz.f152
theorem e152 : compF CX Tryz.f152 = o152 := by kernel_rfl
noncomputable def o153 : Option IFn := compF2 CX [(1, [(0, 0), (1, 0), (2, 0), (3, 1), (4, 0), (5, 0), (6, 0), (7, 0), (8, 0)])] Tryz.f153
theorem e153 : compF CX Tryz.f153 = o153 := by kernel_rfl
noncomputable def o154 : Option IFn := compF2 CX [] Tryz.f154
theorem e154 : compF CX Tryz.f154 = o154 := by kernel_rfl
noncomputable def o155 : Option IFn := compF2 CX [] Tryz.f155
theorem e155 : compF CX Tryz.f155 = o155 := by kernel_rfl
noncomputable def o156 : Option IFn := compF2 CX [] Tryz.f156
theorem e156 : compF CX Tryz.f156 = o156 := by kernel_rfl
noncomputable def o157 : Option IFn := compF2 CX [(3, [(0, 0), (1, 1), (2, 1), (3, 0), (4, 0), (5, 1), (6, 0), (7, 0), (8, 0), (9, 0)])] Tryz.f157
theorem e157 : compF CX Tryz.f157 = o157 := by kernel_rfl
noncomputable def o158 : Option IFn := compF2 CX [] Tryz.f158
theorem e158 : compF CX Tryz.f158 = o158 := by kernel_rfl
noncomputable def o159 : Option IFn := compF2 CX [(2, [(0, 0), (1, 0), (2, 0), (3, 0), (4, 0), (5, 0), (6, 0), (7, 0)])] Tryz.f159
theorem e159 : compF CX Tryz.f159 = o159 := by kernel_rfl
noncomputable def o160 : Option IFn := compF2 CX [] Tryz.f160
theorem e160 : compF CX Tryz.f160 = o160 := by kernel_rfl
noncomputable def o161 : Option IFn := compF2 CX [(6, [(0, 0), (1, 0), (2, 0), (3, 0), (4, 0), (5, 0), (6, 0), (7, 0), (8, 0), (9, 0), (10, 0), (11, 0), (12, 0), (13, 0)])] Tryz.f161
theorem e161 : compF CX Tryz.f161 = o161 := by kernel_rfl
noncomputable def o162 : Option IFn := compF2 CX [] Tryz.f162
theorem e162 : compF CX Tryz.f162 = o162 := by kernel_rfl
noncomputable def o163 : Option IFn := compF2 CX [(4, [(0, 0), (1, 0), (2, 0), (3, 0), (4, 0), (5, 0), (6, 1), (7, 1), (8, 0), (9, 0), (10, 0), (11, 0), (12, 0), (13, 0)]), (6, [(0, 0), (1, 0), (2, 0), (3, 0), (4, 0), (5, 0), (6, 1), (7, 1), (8, 0), (9, 0), (10, 0), (11, 0), (12, 0), (13, 0)])] Tryz.f163
theorem e163 : compF CX Tryz.f163 = o163 := by kernel_rfl
noncomputable def o164 : Option IFn := compF2 CX [(12, [(0, 0), (1, 0), (2, 1), (3, 0), (5, 0), (6, 1), (9, 0), (4, 0), (7, 0), (8, 0), (10, 0)])] Tryz.f164
theorem e164 : compF CX Tryz.f164 = o164 := by kernel_rfl
noncomputable def o165 : Option IFn := compF2 CX [(3, [(0, 0), (1, 0), (2, 1), (3, 0), (4, 0), (5, 0)]), (4, [(0, 0), (1, 0), (2, 0), (3, 0), (4, 0), (5, 0), (6, 0), (7, 0), (8, 0)]), (7, [(0, 0), (1, 0), (2, 0), (3, 0), (4, 0), (5, 0), (7, 1), (8, 0), (9, 0), (6, 0), (10, 0), (11, 0)])] Tryz.f165
theorem e165 : compF CX Tryz.f165 = o165 := by kernel_rfl
noncomputable def o166 : Option IFn := compF2 CX [] Tryz.f166
theorem e166 : compF CX Tryz.f166 = o166 := by kernel_rfl
noncomputable def o167 : Option IFn := compF2 CX [] Tryz.f167
theorem e167 : compF CX Tryz.f167 = o167 := by kernel_rfl
noncomputable def o168 : Option IFn := compF2 CX [] Tryz.f168
theorem e168 : compF CX Tryz.f168 = o168 := by kernel_rfl
noncomputable def o169 : Option IFn := compF2 CX [] Tryz.f169
theorem e169 : compF CX Tryz.f169 = o169 := by kernel_rfl
noncomputable def o170 : Option IFn := compF2 CX [] Tryz.f170
theorem e170 : compF CX Tryz.f170 = o170 := by kernel_rfl
noncomputable def o171 : Option IFn := compF2 CX [] Tryz.f171
theorem e171 : compF CX Tryz.f171 = o171 := by kernel_rfl
noncomputable def o172 : Option IFn := compF2 CX [(5, [(0, 0), (1, 0), (3, 0), (4, 0), (5, 0), (6, 1), (2, 0), (7, 0)]), (9, [(0, 0), (1, 0), (3, 0), (4, 1), (5, 0), (6, 0), (7, 1), (2, 0), (8, 0)])] Tryz.f172
theorem e172 : compF CX Tryz.f172 = o172 := by kernel_rfl
noncomputable def o173 : Option IFn := compF2 CX [] Tryz.f173
theorem e173 : compF CX Tryz.f173 = o173 := by kernel_rfl
noncomputable def o174 : Option IFn := compF2 CX [(19, [(0, 0), (1, 0), (2, 0), (3, 0), (4, 0), (5, 0), (6, 0)]), (20, [(0, 0), (1, 0), (2, 0), (3, 0), (4, 0), (5, 0), (6, 0), (7, 0)])] Tryz.f174
theorem e174 : compF CX Tryz.f174 = o174 := by kernel_rfl
noncomputable def o175 : Option IFn := compF2 CX [(1, [(0, 0), (1, 0), (3, 0), (4, 1), (6, 0), (2, 0), (5, 0), (7, 0)]), (2, [(0, 0), (1, 0), (2, 0), (3, 0), (4, 0), (5, 0), (6, 0), (7, 0), (8, 0), (9, 0), (10, 0)]), (4, [(0, 0), (1, 0), (3, 0), (4, 1), (2, 0), (5, 0), (6, 0), (7, 0), (8, 0), (9, 0), (10, 0)])] Tryz.f175
theorem e175 : compF CX Tryz.f175 = o175 := by kernel_rfl
noncomputable def o176 : Option IFn := compF2 CX [] Tryz.f176
theorem e176 : compF CX Tryz.f176 = o176 := by kernel_rfl
noncomputable def o177 : Option IFn := compF2 CX [(8, [(0, 0), (1, 0), (2, 0), (3, 1), (4, 0), (5, 0), (6, 0), (7, 0), (8, 1), (9, 0), (10, 0), (11, 1), (12, 0), (13, 0), (14, 0), (15, 0), (16, 0), (17, 0), (18, 1), (19, 0), (20, 0), (21, 0), (22, 0), (23, 0), (24, 0), (25, 0), (26, 0)])] Tryz.f177
theorem e177 : compF CX Tryz.f177 = o177 := by kernel_rfl
noncomputable def o178 : Option IFn := compF2 CX [] Tryz.f178
theorem e178 : compF CX Tryz.f178 = o178 := by kernel_rfl
noncomputable def o179 : Option IFn := compF2 CX [] Tryz.f179
theorem e179 : compF CX Tryz.f179 = o179 := by kernel_rfl
noncomputable def o180 : Option IFn := compF2 CX [(1, [(0, 0), (1, 0), (2, 0), (3, 0), (4, 0), (5, 0), (6, 0), (7, 0), (8, 0), (9, 0), (10, 0), (11, 0), (12, 0), (13, 0), (14, 0), (15, 0), (16, 0), (17, 0), (18, 0), (19, 0), (20, 0), (21, 0), (22, 0), (23, 0), (24, 0), (25, 0), (26, 0), (27, 0)])] Tryz.f180
theorem e180 : compF CX Tryz.f180 = o180 := by kernel_rfl
noncomputable def o181 : Option IFn := compF2 CX [] Tryz.f181
theorem e181 : compF CX Tryz.f181 = o181 := by kernel_rfl
noncomputable def o182 : Option IFn := compF2 CX [] Tryz.f182
theorem e182 : compF CX Tryz.f182 = o182 := by kernel_rfl
end Go.Proofs.YtoeplekdelhicaaGreat.ma
