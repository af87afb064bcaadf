-- by a program of this session (wip/ak/pw.py)
import Derived.Test.YtakeenidhkhmiaaUFnPlan2
set_option synthInstance.maxSize 20000
set_option synthInstance.maxHeartbeats 400000
set_option maxRecDepth 100000
set_option maxHeartbeats 4000000
set_option linter.unusedVariables false
set_option linter.unusedSimpArgs false
namespace Go.AK
open Go Go.Proofs
open Nat (reduceAdd reduceMul)
open Int (reduceToNat)
/-! ### laws.FnPlan: function 9 -/
def C9_l0 : AC := .seq (.sr [.m 205 16, .fa 206 4 8, .ld 207 1 206, .ln 208 207, .o (.bin 209 .lss (.t 205) (.t 208)), .keep [1, 5, 8, 11, 16, 209]] (.cond (.t 209) (.skip) (.gh (.exit 0)))) (.seq (.block 1 (.sr [.fa 212 4 8, .ld 213 1 212, .m 214 16, .ia 215 1 213 214, .ld 216 1 215, .m 17 216, .keep [1, 5, 8, 11, 16, 17]] (.seq (.ga (.reg [.m 217 17, .o (.bin 218 .lss (.t 217) (.k 0)), .m 219 218, .op (some (219, false)) (.mv 220 (.t 17)), .op (some (219, false)) (.faddr 221 3 (.t 5)), .op (some (219, false)) (.load 222 false 1 (.t 221)), .op (some (219, false)) (.len 223 (.t 222)), .op (some (219, false)) (.bin 224 .geq (.t 220) (.t 223)), .o (.pick 225 (.t 219) (.const (.bool true)) (.t 224)), .m 226 225, .op (some (226, false)) (.faddr 227 3 (.t 5)), .op (some (226, false)) (.load 228 false 1 (.t 227)), .op (some (226, false)) (.mv 229 (.t 17)), .op (some (226, false)) (.iaddr 230 3 (.t 228) (.t 229)), .op (some (226, false)) (.faddr 231 0 (.t 230)), .op (some (226, false)) (.load 232 false 1 (.t 231)), .op (some (226, false)) (.bin 233 .neq (.t 232) (.k 1)), .o (.pick 234 (.t 226) (.const (.bool true)) (.t 233)), .m 235 234, .op (some (235, false)) (.faddr 236 3 (.t 5)), .op (some (235, false)) (.load 237 false 1 (.t 236)), .op (some (235, false)) (.mv 238 (.t 17)), .op (some (235, false)) (.iaddr 239 3 (.t 237) (.t 238)), .op (some (235, false)) (.faddr 240 2 (.t 239)), .op (some (235, false)) (.load 241 false 1 (.t 240)), .op (some (235, false)) (.bin 242 .lss (.t 241) (.k 1)), .o (.pick 243 (.t 235) (.const (.bool true)) (.t 242)), .m 244 243, .op (some (244, false)) (.mv 245 (.t 11)), .op (some (244, false)) (.mv 246 (.t 17)), .op (some (244, false)) (.conv 247 .u64 (.t 246)), .op (some (244, false)) (.bin 248 .shl (.k 1) (.t 247)), .op (some (244, false)) (.bin 249 .and (.t 245) (.t 248)), .op (some (244, false)) (.bin 250 .neq (.t 249) (.k 0)), .o (.pick 251 (.t 244) (.const (.bool true)) (.t 250)), .m 252 251, .op (some (252, false)) (.mv 253 (.t 16)), .op (some (252, false)) (.bin 254 .gtr (.t 253) (.k 0)), .op (some (252, false)) (.mv 255 (.t 254)), .op (some (255, true)) (.faddr 256 4 (.t 8)), .op (some (255, true)) (.load 257 false 1 (.t 256)), .op (some (255, true)) (.mv 258 (.t 16)), .op (some (255, true)) (.bin 259 .sub (.t 258) (.k 1)), .op (some (255, true)) (.iaddr 260 1 (.t 257) (.t 259)), .op (some (255, true)) (.load 261 false 1 (.t 260)), .op (some (255, true)) (.mv 262 (.t 17)), .op (some (255, true)) (.bin 263 .geq (.t 261) (.t 262)), .op (some (252, false)) (.pick 264 (.t 255) (.t 263) (.const (.bool false))), .o (.pick 265 (.t 252) (.const (.bool true)) (.t 264)), .keep [1, 5, 8, 11, 16, 265]])) (.cond (.t 265) (.sr [.o (.mv 4 (.const (.bool false))), .keep [4]] (.gh .ret)) (.skip))))) (.reg [.m 210 16, .o (.bin 211 .add (.t 210) (.k 1)), .m 16 211, .keep [1, 5, 8, 11, 16]]))
def C9_l1 : AC := .seq (.sr [.m 303 25, .fa 304 4 5, .ld 305 1 304, .ln 306 305, .o (.bin 307 .lss (.t 303) (.t 306)), .keep [5, 18, 19, 20, 22, 24, 25, 307]] (.cond (.t 307) (.skip) (.gh (.exit 2)))) (.seq (.block 3 (.sr [.fa 310 4 5, .ld 311 1 310, .m 312 25, .ia 313 5 311 312, .o (.load 314 true 5 (.t 313)), .o (.alloc 26 [.int .u64 0, .int .i64 0, .int .i64 0, .int .i64 0, .int .i64 0]), .st 5 26 314, .keep [5, 18, 19, 20, 22, 24, 25, 26]] (.seq (.sr [.fa 315 0 26, .ld 316 1 315, .fa 317 1 26, .ld 318 1 317, .o (.conv 319 .u64 (.t 318)), .o (.bin 320 .add (.t 316) (.t 319)), .fa 321 2 26, .ld 322 1 321, .o (.conv 323 .u64 (.t 322)), .o (.bin 324 .add (.t 320) (.t 323)), .m 325 19, .o (.bin 326 .gtr (.t 324) (.t 325)), .keep [5, 18, 19, 20, 22, 24, 25, 26, 326]] (.cond (.t 326) (.seq (.seq (.ga (.regD (.f (.m 327 24) (.f (.m 328 20) (.f (.ln 329 328) (.f (.o (.bin 330 .geq (.t 327) (.t 329))) (.f (.m 331 330) (.f (.op (some (331, false)) (.mv 332 (.t 20))) (.f (.op (some (331, false)) (.mv 333 (.t 24))) (.f (.op (some (331, false)) (.iaddr 334 5 (.t 332) (.t 333))) (.f (.op (some (331, false)) (.load 335 true 5 (.t 334))) (.f (.op (some (331, false)) (.load 336 true 5 (.t 26))) (.f (.op (some (331, false)) (.aeq 337 true [0, 0, 0, 0, 0] (.t 335) (.t 336))) (.f (.o (.pick 338 (.t 331) (.const (.bool true)) (.t 337))) (.done))))))))))))) [5, 18, 19, 20, 22, 24, 25, 26, 338])) (.cond (.t 338) (.sr [.o (.mv 4 (.const (.bool false))), .keep [4]] (.gh .ret)) (.skip))) (.reg [.m 339 24, .o (.bin 340 .add (.t 339) (.k 1)), .m 24 340, .keep [5, 18, 19, 20, 22, 24, 25, 26]])) (.skip))) (.seq (.ga (.sr [.fa 341 3 26, .ld 342 1 341, .m 343 18, .o (.bin 344 .and (.t 342) (.t 343)), .o (.bin 345 .eql (.t 344) (.k 0)), .keep [5, 18, 19, 20, 22, 24, 25, 26, 345]] (.cond (.t 345) (.reg [.fa 346 4 26, .o (.store 1 (.t 346) (.k 1)), .keep [5, 18, 19, 20, 22, 24, 25, 26]]) (.skip)))) (.seq (.regD (.f (.m 347 22) (.f (.m 348 25) (.f (.ia 349 5 347 348) (.f (.o (.load 350 true 5 (.t 349))) (.f (.o (.load 351 true 5 (.t 26))) (.f (.o (.aeq 352 true [0, 0, 0, 0, 0] (.t 350) (.t 351))) (.done))))))) [5, 18, 19, 20, 22, 24, 25, 352]) (.cond (.t 352) (.sr [.o (.mv 4 (.const (.bool false))), .keep [4]] (.gh .ret)) (.skip))))))) (.reg [.m 308 25, .o (.bin 309 .add (.t 308) (.k 1)), .m 25 309, .keep [5, 18, 19, 20, 22, 24, 25]]))
def C9 : AC := .sr [.o (.mv 4 (.const (.bool false))), .keep [0, 1]] (.seq (.seq (.ga (.reg [.m 27 0, .ln 28 27, .o (.bin 29 .gtr (.t 28) (.k 1048576)), .m 30 29, .op (some (30, false)) (.mv 31 (.t 1)), .op (some (30, false)) (.len 32 (.t 31)), .op (some (30, false)) (.bin 33 .gtr (.t 32) (.k 1048576)), .o (.pick 34 (.t 30) (.const (.bool true)) (.t 33)), .keep [0, 1, 34]])) (.cond (.t 34) (.sr [.o (.mv 4 (.const (.bool true))), .keep [4]] (.ret)) (.skip))) (.sr [.m 35 0, .call none (some 36) 54 [.tmp 35], .o (.alloc 5 [.int .i64 0, .int .i64 0, .slice none 0 0, .slice none 0 0, .slice none 0 0, .int .i64 0, .int .u64 0, .int .u64 0, .int .u64 0, .int .i64 0, .int .i64 0, .int .i64 0]), .gh, .st 12 5 36, .keep [0, 1, 5]] (.sr [.o (.load 38 true 12 (.t 5)), .call none (some 39) 46 [.tmp 38], .m 37 39, .o (.extr 40 (.t 37) 0), .o (.extr 41 (.t 37) 1), .o (.alloc 6 [.int .i64 0, .int .i64 0, .int .u64 0, .int .i64 0, .slice none 0 0, .int .i64 0, .int .i64 0]), .gh, .st 7 6 40, .m 7 41, .keep [0, 1, 5, 6, 7]] (.sr [.m 43 0, .call none (some 44) 54 [.tmp 43], .call none (some 45) 48 [.tmp 44], .m 42 45, .o (.extr 46 (.t 42) 0), .o (.extr 47 (.t 42) 1), .o (.alloc 8 [.int .i64 0, .int .i64 0, .int .u64 0, .int .i64 0, .slice none 0 0, .int .i64 0, .int .i64 0]), .gh, .st 7 8 46, .m 9 47, .keep [1, 5, 6, 7, 8, 9]] (.seq (.sr [.m 48 9, .m 49 7, .o (.bin 50 .neq (.t 48) (.t 49)), .keep [1, 5, 6, 7, 8, 50]] (.cond (.t 50) (.sr [.o (.mv 4 (.const (.bool false))), .keep [4]] (.ret)) (.skip))) (.seq (.sr [.m 51 7, .o (.bin 52 .neq (.t 51) (.k 0)), .keep [1, 5, 6, 8, 52]] (.cond (.t 52) (.sr [.fa 53 0 8, .ld 54 1 53, .o (.bin 55 .eql (.t 54) (.k 0)), .m 56 55, .op (some (56, true)) (.faddr 57 4 (.t 8)), .op (some (56, true)) (.load 58 false 1 (.t 57)), .op (some (56, true)) (.len 59 (.t 58)), .op (some (56, true)) (.bin 60 .eql (.t 59) (.k 0)), .o (.pick 61 (.t 56) (.t 60) (.const (.bool false))), .m 4 61, .keep [4]] (.ret)) (.skip))) (.seq (.seq (.ga (.reg [.fa 62 0 8, .ld 63 1 62, .fa 64 0 6, .ld 65 1 64, .o (.bin 66 .neq (.t 63) (.t 65)), .m 67 66, .op (some (67, false)) (.faddr 68 1 (.t 8)), .op (some (67, false)) (.load 69 false 1 (.t 68)), .op (some (67, false)) (.faddr 70 1 (.t 6)), .op (some (67, false)) (.load 71 false 1 (.t 70)), .op (some (67, false)) (.bin 72 .neq (.t 69) (.t 71)), .o (.pick 73 (.t 67) (.const (.bool true)) (.t 72)), .m 74 73, .op (some (74, false)) (.faddr 75 0 (.t 8)), .op (some (74, false)) (.load 76 false 1 (.t 75)), .op (some (74, false)) (.bin 77 .eql (.t 76) (.k 0)), .op (some (74, false)) (.faddr 78 4 (.t 8)), .op (some (74, false)) (.load 79 false 1 (.t 78)), .op (some (74, false)) (.len 80 (.t 79)), .op (some (74, false)) (.bin 81 .eql (.t 80) (.k 0)), .op (some (74, false)) (.beq 82 true (.t 77) (.t 81)), .o (.pick 83 (.t 74) (.const (.bool true)) (.t 82)), .keep [1, 5, 8, 83]])) (.cond (.t 83) (.sr [.o (.mv 4 (.const (.bool false))), .keep [4]] (.ret)) (.skip))) (.sr [.o (.mv 10 (.k 0)), .keep [1, 5, 8, 10]] (.seq (.ga (.sr [.fa 84 2 5, .ld 85 1 84, .ln 86 85, .o (.bin 87 .gtr (.t 86) (.k 0)), .keep [1, 5, 8, 10, 87]] (.cond (.t 87) (.reg [.fa 88 2 5, .ld 89 1 88, .o (.iaddr 90 1 (.t 89) (.k 0)), .ld 91 1 90, .m 10 91, .keep [1, 5, 8, 10]]) (.skip)))) (.sr [.o (.mv 11 (.k 0)), .keep [1, 5, 8, 10, 11]] (.seq (.ga (.sr [.fa 92 0 8, .ld 93 1 92, .o (.bin 94 .eql (.t 93) (.k 1)), .keep [1, 5, 8, 10, 11, 94]] (.cond (.t 94) (.sr [.fa 95 4 5, .ld 96 1 95, .fa 97 1 8, .ld 98 1 97, .ia 99 5 96 98, .o (.load 100 true 5 (.t 99)), .o (.alloc 12 [.int .u64 0, .int .i64 0, .int .i64 0, .int .i64 0, .int .i64 0]), .st 5 12 100, .keep [1, 5, 8, 10, 12]] (.sr [.fa 101 3 12, .ld 102 1 101, .m 11 102, .keep [1, 5, 8, 10, 11, 12]] (.seq (.ga (.reg [.fa 103 4 12, .ld 104 1 103, .o (.bin 105 .neq (.t 104) (.k 1)), .m 106 105, .op (some (106, false)) (.faddr 107 2 (.t 8)), .op (some (106, false)) (.load 108 false 1 (.t 107)), .op (some (106, false)) (.faddr 109 0 (.t 12)), .op (some (106, false)) (.load 110 false 1 (.t 109)), .op (some (106, false)) (.bin 111 .neq (.t 108) (.t 110)), .o (.pick 112 (.t 106) (.const (.bool true)) (.t 111)), .m 113 112, .op (some (113, false)) (.faddr 114 3 (.t 8)), .op (some (113, false)) (.load 115 false 1 (.t 114)), .op (some (113, false)) (.faddr 116 1 (.t 12)), .op (some (113, false)) (.load 117 false 1 (.t 116)), .op (some (113, false)) (.bin 118 .neq (.t 115) (.t 117)), .o (.pick 119 (.t 113) (.const (.bool true)) (.t 118)), .keep [1, 5, 8, 10, 11, 119]])) (.cond (.t 119) (.sr [.o (.mv 4 (.const (.bool false))), .keep [4]] (.ret)) (.skip))))) (.skip)))) (.seq (.seq (.ga (.reg [.fa 120 0 8, .ld 121 1 120, .o (.bin 122 .eql (.t 121) (.k 2)), .m 123 122, .op (some (123, true)) (.faddr 124 2 (.t 8)), .op (some (123, true)) (.load 125 false 1 (.t 124)), .op (some (123, true)) (.faddr 126 6 (.t 5)), .op (some (123, true)) (.load 127 false 1 (.t 126)), .op (some (123, true)) (.bin 128 .neq (.t 125) (.t 127)), .op (some (123, true)) (.mv 129 (.t 128)), .op (some (129, false)) (.faddr 130 3 (.t 8)), .op (some (129, false)) (.load 131 false 1 (.t 130)), .op (some (129, false)) (.bin 132 .lss (.t 131) (.k 1)), .op (some (123, true)) (.pick 133 (.t 129) (.const (.bool true)) (.t 132)), .op (some (123, true)) (.mv 134 (.t 133)), .op (some (134, false)) (.faddr 135 3 (.t 8)), .op (some (134, false)) (.load 136 false 1 (.t 135)), .op (some (134, false)) (.faddr 137 11 (.t 5)), .op (some (134, false)) (.load 138 false 1 (.t 137)), .op (some (134, false)) (.bin 139 .gtr (.t 136) (.t 138)), .op (some (123, true)) (.pick 140 (.t 134) (.const (.bool true)) (.t 139)), .op (some (123, true)) (.mv 141 (.t 140)), .op (some (141, false)) (.faddr 142 6 (.t 5)), .op (some (141, false)) (.load 143 false 1 (.t 142)), .op (some (141, false)) (.faddr 144 3 (.t 8)), .op (some (141, false)) (.load 145 false 1 (.t 144)), .op (some (141, false)) (.conv 146 .u64 (.t 145)), .op (some (141, false)) (.bin 147 .add (.t 143) (.t 146)), .op (some (141, false)) (.faddr 148 7 (.t 5)), .op (some (141, false)) (.load 149 false 1 (.t 148)), .op (some (141, false)) (.bin 150 .gtr (.t 147) (.t 149)), .op (some (123, true)) (.pick 151 (.t 141) (.const (.bool true)) (.t 150)), .op (some (123, true)) (.mv 152 (.t 151)), .op (some (152, false)) (.faddr 153 6 (.t 5)), .op (some (152, false)) (.load 154 false 1 (.t 153)), .op (some (152, false)) (.faddr 155 3 (.t 8)), .op (some (152, false)) (.load 156 false 1 (.t 155)), .op (some (152, false)) (.conv 157 .u64 (.t 156)), .op (some (152, false)) (.bin 158 .add (.t 154) (.t 157)), .op (some (152, false)) (.faddr 159 8 (.t 5)), .op (some (152, false)) (.load 160 false 1 (.t 159)), .op (some (152, false)) (.bin 161 .gtr (.t 158) (.t 160)), .op (some (123, true)) (.pick 162 (.t 152) (.const (.bool true)) (.t 161)), .o (.pick 163 (.t 123) (.t 162) (.const (.bool false))), .keep [1, 5, 8, 10, 11, 163]])) (.cond (.t 163) (.sr [.o (.mv 4 (.const (.bool false))), .keep [4]] (.ret)) (.skip))) (.seq (.ga (.sr [.fa 164 0 8, .ld 165 1 164, .o (.bin 166 .neq (.t 165) (.k 0)), .keep [1, 5, 8, 10, 11, 166]] (.cond (.t 166) (.sr [.fa 168 0 5, .ld 169 1 168, .fa 170 1 5, .ld 171 1 170, .m 172 10, .fa 173 3 5, .ld 174 1 173, .m 175 11, .call none (some 176) 39 [.tmp 169, .tmp 171, .tmp 172, .tmp 174, .tmp 175], .m 167 176, .o (.extr 177 (.t 167) 0), .o (.extr 178 (.t 167) 1), .o (.extr 179 (.t 167) 2), .m 13 177, .m 14 178, .m 15 179, .keep [1, 5, 8, 11, 13, 14, 15]] (.seq (.ga (.reg [.m 180 15, .o (.bin 181 .neq (.t 180) (.k 0)), .m 182 181, .op (some (182, false)) (.mv 183 (.t 14)), .op (some (182, false)) (.faddr 184 5 (.t 8)), .op (some (182, false)) (.load 185 false 1 (.t 184)), .op (some (182, false)) (.bin 186 .neq (.t 183) (.t 185)), .o (.pick 187 (.t 182) (.const (.bool true)) (.t 186)), .m 188 187, .op (some (188, false)) (.mv 189 (.t 13)), .op (some (188, false)) (.faddr 190 4 (.t 8)), .op (some (188, false)) (.load 191 false 1 (.t 190)), .call (some (188, false)) (some 192) 55 [.tmp 189, .tmp 191], .op (some (188, false)) (.un 193 .not (.t 192)), .o (.pick 194 (.t 188) (.const (.bool true)) (.t 193)), .m 195 194, .op (some (195, false)) (.faddr 196 0 (.t 5)), .op (some (195, false)) (.load 197 false 1 (.t 196)), .op (some (195, false)) (.bin 198 .neq (.t 197) (.k 3)), .op (some (195, false)) (.mv 199 (.t 198)), .op (some (199, true)) (.mv 200 (.t 13)), .op (some (199, true)) (.len 201 (.t 200)), .op (some (199, true)) (.bin 202 .neq (.t 201) (.k 1)), .op (some (195, false)) (.pick 203 (.t 199) (.t 202) (.const (.bool false))), .o (.pick 204 (.t 195) (.const (.bool true)) (.t 203)), .keep [1, 5, 8, 11, 204]])) (.cond (.t 204) (.sr [.o (.mv 4 (.const (.bool false))), .keep [4]] (.ret)) (.skip)))) (.skip)))) (.seq (.sr [.o (.mv 16 (.k 0)), .keep [1, 5, 8, 11, 16]] (.block 0 (.gh (.loop (.ga C9_l0))))) (.sr [.m 266 1, .ln 267 266, .o (.bin 268 .rem (.t 267) (.k 256)), .m 18 268, .keep [5, 18]] (.sr [.fa 269 6 5, .ld 270 1 269, .fa 271 6 5, .ld 272 1 271, .o (.bin 273 .quo (.t 272) (.const (.int .u64 3))), .o (.bin 274 .sub (.t 270) (.t 273)), .m 19 274, .keep [5, 18, 19]] (.sr [.fa 276 4 5, .ld 277 1 276, .m 278 19, .call none (some 279) 30 [.tmp 277, .tmp 278], .m 275 279, .o (.extr 280 (.t 275) 0), .o (.extr 281 (.t 275) 1), .m 20 280, .m 21 281, .keep [5, 18, 19, 20, 21]] (.sr [.fa 283 4 5, .ld 284 1 283, .m 285 18, .call none (some 286) 35 [.tmp 284, .tmp 285], .m 282 286, .o (.extr 287 (.t 282) 0), .o (.extr 288 (.t 282) 1), .m 22 287, .m 23 288, .keep [5, 18, 19, 20, 21, 22, 23]] (.seq (.seq (.ga (.reg [.m 289 21, .o (.bin 290 .neq (.t 289) (.k 0)), .m 291 290, .op (some (291, false)) (.mv 292 (.t 23)), .op (some (291, false)) (.bin 293 .neq (.t 292) (.k 0)), .o (.pick 294 (.t 291) (.const (.bool true)) (.t 293)), .m 295 294, .op (some (295, false)) (.mv 296 (.t 22)), .op (some (295, false)) (.len 297 (.t 296)), .op (some (295, false)) (.faddr 298 4 (.t 5)), .op (some (295, false)) (.load 299 false 1 (.t 298)), .op (some (295, false)) (.len 300 (.t 299)), .op (some (295, false)) (.bin 301 .neq (.t 297) (.t 300)), .o (.pick 302 (.t 295) (.const (.bool true)) (.t 301)), .keep [5, 18, 19, 20, 22, 302]])) (.cond (.t 302) (.sr [.o (.mv 4 (.const (.bool false))), .keep [4]] (.ret)) (.skip))) (.sr [.o (.mv 24 (.k 0)), .keep [5, 18, 19, 20, 22, 24]] (.seq (.sr [.o (.mv 25 (.k 0)), .keep [5, 18, 19, 20, 22, 24, 25]] (.block 2 (.gh (.loop (.ga C9_l1))))) (.sr [.m 353 24, .m 354 20, .ln 355 354, .o (.bin 356 .eql (.t 353) (.t 355)), .m 4 356, .keep [4]] (.ret)))))))))))))))))))))))
def r9 : List RV := [.tmp 4]
theorem k9 : compC Try.prog 357 C9 (Try.f9.body.getD .skip) = some C9.erase := by kernel_rfl
theorem q9 : rvsOf Try.prog Try.f9.results.toList = some r9 := by kernel_rfl
def laws_FnPlan.l0 (l0 : List Int) (x0_0 : Int) (x0_2 : Int) (x0_3 : Int) (x0_4 : (List Int)) (x0_5 : (List S86)) (x0_6 : (List S84)) (x0_7 : Int) (x0_8 : Int) (x0_9 : Int) (x0_10 : Int) (x0_11 : Int) (x0_12 : Int) (x0_13 : Int) (x0_14 : Int) (x0_15 : Int) (x0_16 : Int) (x0_17 : Int) (x0_18 : (List Int)) (x0_19 : Int) (x0_20 : Int) (x0_1 : Int) : Option (Lp Unit Bool) := (if x0_1 < (x0_18.length : Int) then (if 0 ≤ x0_1 ∧ x0_1 < (x0_18.length : Int) then ((if (rd 0 x0_18 x0_1) < 0 then (some true) else (if (rd 0 x0_18 x0_1) ≥ (x0_5.length : Int) then (some true) else (if 0 ≤ (rd 0 x0_18 x0_1) ∧ (rd 0 x0_18 x0_1) < (x0_5.length : Int) then (if (rd z86 x0_5 (rd 0 x0_18 x0_1)).f0 ≠ 1 then (some true) else (if (rd z86 x0_5 (rd 0 x0_18 x0_1)).f2 < 1 then (some true) else (if ¬ IntKind.u64.wrap (rd 0 x0_18 x0_1) < 0 then (if bits .and .i64 x0_0 (IntKind.i64.wrap (1 * 2 ^ (min (IntKind.u64.wrap (rd 0 x0_18 x0_1)).toNat 64))) ≠ 0 then (some true) else (if x0_1 > 0 then (if 0 ≤ IntKind.i64.wrap (x0_1 - 1) ∧ IntKind.i64.wrap (x0_1 - 1) < (x0_18.length : Int) then (some (decide ((rd 0 x0_18 (IntKind.i64.wrap (x0_1 - 1))) ≥ (rd 0 x0_18 x0_1)))) else none) else (some false))) else none))) else none))) >>= fun (j160 : Bool) => (if j160 = true then (some (.b false)) else (laws_FnPlan.l0 l0 x0_0 x0_2 x0_3 x0_4 x0_5 x0_6 x0_7 x0_8 x0_9 x0_10 x0_11 x0_12 x0_13 x0_14 x0_15 x0_16 x0_17 x0_18 x0_19 x0_20 (IntKind.i64.wrap (x0_1 + 1))))) else none) else (some (.a ())))
 partial_fixpoint
def laws_FnPlan.l1 (l1 : List Int) (x1_0 : Int) (x1_1 : Int) (x1_4 : Int) (x1_5 : Int) (x1_6 : (List Int)) (x1_7 : (List S86)) (x1_8 : (List S84)) (x1_9 : Int) (x1_10 : Int) (x1_11 : Int) (x1_12 : Int) (x1_13 : Int) (x1_14 : Int) (x1_15 : Int) (x1_16 : (List S84)) (x1_17 : (List S84)) (x1_2 : Int) (x1_3 : Int) : Option (Lp Int Bool) := (if x1_3 < (x1_8.length : Int) then (if 0 ≤ x1_3 ∧ x1_3 < (x1_8.length : Int) then (if IntKind.u64.wrap ((IntKind.u64.wrap (((rd z84 x1_8 x1_3).f0) + (IntKind.u64.wrap ((rd z84 x1_8 x1_3).f1)))) + (IntKind.u64.wrap ((rd z84 x1_8 x1_3).f2))) > x1_1 then ((if x1_2 ≥ (x1_16.length : Int) then (some true) else (if 0 ≤ x1_2 ∧ x1_2 < (x1_16.length : Int) then (some (!(decide ((rd z84 x1_16 x1_2).f0 = (rd z84 x1_8 x1_3).f0) && (decide ((rd z84 x1_16 x1_2).f1 = (rd z84 x1_8 x1_3).f1) && (decide ((rd z84 x1_16 x1_2).f2 = (rd z84 x1_8 x1_3).f2) && (decide ((rd z84 x1_16 x1_2).f3 = (rd z84 x1_8 x1_3).f3) && decide ((rd z84 x1_16 x1_2).f4 = (rd z84 x1_8 x1_3).f4))))))) else none)) >>= fun (j235 : Bool) => (if j235 = true then (some (.b false)) else ((if bits .and .i64 ((rd z84 x1_8 x1_3).f3) x1_0 = 0 then (some 1) else (some ((rd z84 x1_8 x1_3).f4))) >>= fun (j246 : Int) => (if 0 ≤ x1_3 ∧ x1_3 < (x1_17.length : Int) then (if (!(decide ((rd z84 x1_17 x1_3).f0 = (rd z84 x1_8 x1_3).f0) && (decide ((rd z84 x1_17 x1_3).f1 = (rd z84 x1_8 x1_3).f1) && (decide ((rd z84 x1_17 x1_3).f2 = (rd z84 x1_8 x1_3).f2) && (decide ((rd z84 x1_17 x1_3).f3 = (rd z84 x1_8 x1_3).f3) && decide ((rd z84 x1_17 x1_3).f4 = j246)))))) = true then (some (.b false)) else (laws_FnPlan.l1 l1 x1_0 x1_1 x1_4 x1_5 x1_6 x1_7 x1_8 x1_9 x1_10 x1_11 x1_12 x1_13 x1_14 x1_15 x1_16 x1_17 (IntKind.i64.wrap (x1_2 + 1)) (IntKind.i64.wrap (x1_3 + 1)))) else none)))) else ((if bits .and .i64 ((rd z84 x1_8 x1_3).f3) x1_0 = 0 then (some 1) else (some ((rd z84 x1_8 x1_3).f4))) >>= fun (j257 : Int) => (if 0 ≤ x1_3 ∧ x1_3 < (x1_17.length : Int) then (if (!(decide ((rd z84 x1_17 x1_3).f0 = (rd z84 x1_8 x1_3).f0) && (decide ((rd z84 x1_17 x1_3).f1 = (rd z84 x1_8 x1_3).f1) && (decide ((rd z84 x1_17 x1_3).f2 = (rd z84 x1_8 x1_3).f2) && (decide ((rd z84 x1_17 x1_3).f3 = (rd z84 x1_8 x1_3).f3) && decide ((rd z84 x1_17 x1_3).f4 = j257)))))) = true then (some (.b false)) else (laws_FnPlan.l1 l1 x1_0 x1_1 x1_4 x1_5 x1_6 x1_7 x1_8 x1_9 x1_10 x1_11 x1_12 x1_13 x1_14 x1_15 x1_16 x1_17 x1_2 (IntKind.i64.wrap (x1_3 + 1)))) else none))) else none) else (some (.a x1_2)))
 partial_fixpoint
def laws_FnPlan.f (l0 : List Int) (l1 : List Int) : Option Bool := ((if (l0.length : Int) > 1048576 then (some true) else (some (decide ((l1.length : Int) > 1048576)))) >>= fun (j3 : Bool) => (if j3 = true then (some true) else (spec_DrawPlanSend.f l0 >>= fun t13 => (spec_PlanSend.f t13.1 t13.2.1 t13.2.2.1 t13.2.2.2.1 t13.2.2.2.2.1 t13.2.2.2.2.2.1 t13.2.2.2.2.2.2.1 t13.2.2.2.2.2.2.2.1 t13.2.2.2.2.2.2.2.2.1 t13.2.2.2.2.2.2.2.2.2.1 t13.2.2.2.2.2.2.2.2.2.2.1 t13.2.2.2.2.2.2.2.2.2.2.2 >>= fun t20 => (impl_PlanSend.f t13.1 t13.2.1 t13.2.2.1 t13.2.2.2.1 t13.2.2.2.2.1 t13.2.2.2.2.2.1 t13.2.2.2.2.2.2.1 t13.2.2.2.2.2.2.2.1 t13.2.2.2.2.2.2.2.2.1 t13.2.2.2.2.2.2.2.2.2.1 t13.2.2.2.2.2.2.2.2.2.2.1 t13.2.2.2.2.2.2.2.2.2.2.2 >>= fun t26 => (if t26.2.2.2.2.2.2.2 ≠ t20.2.2.2.2.2.2.2 then (some false) else (if t20.2.2.2.2.2.2.2 ≠ 0 then (if t26.1 = 0 then (some (decide ((t26.2.2.2.2.1.length : Int) = 0))) else (some false)) else ((if t26.1 ≠ t20.1 then (some true) else (if t26.2.1 ≠ t20.2.1 then (some true) else (some (!((decide (t26.1 = 0)) == (decide ((t26.2.2.2.2.1.length : Int) = 0))))))) >>= fun (j42 : Bool) => (if j42 = true then (some false) else ((if (t13.2.2.1.length : Int) > 0 then (if (0 : Int) ≤ 0 ∧ 0 < (t13.2.2.1.length : Int) then (some (rd 0 t13.2.2.1 0)) else none) else (some 0)) >>= fun (j55 : Int) => ((if t26.1 = 1 then (if 0 ≤ t26.2.1 ∧ t26.2.1 < (t13.2.2.2.2.1.length : Int) then ((if (rd z84 t13.2.2.2.2.1 t26.2.1).f4 ≠ 1 then (some true) else (if t26.2.2.1 ≠ (rd z84 t13.2.2.2.2.1 t26.2.1).f0 then (some true) else (some (decide (t26.2.2.2.1 ≠ (rd z84 t13.2.2.2.2.1 t26.2.1).f1))))) >>= fun (j79 : Bool) => (if j79 = true then ((some false) >>= fun r => some (Lp.a r)) else (some (.b ((rd z84 t13.2.2.2.2.1 t26.2.1).f3))))) else none) else (some (.b 0))) >>= fun (j68 : Lp _ Int) => match j68 with | .a r => some r | .b x72 => ((if t26.1 = 2 then (if t26.2.2.1 ≠ t13.2.2.2.2.2.2.1 then (some true) else (if t26.2.2.2.1 < 1 then (some true) else (if t26.2.2.2.1 > t13.2.2.2.2.2.2.2.2.2.2.2 then (some true) else (if IntKind.u64.wrap (t13.2.2.2.2.2.2.1 + (IntKind.u64.wrap t26.2.2.2.1)) > t13.2.2.2.2.2.2.2.1 then (some true) else (some (decide (IntKind.u64.wrap (t13.2.2.2.2.2.2.1 + (IntKind.u64.wrap t26.2.2.2.1)) > t13.2.2.2.2.2.2.2.2.1))))))) else (some false)) >>= fun (j92 : Bool) => (if j92 = true then (some false) else ((if t26.1 ≠ 0 then (impl_Pick.f t13.1 t13.2.1 j55 t13.2.2.2.1 x72 >>= fun t125 => ((if t125.2.2 ≠ 0 then (some true) else (if t125.2.1 ≠ t26.2.2.2.2.2.1 then (some true) else (laws_lNums.f t125.1 t26.2.2.2.2.1 >>= fun t138 => (if (!t138) = true then (some true) else (if t13.1 ≠ 3 then (some (decide ((t125.1.length : Int) ≠ 1))) else (some false)))))) >>= fun (j128 : Bool) => (if j128 = true then ((some false) >>= fun r => some (Lp.a r)) else (some (.b ()))))) else (some (.b ()))) >>= fun (j117 : Lp _ Unit) => match j117 with | .a r => some r | .b x121 => (laws_FnPlan.l0 l0 x72 t13.1 t13.2.1 t13.2.2.1 t13.2.2.2.1 t13.2.2.2.2.1 t13.2.2.2.2.2.1 t13.2.2.2.2.2.2.1 t13.2.2.2.2.2.2.2.1 t13.2.2.2.2.2.2.2.2.1 t13.2.2.2.2.2.2.2.2.2.1 t13.2.2.2.2.2.2.2.2.2.2.1 t13.2.2.2.2.2.2.2.2.2.2.2 t26.1 t26.2.1 t26.2.2.1 t26.2.2.2.1 t26.2.2.2.2.1 t26.2.2.2.2.2.1 t26.2.2.2.2.2.2.1 0 >>= fun (y193 : Lp Unit Bool) => match y193 with | .a x195 => (impl_AckMaps.f t13.2.2.2.2.1 (IntKind.u64.wrap (t13.2.2.2.2.2.2.1 - (IntKind.u64.wrap (t13.2.2.2.2.2.2.1.tdiv 3)))) >>= fun t199 => (impl_QueueMaps.f t13.2.2.2.2.1 ((l1.length : Int).tmod 256) >>= fun t203 => ((if t199.2 ≠ 0 then (some true) else (if t203.2 ≠ 0 then (some true) else (some (decide ((t203.1.length : Int) ≠ (t13.2.2.2.2.1.length : Int)))))) >>= fun (j207 : Bool) => (if j207 = true then (some false) else (laws_FnPlan.l1 l1 ((l1.length : Int).tmod 256) (IntKind.u64.wrap (t13.2.2.2.2.2.2.1 - (IntKind.u64.wrap (t13.2.2.2.2.2.2.1.tdiv 3)))) t13.1 t13.2.1 t13.2.2.1 t13.2.2.2.1 t13.2.2.2.2.1 t13.2.2.2.2.2.1 t13.2.2.2.2.2.2.1 t13.2.2.2.2.2.2.2.1 t13.2.2.2.2.2.2.2.2.1 t13.2.2.2.2.2.2.2.2.2.1 t13.2.2.2.2.2.2.2.2.2.2.1 t13.2.2.2.2.2.2.2.2.2.2.2 t199.1 t203.1 0 0 >>= fun (y268 : Lp Int Bool) => match y268 with | .a x270 => (some (decide (x270 = (t199.1.length : Int)))) | .b x270 => (some x270)))))) | .b x195 => (some x195))))))))))))))))
def laws_FnPlan.l0_M (cs0 : List Cell) (o0 : Nat) (l0 : List Int) (hv0 : Vw c_u8 1 cs0 o0 l0) (cs1 : List Cell) (o1 : Nat) (l1 : List Int) (hv1 : Vw c_u8 1 cs1 o1 l1) (x0_0 : Int) (x0_2 : Int) (x0_3 : Int) (x0_4 : (List Int)) (x0_5 : (List S86)) (x0_6 : (List S84)) (x0_7 : Int) (x0_8 : Int) (x0_9 : Int) (x0_10 : Int) (x0_11 : Int) (x0_12 : Int) (x0_13 : Int) (x0_14 : Int) (x0_15 : Int) (x0_16 : Int) (x0_17 : Int) (x0_18 : (List Int)) (x0_19 : Int) (x0_20 : Int) (x0_1 : Int) (y : Lp Unit Bool) : Prop := ∀ (K : AE → St → Prop), (∀ x, y = .a x → K (.exit 0) ⟨[(1, .c (.ref (.arg 1) [] o1 l1.length)), (5, .c (.ptr (.tmp 5 0) [] 0))], [(.arg 0, ⟨.fz, 1, cs0⟩), (.arg 1, ⟨.fz, 1, cs1⟩), (.tmp 5 0, ⟨.box, 0, [.sc (.int .i64 x0_2), .sc (.int .i64 x0_3), .own 1 x0_4.length (encL c_i64 x0_4), .own 3 x0_5.length (encL c86 x0_5), .own 5 x0_6.length (encL c84 x0_6), .sc (.int .i64 x0_7), .sc (.int .u64 x0_8), .sc (.int .u64 x0_9), .sc (.int .u64 x0_10), .sc (.int .i64 x0_11), .sc (.int .i64 x0_12), .sc (.int .i64 x0_13)]⟩)], [], []⟩) → (∀ x, y = .b x → K .ret ⟨[(4, .c (.sc (.bool x)))], [(.arg 0, ⟨.fz, 1, cs0⟩), (.arg 1, ⟨.fz, 1, cs1⟩)], [], []⟩) → loopS Try.prog 357 (.ga C9_l0) K ⟨[(1, .c (.ref (.arg 1) [] o1 l1.length)), (5, .c (.ptr (.tmp 5 0) [] 0)), (8, .c (.ptr (.tmp 8 0) [] 0)), (11, .c (.sc (.int .i64 x0_0))), (16, .c (.sc (.int .i64 x0_1)))], [(.arg 0, ⟨.fz, 1, cs0⟩), (.arg 1, ⟨.fz, 1, cs1⟩), (.tmp 5 0, ⟨.box, 0, [.sc (.int .i64 x0_2), .sc (.int .i64 x0_3), .own 1 x0_4.length (encL c_i64 x0_4), .own 3 x0_5.length (encL c86 x0_5), .own 5 x0_6.length (encL c84 x0_6), .sc (.int .i64 x0_7), .sc (.int .u64 x0_8), .sc (.int .u64 x0_9), .sc (.int .u64 x0_10), .sc (.int .i64 x0_11), .sc (.int .i64 x0_12), .sc (.int .i64 x0_13)]⟩), (.tmp 8 0, ⟨.box, 0, [.sc (.int .i64 x0_14), .sc (.int .i64 x0_15), .sc (.int .u64 x0_16), .sc (.int .i64 x0_17), .own 1 x0_18.length (encL c_i64 x0_18), .sc (.int .i64 x0_19), .sc (.int .i64 x0_20)]⟩)], [], []⟩
theorem laws_FnPlan.l0_walk (cs0 : List Cell) (o0 : Nat) (l0 : List Int) (hv0 : Vw c_u8 1 cs0 o0 l0) (cs1 : List Cell) (o1 : Nat) (l1 : List Int) (hv1 : Vw c_u8 1 cs1 o1 l1) (x0_0 : Int) (x0_2 : Int) (x0_3 : Int) (x0_4 : (List Int)) (x0_5 : (List S86)) (x0_6 : (List S84)) (x0_7 : Int) (x0_8 : Int) (x0_9 : Int) (x0_10 : Int) (x0_11 : Int) (x0_12 : Int) (x0_13 : Int) (x0_14 : Int) (x0_15 : Int) (x0_16 : Int) (x0_17 : Int) (x0_18 : (List Int)) (x0_19 : Int) (x0_20 : Int) (x0_1 : Int) (y : Lp Unit Bool) (h : laws_FnPlan.l0 l0 x0_0 x0_2 x0_3 x0_4 x0_5 x0_6 x0_7 x0_8 x0_9 x0_10 x0_11 x0_12 x0_13 x0_14 x0_15 x0_16 x0_17 x0_18 x0_19 x0_20 x0_1 = some y) : laws_FnPlan.l0_M cs0 o0 l0 hv0 cs1 o1 l1 hv1 x0_0 x0_2 x0_3 x0_4 x0_5 x0_6 x0_7 x0_8 x0_9 x0_10 x0_11 x0_12 x0_13 x0_14 x0_15 x0_16 x0_17 x0_18 x0_19 x0_20 x0_1 y := by
 refine laws_FnPlan.l0.partial_correctness l0 x0_0 x0_2 x0_3 x0_4 x0_5 x0_6 x0_7 x0_8 x0_9 x0_10 x0_11 x0_12 x0_13 x0_14 x0_15 x0_16 x0_17 x0_18 x0_19 x0_20 (motive := fun x0_1 y => laws_FnPlan.l0_M cs0 o0 l0 hv0 cs1 o1 l1 hv1 x0_0 x0_2 x0_3 x0_4 x0_5 x0_6 x0_7 x0_8 x0_9 x0_10 x0_11 x0_12 x0_13 x0_14 x0_15 x0_16 x0_17 x0_18 x0_19 x0_20 x0_1 y) ?_ x0_1 y h
 clear h
 unfold laws_FnPlan.l0_M
 intro rec ih x0_1 y h K hx0 hx1
 refine loop_unroll (ga_k fun G0 G0n G0r G0x => ?_)
 unfold C9_l0
 refine seq_k fun J152 hJ152 => ?_
 refine sr_k fun J153 hJ153 => ?_
 simp +decide only [reduceAdd, reduceMul, reduceToNat, ak]
 refine hJ153 _ ?_
 refine cond_k (b := decide (x0_1 < (x0_18.length : Int))) rfl (fun c154 => ?_) (fun c154 => ?_)
 ·replace c154 := of_decide_eq_true c154; rw [if_pos c154] at h
  refine hJ152 _ ?_
  refine seq_k fun J155 hJ155 => ?_
  refine block_k fun B156 B156n B156x B156r B156j => ?_
  refine sr_k fun J157 hJ157 => ?_
  obtain ⟨b158, h⟩ := of_guard h
  have g159 : (encL c_i64 x0_18)[0 + x0_1.toNat * 1]? = some (.sc (.int .i64 (rd 0 x0_18 x0_1))) := (Vw.whole c_i64_w x0_18).get 0 0 b158.1 b158.2 (by decide)
  simp +decide only [reduceAdd, reduceMul, reduceToNat, ak, b158, g159]
  refine hJ157 _ ?_
  obtain ⟨j160, h161, hn⟩ := of_bind h
  refine seq_j (fun st => st = ⟨[(1, .c (.ref (.arg 1) [] o1 l1.length)), (5, .c (.ptr (.tmp 5 0) [] 0)), (8, .c (.ptr (.tmp 8 0) [] 0)), (11, .c (.sc (.int .i64 x0_0))), (16, .c (.sc (.int .i64 x0_1))), (265, .c (.sc (.bool j160)))], [(.arg 0, ⟨.fz, 1, cs0⟩), (.arg 1, ⟨.fz, 1, cs1⟩), (.tmp 5 0, ⟨.box, 0, [.sc (.int .i64 x0_2), .sc (.int .i64 x0_3), .own 1 x0_4.length (encL c_i64 x0_4), .own 3 x0_5.length (encL c86 x0_5), .own 5 x0_6.length (encL c84 x0_6), .sc (.int .i64 x0_7), .sc (.int .u64 x0_8), .sc (.int .u64 x0_9), .sc (.int .u64 x0_10), .sc (.int .i64 x0_11), .sc (.int .i64 x0_12), .sc (.int .i64 x0_13)]⟩), (.tmp 8 0, ⟨.box, 0, [.sc (.int .i64 x0_14), .sc (.int .i64 x0_15), .sc (.int .u64 x0_16), .sc (.int .i64 x0_17), .own 1 x0_18.length (encL c_i64 x0_18), .sc (.int .i64 x0_19), .sc (.int .i64 x0_20)]⟩)], [], []⟩) (fun J162 hJ162 => ?_) ?_
  ·replace h := h161; clear hn
   refine ga_k fun G163 G163n G163r G163x => ?_
   refine reg_k ?_
   simp +decide only [reduceAdd, reduceMul, reduceToNat, ak]
   by_cases c164 : (rd 0 x0_18 x0_1) < 0
   ·rw [if_pos c164] at h
    have e165 : decide ((rd 0 x0_18 x0_1) < 0) = true := decide_eq_true c164
    simp +decide only [reduceAdd, reduceMul, reduceToNat, ak, e165]
    obtain rfl := Option.some.inj h
    refine G163n _ _ (wj [1, 5, 8, 11, 16, 265] [pI (.arg 0) .fz, pI (.arg 1) .fz, pI (.tmp 5 0) .box, pI (.tmp 8 0) .box]) (hJ162 _ rfl)
   ·rw [if_neg c164] at h
    have e166 : decide ((rd 0 x0_18 x0_1) < 0) = false := decide_eq_false c164
    simp +decide only [reduceAdd, reduceMul, reduceToNat, ak, e166]
    by_cases c167 : (rd 0 x0_18 x0_1) ≥ (x0_5.length : Int)
    ·rw [if_pos c167] at h
     have e168 : decide ((rd 0 x0_18 x0_1) ≥ (x0_5.length : Int)) = true := decide_eq_true c167
     simp +decide only [reduceAdd, reduceMul, reduceToNat, ak, e168]
     obtain rfl := Option.some.inj h
     refine G163n _ _ (wj [1, 5, 8, 11, 16, 265] [pI (.arg 0) .fz, pI (.arg 1) .fz, pI (.tmp 5 0) .box, pI (.tmp 8 0) .box]) (hJ162 _ rfl)
    ·rw [if_neg c167] at h
     have e169 : decide ((rd 0 x0_18 x0_1) ≥ (x0_5.length : Int)) = false := decide_eq_false c167
     obtain ⟨b170, h⟩ := of_guard h
     have g171 : 0 + (rd 0 x0_18 x0_1).toNat * 3 + 0 ≤ (encL c86 x0_5).length := ((Vw.whole c86_w x0_5).len_le b170.1 b170.2 (by decide))
     have g172 : (encL c86 x0_5)[0 + (rd 0 x0_18 x0_1).toNat * 3 + 0]? = some (.sc (.int .i64 ((rd z86 x0_5 (rd 0 x0_18 x0_1)).f0))) := (Vw.whole c86_w x0_5).get z86 0 b170.1 b170.2 (by decide)
     simp +decide only [reduceAdd, reduceMul, reduceToNat, ak, e169, b170, g171, g172]
     by_cases c173 : (rd z86 x0_5 (rd 0 x0_18 x0_1)).f0 ≠ 1
     ·rw [if_pos c173] at h
      have e174 : decide ((rd z86 x0_5 (rd 0 x0_18 x0_1)).f0 ≠ 1) = true := decide_eq_true c173
      simp +decide only [reduceAdd, reduceMul, reduceToNat, ak, e174]
      obtain rfl := Option.some.inj h
      refine G163n _ _ (wj [1, 5, 8, 11, 16, 265] [pI (.arg 0) .fz, pI (.arg 1) .fz, pI (.tmp 5 0) .box, pI (.tmp 8 0) .box]) (hJ162 _ rfl)
     ·rw [if_neg c173] at h
      have e175 : decide ((rd z86 x0_5 (rd 0 x0_18 x0_1)).f0 ≠ 1) = false := decide_eq_false c173
      have g176 : 0 + (rd 0 x0_18 x0_1).toNat * 3 + 2 ≤ (encL c86 x0_5).length := ((Vw.whole c86_w x0_5).len_le b170.1 b170.2 (by decide))
      have g177 : (encL c86 x0_5)[0 + (rd 0 x0_18 x0_1).toNat * 3 + 2]? = some (.sc (.int .i64 ((rd z86 x0_5 (rd 0 x0_18 x0_1)).f2))) := (Vw.whole c86_w x0_5).get z86 2 b170.1 b170.2 (by decide)
      simp +decide only [reduceAdd, reduceMul, reduceToNat, ak, e175, b170, g176, g177]
      by_cases c178 : (rd z86 x0_5 (rd 0 x0_18 x0_1)).f2 < 1
      ·rw [if_pos c178] at h
       have e179 : decide ((rd z86 x0_5 (rd 0 x0_18 x0_1)).f2 < 1) = true := decide_eq_true c178
       simp +decide only [reduceAdd, reduceMul, reduceToNat, ak, e179]
       obtain rfl := Option.some.inj h
       refine G163n _ _ (wj [1, 5, 8, 11, 16, 265] [pI (.arg 0) .fz, pI (.arg 1) .fz, pI (.tmp 5 0) .box, pI (.tmp 8 0) .box]) (hJ162 _ rfl)
      ·rw [if_neg c178] at h
       have e180 : decide ((rd z86 x0_5 (rd 0 x0_18 x0_1)).f2 < 1) = false := decide_eq_false c178
       obtain ⟨b181, h⟩ := of_guard h
       have g182 : ∀ a, abin .shl (.int .i64 a) (.int .u64 (IntKind.u64.wrap (rd 0 x0_18 x0_1))) = some (.int .i64 (IntKind.i64.wrap (a * 2 ^ (min (IntKind.u64.wrap (rd 0 x0_18 x0_1)).toNat 64)))) := fun a => akShl _ _ a _ b181
       simp +decide only [reduceAdd, reduceMul, reduceToNat, ak, e180, g182]
       by_cases c183 : bits .and .i64 x0_0 (IntKind.i64.wrap (1 * 2 ^ (min (IntKind.u64.wrap (rd 0 x0_18 x0_1)).toNat 64))) ≠ 0
       ·rw [if_pos c183] at h
        have e184 : decide (bits .and .i64 x0_0 (IntKind.i64.wrap (1 * 2 ^ (min (IntKind.u64.wrap (rd 0 x0_18 x0_1)).toNat 64))) ≠ 0) = true := decide_eq_true c183
        simp +decide only [reduceAdd, reduceMul, reduceToNat, ak, e184]
        obtain rfl := Option.some.inj h
        refine G163n _ _ (wj [1, 5, 8, 11, 16, 265] [pI (.arg 0) .fz, pI (.arg 1) .fz, pI (.tmp 5 0) .box, pI (.tmp 8 0) .box]) (hJ162 _ rfl)
       ·rw [if_neg c183] at h
        have e185 : decide (bits .and .i64 x0_0 (IntKind.i64.wrap (1 * 2 ^ (min (IntKind.u64.wrap (rd 0 x0_18 x0_1)).toNat 64))) ≠ 0) = false := decide_eq_false c183
        simp +decide only [reduceAdd, reduceMul, reduceToNat, ak, e185]
        by_cases c186 : x0_1 > 0
        ·rw [if_pos c186] at h
         have e187 : decide (x0_1 > 0) = true := decide_eq_true c186
         obtain ⟨b188, h⟩ := of_guard h
         have g189 : (encL c_i64 x0_18)[0 + (IntKind.i64.wrap (x0_1 - 1)).toNat * 1]? = some (.sc (.int .i64 (rd 0 x0_18 (IntKind.i64.wrap (x0_1 - 1))))) := (Vw.whole c_i64_w x0_18).get 0 0 b188.1 b188.2 (by decide)
         simp +decide only [reduceAdd, reduceMul, reduceToNat, ak, e187, b188, g189]
         obtain rfl := Option.some.inj h
         refine G163n _ _ (wj [1, 5, 8, 11, 16, 265] [pI (.arg 0) .fz, pI (.arg 1) .fz, pI (.tmp 5 0) .box, pI (.tmp 8 0) .box]) (hJ162 _ rfl)
        ·rw [if_neg c186] at h
         have e190 : decide (x0_1 > 0) = false := decide_eq_false c186
         simp +decide only [reduceAdd, reduceMul, reduceToNat, ak, e190]
         obtain rfl := Option.some.inj h
         refine G163n _ _ (wj [1, 5, 8, 11, 16, 265] [pI (.arg 0) .fz, pI (.arg 1) .fz, pI (.tmp 5 0) .box, pI (.tmp 8 0) .box]) (hJ162 _ rfl)
  ·replace h := hn; clear hn h161
   rintro _ rfl
   refine cond_k (b := j160) rfl (fun c191 => ?_) (fun c191 => ?_)
   ·rw [if_pos c191] at h
    refine sr_k fun J192 hJ192 => ?_
    simp +decide only [reduceAdd, reduceMul, reduceToNat, ak]
    refine hJ192 _ ?_
    obtain rfl := Option.some.inj h
    refine gh_k (wk [4] [pI (.arg 0) .fz, pI (.arg 1) .fz]) ?_
    refine B156r _ ?_
    refine G0r _ ?_
    exact hx1 _ rfl
   ·rw [if_neg (Bool.eq_false_iff.1 c191)] at h
    refine B156n _ ?_
    refine hJ155 _ ?_
    refine reg_k ?_
    simp +decide only [reduceAdd, reduceMul, reduceToNat, ak]
    refine G0n _ _ (wk [1, 5, 8, 11, 16] [pI (.arg 0) .fz, pI (.arg 1) .fz, pI (.tmp 5 0) .box, pI (.tmp 8 0) .box]) (ih _ _ h K hx0 hx1)
 ·replace c154 := of_decide_eq_false c154; rw [if_neg c154] at h
  obtain rfl := Option.some.inj h
  refine gh_k (wk [1, 5] [pI (.arg 0) .fz, pI (.arg 1) .fz, pI (.tmp 5 0) .box]) ?_
  refine G0x _ _ ?_
  exact hx0 _ rfl
def laws_FnPlan.l1_M (cs0 : List Cell) (o0 : Nat) (l0 : List Int) (hv0 : Vw c_u8 1 cs0 o0 l0) (cs1 : List Cell) (o1 : Nat) (l1 : List Int) (hv1 : Vw c_u8 1 cs1 o1 l1) (x1_0 : Int) (x1_1 : Int) (x1_4 : Int) (x1_5 : Int) (x1_6 : (List Int)) (x1_7 : (List S86)) (x1_8 : (List S84)) (x1_9 : Int) (x1_10 : Int) (x1_11 : Int) (x1_12 : Int) (x1_13 : Int) (x1_14 : Int) (x1_15 : Int) (x1_16 : (List S84)) (x1_17 : (List S84)) (x1_2 : Int) (x1_3 : Int) (y : Lp Int Bool) : Prop := ∀ (K : AE → St → Prop), (∀ x, y = .a x → K (.exit 2) ⟨[(20, .c (.ref (.tmp 279 0) [] 0 x1_16.length)), (24, .c (.sc (.int .i64 x)))], [(.arg 0, ⟨.fz, 1, cs0⟩), (.arg 1, ⟨.fz, 1, cs1⟩), (.tmp 279 0, ⟨.lst, 5, encL c84 x1_16⟩)], [], []⟩) → (∀ x, y = .b x → K .ret ⟨[(4, .c (.sc (.bool x)))], [(.arg 0, ⟨.fz, 1, cs0⟩), (.arg 1, ⟨.fz, 1, cs1⟩)], [], []⟩) → loopS Try.prog 357 (.ga C9_l1) K ⟨[(5, .c (.ptr (.tmp 5 0) [] 0)), (18, .c (.sc (.int .i64 x1_0))), (19, .c (.sc (.int .u64 x1_1))), (20, .c (.ref (.tmp 279 0) [] 0 x1_16.length)), (22, .c (.ref (.tmp 286 0) [] 0 x1_17.length)), (24, .c (.sc (.int .i64 x1_2))), (25, .c (.sc (.int .i64 x1_3)))], [(.arg 0, ⟨.fz, 1, cs0⟩), (.arg 1, ⟨.fz, 1, cs1⟩), (.tmp 5 0, ⟨.box, 0, [.sc (.int .i64 x1_4), .sc (.int .i64 x1_5), .own 1 x1_6.length (encL c_i64 x1_6), .own 3 x1_7.length (encL c86 x1_7), .own 5 x1_8.length (encL c84 x1_8), .sc (.int .i64 x1_9), .sc (.int .u64 x1_10), .sc (.int .u64 x1_11), .sc (.int .u64 x1_12), .sc (.int .i64 x1_13), .sc (.int .i64 x1_14), .sc (.int .i64 x1_15)]⟩), (.tmp 279 0, ⟨.lst, 5, encL c84 x1_16⟩), (.tmp 286 0, ⟨.lst, 5, encL c84 x1_17⟩)], [], []⟩
theorem laws_FnPlan.l1_walk (cs0 : List Cell) (o0 : Nat) (l0 : List Int) (hv0 : Vw c_u8 1 cs0 o0 l0) (cs1 : List Cell) (o1 : Nat) (l1 : List Int) (hv1 : Vw c_u8 1 cs1 o1 l1) (x1_0 : Int) (x1_1 : Int) (x1_4 : Int) (x1_5 : Int) (x1_6 : (List Int)) (x1_7 : (List S86)) (x1_8 : (List S84)) (x1_9 : Int) (x1_10 : Int) (x1_11 : Int) (x1_12 : Int) (x1_13 : Int) (x1_14 : Int) (x1_15 : Int) (x1_16 : (List S84)) (x1_17 : (List S84)) (x1_2 : Int) (x1_3 : Int) (y : Lp Int Bool) (h : laws_FnPlan.l1 l1 x1_0 x1_1 x1_4 x1_5 x1_6 x1_7 x1_8 x1_9 x1_10 x1_11 x1_12 x1_13 x1_14 x1_15 x1_16 x1_17 x1_2 x1_3 = some y) : laws_FnPlan.l1_M cs0 o0 l0 hv0 cs1 o1 l1 hv1 x1_0 x1_1 x1_4 x1_5 x1_6 x1_7 x1_8 x1_9 x1_10 x1_11 x1_12 x1_13 x1_14 x1_15 x1_16 x1_17 x1_2 x1_3 y := by
 refine laws_FnPlan.l1.partial_correctness l1 x1_0 x1_1 x1_4 x1_5 x1_6 x1_7 x1_8 x1_9 x1_10 x1_11 x1_12 x1_13 x1_14 x1_15 x1_16 x1_17 (motive := fun x1_2 x1_3 y => laws_FnPlan.l1_M cs0 o0 l0 hv0 cs1 o1 l1 hv1 x1_0 x1_1 x1_4 x1_5 x1_6 x1_7 x1_8 x1_9 x1_10 x1_11 x1_12 x1_13 x1_14 x1_15 x1_16 x1_17 x1_2 x1_3 y) ?_ x1_2 x1_3 y h
 clear h
 unfold laws_FnPlan.l1_M
 intro rec ih x1_2 x1_3 y h K hx0 hx1
 refine loop_unroll (ga_k fun G1 G1n G1r G1x => ?_)
 unfold C9_l1
 refine seq_k fun J223 hJ223 => ?_
 refine sr_k fun J224 hJ224 => ?_
 simp +decide only [reduceAdd, reduceMul, reduceToNat, ak]
 refine hJ224 _ ?_
 refine cond_k (b := decide (x1_3 < (x1_8.length : Int))) rfl (fun c225 => ?_) (fun c225 => ?_)
 ·replace c225 := of_decide_eq_true c225; rw [if_pos c225] at h
  refine hJ223 _ ?_
  refine seq_k fun J226 hJ226 => ?_
  refine block_k fun B227 B227n B227x B227r B227j => ?_
  refine sr_k fun J228 hJ228 => ?_
  obtain ⟨b229, h⟩ := of_guard h
  have g230 : (List.drop (0 + x1_3.toNat * 5) (encL c84 x1_8)).take 5 = [.sc (.int .u64 ((rd z84 x1_8 x1_3).f0)), .sc (.int .i64 ((rd z84 x1_8 x1_3).f1)), .sc (.int .i64 ((rd z84 x1_8 x1_3).f2)), .sc (.int .i64 ((rd z84 x1_8 x1_3).f3)), .sc (.int .i64 ((rd z84 x1_8 x1_3).f4))] := (Vw.whole c84_w x1_8).stretch z84 b229.1 b229.2
  simp +decide only [reduceAdd, reduceMul, reduceToNat, ak, b229, g230]
  refine hJ228 _ ?_
  refine seq_k fun J231 hJ231 => ?_
  refine sr_k fun J232 hJ232 => ?_
  simp +decide only [reduceAdd, reduceMul, reduceToNat, ak]
  refine hJ232 _ ?_
  refine cond_k (b := decide (IntKind.u64.wrap ((IntKind.u64.wrap (((rd z84 x1_8 x1_3).f0) + (IntKind.u64.wrap ((rd z84 x1_8 x1_3).f1)))) + (IntKind.u64.wrap ((rd z84 x1_8 x1_3).f2))) > x1_1)) rfl (fun c233 => ?_) (fun c233 => ?_)
  ·replace c233 := of_decide_eq_true c233; rw [if_pos c233] at h
   refine seq_k fun J234 hJ234 => ?_
   obtain ⟨j235, h236, hn⟩ := of_bind h
   refine seq_j (fun st => st = ⟨[(5, .c (.ptr (.tmp 5 0) [] 0)), (18, .c (.sc (.int .i64 x1_0))), (19, .c (.sc (.int .u64 x1_1))), (20, .c (.ref (.tmp 279 0) [] 0 x1_16.length)), (22, .c (.ref (.tmp 286 0) [] 0 x1_17.length)), (24, .c (.sc (.int .i64 x1_2))), (25, .c (.sc (.int .i64 x1_3))), (26, .c (.ptr (.tmp 26 0) [] 0)), (338, .c (.sc (.bool j235)))], [(.arg 0, ⟨.fz, 1, cs0⟩), (.arg 1, ⟨.fz, 1, cs1⟩), (.tmp 5 0, ⟨.box, 0, [.sc (.int .i64 x1_4), .sc (.int .i64 x1_5), .own 1 x1_6.length (encL c_i64 x1_6), .own 3 x1_7.length (encL c86 x1_7), .own 5 x1_8.length (encL c84 x1_8), .sc (.int .i64 x1_9), .sc (.int .u64 x1_10), .sc (.int .u64 x1_11), .sc (.int .u64 x1_12), .sc (.int .i64 x1_13), .sc (.int .i64 x1_14), .sc (.int .i64 x1_15)]⟩), (.tmp 279 0, ⟨.lst, 5, encL c84 x1_16⟩), (.tmp 286 0, ⟨.lst, 5, encL c84 x1_17⟩), (.tmp 26 0, ⟨.box, 0, [.sc (.int .u64 ((rd z84 x1_8 x1_3).f0)), .sc (.int .i64 ((rd z84 x1_8 x1_3).f1)), .sc (.int .i64 ((rd z84 x1_8 x1_3).f2)), .sc (.int .i64 ((rd z84 x1_8 x1_3).f3)), .sc (.int .i64 ((rd z84 x1_8 x1_3).f4))]⟩)], [], []⟩) (fun J237 hJ237 => ?_) ?_
   ·replace h := h236; clear hn
    refine ga_k fun G238 G238n G238r G238x => ?_
    refine regD_k ?_
    simp +decide only [reduceAdd, reduceMul, reduceToNat, ak]
    by_cases c239 : x1_2 ≥ (x1_16.length : Int)
    ·rw [if_pos c239] at h
     have e240 : decide (x1_2 ≥ (x1_16.length : Int)) = true := decide_eq_true c239
     simp +decide only [reduceAdd, reduceMul, reduceToNat, ak, e240]
     obtain rfl := Option.some.inj h
     refine G238n _ _ (wj [5, 18, 19, 20, 22, 24, 25, 26, 338] [pI (.arg 0) .fz, pI (.arg 1) .fz, pI (.tmp 5 0) .box, pI (.tmp 279 0) .lst, pI (.tmp 286 0) .lst, pI (.tmp 26 0) .box]) (hJ237 _ rfl)
    ·rw [if_neg c239] at h
     have e241 : decide (x1_2 ≥ (x1_16.length : Int)) = false := decide_eq_false c239
     obtain ⟨b242, h⟩ := of_guard h
     have g243 : (List.drop (0 + x1_2.toNat * 5) (encL c84 x1_16)).take 5 = [.sc (.int .u64 ((rd z84 x1_16 x1_2).f0)), .sc (.int .i64 ((rd z84 x1_16 x1_2).f1)), .sc (.int .i64 ((rd z84 x1_16 x1_2).f2)), .sc (.int .i64 ((rd z84 x1_16 x1_2).f3)), .sc (.int .i64 ((rd z84 x1_16 x1_2).f4))] := (Vw.whole c84_w x1_16).stretch z84 b242.1 b242.2
     simp +decide only [reduceAdd, reduceMul, reduceToNat, ak, e241, b242, g243]
     obtain rfl := Option.some.inj h
     refine G238n _ _ (wj [5, 18, 19, 20, 22, 24, 25, 26, 338] [pI (.arg 0) .fz, pI (.arg 1) .fz, pI (.tmp 5 0) .box, pI (.tmp 279 0) .lst, pI (.tmp 286 0) .lst, pI (.tmp 26 0) .box]) (hJ237 _ rfl)
   ·replace h := hn; clear hn h236
    rintro _ rfl
    refine cond_k (b := j235) rfl (fun c244 => ?_) (fun c244 => ?_)
    ·rw [if_pos c244] at h
     refine sr_k fun J245 hJ245 => ?_
     simp +decide only [reduceAdd, reduceMul, reduceToNat, ak]
     refine hJ245 _ ?_
     obtain rfl := Option.some.inj h
     refine gh_k (wk [4] [pI (.arg 0) .fz, pI (.arg 1) .fz]) ?_
     refine B227r _ ?_
     refine G1r _ ?_
     exact hx1 _ rfl
    ·rw [if_neg (Bool.eq_false_iff.1 c244)] at h
     refine hJ234 _ ?_
     refine reg_k ?_
     simp +decide only [reduceAdd, reduceMul, reduceToNat, ak]
     refine hJ231 _ ?_
     obtain ⟨j246, h247, hn⟩ := of_bind h
     refine seq_j (fun st => st = ⟨[(5, .c (.ptr (.tmp 5 0) [] 0)), (18, .c (.sc (.int .i64 x1_0))), (19, .c (.sc (.int .u64 x1_1))), (20, .c (.ref (.tmp 279 0) [] 0 x1_16.length)), (22, .c (.ref (.tmp 286 0) [] 0 x1_17.length)), (24, .c (.sc (.int .i64 (IntKind.i64.wrap (x1_2 + 1))))), (25, .c (.sc (.int .i64 x1_3))), (26, .c (.ptr (.tmp 26 0) [] 0))], [(.arg 0, ⟨.fz, 1, cs0⟩), (.arg 1, ⟨.fz, 1, cs1⟩), (.tmp 5 0, ⟨.box, 0, [.sc (.int .i64 x1_4), .sc (.int .i64 x1_5), .own 1 x1_6.length (encL c_i64 x1_6), .own 3 x1_7.length (encL c86 x1_7), .own 5 x1_8.length (encL c84 x1_8), .sc (.int .i64 x1_9), .sc (.int .u64 x1_10), .sc (.int .u64 x1_11), .sc (.int .u64 x1_12), .sc (.int .i64 x1_13), .sc (.int .i64 x1_14), .sc (.int .i64 x1_15)]⟩), (.tmp 279 0, ⟨.lst, 5, encL c84 x1_16⟩), (.tmp 286 0, ⟨.lst, 5, encL c84 x1_17⟩), (.tmp 26 0, ⟨.box, 0, [.sc (.int .u64 ((rd z84 x1_8 x1_3).f0)), .sc (.int .i64 ((rd z84 x1_8 x1_3).f1)), .sc (.int .i64 ((rd z84 x1_8 x1_3).f2)), .sc (.int .i64 ((rd z84 x1_8 x1_3).f3)), .sc (.int .i64 j246)]⟩)], [], []⟩) (fun J248 hJ248 => ?_) ?_
     ·replace h := h247; clear hn
      refine ga_k fun G249 G249n G249r G249x => ?_
      refine sr_k fun J250 hJ250 => ?_
      simp +decide only [reduceAdd, reduceMul, reduceToNat, ak]
      refine hJ250 _ ?_
      refine cond_k (b := decide (bits .and .i64 ((rd z84 x1_8 x1_3).f3) x1_0 = 0)) rfl (fun c251 => ?_) (fun c251 => ?_)
      ·replace c251 := of_decide_eq_true c251; rw [if_pos c251] at h
       refine reg_k ?_
       simp +decide only [reduceAdd, reduceMul, reduceToNat, ak]
       obtain rfl := Option.some.inj h
       refine G249n _ _ (wk [5, 18, 19, 20, 22, 24, 25, 26] [pI (.arg 0) .fz, pI (.arg 1) .fz, pI (.tmp 5 0) .box, pI (.tmp 279 0) .lst, pI (.tmp 286 0) .lst, pI (.tmp 26 0) .box]) (hJ248 _ rfl)
      ·replace c251 := of_decide_eq_false c251; rw [if_neg c251] at h
       obtain rfl := Option.some.inj h
       refine G249n _ _ (wk [5, 18, 19, 20, 22, 24, 25, 26] [pI (.arg 0) .fz, pI (.arg 1) .fz, pI (.tmp 5 0) .box, pI (.tmp 279 0) .lst, pI (.tmp 286 0) .lst, pI (.tmp 26 0) .box]) (hJ248 _ rfl)
     ·replace h := hn; clear hn h247
      rintro _ rfl
      refine sd_k fun J252 hJ252 => ?_
      obtain ⟨b253, h⟩ := of_guard h
      have g254 : (List.drop (0 + x1_3.toNat * 5) (encL c84 x1_17)).take 5 = [.sc (.int .u64 ((rd z84 x1_17 x1_3).f0)), .sc (.int .i64 ((rd z84 x1_17 x1_3).f1)), .sc (.int .i64 ((rd z84 x1_17 x1_3).f2)), .sc (.int .i64 ((rd z84 x1_17 x1_3).f3)), .sc (.int .i64 ((rd z84 x1_17 x1_3).f4))] := (Vw.whole c84_w x1_17).stretch z84 b253.1 b253.2
      simp +decide only [reduceAdd, reduceMul, reduceToNat, ak, b253, g254]
      refine hJ252 _ ?_
      refine cond_k (b := !(decide ((rd z84 x1_17 x1_3).f0 = (rd z84 x1_8 x1_3).f0) && (decide ((rd z84 x1_17 x1_3).f1 = (rd z84 x1_8 x1_3).f1) && (decide ((rd z84 x1_17 x1_3).f2 = (rd z84 x1_8 x1_3).f2) && (decide ((rd z84 x1_17 x1_3).f3 = (rd z84 x1_8 x1_3).f3) && decide ((rd z84 x1_17 x1_3).f4 = j246)))))) rfl (fun c255 => ?_) (fun c255 => ?_)
      ·rw [if_pos c255] at h
       refine sr_k fun J256 hJ256 => ?_
       simp +decide only [reduceAdd, reduceMul, reduceToNat, ak]
       refine hJ256 _ ?_
       obtain rfl := Option.some.inj h
       refine gh_k (wk [4] [pI (.arg 0) .fz, pI (.arg 1) .fz]) ?_
       refine B227r _ ?_
       refine G1r _ ?_
       exact hx1 _ rfl
      ·rw [if_neg (Bool.eq_false_iff.1 c255)] at h
       refine B227n _ ?_
       refine hJ226 _ ?_
       refine reg_k ?_
       simp +decide only [reduceAdd, reduceMul, reduceToNat, ak]
       refine G1n _ _ (wk [5, 18, 19, 20, 22, 24, 25] [pI (.arg 0) .fz, pI (.arg 1) .fz, pI (.tmp 5 0) .box, pI (.tmp 279 0) .lst, pI (.tmp 286 0) .lst]) (ih _ _ _ h K hx0 hx1)
  ·replace c233 := of_decide_eq_false c233; rw [if_neg c233] at h
   refine hJ231 _ ?_
   obtain ⟨j257, h258, hn⟩ := of_bind h
   refine seq_j (fun st => st = ⟨[(5, .c (.ptr (.tmp 5 0) [] 0)), (18, .c (.sc (.int .i64 x1_0))), (19, .c (.sc (.int .u64 x1_1))), (20, .c (.ref (.tmp 279 0) [] 0 x1_16.length)), (22, .c (.ref (.tmp 286 0) [] 0 x1_17.length)), (24, .c (.sc (.int .i64 x1_2))), (25, .c (.sc (.int .i64 x1_3))), (26, .c (.ptr (.tmp 26 0) [] 0))], [(.arg 0, ⟨.fz, 1, cs0⟩), (.arg 1, ⟨.fz, 1, cs1⟩), (.tmp 5 0, ⟨.box, 0, [.sc (.int .i64 x1_4), .sc (.int .i64 x1_5), .own 1 x1_6.length (encL c_i64 x1_6), .own 3 x1_7.length (encL c86 x1_7), .own 5 x1_8.length (encL c84 x1_8), .sc (.int .i64 x1_9), .sc (.int .u64 x1_10), .sc (.int .u64 x1_11), .sc (.int .u64 x1_12), .sc (.int .i64 x1_13), .sc (.int .i64 x1_14), .sc (.int .i64 x1_15)]⟩), (.tmp 279 0, ⟨.lst, 5, encL c84 x1_16⟩), (.tmp 286 0, ⟨.lst, 5, encL c84 x1_17⟩), (.tmp 26 0, ⟨.box, 0, [.sc (.int .u64 ((rd z84 x1_8 x1_3).f0)), .sc (.int .i64 ((rd z84 x1_8 x1_3).f1)), .sc (.int .i64 ((rd z84 x1_8 x1_3).f2)), .sc (.int .i64 ((rd z84 x1_8 x1_3).f3)), .sc (.int .i64 j257)]⟩)], [], []⟩) (fun J259 hJ259 => ?_) ?_
   ·replace h := h258; clear hn
    refine ga_k fun G260 G260n G260r G260x => ?_
    refine sr_k fun J261 hJ261 => ?_
    simp +decide only [reduceAdd, reduceMul, reduceToNat, ak]
    refine hJ261 _ ?_
    refine cond_k (b := decide (bits .and .i64 ((rd z84 x1_8 x1_3).f3) x1_0 = 0)) rfl (fun c262 => ?_) (fun c262 => ?_)
    ·replace c262 := of_decide_eq_true c262; rw [if_pos c262] at h
     refine reg_k ?_
     simp +decide only [reduceAdd, reduceMul, reduceToNat, ak]
     obtain rfl := Option.some.inj h
     refine G260n _ _ (wk [5, 18, 19, 20, 22, 24, 25, 26] [pI (.arg 0) .fz, pI (.arg 1) .fz, pI (.tmp 5 0) .box, pI (.tmp 279 0) .lst, pI (.tmp 286 0) .lst, pI (.tmp 26 0) .box]) (hJ259 _ rfl)
    ·replace c262 := of_decide_eq_false c262; rw [if_neg c262] at h
     obtain rfl := Option.some.inj h
     refine G260n _ _ (wk [5, 18, 19, 20, 22, 24, 25, 26] [pI (.arg 0) .fz, pI (.arg 1) .fz, pI (.tmp 5 0) .box, pI (.tmp 279 0) .lst, pI (.tmp 286 0) .lst, pI (.tmp 26 0) .box]) (hJ259 _ rfl)
   ·replace h := hn; clear hn h258
    rintro _ rfl
    refine sd_k fun J263 hJ263 => ?_
    obtain ⟨b264, h⟩ := of_guard h
    have g265 : (List.drop (0 + x1_3.toNat * 5) (encL c84 x1_17)).take 5 = [.sc (.int .u64 ((rd z84 x1_17 x1_3).f0)), .sc (.int .i64 ((rd z84 x1_17 x1_3).f1)), .sc (.int .i64 ((rd z84 x1_17 x1_3).f2)), .sc (.int .i64 ((rd z84 x1_17 x1_3).f3)), .sc (.int .i64 ((rd z84 x1_17 x1_3).f4))] := (Vw.whole c84_w x1_17).stretch z84 b264.1 b264.2
    simp +decide only [reduceAdd, reduceMul, reduceToNat, ak, b264, g265]
    refine hJ263 _ ?_
    refine cond_k (b := !(decide ((rd z84 x1_17 x1_3).f0 = (rd z84 x1_8 x1_3).f0) && (decide ((rd z84 x1_17 x1_3).f1 = (rd z84 x1_8 x1_3).f1) && (decide ((rd z84 x1_17 x1_3).f2 = (rd z84 x1_8 x1_3).f2) && (decide ((rd z84 x1_17 x1_3).f3 = (rd z84 x1_8 x1_3).f3) && decide ((rd z84 x1_17 x1_3).f4 = j257)))))) rfl (fun c266 => ?_) (fun c266 => ?_)
    ·rw [if_pos c266] at h
     refine sr_k fun J267 hJ267 => ?_
     simp +decide only [reduceAdd, reduceMul, reduceToNat, ak]
     refine hJ267 _ ?_
     obtain rfl := Option.some.inj h
     refine gh_k (wk [4] [pI (.arg 0) .fz, pI (.arg 1) .fz]) ?_
     refine B227r _ ?_
     refine G1r _ ?_
     exact hx1 _ rfl
    ·rw [if_neg (Bool.eq_false_iff.1 c266)] at h
     refine B227n _ ?_
     refine hJ226 _ ?_
     refine reg_k ?_
     simp +decide only [reduceAdd, reduceMul, reduceToNat, ak]
     refine G1n _ _ (wk [5, 18, 19, 20, 22, 24, 25] [pI (.arg 0) .fz, pI (.arg 1) .fz, pI (.tmp 5 0) .box, pI (.tmp 279 0) .lst, pI (.tmp 286 0) .lst]) (ih _ _ _ h K hx0 hx1)
 ·replace c225 := of_decide_eq_false c225; rw [if_neg c225] at h
  obtain rfl := Option.some.inj h
  refine gh_k (wk [20, 24] [pI (.arg 0) .fz, pI (.arg 1) .fz, pI (.tmp 279 0) .lst]) ?_
  refine G1x _ _ ?_
  exact hx0 _ rfl
theorem laws_FnPlan.tri (cs0 : List Cell) (o0 : Nat) (l0 : List Int) (hv0 : Vw c_u8 1 cs0 o0 l0) (cs1 : List Cell) (o1 : Nat) (l1 : List Int) (hv1 : Vw c_u8 1 cs1 o1 l1) (r : Bool) (h : laws_FnPlan.f l0 l1 = some r) : Tri Try.prog 9 [.c (.ref (.arg 0) [] o0 l0.length), .c (.ref (.arg 1) [] o1 l1.length)] [(.arg 0, ⟨.fz, 1, cs0⟩), (.arg 1, ⟨.fz, 1, cs1⟩)] (fun o => o = ⟨.c (.sc (.bool r)), [(.arg 0, ⟨.fz, 1, cs0⟩), (.arg 1, ⟨.fz, 1, cs1⟩)], [], []⟩) := by
 refine tri_of_body (ac := C9) (xs := r9) Try.func9 (show Try.f9.body = some (Try.f9.body.getD .skip) from rfl) k9 q9 (Nat.le_of_ble_eq_true rfl) ?_
 refine body_of fun K hKn hKr => ?_
 unfold laws_FnPlan.f at h
 unfold C9
 simp only [initT, Nat.reduceAdd]
 refine sr_k fun J1 hJ1 => ?_
 simp +decide only [reduceAdd, reduceMul, reduceToNat, ak]
 refine hJ1 _ ?_
 refine seq_k fun J2 hJ2 => ?_
 obtain ⟨j3, h4, hn⟩ := of_bind h
 refine seq_j (fun st => st = ⟨[(0, .c (.ref (.arg 0) [] o0 l0.length)), (1, .c (.ref (.arg 1) [] o1 l1.length)), (34, .c (.sc (.bool j3)))], [(.arg 0, ⟨.fz, 1, cs0⟩), (.arg 1, ⟨.fz, 1, cs1⟩)], [], []⟩) (fun J5 hJ5 => ?_) ?_
 ·replace h := h4; clear hn
  refine ga_k fun G6 G6n G6r G6x => ?_
  refine reg_k ?_
  simp +decide only [reduceAdd, reduceMul, reduceToNat, ak]
  by_cases c7 : (l0.length : Int) > 1048576
  ·rw [if_pos c7] at h
   have e8 : decide ((l0.length : Int) > 1048576) = true := decide_eq_true c7
   simp +decide only [reduceAdd, reduceMul, reduceToNat, ak, e8]
   obtain rfl := Option.some.inj h
   refine G6n _ _ (wj [0, 1, 34] [pI (.arg 0) .fz, pI (.arg 1) .fz]) (hJ5 _ rfl)
  ·rw [if_neg c7] at h
   have e9 : decide ((l0.length : Int) > 1048576) = false := decide_eq_false c7
   simp +decide only [reduceAdd, reduceMul, reduceToNat, ak, e9]
   obtain rfl := Option.some.inj h
   refine G6n _ _ (wj [0, 1, 34] [pI (.arg 0) .fz, pI (.arg 1) .fz]) (hJ5 _ rfl)
 ·replace h := hn; clear hn h4
  rintro _ rfl
  refine cond_k (b := j3) rfl (fun c10 => ?_) (fun c10 => ?_)
  ·rw [if_pos c10] at h
   refine sr_k fun J11 hJ11 => ?_
   simp +decide only [reduceAdd, reduceMul, reduceToNat, ak]
   refine hJ11 _ ?_
   obtain rfl := Option.some.inj h
   refine hKr _ ⟨_, rfl, [], _, rfl, rfl, ?_⟩
   exact cl
  ·rw [if_neg (Bool.eq_false_iff.1 c10)] at h
   refine hJ2 _ ?_
   refine sr_k fun J12 hJ12 => ?_
   simp +decide only [reduceAdd, reduceMul, reduceToNat, ak]
   obtain ⟨t13, h14, h⟩ := of_bind h
   refine cm [pI (.arg 0) .fz] (spec_DrawPlanSend.tri (cs0) o0 l0 hv0 _ h14) (fun hl14 => ?_)
   refine ct (.g [.sc (.int .i64 t13.1), .sc (.int .i64 t13.2.1), .ref (.tmp 36 0) [] 0 t13.2.2.1.length, .ref (.tmp 36 1) [] 0 t13.2.2.2.1.length, .ref (.tmp 36 2) [] 0 t13.2.2.2.2.1.length, .sc (.int .i64 t13.2.2.2.2.2.1), .sc (.int .u64 t13.2.2.2.2.2.2.1), .sc (.int .u64 t13.2.2.2.2.2.2.2.1), .sc (.int .u64 t13.2.2.2.2.2.2.2.2.1), .sc (.int .i64 t13.2.2.2.2.2.2.2.2.2.1), .sc (.int .i64 t13.2.2.2.2.2.2.2.2.2.2.1), .sc (.int .i64 t13.2.2.2.2.2.2.2.2.2.2.2)]) (mF (mN ..)) ?_ (s4 := [(.arg 0, ⟨.fz, 1, cs0⟩), (.arg 1, ⟨.fz, 1, cs1⟩), (.tmp 36 2, ⟨.lst, 5, encL c84 t13.2.2.2.2.1⟩), (.tmp 36 1, ⟨.lst, 3, encL c86 t13.2.2.2.1⟩), (.tmp 36 0, ⟨.lst, 1, encL c_i64 t13.2.2.1⟩)])
   simp +decide only [reduceAdd, reduceMul, reduceToNat, ak]
   refine gho_k (Weak.own (.tmp 5 0) (cs' := [.sc (.int .i64 0), .sc (.int .i64 0), .own 1 (([] : List Int).length) (encL c_i64 ([] : List Int)), .own 3 (([] : List S86).length) (encL c86 ([] : List S86)), .own 5 (([] : List S84).length) (encL c84 ([] : List S84)), .sc (.int .i64 0), .sc (.int .u64 0), .sc (.int .u64 0), .sc (.int .u64 0), .sc (.int .i64 0), .sc (.int .i64 0), .sc (.int .i64 0)]) rfl ⟨.inl rfl, .inl rfl, .inr ⟨rfl, _, rfl⟩, .inr ⟨rfl, _, rfl⟩, .inr ⟨rfl, _, rfl⟩, .inl rfl, .inl rfl, .inl rfl, .inl rfl, .inl rfl, .inl rfl, .inl rfl, trivial⟩) ?_
   have g16 : (encL c_i64 t13.2.2.1).length = t13.2.2.1.length * 1 := by simp [encL_length c_i64_w]
   have g17 : (encL c86 t13.2.2.2.1).length = t13.2.2.2.1.length * 3 := by simp [encL_length c86_w]
   have g18 : (encL c84 t13.2.2.2.2.1).length = t13.2.2.2.2.1.length * 5 := by simp [encL_length c84_w]
   simp +decide only [reduceAdd, reduceMul, reduceToNat, ak, g16, g17, g18]
   refine hJ12 _ ?_
   refine sr_k fun J19 hJ19 => ?_
   simp +decide only [reduceAdd, reduceMul, reduceToNat, ak]
   obtain ⟨t20, h21, h⟩ := of_bind h
   refine cm [(.arg 0, ⟨(.tmp 5 0), [2], none, .fz⟩), (.arg 1, ⟨(.tmp 5 0), [3], none, .fz⟩), (.arg 2, ⟨(.tmp 5 0), [4], none, .fz⟩)] (spec_PlanSend.tri (encL c_i64 t13.2.2.1) 0 t13.2.2.1 (Vw.whole c_i64_w t13.2.2.1) (encL c86 t13.2.2.2.1) 0 t13.2.2.2.1 (Vw.whole c86_w t13.2.2.2.1) (encL c84 t13.2.2.2.2.1) 0 t13.2.2.2.2.1 (Vw.whole c84_w t13.2.2.2.2.1) t13.1 t13.2.1 t13.2.2.2.2.2.1 t13.2.2.2.2.2.2.1 t13.2.2.2.2.2.2.2.1 t13.2.2.2.2.2.2.2.2.1 t13.2.2.2.2.2.2.2.2.2.1 t13.2.2.2.2.2.2.2.2.2.2.1 t13.2.2.2.2.2.2.2.2.2.2.2 _ h21) (fun hl21 => ?_)
   refine ct (.tup [(true, [.sc (.int .i64 t20.1), .sc (.int .i64 t20.2.1), .sc (.int .u64 t20.2.2.1), .sc (.int .i64 t20.2.2.2.1), .ref (.tmp 39 0) [] 0 t20.2.2.2.2.1.length, .sc (.int .i64 t20.2.2.2.2.2.1), .sc (.int .i64 t20.2.2.2.2.2.2.1)]), (false, [.sc (.int .i64 t20.2.2.2.2.2.2.2)])]) (mD (mD (mD (mN ..)))) ?_ (s4 := [(.arg 0, ⟨.fz, 1, cs0⟩), (.arg 1, ⟨.fz, 1, cs1⟩), (.tmp 5 0, ⟨.box, 0, [.sc (.int .i64 t13.1), .sc (.int .i64 t13.2.1), .own 1 t13.2.2.1.length (encL c_i64 t13.2.2.1), .own 3 t13.2.2.2.1.length (encL c86 t13.2.2.2.1), .own 5 t13.2.2.2.2.1.length (encL c84 t13.2.2.2.2.1), .sc (.int .i64 t13.2.2.2.2.2.1), .sc (.int .u64 t13.2.2.2.2.2.2.1), .sc (.int .u64 t13.2.2.2.2.2.2.2.1), .sc (.int .u64 t13.2.2.2.2.2.2.2.2.1), .sc (.int .i64 t13.2.2.2.2.2.2.2.2.2.1), .sc (.int .i64 t13.2.2.2.2.2.2.2.2.2.2.1), .sc (.int .i64 t13.2.2.2.2.2.2.2.2.2.2.2)]⟩), (.tmp 39 0, ⟨.lst, 1, encL c_i64 t20.2.2.2.2.1⟩)])
   simp +decide only [reduceAdd, reduceMul, reduceToNat, ak]
   refine gho_k (Weak.own (.tmp 6 0) (cs' := [.sc (.int .i64 0), .sc (.int .i64 0), .sc (.int .u64 0), .sc (.int .i64 0), .own 1 (([] : List Int).length) (encL c_i64 ([] : List Int)), .sc (.int .i64 0), .sc (.int .i64 0)]) rfl ⟨.inl rfl, .inl rfl, .inl rfl, .inl rfl, .inr ⟨rfl, _, rfl⟩, .inl rfl, .inl rfl, trivial⟩) ?_
   have g23 : (encL c_i64 t20.2.2.2.2.1).length = t20.2.2.2.2.1.length * 1 := by simp [encL_length c_i64_w]
   simp +decide only [reduceAdd, reduceMul, reduceToNat, ak, g23]
   refine hJ19 _ ?_
   refine sr_k fun J24 hJ24 => ?_
   simp +decide only [reduceAdd, reduceMul, reduceToNat, ak]
   refine cm [pI (.arg 0) .fz] (spec_DrawPlanSend.tri (cs0) o0 l0 hv0 _ h14) (fun hl24 => ?_)
   refine ct (.g [.sc (.int .i64 t13.1), .sc (.int .i64 t13.2.1), .ref (.tmp 44 0) [] 0 t13.2.2.1.length, .ref (.tmp 44 1) [] 0 t13.2.2.2.1.length, .ref (.tmp 44 2) [] 0 t13.2.2.2.2.1.length, .sc (.int .i64 t13.2.2.2.2.2.1), .sc (.int .u64 t13.2.2.2.2.2.2.1), .sc (.int .u64 t13.2.2.2.2.2.2.2.1), .sc (.int .u64 t13.2.2.2.2.2.2.2.2.1), .sc (.int .i64 t13.2.2.2.2.2.2.2.2.2.1), .sc (.int .i64 t13.2.2.2.2.2.2.2.2.2.2.1), .sc (.int .i64 t13.2.2.2.2.2.2.2.2.2.2.2)]) (mF (mN ..)) ?_ (s4 := [(.arg 0, ⟨.fz, 1, cs0⟩), (.arg 1, ⟨.fz, 1, cs1⟩), (.tmp 5 0, ⟨.box, 0, [.sc (.int .i64 t13.1), .sc (.int .i64 t13.2.1), .own 1 t13.2.2.1.length (encL c_i64 t13.2.2.1), .own 3 t13.2.2.2.1.length (encL c86 t13.2.2.2.1), .own 5 t13.2.2.2.2.1.length (encL c84 t13.2.2.2.2.1), .sc (.int .i64 t13.2.2.2.2.2.1), .sc (.int .u64 t13.2.2.2.2.2.2.1), .sc (.int .u64 t13.2.2.2.2.2.2.2.1), .sc (.int .u64 t13.2.2.2.2.2.2.2.2.1), .sc (.int .i64 t13.2.2.2.2.2.2.2.2.2.1), .sc (.int .i64 t13.2.2.2.2.2.2.2.2.2.2.1), .sc (.int .i64 t13.2.2.2.2.2.2.2.2.2.2.2)]⟩), (.tmp 6 0, ⟨.box, 0, [.sc (.int .i64 t20.1), .sc (.int .i64 t20.2.1), .sc (.int .u64 t20.2.2.1), .sc (.int .i64 t20.2.2.2.1), .own 1 t20.2.2.2.2.1.length (encL c_i64 t20.2.2.2.2.1), .sc (.int .i64 t20.2.2.2.2.2.1), .sc (.int .i64 t20.2.2.2.2.2.2.1)]⟩), (.tmp 44 2, ⟨.lst, 5, encL c84 t13.2.2.2.2.1⟩), (.tmp 44 1, ⟨.lst, 3, encL c86 t13.2.2.2.1⟩), (.tmp 44 0, ⟨.lst, 1, encL c_i64 t13.2.2.1⟩)])
   simp +decide only [reduceAdd, reduceMul, reduceToNat, ak]
   obtain ⟨t26, h27, h⟩ := of_bind h
   refine cm [pN (.arg 0) (.tmp 44 0) .fz, pN (.arg 1) (.tmp 44 1) .fz, pN (.arg 2) (.tmp 44 2) .fz] (impl_PlanSend.tri (encL c_i64 t13.2.2.1) 0 t13.2.2.1 (Vw.whole c_i64_w t13.2.2.1) (encL c86 t13.2.2.2.1) 0 t13.2.2.2.1 (Vw.whole c86_w t13.2.2.2.1) (encL c84 t13.2.2.2.2.1) 0 t13.2.2.2.2.1 (Vw.whole c84_w t13.2.2.2.2.1) t13.1 t13.2.1 t13.2.2.2.2.2.1 t13.2.2.2.2.2.2.1 t13.2.2.2.2.2.2.2.1 t13.2.2.2.2.2.2.2.2.1 t13.2.2.2.2.2.2.2.2.2.1 t13.2.2.2.2.2.2.2.2.2.2.1 t13.2.2.2.2.2.2.2.2.2.2.2 _ h27) (fun hl27 => ?_)
   refine ct (.tup [(true, [.sc (.int .i64 t26.1), .sc (.int .i64 t26.2.1), .sc (.int .u64 t26.2.2.1), .sc (.int .i64 t26.2.2.2.1), .ref (.tmp 45 0) [] 0 t26.2.2.2.2.1.length, .sc (.int .i64 t26.2.2.2.2.2.1), .sc (.int .i64 t26.2.2.2.2.2.2.1)]), (false, [.sc (.int .i64 t26.2.2.2.2.2.2.2)])]) (mF (mF (mF (mN ..)))) ?_ (s4 := [(.arg 0, ⟨.fz, 1, cs0⟩), (.arg 1, ⟨.fz, 1, cs1⟩), (.tmp 5 0, ⟨.box, 0, [.sc (.int .i64 t13.1), .sc (.int .i64 t13.2.1), .own 1 t13.2.2.1.length (encL c_i64 t13.2.2.1), .own 3 t13.2.2.2.1.length (encL c86 t13.2.2.2.1), .own 5 t13.2.2.2.2.1.length (encL c84 t13.2.2.2.2.1), .sc (.int .i64 t13.2.2.2.2.2.1), .sc (.int .u64 t13.2.2.2.2.2.2.1), .sc (.int .u64 t13.2.2.2.2.2.2.2.1), .sc (.int .u64 t13.2.2.2.2.2.2.2.2.1), .sc (.int .i64 t13.2.2.2.2.2.2.2.2.2.1), .sc (.int .i64 t13.2.2.2.2.2.2.2.2.2.2.1), .sc (.int .i64 t13.2.2.2.2.2.2.2.2.2.2.2)]⟩), (.tmp 6 0, ⟨.box, 0, [.sc (.int .i64 t20.1), .sc (.int .i64 t20.2.1), .sc (.int .u64 t20.2.2.1), .sc (.int .i64 t20.2.2.2.1), .own 1 t20.2.2.2.2.1.length (encL c_i64 t20.2.2.2.2.1), .sc (.int .i64 t20.2.2.2.2.2.1), .sc (.int .i64 t20.2.2.2.2.2.2.1)]⟩), (.tmp 44 2, ⟨.lst, 5, encL c84 t13.2.2.2.2.1⟩), (.tmp 44 1, ⟨.lst, 3, encL c86 t13.2.2.2.1⟩), (.tmp 44 0, ⟨.lst, 1, encL c_i64 t13.2.2.1⟩), (.tmp 45 0, ⟨.lst, 1, encL c_i64 t26.2.2.2.2.1⟩)])
   simp +decide only [reduceAdd, reduceMul, reduceToNat, ak]
   refine gho_k (Weak.own (.tmp 8 0) (cs' := [.sc (.int .i64 0), .sc (.int .i64 0), .sc (.int .u64 0), .sc (.int .i64 0), .own 1 (([] : List Int).length) (encL c_i64 ([] : List Int)), .sc (.int .i64 0), .sc (.int .i64 0)]) rfl ⟨.inl rfl, .inl rfl, .inl rfl, .inl rfl, .inr ⟨rfl, _, rfl⟩, .inl rfl, .inl rfl, trivial⟩) ?_
   have g29 : (encL c_i64 t26.2.2.2.2.1).length = t26.2.2.2.2.1.length * 1 := by simp [encL_length c_i64_w]
   simp +decide only [reduceAdd, reduceMul, reduceToNat, ak, g29]
   refine hJ24 _ ?_
   refine seq_k fun J30 hJ30 => ?_
   refine sr_k fun J31 hJ31 => ?_
   simp +decide only [reduceAdd, reduceMul, reduceToNat, ak]
   refine hJ31 _ ?_
   refine cond_k (b := decide (t26.2.2.2.2.2.2.2 ≠ t20.2.2.2.2.2.2.2)) rfl (fun c32 => ?_) (fun c32 => ?_)
   ·replace c32 := of_decide_eq_true c32; rw [if_pos c32] at h
    refine sr_k fun J33 hJ33 => ?_
    simp +decide only [reduceAdd, reduceMul, reduceToNat, ak]
    refine hJ33 _ ?_
    obtain rfl := Option.some.inj h
    refine hKr _ ⟨_, rfl, [], _, rfl, rfl, ?_⟩
    exact cl
   ·replace c32 := of_decide_eq_false c32; rw [if_neg c32] at h
    refine hJ30 _ ?_
    refine seq_k fun J34 hJ34 => ?_
    refine sr_k fun J35 hJ35 => ?_
    simp +decide only [reduceAdd, reduceMul, reduceToNat, ak]
    refine hJ35 _ ?_
    refine cond_k (b := decide (t20.2.2.2.2.2.2.2 ≠ 0)) rfl (fun c36 => ?_) (fun c36 => ?_)
    ·replace c36 := of_decide_eq_true c36; rw [if_pos c36] at h
     refine sr_k fun J37 hJ37 => ?_
     simp +decide only [reduceAdd, reduceMul, reduceToNat, ak]
     by_cases c38 : t26.1 = 0
     ·rw [if_pos c38] at h
      have e39 : decide (t26.1 = 0) = true := decide_eq_true c38
      simp +decide only [reduceAdd, reduceMul, reduceToNat, ak, e39]
      refine hJ37 _ ?_
      obtain rfl := Option.some.inj h
      refine hKr _ ⟨_, rfl, [], _, rfl, rfl, ?_⟩
      exact cl
     ·rw [if_neg c38] at h
      have e40 : decide (t26.1 = 0) = false := decide_eq_false c38
      simp +decide only [reduceAdd, reduceMul, reduceToNat, ak, e40]
      refine hJ37 _ ?_
      obtain rfl := Option.some.inj h
      refine hKr _ ⟨_, rfl, [], _, rfl, rfl, ?_⟩
      exact cl
    ·replace c36 := of_decide_eq_false c36; rw [if_neg c36] at h
     refine hJ34 _ ?_
     refine seq_k fun J41 hJ41 => ?_
     obtain ⟨j42, h43, hn⟩ := of_bind h
     refine seq_j (fun st => st = ⟨[(1, .c (.ref (.arg 1) [] o1 l1.length)), (5, .c (.ptr (.tmp 5 0) [] 0)), (8, .c (.ptr (.tmp 8 0) [] 0)), (83, .c (.sc (.bool j42)))], [(.arg 0, ⟨.fz, 1, cs0⟩), (.arg 1, ⟨.fz, 1, cs1⟩), (.tmp 5 0, ⟨.box, 0, [.sc (.int .i64 t13.1), .sc (.int .i64 t13.2.1), .own 1 t13.2.2.1.length (encL c_i64 t13.2.2.1), .own 3 t13.2.2.2.1.length (encL c86 t13.2.2.2.1), .own 5 t13.2.2.2.2.1.length (encL c84 t13.2.2.2.2.1), .sc (.int .i64 t13.2.2.2.2.2.1), .sc (.int .u64 t13.2.2.2.2.2.2.1), .sc (.int .u64 t13.2.2.2.2.2.2.2.1), .sc (.int .u64 t13.2.2.2.2.2.2.2.2.1), .sc (.int .i64 t13.2.2.2.2.2.2.2.2.2.1), .sc (.int .i64 t13.2.2.2.2.2.2.2.2.2.2.1), .sc (.int .i64 t13.2.2.2.2.2.2.2.2.2.2.2)]⟩), (.tmp 8 0, ⟨.box, 0, [.sc (.int .i64 t26.1), .sc (.int .i64 t26.2.1), .sc (.int .u64 t26.2.2.1), .sc (.int .i64 t26.2.2.2.1), .own 1 t26.2.2.2.2.1.length (encL c_i64 t26.2.2.2.2.1), .sc (.int .i64 t26.2.2.2.2.2.1), .sc (.int .i64 t26.2.2.2.2.2.2.1)]⟩)], [], []⟩) (fun J44 hJ44 => ?_) ?_
     ·replace h := h43; clear hn
      refine ga_k fun G45 G45n G45r G45x => ?_
      refine reg_k ?_
      simp +decide only [reduceAdd, reduceMul, reduceToNat, ak]
      by_cases c46 : t26.1 ≠ t20.1
      ·rw [if_pos c46] at h
       have e47 : decide (t26.1 ≠ t20.1) = true := decide_eq_true c46
       simp +decide only [reduceAdd, reduceMul, reduceToNat, ak, e47]
       obtain rfl := Option.some.inj h
       refine G45n _ _ (wj [1, 5, 8, 83] [pI (.arg 0) .fz, pI (.arg 1) .fz, pI (.tmp 5 0) .box, pI (.tmp 8 0) .box]) (hJ44 _ rfl)
      ·rw [if_neg c46] at h
       have e48 : decide (t26.1 ≠ t20.1) = false := decide_eq_false c46
       simp +decide only [reduceAdd, reduceMul, reduceToNat, ak, e48]
       by_cases c49 : t26.2.1 ≠ t20.2.1
       ·rw [if_pos c49] at h
        have e50 : decide (t26.2.1 ≠ t20.2.1) = true := decide_eq_true c49
        simp +decide only [reduceAdd, reduceMul, reduceToNat, ak, e50]
        obtain rfl := Option.some.inj h
        refine G45n _ _ (wj [1, 5, 8, 83] [pI (.arg 0) .fz, pI (.arg 1) .fz, pI (.tmp 5 0) .box, pI (.tmp 8 0) .box]) (hJ44 _ rfl)
       ·rw [if_neg c49] at h
        have e51 : decide (t26.2.1 ≠ t20.2.1) = false := decide_eq_false c49
        simp +decide only [reduceAdd, reduceMul, reduceToNat, ak, e51]
        obtain rfl := Option.some.inj h
        refine G45n _ _ (wj [1, 5, 8, 83] [pI (.arg 0) .fz, pI (.arg 1) .fz, pI (.tmp 5 0) .box, pI (.tmp 8 0) .box]) (hJ44 _ rfl)
     ·replace h := hn; clear hn h43
      rintro _ rfl
      refine cond_k (b := j42) rfl (fun c52 => ?_) (fun c52 => ?_)
      ·rw [if_pos c52] at h
       refine sr_k fun J53 hJ53 => ?_
       simp +decide only [reduceAdd, reduceMul, reduceToNat, ak]
       refine hJ53 _ ?_
       obtain rfl := Option.some.inj h
       refine hKr _ ⟨_, rfl, [], _, rfl, rfl, ?_⟩
       exact cl
      ·rw [if_neg (Bool.eq_false_iff.1 c52)] at h
       refine hJ41 _ ?_
       refine sr_k fun J54 hJ54 => ?_
       simp +decide only [reduceAdd, reduceMul, reduceToNat, ak]
       refine hJ54 _ ?_
       obtain ⟨j55, h56, hn⟩ := of_bind h
       refine seq_j (fun st => st = ⟨[(1, .c (.ref (.arg 1) [] o1 l1.length)), (5, .c (.ptr (.tmp 5 0) [] 0)), (8, .c (.ptr (.tmp 8 0) [] 0)), (10, .c (.sc (.int .i64 j55)))], [(.arg 0, ⟨.fz, 1, cs0⟩), (.arg 1, ⟨.fz, 1, cs1⟩), (.tmp 5 0, ⟨.box, 0, [.sc (.int .i64 t13.1), .sc (.int .i64 t13.2.1), .own 1 t13.2.2.1.length (encL c_i64 t13.2.2.1), .own 3 t13.2.2.2.1.length (encL c86 t13.2.2.2.1), .own 5 t13.2.2.2.2.1.length (encL c84 t13.2.2.2.2.1), .sc (.int .i64 t13.2.2.2.2.2.1), .sc (.int .u64 t13.2.2.2.2.2.2.1), .sc (.int .u64 t13.2.2.2.2.2.2.2.1), .sc (.int .u64 t13.2.2.2.2.2.2.2.2.1), .sc (.int .i64 t13.2.2.2.2.2.2.2.2.2.1), .sc (.int .i64 t13.2.2.2.2.2.2.2.2.2.2.1), .sc (.int .i64 t13.2.2.2.2.2.2.2.2.2.2.2)]⟩), (.tmp 8 0, ⟨.box, 0, [.sc (.int .i64 t26.1), .sc (.int .i64 t26.2.1), .sc (.int .u64 t26.2.2.1), .sc (.int .i64 t26.2.2.2.1), .own 1 t26.2.2.2.2.1.length (encL c_i64 t26.2.2.2.2.1), .sc (.int .i64 t26.2.2.2.2.2.1), .sc (.int .i64 t26.2.2.2.2.2.2.1)]⟩)], [], []⟩) (fun J57 hJ57 => ?_) ?_
       ·replace h := h56; clear hn
        refine ga_k fun G58 G58n G58r G58x => ?_
        refine sr_k fun J59 hJ59 => ?_
        simp +decide only [reduceAdd, reduceMul, reduceToNat, ak]
        refine hJ59 _ ?_
        refine cond_k (b := decide ((t13.2.2.1.length : Int) > 0)) rfl (fun c60 => ?_) (fun c60 => ?_)
        ·replace c60 := of_decide_eq_true c60; rw [if_pos c60] at h
         refine reg_k ?_
         obtain ⟨b61, h⟩ := of_guard h
         have g62 : (encL c_i64 t13.2.2.1)[0]? = some (.sc (.int .i64 (rd 0 t13.2.2.1 0))) := (by have := (Vw.whole c_i64_w t13.2.2.1).get 0 0 b61.1 b61.2 (by decide); first | exact this | simpa using this)
         simp +decide only [reduceAdd, reduceMul, reduceToNat, ak, b61, g62]
         obtain rfl := Option.some.inj h
         refine G58n _ _ (wk [1, 5, 8, 10] [pI (.arg 0) .fz, pI (.arg 1) .fz, pI (.tmp 5 0) .box, pI (.tmp 8 0) .box]) (hJ57 _ rfl)
        ·replace c60 := of_decide_eq_false c60; rw [if_neg c60] at h
         obtain rfl := Option.some.inj h
         refine G58n _ _ (wk [1, 5, 8, 10] [pI (.arg 0) .fz, pI (.arg 1) .fz, pI (.tmp 5 0) .box, pI (.tmp 8 0) .box]) (hJ57 _ rfl)
       ·replace h := hn; clear hn h56
        rintro _ rfl
        refine sr_k fun J63 hJ63 => ?_
        simp +decide only [reduceAdd, reduceMul, reduceToNat, ak]
        refine hJ63 _ ?_
        obtain ⟨j68, h69, hn67⟩ := of_bind h
        refine seq_j (fun st => ∃ x72, j68 = .b x72 ∧ st = ⟨[(1, .c (.ref (.arg 1) [] o1 l1.length)), (5, .c (.ptr (.tmp 5 0) [] 0)), (8, .c (.ptr (.tmp 8 0) [] 0)), (10, .c (.sc (.int .i64 j55))), (11, .c (.sc (.int .i64 x72)))], [(.arg 0, ⟨.fz, 1, cs0⟩), (.arg 1, ⟨.fz, 1, cs1⟩), (.tmp 5 0, ⟨.box, 0, [.sc (.int .i64 t13.1), .sc (.int .i64 t13.2.1), .own 1 t13.2.2.1.length (encL c_i64 t13.2.2.1), .own 3 t13.2.2.2.1.length (encL c86 t13.2.2.2.1), .own 5 t13.2.2.2.2.1.length (encL c84 t13.2.2.2.2.1), .sc (.int .i64 t13.2.2.2.2.2.1), .sc (.int .u64 t13.2.2.2.2.2.2.1), .sc (.int .u64 t13.2.2.2.2.2.2.2.1), .sc (.int .u64 t13.2.2.2.2.2.2.2.2.1), .sc (.int .i64 t13.2.2.2.2.2.2.2.2.2.1), .sc (.int .i64 t13.2.2.2.2.2.2.2.2.2.2.1), .sc (.int .i64 t13.2.2.2.2.2.2.2.2.2.2.2)]⟩), (.tmp 8 0, ⟨.box, 0, [.sc (.int .i64 t26.1), .sc (.int .i64 t26.2.1), .sc (.int .u64 t26.2.2.1), .sc (.int .i64 t26.2.2.2.1), .own 1 t26.2.2.2.2.1.length (encL c_i64 t26.2.2.2.2.1), .sc (.int .i64 t26.2.2.2.2.2.1), .sc (.int .i64 t26.2.2.2.2.2.2.1)]⟩)], [], []⟩) (fun J70 hJ70 => ?_) ?_
        ·replace h := h69; clear h69
         refine ga_k fun G71 G71n G71r G71x => ?_
         refine sr_k fun J73 hJ73 => ?_
         simp +decide only [reduceAdd, reduceMul, reduceToNat, ak]
         refine hJ73 _ ?_
         refine cond_k (b := decide (t26.1 = 1)) rfl (fun c74 => ?_) (fun c74 => ?_)
         ·replace c74 := of_decide_eq_true c74; rw [if_pos c74] at h
          refine sr_k fun J75 hJ75 => ?_
          obtain ⟨b76, h⟩ := of_guard h
          have g77 : (List.drop (0 + t26.2.1.toNat * 5) (encL c84 t13.2.2.2.2.1)).take 5 = [.sc (.int .u64 ((rd z84 t13.2.2.2.2.1 t26.2.1).f0)), .sc (.int .i64 ((rd z84 t13.2.2.2.2.1 t26.2.1).f1)), .sc (.int .i64 ((rd z84 t13.2.2.2.2.1 t26.2.1).f2)), .sc (.int .i64 ((rd z84 t13.2.2.2.2.1 t26.2.1).f3)), .sc (.int .i64 ((rd z84 t13.2.2.2.2.1 t26.2.1).f4))] := (Vw.whole c84_w t13.2.2.2.2.1).stretch z84 b76.1 b76.2
          simp +decide only [reduceAdd, reduceMul, reduceToNat, ak, b76, g77]
          refine hJ75 _ ?_
          refine sr_k fun J78 hJ78 => ?_
          simp +decide only [reduceAdd, reduceMul, reduceToNat, ak]
          refine hJ78 _ ?_
          obtain ⟨j79, h80, hn⟩ := of_bind h
          refine seq_j (fun st => st = ⟨[(1, .c (.ref (.arg 1) [] o1 l1.length)), (5, .c (.ptr (.tmp 5 0) [] 0)), (8, .c (.ptr (.tmp 8 0) [] 0)), (10, .c (.sc (.int .i64 j55))), (11, .c (.sc (.int .i64 ((rd z84 t13.2.2.2.2.1 t26.2.1).f3)))), (119, .c (.sc (.bool j79)))], [(.arg 0, ⟨.fz, 1, cs0⟩), (.arg 1, ⟨.fz, 1, cs1⟩), (.tmp 5 0, ⟨.box, 0, [.sc (.int .i64 t13.1), .sc (.int .i64 t13.2.1), .own 1 t13.2.2.1.length (encL c_i64 t13.2.2.1), .own 3 t13.2.2.2.1.length (encL c86 t13.2.2.2.1), .own 5 t13.2.2.2.2.1.length (encL c84 t13.2.2.2.2.1), .sc (.int .i64 t13.2.2.2.2.2.1), .sc (.int .u64 t13.2.2.2.2.2.2.1), .sc (.int .u64 t13.2.2.2.2.2.2.2.1), .sc (.int .u64 t13.2.2.2.2.2.2.2.2.1), .sc (.int .i64 t13.2.2.2.2.2.2.2.2.2.1), .sc (.int .i64 t13.2.2.2.2.2.2.2.2.2.2.1), .sc (.int .i64 t13.2.2.2.2.2.2.2.2.2.2.2)]⟩), (.tmp 8 0, ⟨.box, 0, [.sc (.int .i64 t26.1), .sc (.int .i64 t26.2.1), .sc (.int .u64 t26.2.2.1), .sc (.int .i64 t26.2.2.2.1), .own 1 t26.2.2.2.2.1.length (encL c_i64 t26.2.2.2.2.1), .sc (.int .i64 t26.2.2.2.2.2.1), .sc (.int .i64 t26.2.2.2.2.2.2.1)]⟩)], [], []⟩) (fun J81 hJ81 => ?_) ?_
          ·replace h := h80; clear hn
           refine ga_k fun G82 G82n G82r G82x => ?_
           refine reg_k ?_
           simp +decide only [reduceAdd, reduceMul, reduceToNat, ak]
           by_cases c83 : (rd z84 t13.2.2.2.2.1 t26.2.1).f4 ≠ 1
           ·rw [if_pos c83] at h
            have e84 : decide ((rd z84 t13.2.2.2.2.1 t26.2.1).f4 ≠ 1) = true := decide_eq_true c83
            simp +decide only [reduceAdd, reduceMul, reduceToNat, ak, e84]
            obtain rfl := Option.some.inj h
            refine G82n _ _ (wj [1, 5, 8, 10, 11, 119] [pI (.arg 0) .fz, pI (.arg 1) .fz, pI (.tmp 5 0) .box, pI (.tmp 8 0) .box]) (hJ81 _ rfl)
           ·rw [if_neg c83] at h
            have e85 : decide ((rd z84 t13.2.2.2.2.1 t26.2.1).f4 ≠ 1) = false := decide_eq_false c83
            simp +decide only [reduceAdd, reduceMul, reduceToNat, ak, e85]
            by_cases c86 : t26.2.2.1 ≠ (rd z84 t13.2.2.2.2.1 t26.2.1).f0
            ·rw [if_pos c86] at h
             have e87 : decide (t26.2.2.1 ≠ (rd z84 t13.2.2.2.2.1 t26.2.1).f0) = true := decide_eq_true c86
             simp +decide only [reduceAdd, reduceMul, reduceToNat, ak, e87]
             obtain rfl := Option.some.inj h
             refine G82n _ _ (wj [1, 5, 8, 10, 11, 119] [pI (.arg 0) .fz, pI (.arg 1) .fz, pI (.tmp 5 0) .box, pI (.tmp 8 0) .box]) (hJ81 _ rfl)
            ·rw [if_neg c86] at h
             have e88 : decide (t26.2.2.1 ≠ (rd z84 t13.2.2.2.2.1 t26.2.1).f0) = false := decide_eq_false c86
             simp +decide only [reduceAdd, reduceMul, reduceToNat, ak, e88]
             obtain rfl := Option.some.inj h
             refine G82n _ _ (wj [1, 5, 8, 10, 11, 119] [pI (.arg 0) .fz, pI (.arg 1) .fz, pI (.tmp 5 0) .box, pI (.tmp 8 0) .box]) (hJ81 _ rfl)
          ·replace h := hn; clear hn h80
           rintro _ rfl
           refine cond_k (b := j79) rfl (fun c89 => ?_) (fun c89 => ?_)
           ·rw [if_pos c89] at h
            refine sr_k fun J90 hJ90 => ?_
            simp +decide only [reduceAdd, reduceMul, reduceToNat, ak]
            refine hJ90 _ ?_
            obtain ⟨r64, h65, e66⟩ := of_bind h
            obtain rfl := Option.some.inj e66
            dsimp only at hn67
            replace h := h65.trans hn67
            refine G71r _ ?_
            obtain rfl := Option.some.inj h
            refine hKr _ ⟨_, rfl, [], _, rfl, rfl, ?_⟩
            exact cl
           ·rw [if_neg (Bool.eq_false_iff.1 c89)] at h
            obtain rfl := Option.some.inj h
            refine G71n _ _ (wk [1, 5, 8, 10, 11] [pI (.arg 0) .fz, pI (.arg 1) .fz, pI (.tmp 5 0) .box, pI (.tmp 8 0) .box]) (hJ70 _ ⟨_, rfl, rfl⟩)
         ·replace c74 := of_decide_eq_false c74; rw [if_neg c74] at h
          obtain rfl := Option.some.inj h
          refine G71n _ _ (wk [1, 5, 8, 10, 11] [pI (.arg 0) .fz, pI (.arg 1) .fz, pI (.tmp 5 0) .box, pI (.tmp 8 0) .box]) (hJ70 _ ⟨_, rfl, rfl⟩)
        ·rintro _ ⟨x72, rfl, rfl⟩
         dsimp only at hn67
         replace h := hn67; clear hn67 h69
         refine seq_k fun J91 hJ91 => ?_
         obtain ⟨j92, h93, hn⟩ := of_bind h
         refine seq_j (fun st => st = ⟨[(1, .c (.ref (.arg 1) [] o1 l1.length)), (5, .c (.ptr (.tmp 5 0) [] 0)), (8, .c (.ptr (.tmp 8 0) [] 0)), (10, .c (.sc (.int .i64 j55))), (11, .c (.sc (.int .i64 x72))), (163, .c (.sc (.bool j92)))], [(.arg 0, ⟨.fz, 1, cs0⟩), (.arg 1, ⟨.fz, 1, cs1⟩), (.tmp 5 0, ⟨.box, 0, [.sc (.int .i64 t13.1), .sc (.int .i64 t13.2.1), .own 1 t13.2.2.1.length (encL c_i64 t13.2.2.1), .own 3 t13.2.2.2.1.length (encL c86 t13.2.2.2.1), .own 5 t13.2.2.2.2.1.length (encL c84 t13.2.2.2.2.1), .sc (.int .i64 t13.2.2.2.2.2.1), .sc (.int .u64 t13.2.2.2.2.2.2.1), .sc (.int .u64 t13.2.2.2.2.2.2.2.1), .sc (.int .u64 t13.2.2.2.2.2.2.2.2.1), .sc (.int .i64 t13.2.2.2.2.2.2.2.2.2.1), .sc (.int .i64 t13.2.2.2.2.2.2.2.2.2.2.1), .sc (.int .i64 t13.2.2.2.2.2.2.2.2.2.2.2)]⟩), (.tmp 8 0, ⟨.box, 0, [.sc (.int .i64 t26.1), .sc (.int .i64 t26.2.1), .sc (.int .u64 t26.2.2.1), .sc (.int .i64 t26.2.2.2.1), .own 1 t26.2.2.2.2.1.length (encL c_i64 t26.2.2.2.2.1), .sc (.int .i64 t26.2.2.2.2.2.1), .sc (.int .i64 t26.2.2.2.2.2.2.1)]⟩)], [], []⟩) (fun J94 hJ94 => ?_) ?_
         ·replace h := h93; clear hn
          refine ga_k fun G95 G95n G95r G95x => ?_
          refine reg_k ?_
          simp +decide only [reduceAdd, reduceMul, reduceToNat, ak]
          by_cases c96 : t26.1 = 2
          ·rw [if_pos c96] at h
           have e97 : decide (t26.1 = 2) = true := decide_eq_true c96
           simp +decide only [reduceAdd, reduceMul, reduceToNat, ak, e97]
           by_cases c98 : t26.2.2.1 ≠ t13.2.2.2.2.2.2.1
           ·rw [if_pos c98] at h
            have e99 : decide (t26.2.2.1 ≠ t13.2.2.2.2.2.2.1) = true := decide_eq_true c98
            simp +decide only [reduceAdd, reduceMul, reduceToNat, ak, e99]
            obtain rfl := Option.some.inj h
            refine G95n _ _ (wj [1, 5, 8, 10, 11, 163] [pI (.arg 0) .fz, pI (.arg 1) .fz, pI (.tmp 5 0) .box, pI (.tmp 8 0) .box]) (hJ94 _ rfl)
           ·rw [if_neg c98] at h
            have e100 : decide (t26.2.2.1 ≠ t13.2.2.2.2.2.2.1) = false := decide_eq_false c98
            simp +decide only [reduceAdd, reduceMul, reduceToNat, ak, e100]
            by_cases c101 : t26.2.2.2.1 < 1
            ·rw [if_pos c101] at h
             have e102 : decide (t26.2.2.2.1 < 1) = true := decide_eq_true c101
             simp +decide only [reduceAdd, reduceMul, reduceToNat, ak, e102]
             obtain rfl := Option.some.inj h
             refine G95n _ _ (wj [1, 5, 8, 10, 11, 163] [pI (.arg 0) .fz, pI (.arg 1) .fz, pI (.tmp 5 0) .box, pI (.tmp 8 0) .box]) (hJ94 _ rfl)
            ·rw [if_neg c101] at h
             have e103 : decide (t26.2.2.2.1 < 1) = false := decide_eq_false c101
             simp +decide only [reduceAdd, reduceMul, reduceToNat, ak, e103]
             by_cases c104 : t26.2.2.2.1 > t13.2.2.2.2.2.2.2.2.2.2.2
             ·rw [if_pos c104] at h
              have e105 : decide (t26.2.2.2.1 > t13.2.2.2.2.2.2.2.2.2.2.2) = true := decide_eq_true c104
              simp +decide only [reduceAdd, reduceMul, reduceToNat, ak, e105]
              obtain rfl := Option.some.inj h
              refine G95n _ _ (wj [1, 5, 8, 10, 11, 163] [pI (.arg 0) .fz, pI (.arg 1) .fz, pI (.tmp 5 0) .box, pI (.tmp 8 0) .box]) (hJ94 _ rfl)
             ·rw [if_neg c104] at h
              have e106 : decide (t26.2.2.2.1 > t13.2.2.2.2.2.2.2.2.2.2.2) = false := decide_eq_false c104
              simp +decide only [reduceAdd, reduceMul, reduceToNat, ak, e106]
              by_cases c107 : IntKind.u64.wrap (t13.2.2.2.2.2.2.1 + (IntKind.u64.wrap t26.2.2.2.1)) > t13.2.2.2.2.2.2.2.1
              ·rw [if_pos c107] at h
               have e108 : decide (IntKind.u64.wrap (t13.2.2.2.2.2.2.1 + (IntKind.u64.wrap t26.2.2.2.1)) > t13.2.2.2.2.2.2.2.1) = true := decide_eq_true c107
               simp +decide only [reduceAdd, reduceMul, reduceToNat, ak, e108]
               obtain rfl := Option.some.inj h
               refine G95n _ _ (wj [1, 5, 8, 10, 11, 163] [pI (.arg 0) .fz, pI (.arg 1) .fz, pI (.tmp 5 0) .box, pI (.tmp 8 0) .box]) (hJ94 _ rfl)
              ·rw [if_neg c107] at h
               have e109 : decide (IntKind.u64.wrap (t13.2.2.2.2.2.2.1 + (IntKind.u64.wrap t26.2.2.2.1)) > t13.2.2.2.2.2.2.2.1) = false := decide_eq_false c107
               simp +decide only [reduceAdd, reduceMul, reduceToNat, ak, e109]
               obtain rfl := Option.some.inj h
               refine G95n _ _ (wj [1, 5, 8, 10, 11, 163] [pI (.arg 0) .fz, pI (.arg 1) .fz, pI (.tmp 5 0) .box, pI (.tmp 8 0) .box]) (hJ94 _ rfl)
          ·rw [if_neg c96] at h
           have e110 : decide (t26.1 = 2) = false := decide_eq_false c96
           simp +decide only [reduceAdd, reduceMul, reduceToNat, ak, e110]
           obtain rfl := Option.some.inj h
           refine G95n _ _ (wj [1, 5, 8, 10, 11, 163] [pI (.arg 0) .fz, pI (.arg 1) .fz, pI (.tmp 5 0) .box, pI (.tmp 8 0) .box]) (hJ94 _ rfl)
         ·replace h := hn; clear hn h93
          rintro _ rfl
          refine cond_k (b := j92) rfl (fun c111 => ?_) (fun c111 => ?_)
          ·rw [if_pos c111] at h
           refine sr_k fun J112 hJ112 => ?_
           simp +decide only [reduceAdd, reduceMul, reduceToNat, ak]
           refine hJ112 _ ?_
           obtain rfl := Option.some.inj h
           refine hKr _ ⟨_, rfl, [], _, rfl, rfl, ?_⟩
           exact cl
          ·rw [if_neg (Bool.eq_false_iff.1 c111)] at h
           refine hJ91 _ ?_
           obtain ⟨j117, h118, hn116⟩ := of_bind h
           refine seq_j (fun st => ∃ x121, j117 = .b x121 ∧ st = ⟨[(1, .c (.ref (.arg 1) [] o1 l1.length)), (5, .c (.ptr (.tmp 5 0) [] 0)), (8, .c (.ptr (.tmp 8 0) [] 0)), (11, .c (.sc (.int .i64 x72)))], [(.arg 0, ⟨.fz, 1, cs0⟩), (.arg 1, ⟨.fz, 1, cs1⟩), (.tmp 5 0, ⟨.box, 0, [.sc (.int .i64 t13.1), .sc (.int .i64 t13.2.1), .own 1 t13.2.2.1.length (encL c_i64 t13.2.2.1), .own 3 t13.2.2.2.1.length (encL c86 t13.2.2.2.1), .own 5 t13.2.2.2.2.1.length (encL c84 t13.2.2.2.2.1), .sc (.int .i64 t13.2.2.2.2.2.1), .sc (.int .u64 t13.2.2.2.2.2.2.1), .sc (.int .u64 t13.2.2.2.2.2.2.2.1), .sc (.int .u64 t13.2.2.2.2.2.2.2.2.1), .sc (.int .i64 t13.2.2.2.2.2.2.2.2.2.1), .sc (.int .i64 t13.2.2.2.2.2.2.2.2.2.2.1), .sc (.int .i64 t13.2.2.2.2.2.2.2.2.2.2.2)]⟩), (.tmp 8 0, ⟨.box, 0, [.sc (.int .i64 t26.1), .sc (.int .i64 t26.2.1), .sc (.int .u64 t26.2.2.1), .sc (.int .i64 t26.2.2.2.1), .own 1 t26.2.2.2.2.1.length (encL c_i64 t26.2.2.2.2.1), .sc (.int .i64 t26.2.2.2.2.2.1), .sc (.int .i64 t26.2.2.2.2.2.2.1)]⟩)], [], []⟩) (fun J119 hJ119 => ?_) ?_
           ·replace h := h118; clear h118
            refine ga_k fun G120 G120n G120r G120x => ?_
            refine sr_k fun J122 hJ122 => ?_
            simp +decide only [reduceAdd, reduceMul, reduceToNat, ak]
            refine hJ122 _ ?_
            refine cond_k (b := decide (t26.1 ≠ 0)) rfl (fun c123 => ?_) (fun c123 => ?_)
            ·replace c123 := of_decide_eq_true c123; rw [if_pos c123] at h
             refine sr_k fun J124 hJ124 => ?_
             simp +decide only [reduceAdd, reduceMul, reduceToNat, ak]
             obtain ⟨t125, h126, h⟩ := of_bind h
             refine cm [(.arg 0, ⟨(.tmp 5 0), [3], none, .fz⟩)] (impl_Pick.tri (encL c86 t13.2.2.2.1) 0 t13.2.2.2.1 (Vw.whole c86_w t13.2.2.2.1) t13.1 t13.2.1 j55 x72 _ h126) (fun hl126 => ?_)
             refine ct (.tup [(false, [.ref (.tmp 176 0) [] 0 t125.1.length]), (false, [.sc (.int .i64 t125.2.1)]), (false, [.sc (.int .i64 t125.2.2)])]) (mD (mN ..)) ?_ (s4 := [(.arg 0, ⟨.fz, 1, cs0⟩), (.arg 1, ⟨.fz, 1, cs1⟩), (.tmp 5 0, ⟨.box, 0, [.sc (.int .i64 t13.1), .sc (.int .i64 t13.2.1), .own 1 t13.2.2.1.length (encL c_i64 t13.2.2.1), .own 3 t13.2.2.2.1.length (encL c86 t13.2.2.2.1), .own 5 t13.2.2.2.2.1.length (encL c84 t13.2.2.2.2.1), .sc (.int .i64 t13.2.2.2.2.2.1), .sc (.int .u64 t13.2.2.2.2.2.2.1), .sc (.int .u64 t13.2.2.2.2.2.2.2.1), .sc (.int .u64 t13.2.2.2.2.2.2.2.2.1), .sc (.int .i64 t13.2.2.2.2.2.2.2.2.2.1), .sc (.int .i64 t13.2.2.2.2.2.2.2.2.2.2.1), .sc (.int .i64 t13.2.2.2.2.2.2.2.2.2.2.2)]⟩), (.tmp 8 0, ⟨.box, 0, [.sc (.int .i64 t26.1), .sc (.int .i64 t26.2.1), .sc (.int .u64 t26.2.2.1), .sc (.int .i64 t26.2.2.2.1), .own 1 t26.2.2.2.2.1.length (encL c_i64 t26.2.2.2.2.1), .sc (.int .i64 t26.2.2.2.2.2.1), .sc (.int .i64 t26.2.2.2.2.2.2.1)]⟩), (.tmp 176 0, ⟨.lst, 1, encL c_i64 t125.1⟩)])
             simp +decide only [reduceAdd, reduceMul, reduceToNat, ak]
             refine hJ124 _ ?_
             obtain ⟨j128, h129, hn⟩ := of_bind h
             refine seq_j (fun st => st = ⟨[(1, .c (.ref (.arg 1) [] o1 l1.length)), (5, .c (.ptr (.tmp 5 0) [] 0)), (8, .c (.ptr (.tmp 8 0) [] 0)), (11, .c (.sc (.int .i64 x72))), (204, .c (.sc (.bool j128)))], [(.arg 0, ⟨.fz, 1, cs0⟩), (.arg 1, ⟨.fz, 1, cs1⟩), (.tmp 5 0, ⟨.box, 0, [.sc (.int .i64 t13.1), .sc (.int .i64 t13.2.1), .own 1 t13.2.2.1.length (encL c_i64 t13.2.2.1), .own 3 t13.2.2.2.1.length (encL c86 t13.2.2.2.1), .own 5 t13.2.2.2.2.1.length (encL c84 t13.2.2.2.2.1), .sc (.int .i64 t13.2.2.2.2.2.1), .sc (.int .u64 t13.2.2.2.2.2.2.1), .sc (.int .u64 t13.2.2.2.2.2.2.2.1), .sc (.int .u64 t13.2.2.2.2.2.2.2.2.1), .sc (.int .i64 t13.2.2.2.2.2.2.2.2.2.1), .sc (.int .i64 t13.2.2.2.2.2.2.2.2.2.2.1), .sc (.int .i64 t13.2.2.2.2.2.2.2.2.2.2.2)]⟩), (.tmp 8 0, ⟨.box, 0, [.sc (.int .i64 t26.1), .sc (.int .i64 t26.2.1), .sc (.int .u64 t26.2.2.1), .sc (.int .i64 t26.2.2.2.1), .own 1 t26.2.2.2.2.1.length (encL c_i64 t26.2.2.2.2.1), .sc (.int .i64 t26.2.2.2.2.2.1), .sc (.int .i64 t26.2.2.2.2.2.2.1)]⟩)], [], []⟩) (fun J130 hJ130 => ?_) ?_
             ·replace h := h129; clear hn
              refine ga_k fun G131 G131n G131r G131x => ?_
              refine reg_k ?_
              simp +decide only [reduceAdd, reduceMul, reduceToNat, ak]
              by_cases c132 : t125.2.2 ≠ 0
              ·rw [if_pos c132] at h
               have e133 : decide (t125.2.2 ≠ 0) = true := decide_eq_true c132
               simp +decide only [reduceAdd, reduceMul, reduceToNat, ak, e133]
               obtain rfl := Option.some.inj h
               refine G131n _ _ (wj [1, 5, 8, 11, 204] [pI (.arg 0) .fz, pI (.arg 1) .fz, pI (.tmp 5 0) .box, pI (.tmp 8 0) .box]) (hJ130 _ rfl)
              ·rw [if_neg c132] at h
               have e134 : decide (t125.2.2 ≠ 0) = false := decide_eq_false c132
               simp +decide only [reduceAdd, reduceMul, reduceToNat, ak, e134]
               by_cases c135 : t125.2.1 ≠ t26.2.2.2.2.2.1
               ·rw [if_pos c135] at h
                have e136 : decide (t125.2.1 ≠ t26.2.2.2.2.2.1) = true := decide_eq_true c135
                simp +decide only [reduceAdd, reduceMul, reduceToNat, ak, e136]
                obtain rfl := Option.some.inj h
                refine G131n _ _ (wj [1, 5, 8, 11, 204] [pI (.arg 0) .fz, pI (.arg 1) .fz, pI (.tmp 5 0) .box, pI (.tmp 8 0) .box]) (hJ130 _ rfl)
               ·rw [if_neg c135] at h
                have e137 : decide (t125.2.1 ≠ t26.2.2.2.2.2.1) = false := decide_eq_false c135
                simp +decide only [reduceAdd, reduceMul, reduceToNat, ak, e137]
                obtain ⟨t138, h139, h⟩ := of_bind h
                refine cm [(.arg 0, ⟨(.tmp 176 0), [], none, .fz⟩), (.arg 1, ⟨(.tmp 8 0), [4], none, .fz⟩)] (laws_lNums.tri (encL c_i64 t125.1) 0 t125.1 (Vw.whole c_i64_w t125.1) (encL c_i64 t26.2.2.2.2.1) 0 t26.2.2.2.2.1 (Vw.whole c_i64_w t26.2.2.2.2.1) _ h139) (fun hl139 => ?_)
                refine cs (mF (mD (mN ..))) ?_ (s4 := [(.arg 0, ⟨.fz, 1, cs0⟩), (.arg 1, ⟨.fz, 1, cs1⟩), (.tmp 5 0, ⟨.box, 0, [.sc (.int .i64 t13.1), .sc (.int .i64 t13.2.1), .own 1 t13.2.2.1.length (encL c_i64 t13.2.2.1), .own 3 t13.2.2.2.1.length (encL c86 t13.2.2.2.1), .own 5 t13.2.2.2.2.1.length (encL c84 t13.2.2.2.2.1), .sc (.int .i64 t13.2.2.2.2.2.1), .sc (.int .u64 t13.2.2.2.2.2.2.1), .sc (.int .u64 t13.2.2.2.2.2.2.2.1), .sc (.int .u64 t13.2.2.2.2.2.2.2.2.1), .sc (.int .i64 t13.2.2.2.2.2.2.2.2.2.1), .sc (.int .i64 t13.2.2.2.2.2.2.2.2.2.2.1), .sc (.int .i64 t13.2.2.2.2.2.2.2.2.2.2.2)]⟩), (.tmp 8 0, ⟨.box, 0, [.sc (.int .i64 t26.1), .sc (.int .i64 t26.2.1), .sc (.int .u64 t26.2.2.1), .sc (.int .i64 t26.2.2.2.1), .own 1 t26.2.2.2.2.1.length (encL c_i64 t26.2.2.2.2.1), .sc (.int .i64 t26.2.2.2.2.2.1), .sc (.int .i64 t26.2.2.2.2.2.2.1)]⟩), (.tmp 176 0, ⟨.lst, 1, encL c_i64 t125.1⟩)])
                simp +decide only [reduceAdd, reduceMul, reduceToNat, ak]
                by_cases c141 : (!t138) = true
                ·rw [if_pos c141] at h
                 have e142 : (!t138) = true := c141
                 simp +decide only [reduceAdd, reduceMul, reduceToNat, ak, e142]
                 obtain rfl := Option.some.inj h
                 refine G131n _ _ (wj [1, 5, 8, 11, 204] [pI (.arg 0) .fz, pI (.arg 1) .fz, pI (.tmp 5 0) .box, pI (.tmp 8 0) .box]) (hJ130 _ rfl)
                ·rw [if_neg c141] at h
                 have e143 : (!t138) = false := Bool.eq_false_iff.2 c141
                 simp +decide only [reduceAdd, reduceMul, reduceToNat, ak, e143]
                 by_cases c144 : t13.1 ≠ 3
                 ·rw [if_pos c144] at h
                  have e145 : decide (t13.1 ≠ 3) = true := decide_eq_true c144
                  simp +decide only [reduceAdd, reduceMul, reduceToNat, ak, e145]
                  obtain rfl := Option.some.inj h
                  refine G131n _ _ (wj [1, 5, 8, 11, 204] [pI (.arg 0) .fz, pI (.arg 1) .fz, pI (.tmp 5 0) .box, pI (.tmp 8 0) .box]) (hJ130 _ rfl)
                 ·rw [if_neg c144] at h
                  have e146 : decide (t13.1 ≠ 3) = false := decide_eq_false c144
                  simp +decide only [reduceAdd, reduceMul, reduceToNat, ak, e146]
                  obtain rfl := Option.some.inj h
                  refine G131n _ _ (wj [1, 5, 8, 11, 204] [pI (.arg 0) .fz, pI (.arg 1) .fz, pI (.tmp 5 0) .box, pI (.tmp 8 0) .box]) (hJ130 _ rfl)
             ·replace h := hn; clear hn h129
              rintro _ rfl
              refine cond_k (b := j128) rfl (fun c147 => ?_) (fun c147 => ?_)
              ·rw [if_pos c147] at h
               refine sr_k fun J148 hJ148 => ?_
               simp +decide only [reduceAdd, reduceMul, reduceToNat, ak]
               refine hJ148 _ ?_
               obtain ⟨r113, h114, e115⟩ := of_bind h
               obtain rfl := Option.some.inj e115
               dsimp only at hn116
               replace h := h114.trans hn116
               refine G120r _ ?_
               obtain rfl := Option.some.inj h
               refine hKr _ ⟨_, rfl, [], _, rfl, rfl, ?_⟩
               exact cl
              ·rw [if_neg (Bool.eq_false_iff.1 c147)] at h
               obtain rfl := Option.some.inj h
               refine G120n _ _ (wk [1, 5, 8, 11] [pI (.arg 0) .fz, pI (.arg 1) .fz, pI (.tmp 5 0) .box, pI (.tmp 8 0) .box]) (hJ119 _ ⟨_, rfl, rfl⟩)
            ·replace c123 := of_decide_eq_false c123; rw [if_neg c123] at h
             obtain rfl := Option.some.inj h
             refine G120n _ _ (wk [1, 5, 8, 11] [pI (.arg 0) .fz, pI (.arg 1) .fz, pI (.tmp 5 0) .box, pI (.tmp 8 0) .box]) (hJ119 _ ⟨_, rfl, rfl⟩)
           ·rintro _ ⟨x121, rfl, rfl⟩
            dsimp only at hn116
            replace h := hn116; clear hn116 h118
            refine seq_k fun J149 hJ149 => ?_
            refine sr_k fun J150 hJ150 => ?_
            simp +decide only [reduceAdd, reduceMul, reduceToNat, ak]
            refine hJ150 _ ?_
            refine block_k fun B151 B151n B151x B151r B151j => ?_
            obtain ⟨y193, h194, h⟩ := of_bind h
            refine gh_k (wk [1, 5, 8, 11, 16] [pI (.arg 0) .fz, pI (.arg 1) .fz, pI (.tmp 5 0) .box, pI (.tmp 8 0) .box]) ?_
            rw [e_loop]
            refine laws_FnPlan.l0_walk cs0 o0 l0 hv0 cs1 o1 l1 hv1 x72 t13.1 t13.2.1 t13.2.2.1 t13.2.2.2.1 t13.2.2.2.2.1 t13.2.2.2.2.2.1 t13.2.2.2.2.2.2.1 t13.2.2.2.2.2.2.2.1 t13.2.2.2.2.2.2.2.2.1 t13.2.2.2.2.2.2.2.2.2.1 t13.2.2.2.2.2.2.2.2.2.2.1 t13.2.2.2.2.2.2.2.2.2.2.2 t26.1 t26.2.1 t26.2.2.1 t26.2.2.2.1 t26.2.2.2.2.1 t26.2.2.2.2.2.1 t26.2.2.2.2.2.2.1 0 _ h194 _ ?_ ?_
            ·rintro x195 rfl
             dsimp only at h
             refine B151x _ ?_
             refine hJ149 _ ?_
             refine sr_k fun J196 hJ196 => ?_
             simp +decide only [reduceAdd, reduceMul, reduceToNat, ak, ne_lit]
             refine hJ196 _ ?_
             refine sr_k fun J197 hJ197 => ?_
             simp +decide only [reduceAdd, reduceMul, reduceToNat, ak, ne_lit]
             refine hJ197 _ ?_
             refine sr_k fun J198 hJ198 => ?_
             simp +decide only [reduceAdd, reduceMul, reduceToNat, ak]
             obtain ⟨t199, h200, h⟩ := of_bind h
             refine cm [(.arg 0, ⟨(.tmp 5 0), [4], none, .fz⟩)] (impl_AckMaps.tri (encL c84 t13.2.2.2.2.1) 0 t13.2.2.2.2.1 (Vw.whole c84_w t13.2.2.2.2.1) (IntKind.u64.wrap (t13.2.2.2.2.2.2.1 - (IntKind.u64.wrap (t13.2.2.2.2.2.2.1.tdiv 3)))) _ h200) (fun hl200 => ?_)
             refine ct (.tup [(false, [.ref (.tmp 279 0) [] 0 t199.1.length]), (false, [.sc (.int .i64 t199.2)])]) (mD (mN ..)) ?_ (s4 := [(.arg 0, ⟨.fz, 1, cs0⟩), (.arg 1, ⟨.fz, 1, cs1⟩), (.tmp 5 0, ⟨.box, 0, [.sc (.int .i64 t13.1), .sc (.int .i64 t13.2.1), .own 1 t13.2.2.1.length (encL c_i64 t13.2.2.1), .own 3 t13.2.2.2.1.length (encL c86 t13.2.2.2.1), .own 5 t13.2.2.2.2.1.length (encL c84 t13.2.2.2.2.1), .sc (.int .i64 t13.2.2.2.2.2.1), .sc (.int .u64 t13.2.2.2.2.2.2.1), .sc (.int .u64 t13.2.2.2.2.2.2.2.1), .sc (.int .u64 t13.2.2.2.2.2.2.2.2.1), .sc (.int .i64 t13.2.2.2.2.2.2.2.2.2.1), .sc (.int .i64 t13.2.2.2.2.2.2.2.2.2.2.1), .sc (.int .i64 t13.2.2.2.2.2.2.2.2.2.2.2)]⟩), (.tmp 279 0, ⟨.lst, 5, encL c84 t199.1⟩)])
             simp +decide only [reduceAdd, reduceMul, reduceToNat, ak]
             refine hJ198 _ ?_
             refine sr_k fun J202 hJ202 => ?_
             simp +decide only [reduceAdd, reduceMul, reduceToNat, ak]
             obtain ⟨t203, h204, h⟩ := of_bind h
             refine cm [(.arg 0, ⟨(.tmp 5 0), [4], none, .fz⟩)] (impl_QueueMaps.tri (encL c84 t13.2.2.2.2.1) 0 t13.2.2.2.2.1 (Vw.whole c84_w t13.2.2.2.2.1) ((l1.length : Int).tmod 256) _ h204) (fun hl204 => ?_)
             refine ct (.tup [(false, [.ref (.tmp 286 0) [] 0 t203.1.length]), (false, [.sc (.int .i64 t203.2)])]) (mD (mN ..)) ?_ (s4 := [(.arg 0, ⟨.fz, 1, cs0⟩), (.arg 1, ⟨.fz, 1, cs1⟩), (.tmp 5 0, ⟨.box, 0, [.sc (.int .i64 t13.1), .sc (.int .i64 t13.2.1), .own 1 t13.2.2.1.length (encL c_i64 t13.2.2.1), .own 3 t13.2.2.2.1.length (encL c86 t13.2.2.2.1), .own 5 t13.2.2.2.2.1.length (encL c84 t13.2.2.2.2.1), .sc (.int .i64 t13.2.2.2.2.2.1), .sc (.int .u64 t13.2.2.2.2.2.2.1), .sc (.int .u64 t13.2.2.2.2.2.2.2.1), .sc (.int .u64 t13.2.2.2.2.2.2.2.2.1), .sc (.int .i64 t13.2.2.2.2.2.2.2.2.2.1), .sc (.int .i64 t13.2.2.2.2.2.2.2.2.2.2.1), .sc (.int .i64 t13.2.2.2.2.2.2.2.2.2.2.2)]⟩), (.tmp 279 0, ⟨.lst, 5, encL c84 t199.1⟩), (.tmp 286 0, ⟨.lst, 5, encL c84 t203.1⟩)])
             simp +decide only [reduceAdd, reduceMul, reduceToNat, ak]
             refine hJ202 _ ?_
             refine seq_k fun J206 hJ206 => ?_
             obtain ⟨j207, h208, hn⟩ := of_bind h
             refine seq_j (fun st => st = ⟨[(5, .c (.ptr (.tmp 5 0) [] 0)), (18, .c (.sc (.int .i64 ((l1.length : Int).tmod 256)))), (19, .c (.sc (.int .u64 (IntKind.u64.wrap (t13.2.2.2.2.2.2.1 - (IntKind.u64.wrap (t13.2.2.2.2.2.2.1.tdiv 3))))))), (20, .c (.ref (.tmp 279 0) [] 0 t199.1.length)), (22, .c (.ref (.tmp 286 0) [] 0 t203.1.length)), (302, .c (.sc (.bool j207)))], [(.arg 0, ⟨.fz, 1, cs0⟩), (.arg 1, ⟨.fz, 1, cs1⟩), (.tmp 5 0, ⟨.box, 0, [.sc (.int .i64 t13.1), .sc (.int .i64 t13.2.1), .own 1 t13.2.2.1.length (encL c_i64 t13.2.2.1), .own 3 t13.2.2.2.1.length (encL c86 t13.2.2.2.1), .own 5 t13.2.2.2.2.1.length (encL c84 t13.2.2.2.2.1), .sc (.int .i64 t13.2.2.2.2.2.1), .sc (.int .u64 t13.2.2.2.2.2.2.1), .sc (.int .u64 t13.2.2.2.2.2.2.2.1), .sc (.int .u64 t13.2.2.2.2.2.2.2.2.1), .sc (.int .i64 t13.2.2.2.2.2.2.2.2.2.1), .sc (.int .i64 t13.2.2.2.2.2.2.2.2.2.2.1), .sc (.int .i64 t13.2.2.2.2.2.2.2.2.2.2.2)]⟩), (.tmp 279 0, ⟨.lst, 5, encL c84 t199.1⟩), (.tmp 286 0, ⟨.lst, 5, encL c84 t203.1⟩)], [], []⟩) (fun J209 hJ209 => ?_) ?_
             ·replace h := h208; clear hn
              refine ga_k fun G210 G210n G210r G210x => ?_
              refine reg_k ?_
              simp +decide only [reduceAdd, reduceMul, reduceToNat, ak]
              by_cases c211 : t199.2 ≠ 0
              ·rw [if_pos c211] at h
               have e212 : decide (t199.2 ≠ 0) = true := decide_eq_true c211
               simp +decide only [reduceAdd, reduceMul, reduceToNat, ak, e212]
               obtain rfl := Option.some.inj h
               refine G210n _ _ (wj [5, 18, 19, 20, 22, 302] [pI (.arg 0) .fz, pI (.arg 1) .fz, pI (.tmp 5 0) .box, pI (.tmp 279 0) .lst, pI (.tmp 286 0) .lst]) (hJ209 _ rfl)
              ·rw [if_neg c211] at h
               have e213 : decide (t199.2 ≠ 0) = false := decide_eq_false c211
               simp +decide only [reduceAdd, reduceMul, reduceToNat, ak, e213]
               by_cases c214 : t203.2 ≠ 0
               ·rw [if_pos c214] at h
                have e215 : decide (t203.2 ≠ 0) = true := decide_eq_true c214
                simp +decide only [reduceAdd, reduceMul, reduceToNat, ak, e215]
                obtain rfl := Option.some.inj h
                refine G210n _ _ (wj [5, 18, 19, 20, 22, 302] [pI (.arg 0) .fz, pI (.arg 1) .fz, pI (.tmp 5 0) .box, pI (.tmp 279 0) .lst, pI (.tmp 286 0) .lst]) (hJ209 _ rfl)
               ·rw [if_neg c214] at h
                have e216 : decide (t203.2 ≠ 0) = false := decide_eq_false c214
                simp +decide only [reduceAdd, reduceMul, reduceToNat, ak, e216]
                obtain rfl := Option.some.inj h
                refine G210n _ _ (wj [5, 18, 19, 20, 22, 302] [pI (.arg 0) .fz, pI (.arg 1) .fz, pI (.tmp 5 0) .box, pI (.tmp 279 0) .lst, pI (.tmp 286 0) .lst]) (hJ209 _ rfl)
             ·replace h := hn; clear hn h208
              rintro _ rfl
              refine cond_k (b := j207) rfl (fun c217 => ?_) (fun c217 => ?_)
              ·rw [if_pos c217] at h
               refine sr_k fun J218 hJ218 => ?_
               simp +decide only [reduceAdd, reduceMul, reduceToNat, ak]
               refine hJ218 _ ?_
               obtain rfl := Option.some.inj h
               refine hKr _ ⟨_, rfl, [], _, rfl, rfl, ?_⟩
               exact cl
              ·rw [if_neg (Bool.eq_false_iff.1 c217)] at h
               refine hJ206 _ ?_
               refine sr_k fun J219 hJ219 => ?_
               simp +decide only [reduceAdd, reduceMul, reduceToNat, ak]
               refine hJ219 _ ?_
               refine seq_k fun J220 hJ220 => ?_
               refine sr_k fun J221 hJ221 => ?_
               simp +decide only [reduceAdd, reduceMul, reduceToNat, ak]
               refine hJ221 _ ?_
               refine block_k fun B222 B222n B222x B222r B222j => ?_
               obtain ⟨y268, h269, h⟩ := of_bind h
               refine gh_k (wk [5, 18, 19, 20, 22, 24, 25] [pI (.arg 0) .fz, pI (.arg 1) .fz, pI (.tmp 5 0) .box, pI (.tmp 279 0) .lst, pI (.tmp 286 0) .lst]) ?_
               rw [e_loop]
               refine laws_FnPlan.l1_walk cs0 o0 l0 hv0 cs1 o1 l1 hv1 ((l1.length : Int).tmod 256) (IntKind.u64.wrap (t13.2.2.2.2.2.2.1 - (IntKind.u64.wrap (t13.2.2.2.2.2.2.1.tdiv 3)))) t13.1 t13.2.1 t13.2.2.1 t13.2.2.2.1 t13.2.2.2.2.1 t13.2.2.2.2.2.1 t13.2.2.2.2.2.2.1 t13.2.2.2.2.2.2.2.1 t13.2.2.2.2.2.2.2.2.1 t13.2.2.2.2.2.2.2.2.2.1 t13.2.2.2.2.2.2.2.2.2.2.1 t13.2.2.2.2.2.2.2.2.2.2.2 t199.1 t203.1 0 0 _ h269 _ ?_ ?_
               ·rintro x270 rfl
                dsimp only at h
                refine B222x _ ?_
                refine hJ220 _ ?_
                refine sr_k fun J271 hJ271 => ?_
                simp +decide only [reduceAdd, reduceMul, reduceToNat, ak]
                refine hJ271 _ ?_
                obtain rfl := Option.some.inj h
                refine hKr _ ⟨_, rfl, [], _, rfl, rfl, ?_⟩
                exact cl
               ·rintro x270 rfl
                dsimp only at h
                refine B222r _ ?_
                obtain rfl := Option.some.inj h
                refine hKr _ ⟨_, rfl, [], _, rfl, rfl, ?_⟩
                exact cl
            ·rintro x195 rfl
             dsimp only at h
             refine B151r _ ?_
             obtain rfl := Option.some.inj h
             refine hKr _ ⟨_, rfl, [], _, rfl, rfl, ?_⟩
             exact cl
end Go.AK
