-- by a program of this session (wip/ak/pw.py)
import Derived.Test.YtlladicdmmdboaaUFnSubRecv1
set_option synthInstance.maxSize 20000
set_option synthInstance.maxHeartbeats 400000
set_option maxRecDepth 100000
set_option maxHeartbeats 4000000
set_option linter.unusedVariables false
set_option linter.unusedSimpArgs false
namespace Go.AK
open Go Go.Proofs
/-! ### laws.FnSubRecv: function 7 -/
def C7_l1 : AC := .seq (.sr [.m 109 17, .m 110 9, .m 111 16, .ia 112 5 110 111, .fa 113 2 112, .ld 114 1 113, .ln 115 114, .o (.bin 116 .lss (.t 109) (.t 115)), .keep [1, 5, 6, 7, 9, 11, 12, 13, 14, 15, 16, 17, 116]] (.cond (.t 116) (.skip) (.gh (.exit 2)))) (.seq (.block 3 (.reg [.m 119 12, .m 120 9, .m 121 16, .ia 122 5 120 121, .fa 123 2 122, .ld 124 1 123, .m 125 17, .ia 126 1 124 125, .ld 127 1 126, .o (.bslice 128 1 [.int .i64 0] 1 [(0, .tmp 127)]), .o (.app 129 1 8 true (.t 119) (.t 128)), .m 12 129, .keep [1, 5, 6, 7, 9, 11, 12, 13, 14, 15, 16, 17]])) (.reg [.m 117 17, .o (.bin 118 .add (.t 117) (.k 1)), .m 17 118, .keep [1, 5, 6, 7, 9, 11, 12, 13, 14, 15, 16, 17]]))
def C7_l3 : AC := .seq (.seq (.ga (.reg [.m 161 20, .m 162 15, .o (.bin 163 .rem (.t 162) (.k 2)), .o (.bin 164 .add (.k 1) (.t 163)), .o (.bin 165 .lss (.t 161) (.t 164)), .m 166 165, .op (some (166, true)) (.mv 167 (.t 1)), .op (some (166, true)) (.len 168 (.t 167)), .op (some (166, true)) (.bin 169 .gtr (.t 168) (.k 0)), .o (.pick 170 (.t 166) (.t 169) (.const (.bool false))), .m 171 170, .op (some (171, true)) (.mv 172 (.t 1)), .op (some (171, true)) (.mv 173 (.t 15)), .op (some (171, true)) (.mv 174 (.t 1)), .op (some (171, true)) (.len 175 (.t 174)), .op (some (171, true)) (.bin 176 .rem (.t 173) (.t 175)), .op (some (171, true)) (.iaddr 177 1 (.t 172) (.t 176)), .op (some (171, true)) (.load 178 false 1 (.t 177)), .op (some (171, true)) (.bin 179 .rem (.t 178) (.const (.int .u8 3))), .op (some (171, true)) (.bin 180 .gtr (.t 179) (.const (.int .u8 0))), .o (.pick 181 (.t 171) (.t 180) (.const (.bool false))), .keep [1, 5, 6, 7, 9, 11, 12, 13, 14, 15, 16, 18, 19, 20, 181]])) (.cond (.t 181) (.skip) (.gh (.exit 6)))) (.seq (.block 7 (.sr [.m 184 13, .fa 185 1 19, .ld 186 1 185, .o (.bslice 187 1 [.int .u32 0] 1 [(0, .tmp 186)]), .o (.app 188 1 4 true (.t 184) (.t 187)), .m 13 188, .keep [1, 5, 6, 7, 9, 11, 12, 13, 14, 15, 16, 18, 19, 20]] (.reg [.m 189 14, .fa 190 2 19, .ld 191 1 190, .o (.bslice 192 1 [.int .i64 0] 1 [(0, .tmp 191)]), .o (.app 193 1 8 true (.t 189) (.t 192)), .m 14 193, .keep [1, 5, 6, 7, 9, 11, 12, 13, 14, 15, 16, 18, 19, 20]]))) (.reg [.m 182 20, .o (.bin 183 .add (.t 182) (.k 1)), .m 20 183, .keep [1, 5, 6, 7, 9, 11, 12, 13, 14, 15, 16, 18, 19, 20]]))
def C7_l2 : AC := .seq (.sr [.m 130 18, .m 131 9, .m 132 16, .ia 133 5 131 132, .fa 134 1 133, .ld 135 1 134, .ln 136 135, .o (.bin 137 .lss (.t 130) (.t 136)), .keep [1, 5, 6, 7, 9, 11, 12, 13, 14, 15, 16, 18, 137]] (.cond (.t 137) (.skip) (.gh (.exit 4)))) (.seq (.ga (.block 5 (.sr [.m 140 9, .m 141 16, .ia 142 5 140 141, .fa 143 1 142, .ld 144 1 143, .m 145 18, .ia 146 3 144 145, .o (.load 147 true 3 (.t 146)), .o (.alloc 19 [.int .i64 0, .int .u32 0, .int .i64 0]), .st 3 19 147, .keep [1, 5, 6, 7, 9, 11, 12, 13, 14, 15, 16, 18, 19]] (.seq (.sr [.fa 148 0 19, .ld 149 1 148, .o (.bin 150 .eql (.t 149) (.k 3)), .keep [1, 5, 6, 7, 9, 11, 12, 13, 14, 15, 16, 18, 19, 150]] (.cond (.t 150) (.exit 5) (.skip))) (.seq (.ga (.sr [.fa 151 0 19, .ld 152 1 151, .o (.bin 153 .eql (.t 152) (.k 1)), .keep [1, 5, 6, 7, 9, 11, 12, 13, 14, 15, 16, 18, 19, 153]] (.cond (.t 153) (.reg [.m 154 11, .fa 155 2 19, .ld 156 1 155, .o (.bslice 157 1 [.int .i64 0] 1 [(0, .tmp 156)]), .o (.app 158 1 8 true (.t 154) (.t 157)), .m 11 158, .keep [1, 5, 6, 7, 9, 11, 12, 13, 14, 15, 16, 18, 19]]) (.skip)))) (.sr [.m 159 15, .o (.bin 160 .add (.t 159) (.k 1)), .m 15 160, .keep [1, 5, 6, 7, 9, 11, 12, 13, 14, 15, 16, 18, 19]] (.sr [.o (.mv 20 (.k 0)), .keep [1, 5, 6, 7, 9, 11, 12, 13, 14, 15, 16, 18, 19, 20]] (.block 6 (.gh (.loop (.ga C7_l3))))))))))) (.reg [.m 138 18, .o (.bin 139 .add (.t 138) (.k 1)), .m 18 139, .keep [1, 5, 6, 7, 9, 11, 12, 13, 14, 15, 16, 18]]))
def C7_l0 : AC := .seq (.sr [.m 77 16, .m 78 9, .ln 79 78, .o (.bin 80 .lss (.t 77) (.t 79)), .keep [1, 5, 6, 7, 9, 11, 12, 13, 14, 15, 16, 80]] (.cond (.t 80) (.skip) (.gh (.exit 0)))) (.seq (.block 1 (.seq (.seq (.ga (.regD (.f (.m 83 9) (.f (.m 84 16) (.f (.ia 85 5 83 84) (.f (.fa 86 1 85) (.f (.ld 87 1 86) (.f (.ln 88 87) (.f (.m 89 7) (.f (.m 90 16) (.f (.ia 91 5 89 90) (.f (.fa 92 1 91) (.f (.ld 93 1 92) (.f (.ln 94 93) (.f (.o (.bin 95 .neq (.t 88) (.t 94))) (.f (.m 96 95) (.f (.op (some (96, false)) (.mv 97 (.t 9))) (.f (.op (some (96, false)) (.mv 98 (.t 16))) (.f (.op (some (96, false)) (.iaddr 99 5 (.t 97) (.t 98))) (.f (.op (some (96, false)) (.faddr 100 0 (.t 99))) (.f (.op (some (96, false)) (.load 101 false 1 (.t 100))) (.f (.op (some (96, false)) (.mv 102 (.t 7))) (.f (.op (some (96, false)) (.mv 103 (.t 16))) (.f (.op (some (96, false)) (.iaddr 104 5 (.t 102) (.t 103))) (.f (.op (some (96, false)) (.faddr 105 0 (.t 104))) (.f (.op (some (96, false)) (.load 106 false 1 (.t 105))) (.f (.op (some (96, false)) (.bin 107 .neq (.t 101) (.t 106))) (.f (.o (.pick 108 (.t 96) (.const (.bool true)) (.t 107))) (.done))))))))))))))))))))))))))) [1, 5, 6, 7, 9, 11, 12, 13, 14, 15, 16, 108])) (.cond (.t 108) (.sr [.o (.mv 4 (.const (.bool false))), .keep [4]] (.gh .ret)) (.skip))) (.seq (.sr [.o (.mv 17 (.k 0)), .keep [1, 5, 6, 7, 9, 11, 12, 13, 14, 15, 16, 17]] (.block 2 (.gh (.loop (.ga C7_l1))))) (.sr [.o (.mv 18 (.k 0)), .keep [1, 5, 6, 7, 9, 11, 12, 13, 14, 15, 16, 18]] (.block 4 (.gh (.loop (.ga C7_l2)))))))) (.reg [.m 81 16, .o (.bin 82 .add (.t 81) (.k 1)), .m 16 82, .keep [1, 5, 6, 7, 9, 11, 12, 13, 14, 15, 16]]))
def C7_l4 : AC := .seq (.sr [.m 215 24, .m 216 21, .ln 217 216, .o (.bin 218 .lss (.t 215) (.t 217)), .keep [5, 6, 11, 12, 14, 21, 23, 24, 218]] (.cond (.t 218) (.skip) (.gh (.exit 8)))) (.seq (.block 9 (.seq (.sr [.m 221 21, .m 222 24, .ia 223 2 221 222, .fa 224 0 223, .ld 225 1 224, .o (.bin 226 .eql (.t 225) (.k 1)), .keep [5, 6, 11, 12, 14, 21, 23, 24, 226]] (.cond (.t 226) (.seq (.seq (.ga (.regD (.f (.m 227 23) (.f (.m 228 11) (.f (.ln 229 228) (.f (.o (.bin 230 .geq (.t 227) (.t 229))) (.f (.m 231 230) (.f (.op (some (231, false)) (.mv 232 (.t 14))) (.f (.op (some (231, false)) (.mv 233 (.t 24))) (.f (.op (some (231, false)) (.iaddr 234 1 (.t 232) (.t 233))) (.f (.op (some (231, false)) (.load 235 false 1 (.t 234))) (.f (.op (some (231, false)) (.mv 236 (.t 11))) (.f (.op (some (231, false)) (.mv 237 (.t 23))) (.f (.op (some (231, false)) (.iaddr 238 1 (.t 236) (.t 237))) (.f (.op (some (231, false)) (.load 239 false 1 (.t 238))) (.f (.op (some (231, false)) (.bin 240 .neq (.t 235) (.t 239))) (.f (.o (.pick 241 (.t 231) (.const (.bool true)) (.t 240))) (.done)))))))))))))))) [5, 6, 11, 12, 14, 21, 23, 24, 241])) (.cond (.t 241) (.sr [.o (.mv 4 (.const (.bool false))), .keep [4]] (.gh .ret)) (.skip))) (.reg [.m 242 23, .o (.bin 243 .add (.t 242) (.k 1)), .m 23 243, .keep [5, 6, 11, 12, 14, 21, 23, 24]])) (.skip))) (.seq (.regD (.f (.m 244 21) (.f (.m 245 24) (.f (.ia 246 2 244 245) (.f (.fa 247 1 246) (.f (.ld 248 1 247) (.f (.fa 249 0 5) (.f (.ld 250 1 249) (.f (.m 251 23) (.f (.o (.conv 252 .u32 (.t 251))) (.f (.o (.bin 253 .add (.t 250) (.t 252))) (.f (.o (.bin 254 .neq (.t 248) (.t 253))) (.done)))))))))))) [5, 6, 11, 12, 14, 21, 23, 24, 254]) (.cond (.t 254) (.sr [.o (.mv 4 (.const (.bool false))), .keep [4]] (.gh .ret)) (.skip))))) (.reg [.m 219 24, .o (.bin 220 .add (.t 219) (.k 1)), .m 24 220, .keep [5, 6, 11, 12, 14, 21, 23, 24]]))
def C7_l5 : AC := .seq (.sr [.m 255 25, .m 256 12, .ln 257 256, .o (.bin 258 .lss (.t 255) (.t 257)), .keep [5, 6, 11, 12, 23, 25, 258]] (.cond (.t 258) (.skip) (.gh (.exit 10)))) (.seq (.block 11 (.seq (.ga (.regD (.f (.m 261 25) (.f (.m 262 11) (.f (.ln 263 262) (.f (.o (.bin 264 .geq (.t 261) (.t 263))) (.f (.m 265 264) (.f (.op (some (265, false)) (.mv 266 (.t 12))) (.f (.op (some (265, false)) (.mv 267 (.t 25))) (.f (.op (some (265, false)) (.iaddr 268 1 (.t 266) (.t 267))) (.f (.op (some (265, false)) (.load 269 false 1 (.t 268))) (.f (.op (some (265, false)) (.mv 270 (.t 11))) (.f (.op (some (265, false)) (.mv 271 (.t 25))) (.f (.op (some (265, false)) (.iaddr 272 1 (.t 270) (.t 271))) (.f (.op (some (265, false)) (.load 273 false 1 (.t 272))) (.f (.op (some (265, false)) (.bin 274 .neq (.t 269) (.t 273))) (.f (.o (.pick 275 (.t 265) (.const (.bool true)) (.t 274))) (.done)))))))))))))))) [5, 6, 11, 12, 23, 25, 275])) (.cond (.t 275) (.sr [.o (.mv 4 (.const (.bool false))), .keep [4]] (.gh .ret)) (.skip)))) (.reg [.m 259 25, .o (.bin 260 .add (.t 259) (.k 1)), .m 25 260, .keep [5, 6, 11, 12, 23, 25]]))
def C7 : AC := .sr [.o (.mv 4 (.const (.bool false))), .keep [0, 1]] (.seq (.seq (.ga (.reg [.m 31 0, .ln 32 31, .o (.bin 33 .gtr (.t 32) (.k 1048576)), .m 34 33, .op (some (34, false)) (.mv 35 (.t 1)), .op (some (34, false)) (.len 36 (.t 35)), .op (some (34, false)) (.bin 37 .gtr (.t 36) (.k 1048576)), .o (.pick 38 (.t 34) (.const (.bool true)) (.t 37)), .keep [0, 1, 38]])) (.cond (.t 38) (.sr [.o (.mv 4 (.const (.bool true))), .keep [4]] (.ret)) (.skip))) (.sr [.m 40 0, .call none (some 41) 29 [.tmp 40], .m 39 41, .o (.extr 42 (.t 39) 0), .o (.extr 43 (.t 39) 1), .o (.alloc 5 [.int .u32 0, .int .i64 0, .int .i64 0, .int .i64 0, .int .i64 0, .int .i64 0]), .st 6 5 42, .m 6 43, .keep [1, 5, 6]] (.seq (.ga (.sr [.m 44 6, .ln 45 44, .o (.bin 46 .gtr (.t 45) (.k 500)), .keep [1, 5, 6, 46]] (.cond (.t 46) (.reg [.m 47 6, .o (.slice 48 3 (.t 47) none (some (.k 500))), .gh, .m 6 48, .keep [1, 5, 6]]) (.skip)))) (.sr [.o (.load 50 true 6 (.t 5)), .m 51 6, .call none (some 52) 30 [.tmp 50, .tmp 51], .m 49 52, .o (.extr 53 (.t 49) 0), .o (.extr 54 (.t 49) 1), .m 7 53, .m 8 54, .keep [1, 5, 6, 7, 8]] (.sr [.o (.load 56 true 6 (.t 5)), .m 57 6, .call none (some 58) 31 [.tmp 56, .tmp 57], .m 55 58, .o (.extr 59 (.t 55) 0), .o (.extr 60 (.t 55) 1), .m 9 59, .m 10 60, .keep [1, 5, 6, 7, 8, 9, 10]] (.seq (.seq (.ga (.reg [.m 61 10, .m 62 8, .o (.bin 63 .neq (.t 61) (.t 62)), .m 64 63, .op (some (64, false)) (.mv 65 (.t 9)), .op (some (64, false)) (.len 66 (.t 65)), .op (some (64, false)) (.mv 67 (.t 7)), .op (some (64, false)) (.len 68 (.t 67)), .op (some (64, false)) (.bin 69 .neq (.t 66) (.t 68)), .o (.pick 70 (.t 64) (.const (.bool true)) (.t 69)), .keep [1, 5, 6, 7, 8, 9, 70]])) (.cond (.t 70) (.sr [.o (.mv 4 (.const (.bool false))), .keep [4]] (.ret)) (.skip))) (.seq (.sr [.m 71 8, .o (.bin 72 .neq (.t 71) (.k 0)), .keep [1, 5, 6, 7, 9, 72]] (.cond (.t 72) (.sr [.o (.mv 4 (.const (.bool true))), .keep [4]] (.ret)) (.skip))) (.sr [.o (.bslice 73 1 [.int .i64 0] 0 []), .m 11 73, .keep [1, 5, 6, 7, 9, 11]] (.sr [.o (.bslice 74 1 [.int .i64 0] 0 []), .m 12 74, .keep [1, 5, 6, 7, 9, 11, 12]] (.sr [.o (.bslice 75 1 [.int .u32 0] 0 []), .m 13 75, .keep [1, 5, 6, 7, 9, 11, 12, 13]] (.sr [.o (.bslice 76 1 [.int .i64 0] 0 []), .m 14 76, .keep [1, 5, 6, 7, 9, 11, 12, 13, 14]] (.sr [.o (.mv 15 (.k 0)), .keep [1, 5, 6, 7, 9, 11, 12, 13, 14, 15]] (.seq (.sr [.o (.mv 16 (.k 0)), .keep [1, 5, 6, 7, 9, 11, 12, 13, 14, 15, 16]] (.block 0 (.gh (.loop (.ga C7_l0))))) (.sr [.fa 195 0 5, .ld 196 1 195, .m 197 13, .call none (some 198) 32 [.tmp 196, .tmp 197], .m 194 198, .o (.extr 199 (.t 194) 0), .o (.extr 200 (.t 194) 1), .m 21 199, .m 22 200, .keep [5, 6, 11, 12, 13, 14, 21, 22]] (.seq (.sr [.m 201 13, .ln 202 201, .o (.bin 203 .gtr (.t 202) (.k 4000)), .keep [5, 6, 11, 12, 13, 14, 21, 22, 203]] (.cond (.t 203) (.sr [.m 204 22, .o (.bin 205 .eql (.t 204) (.k 5)), .m 4 205, .keep [4]] (.ret)) (.skip))) (.seq (.seq (.ga (.reg [.m 206 22, .o (.bin 207 .neq (.t 206) (.k 0)), .m 208 207, .op (some (208, false)) (.mv 209 (.t 21)), .op (some (208, false)) (.len 210 (.t 209)), .op (some (208, false)) (.mv 211 (.t 13)), .op (some (208, false)) (.len 212 (.t 211)), .op (some (208, false)) (.bin 213 .neq (.t 210) (.t 212)), .o (.pick 214 (.t 208) (.const (.bool true)) (.t 213)), .keep [5, 6, 11, 12, 14, 21, 214]])) (.cond (.t 214) (.sr [.o (.mv 4 (.const (.bool false))), .keep [4]] (.ret)) (.skip))) (.sr [.o (.mv 23 (.k 0)), .keep [5, 6, 11, 12, 14, 21, 23]] (.seq (.sr [.o (.mv 24 (.k 0)), .keep [5, 6, 11, 12, 14, 21, 23, 24]] (.block 8 (.gh (.loop (.ga C7_l4))))) (.seq (.sr [.o (.mv 25 (.k 0)), .keep [5, 6, 11, 12, 23, 25]] (.block 10 (.gh (.loop (.ga C7_l5))))) (.seq (.ga (.regD (.f (.m 278 6) (.f (.fa 279 0 5) (.f (.ld 280 1 279) (.f (.m 281 23) (.f (.o (.conv 282 .u32 (.t 281))) (.f (.o (.bin 283 .add (.t 280) (.t 282))) (.f (.o (.build 284 [.int .i64 0, .int .i64 0, .int .u32 0] [(0, 1, .const (.int .i64 2)), (2, 1, .tmp 283)])) (.pin [15, 14, 13, 12, 11, 10] (.o (.load 277 true 6 (.t 5))) (.alt (.o (.bslice 285 3 [.int .i64 0, .int .i64 0, .int .u32 0] 1 [(0, .tmp 284)])) none (.alt (.appv 286 3 24 (.t 278) (.t 285)) none (.alt (.call none (some 287) 31 [.tmp 277, .tmp 286]) (some 10) (.gh (.f (.m 276 287) (.f (.o (.extr 288 (.t 276) 0)) (.f (.o (.extr 289 (.t 276) 1)) (.f (.m 26 288) (.f (.m 27 289) (.done))))))) (.stop)) (.stop)) (.stop)))))))))) [5, 6, 11, 12, 23, 26, 27])) (.seq (.ga (.regD (.f (.m 292 6) (.f (.fa 293 0 5) (.f (.ld 294 1 293) (.f (.m 295 23) (.f (.o (.conv 296 .u32 (.t 295))) (.f (.o (.bin 297 .add (.t 294) (.t 296))) (.f (.o (.build 298 [.int .i64 0, .int .i64 0, .int .u32 0] [(0, 1, .const (.int .i64 2)), (2, 1, .tmp 297)])) (.pin [16, 15, 13, 12, 11, 10] (.o (.load 291 true 6 (.t 5))) (.alt (.o (.bslice 299 3 [.int .i64 0, .int .i64 0, .int .u32 0] 1 [(0, .tmp 298)])) none (.alt (.appv 300 3 24 (.t 292) (.t 299)) none (.alt (.call none (some 301) 33 [.tmp 291, .tmp 300]) (some 10) (.gh (.f (.m 290 301) (.f (.o (.extr 302 (.t 290) 0)) (.f (.o (.extr 303 (.t 290) 1)) (.alt (.o (.alloc 28 [.int .u32 0, .int .u32 0, .slice none 0 0, .int .i64 0, .int .i64 0, .int .i64 0, .int .i64 0, .int .i64 0])) none (.gh (.alt (.st 8 28 302) none (.f (.m 29 303) (.done)) (.stop))) (.stop)))))) (.alt (.o (.alloc 28 [.int .u32 0, .int .u32 0, .slice none 0 0, .int .i64 0, .int .i64 0, .int .i64 0, .int .i64 0, .int .i64 0])) none (.gh (.alt (.call none (some 301) 33 [.tmp 291, .tmp 300]) (some 10) (.gh (.f (.m 290 301) (.f (.o (.extr 302 (.t 290) 0)) (.f (.o (.extr 303 (.t 290) 1)) (.alt (.st 8 28 302) none (.f (.m 29 303) (.done)) (.stop)))))) (.stop))) (.stop))) (.alt (.o (.alloc 28 [.int .u32 0, .int .u32 0, .slice none 0 0, .int .i64 0, .int .i64 0, .int .i64 0, .int .i64 0, .int .i64 0])) none (.gh (.alt (.appv 300 3 24 (.t 292) (.t 299)) none (.alt (.call none (some 301) 33 [.tmp 291, .tmp 300]) (some 10) (.gh (.f (.m 290 301) (.f (.o (.extr 302 (.t 290) 0)) (.f (.o (.extr 303 (.t 290) 1)) (.alt (.st 8 28 302) none (.f (.m 29 303) (.done)) (.stop)))))) (.stop)) (.stop))) (.stop))) (.alt (.o (.alloc 28 [.int .u32 0, .int .u32 0, .slice none 0 0, .int .i64 0, .int .i64 0, .int .i64 0, .int .i64 0, .int .i64 0])) none (.gh (.alt (.o (.bslice 299 3 [.int .i64 0, .int .i64 0, .int .u32 0] 1 [(0, .tmp 298)])) none (.alt (.appv 300 3 24 (.t 292) (.t 299)) none (.alt (.call none (some 301) 33 [.tmp 291, .tmp 300]) (some 10) (.gh (.f (.m 290 301) (.f (.o (.extr 302 (.t 290) 0)) (.f (.o (.extr 303 (.t 290) 1)) (.alt (.st 8 28 302) none (.f (.m 29 303) (.done)) (.stop)))))) (.stop)) (.stop)) (.stop))) (.stop))))))))))) [6, 11, 12, 23, 26, 27, 28, 29])) (.seq (.seq (.ga (.reg [.m 304 27, .o (.bin 305 .neq (.t 304) (.k 0)), .m 306 305, .op (some (306, false)) (.mv 307 (.t 29)), .op (some (306, false)) (.bin 308 .neq (.t 307) (.k 0)), .o (.pick 309 (.t 306) (.const (.bool true)) (.t 308)), .m 310 309, .op (some (310, false)) (.mv 311 (.t 26)), .op (some (310, false)) (.len 312 (.t 311)), .op (some (310, false)) (.mv 313 (.t 6)), .op (some (310, false)) (.len 314 (.t 313)), .op (some (310, false)) (.bin 315 .add (.t 314) (.k 1)), .op (some (310, false)) (.bin 316 .neq (.t 312) (.t 315)), .o (.pick 317 (.t 310) (.const (.bool true)) (.t 316)), .keep [6, 11, 12, 23, 26, 28, 317]])) (.cond (.t 317) (.sr [.o (.mv 4 (.const (.bool false))), .keep [4]] (.ret)) (.skip))) (.sr [.m 318 26, .m 319 6, .ln 320 319, .ia 321 5 318 320, .o (.load 322 true 5 (.t 321)), .o (.alloc 30 [.int .i64 0, .slice none 0 0, .slice none 0 0, .int .i64 0, .int .i64 0]), .gh, .st 5 30 322, .keep [11, 12, 23, 28, 30]] (.seq (.sr [.m 323 23, .m 324 12, .ln 325 324, .o (.bin 326 .lss (.t 323) (.t 325)), .keep [11, 12, 23, 28, 30, 326]] (.cond (.t 326) (.sr [.fa 327 0 30, .ld 328 1 327, .o (.bin 329 .eql (.t 328) (.k 11)), .m 330 329, .op (some (330, true)) (.faddr 331 2 (.t 28)), .op (some (330, true)) (.load 332 false 1 (.t 331)), .op (some (330, true)) (.len 333 (.t 332)), .op (some (330, true)) (.mv 334 (.t 11)), .op (some (330, true)) (.len 335 (.t 334)), .op (some (330, true)) (.mv 336 (.t 12)), .op (some (330, true)) (.len 337 (.t 336)), .op (some (330, true)) (.bin 338 .sub (.t 335) (.t 337)), .op (some (330, true)) (.bin 339 .eql (.t 333) (.t 338)), .o (.pick 340 (.t 330) (.t 339) (.const (.bool false))), .m 4 340, .keep [4]] (.ret)) (.skip))) (.seq (.seq (.ga (.regD (.f (.fa 341 0 30) (.f (.ld 342 1 341) (.f (.o (.bin 343 .neq (.t 342) (.k 0))) (.f (.m 344 343) (.f (.op (some (344, false)) (.faddr 345 2 (.t 30))) (.f (.op (some (344, false)) (.load 346 false 1 (.t 345))) (.f (.op (some (344, false)) (.mv 347 (.t 11))) (.f (.op (some (344, false)) (.mv 348 (.t 12))) (.f (.op (some (344, false)) (.len 349 (.t 348))) (.f (.op (some (344, false)) (.mv 350 (.t 23))) (.f (.op (some (344, false)) (.slice 351 1 (.t 347) (some (.t 349)) (some (.t 350)))) (.alt (.call (some (344, false)) (some 352) 34 [.tmp 346, .tmp 351]) none (.f (.op (some (344, false)) (.un 353 .not (.t 352))) (.f (.o (.pick 354 (.t 344) (.const (.bool true)) (.t 353))) (.done))) (.stop))))))))))))) [11, 23, 28, 354])) (.cond (.t 354) (.sr [.o (.mv 4 (.const (.bool false))), .keep [4]] (.ret)) (.skip))) (.seq (.regD (.f (.fa 355 2 28) (.f (.ld 356 1 355) (.f (.m 357 11) (.f (.m 358 23) (.f (.o (.slice 359 1 (.t 357) (some (.t 358)) none)) (.alt (.call none (some 360) 34 [.tmp 356, .tmp 359]) none (.f (.m 4 360) (.done)) (.stop))))))) [4]) (.ret)))))))))))))))))))))))))))
def r7 : List RV := [.tmp 4]
theorem k7 : compC Try.prog 361 C7 (Try.f7.body.getD .skip) = some C7.erase := by kernel_rfl
theorem q7 : rvsOf Try.prog Try.f7.results.toList = some r7 := by kernel_rfl
def laws_FnSubRecv.l1 (l1 : List Int) (x1_0 : Int) (x1_1 : Int) (x1_3 : Int) (x1_4 : Int) (x1_5 : Int) (x1_6 : Int) (x1_7 : Int) (x1_8 : Int) (x1_9 : (List S63)) (x1_10 : (List S66)) (x1_11 : (List S66)) (x1_12 : (List Int)) (x1_14 : (List Int)) (x1_15 : (List Int)) (x1_2 : Int) (x1_13 : (List Int)) : Option (List Int) := (if 0 ≤ x1_1 ∧ x1_1 < (x1_11.length : Int) then (if x1_2 < (((rd z66 x1_11 x1_1).f2).length : Int) then (if 0 ≤ x1_2 ∧ x1_2 < (((rd z66 x1_11 x1_1).f2).length : Int) then (if (x1_13.length + 1) * 8 ≤ 140737488355328 then (laws_FnSubRecv.l1 l1 x1_0 x1_1 x1_3 x1_4 x1_5 x1_6 x1_7 x1_8 x1_9 x1_10 x1_11 x1_12 x1_14 x1_15 (IntKind.i64.wrap (x1_2 + 1)) (x1_13 ++ ([(rd 0 ((rd z66 x1_11 x1_1).f2) x1_2)] : List Int))) else none) else none) else (some x1_13)) else none)
 partial_fixpoint
def laws_FnSubRecv.l3 (l1 : List Int) (x3_0 : Int) (x3_1 : Int) (x3_2 : Int) (x3_4 : Int) (x3_5 : Int) (x3_6 : Int) (x3_7 : Int) (x3_8 : Int) (x3_9 : Int) (x3_10 : (List S63)) (x3_11 : (List S66)) (x3_12 : (List S66)) (x3_13 : (List Int)) (x3_14 : (List Int)) (x3_17 : Int) (x3_18 : Int) (x3_19 : Int) (x3_3 : Int) (x3_15 : (List Int)) (x3_16 : (List Int)) : Option ((List Int) × (List Int)) := ((if x3_3 < IntKind.i64.wrap (1 + (x3_0.tmod 2)) then (if (l1.length : Int) > 0 then (if ¬ (l1.length : Int) = 0 then (if 0 ≤ x3_0.tmod (l1.length : Int) ∧ x3_0.tmod (l1.length : Int) < (l1.length : Int) then (some (decide ((rd 0 l1 (x3_0.tmod (l1.length : Int))).tmod 3 > 0))) else none) else none) else (some false)) else (some false)) >>= fun (j156 : Bool) => (if j156 = true then (if (x3_15.length + 1) * 4 ≤ 140737488355328 then (if (x3_16.length + 1) * 8 ≤ 140737488355328 then (laws_FnSubRecv.l3 l1 x3_0 x3_1 x3_2 x3_4 x3_5 x3_6 x3_7 x3_8 x3_9 x3_10 x3_11 x3_12 x3_13 x3_14 x3_17 x3_18 x3_19 (IntKind.i64.wrap (x3_3 + 1)) (x3_15 ++ ([x3_18] : List Int)) (x3_16 ++ ([x3_19] : List Int))) else none) else none) else (some (x3_15, x3_16))))
 partial_fixpoint
def laws_FnSubRecv.l2 (l1 : List Int) (x2_1 : Int) (x2_3 : Int) (x2_4 : Int) (x2_5 : Int) (x2_6 : Int) (x2_7 : Int) (x2_8 : Int) (x2_9 : (List S63)) (x2_10 : (List S66)) (x2_11 : (List S66)) (x2_13 : (List Int)) (x2_0 : Int) (x2_2 : Int) (x2_12 : (List Int)) (x2_14 : (List Int)) (x2_15 : (List Int)) : Option (Int × (List Int) × (List Int) × (List Int)) := (if 0 ≤ x2_1 ∧ x2_1 < (x2_11.length : Int) then (if x2_2 < (((rd z66 x2_11 x2_1).f1).length : Int) then ((if 0 ≤ x2_2 ∧ x2_2 < (((rd z66 x2_11 x2_1).f1).length : Int) then (if (rd z68 ((rd z66 x2_11 x2_1).f1) x2_2).f0 = 3 then (some (x2_0, x2_12, x2_14, x2_15)) else ((if (rd z68 ((rd z66 x2_11 x2_1).f1) x2_2).f0 = 1 then (if (x2_12.length + 1) * 8 ≤ 140737488355328 then (some (x2_12 ++ ([(rd z68 ((rd z66 x2_11 x2_1).f1) x2_2).f2] : List Int))) else none) else (some x2_12)) >>= fun (j135 : (List Int)) => (laws_FnSubRecv.l3 l1 (IntKind.i64.wrap (x2_0 + 1)) x2_1 x2_2 x2_3 x2_4 x2_5 x2_6 x2_7 x2_8 x2_9 x2_10 x2_11 j135 x2_13 ((rd z68 ((rd z66 x2_11 x2_1).f1) x2_2).f0) ((rd z68 ((rd z66 x2_11 x2_1).f1) x2_2).f1) ((rd z68 ((rd z66 x2_11 x2_1).f1) x2_2).f2) 0 x2_14 x2_15 >>= fun (y191 : ((List Int) × (List Int))) => (some (IntKind.i64.wrap (x2_0 + 1), j135, y191.1, y191.2))))) else none) >>= fun (j124 : Int × (List Int) × (List Int) × (List Int)) => (laws_FnSubRecv.l2 l1 x2_1 x2_3 x2_4 x2_5 x2_6 x2_7 x2_8 x2_9 x2_10 x2_11 x2_13 j124.1 (IntKind.i64.wrap (x2_2 + 1)) j124.2.1 j124.2.2.1 j124.2.2.2)) else (some (x2_0, x2_12, x2_14, x2_15))) else none)
 partial_fixpoint
def laws_FnSubRecv.l0 (l0 : List Int) (l1 : List Int) (x0_2 : Int) (x0_3 : Int) (x0_4 : Int) (x0_5 : Int) (x0_6 : Int) (x0_7 : Int) (x0_8 : (List S63)) (x0_9 : (List S66)) (x0_10 : (List S66)) (x0_0 : Int) (x0_1 : Int) (x0_11 : (List Int)) (x0_12 : (List Int)) (x0_13 : (List Int)) (x0_14 : (List Int)) : Option (Lp ((List Int) × (List Int) × (List Int) × (List Int)) Bool) := (if x0_1 < (x0_10.length : Int) then ((if 0 ≤ x0_1 ∧ x0_1 < (x0_10.length : Int) then (if 0 ≤ x0_1 ∧ x0_1 < (x0_9.length : Int) then (if (((rd z66 x0_10 x0_1).f1).length : Int) ≠ (((rd z66 x0_9 x0_1).f1).length : Int) then (some true) else (some (decide ((rd z66 x0_10 x0_1).f0 ≠ (rd z66 x0_9 x0_1).f0)))) else none) else none) >>= fun (j73 : Bool) => (if j73 = true then (some (.b false)) else (laws_FnSubRecv.l1 l1 x0_0 x0_1 x0_2 x0_3 x0_4 x0_5 x0_6 x0_7 x0_8 x0_9 x0_10 x0_11 x0_13 x0_14 0 x0_12 >>= fun (y114 : (List Int)) => (laws_FnSubRecv.l2 l1 x0_1 x0_2 x0_3 x0_4 x0_5 x0_6 x0_7 x0_8 x0_9 x0_10 y114 x0_0 0 x0_11 x0_13 x0_14 >>= fun (y193 : (Int × (List Int) × (List Int) × (List Int))) => (laws_FnSubRecv.l0 l0 l1 x0_2 x0_3 x0_4 x0_5 x0_6 x0_7 x0_8 x0_9 x0_10 y193.1 (IntKind.i64.wrap (x0_1 + 1)) y193.2.1 y114 y193.2.2.1 y193.2.2.2))))) else (some (.a (x0_11, x0_12, x0_13, x0_14))))
 partial_fixpoint
def laws_FnSubRecv.l4 (x4_2 : Int) (x4_3 : Int) (x4_4 : Int) (x4_5 : Int) (x4_6 : Int) (x4_7 : Int) (x4_8 : (List S63)) (x4_9 : (List Int)) (x4_10 : (List Int)) (x4_11 : (List Int)) (x4_12 : (List S74)) (x4_0 : Int) (x4_1 : Int) : Option (Lp Int Bool) := (if x4_1 < (x4_12.length : Int) then (if 0 ≤ x4_1 ∧ x4_1 < (x4_12.length : Int) then (if (rd z74 x4_12 x4_1).f0 = 1 then ((if x4_0 ≥ (x4_9.length : Int) then (some true) else (if 0 ≤ x4_1 ∧ x4_1 < (x4_11.length : Int) then (if 0 ≤ x4_0 ∧ x4_0 < (x4_9.length : Int) then (some (decide ((rd 0 x4_11 x4_1) ≠ (rd 0 x4_9 x4_0)))) else none) else none)) >>= fun (j234 : Bool) => (if j234 = true then (some (.b false)) else (if (rd z74 x4_12 x4_1).f1 ≠ IntKind.u32.wrap (x4_2 + (IntKind.u32.wrap (IntKind.i64.wrap (x4_0 + 1)))) then (some (.b false)) else (laws_FnSubRecv.l4 x4_2 x4_3 x4_4 x4_5 x4_6 x4_7 x4_8 x4_9 x4_10 x4_11 x4_12 (IntKind.i64.wrap (x4_0 + 1)) (IntKind.i64.wrap (x4_1 + 1)))))) else (if (rd z74 x4_12 x4_1).f1 ≠ IntKind.u32.wrap (x4_2 + (IntKind.u32.wrap x4_0)) then (some (.b false)) else (laws_FnSubRecv.l4 x4_2 x4_3 x4_4 x4_5 x4_6 x4_7 x4_8 x4_9 x4_10 x4_11 x4_12 x4_0 (IntKind.i64.wrap (x4_1 + 1))))) else none) else (some (.a x4_0)))
 partial_fixpoint
def laws_FnSubRecv.l5 (x5_0 : Int) (x5_2 : Int) (x5_3 : Int) (x5_4 : Int) (x5_5 : Int) (x5_6 : Int) (x5_7 : Int) (x5_8 : (List S63)) (x5_9 : (List Int)) (x5_10 : (List Int)) (x5_1 : Int) : Option (Lp Unit Bool) := (if x5_1 < (x5_10.length : Int) then ((if x5_1 ≥ (x5_9.length : Int) then (some true) else (if 0 ≤ x5_1 ∧ x5_1 < (x5_10.length : Int) then (if 0 ≤ x5_1 ∧ x5_1 < (x5_9.length : Int) then (some (decide ((rd 0 x5_10 x5_1) ≠ (rd 0 x5_9 x5_1)))) else none) else none)) >>= fun (j270 : Bool) => (if j270 = true then (some (.b false)) else (laws_FnSubRecv.l5 x5_0 x5_2 x5_3 x5_4 x5_5 x5_6 x5_7 x5_8 x5_9 x5_10 (IntKind.i64.wrap (x5_1 + 1))))) else (some (.a ())))
 partial_fixpoint
def laws_FnSubRecv.f (l0 : List Int) (l1 : List Int) : Option Bool := ((if (l0.length : Int) > 1048576 then (some true) else (some (decide ((l1.length : Int) > 1048576)))) >>= fun (j3 : Bool) => (if j3 = true then (some true) else (spec_DrawSubRun.f l0 >>= fun t15 => ((if (t15.2.2.2.2.2.2.length : Int) > 500 then (if 0 ≤ 500 ∧ 500 ≤ (t15.2.2.2.2.2.2.length : Int) then (some (List.take 500 t15.2.2.2.2.2.2)) else none) else (some t15.2.2.2.2.2.2)) >>= fun (j18 : (List S63)) => (spec_SubRun.f t15.1 t15.2.1 t15.2.2.1 t15.2.2.2.1 t15.2.2.2.2.1 t15.2.2.2.2.2.1 j18 >>= fun t29 => (impl_SubRun.f t15.1 t15.2.1 t15.2.2.1 t15.2.2.2.1 t15.2.2.2.2.1 t15.2.2.2.2.2.1 j18 >>= fun t33 => ((if t33.2 ≠ t29.2 then (some true) else (some (decide ((t33.1.length : Int) ≠ (t29.1.length : Int))))) >>= fun (j37 : Bool) => (if j37 = true then (some false) else (if t29.2 ≠ 0 then (some true) else (laws_FnSubRecv.l0 l0 l1 t15.1 t15.2.1 t15.2.2.1 t15.2.2.2.1 t15.2.2.2.2.1 t15.2.2.2.2.2.1 j18 t29.1 t33.1 0 0 ([] : List Int) ([] : List Int) ([] : List Int) ([] : List Int) >>= fun (y195 : Lp ((List Int) × (List Int) × (List Int) × (List Int)) Bool) => match y195 with | .a x197 => (impl_RecvRun.f t15.1 x197.2.2.1 >>= fun t199 => (if (x197.2.2.1.length : Int) > 4000 then (some (decide (t199.2 = 5))) else ((if t199.2 ≠ 0 then (some true) else (some (decide ((t199.1.length : Int) ≠ (x197.2.2.1.length : Int))))) >>= fun (j207 : Bool) => (if j207 = true then (some false) else (laws_FnSubRecv.l4 t15.1 t15.2.1 t15.2.2.1 t15.2.2.2.1 t15.2.2.2.2.1 t15.2.2.2.2.2.1 j18 x197.1 x197.2.1 x197.2.2.2 t199.1 0 0 >>= fun (y257 : Lp Int Bool) => match y257 with | .a x259 => (laws_FnSubRecv.l5 x259 t15.1 t15.2.1 t15.2.2.1 t15.2.2.2.1 t15.2.2.2.2.1 t15.2.2.2.2.2.1 j18 x197.1 x197.2.1 0 >>= fun (y285 : Lp Unit Bool) => match y285 with | .a x287 => ((if (j18.length + 1) * 24 ≤ 140737488355328 then (impl_SubRun.f t15.1 t15.2.1 t15.2.2.1 t15.2.2.2.1 t15.2.2.2.2.1 t15.2.2.2.2.2.1 (j18 ++ ([(⟨2, 0, IntKind.u32.wrap (t15.1 + (IntKind.u32.wrap x259))⟩ : S63)] : List S63)) >>= fun t301 => (some (t301.2, t301.1))) else none) >>= fun (j288 : Int × (List S66)) => ((if (j18.length + 1) * 24 ≤ 140737488355328 then (impl_SubState.f t15.1 t15.2.1 t15.2.2.1 t15.2.2.2.1 t15.2.2.2.2.1 t15.2.2.2.2.2.1 (j18 ++ ([(⟨2, 0, IntKind.u32.wrap (t15.1 + (IntKind.u32.wrap x259))⟩ : S63)] : List S63)) >>= fun t352 => (some (t352.2.2.2.2.2.2.2.2, t352.1, t352.2.1, t352.2.2.1, t352.2.2.2.1, t352.2.2.2.2.1, t352.2.2.2.2.2.1, t352.2.2.2.2.2.2.1, t352.2.2.2.2.2.2.2.1))) else none) >>= fun (j339 : Int × Int × Int × (List Int) × Int × Int × Int × Int × Int) => ((if j288.1 ≠ 0 then (some true) else (if j339.1 ≠ 0 then (some true) else (some (decide ((j288.2.length : Int) ≠ IntKind.i64.wrap ((j18.length : Int) + 1)))))) >>= fun (j541 : Bool) => (if j541 = true then (some false) else (if 0 ≤ (j18.length : Int) ∧ (j18.length : Int) < (j288.2.length : Int) then (if x259 < (x197.2.1.length : Int) then (if (rd z66 j288.2 (j18.length : Int)).f0 = 11 then (some (decide ((j339.2.2.2.1.length : Int) = IntKind.i64.wrap ((x197.1.length : Int) - (x197.2.1.length : Int))))) else (some false)) else ((if (rd z66 j288.2 (j18.length : Int)).f0 ≠ 0 then (some true) else (if 0 ≤ (x197.2.1.length : Int) ∧ (x197.2.1.length : Int) ≤ x259 ∧ x259 ≤ (x197.1.length : Int) then (laws_lNums.f ((rd z66 j288.2 (j18.length : Int)).f2) (List.drop (x197.2.1.length : Int).toNat (List.take x259.toNat x197.1)) >>= fun t578 => (some (!t578))) else none)) >>= fun (j564 : Bool) => (if j564 = true then (some false) else (if 0 ≤ x259 ∧ x259 ≤ (x197.1.length : Int) then (laws_lNums.f j339.2.2.2.1 (List.drop x259.toNat x197.1) >>= fun t590 => (some t590)) else none)))) else none))))) | .b x287 => (some x287)) | .b x259 => (some x259)))))) | .b x197 => (some x197)))))))))))
def laws_FnSubRecv.l1_M (cs0 : List Cell) (o0 : Nat) (l0 : List Int) (hv0 : Vw c_u8 1 cs0 o0 l0) (cs1 : List Cell) (o1 : Nat) (l1 : List Int) (hv1 : Vw c_u8 1 cs1 o1 l1) (x1_0 : Int) (x1_1 : Int) (x1_3 : Int) (x1_4 : Int) (x1_5 : Int) (x1_6 : Int) (x1_7 : Int) (x1_8 : Int) (x1_9 : (List S63)) (x1_10 : (List S66)) (x1_11 : (List S66)) (x1_12 : (List Int)) (x1_14 : (List Int)) (x1_15 : (List Int)) (x1_2 : Int) (x1_13 : (List Int)) (y : (List Int)) : Prop := ∀ (K : AE → St → Prop), (K (.exit 2) ⟨[(1, .c (.ref (.arg 1) [] o1 l1.length)), (5, .c (.ptr (.tmp 5 0) [] 0)), (6, .c (.ref (.tmp 41 0) [] 0 x1_9.length)), (7, .c (.ref (.tmp 52 0) [] 0 x1_10.length)), (9, .c (.ref (.tmp 58 0) [] 0 x1_11.length)), (11, .c (.ref (.tmp 73 0) [] 0 x1_12.length)), (12, .c (.ref (.tmp 74 0) [] 0 y.length)), (13, .c (.ref (.tmp 75 0) [] 0 x1_14.length)), (14, .c (.ref (.tmp 76 0) [] 0 x1_15.length)), (15, .c (.sc (.int .i64 x1_0))), (16, .c (.sc (.int .i64 x1_1)))], [(.arg 0, ⟨.fz, 1, cs0⟩), (.arg 1, ⟨.fz, 1, cs1⟩), (.tmp 5 0, ⟨.box, 0, [.sc (.int .u32 x1_3), .sc (.int .i64 x1_4), .sc (.int .i64 x1_5), .sc (.int .i64 x1_6), .sc (.int .i64 x1_7), .sc (.int .i64 x1_8)]⟩), (.tmp 41 0, ⟨.lst, 3, encL c63 x1_9⟩), (.tmp 52 0, ⟨.lst, 5, encL c66 x1_10⟩), (.tmp 58 0, ⟨.lst, 5, encL c66 x1_11⟩), (.tmp 73 0, ⟨.lst, 1, encL c_i64 x1_12⟩), (.tmp 74 0, ⟨.lst, 1, encL c_i64 y⟩), (.tmp 75 0, ⟨.lst, 1, encL c_u32 x1_14⟩), (.tmp 76 0, ⟨.lst, 1, encL c_i64 x1_15⟩)], [], []⟩) → loopS Try.prog 361 (.ga C7_l1) K ⟨[(1, .c (.ref (.arg 1) [] o1 l1.length)), (5, .c (.ptr (.tmp 5 0) [] 0)), (6, .c (.ref (.tmp 41 0) [] 0 x1_9.length)), (7, .c (.ref (.tmp 52 0) [] 0 x1_10.length)), (9, .c (.ref (.tmp 58 0) [] 0 x1_11.length)), (11, .c (.ref (.tmp 73 0) [] 0 x1_12.length)), (12, .c (.ref (.tmp 74 0) [] 0 x1_13.length)), (13, .c (.ref (.tmp 75 0) [] 0 x1_14.length)), (14, .c (.ref (.tmp 76 0) [] 0 x1_15.length)), (15, .c (.sc (.int .i64 x1_0))), (16, .c (.sc (.int .i64 x1_1))), (17, .c (.sc (.int .i64 x1_2)))], [(.arg 0, ⟨.fz, 1, cs0⟩), (.arg 1, ⟨.fz, 1, cs1⟩), (.tmp 5 0, ⟨.box, 0, [.sc (.int .u32 x1_3), .sc (.int .i64 x1_4), .sc (.int .i64 x1_5), .sc (.int .i64 x1_6), .sc (.int .i64 x1_7), .sc (.int .i64 x1_8)]⟩), (.tmp 41 0, ⟨.lst, 3, encL c63 x1_9⟩), (.tmp 52 0, ⟨.lst, 5, encL c66 x1_10⟩), (.tmp 58 0, ⟨.lst, 5, encL c66 x1_11⟩), (.tmp 73 0, ⟨.lst, 1, encL c_i64 x1_12⟩), (.tmp 74 0, ⟨.lst, 1, encL c_i64 x1_13⟩), (.tmp 75 0, ⟨.lst, 1, encL c_u32 x1_14⟩), (.tmp 76 0, ⟨.lst, 1, encL c_i64 x1_15⟩)], [], []⟩
theorem laws_FnSubRecv.l1_walk (cs0 : List Cell) (o0 : Nat) (l0 : List Int) (hv0 : Vw c_u8 1 cs0 o0 l0) (cs1 : List Cell) (o1 : Nat) (l1 : List Int) (hv1 : Vw c_u8 1 cs1 o1 l1) (x1_0 : Int) (x1_1 : Int) (x1_3 : Int) (x1_4 : Int) (x1_5 : Int) (x1_6 : Int) (x1_7 : Int) (x1_8 : Int) (x1_9 : (List S63)) (x1_10 : (List S66)) (x1_11 : (List S66)) (x1_12 : (List Int)) (x1_14 : (List Int)) (x1_15 : (List Int)) (x1_2 : Int) (x1_13 : (List Int)) (y : (List Int)) (h : laws_FnSubRecv.l1 l1 x1_0 x1_1 x1_3 x1_4 x1_5 x1_6 x1_7 x1_8 x1_9 x1_10 x1_11 x1_12 x1_14 x1_15 x1_2 x1_13 = some y) : laws_FnSubRecv.l1_M cs0 o0 l0 hv0 cs1 o1 l1 hv1 x1_0 x1_1 x1_3 x1_4 x1_5 x1_6 x1_7 x1_8 x1_9 x1_10 x1_11 x1_12 x1_14 x1_15 x1_2 x1_13 y := by
 refine laws_FnSubRecv.l1.partial_correctness l1 x1_0 x1_1 x1_3 x1_4 x1_5 x1_6 x1_7 x1_8 x1_9 x1_10 x1_11 x1_12 x1_14 x1_15 (motive := fun x1_2 x1_13 y => laws_FnSubRecv.l1_M cs0 o0 l0 hv0 cs1 o1 l1 hv1 x1_0 x1_1 x1_3 x1_4 x1_5 x1_6 x1_7 x1_8 x1_9 x1_10 x1_11 x1_12 x1_14 x1_15 x1_2 x1_13 y) ?_ x1_2 x1_13 y h
 clear h
 unfold laws_FnSubRecv.l1_M
 intro rec ih x1_2 x1_13 y h K hx0
 refine loop_unroll (ga_k fun G1 G1n G1r G1x => ?_)
 unfold C7_l1
 refine seq_k fun J95 hJ95 => ?_
 refine sr_k fun J96 hJ96 => ?_
 obtain ⟨b97, h⟩ := of_guard h
 have g98 : 0 + x1_1.toNat * 5 + 2 ≤ (encL c66 x1_11).length := ((Vw.whole c66_w x1_11).len_le b97.1 b97.2 (by decide))
 have g99 : (encL c66 x1_11)[0 + x1_1.toNat * 5 + 2]? = some (.own 1 (((rd z66 x1_11 x1_1).f2).length) (encL c_i64 ((rd z66 x1_11 x1_1).f2))) := (Vw.whole c66_w x1_11).get z66 2 b97.1 b97.2 (by decide)
 simp +decide only [Nat.reduceAdd, Nat.reduceMul, Int.reduceToNat, ak, b97, g98, g99]
 refine hJ96 _ ?_
 refine cond_k (b := decide (x1_2 < (((rd z66 x1_11 x1_1).f2).length : Int))) rfl (fun c100 => ?_) (fun c100 => ?_)
 ·replace c100 := of_decide_eq_true c100; rw [if_pos c100] at h
  refine hJ95 _ ?_
  refine seq_k fun J101 hJ101 => ?_
  refine block_k fun B102 B102n B102x B102r B102j => ?_
  refine reg_k ?_
  obtain ⟨b103, h⟩ := of_guard h
  have g104 : (encL c_i64 ((rd z66 x1_11 x1_1).f2))[0 + x1_2.toNat * 1]? = some (.sc (.int .i64 (rd 0 ((rd z66 x1_11 x1_1).f2) x1_2))) := (Vw.whole c_i64_w ((rd z66 x1_11 x1_1).f2)).get 0 0 b103.1 b103.2 (by decide)
  have g105 : (List.replicate 1 ([.int .i64 0] : List Value)).flatten = [.int .i64 0] := rfl
  have g106 : (⟨.lst, 1, [.sc (.int .i64 (rd 0 ((rd z66 x1_11 x1_1).f2) x1_2))]⟩ : Root) = ⟨.lst, 1, encL c_i64 ([(rd 0 ((rd z66 x1_11 x1_1).f2) x1_2)] : List Int)⟩ := rfl
  have g107 : ([(rd 0 ((rd z66 x1_11 x1_1).f2) x1_2)] : List Int).length = 1 := rfl
  have g108 : (encL c_i64 ([(rd 0 ((rd z66 x1_11 x1_1).f2) x1_2)] : List Int)).length = 1 * 1 := by simp [encL_length c_i64_w]
  have g109 : (encL c_i64 ([(rd 0 ((rd z66 x1_11 x1_1).f2) x1_2)] : List Int)).all nd = true := rfl
  obtain ⟨b110, h⟩ := of_guard h
  have g111 : appLim x1_13.length 1 8 := ⟨b110, by have := b110; omega⟩
  have g112 : (encL c_i64 x1_13).length = x1_13.length * 1 := by simp [encL_length c_i64_w]
  have g113 : encL c_i64 x1_13 ++ encL c_i64 ([(rd 0 ((rd z66 x1_11 x1_1).f2) x1_2)] : List Int) = encL c_i64 (x1_13 ++ ([(rd 0 ((rd z66 x1_11 x1_1).f2) x1_2)] : List Int)) := (encL_append _ _).symm
  simp +decide only [Nat.reduceAdd, Nat.reduceMul, Int.reduceToNat, ak, b97, g98, g99, b103, g104, g105, g106, g107, g108, g109, g111, g112, g113]
  refine B102n _ ?_
  refine hJ101 _ ?_
  refine reg_k ?_
  simp +decide only [Nat.reduceAdd, Nat.reduceMul, Int.reduceToNat, ak]
  refine G1n _ _ (wj [1, 5, 6, 7, 9, 11, 12, 13, 14, 15, 16, 17] [pI (.arg 0) .fz, pI (.arg 1) .fz, pI (.tmp 5 0) .box, pI (.tmp 41 0) .lst, pI (.tmp 52 0) .lst, pI (.tmp 58 0) .lst, pI (.tmp 73 0) .lst, pI (.tmp 74 0) .lst, pI (.tmp 75 0) .lst, pI (.tmp 76 0) .lst]) (ih _ _ _ h K hx0)
 ·replace c100 := of_decide_eq_false c100; rw [if_neg c100] at h
  obtain rfl := Option.some.inj h
  refine gh_k (wk [1, 5, 6, 7, 9, 11, 12, 13, 14, 15, 16] [pI (.arg 0) .fz, pI (.arg 1) .fz, pI (.tmp 5 0) .box, pI (.tmp 41 0) .lst, pI (.tmp 52 0) .lst, pI (.tmp 58 0) .lst, pI (.tmp 73 0) .lst, pI (.tmp 74 0) .lst, pI (.tmp 75 0) .lst, pI (.tmp 76 0) .lst]) ?_
  refine G1x _ _ ?_
  exact hx0
def laws_FnSubRecv.l3_M (cs0 : List Cell) (o0 : Nat) (l0 : List Int) (hv0 : Vw c_u8 1 cs0 o0 l0) (cs1 : List Cell) (o1 : Nat) (l1 : List Int) (hv1 : Vw c_u8 1 cs1 o1 l1) (x3_0 : Int) (x3_1 : Int) (x3_2 : Int) (x3_4 : Int) (x3_5 : Int) (x3_6 : Int) (x3_7 : Int) (x3_8 : Int) (x3_9 : Int) (x3_10 : (List S63)) (x3_11 : (List S66)) (x3_12 : (List S66)) (x3_13 : (List Int)) (x3_14 : (List Int)) (x3_17 : Int) (x3_18 : Int) (x3_19 : Int) (x3_3 : Int) (x3_15 : (List Int)) (x3_16 : (List Int)) (y : ((List Int) × (List Int))) : Prop := ∀ (K : AE → St → Prop), (K (.exit 6) ⟨[(1, .c (.ref (.arg 1) [] o1 l1.length)), (5, .c (.ptr (.tmp 5 0) [] 0)), (6, .c (.ref (.tmp 41 0) [] 0 x3_10.length)), (7, .c (.ref (.tmp 52 0) [] 0 x3_11.length)), (9, .c (.ref (.tmp 58 0) [] 0 x3_12.length)), (11, .c (.ref (.tmp 73 0) [] 0 x3_13.length)), (12, .c (.ref (.tmp 74 0) [] 0 x3_14.length)), (13, .c (.ref (.tmp 75 0) [] 0 y.1.length)), (14, .c (.ref (.tmp 76 0) [] 0 y.2.length)), (15, .c (.sc (.int .i64 x3_0))), (16, .c (.sc (.int .i64 x3_1))), (18, .c (.sc (.int .i64 x3_2)))], [(.arg 0, ⟨.fz, 1, cs0⟩), (.arg 1, ⟨.fz, 1, cs1⟩), (.tmp 5 0, ⟨.box, 0, [.sc (.int .u32 x3_4), .sc (.int .i64 x3_5), .sc (.int .i64 x3_6), .sc (.int .i64 x3_7), .sc (.int .i64 x3_8), .sc (.int .i64 x3_9)]⟩), (.tmp 41 0, ⟨.lst, 3, encL c63 x3_10⟩), (.tmp 52 0, ⟨.lst, 5, encL c66 x3_11⟩), (.tmp 58 0, ⟨.lst, 5, encL c66 x3_12⟩), (.tmp 73 0, ⟨.lst, 1, encL c_i64 x3_13⟩), (.tmp 74 0, ⟨.lst, 1, encL c_i64 x3_14⟩), (.tmp 75 0, ⟨.lst, 1, encL c_u32 y.1⟩), (.tmp 76 0, ⟨.lst, 1, encL c_i64 y.2⟩)], [], []⟩) → loopS Try.prog 361 (.ga C7_l3) K ⟨[(1, .c (.ref (.arg 1) [] o1 l1.length)), (5, .c (.ptr (.tmp 5 0) [] 0)), (6, .c (.ref (.tmp 41 0) [] 0 x3_10.length)), (7, .c (.ref (.tmp 52 0) [] 0 x3_11.length)), (9, .c (.ref (.tmp 58 0) [] 0 x3_12.length)), (11, .c (.ref (.tmp 73 0) [] 0 x3_13.length)), (12, .c (.ref (.tmp 74 0) [] 0 x3_14.length)), (13, .c (.ref (.tmp 75 0) [] 0 x3_15.length)), (14, .c (.ref (.tmp 76 0) [] 0 x3_16.length)), (15, .c (.sc (.int .i64 x3_0))), (16, .c (.sc (.int .i64 x3_1))), (18, .c (.sc (.int .i64 x3_2))), (19, .c (.ptr (.tmp 19 0) [] 0)), (20, .c (.sc (.int .i64 x3_3)))], [(.arg 0, ⟨.fz, 1, cs0⟩), (.arg 1, ⟨.fz, 1, cs1⟩), (.tmp 5 0, ⟨.box, 0, [.sc (.int .u32 x3_4), .sc (.int .i64 x3_5), .sc (.int .i64 x3_6), .sc (.int .i64 x3_7), .sc (.int .i64 x3_8), .sc (.int .i64 x3_9)]⟩), (.tmp 41 0, ⟨.lst, 3, encL c63 x3_10⟩), (.tmp 52 0, ⟨.lst, 5, encL c66 x3_11⟩), (.tmp 58 0, ⟨.lst, 5, encL c66 x3_12⟩), (.tmp 73 0, ⟨.lst, 1, encL c_i64 x3_13⟩), (.tmp 74 0, ⟨.lst, 1, encL c_i64 x3_14⟩), (.tmp 75 0, ⟨.lst, 1, encL c_u32 x3_15⟩), (.tmp 76 0, ⟨.lst, 1, encL c_i64 x3_16⟩), (.tmp 19 0, ⟨.box, 0, [.sc (.int .i64 x3_17), .sc (.int .u32 x3_18), .sc (.int .i64 x3_19)]⟩)], [], []⟩
theorem laws_FnSubRecv.l3_walk (cs0 : List Cell) (o0 : Nat) (l0 : List Int) (hv0 : Vw c_u8 1 cs0 o0 l0) (cs1 : List Cell) (o1 : Nat) (l1 : List Int) (hv1 : Vw c_u8 1 cs1 o1 l1) (x3_0 : Int) (x3_1 : Int) (x3_2 : Int) (x3_4 : Int) (x3_5 : Int) (x3_6 : Int) (x3_7 : Int) (x3_8 : Int) (x3_9 : Int) (x3_10 : (List S63)) (x3_11 : (List S66)) (x3_12 : (List S66)) (x3_13 : (List Int)) (x3_14 : (List Int)) (x3_17 : Int) (x3_18 : Int) (x3_19 : Int) (x3_3 : Int) (x3_15 : (List Int)) (x3_16 : (List Int)) (y : ((List Int) × (List Int))) (h : laws_FnSubRecv.l3 l1 x3_0 x3_1 x3_2 x3_4 x3_5 x3_6 x3_7 x3_8 x3_9 x3_10 x3_11 x3_12 x3_13 x3_14 x3_17 x3_18 x3_19 x3_3 x3_15 x3_16 = some y) : laws_FnSubRecv.l3_M cs0 o0 l0 hv0 cs1 o1 l1 hv1 x3_0 x3_1 x3_2 x3_4 x3_5 x3_6 x3_7 x3_8 x3_9 x3_10 x3_11 x3_12 x3_13 x3_14 x3_17 x3_18 x3_19 x3_3 x3_15 x3_16 y := by
 refine laws_FnSubRecv.l3.partial_correctness l1 x3_0 x3_1 x3_2 x3_4 x3_5 x3_6 x3_7 x3_8 x3_9 x3_10 x3_11 x3_12 x3_13 x3_14 x3_17 x3_18 x3_19 (motive := fun x3_3 x3_15 x3_16 y => laws_FnSubRecv.l3_M cs0 o0 l0 hv0 cs1 o1 l1 hv1 x3_0 x3_1 x3_2 x3_4 x3_5 x3_6 x3_7 x3_8 x3_9 x3_10 x3_11 x3_12 x3_13 x3_14 x3_17 x3_18 x3_19 x3_3 x3_15 x3_16 y) ?_ x3_3 x3_15 x3_16 y h
 clear h
 unfold laws_FnSubRecv.l3_M
 intro rec ih x3_3 x3_15 x3_16 y h K hx0
 refine loop_unroll (ga_k fun G3 G3n G3r G3x => ?_)
 unfold C7_l3
 refine seq_k fun J155 hJ155 => ?_
 obtain ⟨j156, h157, hn⟩ := of_bind h
 refine seq_j (fun st => st = ⟨[(1, .c (.ref (.arg 1) [] o1 l1.length)), (5, .c (.ptr (.tmp 5 0) [] 0)), (6, .c (.ref (.tmp 41 0) [] 0 x3_10.length)), (7, .c (.ref (.tmp 52 0) [] 0 x3_11.length)), (9, .c (.ref (.tmp 58 0) [] 0 x3_12.length)), (11, .c (.ref (.tmp 73 0) [] 0 x3_13.length)), (12, .c (.ref (.tmp 74 0) [] 0 x3_14.length)), (13, .c (.ref (.tmp 75 0) [] 0 x3_15.length)), (14, .c (.ref (.tmp 76 0) [] 0 x3_16.length)), (15, .c (.sc (.int .i64 x3_0))), (16, .c (.sc (.int .i64 x3_1))), (18, .c (.sc (.int .i64 x3_2))), (19, .c (.ptr (.tmp 19 0) [] 0)), (20, .c (.sc (.int .i64 x3_3))), (181, .c (.sc (.bool j156)))], [(.arg 0, ⟨.fz, 1, cs0⟩), (.arg 1, ⟨.fz, 1, cs1⟩), (.tmp 5 0, ⟨.box, 0, [.sc (.int .u32 x3_4), .sc (.int .i64 x3_5), .sc (.int .i64 x3_6), .sc (.int .i64 x3_7), .sc (.int .i64 x3_8), .sc (.int .i64 x3_9)]⟩), (.tmp 41 0, ⟨.lst, 3, encL c63 x3_10⟩), (.tmp 52 0, ⟨.lst, 5, encL c66 x3_11⟩), (.tmp 58 0, ⟨.lst, 5, encL c66 x3_12⟩), (.tmp 73 0, ⟨.lst, 1, encL c_i64 x3_13⟩), (.tmp 74 0, ⟨.lst, 1, encL c_i64 x3_14⟩), (.tmp 75 0, ⟨.lst, 1, encL c_u32 x3_15⟩), (.tmp 76 0, ⟨.lst, 1, encL c_i64 x3_16⟩), (.tmp 19 0, ⟨.box, 0, [.sc (.int .i64 x3_17), .sc (.int .u32 x3_18), .sc (.int .i64 x3_19)]⟩)], [], []⟩) (fun J158 hJ158 => ?_) ?_
 ·replace h := h157; clear hn
  refine ga_k fun G159 G159n G159r G159x => ?_
  refine reg_k ?_
  simp +decide only [Nat.reduceAdd, Nat.reduceMul, Int.reduceToNat, ak, ne_lit]
  by_cases c160 : x3_3 < IntKind.i64.wrap (1 + (x3_0.tmod 2))
  ·rw [if_pos c160] at h
   have e161 : decide (x3_3 < IntKind.i64.wrap (1 + (x3_0.tmod 2))) = true := decide_eq_true c160
   simp +decide only [Nat.reduceAdd, Nat.reduceMul, Int.reduceToNat, ak, e161]
   by_cases c162 : (l1.length : Int) > 0
   ·rw [if_pos c162] at h
    have e163 : decide ((l1.length : Int) > 0) = true := decide_eq_true c162
    obtain ⟨b164, h⟩ := of_guard h
    obtain ⟨b165, h⟩ := of_guard h
    have g166 : (cs1)[o1 + (x3_0.tmod (l1.length : Int)).toNat * 1]? = some (.sc (.int .u8 (rd 0 l1 (x3_0.tmod (l1.length : Int))))) := hv1.get 0 0 b165.1 b165.2 (by decide)
    simp +decide only [Nat.reduceAdd, Nat.reduceMul, Int.reduceToNat, ak, e163, b164, b165, g166, ne_lit]
    obtain rfl := Option.some.inj h
    refine G159n _ _ (wj [1, 5, 6, 7, 9, 11, 12, 13, 14, 15, 16, 18, 19, 20, 181] [pI (.arg 0) .fz, pI (.arg 1) .fz, pI (.tmp 5 0) .box, pI (.tmp 41 0) .lst, pI (.tmp 52 0) .lst, pI (.tmp 58 0) .lst, pI (.tmp 73 0) .lst, pI (.tmp 74 0) .lst, pI (.tmp 75 0) .lst, pI (.tmp 76 0) .lst, pI (.tmp 19 0) .box]) (hJ158 _ rfl)
   ·rw [if_neg c162] at h
    have e167 : decide ((l1.length : Int) > 0) = false := decide_eq_false c162
    simp +decide only [Nat.reduceAdd, Nat.reduceMul, Int.reduceToNat, ak, e167]
    obtain rfl := Option.some.inj h
    refine G159n _ _ (wj [1, 5, 6, 7, 9, 11, 12, 13, 14, 15, 16, 18, 19, 20, 181] [pI (.arg 0) .fz, pI (.arg 1) .fz, pI (.tmp 5 0) .box, pI (.tmp 41 0) .lst, pI (.tmp 52 0) .lst, pI (.tmp 58 0) .lst, pI (.tmp 73 0) .lst, pI (.tmp 74 0) .lst, pI (.tmp 75 0) .lst, pI (.tmp 76 0) .lst, pI (.tmp 19 0) .box]) (hJ158 _ rfl)
  ·rw [if_neg c160] at h
   have e168 : decide (x3_3 < IntKind.i64.wrap (1 + (x3_0.tmod 2))) = false := decide_eq_false c160
   simp +decide only [Nat.reduceAdd, Nat.reduceMul, Int.reduceToNat, ak, e168]
   obtain rfl := Option.some.inj h
   refine G159n _ _ (wj [1, 5, 6, 7, 9, 11, 12, 13, 14, 15, 16, 18, 19, 20, 181] [pI (.arg 0) .fz, pI (.arg 1) .fz, pI (.tmp 5 0) .box, pI (.tmp 41 0) .lst, pI (.tmp 52 0) .lst, pI (.tmp 58 0) .lst, pI (.tmp 73 0) .lst, pI (.tmp 74 0) .lst, pI (.tmp 75 0) .lst, pI (.tmp 76 0) .lst, pI (.tmp 19 0) .box]) (hJ158 _ rfl)
 ·replace h := hn; clear hn h157
  rintro _ rfl
  refine cond_k (b := j156) rfl (fun c169 => ?_) (fun c169 => ?_)
  ·rw [if_pos c169] at h
   refine hJ155 _ ?_
   refine seq_k fun J170 hJ170 => ?_
   refine block_k fun B171 B171n B171x B171r B171j => ?_
   refine sr_k fun J172 hJ172 => ?_
   have g173 : (List.replicate 1 ([.int .u32 0] : List Value)).flatten = [.int .u32 0] := rfl
   have g174 : (⟨.lst, 1, [.sc (.int .u32 x3_18)]⟩ : Root) = ⟨.lst, 1, encL c_u32 ([x3_18] : List Int)⟩ := rfl
   have g175 : ([x3_18] : List Int).length = 1 := rfl
   have g176 : (encL c_u32 ([x3_18] : List Int)).length = 1 * 1 := by simp [encL_length c_u32_w]
   have g177 : (encL c_u32 ([x3_18] : List Int)).all nd = true := rfl
   obtain ⟨b178, h⟩ := of_guard h
   have g179 : appLim x3_15.length 1 4 := ⟨b178, by have := b178; omega⟩
   have g180 : (encL c_u32 x3_15).length = x3_15.length * 1 := by simp [encL_length c_u32_w]
   have g181 : encL c_u32 x3_15 ++ encL c_u32 ([x3_18] : List Int) = encL c_u32 (x3_15 ++ ([x3_18] : List Int)) := (encL_append _ _).symm
   simp +decide only [Nat.reduceAdd, Nat.reduceMul, Int.reduceToNat, ak, g173, g174, g175, g176, g177, g179, g180, g181]
   refine hJ172 _ ?_
   refine reg_k ?_
   have g182 : (List.replicate 1 ([.int .i64 0] : List Value)).flatten = [.int .i64 0] := rfl
   have g183 : (⟨.lst, 1, [.sc (.int .i64 x3_19)]⟩ : Root) = ⟨.lst, 1, encL c_i64 ([x3_19] : List Int)⟩ := rfl
   have g184 : ([x3_19] : List Int).length = 1 := rfl
   have g185 : (encL c_i64 ([x3_19] : List Int)).length = 1 * 1 := by simp [encL_length c_i64_w]
   have g186 : (encL c_i64 ([x3_19] : List Int)).all nd = true := rfl
   obtain ⟨b187, h⟩ := of_guard h
   have g188 : appLim x3_16.length 1 8 := ⟨b187, by have := b187; omega⟩
   have g189 : (encL c_i64 x3_16).length = x3_16.length * 1 := by simp [encL_length c_i64_w]
   have g190 : encL c_i64 x3_16 ++ encL c_i64 ([x3_19] : List Int) = encL c_i64 (x3_16 ++ ([x3_19] : List Int)) := (encL_append _ _).symm
   simp +decide only [Nat.reduceAdd, Nat.reduceMul, Int.reduceToNat, ak, g182, g183, g184, g185, g186, g188, g189, g190]
   refine B171n _ ?_
   refine hJ170 _ ?_
   refine reg_k ?_
   simp +decide only [Nat.reduceAdd, Nat.reduceMul, Int.reduceToNat, ak]
   refine G3n _ _ (wj [1, 5, 6, 7, 9, 11, 12, 13, 14, 15, 16, 18, 19, 20] [pI (.arg 0) .fz, pI (.arg 1) .fz, pI (.tmp 5 0) .box, pI (.tmp 41 0) .lst, pI (.tmp 52 0) .lst, pI (.tmp 58 0) .lst, pI (.tmp 73 0) .lst, pI (.tmp 74 0) .lst, pI (.tmp 75 0) .lst, pI (.tmp 76 0) .lst, pI (.tmp 19 0) .box]) (ih _ _ _ _ h K hx0)
  ·rw [if_neg (Bool.eq_false_iff.1 c169)] at h
   obtain rfl := Option.some.inj h
   refine gh_k (wk [1, 5, 6, 7, 9, 11, 12, 13, 14, 15, 16, 18] [pI (.arg 0) .fz, pI (.arg 1) .fz, pI (.tmp 5 0) .box, pI (.tmp 41 0) .lst, pI (.tmp 52 0) .lst, pI (.tmp 58 0) .lst, pI (.tmp 73 0) .lst, pI (.tmp 74 0) .lst, pI (.tmp 75 0) .lst, pI (.tmp 76 0) .lst]) ?_
   refine G3x _ _ ?_
   exact hx0
def laws_FnSubRecv.l2_M (cs0 : List Cell) (o0 : Nat) (l0 : List Int) (hv0 : Vw c_u8 1 cs0 o0 l0) (cs1 : List Cell) (o1 : Nat) (l1 : List Int) (hv1 : Vw c_u8 1 cs1 o1 l1) (x2_1 : Int) (x2_3 : Int) (x2_4 : Int) (x2_5 : Int) (x2_6 : Int) (x2_7 : Int) (x2_8 : Int) (x2_9 : (List S63)) (x2_10 : (List S66)) (x2_11 : (List S66)) (x2_13 : (List Int)) (x2_0 : Int) (x2_2 : Int) (x2_12 : (List Int)) (x2_14 : (List Int)) (x2_15 : (List Int)) (y : (Int × (List Int) × (List Int) × (List Int))) : Prop := ∀ (K : AE → St → Prop), (K (.exit 4) ⟨[(1, .c (.ref (.arg 1) [] o1 l1.length)), (5, .c (.ptr (.tmp 5 0) [] 0)), (6, .c (.ref (.tmp 41 0) [] 0 x2_9.length)), (7, .c (.ref (.tmp 52 0) [] 0 x2_10.length)), (9, .c (.ref (.tmp 58 0) [] 0 x2_11.length)), (11, .c (.ref (.tmp 73 0) [] 0 y.2.1.length)), (12, .c (.ref (.tmp 74 0) [] 0 x2_13.length)), (13, .c (.ref (.tmp 75 0) [] 0 y.2.2.1.length)), (14, .c (.ref (.tmp 76 0) [] 0 y.2.2.2.length)), (15, .c (.sc (.int .i64 y.1))), (16, .c (.sc (.int .i64 x2_1)))], [(.arg 0, ⟨.fz, 1, cs0⟩), (.arg 1, ⟨.fz, 1, cs1⟩), (.tmp 5 0, ⟨.box, 0, [.sc (.int .u32 x2_3), .sc (.int .i64 x2_4), .sc (.int .i64 x2_5), .sc (.int .i64 x2_6), .sc (.int .i64 x2_7), .sc (.int .i64 x2_8)]⟩), (.tmp 41 0, ⟨.lst, 3, encL c63 x2_9⟩), (.tmp 52 0, ⟨.lst, 5, encL c66 x2_10⟩), (.tmp 58 0, ⟨.lst, 5, encL c66 x2_11⟩), (.tmp 73 0, ⟨.lst, 1, encL c_i64 y.2.1⟩), (.tmp 74 0, ⟨.lst, 1, encL c_i64 x2_13⟩), (.tmp 75 0, ⟨.lst, 1, encL c_u32 y.2.2.1⟩), (.tmp 76 0, ⟨.lst, 1, encL c_i64 y.2.2.2⟩)], [], []⟩) → loopS Try.prog 361 (.ga C7_l2) K ⟨[(1, .c (.ref (.arg 1) [] o1 l1.length)), (5, .c (.ptr (.tmp 5 0) [] 0)), (6, .c (.ref (.tmp 41 0) [] 0 x2_9.length)), (7, .c (.ref (.tmp 52 0) [] 0 x2_10.length)), (9, .c (.ref (.tmp 58 0) [] 0 x2_11.length)), (11, .c (.ref (.tmp 73 0) [] 0 x2_12.length)), (12, .c (.ref (.tmp 74 0) [] 0 x2_13.length)), (13, .c (.ref (.tmp 75 0) [] 0 x2_14.length)), (14, .c (.ref (.tmp 76 0) [] 0 x2_15.length)), (15, .c (.sc (.int .i64 x2_0))), (16, .c (.sc (.int .i64 x2_1))), (18, .c (.sc (.int .i64 x2_2)))], [(.arg 0, ⟨.fz, 1, cs0⟩), (.arg 1, ⟨.fz, 1, cs1⟩), (.tmp 5 0, ⟨.box, 0, [.sc (.int .u32 x2_3), .sc (.int .i64 x2_4), .sc (.int .i64 x2_5), .sc (.int .i64 x2_6), .sc (.int .i64 x2_7), .sc (.int .i64 x2_8)]⟩), (.tmp 41 0, ⟨.lst, 3, encL c63 x2_9⟩), (.tmp 52 0, ⟨.lst, 5, encL c66 x2_10⟩), (.tmp 58 0, ⟨.lst, 5, encL c66 x2_11⟩), (.tmp 73 0, ⟨.lst, 1, encL c_i64 x2_12⟩), (.tmp 74 0, ⟨.lst, 1, encL c_i64 x2_13⟩), (.tmp 75 0, ⟨.lst, 1, encL c_u32 x2_14⟩), (.tmp 76 0, ⟨.lst, 1, encL c_i64 x2_15⟩)], [], []⟩
theorem laws_FnSubRecv.l2_walk (cs0 : List Cell) (o0 : Nat) (l0 : List Int) (hv0 : Vw c_u8 1 cs0 o0 l0) (cs1 : List Cell) (o1 : Nat) (l1 : List Int) (hv1 : Vw c_u8 1 cs1 o1 l1) (x2_1 : Int) (x2_3 : Int) (x2_4 : Int) (x2_5 : Int) (x2_6 : Int) (x2_7 : Int) (x2_8 : Int) (x2_9 : (List S63)) (x2_10 : (List S66)) (x2_11 : (List S66)) (x2_13 : (List Int)) (x2_0 : Int) (x2_2 : Int) (x2_12 : (List Int)) (x2_14 : (List Int)) (x2_15 : (List Int)) (y : (Int × (List Int) × (List Int) × (List Int))) (h : laws_FnSubRecv.l2 l1 x2_1 x2_3 x2_4 x2_5 x2_6 x2_7 x2_8 x2_9 x2_10 x2_11 x2_13 x2_0 x2_2 x2_12 x2_14 x2_15 = some y) : laws_FnSubRecv.l2_M cs0 o0 l0 hv0 cs1 o1 l1 hv1 x2_1 x2_3 x2_4 x2_5 x2_6 x2_7 x2_8 x2_9 x2_10 x2_11 x2_13 x2_0 x2_2 x2_12 x2_14 x2_15 y := by
 refine laws_FnSubRecv.l2.partial_correctness l1 x2_1 x2_3 x2_4 x2_5 x2_6 x2_7 x2_8 x2_9 x2_10 x2_11 x2_13 (motive := fun x2_0 x2_2 x2_12 x2_14 x2_15 y => laws_FnSubRecv.l2_M cs0 o0 l0 hv0 cs1 o1 l1 hv1 x2_1 x2_3 x2_4 x2_5 x2_6 x2_7 x2_8 x2_9 x2_10 x2_11 x2_13 x2_0 x2_2 x2_12 x2_14 x2_15 y) ?_ x2_0 x2_2 x2_12 x2_14 x2_15 y h
 clear h
 unfold laws_FnSubRecv.l2_M
 intro rec ih x2_0 x2_2 x2_12 x2_14 x2_15 y h K hx0
 refine loop_unroll (ga_k fun G2 G2n G2r G2x => ?_)
 unfold C7_l2
 refine seq_k fun J118 hJ118 => ?_
 refine sr_k fun J119 hJ119 => ?_
 obtain ⟨b120, h⟩ := of_guard h
 have g121 : 0 + x2_1.toNat * 5 + 1 ≤ (encL c66 x2_11).length := ((Vw.whole c66_w x2_11).len_le b120.1 b120.2 (by decide))
 have g122 : (encL c66 x2_11)[0 + x2_1.toNat * 5 + 1]? = some (.own 3 (((rd z66 x2_11 x2_1).f1).length) (encL c68 ((rd z66 x2_11 x2_1).f1))) := (Vw.whole c66_w x2_11).get z66 1 b120.1 b120.2 (by decide)
 simp +decide only [Nat.reduceAdd, Nat.reduceMul, Int.reduceToNat, ak, b120, g121, g122]
 refine hJ119 _ ?_
 refine cond_k (b := decide (x2_2 < (((rd z66 x2_11 x2_1).f1).length : Int))) rfl (fun c123 => ?_) (fun c123 => ?_)
 ·replace c123 := of_decide_eq_true c123; rw [if_pos c123] at h
  refine hJ118 _ ?_
  obtain ⟨j124, h125, hn⟩ := of_bind h
  refine seq_j (fun st => st = ⟨[(1, .c (.ref (.arg 1) [] o1 l1.length)), (5, .c (.ptr (.tmp 5 0) [] 0)), (6, .c (.ref (.tmp 41 0) [] 0 x2_9.length)), (7, .c (.ref (.tmp 52 0) [] 0 x2_10.length)), (9, .c (.ref (.tmp 58 0) [] 0 x2_11.length)), (11, .c (.ref (.tmp 73 0) [] 0 j124.2.1.length)), (12, .c (.ref (.tmp 74 0) [] 0 x2_13.length)), (13, .c (.ref (.tmp 75 0) [] 0 j124.2.2.1.length)), (14, .c (.ref (.tmp 76 0) [] 0 j124.2.2.2.length)), (15, .c (.sc (.int .i64 j124.1))), (16, .c (.sc (.int .i64 x2_1))), (18, .c (.sc (.int .i64 x2_2)))], [(.arg 0, ⟨.fz, 1, cs0⟩), (.arg 1, ⟨.fz, 1, cs1⟩), (.tmp 5 0, ⟨.box, 0, [.sc (.int .u32 x2_3), .sc (.int .i64 x2_4), .sc (.int .i64 x2_5), .sc (.int .i64 x2_6), .sc (.int .i64 x2_7), .sc (.int .i64 x2_8)]⟩), (.tmp 41 0, ⟨.lst, 3, encL c63 x2_9⟩), (.tmp 52 0, ⟨.lst, 5, encL c66 x2_10⟩), (.tmp 58 0, ⟨.lst, 5, encL c66 x2_11⟩), (.tmp 73 0, ⟨.lst, 1, encL c_i64 j124.2.1⟩), (.tmp 74 0, ⟨.lst, 1, encL c_i64 x2_13⟩), (.tmp 75 0, ⟨.lst, 1, encL c_u32 j124.2.2.1⟩), (.tmp 76 0, ⟨.lst, 1, encL c_i64 j124.2.2.2⟩)], [], []⟩) (fun J126 hJ126 => ?_) ?_
  ·replace h := h125; clear hn
   refine ga_k fun G127 G127n G127r G127x => ?_
   refine block_k fun B128 B128n B128x B128r B128j => ?_
   refine sr_k fun J129 hJ129 => ?_
   obtain ⟨b130, h⟩ := of_guard h
   have g131 : (List.drop (0 + x2_2.toNat * 3) (encL c68 ((rd z66 x2_11 x2_1).f1))).take 3 = [.sc (.int .i64 ((rd z68 ((rd z66 x2_11 x2_1).f1) x2_2).f0)), .sc (.int .u32 ((rd z68 ((rd z66 x2_11 x2_1).f1) x2_2).f1)), .sc (.int .i64 ((rd z68 ((rd z66 x2_11 x2_1).f1) x2_2).f2))] := (Vw.whole c68_w ((rd z66 x2_11 x2_1).f1)).stretch z68 b130.1 b130.2
   simp +decide only [Nat.reduceAdd, Nat.reduceMul, Int.reduceToNat, ak, b120, g121, g122, b130, g131]
   refine hJ129 _ ?_
   refine seq_k fun J132 hJ132 => ?_
   refine sr_k fun J133 hJ133 => ?_
   simp +decide only [Nat.reduceAdd, Nat.reduceMul, Int.reduceToNat, ak]
   refine hJ133 _ ?_
   refine cond_k (b := decide ((rd z68 ((rd z66 x2_11 x2_1).f1) x2_2).f0 = 3)) rfl (fun c134 => ?_) (fun c134 => ?_)
   ·replace c134 := of_decide_eq_true c134; rw [if_pos c134] at h
    refine B128x _ ?_
    obtain rfl := Option.some.inj h
    refine G127n _ _ (wk [1, 5, 6, 7, 9, 11, 12, 13, 14, 15, 16, 18] [pI (.arg 0) .fz, pI (.arg 1) .fz, pI (.tmp 5 0) .box, pI (.tmp 41 0) .lst, pI (.tmp 52 0) .lst, pI (.tmp 58 0) .lst, pI (.tmp 73 0) .lst, pI (.tmp 74 0) .lst, pI (.tmp 75 0) .lst, pI (.tmp 76 0) .lst]) (hJ126 _ rfl)
   ·replace c134 := of_decide_eq_false c134; rw [if_neg c134] at h
    refine hJ132 _ ?_
    obtain ⟨j135, h136, hn⟩ := of_bind h
    refine seq_j (fun st => st = ⟨[(1, .c (.ref (.arg 1) [] o1 l1.length)), (5, .c (.ptr (.tmp 5 0) [] 0)), (6, .c (.ref (.tmp 41 0) [] 0 x2_9.length)), (7, .c (.ref (.tmp 52 0) [] 0 x2_10.length)), (9, .c (.ref (.tmp 58 0) [] 0 x2_11.length)), (11, .c (.ref (.tmp 73 0) [] 0 j135.length)), (12, .c (.ref (.tmp 74 0) [] 0 x2_13.length)), (13, .c (.ref (.tmp 75 0) [] 0 x2_14.length)), (14, .c (.ref (.tmp 76 0) [] 0 x2_15.length)), (15, .c (.sc (.int .i64 x2_0))), (16, .c (.sc (.int .i64 x2_1))), (18, .c (.sc (.int .i64 x2_2))), (19, .c (.ptr (.tmp 19 0) [] 0))], [(.arg 0, ⟨.fz, 1, cs0⟩), (.arg 1, ⟨.fz, 1, cs1⟩), (.tmp 5 0, ⟨.box, 0, [.sc (.int .u32 x2_3), .sc (.int .i64 x2_4), .sc (.int .i64 x2_5), .sc (.int .i64 x2_6), .sc (.int .i64 x2_7), .sc (.int .i64 x2_8)]⟩), (.tmp 41 0, ⟨.lst, 3, encL c63 x2_9⟩), (.tmp 52 0, ⟨.lst, 5, encL c66 x2_10⟩), (.tmp 58 0, ⟨.lst, 5, encL c66 x2_11⟩), (.tmp 73 0, ⟨.lst, 1, encL c_i64 j135⟩), (.tmp 74 0, ⟨.lst, 1, encL c_i64 x2_13⟩), (.tmp 75 0, ⟨.lst, 1, encL c_u32 x2_14⟩), (.tmp 76 0, ⟨.lst, 1, encL c_i64 x2_15⟩), (.tmp 19 0, ⟨.box, 0, [.sc (.int .i64 ((rd z68 ((rd z66 x2_11 x2_1).f1) x2_2).f0)), .sc (.int .u32 ((rd z68 ((rd z66 x2_11 x2_1).f1) x2_2).f1)), .sc (.int .i64 ((rd z68 ((rd z66 x2_11 x2_1).f1) x2_2).f2))]⟩)], [], []⟩) (fun J137 hJ137 => ?_) ?_
    ·replace h := h136; clear hn
     refine ga_k fun G138 G138n G138r G138x => ?_
     refine sr_k fun J139 hJ139 => ?_
     simp +decide only [Nat.reduceAdd, Nat.reduceMul, Int.reduceToNat, ak]
     refine hJ139 _ ?_
     refine cond_k (b := decide ((rd z68 ((rd z66 x2_11 x2_1).f1) x2_2).f0 = 1)) rfl (fun c142 => ?_) (fun c142 => ?_)
     ·replace c142 := of_decide_eq_true c142; rw [if_pos c142] at h
      refine reg_k ?_
      have g143 : (List.replicate 1 ([.int .i64 0] : List Value)).flatten = [.int .i64 0] := rfl
      have g144 : (⟨.lst, 1, [.sc (.int .i64 ((rd z68 ((rd z66 x2_11 x2_1).f1) x2_2).f2))]⟩ : Root) = ⟨.lst, 1, encL c_i64 ([(rd z68 ((rd z66 x2_11 x2_1).f1) x2_2).f2] : List Int)⟩ := rfl
      have g145 : ([(rd z68 ((rd z66 x2_11 x2_1).f1) x2_2).f2] : List Int).length = 1 := rfl
      have g146 : (encL c_i64 ([(rd z68 ((rd z66 x2_11 x2_1).f1) x2_2).f2] : List Int)).length = 1 * 1 := by simp [encL_length c_i64_w]
      have g147 : (encL c_i64 ([(rd z68 ((rd z66 x2_11 x2_1).f1) x2_2).f2] : List Int)).all nd = true := rfl
      obtain ⟨b148, h⟩ := of_guard h
      have g149 : appLim x2_12.length 1 8 := ⟨b148, by have := b148; omega⟩
      have g150 : (encL c_i64 x2_12).length = x2_12.length * 1 := by simp [encL_length c_i64_w]
      have g151 : encL c_i64 x2_12 ++ encL c_i64 ([(rd z68 ((rd z66 x2_11 x2_1).f1) x2_2).f2] : List Int) = encL c_i64 (x2_12 ++ ([(rd z68 ((rd z66 x2_11 x2_1).f1) x2_2).f2] : List Int)) := (encL_append _ _).symm
      simp +decide only [Nat.reduceAdd, Nat.reduceMul, Int.reduceToNat, ak, g143, g144, g145, g146, g147, g149, g150, g151]
      obtain rfl := Option.some.inj h
      refine G138n _ _ (wj [1, 5, 6, 7, 9, 11, 12, 13, 14, 15, 16, 18, 19] [pI (.arg 0) .fz, pI (.arg 1) .fz, pI (.tmp 5 0) .box, pI (.tmp 41 0) .lst, pI (.tmp 52 0) .lst, pI (.tmp 58 0) .lst, pI (.tmp 73 0) .lst, pI (.tmp 74 0) .lst, pI (.tmp 75 0) .lst, pI (.tmp 76 0) .lst, pI (.tmp 19 0) .box]) (hJ137 _ rfl)
     ·replace c142 := of_decide_eq_false c142; rw [if_neg c142] at h
      obtain rfl := Option.some.inj h
      refine G138n _ _ (wk [1, 5, 6, 7, 9, 11, 12, 13, 14, 15, 16, 18, 19] [pI (.arg 0) .fz, pI (.arg 1) .fz, pI (.tmp 5 0) .box, pI (.tmp 41 0) .lst, pI (.tmp 52 0) .lst, pI (.tmp 58 0) .lst, pI (.tmp 73 0) .lst, pI (.tmp 74 0) .lst, pI (.tmp 75 0) .lst, pI (.tmp 76 0) .lst, pI (.tmp 19 0) .box]) (hJ137 _ rfl)
    ·replace h := hn; clear hn h136
     rintro _ rfl
     refine sr_k fun J152 hJ152 => ?_
     simp +decide only [Nat.reduceAdd, Nat.reduceMul, Int.reduceToNat, ak]
     refine hJ152 _ ?_
     refine sr_k fun J153 hJ153 => ?_
     simp +decide only [Nat.reduceAdd, Nat.reduceMul, Int.reduceToNat, ak]
     refine hJ153 _ ?_
     refine block_k fun B154 B154n B154x B154r B154j => ?_
     obtain ⟨y191, h192, h⟩ := of_bind h
     refine gh_k (wk [1, 5, 6, 7, 9, 11, 12, 13, 14, 15, 16, 18, 19, 20] [pI (.arg 0) .fz, pI (.arg 1) .fz, pI (.tmp 5 0) .box, pI (.tmp 41 0) .lst, pI (.tmp 52 0) .lst, pI (.tmp 58 0) .lst, pI (.tmp 73 0) .lst, pI (.tmp 74 0) .lst, pI (.tmp 75 0) .lst, pI (.tmp 76 0) .lst, pI (.tmp 19 0) .box]) ?_
     rw [e_loop]
     refine laws_FnSubRecv.l3_walk cs0 o0 l0 hv0 cs1 o1 l1 hv1 (IntKind.i64.wrap (x2_0 + 1)) x2_1 x2_2 x2_3 x2_4 x2_5 x2_6 x2_7 x2_8 x2_9 x2_10 x2_11 j135 x2_13 ((rd z68 ((rd z66 x2_11 x2_1).f1) x2_2).f0) ((rd z68 ((rd z66 x2_11 x2_1).f1) x2_2).f1) ((rd z68 ((rd z66 x2_11 x2_1).f1) x2_2).f2) 0 x2_14 x2_15 _ h192 _ ?_
     refine B154x _ ?_
     refine B128n _ ?_
     obtain rfl := Option.some.inj h
     refine G127n _ _ (wk [1, 5, 6, 7, 9, 11, 12, 13, 14, 15, 16, 18] [pI (.arg 0) .fz, pI (.arg 1) .fz, pI (.tmp 5 0) .box, pI (.tmp 41 0) .lst, pI (.tmp 52 0) .lst, pI (.tmp 58 0) .lst, pI (.tmp 73 0) .lst, pI (.tmp 74 0) .lst, pI (.tmp 75 0) .lst, pI (.tmp 76 0) .lst]) (hJ126 _ rfl)
  ·replace h := hn; clear hn h125
   rintro _ rfl
   refine reg_k ?_
   simp +decide only [Nat.reduceAdd, Nat.reduceMul, Int.reduceToNat, ak]
   refine G2n _ _ (wk [1, 5, 6, 7, 9, 11, 12, 13, 14, 15, 16, 18] [pI (.arg 0) .fz, pI (.arg 1) .fz, pI (.tmp 5 0) .box, pI (.tmp 41 0) .lst, pI (.tmp 52 0) .lst, pI (.tmp 58 0) .lst, pI (.tmp 73 0) .lst, pI (.tmp 74 0) .lst, pI (.tmp 75 0) .lst, pI (.tmp 76 0) .lst]) (ih _ _ _ _ _ _ h K hx0)
 ·replace c123 := of_decide_eq_false c123; rw [if_neg c123] at h
  obtain rfl := Option.some.inj h
  refine gh_k (wk [1, 5, 6, 7, 9, 11, 12, 13, 14, 15, 16] [pI (.arg 0) .fz, pI (.arg 1) .fz, pI (.tmp 5 0) .box, pI (.tmp 41 0) .lst, pI (.tmp 52 0) .lst, pI (.tmp 58 0) .lst, pI (.tmp 73 0) .lst, pI (.tmp 74 0) .lst, pI (.tmp 75 0) .lst, pI (.tmp 76 0) .lst]) ?_
  refine G2x _ _ ?_
  exact hx0
def laws_FnSubRecv.l0_M (cs0 : List Cell) (o0 : Nat) (l0 : List Int) (hv0 : Vw c_u8 1 cs0 o0 l0) (cs1 : List Cell) (o1 : Nat) (l1 : List Int) (hv1 : Vw c_u8 1 cs1 o1 l1) (x0_2 : Int) (x0_3 : Int) (x0_4 : Int) (x0_5 : Int) (x0_6 : Int) (x0_7 : Int) (x0_8 : (List S63)) (x0_9 : (List S66)) (x0_10 : (List S66)) (x0_0 : Int) (x0_1 : Int) (x0_11 : (List Int)) (x0_12 : (List Int)) (x0_13 : (List Int)) (x0_14 : (List Int)) (y : Lp ((List Int) × (List Int) × (List Int) × (List Int)) Bool) : Prop := ∀ (K : AE → St → Prop), (∀ x, y = .a x → K (.exit 0) ⟨[(5, .c (.ptr (.tmp 5 0) [] 0)), (6, .c (.ref (.tmp 41 0) [] 0 x0_8.length)), (11, .c (.ref (.tmp 73 0) [] 0 x.1.length)), (12, .c (.ref (.tmp 74 0) [] 0 x.2.1.length)), (13, .c (.ref (.tmp 75 0) [] 0 x.2.2.1.length)), (14, .c (.ref (.tmp 76 0) [] 0 x.2.2.2.length))], [(.arg 0, ⟨.fz, 1, cs0⟩), (.arg 1, ⟨.fz, 1, cs1⟩), (.tmp 5 0, ⟨.box, 0, [.sc (.int .u32 x0_2), .sc (.int .i64 x0_3), .sc (.int .i64 x0_4), .sc (.int .i64 x0_5), .sc (.int .i64 x0_6), .sc (.int .i64 x0_7)]⟩), (.tmp 41 0, ⟨.lst, 3, encL c63 x0_8⟩), (.tmp 73 0, ⟨.lst, 1, encL c_i64 x.1⟩), (.tmp 74 0, ⟨.lst, 1, encL c_i64 x.2.1⟩), (.tmp 75 0, ⟨.lst, 1, encL c_u32 x.2.2.1⟩), (.tmp 76 0, ⟨.lst, 1, encL c_i64 x.2.2.2⟩)], [], []⟩) → (∀ x, y = .b x → K .ret ⟨[(4, .c (.sc (.bool x)))], [(.arg 0, ⟨.fz, 1, cs0⟩), (.arg 1, ⟨.fz, 1, cs1⟩)], [], []⟩) → loopS Try.prog 361 (.ga C7_l0) K ⟨[(1, .c (.ref (.arg 1) [] o1 l1.length)), (5, .c (.ptr (.tmp 5 0) [] 0)), (6, .c (.ref (.tmp 41 0) [] 0 x0_8.length)), (7, .c (.ref (.tmp 52 0) [] 0 x0_9.length)), (9, .c (.ref (.tmp 58 0) [] 0 x0_10.length)), (11, .c (.ref (.tmp 73 0) [] 0 x0_11.length)), (12, .c (.ref (.tmp 74 0) [] 0 x0_12.length)), (13, .c (.ref (.tmp 75 0) [] 0 x0_13.length)), (14, .c (.ref (.tmp 76 0) [] 0 x0_14.length)), (15, .c (.sc (.int .i64 x0_0))), (16, .c (.sc (.int .i64 x0_1)))], [(.arg 0, ⟨.fz, 1, cs0⟩), (.arg 1, ⟨.fz, 1, cs1⟩), (.tmp 5 0, ⟨.box, 0, [.sc (.int .u32 x0_2), .sc (.int .i64 x0_3), .sc (.int .i64 x0_4), .sc (.int .i64 x0_5), .sc (.int .i64 x0_6), .sc (.int .i64 x0_7)]⟩), (.tmp 41 0, ⟨.lst, 3, encL c63 x0_8⟩), (.tmp 52 0, ⟨.lst, 5, encL c66 x0_9⟩), (.tmp 58 0, ⟨.lst, 5, encL c66 x0_10⟩), (.tmp 73 0, ⟨.lst, 1, encL c_i64 x0_11⟩), (.tmp 74 0, ⟨.lst, 1, encL c_i64 x0_12⟩), (.tmp 75 0, ⟨.lst, 1, encL c_u32 x0_13⟩), (.tmp 76 0, ⟨.lst, 1, encL c_i64 x0_14⟩)], [], []⟩
theorem laws_FnSubRecv.l0_walk (cs0 : List Cell) (o0 : Nat) (l0 : List Int) (hv0 : Vw c_u8 1 cs0 o0 l0) (cs1 : List Cell) (o1 : Nat) (l1 : List Int) (hv1 : Vw c_u8 1 cs1 o1 l1) (x0_2 : Int) (x0_3 : Int) (x0_4 : Int) (x0_5 : Int) (x0_6 : Int) (x0_7 : Int) (x0_8 : (List S63)) (x0_9 : (List S66)) (x0_10 : (List S66)) (x0_0 : Int) (x0_1 : Int) (x0_11 : (List Int)) (x0_12 : (List Int)) (x0_13 : (List Int)) (x0_14 : (List Int)) (y : Lp ((List Int) × (List Int) × (List Int) × (List Int)) Bool) (h : laws_FnSubRecv.l0 l0 l1 x0_2 x0_3 x0_4 x0_5 x0_6 x0_7 x0_8 x0_9 x0_10 x0_0 x0_1 x0_11 x0_12 x0_13 x0_14 = some y) : laws_FnSubRecv.l0_M cs0 o0 l0 hv0 cs1 o1 l1 hv1 x0_2 x0_3 x0_4 x0_5 x0_6 x0_7 x0_8 x0_9 x0_10 x0_0 x0_1 x0_11 x0_12 x0_13 x0_14 y := by
 refine laws_FnSubRecv.l0.partial_correctness l0 l1 x0_2 x0_3 x0_4 x0_5 x0_6 x0_7 x0_8 x0_9 x0_10 (motive := fun x0_0 x0_1 x0_11 x0_12 x0_13 x0_14 y => laws_FnSubRecv.l0_M cs0 o0 l0 hv0 cs1 o1 l1 hv1 x0_2 x0_3 x0_4 x0_5 x0_6 x0_7 x0_8 x0_9 x0_10 x0_0 x0_1 x0_11 x0_12 x0_13 x0_14 y) ?_ x0_0 x0_1 x0_11 x0_12 x0_13 x0_14 y h
 clear h
 unfold laws_FnSubRecv.l0_M
 intro rec ih x0_0 x0_1 x0_11 x0_12 x0_13 x0_14 y h K hx0 hx1
 refine loop_unroll (ga_k fun G0 G0n G0r G0x => ?_)
 unfold C7_l0
 refine seq_k fun J64 hJ64 => ?_
 refine sr_k fun J65 hJ65 => ?_
 simp +decide only [Nat.reduceAdd, Nat.reduceMul, Int.reduceToNat, ak]
 refine hJ65 _ ?_
 refine cond_k (b := decide (x0_1 < (x0_10.length : Int))) rfl (fun c69 => ?_) (fun c69 => ?_)
 ·replace c69 := of_decide_eq_true c69; rw [if_pos c69] at h
  refine hJ64 _ ?_
  refine seq_k fun J70 hJ70 => ?_
  refine block_k fun B71 B71n B71x B71r B71j => ?_
  refine seq_k fun J72 hJ72 => ?_
  obtain ⟨j73, h74, hn⟩ := of_bind h
  refine seq_j (fun st => st = ⟨[(1, .c (.ref (.arg 1) [] o1 l1.length)), (5, .c (.ptr (.tmp 5 0) [] 0)), (6, .c (.ref (.tmp 41 0) [] 0 x0_8.length)), (7, .c (.ref (.tmp 52 0) [] 0 x0_9.length)), (9, .c (.ref (.tmp 58 0) [] 0 x0_10.length)), (11, .c (.ref (.tmp 73 0) [] 0 x0_11.length)), (12, .c (.ref (.tmp 74 0) [] 0 x0_12.length)), (13, .c (.ref (.tmp 75 0) [] 0 x0_13.length)), (14, .c (.ref (.tmp 76 0) [] 0 x0_14.length)), (15, .c (.sc (.int .i64 x0_0))), (16, .c (.sc (.int .i64 x0_1))), (108, .c (.sc (.bool j73)))], [(.arg 0, ⟨.fz, 1, cs0⟩), (.arg 1, ⟨.fz, 1, cs1⟩), (.tmp 5 0, ⟨.box, 0, [.sc (.int .u32 x0_2), .sc (.int .i64 x0_3), .sc (.int .i64 x0_4), .sc (.int .i64 x0_5), .sc (.int .i64 x0_6), .sc (.int .i64 x0_7)]⟩), (.tmp 41 0, ⟨.lst, 3, encL c63 x0_8⟩), (.tmp 52 0, ⟨.lst, 5, encL c66 x0_9⟩), (.tmp 58 0, ⟨.lst, 5, encL c66 x0_10⟩), (.tmp 73 0, ⟨.lst, 1, encL c_i64 x0_11⟩), (.tmp 74 0, ⟨.lst, 1, encL c_i64 x0_12⟩), (.tmp 75 0, ⟨.lst, 1, encL c_u32 x0_13⟩), (.tmp 76 0, ⟨.lst, 1, encL c_i64 x0_14⟩)], [], []⟩) (fun J75 hJ75 => ?_) ?_
  ·replace h := h74; clear hn
   refine ga_k fun G76 G76n G76r G76x => ?_
   refine regD_k ?_
   obtain ⟨b77, h⟩ := of_guard h
   have g78 : 0 + x0_1.toNat * 5 + 1 ≤ (encL c66 x0_10).length := ((Vw.whole c66_w x0_10).len_le b77.1 b77.2 (by decide))
   have g79 : (encL c66 x0_10)[0 + x0_1.toNat * 5 + 1]? = some (.own 3 (((rd z66 x0_10 x0_1).f1).length) (encL c68 ((rd z66 x0_10 x0_1).f1))) := (Vw.whole c66_w x0_10).get z66 1 b77.1 b77.2 (by decide)
   obtain ⟨b80, h⟩ := of_guard h
   have g81 : 0 + x0_1.toNat * 5 + 1 ≤ (encL c66 x0_9).length := ((Vw.whole c66_w x0_9).len_le b80.1 b80.2 (by decide))
   have g82 : (encL c66 x0_9)[0 + x0_1.toNat * 5 + 1]? = some (.own 3 (((rd z66 x0_9 x0_1).f1).length) (encL c68 ((rd z66 x0_9 x0_1).f1))) := (Vw.whole c66_w x0_9).get z66 1 b80.1 b80.2 (by decide)
   simp +decide only [Nat.reduceAdd, Nat.reduceMul, Int.reduceToNat, ak, b77, g78, g79, b80, g81, g82]
   by_cases c83 : (((rd z66 x0_10 x0_1).f1).length : Int) ≠ (((rd z66 x0_9 x0_1).f1).length : Int)
   ·rw [if_pos c83] at h
    have e84 : decide ((((rd z66 x0_10 x0_1).f1).length : Int) ≠ (((rd z66 x0_9 x0_1).f1).length : Int)) = true := decide_eq_true c83
    simp +decide only [Nat.reduceAdd, Nat.reduceMul, Int.reduceToNat, ak, e84]
    obtain rfl := Option.some.inj h
    refine G76n _ _ (wj [1, 5, 6, 7, 9, 11, 12, 13, 14, 15, 16, 108] [pI (.arg 0) .fz, pI (.arg 1) .fz, pI (.tmp 5 0) .box, pI (.tmp 41 0) .lst, pI (.tmp 52 0) .lst, pI (.tmp 58 0) .lst, pI (.tmp 73 0) .lst, pI (.tmp 74 0) .lst, pI (.tmp 75 0) .lst, pI (.tmp 76 0) .lst]) (hJ75 _ rfl)
   ·rw [if_neg c83] at h
    have e85 : decide ((((rd z66 x0_10 x0_1).f1).length : Int) ≠ (((rd z66 x0_9 x0_1).f1).length : Int)) = false := decide_eq_false c83
    have g86 : 0 + x0_1.toNat * 5 + 0 ≤ (encL c66 x0_10).length := ((Vw.whole c66_w x0_10).len_le b77.1 b77.2 (by decide))
    have g87 : (encL c66 x0_10)[0 + x0_1.toNat * 5 + 0]? = some (.sc (.int .i64 ((rd z66 x0_10 x0_1).f0))) := (Vw.whole c66_w x0_10).get z66 0 b77.1 b77.2 (by decide)
    have g88 : 0 + x0_1.toNat * 5 + 0 ≤ (encL c66 x0_9).length := ((Vw.whole c66_w x0_9).len_le b80.1 b80.2 (by decide))
    have g89 : (encL c66 x0_9)[0 + x0_1.toNat * 5 + 0]? = some (.sc (.int .i64 ((rd z66 x0_9 x0_1).f0))) := (Vw.whole c66_w x0_9).get z66 0 b80.1 b80.2 (by decide)
    simp +decide only [Nat.reduceAdd, Nat.reduceMul, Int.reduceToNat, ak, e85, b77, g86, g87, b80, g88, g89]
    obtain rfl := Option.some.inj h
    refine G76n _ _ (wj [1, 5, 6, 7, 9, 11, 12, 13, 14, 15, 16, 108] [pI (.arg 0) .fz, pI (.arg 1) .fz, pI (.tmp 5 0) .box, pI (.tmp 41 0) .lst, pI (.tmp 52 0) .lst, pI (.tmp 58 0) .lst, pI (.tmp 73 0) .lst, pI (.tmp 74 0) .lst, pI (.tmp 75 0) .lst, pI (.tmp 76 0) .lst]) (hJ75 _ rfl)
  ·replace h := hn; clear hn h74
   rintro _ rfl
   refine cond_k (b := j73) rfl (fun c90 => ?_) (fun c90 => ?_)
   ·rw [if_pos c90] at h
    refine sr_k fun J91 hJ91 => ?_
    simp +decide only [Nat.reduceAdd, Nat.reduceMul, Int.reduceToNat, ak]
    refine hJ91 _ ?_
    obtain rfl := Option.some.inj h
    refine gh_k (wk [4] [pI (.arg 0) .fz, pI (.arg 1) .fz]) ?_
    refine B71r _ ?_
    refine G0r _ ?_
    exact hx1 _ rfl
   ·rw [if_neg (Bool.eq_false_iff.1 c90)] at h
    refine hJ72 _ ?_
    refine seq_k fun J92 hJ92 => ?_
    refine sr_k fun J93 hJ93 => ?_
    simp +decide only [Nat.reduceAdd, Nat.reduceMul, Int.reduceToNat, ak]
    refine hJ93 _ ?_
    refine block_k fun B94 B94n B94x B94r B94j => ?_
    obtain ⟨y114, h115, h⟩ := of_bind h
    refine gh_k (wk [1, 5, 6, 7, 9, 11, 12, 13, 14, 15, 16, 17] [pI (.arg 0) .fz, pI (.arg 1) .fz, pI (.tmp 5 0) .box, pI (.tmp 41 0) .lst, pI (.tmp 52 0) .lst, pI (.tmp 58 0) .lst, pI (.tmp 73 0) .lst, pI (.tmp 74 0) .lst, pI (.tmp 75 0) .lst, pI (.tmp 76 0) .lst]) ?_
    rw [e_loop]
    refine laws_FnSubRecv.l1_walk cs0 o0 l0 hv0 cs1 o1 l1 hv1 x0_0 x0_1 x0_2 x0_3 x0_4 x0_5 x0_6 x0_7 x0_8 x0_9 x0_10 x0_11 x0_13 x0_14 0 x0_12 _ h115 _ ?_
    refine B94x _ ?_
    refine hJ92 _ ?_
    refine sr_k fun J116 hJ116 => ?_
    simp +decide only [Nat.reduceAdd, Nat.reduceMul, Int.reduceToNat, ak]
    refine hJ116 _ ?_
    refine block_k fun B117 B117n B117x B117r B117j => ?_
    obtain ⟨y193, h194, h⟩ := of_bind h
    refine gh_k (wk [1, 5, 6, 7, 9, 11, 12, 13, 14, 15, 16, 18] [pI (.arg 0) .fz, pI (.arg 1) .fz, pI (.tmp 5 0) .box, pI (.tmp 41 0) .lst, pI (.tmp 52 0) .lst, pI (.tmp 58 0) .lst, pI (.tmp 73 0) .lst, pI (.tmp 74 0) .lst, pI (.tmp 75 0) .lst, pI (.tmp 76 0) .lst]) ?_
    rw [e_loop]
    refine laws_FnSubRecv.l2_walk cs0 o0 l0 hv0 cs1 o1 l1 hv1 x0_1 x0_2 x0_3 x0_4 x0_5 x0_6 x0_7 x0_8 x0_9 x0_10 y114 x0_0 0 x0_11 x0_13 x0_14 _ h194 _ ?_
    refine B117x _ ?_
    refine B71n _ ?_
    refine hJ70 _ ?_
    refine reg_k ?_
    simp +decide only [Nat.reduceAdd, Nat.reduceMul, Int.reduceToNat, ak]
    refine G0n _ _ (wk [1, 5, 6, 7, 9, 11, 12, 13, 14, 15, 16] [pI (.arg 0) .fz, pI (.arg 1) .fz, pI (.tmp 5 0) .box, pI (.tmp 41 0) .lst, pI (.tmp 52 0) .lst, pI (.tmp 58 0) .lst, pI (.tmp 73 0) .lst, pI (.tmp 74 0) .lst, pI (.tmp 75 0) .lst, pI (.tmp 76 0) .lst]) (ih _ _ _ _ _ _ _ h K hx0 hx1)
 ·replace c69 := of_decide_eq_false c69; rw [if_neg c69] at h
  obtain rfl := Option.some.inj h
  refine gh_k (wk [5, 6, 11, 12, 13, 14] [pI (.arg 0) .fz, pI (.arg 1) .fz, pI (.tmp 5 0) .box, pI (.tmp 41 0) .lst, pI (.tmp 73 0) .lst, pI (.tmp 74 0) .lst, pI (.tmp 75 0) .lst, pI (.tmp 76 0) .lst]) ?_
  refine G0x _ _ ?_
  exact hx0 _ rfl
def laws_FnSubRecv.l4_M (cs0 : List Cell) (o0 : Nat) (l0 : List Int) (hv0 : Vw c_u8 1 cs0 o0 l0) (cs1 : List Cell) (o1 : Nat) (l1 : List Int) (hv1 : Vw c_u8 1 cs1 o1 l1) (x4_2 : Int) (x4_3 : Int) (x4_4 : Int) (x4_5 : Int) (x4_6 : Int) (x4_7 : Int) (x4_8 : (List S63)) (x4_9 : (List Int)) (x4_10 : (List Int)) (x4_11 : (List Int)) (x4_12 : (List S74)) (x4_0 : Int) (x4_1 : Int) (y : Lp Int Bool) : Prop := ∀ (K : AE → St → Prop), (∀ x, y = .a x → K (.exit 8) ⟨[(5, .c (.ptr (.tmp 5 0) [] 0)), (6, .c (.ref (.tmp 41 0) [] 0 x4_8.length)), (11, .c (.ref (.tmp 73 0) [] 0 x4_9.length)), (12, .c (.ref (.tmp 74 0) [] 0 x4_10.length)), (23, .c (.sc (.int .i64 x)))], [(.arg 0, ⟨.fz, 1, cs0⟩), (.arg 1, ⟨.fz, 1, cs1⟩), (.tmp 5 0, ⟨.box, 0, [.sc (.int .u32 x4_2), .sc (.int .i64 x4_3), .sc (.int .i64 x4_4), .sc (.int .i64 x4_5), .sc (.int .i64 x4_6), .sc (.int .i64 x4_7)]⟩), (.tmp 41 0, ⟨.lst, 3, encL c63 x4_8⟩), (.tmp 73 0, ⟨.lst, 1, encL c_i64 x4_9⟩), (.tmp 74 0, ⟨.lst, 1, encL c_i64 x4_10⟩)], [], []⟩) → (∀ x, y = .b x → K .ret ⟨[(4, .c (.sc (.bool x)))], [(.arg 0, ⟨.fz, 1, cs0⟩), (.arg 1, ⟨.fz, 1, cs1⟩)], [], []⟩) → loopS Try.prog 361 (.ga C7_l4) K ⟨[(5, .c (.ptr (.tmp 5 0) [] 0)), (6, .c (.ref (.tmp 41 0) [] 0 x4_8.length)), (11, .c (.ref (.tmp 73 0) [] 0 x4_9.length)), (12, .c (.ref (.tmp 74 0) [] 0 x4_10.length)), (14, .c (.ref (.tmp 76 0) [] 0 x4_11.length)), (21, .c (.ref (.tmp 198 0) [] 0 x4_12.length)), (23, .c (.sc (.int .i64 x4_0))), (24, .c (.sc (.int .i64 x4_1)))], [(.arg 0, ⟨.fz, 1, cs0⟩), (.arg 1, ⟨.fz, 1, cs1⟩), (.tmp 5 0, ⟨.box, 0, [.sc (.int .u32 x4_2), .sc (.int .i64 x4_3), .sc (.int .i64 x4_4), .sc (.int .i64 x4_5), .sc (.int .i64 x4_6), .sc (.int .i64 x4_7)]⟩), (.tmp 41 0, ⟨.lst, 3, encL c63 x4_8⟩), (.tmp 73 0, ⟨.lst, 1, encL c_i64 x4_9⟩), (.tmp 74 0, ⟨.lst, 1, encL c_i64 x4_10⟩), (.tmp 76 0, ⟨.lst, 1, encL c_i64 x4_11⟩), (.tmp 198 0, ⟨.lst, 2, encL c74 x4_12⟩)], [], []⟩
theorem laws_FnSubRecv.l4_walk (cs0 : List Cell) (o0 : Nat) (l0 : List Int) (hv0 : Vw c_u8 1 cs0 o0 l0) (cs1 : List Cell) (o1 : Nat) (l1 : List Int) (hv1 : Vw c_u8 1 cs1 o1 l1) (x4_2 : Int) (x4_3 : Int) (x4_4 : Int) (x4_5 : Int) (x4_6 : Int) (x4_7 : Int) (x4_8 : (List S63)) (x4_9 : (List Int)) (x4_10 : (List Int)) (x4_11 : (List Int)) (x4_12 : (List S74)) (x4_0 : Int) (x4_1 : Int) (y : Lp Int Bool) (h : laws_FnSubRecv.l4 x4_2 x4_3 x4_4 x4_5 x4_6 x4_7 x4_8 x4_9 x4_10 x4_11 x4_12 x4_0 x4_1 = some y) : laws_FnSubRecv.l4_M cs0 o0 l0 hv0 cs1 o1 l1 hv1 x4_2 x4_3 x4_4 x4_5 x4_6 x4_7 x4_8 x4_9 x4_10 x4_11 x4_12 x4_0 x4_1 y := by
 refine laws_FnSubRecv.l4.partial_correctness x4_2 x4_3 x4_4 x4_5 x4_6 x4_7 x4_8 x4_9 x4_10 x4_11 x4_12 (motive := fun x4_0 x4_1 y => laws_FnSubRecv.l4_M cs0 o0 l0 hv0 cs1 o1 l1 hv1 x4_2 x4_3 x4_4 x4_5 x4_6 x4_7 x4_8 x4_9 x4_10 x4_11 x4_12 x4_0 x4_1 y) ?_ x4_0 x4_1 y h
 clear h
 unfold laws_FnSubRecv.l4_M
 intro rec ih x4_0 x4_1 y h K hx0 hx1
 refine loop_unroll (ga_k fun G4 G4n G4r G4x => ?_)
 unfold C7_l4
 refine seq_k fun J220 hJ220 => ?_
 refine sr_k fun J221 hJ221 => ?_
 simp +decide only [Nat.reduceAdd, Nat.reduceMul, Int.reduceToNat, ak]
 refine hJ221 _ ?_
 refine cond_k (b := decide (x4_1 < (x4_12.length : Int))) rfl (fun c224 => ?_) (fun c224 => ?_)
 ·replace c224 := of_decide_eq_true c224; rw [if_pos c224] at h
  refine hJ220 _ ?_
  refine seq_k fun J225 hJ225 => ?_
  refine block_k fun B226 B226n B226x B226r B226j => ?_
  refine seq_k fun J227 hJ227 => ?_
  refine sr_k fun J228 hJ228 => ?_
  obtain ⟨b229, h⟩ := of_guard h
  have g230 : 0 + x4_1.toNat * 2 + 0 ≤ (encL c74 x4_12).length := ((Vw.whole c74_w x4_12).len_le b229.1 b229.2 (by decide))
  have g231 : (encL c74 x4_12)[0 + x4_1.toNat * 2 + 0]? = some (.sc (.int .i64 ((rd z74 x4_12 x4_1).f0))) := (Vw.whole c74_w x4_12).get z74 0 b229.1 b229.2 (by decide)
  simp +decide only [Nat.reduceAdd, Nat.reduceMul, Int.reduceToNat, ak, b229, g230, g231]
  refine hJ228 _ ?_
  refine cond_k (b := decide ((rd z74 x4_12 x4_1).f0 = 1)) rfl (fun c232 => ?_) (fun c232 => ?_)
  ·replace c232 := of_decide_eq_true c232; rw [if_pos c232] at h
   refine seq_k fun J233 hJ233 => ?_
   obtain ⟨j234, h235, hn⟩ := of_bind h
   refine seq_j (fun st => st = ⟨[(5, .c (.ptr (.tmp 5 0) [] 0)), (6, .c (.ref (.tmp 41 0) [] 0 x4_8.length)), (11, .c (.ref (.tmp 73 0) [] 0 x4_9.length)), (12, .c (.ref (.tmp 74 0) [] 0 x4_10.length)), (14, .c (.ref (.tmp 76 0) [] 0 x4_11.length)), (21, .c (.ref (.tmp 198 0) [] 0 x4_12.length)), (23, .c (.sc (.int .i64 x4_0))), (24, .c (.sc (.int .i64 x4_1))), (241, .c (.sc (.bool j234)))], [(.arg 0, ⟨.fz, 1, cs0⟩), (.arg 1, ⟨.fz, 1, cs1⟩), (.tmp 5 0, ⟨.box, 0, [.sc (.int .u32 x4_2), .sc (.int .i64 x4_3), .sc (.int .i64 x4_4), .sc (.int .i64 x4_5), .sc (.int .i64 x4_6), .sc (.int .i64 x4_7)]⟩), (.tmp 41 0, ⟨.lst, 3, encL c63 x4_8⟩), (.tmp 73 0, ⟨.lst, 1, encL c_i64 x4_9⟩), (.tmp 74 0, ⟨.lst, 1, encL c_i64 x4_10⟩), (.tmp 76 0, ⟨.lst, 1, encL c_i64 x4_11⟩), (.tmp 198 0, ⟨.lst, 2, encL c74 x4_12⟩)], [], []⟩) (fun J236 hJ236 => ?_) ?_
   ·replace h := h235; clear hn
    refine ga_k fun G237 G237n G237r G237x => ?_
    refine regD_k ?_
    simp +decide only [Nat.reduceAdd, Nat.reduceMul, Int.reduceToNat, ak]
    by_cases c238 : x4_0 ≥ (x4_9.length : Int)
    ·rw [if_pos c238] at h
     have e239 : decide (x4_0 ≥ (x4_9.length : Int)) = true := decide_eq_true c238
     simp +decide only [Nat.reduceAdd, Nat.reduceMul, Int.reduceToNat, ak, e239]
     obtain rfl := Option.some.inj h
     refine G237n _ _ (wj [5, 6, 11, 12, 14, 21, 23, 24, 241] [pI (.arg 0) .fz, pI (.arg 1) .fz, pI (.tmp 5 0) .box, pI (.tmp 41 0) .lst, pI (.tmp 73 0) .lst, pI (.tmp 74 0) .lst, pI (.tmp 76 0) .lst, pI (.tmp 198 0) .lst]) (hJ236 _ rfl)
    ·rw [if_neg c238] at h
     have e240 : decide (x4_0 ≥ (x4_9.length : Int)) = false := decide_eq_false c238
     obtain ⟨b241, h⟩ := of_guard h
     have g242 : (encL c_i64 x4_11)[0 + x4_1.toNat * 1]? = some (.sc (.int .i64 (rd 0 x4_11 x4_1))) := (Vw.whole c_i64_w x4_11).get 0 0 b241.1 b241.2 (by decide)
     obtain ⟨b243, h⟩ := of_guard h
     have g244 : (encL c_i64 x4_9)[0 + x4_0.toNat * 1]? = some (.sc (.int .i64 (rd 0 x4_9 x4_0))) := (Vw.whole c_i64_w x4_9).get 0 0 b243.1 b243.2 (by decide)
     simp +decide only [Nat.reduceAdd, Nat.reduceMul, Int.reduceToNat, ak, e240, b241, g242, b243, g244]
     obtain rfl := Option.some.inj h
     refine G237n _ _ (wj [5, 6, 11, 12, 14, 21, 23, 24, 241] [pI (.arg 0) .fz, pI (.arg 1) .fz, pI (.tmp 5 0) .box, pI (.tmp 41 0) .lst, pI (.tmp 73 0) .lst, pI (.tmp 74 0) .lst, pI (.tmp 76 0) .lst, pI (.tmp 198 0) .lst]) (hJ236 _ rfl)
   ·replace h := hn; clear hn h235
    rintro _ rfl
    refine cond_k (b := j234) rfl (fun c245 => ?_) (fun c245 => ?_)
    ·rw [if_pos c245] at h
     refine sr_k fun J246 hJ246 => ?_
     simp +decide only [Nat.reduceAdd, Nat.reduceMul, Int.reduceToNat, ak]
     refine hJ246 _ ?_
     obtain rfl := Option.some.inj h
     refine gh_k (wk [4] [pI (.arg 0) .fz, pI (.arg 1) .fz]) ?_
     refine B226r _ ?_
     refine G4r _ ?_
     exact hx1 _ rfl
    ·rw [if_neg (Bool.eq_false_iff.1 c245)] at h
     refine hJ233 _ ?_
     refine reg_k ?_
     simp +decide only [Nat.reduceAdd, Nat.reduceMul, Int.reduceToNat, ak]
     refine hJ227 _ ?_
     refine sd_k fun J247 hJ247 => ?_
     have g248 : 0 + x4_1.toNat * 2 + 1 ≤ (encL c74 x4_12).length := ((Vw.whole c74_w x4_12).len_le b229.1 b229.2 (by decide))
     have g249 : (encL c74 x4_12)[0 + x4_1.toNat * 2 + 1]? = some (.sc (.int .u32 ((rd z74 x4_12 x4_1).f1))) := (Vw.whole c74_w x4_12).get z74 1 b229.1 b229.2 (by decide)
     simp +decide only [Nat.reduceAdd, Nat.reduceMul, Int.reduceToNat, ak, b229, g248, g249]
     refine hJ247 _ ?_
     refine cond_k (b := decide ((rd z74 x4_12 x4_1).f1 ≠ IntKind.u32.wrap (x4_2 + (IntKind.u32.wrap (IntKind.i64.wrap (x4_0 + 1)))))) rfl (fun c250 => ?_) (fun c250 => ?_)
     ·replace c250 := of_decide_eq_true c250; rw [if_pos c250] at h
      refine sr_k fun J251 hJ251 => ?_
      simp +decide only [Nat.reduceAdd, Nat.reduceMul, Int.reduceToNat, ak]
      refine hJ251 _ ?_
      obtain rfl := Option.some.inj h
      refine gh_k (wk [4] [pI (.arg 0) .fz, pI (.arg 1) .fz]) ?_
      refine B226r _ ?_
      refine G4r _ ?_
      exact hx1 _ rfl
     ·replace c250 := of_decide_eq_false c250; rw [if_neg c250] at h
      refine B226n _ ?_
      refine hJ225 _ ?_
      refine reg_k ?_
      simp +decide only [Nat.reduceAdd, Nat.reduceMul, Int.reduceToNat, ak]
      refine G4n _ _ (wk [5, 6, 11, 12, 14, 21, 23, 24] [pI (.arg 0) .fz, pI (.arg 1) .fz, pI (.tmp 5 0) .box, pI (.tmp 41 0) .lst, pI (.tmp 73 0) .lst, pI (.tmp 74 0) .lst, pI (.tmp 76 0) .lst, pI (.tmp 198 0) .lst]) (ih _ _ _ h K hx0 hx1)
  ·replace c232 := of_decide_eq_false c232; rw [if_neg c232] at h
   refine hJ227 _ ?_
   refine sd_k fun J252 hJ252 => ?_
   have g253 : 0 + x4_1.toNat * 2 + 1 ≤ (encL c74 x4_12).length := ((Vw.whole c74_w x4_12).len_le b229.1 b229.2 (by decide))
   have g254 : (encL c74 x4_12)[0 + x4_1.toNat * 2 + 1]? = some (.sc (.int .u32 ((rd z74 x4_12 x4_1).f1))) := (Vw.whole c74_w x4_12).get z74 1 b229.1 b229.2 (by decide)
   simp +decide only [Nat.reduceAdd, Nat.reduceMul, Int.reduceToNat, ak, b229, g253, g254]
   refine hJ252 _ ?_
   refine cond_k (b := decide ((rd z74 x4_12 x4_1).f1 ≠ IntKind.u32.wrap (x4_2 + (IntKind.u32.wrap x4_0)))) rfl (fun c255 => ?_) (fun c255 => ?_)
   ·replace c255 := of_decide_eq_true c255; rw [if_pos c255] at h
    refine sr_k fun J256 hJ256 => ?_
    simp +decide only [Nat.reduceAdd, Nat.reduceMul, Int.reduceToNat, ak]
    refine hJ256 _ ?_
    obtain rfl := Option.some.inj h
    refine gh_k (wk [4] [pI (.arg 0) .fz, pI (.arg 1) .fz]) ?_
    refine B226r _ ?_
    refine G4r _ ?_
    exact hx1 _ rfl
   ·replace c255 := of_decide_eq_false c255; rw [if_neg c255] at h
    refine B226n _ ?_
    refine hJ225 _ ?_
    refine reg_k ?_
    simp +decide only [Nat.reduceAdd, Nat.reduceMul, Int.reduceToNat, ak]
    refine G4n _ _ (wk [5, 6, 11, 12, 14, 21, 23, 24] [pI (.arg 0) .fz, pI (.arg 1) .fz, pI (.tmp 5 0) .box, pI (.tmp 41 0) .lst, pI (.tmp 73 0) .lst, pI (.tmp 74 0) .lst, pI (.tmp 76 0) .lst, pI (.tmp 198 0) .lst]) (ih _ _ _ h K hx0 hx1)
 ·replace c224 := of_decide_eq_false c224; rw [if_neg c224] at h
  obtain rfl := Option.some.inj h
  refine gh_k (wk [5, 6, 11, 12, 23] [pI (.arg 0) .fz, pI (.arg 1) .fz, pI (.tmp 5 0) .box, pI (.tmp 41 0) .lst, pI (.tmp 73 0) .lst, pI (.tmp 74 0) .lst]) ?_
  refine G4x _ _ ?_
  exact hx0 _ rfl
def laws_FnSubRecv.l5_M (cs0 : List Cell) (o0 : Nat) (l0 : List Int) (hv0 : Vw c_u8 1 cs0 o0 l0) (cs1 : List Cell) (o1 : Nat) (l1 : List Int) (hv1 : Vw c_u8 1 cs1 o1 l1) (x5_0 : Int) (x5_2 : Int) (x5_3 : Int) (x5_4 : Int) (x5_5 : Int) (x5_6 : Int) (x5_7 : Int) (x5_8 : (List S63)) (x5_9 : (List Int)) (x5_10 : (List Int)) (x5_1 : Int) (y : Lp Unit Bool) : Prop := ∀ (K : AE → St → Prop), (∀ x, y = .a x → K (.exit 10) ⟨[(5, .c (.ptr (.tmp 5 0) [] 0)), (6, .c (.ref (.tmp 41 0) [] 0 x5_8.length)), (11, .c (.ref (.tmp 73 0) [] 0 x5_9.length)), (12, .c (.ref (.tmp 74 0) [] 0 x5_10.length)), (23, .c (.sc (.int .i64 x5_0)))], [(.arg 0, ⟨.fz, 1, cs0⟩), (.arg 1, ⟨.fz, 1, cs1⟩), (.tmp 5 0, ⟨.box, 0, [.sc (.int .u32 x5_2), .sc (.int .i64 x5_3), .sc (.int .i64 x5_4), .sc (.int .i64 x5_5), .sc (.int .i64 x5_6), .sc (.int .i64 x5_7)]⟩), (.tmp 41 0, ⟨.lst, 3, encL c63 x5_8⟩), (.tmp 73 0, ⟨.lst, 1, encL c_i64 x5_9⟩), (.tmp 74 0, ⟨.lst, 1, encL c_i64 x5_10⟩)], [], []⟩) → (∀ x, y = .b x → K .ret ⟨[(4, .c (.sc (.bool x)))], [(.arg 0, ⟨.fz, 1, cs0⟩), (.arg 1, ⟨.fz, 1, cs1⟩)], [], []⟩) → loopS Try.prog 361 (.ga C7_l5) K ⟨[(5, .c (.ptr (.tmp 5 0) [] 0)), (6, .c (.ref (.tmp 41 0) [] 0 x5_8.length)), (11, .c (.ref (.tmp 73 0) [] 0 x5_9.length)), (12, .c (.ref (.tmp 74 0) [] 0 x5_10.length)), (23, .c (.sc (.int .i64 x5_0))), (25, .c (.sc (.int .i64 x5_1)))], [(.arg 0, ⟨.fz, 1, cs0⟩), (.arg 1, ⟨.fz, 1, cs1⟩), (.tmp 5 0, ⟨.box, 0, [.sc (.int .u32 x5_2), .sc (.int .i64 x5_3), .sc (.int .i64 x5_4), .sc (.int .i64 x5_5), .sc (.int .i64 x5_6), .sc (.int .i64 x5_7)]⟩), (.tmp 41 0, ⟨.lst, 3, encL c63 x5_8⟩), (.tmp 73 0, ⟨.lst, 1, encL c_i64 x5_9⟩), (.tmp 74 0, ⟨.lst, 1, encL c_i64 x5_10⟩)], [], []⟩
theorem laws_FnSubRecv.l5_walk (cs0 : List Cell) (o0 : Nat) (l0 : List Int) (hv0 : Vw c_u8 1 cs0 o0 l0) (cs1 : List Cell) (o1 : Nat) (l1 : List Int) (hv1 : Vw c_u8 1 cs1 o1 l1) (x5_0 : Int) (x5_2 : Int) (x5_3 : Int) (x5_4 : Int) (x5_5 : Int) (x5_6 : Int) (x5_7 : Int) (x5_8 : (List S63)) (x5_9 : (List Int)) (x5_10 : (List Int)) (x5_1 : Int) (y : Lp Unit Bool) (h : laws_FnSubRecv.l5 x5_0 x5_2 x5_3 x5_4 x5_5 x5_6 x5_7 x5_8 x5_9 x5_10 x5_1 = some y) : laws_FnSubRecv.l5_M cs0 o0 l0 hv0 cs1 o1 l1 hv1 x5_0 x5_2 x5_3 x5_4 x5_5 x5_6 x5_7 x5_8 x5_9 x5_10 x5_1 y := by
 refine laws_FnSubRecv.l5.partial_correctness x5_0 x5_2 x5_3 x5_4 x5_5 x5_6 x5_7 x5_8 x5_9 x5_10 (motive := fun x5_1 y => laws_FnSubRecv.l5_M cs0 o0 l0 hv0 cs1 o1 l1 hv1 x5_0 x5_2 x5_3 x5_4 x5_5 x5_6 x5_7 x5_8 x5_9 x5_10 x5_1 y) ?_ x5_1 y h
 clear h
 unfold laws_FnSubRecv.l5_M
 intro rec ih x5_1 y h K hx0 hx1
 refine loop_unroll (ga_k fun G5 G5n G5r G5x => ?_)
 unfold C7_l5
 refine seq_k fun J263 hJ263 => ?_
 refine sr_k fun J264 hJ264 => ?_
 simp +decide only [Nat.reduceAdd, Nat.reduceMul, Int.reduceToNat, ak]
 refine hJ264 _ ?_
 refine cond_k (b := decide (x5_1 < (x5_10.length : Int))) rfl (fun c267 => ?_) (fun c267 => ?_)
 ·replace c267 := of_decide_eq_true c267; rw [if_pos c267] at h
  refine hJ263 _ ?_
  refine seq_k fun J268 hJ268 => ?_
  refine block_k fun B269 B269n B269x B269r B269j => ?_
  obtain ⟨j270, h271, hn⟩ := of_bind h
  refine seq_j (fun st => st = ⟨[(5, .c (.ptr (.tmp 5 0) [] 0)), (6, .c (.ref (.tmp 41 0) [] 0 x5_8.length)), (11, .c (.ref (.tmp 73 0) [] 0 x5_9.length)), (12, .c (.ref (.tmp 74 0) [] 0 x5_10.length)), (23, .c (.sc (.int .i64 x5_0))), (25, .c (.sc (.int .i64 x5_1))), (275, .c (.sc (.bool j270)))], [(.arg 0, ⟨.fz, 1, cs0⟩), (.arg 1, ⟨.fz, 1, cs1⟩), (.tmp 5 0, ⟨.box, 0, [.sc (.int .u32 x5_2), .sc (.int .i64 x5_3), .sc (.int .i64 x5_4), .sc (.int .i64 x5_5), .sc (.int .i64 x5_6), .sc (.int .i64 x5_7)]⟩), (.tmp 41 0, ⟨.lst, 3, encL c63 x5_8⟩), (.tmp 73 0, ⟨.lst, 1, encL c_i64 x5_9⟩), (.tmp 74 0, ⟨.lst, 1, encL c_i64 x5_10⟩)], [], []⟩) (fun J272 hJ272 => ?_) ?_
  ·replace h := h271; clear hn
   refine ga_k fun G273 G273n G273r G273x => ?_
   refine regD_k ?_
   simp +decide only [Nat.reduceAdd, Nat.reduceMul, Int.reduceToNat, ak]
   by_cases c276 : x5_1 ≥ (x5_9.length : Int)
   ·rw [if_pos c276] at h
    have e277 : decide (x5_1 ≥ (x5_9.length : Int)) = true := decide_eq_true c276
    simp +decide only [Nat.reduceAdd, Nat.reduceMul, Int.reduceToNat, ak, e277]
    obtain rfl := Option.some.inj h
    refine G273n _ _ (wj [5, 6, 11, 12, 23, 25, 275] [pI (.arg 0) .fz, pI (.arg 1) .fz, pI (.tmp 5 0) .box, pI (.tmp 41 0) .lst, pI (.tmp 73 0) .lst, pI (.tmp 74 0) .lst]) (hJ272 _ rfl)
   ·rw [if_neg c276] at h
    have e278 : decide (x5_1 ≥ (x5_9.length : Int)) = false := decide_eq_false c276
    obtain ⟨b279, h⟩ := of_guard h
    have g280 : (encL c_i64 x5_10)[0 + x5_1.toNat * 1]? = some (.sc (.int .i64 (rd 0 x5_10 x5_1))) := (Vw.whole c_i64_w x5_10).get 0 0 b279.1 b279.2 (by decide)
    obtain ⟨b281, h⟩ := of_guard h
    have g282 : (encL c_i64 x5_9)[0 + x5_1.toNat * 1]? = some (.sc (.int .i64 (rd 0 x5_9 x5_1))) := (Vw.whole c_i64_w x5_9).get 0 0 b281.1 b281.2 (by decide)
    simp +decide only [Nat.reduceAdd, Nat.reduceMul, Int.reduceToNat, ak, e278, b279, g280, b281, g282]
    obtain rfl := Option.some.inj h
    refine G273n _ _ (wj [5, 6, 11, 12, 23, 25, 275] [pI (.arg 0) .fz, pI (.arg 1) .fz, pI (.tmp 5 0) .box, pI (.tmp 41 0) .lst, pI (.tmp 73 0) .lst, pI (.tmp 74 0) .lst]) (hJ272 _ rfl)
  ·replace h := hn; clear hn h271
   rintro _ rfl
   refine cond_k (b := j270) rfl (fun c283 => ?_) (fun c283 => ?_)
   ·rw [if_pos c283] at h
    refine sr_k fun J284 hJ284 => ?_
    simp +decide only [Nat.reduceAdd, Nat.reduceMul, Int.reduceToNat, ak]
    refine hJ284 _ ?_
    obtain rfl := Option.some.inj h
    refine gh_k (wk [4] [pI (.arg 0) .fz, pI (.arg 1) .fz]) ?_
    refine B269r _ ?_
    refine G5r _ ?_
    exact hx1 _ rfl
   ·rw [if_neg (Bool.eq_false_iff.1 c283)] at h
    refine B269n _ ?_
    refine hJ268 _ ?_
    refine reg_k ?_
    simp +decide only [Nat.reduceAdd, Nat.reduceMul, Int.reduceToNat, ak]
    refine G5n _ _ (wk [5, 6, 11, 12, 23, 25] [pI (.arg 0) .fz, pI (.arg 1) .fz, pI (.tmp 5 0) .box, pI (.tmp 41 0) .lst, pI (.tmp 73 0) .lst, pI (.tmp 74 0) .lst]) (ih _ _ h K hx0 hx1)
 ·replace c267 := of_decide_eq_false c267; rw [if_neg c267] at h
  obtain rfl := Option.some.inj h
  refine gh_k (wk [5, 6, 11, 12, 23] [pI (.arg 0) .fz, pI (.arg 1) .fz, pI (.tmp 5 0) .box, pI (.tmp 41 0) .lst, pI (.tmp 73 0) .lst, pI (.tmp 74 0) .lst]) ?_
  refine G5x _ _ ?_
  exact hx0 _ rfl
theorem laws_FnSubRecv.tri (cs0 : List Cell) (o0 : Nat) (l0 : List Int) (hv0 : Vw c_u8 1 cs0 o0 l0) (cs1 : List Cell) (o1 : Nat) (l1 : List Int) (hv1 : Vw c_u8 1 cs1 o1 l1) (r : Bool) (h : laws_FnSubRecv.f l0 l1 = some r) : Tri Try.prog 7 [.c (.ref (.arg 0) [] o0 l0.length), .c (.ref (.arg 1) [] o1 l1.length)] [(.arg 0, ⟨.fz, 1, cs0⟩), (.arg 1, ⟨.fz, 1, cs1⟩)] (fun o => o = ⟨.c (.sc (.bool r)), [(.arg 0, ⟨.fz, 1, cs0⟩), (.arg 1, ⟨.fz, 1, cs1⟩)], [], []⟩) := by
 refine tri_of_body (ac := C7) (xs := r7) Try.func7 (show Try.f7.body = some (Try.f7.body.getD .skip) from rfl) k7 q7 (Nat.le_of_ble_eq_true rfl) ?_
 refine body_of fun K hKn hKr => ?_
 unfold laws_FnSubRecv.f at h
 unfold C7
 simp only [initT, Nat.reduceAdd]
 refine sr_k fun J1 hJ1 => ?_
 simp +decide only [Nat.reduceAdd, Nat.reduceMul, Int.reduceToNat, ak]
 refine hJ1 _ ?_
 refine seq_k fun J2 hJ2 => ?_
 obtain ⟨j3, h4, hn⟩ := of_bind h
 refine seq_j (fun st => st = ⟨[(0, .c (.ref (.arg 0) [] o0 l0.length)), (1, .c (.ref (.arg 1) [] o1 l1.length)), (38, .c (.sc (.bool j3)))], [(.arg 0, ⟨.fz, 1, cs0⟩), (.arg 1, ⟨.fz, 1, cs1⟩)], [], []⟩) (fun J5 hJ5 => ?_) ?_
 ·replace h := h4; clear hn
  refine ga_k fun G6 G6n G6r G6x => ?_
  refine reg_k ?_
  simp +decide only [Nat.reduceAdd, Nat.reduceMul, Int.reduceToNat, ak]
  by_cases c9 : (l0.length : Int) > 1048576
  ·rw [if_pos c9] at h
   have e10 : decide ((l0.length : Int) > 1048576) = true := decide_eq_true c9
   simp +decide only [Nat.reduceAdd, Nat.reduceMul, Int.reduceToNat, ak, e10]
   obtain rfl := Option.some.inj h
   refine G6n _ _ (wj [0, 1, 38] [pI (.arg 0) .fz, pI (.arg 1) .fz]) (hJ5 _ rfl)
  ·rw [if_neg c9] at h
   have e11 : decide ((l0.length : Int) > 1048576) = false := decide_eq_false c9
   simp +decide only [Nat.reduceAdd, Nat.reduceMul, Int.reduceToNat, ak, e11]
   obtain rfl := Option.some.inj h
   refine G6n _ _ (wj [0, 1, 38] [pI (.arg 0) .fz, pI (.arg 1) .fz]) (hJ5 _ rfl)
 ·replace h := hn; clear hn h4
  rintro _ rfl
  refine cond_k (b := j3) rfl (fun c12 => ?_) (fun c12 => ?_)
  ·rw [if_pos c12] at h
   refine sr_k fun J13 hJ13 => ?_
   simp +decide only [Nat.reduceAdd, Nat.reduceMul, Int.reduceToNat, ak]
   refine hJ13 _ ?_
   obtain rfl := Option.some.inj h
   refine hKr _ ⟨_, rfl, [], _, rfl, rfl, ?_⟩
   exact cl
  ·rw [if_neg (Bool.eq_false_iff.1 c12)] at h
   refine hJ2 _ ?_
   refine sr_k fun J14 hJ14 => ?_
   simp +decide only [Nat.reduceAdd, Nat.reduceMul, Int.reduceToNat, ak]
   obtain ⟨t15, h16, h⟩ := of_bind h
   refine cm [pI (.arg 0) .fz] (spec_DrawSubRun.tri (cs0) o0 l0 hv0 _ h16) (fun hl16 => ?_)
   refine ct (.tup [(true, [.sc (.int .u32 t15.1), .sc (.int .i64 t15.2.1), .sc (.int .i64 t15.2.2.1), .sc (.int .i64 t15.2.2.2.1), .sc (.int .i64 t15.2.2.2.2.1), .sc (.int .i64 t15.2.2.2.2.2.1)]), (false, [.ref (.tmp 41 0) [] 0 t15.2.2.2.2.2.2.length])]) (mF (mN ..)) ?_ (s4 := [(.arg 0, ⟨.fz, 1, cs0⟩), (.arg 1, ⟨.fz, 1, cs1⟩), (.tmp 41 0, ⟨.lst, 3, encL c63 t15.2.2.2.2.2.2⟩)])
   simp +decide only [Nat.reduceAdd, Nat.reduceMul, Int.reduceToNat, ak]
   refine hJ14 _ ?_
   obtain ⟨j18, h19, hn⟩ := of_bind h
   refine seq_j (fun st => st = ⟨[(1, .c (.ref (.arg 1) [] o1 l1.length)), (5, .c (.ptr (.tmp 5 0) [] 0)), (6, .c (.ref (.tmp 41 0) [] 0 j18.length))], [(.arg 0, ⟨.fz, 1, cs0⟩), (.arg 1, ⟨.fz, 1, cs1⟩), (.tmp 5 0, ⟨.box, 0, [.sc (.int .u32 t15.1), .sc (.int .i64 t15.2.1), .sc (.int .i64 t15.2.2.1), .sc (.int .i64 t15.2.2.2.1), .sc (.int .i64 t15.2.2.2.2.1), .sc (.int .i64 t15.2.2.2.2.2.1)]⟩), (.tmp 41 0, ⟨.lst, 3, encL c63 j18⟩)], [], []⟩) (fun J20 hJ20 => ?_) ?_
   ·replace h := h19; clear hn
    refine ga_k fun G21 G21n G21r G21x => ?_
    refine sr_k fun J22 hJ22 => ?_
    simp +decide only [Nat.reduceAdd, Nat.reduceMul, Int.reduceToNat, ak]
    refine hJ22 _ ?_
    refine cond_k (b := decide ((t15.2.2.2.2.2.2.length : Int) > 500)) rfl (fun c23 => ?_) (fun c23 => ?_)
    ·replace c23 := of_decide_eq_true c23; rw [if_pos c23] at h
     refine reg_k ?_
     obtain ⟨b24, h⟩ := of_guard h
     have g25 : 500 ≤ t15.2.2.2.2.2.2.length := (by have := b24; omega)
     have g26 : (List.take 500 t15.2.2.2.2.2.2).length = 500 := by have := b24; have h0 : t15.2.2.2.2.2.2.length = t15.2.2.2.2.2.2.length := (by simp); simp only [List.length_drop, List.length_take] <;> omega
     have g27 : (encL c63 t15.2.2.2.2.2.2).length = t15.2.2.2.2.2.2.length * 3 := encL_length c63_w _
     have hsh : 500 ≤ t15.2.2.2.2.2.2.length := by have := b24; omega
     simp +decide only [Nat.reduceAdd, Nat.reduceMul, Int.reduceToNat, ak, g25, g27]
     refine gho_k (Weak.shrink (st' := ⟨[(1, .c (.ref (.arg 1) [] o1 l1.length)), (5, .c (.ptr (.tmp 5 0) [] 0)), (6, .c (.dead)), (46, .c (.sc (.bool (decide ((t15.2.2.2.2.2.2.length : Int) > 500))))), (47, .c (.dead)), (48, .c (.ref (.tmp 41 0) [] 0 500))], [(.arg 0, ⟨.fz, 1, cs0⟩), (.arg 1, ⟨.fz, 1, cs1⟩), (.tmp 41 0, ⟨.lst, 3, encL c63 (List.take 500 t15.2.2.2.2.2.2)⟩), (.tmp 5 0, ⟨.box, 0, [.sc (.int .u32 t15.1), .sc (.int .i64 t15.2.1), .sc (.int .i64 t15.2.2.1), .sc (.int .i64 t15.2.2.2.1), .sc (.int .i64 t15.2.2.2.2.1), .sc (.int .i64 t15.2.2.2.2.2.1)]⟩)], [], []⟩) 48 (.tmp 41 0) 500 (cs := encL c63 t15.2.2.2.2.2.2) (cs' := encL c63 (List.take 500 t15.2.2.2.2.2.2)) rfl (encL_all (fun _ => rfl) _) rfl (by have := g27; omega) rfl (encL_takeN c63_w _ _ hsh) (by first | rfl | simp +decide only [ak, akF])) ?_
     simp +decide only [Nat.reduceAdd, Nat.reduceMul, Int.reduceToNat, ak]
     obtain rfl := Option.some.inj h
     refine G21n _ _ (wj [1, 5, 6] [pI (.arg 0) .fz, pI (.arg 1) .fz, pI (.tmp 5 0) .box, pI (.tmp 41 0) .lst]) (hJ20 _ rfl)
    ·replace c23 := of_decide_eq_false c23; rw [if_neg c23] at h
     obtain rfl := Option.some.inj h
     refine G21n _ _ (wk [1, 5, 6] [pI (.arg 0) .fz, pI (.arg 1) .fz, pI (.tmp 5 0) .box, pI (.tmp 41 0) .lst]) (hJ20 _ rfl)
   ·replace h := hn; clear hn h19
    rintro _ rfl
    refine sr_k fun J28 hJ28 => ?_
    simp +decide only [Nat.reduceAdd, Nat.reduceMul, Int.reduceToNat, ak]
    obtain ⟨t29, h30, h⟩ := of_bind h
    refine cm [pN (.arg 0) (.tmp 41 0) .fz] (spec_SubRun.tri (encL c63 j18) 0 j18 (Vw.whole c63_w j18) t15.1 t15.2.1 t15.2.2.1 t15.2.2.2.1 t15.2.2.2.2.1 t15.2.2.2.2.2.1 _ h30) (fun hl30 => ?_)
    refine ct (.tup [(false, [.ref (.tmp 52 0) [] 0 t29.1.length]), (false, [.sc (.int .i64 t29.2)])]) (mF (mN ..)) ?_ (s4 := [(.arg 0, ⟨.fz, 1, cs0⟩), (.arg 1, ⟨.fz, 1, cs1⟩), (.tmp 5 0, ⟨.box, 0, [.sc (.int .u32 t15.1), .sc (.int .i64 t15.2.1), .sc (.int .i64 t15.2.2.1), .sc (.int .i64 t15.2.2.2.1), .sc (.int .i64 t15.2.2.2.2.1), .sc (.int .i64 t15.2.2.2.2.2.1)]⟩), (.tmp 41 0, ⟨.lst, 3, encL c63 j18⟩), (.tmp 52 0, ⟨.lst, 5, encL c66 t29.1⟩)])
    simp +decide only [Nat.reduceAdd, Nat.reduceMul, Int.reduceToNat, ak]
    refine hJ28 _ ?_
    refine sr_k fun J32 hJ32 => ?_
    simp +decide only [Nat.reduceAdd, Nat.reduceMul, Int.reduceToNat, ak]
    obtain ⟨t33, h34, h⟩ := of_bind h
    refine cm [pN (.arg 0) (.tmp 41 0) .fz] (impl_SubRun.tri (encL c63 j18) 0 j18 (Vw.whole c63_w j18) t15.1 t15.2.1 t15.2.2.1 t15.2.2.2.1 t15.2.2.2.2.1 t15.2.2.2.2.2.1 _ h34) (fun hl34 => ?_)
    refine ct (.tup [(false, [.ref (.tmp 58 0) [] 0 t33.1.length]), (false, [.sc (.int .i64 t33.2)])]) (mF (mN ..)) ?_ (s4 := [(.arg 0, ⟨.fz, 1, cs0⟩), (.arg 1, ⟨.fz, 1, cs1⟩), (.tmp 5 0, ⟨.box, 0, [.sc (.int .u32 t15.1), .sc (.int .i64 t15.2.1), .sc (.int .i64 t15.2.2.1), .sc (.int .i64 t15.2.2.2.1), .sc (.int .i64 t15.2.2.2.2.1), .sc (.int .i64 t15.2.2.2.2.2.1)]⟩), (.tmp 41 0, ⟨.lst, 3, encL c63 j18⟩), (.tmp 52 0, ⟨.lst, 5, encL c66 t29.1⟩), (.tmp 58 0, ⟨.lst, 5, encL c66 t33.1⟩)])
    simp +decide only [Nat.reduceAdd, Nat.reduceMul, Int.reduceToNat, ak]
    refine hJ32 _ ?_
    refine seq_k fun J36 hJ36 => ?_
    obtain ⟨j37, h38, hn⟩ := of_bind h
    refine seq_j (fun st => st = ⟨[(1, .c (.ref (.arg 1) [] o1 l1.length)), (5, .c (.ptr (.tmp 5 0) [] 0)), (6, .c (.ref (.tmp 41 0) [] 0 j18.length)), (7, .c (.ref (.tmp 52 0) [] 0 t29.1.length)), (8, .c (.sc (.int .i64 t29.2))), (9, .c (.ref (.tmp 58 0) [] 0 t33.1.length)), (70, .c (.sc (.bool j37)))], [(.arg 0, ⟨.fz, 1, cs0⟩), (.arg 1, ⟨.fz, 1, cs1⟩), (.tmp 5 0, ⟨.box, 0, [.sc (.int .u32 t15.1), .sc (.int .i64 t15.2.1), .sc (.int .i64 t15.2.2.1), .sc (.int .i64 t15.2.2.2.1), .sc (.int .i64 t15.2.2.2.2.1), .sc (.int .i64 t15.2.2.2.2.2.1)]⟩), (.tmp 41 0, ⟨.lst, 3, encL c63 j18⟩), (.tmp 52 0, ⟨.lst, 5, encL c66 t29.1⟩), (.tmp 58 0, ⟨.lst, 5, encL c66 t33.1⟩)], [], []⟩) (fun J39 hJ39 => ?_) ?_
    ·replace h := h38; clear hn
     refine ga_k fun G40 G40n G40r G40x => ?_
     refine reg_k ?_
     simp +decide only [Nat.reduceAdd, Nat.reduceMul, Int.reduceToNat, ak]
     by_cases c42 : t33.2 ≠ t29.2
     ·rw [if_pos c42] at h
      have e43 : decide (t33.2 ≠ t29.2) = true := decide_eq_true c42
      simp +decide only [Nat.reduceAdd, Nat.reduceMul, Int.reduceToNat, ak, e43]
      obtain rfl := Option.some.inj h
      refine G40n _ _ (wj [1, 5, 6, 7, 8, 9, 70] [pI (.arg 0) .fz, pI (.arg 1) .fz, pI (.tmp 5 0) .box, pI (.tmp 41 0) .lst, pI (.tmp 52 0) .lst, pI (.tmp 58 0) .lst]) (hJ39 _ rfl)
     ·rw [if_neg c42] at h
      have e44 : decide (t33.2 ≠ t29.2) = false := decide_eq_false c42
      simp +decide only [Nat.reduceAdd, Nat.reduceMul, Int.reduceToNat, ak, e44]
      obtain rfl := Option.some.inj h
      refine G40n _ _ (wj [1, 5, 6, 7, 8, 9, 70] [pI (.arg 0) .fz, pI (.arg 1) .fz, pI (.tmp 5 0) .box, pI (.tmp 41 0) .lst, pI (.tmp 52 0) .lst, pI (.tmp 58 0) .lst]) (hJ39 _ rfl)
    ·replace h := hn; clear hn h38
     rintro _ rfl
     refine cond_k (b := j37) rfl (fun c45 => ?_) (fun c45 => ?_)
     ·rw [if_pos c45] at h
      refine sr_k fun J46 hJ46 => ?_
      simp +decide only [Nat.reduceAdd, Nat.reduceMul, Int.reduceToNat, ak]
      refine hJ46 _ ?_
      obtain rfl := Option.some.inj h
      refine hKr _ ⟨_, rfl, [], _, rfl, rfl, ?_⟩
      exact cl
     ·rw [if_neg (Bool.eq_false_iff.1 c45)] at h
      refine hJ36 _ ?_
      refine seq_k fun J47 hJ47 => ?_
      refine sr_k fun J48 hJ48 => ?_
      simp +decide only [Nat.reduceAdd, Nat.reduceMul, Int.reduceToNat, ak]
      refine hJ48 _ ?_
      refine cond_k (b := decide (t29.2 ≠ 0)) rfl (fun c49 => ?_) (fun c49 => ?_)
      ·replace c49 := of_decide_eq_true c49; rw [if_pos c49] at h
       refine sr_k fun J50 hJ50 => ?_
       simp +decide only [Nat.reduceAdd, Nat.reduceMul, Int.reduceToNat, ak]
       refine hJ50 _ ?_
       obtain rfl := Option.some.inj h
       refine hKr _ ⟨_, rfl, [], _, rfl, rfl, ?_⟩
       exact cl
      ·replace c49 := of_decide_eq_false c49; rw [if_neg c49] at h
       refine hJ47 _ ?_
       refine sr_k fun J51 hJ51 => ?_
       have g52 : (List.replicate 0 ([.int .i64 0] : List Value)).flatten = [] := rfl
       have g53 : (⟨.lst, 1, []⟩ : Root) = ⟨.lst, 1, encL c_i64 ([] : List Int)⟩ := rfl
       have g54 : ([] : List Int).length = 0 := rfl
       simp +decide only [Nat.reduceAdd, Nat.reduceMul, Int.reduceToNat, ak, g52, g53, g54]
       refine hJ51 _ ?_
       refine sr_k fun J55 hJ55 => ?_
       simp +decide only [Nat.reduceAdd, Nat.reduceMul, Int.reduceToNat, ak, g52, g53, g54]
       refine hJ55 _ ?_
       refine sr_k fun J56 hJ56 => ?_
       have g57 : (List.replicate 0 ([.int .u32 0] : List Value)).flatten = [] := rfl
       have g58 : (⟨.lst, 1, []⟩ : Root) = ⟨.lst, 1, encL c_u32 ([] : List Int)⟩ := rfl
       simp +decide only [Nat.reduceAdd, Nat.reduceMul, Int.reduceToNat, ak, g57, g58, g54]
       refine hJ56 _ ?_
       refine sr_k fun J59 hJ59 => ?_
       simp +decide only [Nat.reduceAdd, Nat.reduceMul, Int.reduceToNat, ak, g52, g53, g54]
       refine hJ59 _ ?_
       refine sr_k fun J60 hJ60 => ?_
       simp +decide only [Nat.reduceAdd, Nat.reduceMul, Int.reduceToNat, ak]
       refine hJ60 _ ?_
       refine seq_k fun J61 hJ61 => ?_
       refine sr_k fun J62 hJ62 => ?_
       simp +decide only [Nat.reduceAdd, Nat.reduceMul, Int.reduceToNat, ak]
       refine hJ62 _ ?_
       refine block_k fun B63 B63n B63x B63r B63j => ?_
       obtain ⟨y195, h196, h⟩ := of_bind h
       refine gh_k (st' := ⟨[(1, .c (.ref (.arg 1) [] o1 l1.length)), (5, .c (.ptr (.tmp 5 0) [] 0)), (6, .c (.ref (.tmp 41 0) [] 0 j18.length)), (7, .c (.ref (.tmp 52 0) [] 0 t29.1.length)), (9, .c (.ref (.tmp 58 0) [] 0 t33.1.length)), (11, .c (.ref (.tmp 73 0) [] 0 (([] : List Int).length))), (12, .c (.ref (.tmp 74 0) [] 0 (([] : List Int).length))), (13, .c (.ref (.tmp 75 0) [] 0 (([] : List Int).length))), (14, .c (.ref (.tmp 76 0) [] 0 (([] : List Int).length))), (15, .c (.sc (.int .i64 0))), (16, .c (.sc (.int .i64 0)))], [(.arg 0, ⟨.fz, 1, cs0⟩), (.arg 1, ⟨.fz, 1, cs1⟩), (.tmp 5 0, ⟨.box, 0, [.sc (.int .u32 t15.1), .sc (.int .i64 t15.2.1), .sc (.int .i64 t15.2.2.1), .sc (.int .i64 t15.2.2.2.1), .sc (.int .i64 t15.2.2.2.2.1), .sc (.int .i64 t15.2.2.2.2.2.1)]⟩), (.tmp 41 0, ⟨.lst, 3, encL c63 j18⟩), (.tmp 52 0, ⟨.lst, 5, encL c66 t29.1⟩), (.tmp 58 0, ⟨.lst, 5, encL c66 t33.1⟩), (.tmp 73 0, ⟨.lst, 1, encL c_i64 ([] : List Int)⟩), (.tmp 74 0, ⟨.lst, 1, encL c_i64 ([] : List Int)⟩), (.tmp 75 0, ⟨.lst, 1, encL c_u32 ([] : List Int)⟩), (.tmp 76 0, ⟨.lst, 1, encL c_i64 ([] : List Int)⟩)], [], []⟩) (wk [1, 5, 6, 7, 9, 11, 12, 13, 14, 15, 16] [pI (.arg 0) .fz, pI (.arg 1) .fz, pI (.tmp 5 0) .box, pI (.tmp 41 0) .lst, pI (.tmp 52 0) .lst, pI (.tmp 58 0) .lst, pI (.tmp 73 0) .lst, pI (.tmp 74 0) .lst, pI (.tmp 75 0) .lst, pI (.tmp 76 0) .lst] (h := by first | rfl | (simp +decide only [ak, akF]; done) | (simp +decide [ak, akF] <;> omega))) ?_
       rw [e_loop]
       refine laws_FnSubRecv.l0_walk cs0 o0 l0 hv0 cs1 o1 l1 hv1 t15.1 t15.2.1 t15.2.2.1 t15.2.2.2.1 t15.2.2.2.2.1 t15.2.2.2.2.2.1 j18 t29.1 t33.1 0 0 ([] : List Int) ([] : List Int) ([] : List Int) ([] : List Int) _ h196 _ ?_ ?_
       ·rintro x197 rfl
        dsimp only at h
        refine B63x _ ?_
        refine hJ61 _ ?_
        refine sr_k fun J198 hJ198 => ?_
        simp +decide only [Nat.reduceAdd, Nat.reduceMul, Int.reduceToNat, ak]
        obtain ⟨t199, h200, h⟩ := of_bind h
        refine cm [pN (.arg 0) (.tmp 75 0) .fz] (impl_RecvRun.tri (encL c_u32 x197.2.2.1) 0 x197.2.2.1 (Vw.whole c_u32_w x197.2.2.1) t15.1 _ h200) (fun hl200 => ?_)
        refine ct (.tup [(false, [.ref (.tmp 198 0) [] 0 t199.1.length]), (false, [.sc (.int .i64 t199.2)])]) (mF (mN ..)) ?_ (s4 := [(.arg 0, ⟨.fz, 1, cs0⟩), (.arg 1, ⟨.fz, 1, cs1⟩), (.tmp 5 0, ⟨.box, 0, [.sc (.int .u32 t15.1), .sc (.int .i64 t15.2.1), .sc (.int .i64 t15.2.2.1), .sc (.int .i64 t15.2.2.2.1), .sc (.int .i64 t15.2.2.2.2.1), .sc (.int .i64 t15.2.2.2.2.2.1)]⟩), (.tmp 41 0, ⟨.lst, 3, encL c63 j18⟩), (.tmp 73 0, ⟨.lst, 1, encL c_i64 x197.1⟩), (.tmp 74 0, ⟨.lst, 1, encL c_i64 x197.2.1⟩), (.tmp 75 0, ⟨.lst, 1, encL c_u32 x197.2.2.1⟩), (.tmp 76 0, ⟨.lst, 1, encL c_i64 x197.2.2.2⟩), (.tmp 198 0, ⟨.lst, 2, encL c74 t199.1⟩)])
        simp +decide only [Nat.reduceAdd, Nat.reduceMul, Int.reduceToNat, ak]
        refine hJ198 _ ?_
        refine seq_k fun J202 hJ202 => ?_
        refine sr_k fun J203 hJ203 => ?_
        simp +decide only [Nat.reduceAdd, Nat.reduceMul, Int.reduceToNat, ak]
        refine hJ203 _ ?_
        refine cond_k (b := decide ((x197.2.2.1.length : Int) > 4000)) rfl (fun c204 => ?_) (fun c204 => ?_)
        ·replace c204 := of_decide_eq_true c204; rw [if_pos c204] at h
         refine sr_k fun J205 hJ205 => ?_
         simp +decide only [Nat.reduceAdd, Nat.reduceMul, Int.reduceToNat, ak]
         refine hJ205 _ ?_
         obtain rfl := Option.some.inj h
         refine hKr _ ⟨_, rfl, [], _, rfl, rfl, ?_⟩
         exact cl
        ·replace c204 := of_decide_eq_false c204; rw [if_neg c204] at h
         refine hJ202 _ ?_
         refine seq_k fun J206 hJ206 => ?_
         obtain ⟨j207, h208, hn⟩ := of_bind h
         refine seq_j (fun st => st = ⟨[(5, .c (.ptr (.tmp 5 0) [] 0)), (6, .c (.ref (.tmp 41 0) [] 0 j18.length)), (11, .c (.ref (.tmp 73 0) [] 0 x197.1.length)), (12, .c (.ref (.tmp 74 0) [] 0 x197.2.1.length)), (14, .c (.ref (.tmp 76 0) [] 0 x197.2.2.2.length)), (21, .c (.ref (.tmp 198 0) [] 0 t199.1.length)), (214, .c (.sc (.bool j207)))], [(.arg 0, ⟨.fz, 1, cs0⟩), (.arg 1, ⟨.fz, 1, cs1⟩), (.tmp 5 0, ⟨.box, 0, [.sc (.int .u32 t15.1), .sc (.int .i64 t15.2.1), .sc (.int .i64 t15.2.2.1), .sc (.int .i64 t15.2.2.2.1), .sc (.int .i64 t15.2.2.2.2.1), .sc (.int .i64 t15.2.2.2.2.2.1)]⟩), (.tmp 41 0, ⟨.lst, 3, encL c63 j18⟩), (.tmp 73 0, ⟨.lst, 1, encL c_i64 x197.1⟩), (.tmp 74 0, ⟨.lst, 1, encL c_i64 x197.2.1⟩), (.tmp 76 0, ⟨.lst, 1, encL c_i64 x197.2.2.2⟩), (.tmp 198 0, ⟨.lst, 2, encL c74 t199.1⟩)], [], []⟩) (fun J209 hJ209 => ?_) ?_
         ·replace h := h208; clear hn
          refine ga_k fun G210 G210n G210r G210x => ?_
          refine reg_k ?_
          simp +decide only [Nat.reduceAdd, Nat.reduceMul, Int.reduceToNat, ak]
          by_cases c211 : t199.2 ≠ 0
          ·rw [if_pos c211] at h
           have e212 : decide (t199.2 ≠ 0) = true := decide_eq_true c211
           simp +decide only [Nat.reduceAdd, Nat.reduceMul, Int.reduceToNat, ak, e212]
           obtain rfl := Option.some.inj h
           refine G210n _ _ (wj [5, 6, 11, 12, 14, 21, 214] [pI (.arg 0) .fz, pI (.arg 1) .fz, pI (.tmp 5 0) .box, pI (.tmp 41 0) .lst, pI (.tmp 73 0) .lst, pI (.tmp 74 0) .lst, pI (.tmp 76 0) .lst, pI (.tmp 198 0) .lst]) (hJ209 _ rfl)
          ·rw [if_neg c211] at h
           have e213 : decide (t199.2 ≠ 0) = false := decide_eq_false c211
           simp +decide only [Nat.reduceAdd, Nat.reduceMul, Int.reduceToNat, ak, e213]
           obtain rfl := Option.some.inj h
           refine G210n _ _ (wj [5, 6, 11, 12, 14, 21, 214] [pI (.arg 0) .fz, pI (.arg 1) .fz, pI (.tmp 5 0) .box, pI (.tmp 41 0) .lst, pI (.tmp 73 0) .lst, pI (.tmp 74 0) .lst, pI (.tmp 76 0) .lst, pI (.tmp 198 0) .lst]) (hJ209 _ rfl)
         ·replace h := hn; clear hn h208
          rintro _ rfl
          refine cond_k (b := j207) rfl (fun c214 => ?_) (fun c214 => ?_)
          ·rw [if_pos c214] at h
           refine sr_k fun J215 hJ215 => ?_
           simp +decide only [Nat.reduceAdd, Nat.reduceMul, Int.reduceToNat, ak]
           refine hJ215 _ ?_
           obtain rfl := Option.some.inj h
           refine hKr _ ⟨_, rfl, [], _, rfl, rfl, ?_⟩
           exact cl
          ·rw [if_neg (Bool.eq_false_iff.1 c214)] at h
           refine hJ206 _ ?_
           refine sr_k fun J216 hJ216 => ?_
           simp +decide only [Nat.reduceAdd, Nat.reduceMul, Int.reduceToNat, ak]
           refine hJ216 _ ?_
           refine seq_k fun J217 hJ217 => ?_
           refine sr_k fun J218 hJ218 => ?_
           simp +decide only [Nat.reduceAdd, Nat.reduceMul, Int.reduceToNat, ak]
           refine hJ218 _ ?_
           refine block_k fun B219 B219n B219x B219r B219j => ?_
           obtain ⟨y257, h258, h⟩ := of_bind h
           refine gh_k (wk [5, 6, 11, 12, 14, 21, 23, 24] [pI (.arg 0) .fz, pI (.arg 1) .fz, pI (.tmp 5 0) .box, pI (.tmp 41 0) .lst, pI (.tmp 73 0) .lst, pI (.tmp 74 0) .lst, pI (.tmp 76 0) .lst, pI (.tmp 198 0) .lst]) ?_
           rw [e_loop]
           refine laws_FnSubRecv.l4_walk cs0 o0 l0 hv0 cs1 o1 l1 hv1 t15.1 t15.2.1 t15.2.2.1 t15.2.2.2.1 t15.2.2.2.2.1 t15.2.2.2.2.2.1 j18 x197.1 x197.2.1 x197.2.2.2 t199.1 0 0 _ h258 _ ?_ ?_
           ·rintro x259 rfl
            dsimp only at h
            refine B219x _ ?_
            refine hJ217 _ ?_
            refine seq_k fun J260 hJ260 => ?_
            refine sr_k fun J261 hJ261 => ?_
            simp +decide only [Nat.reduceAdd, Nat.reduceMul, Int.reduceToNat, ak]
            refine hJ261 _ ?_
            refine block_k fun B262 B262n B262x B262r B262j => ?_
            obtain ⟨y285, h286, h⟩ := of_bind h
            refine gh_k (wk [5, 6, 11, 12, 23, 25] [pI (.arg 0) .fz, pI (.arg 1) .fz, pI (.tmp 5 0) .box, pI (.tmp 41 0) .lst, pI (.tmp 73 0) .lst, pI (.tmp 74 0) .lst]) ?_
            rw [e_loop]
            refine laws_FnSubRecv.l5_walk cs0 o0 l0 hv0 cs1 o1 l1 hv1 x259 t15.1 t15.2.1 t15.2.2.1 t15.2.2.2.1 t15.2.2.2.2.1 t15.2.2.2.2.2.1 j18 x197.1 x197.2.1 0 _ h286 _ ?_ ?_
            ·rintro x287 rfl
             dsimp only at h
             refine B262x _ ?_
             refine hJ260 _ ?_
             obtain ⟨j288, h289, hn⟩ := of_bind h
             refine seq_j (fun st => st = ⟨[(5, .c (.ptr (.tmp 5 0) [] 0)), (6, .c (.ref (.tmp 41 0) [] 0 j18.length)), (11, .c (.ref (.tmp 73 0) [] 0 x197.1.length)), (12, .c (.ref (.tmp 74 0) [] 0 x197.2.1.length)), (23, .c (.sc (.int .i64 x259))), (26, .c (.ref (.tmp 287 0) [] 0 j288.2.length)), (27, .c (.sc (.int .i64 j288.1)))], [(.arg 0, ⟨.fz, 1, cs0⟩), (.arg 1, ⟨.fz, 1, cs1⟩), (.tmp 5 0, ⟨.box, 0, [.sc (.int .u32 t15.1), .sc (.int .i64 t15.2.1), .sc (.int .i64 t15.2.2.1), .sc (.int .i64 t15.2.2.2.1), .sc (.int .i64 t15.2.2.2.2.1), .sc (.int .i64 t15.2.2.2.2.2.1)]⟩), (.tmp 41 0, ⟨.lst, 3, encL c63 j18⟩), (.tmp 73 0, ⟨.lst, 1, encL c_i64 x197.1⟩), (.tmp 74 0, ⟨.lst, 1, encL c_i64 x197.2.1⟩), (.tmp 287 0, ⟨.lst, 5, encL c66 j288.2⟩)], [], []⟩) (fun J290 hJ290 => ?_) ?_
             ·replace h := h289; clear hn
              refine ga_k fun G291 G291n G291r G291x => ?_
              refine regD_k ?_
              simp +decide only [Nat.reduceAdd, Nat.reduceMul, Int.reduceToNat, ak]
              obtain ⟨b297, h⟩ := of_guard h
              obtain ⟨t301, h302, h⟩ := of_bind h
              refine alt_e ?_
              ·have g316 : (List.replicate 1 ([.int .i64 0, .int .i64 0, .int .u32 0] : List Value)).flatten = [.int .i64 0, .int .i64 0, .int .u32 0] := rfl
               have g317 : (⟨.lst, 3, [.sc (.int .i64 2), .sc (.int .i64 0), .sc (.int .u32 (IntKind.u32.wrap (t15.1 + (IntKind.u32.wrap x259))))]⟩ : Root) = ⟨.lst, 3, encL c63 ([(⟨2, 0, IntKind.u32.wrap (t15.1 + (IntKind.u32.wrap x259))⟩ : S63)] : List S63)⟩ := rfl
               have g318 : ([(⟨2, 0, IntKind.u32.wrap (t15.1 + (IntKind.u32.wrap x259))⟩ : S63)] : List S63).length = 1 := rfl
               simp +decide only [Nat.reduceAdd, Nat.reduceMul, Int.reduceToNat, ak, g316, g317, g318]
               refine alt_e ?_
               ·have g328 : (encL c63 ([(⟨2, 0, IntKind.u32.wrap (t15.1 + (IntKind.u32.wrap x259))⟩ : S63)] : List S63)).take 3 = encL c63 ([(⟨2, 0, IntKind.u32.wrap (t15.1 + (IntKind.u32.wrap x259))⟩ : S63)] : List S63) := by simpa using (Vw.whole c63_w ([(⟨2, 0, IntKind.u32.wrap (t15.1 + (IntKind.u32.wrap x259))⟩ : S63)] : List S63)).all
                have g329 : (encL c63 ([(⟨2, 0, IntKind.u32.wrap (t15.1 + (IntKind.u32.wrap x259))⟩ : S63)] : List S63)).all isSc = true := encL_all (fun _ => rfl) _
                have g330 : appLim j18.length 1 24 := ⟨b297, by have := b297; omega⟩
                have g331 : (encL c63 j18).length = j18.length * 3 := by simp [encL_length c63_w]
                have g332 : encL c63 j18 ++ encL c63 ([(⟨2, 0, IntKind.u32.wrap (t15.1 + (IntKind.u32.wrap x259))⟩ : S63)] : List S63) = encL c63 (j18 ++ ([(⟨2, 0, IntKind.u32.wrap (t15.1 + (IntKind.u32.wrap x259))⟩ : S63)] : List S63)) := (encL_append _ _).symm
                refine appv_k (st1 := ⟨[(5, .c (.ptr (.tmp 5 0) [] 0)), (6, .c (.ref (.tmp 41 0) [] 0 j18.length)), (11, .c (.ref (.tmp 73 0) [] 0 x197.1.length)), (12, .c (.ref (.tmp 74 0) [] 0 x197.2.1.length)), (23, .c (.sc (.int .i64 x259))), (278, .c (.dead)), (279, .c (.ptr (.tmp 5 0) [] 0)), (280, .c (.sc (.int .u32 t15.1))), (281, .c (.sc (.int .i64 x259))), (282, .c (.sc (.int .u32 (IntKind.u32.wrap x259)))), (283, .c (.sc (.int .u32 (IntKind.u32.wrap (t15.1 + (IntKind.u32.wrap x259)))))), (284, .g [.sc (.int .i64 2), .sc (.int .i64 0), .sc (.int .u32 (IntKind.u32.wrap (t15.1 + (IntKind.u32.wrap x259))))]), (277, .g [.sc (.int .u32 t15.1), .sc (.int .i64 t15.2.1), .sc (.int .i64 t15.2.2.1), .sc (.int .i64 t15.2.2.2.1), .sc (.int .i64 t15.2.2.2.2.1), .sc (.int .i64 t15.2.2.2.2.2.1)]), (285, .c (.ref (.tmp 285 0) [] 0 1)), (286, .c (.ref (.tmp 41 0) [] 0 (j18.length + 1)))], [(.arg 0, ⟨.fz, 1, cs0⟩), (.arg 1, ⟨.fz, 1, cs1⟩), (.tmp 5 0, ⟨.box, 0, [.sc (.int .u32 t15.1), .sc (.int .i64 t15.2.1), .sc (.int .i64 t15.2.2.1), .sc (.int .i64 t15.2.2.2.1), .sc (.int .i64 t15.2.2.2.2.1), .sc (.int .i64 t15.2.2.2.2.2.1)]⟩), (.tmp 41 0, ⟨.lst, 3, encL c63 (j18 ++ ([(⟨2, 0, IntKind.u32.wrap (t15.1 + (IntKind.u32.wrap x259))⟩ : S63)] : List S63))⟩), (.tmp 73 0, ⟨.lst, 1, encL c_i64 x197.1⟩), (.tmp 74 0, ⟨.lst, 1, encL c_i64 x197.2.1⟩), (.tmp 285 0, ⟨.lst, 3, encL c63 ([(⟨2, 0, IntKind.u32.wrap (t15.1 + (IntKind.u32.wrap x259))⟩ : S63)] : List S63)⟩)], [], []⟩) (st2 := ⟨[(5, .c (.ptr (.tmp 5 0) [] 0)), (6, .c (.ref (.tmp 41 0) [] 0 j18.length)), (11, .c (.ref (.tmp 73 0) [] 0 x197.1.length)), (12, .c (.ref (.tmp 74 0) [] 0 x197.2.1.length)), (23, .c (.sc (.int .i64 x259))), (278, .c (.ref (.tmp 41 0) [] 0 j18.length)), (279, .c (.ptr (.tmp 5 0) [] 0)), (280, .c (.sc (.int .u32 t15.1))), (281, .c (.sc (.int .i64 x259))), (282, .c (.sc (.int .u32 (IntKind.u32.wrap x259)))), (283, .c (.sc (.int .u32 (IntKind.u32.wrap (t15.1 + (IntKind.u32.wrap x259)))))), (284, .g [.sc (.int .i64 2), .sc (.int .i64 0), .sc (.int .u32 (IntKind.u32.wrap (t15.1 + (IntKind.u32.wrap x259))))]), (277, .g [.sc (.int .u32 t15.1), .sc (.int .i64 t15.2.1), .sc (.int .i64 t15.2.2.1), .sc (.int .i64 t15.2.2.2.1), .sc (.int .i64 t15.2.2.2.2.1), .sc (.int .i64 t15.2.2.2.2.2.1)]), (285, .c (.ref (.tmp 285 0) [] 0 1)), (286, .c (.ref (.tmp 286 0) [] 0 (j18.length + 1)))], [(.arg 0, ⟨.fz, 1, cs0⟩), (.arg 1, ⟨.fz, 1, cs1⟩), (.tmp 5 0, ⟨.box, 0, [.sc (.int .u32 t15.1), .sc (.int .i64 t15.2.1), .sc (.int .i64 t15.2.2.1), .sc (.int .i64 t15.2.2.2.1), .sc (.int .i64 t15.2.2.2.2.1), .sc (.int .i64 t15.2.2.2.2.2.1)]⟩), (.tmp 41 0, ⟨.lst, 3, encL c63 j18⟩), (.tmp 73 0, ⟨.lst, 1, encL c_i64 x197.1⟩), (.tmp 74 0, ⟨.lst, 1, encL c_i64 x197.2.1⟩), (.tmp 285 0, ⟨.lst, 3, encL c63 ([(⟨2, 0, IntKind.u32.wrap (t15.1 + (IntKind.u32.wrap x259))⟩ : S63)] : List S63)⟩), (.tmp 286 0, ⟨.lst, 3, encL c63 (j18 ++ ([(⟨2, 0, IntKind.u32.wrap (t15.1 + (IntKind.u32.wrap x259))⟩ : S63)] : List S63))⟩)], [], []⟩) 6 (.tmp 41 0) j18.length (encL c63 j18) 1 (encL c63 ([(⟨2, 0, IntKind.u32.wrap (t15.1 + (IntKind.u32.wrap x259))⟩ : S63)] : List S63)) (by decide) (by first | rfl | simp only [ak]) (by rfl) (by rfl) (g331).symm (encL_all (fun _ => rfl) _) (by first | rfl | (simp +decide only [srcOf, Nat.reduceAdd, Nat.reduceMul, Int.reduceToNat, ak, g328, g329, g330, g331, g332]; done) | simp [srcOf, g328, g329, g330, g331, g332]) g330 rfl (by rfl) (by first | rfl | (simp +decide only [St.appIn, St.appOut, growTo, Nat.reduceAdd, Nat.reduceMul, Int.reduceToNat, ak, g328, g329, g330, g331, g332]; done) | simp +decide [St.appIn, St.appOut, growTo, ak, g328, g329, g330, g331, g332]) (by first | rfl | (simp +decide only [St.appIn, St.appOut, growTo, Nat.reduceAdd, Nat.reduceMul, Int.reduceToNat, ak, g328, g329, g330, g331, g332]; done) | simp +decide [St.appIn, St.appOut, growTo, ak, g328, g329, g330, g331, g332]) ?_ ?_
                ·simp +decide only [Nat.reduceAdd, Nat.reduceMul, Int.reduceToNat, ak]
                 refine alt_e ?_
                 ·simp +decide only [Nat.reduceAdd, Nat.reduceMul, Int.reduceToNat, ak]
                  refine cm [pN (.arg 0) (.tmp 41 0) .fz] (impl_SubRun.tri (encL c63 (j18 ++ ([(⟨2, 0, IntKind.u32.wrap (t15.1 + (IntKind.u32.wrap x259))⟩ : S63)] : List S63))) 0 (j18 ++ ([(⟨2, 0, IntKind.u32.wrap (t15.1 + (IntKind.u32.wrap x259))⟩ : S63)] : List S63)) (Vw.whole c63_w (j18 ++ ([(⟨2, 0, IntKind.u32.wrap (t15.1 + (IntKind.u32.wrap x259))⟩ : S63)] : List S63))) t15.1 t15.2.1 t15.2.2.1 t15.2.2.2.1 t15.2.2.2.2.1 t15.2.2.2.2.2.1 _ h302) (fun hl334 => ?_) (h0 := by first | rfl | simp only [reduceCtorEq, Nat.reduceEqDiff, ak, akF, b297, g52, g53, g54, g57, g58, g316, g317, g318, g328, g329, g330, g331, g332, (show j18.length + 1 = (j18 ++ ([(⟨2, 0, IntKind.u32.wrap (t15.1 + (IntKind.u32.wrap x259))⟩ : S63)] : List S63)).length by simp)]) (hav := by first | rfl | simp only [reduceCtorEq, Nat.reduceEqDiff, ak, akF, (show j18.length + 1 = (j18 ++ ([(⟨2, 0, IntKind.u32.wrap (t15.1 + (IntKind.u32.wrap x259))⟩ : S63)] : List S63)).length by simp)])
                  refine ct (.tup [(false, [.ref (.tmp 287 0) [] 0 t301.1.length]), (false, [.sc (.int .i64 t301.2)])]) (mF (mN ..)) ?_ (s4 := [(.arg 0, ⟨.fz, 1, cs0⟩), (.arg 1, ⟨.fz, 1, cs1⟩), (.tmp 5 0, ⟨.box, 0, [.sc (.int .u32 t15.1), .sc (.int .i64 t15.2.1), .sc (.int .i64 t15.2.2.1), .sc (.int .i64 t15.2.2.2.1), .sc (.int .i64 t15.2.2.2.2.1), .sc (.int .i64 t15.2.2.2.2.2.1)]⟩), (.tmp 41 0, ⟨.lst, 3, encL c63 (j18 ++ ([(⟨2, 0, IntKind.u32.wrap (t15.1 + (IntKind.u32.wrap x259))⟩ : S63)] : List S63))⟩), (.tmp 73 0, ⟨.lst, 1, encL c_i64 x197.1⟩), (.tmp 74 0, ⟨.lst, 1, encL c_i64 x197.2.1⟩), (.tmp 285 0, ⟨.lst, 3, encL c63 ([(⟨2, 0, IntKind.u32.wrap (t15.1 + (IntKind.u32.wrap x259))⟩ : S63)] : List S63)⟩), (.tmp 287 0, ⟨.lst, 5, encL c66 t301.1⟩)])
                  have g336 : (encL c63 (j18 ++ ([(⟨2, 0, IntKind.u32.wrap (t15.1 + (IntKind.u32.wrap x259))⟩ : S63)] : List S63))).length = (j18 ++ ([(⟨2, 0, IntKind.u32.wrap (t15.1 + (IntKind.u32.wrap x259))⟩ : S63)] : List S63)).length * 3 := encL_length c63_w _
                  have hsh : j18.length ≤ (j18 ++ ([(⟨2, 0, IntKind.u32.wrap (t15.1 + (IntKind.u32.wrap x259))⟩ : S63)] : List S63)).length := by simp
                  simp +decide only [Nat.reduceAdd, Nat.reduceMul, Int.reduceToNat, ak, g336]
                  refine ghp_k (Weak.shrink (st' := ⟨[(5, .c (.ptr (.tmp 5 0) [] 0)), (6, .c (.ref (.tmp 41 0) [] 0 j18.length)), (11, .c (.ref (.tmp 73 0) [] 0 x197.1.length)), (12, .c (.ref (.tmp 74 0) [] 0 x197.2.1.length)), (23, .c (.sc (.int .i64 x259))), (278, .c (.dead)), (279, .c (.ptr (.tmp 5 0) [] 0)), (280, .c (.sc (.int .u32 t15.1))), (281, .c (.sc (.int .i64 x259))), (282, .c (.sc (.int .u32 (IntKind.u32.wrap x259)))), (283, .c (.sc (.int .u32 (IntKind.u32.wrap (t15.1 + (IntKind.u32.wrap x259)))))), (284, .g [.sc (.int .i64 2), .sc (.int .i64 0), .sc (.int .u32 (IntKind.u32.wrap (t15.1 + (IntKind.u32.wrap x259))))]), (277, .g [.sc (.int .u32 t15.1), .sc (.int .i64 t15.2.1), .sc (.int .i64 t15.2.2.1), .sc (.int .i64 t15.2.2.2.1), .sc (.int .i64 t15.2.2.2.2.1), .sc (.int .i64 t15.2.2.2.2.2.1)]), (285, .c (.ref (.tmp 285 0) [] 0 1)), (286, .c (.dead)), (287, .tup [(false, [.ref (.tmp 287 0) [] 0 t301.1.length]), (false, [.sc (.int .i64 t301.2)])])], [(.arg 0, ⟨.fz, 1, cs0⟩), (.arg 1, ⟨.fz, 1, cs1⟩), (.tmp 5 0, ⟨.box, 0, [.sc (.int .u32 t15.1), .sc (.int .i64 t15.2.1), .sc (.int .i64 t15.2.2.1), .sc (.int .i64 t15.2.2.2.1), .sc (.int .i64 t15.2.2.2.2.1), .sc (.int .i64 t15.2.2.2.2.2.1)]⟩), (.tmp 41 0, ⟨.lst, 3, encL c63 j18⟩), (.tmp 73 0, ⟨.lst, 1, encL c_i64 x197.1⟩), (.tmp 74 0, ⟨.lst, 1, encL c_i64 x197.2.1⟩), (.tmp 285 0, ⟨.lst, 3, encL c63 ([(⟨2, 0, IntKind.u32.wrap (t15.1 + (IntKind.u32.wrap x259))⟩ : S63)] : List S63)⟩), (.tmp 287 0, ⟨.lst, 5, encL c66 t301.1⟩)], [], []⟩) 6 (.tmp 41 0) j18.length (cs := encL c63 (j18 ++ ([(⟨2, 0, IntKind.u32.wrap (t15.1 + (IntKind.u32.wrap x259))⟩ : S63)] : List S63))) (cs' := encL c63 j18) rfl (encL_all (fun _ => rfl) _) rfl (by have := g336; omega) rfl (encL_takeA c63_w _ _ rfl) (by first | rfl | simp +decide only [ak, akF])) ?_
                  simp +decide only [Nat.reduceAdd, Nat.reduceMul, Int.reduceToNat, ak]
                  obtain rfl := Option.some.inj h
                  refine G291n _ _ (wk [5, 6, 11, 12, 23, 26, 27] [pI (.arg 0) .fz, pI (.arg 1) .fz, pI (.tmp 5 0) .box, pI (.tmp 41 0) .lst, pI (.tmp 73 0) .lst, pI (.tmp 74 0) .lst, pI (.tmp 287 0) .lst]) (hJ290 _ rfl)
                ·simp +decide only [Nat.reduceAdd, Nat.reduceMul, Int.reduceToNat, ak]
                 refine alt_e ?_
                 ·simp +decide only [Nat.reduceAdd, Nat.reduceMul, Int.reduceToNat, ak]
                  refine cm [pN (.arg 0) (.tmp 286 0) .fz] (impl_SubRun.tri (encL c63 (j18 ++ ([(⟨2, 0, IntKind.u32.wrap (t15.1 + (IntKind.u32.wrap x259))⟩ : S63)] : List S63))) 0 (j18 ++ ([(⟨2, 0, IntKind.u32.wrap (t15.1 + (IntKind.u32.wrap x259))⟩ : S63)] : List S63)) (Vw.whole c63_w (j18 ++ ([(⟨2, 0, IntKind.u32.wrap (t15.1 + (IntKind.u32.wrap x259))⟩ : S63)] : List S63))) t15.1 t15.2.1 t15.2.2.1 t15.2.2.2.1 t15.2.2.2.2.1 t15.2.2.2.2.2.1 _ h302) (fun hl337 => ?_) (h0 := by first | rfl | simp only [reduceCtorEq, Nat.reduceEqDiff, ak, akF, b297, g52, g53, g54, g57, g58, g316, g317, g318, g328, g329, g330, g331, g332, (show j18.length + 1 = (j18 ++ ([(⟨2, 0, IntKind.u32.wrap (t15.1 + (IntKind.u32.wrap x259))⟩ : S63)] : List S63)).length by simp)]) (hav := by first | rfl | simp only [reduceCtorEq, Nat.reduceEqDiff, ak, akF, (show j18.length + 1 = (j18 ++ ([(⟨2, 0, IntKind.u32.wrap (t15.1 + (IntKind.u32.wrap x259))⟩ : S63)] : List S63)).length by simp)])
                  refine ct (.tup [(false, [.ref (.tmp 287 0) [] 0 t301.1.length]), (false, [.sc (.int .i64 t301.2)])]) (mF (mN ..)) ?_ (s4 := [(.arg 0, ⟨.fz, 1, cs0⟩), (.arg 1, ⟨.fz, 1, cs1⟩), (.tmp 5 0, ⟨.box, 0, [.sc (.int .u32 t15.1), .sc (.int .i64 t15.2.1), .sc (.int .i64 t15.2.2.1), .sc (.int .i64 t15.2.2.2.1), .sc (.int .i64 t15.2.2.2.2.1), .sc (.int .i64 t15.2.2.2.2.2.1)]⟩), (.tmp 41 0, ⟨.lst, 3, encL c63 j18⟩), (.tmp 73 0, ⟨.lst, 1, encL c_i64 x197.1⟩), (.tmp 74 0, ⟨.lst, 1, encL c_i64 x197.2.1⟩), (.tmp 285 0, ⟨.lst, 3, encL c63 ([(⟨2, 0, IntKind.u32.wrap (t15.1 + (IntKind.u32.wrap x259))⟩ : S63)] : List S63)⟩), (.tmp 286 0, ⟨.lst, 3, encL c63 (j18 ++ ([(⟨2, 0, IntKind.u32.wrap (t15.1 + (IntKind.u32.wrap x259))⟩ : S63)] : List S63))⟩), (.tmp 287 0, ⟨.lst, 5, encL c66 t301.1⟩)])
                  simp +decide only [Nat.reduceAdd, Nat.reduceMul, Int.reduceToNat, ak]
                  refine ghp_k (Weak.refl _ _) ?_
                  simp +decide only [Nat.reduceAdd, Nat.reduceMul, Int.reduceToNat, ak]
                  obtain rfl := Option.some.inj h
                  refine G291n _ _ (wk [5, 6, 11, 12, 23, 26, 27] [pI (.arg 0) .fz, pI (.arg 1) .fz, pI (.tmp 5 0) .box, pI (.tmp 41 0) .lst, pI (.tmp 73 0) .lst, pI (.tmp 74 0) .lst, pI (.tmp 287 0) .lst]) (hJ290 _ rfl)
             ·replace h := hn; clear hn h289
              rintro _ rfl
              obtain ⟨j339, h340, hn⟩ := of_bind h
              refine seq_j (fun st => st = ⟨[(6, .c (.ref (.tmp 41 0) [] 0 j18.length)), (11, .c (.ref (.tmp 73 0) [] 0 x197.1.length)), (12, .c (.ref (.tmp 74 0) [] 0 x197.2.1.length)), (23, .c (.sc (.int .i64 x259))), (26, .c (.ref (.tmp 287 0) [] 0 j288.2.length)), (27, .c (.sc (.int .i64 j288.1))), (28, .c (.ptr (.tmp 28 0) [] 0)), (29, .c (.sc (.int .i64 j339.1)))], [(.arg 0, ⟨.fz, 1, cs0⟩), (.arg 1, ⟨.fz, 1, cs1⟩), (.tmp 41 0, ⟨.lst, 3, encL c63 j18⟩), (.tmp 73 0, ⟨.lst, 1, encL c_i64 x197.1⟩), (.tmp 74 0, ⟨.lst, 1, encL c_i64 x197.2.1⟩), (.tmp 287 0, ⟨.lst, 5, encL c66 j288.2⟩), (.tmp 28 0, ⟨.box, 0, [.sc (.int .u32 j339.2.1), .sc (.int .u32 j339.2.2.1), .own 1 j339.2.2.2.1.length (encL c_i64 j339.2.2.2.1), .sc (.int .i64 j339.2.2.2.2.1), .sc (.int .i64 j339.2.2.2.2.2.1), .sc (.int .i64 j339.2.2.2.2.2.2.1), .sc (.int .i64 j339.2.2.2.2.2.2.2.1), .sc (.int .i64 j339.2.2.2.2.2.2.2.2)]⟩)], [], []⟩) (fun J341 hJ341 => ?_) ?_
              ·replace h := h340; clear hn
               refine ga_k fun G342 G342n G342r G342x => ?_
               refine regD_k ?_
               simp +decide only [Nat.reduceAdd, Nat.reduceMul, Int.reduceToNat, ak]
               obtain ⟨b348, h⟩ := of_guard h
               obtain ⟨t352, h353, h⟩ := of_bind h
               refine alt_k ?_ (alt_e ?_)
               ·have g383 : (List.replicate 1 ([.int .i64 0, .int .i64 0, .int .u32 0] : List Value)).flatten = [.int .i64 0, .int .i64 0, .int .u32 0] := rfl
                have g384 : (⟨.lst, 3, [.sc (.int .i64 2), .sc (.int .i64 0), .sc (.int .u32 (IntKind.u32.wrap (t15.1 + (IntKind.u32.wrap x259))))]⟩ : Root) = ⟨.lst, 3, encL c63 ([(⟨2, 0, IntKind.u32.wrap (t15.1 + (IntKind.u32.wrap x259))⟩ : S63)] : List S63)⟩ := rfl
                have g385 : ([(⟨2, 0, IntKind.u32.wrap (t15.1 + (IntKind.u32.wrap x259))⟩ : S63)] : List S63).length = 1 := rfl
                simp +decide only [Nat.reduceAdd, Nat.reduceMul, Int.reduceToNat, ak, g383, g384, g385]
                refine alt_k ?_ (alt_e ?_)
                ·have g403 : (encL c63 ([(⟨2, 0, IntKind.u32.wrap (t15.1 + (IntKind.u32.wrap x259))⟩ : S63)] : List S63)).take 3 = encL c63 ([(⟨2, 0, IntKind.u32.wrap (t15.1 + (IntKind.u32.wrap x259))⟩ : S63)] : List S63) := by simpa using (Vw.whole c63_w ([(⟨2, 0, IntKind.u32.wrap (t15.1 + (IntKind.u32.wrap x259))⟩ : S63)] : List S63)).all
                 have g404 : (encL c63 ([(⟨2, 0, IntKind.u32.wrap (t15.1 + (IntKind.u32.wrap x259))⟩ : S63)] : List S63)).all isSc = true := encL_all (fun _ => rfl) _
                 have g405 : appLim j18.length 1 24 := ⟨b348, by have := b348; omega⟩
                 have g406 : (encL c63 j18).length = j18.length * 3 := by simp [encL_length c63_w]
                 have g407 : encL c63 j18 ++ encL c63 ([(⟨2, 0, IntKind.u32.wrap (t15.1 + (IntKind.u32.wrap x259))⟩ : S63)] : List S63) = encL c63 (j18 ++ ([(⟨2, 0, IntKind.u32.wrap (t15.1 + (IntKind.u32.wrap x259))⟩ : S63)] : List S63)) := (encL_append _ _).symm
                 refine appv_k (st1 := ⟨[(5, .c (.ptr (.tmp 5 0) [] 0)), (6, .c (.ref (.tmp 41 0) [] 0 j18.length)), (11, .c (.ref (.tmp 73 0) [] 0 x197.1.length)), (12, .c (.ref (.tmp 74 0) [] 0 x197.2.1.length)), (23, .c (.sc (.int .i64 x259))), (26, .c (.ref (.tmp 287 0) [] 0 j288.2.length)), (27, .c (.sc (.int .i64 j288.1))), (292, .c (.dead)), (293, .c (.ptr (.tmp 5 0) [] 0)), (294, .c (.sc (.int .u32 t15.1))), (295, .c (.sc (.int .i64 x259))), (296, .c (.sc (.int .u32 (IntKind.u32.wrap x259)))), (297, .c (.sc (.int .u32 (IntKind.u32.wrap (t15.1 + (IntKind.u32.wrap x259)))))), (298, .g [.sc (.int .i64 2), .sc (.int .i64 0), .sc (.int .u32 (IntKind.u32.wrap (t15.1 + (IntKind.u32.wrap x259))))]), (291, .g [.sc (.int .u32 t15.1), .sc (.int .i64 t15.2.1), .sc (.int .i64 t15.2.2.1), .sc (.int .i64 t15.2.2.2.1), .sc (.int .i64 t15.2.2.2.2.1), .sc (.int .i64 t15.2.2.2.2.2.1)]), (299, .c (.ref (.tmp 299 0) [] 0 1)), (300, .c (.ref (.tmp 41 0) [] 0 (j18.length + 1)))], [(.arg 0, ⟨.fz, 1, cs0⟩), (.arg 1, ⟨.fz, 1, cs1⟩), (.tmp 5 0, ⟨.box, 0, [.sc (.int .u32 t15.1), .sc (.int .i64 t15.2.1), .sc (.int .i64 t15.2.2.1), .sc (.int .i64 t15.2.2.2.1), .sc (.int .i64 t15.2.2.2.2.1), .sc (.int .i64 t15.2.2.2.2.2.1)]⟩), (.tmp 41 0, ⟨.lst, 3, encL c63 (j18 ++ ([(⟨2, 0, IntKind.u32.wrap (t15.1 + (IntKind.u32.wrap x259))⟩ : S63)] : List S63))⟩), (.tmp 73 0, ⟨.lst, 1, encL c_i64 x197.1⟩), (.tmp 74 0, ⟨.lst, 1, encL c_i64 x197.2.1⟩), (.tmp 287 0, ⟨.lst, 5, encL c66 j288.2⟩), (.tmp 299 0, ⟨.lst, 3, encL c63 ([(⟨2, 0, IntKind.u32.wrap (t15.1 + (IntKind.u32.wrap x259))⟩ : S63)] : List S63)⟩)], [], []⟩) (st2 := ⟨[(5, .c (.ptr (.tmp 5 0) [] 0)), (6, .c (.ref (.tmp 41 0) [] 0 j18.length)), (11, .c (.ref (.tmp 73 0) [] 0 x197.1.length)), (12, .c (.ref (.tmp 74 0) [] 0 x197.2.1.length)), (23, .c (.sc (.int .i64 x259))), (26, .c (.ref (.tmp 287 0) [] 0 j288.2.length)), (27, .c (.sc (.int .i64 j288.1))), (292, .c (.ref (.tmp 41 0) [] 0 j18.length)), (293, .c (.ptr (.tmp 5 0) [] 0)), (294, .c (.sc (.int .u32 t15.1))), (295, .c (.sc (.int .i64 x259))), (296, .c (.sc (.int .u32 (IntKind.u32.wrap x259)))), (297, .c (.sc (.int .u32 (IntKind.u32.wrap (t15.1 + (IntKind.u32.wrap x259)))))), (298, .g [.sc (.int .i64 2), .sc (.int .i64 0), .sc (.int .u32 (IntKind.u32.wrap (t15.1 + (IntKind.u32.wrap x259))))]), (291, .g [.sc (.int .u32 t15.1), .sc (.int .i64 t15.2.1), .sc (.int .i64 t15.2.2.1), .sc (.int .i64 t15.2.2.2.1), .sc (.int .i64 t15.2.2.2.2.1), .sc (.int .i64 t15.2.2.2.2.2.1)]), (299, .c (.ref (.tmp 299 0) [] 0 1)), (300, .c (.ref (.tmp 300 0) [] 0 (j18.length + 1)))], [(.arg 0, ⟨.fz, 1, cs0⟩), (.arg 1, ⟨.fz, 1, cs1⟩), (.tmp 5 0, ⟨.box, 0, [.sc (.int .u32 t15.1), .sc (.int .i64 t15.2.1), .sc (.int .i64 t15.2.2.1), .sc (.int .i64 t15.2.2.2.1), .sc (.int .i64 t15.2.2.2.2.1), .sc (.int .i64 t15.2.2.2.2.2.1)]⟩), (.tmp 41 0, ⟨.lst, 3, encL c63 j18⟩), (.tmp 73 0, ⟨.lst, 1, encL c_i64 x197.1⟩), (.tmp 74 0, ⟨.lst, 1, encL c_i64 x197.2.1⟩), (.tmp 287 0, ⟨.lst, 5, encL c66 j288.2⟩), (.tmp 299 0, ⟨.lst, 3, encL c63 ([(⟨2, 0, IntKind.u32.wrap (t15.1 + (IntKind.u32.wrap x259))⟩ : S63)] : List S63)⟩), (.tmp 300 0, ⟨.lst, 3, encL c63 (j18 ++ ([(⟨2, 0, IntKind.u32.wrap (t15.1 + (IntKind.u32.wrap x259))⟩ : S63)] : List S63))⟩)], [], []⟩) 6 (.tmp 41 0) j18.length (encL c63 j18) 1 (encL c63 ([(⟨2, 0, IntKind.u32.wrap (t15.1 + (IntKind.u32.wrap x259))⟩ : S63)] : List S63)) (by decide) (by first | rfl | simp only [ak]) (by rfl) (by rfl) (g406).symm (encL_all (fun _ => rfl) _) (by first | rfl | (simp +decide only [srcOf, Nat.reduceAdd, Nat.reduceMul, Int.reduceToNat, ak, g403, g404, g405, g406, g407]; done) | simp [srcOf, g403, g404, g405, g406, g407]) g405 rfl (by rfl) (by first | rfl | (simp +decide only [St.appIn, St.appOut, growTo, Nat.reduceAdd, Nat.reduceMul, Int.reduceToNat, ak, g403, g404, g405, g406, g407]; done) | simp +decide [St.appIn, St.appOut, growTo, ak, g403, g404, g405, g406, g407]) (by first | rfl | (simp +decide only [St.appIn, St.appOut, growTo, Nat.reduceAdd, Nat.reduceMul, Int.reduceToNat, ak, g403, g404, g405, g406, g407]; done) | simp +decide [St.appIn, St.appOut, growTo, ak, g403, g404, g405, g406, g407]) ?_ ?_
                 ·simp +decide only [Nat.reduceAdd, Nat.reduceMul, Int.reduceToNat, ak]
                  refine alt_k ?_ (alt_e ?_)
                  ·simp +decide only [Nat.reduceAdd, Nat.reduceMul, Int.reduceToNat, ak]
                   refine cm [pN (.arg 0) (.tmp 41 0) .fz] (impl_SubState.tri (encL c63 (j18 ++ ([(⟨2, 0, IntKind.u32.wrap (t15.1 + (IntKind.u32.wrap x259))⟩ : S63)] : List S63))) 0 (j18 ++ ([(⟨2, 0, IntKind.u32.wrap (t15.1 + (IntKind.u32.wrap x259))⟩ : S63)] : List S63)) (Vw.whole c63_w (j18 ++ ([(⟨2, 0, IntKind.u32.wrap (t15.1 + (IntKind.u32.wrap x259))⟩ : S63)] : List S63))) t15.1 t15.2.1 t15.2.2.1 t15.2.2.2.1 t15.2.2.2.2.1 t15.2.2.2.2.2.1 _ h353) (fun hl413 => ?_) (h0 := by first | rfl | simp only [reduceCtorEq, Nat.reduceEqDiff, ak, akF, b348, g52, g53, g54, g57, g58, g383, g384, g385, g403, g404, g405, g406, g407, (show j18.length + 1 = (j18 ++ ([(⟨2, 0, IntKind.u32.wrap (t15.1 + (IntKind.u32.wrap x259))⟩ : S63)] : List S63)).length by simp)]) (hav := by first | rfl | simp only [reduceCtorEq, Nat.reduceEqDiff, ak, akF, (show j18.length + 1 = (j18 ++ ([(⟨2, 0, IntKind.u32.wrap (t15.1 + (IntKind.u32.wrap x259))⟩ : S63)] : List S63)).length by simp)])
                   refine ct (.tup [(true, [.sc (.int .u32 t352.1), .sc (.int .u32 t352.2.1), .ref (.tmp 301 0) [] 0 t352.2.2.1.length, .sc (.int .i64 t352.2.2.2.1), .sc (.int .i64 t352.2.2.2.2.1), .sc (.int .i64 t352.2.2.2.2.2.1), .sc (.int .i64 t352.2.2.2.2.2.2.1), .sc (.int .i64 t352.2.2.2.2.2.2.2.1)]), (false, [.sc (.int .i64 t352.2.2.2.2.2.2.2.2)])]) (mF (mN ..)) ?_ (s4 := [(.arg 0, ⟨.fz, 1, cs0⟩), (.arg 1, ⟨.fz, 1, cs1⟩), (.tmp 5 0, ⟨.box, 0, [.sc (.int .u32 t15.1), .sc (.int .i64 t15.2.1), .sc (.int .i64 t15.2.2.1), .sc (.int .i64 t15.2.2.2.1), .sc (.int .i64 t15.2.2.2.2.1), .sc (.int .i64 t15.2.2.2.2.2.1)]⟩), (.tmp 41 0, ⟨.lst, 3, encL c63 (j18 ++ ([(⟨2, 0, IntKind.u32.wrap (t15.1 + (IntKind.u32.wrap x259))⟩ : S63)] : List S63))⟩), (.tmp 73 0, ⟨.lst, 1, encL c_i64 x197.1⟩), (.tmp 74 0, ⟨.lst, 1, encL c_i64 x197.2.1⟩), (.tmp 287 0, ⟨.lst, 5, encL c66 j288.2⟩), (.tmp 299 0, ⟨.lst, 3, encL c63 ([(⟨2, 0, IntKind.u32.wrap (t15.1 + (IntKind.u32.wrap x259))⟩ : S63)] : List S63)⟩), (.tmp 301 0, ⟨.lst, 1, encL c_i64 t352.2.2.1⟩)])
                   have g415 : (encL c63 (j18 ++ ([(⟨2, 0, IntKind.u32.wrap (t15.1 + (IntKind.u32.wrap x259))⟩ : S63)] : List S63))).length = (j18 ++ ([(⟨2, 0, IntKind.u32.wrap (t15.1 + (IntKind.u32.wrap x259))⟩ : S63)] : List S63)).length * 3 := encL_length c63_w _
                   have hsh : j18.length ≤ (j18 ++ ([(⟨2, 0, IntKind.u32.wrap (t15.1 + (IntKind.u32.wrap x259))⟩ : S63)] : List S63)).length := by simp
                   simp +decide only [Nat.reduceAdd, Nat.reduceMul, Int.reduceToNat, ak, g415]
                   refine ghp_k (Weak.shrink (st' := ⟨[(5, .c (.ptr (.tmp 5 0) [] 0)), (6, .c (.ref (.tmp 41 0) [] 0 j18.length)), (11, .c (.ref (.tmp 73 0) [] 0 x197.1.length)), (12, .c (.ref (.tmp 74 0) [] 0 x197.2.1.length)), (23, .c (.sc (.int .i64 x259))), (26, .c (.ref (.tmp 287 0) [] 0 j288.2.length)), (27, .c (.sc (.int .i64 j288.1))), (292, .c (.dead)), (293, .c (.ptr (.tmp 5 0) [] 0)), (294, .c (.sc (.int .u32 t15.1))), (295, .c (.sc (.int .i64 x259))), (296, .c (.sc (.int .u32 (IntKind.u32.wrap x259)))), (297, .c (.sc (.int .u32 (IntKind.u32.wrap (t15.1 + (IntKind.u32.wrap x259)))))), (298, .g [.sc (.int .i64 2), .sc (.int .i64 0), .sc (.int .u32 (IntKind.u32.wrap (t15.1 + (IntKind.u32.wrap x259))))]), (291, .g [.sc (.int .u32 t15.1), .sc (.int .i64 t15.2.1), .sc (.int .i64 t15.2.2.1), .sc (.int .i64 t15.2.2.2.1), .sc (.int .i64 t15.2.2.2.2.1), .sc (.int .i64 t15.2.2.2.2.2.1)]), (299, .c (.ref (.tmp 299 0) [] 0 1)), (300, .c (.dead)), (301, .tup [(true, [.sc (.int .u32 t352.1), .sc (.int .u32 t352.2.1), .ref (.tmp 301 0) [] 0 t352.2.2.1.length, .sc (.int .i64 t352.2.2.2.1), .sc (.int .i64 t352.2.2.2.2.1), .sc (.int .i64 t352.2.2.2.2.2.1), .sc (.int .i64 t352.2.2.2.2.2.2.1), .sc (.int .i64 t352.2.2.2.2.2.2.2.1)]), (false, [.sc (.int .i64 t352.2.2.2.2.2.2.2.2)])])], [(.arg 0, ⟨.fz, 1, cs0⟩), (.arg 1, ⟨.fz, 1, cs1⟩), (.tmp 5 0, ⟨.box, 0, [.sc (.int .u32 t15.1), .sc (.int .i64 t15.2.1), .sc (.int .i64 t15.2.2.1), .sc (.int .i64 t15.2.2.2.1), .sc (.int .i64 t15.2.2.2.2.1), .sc (.int .i64 t15.2.2.2.2.2.1)]⟩), (.tmp 41 0, ⟨.lst, 3, encL c63 j18⟩), (.tmp 73 0, ⟨.lst, 1, encL c_i64 x197.1⟩), (.tmp 74 0, ⟨.lst, 1, encL c_i64 x197.2.1⟩), (.tmp 287 0, ⟨.lst, 5, encL c66 j288.2⟩), (.tmp 299 0, ⟨.lst, 3, encL c63 ([(⟨2, 0, IntKind.u32.wrap (t15.1 + (IntKind.u32.wrap x259))⟩ : S63)] : List S63)⟩), (.tmp 301 0, ⟨.lst, 1, encL c_i64 t352.2.2.1⟩)], [], []⟩) 6 (.tmp 41 0) j18.length (cs := encL c63 (j18 ++ ([(⟨2, 0, IntKind.u32.wrap (t15.1 + (IntKind.u32.wrap x259))⟩ : S63)] : List S63))) (cs' := encL c63 j18) rfl (encL_all (fun _ => rfl) _) rfl (by have := g415; omega) rfl (encL_takeA c63_w _ _ rfl) (by first | rfl | simp +decide only [ak, akF])) ?_
                   simp +decide only [Nat.reduceAdd, Nat.reduceMul, Int.reduceToNat, ak]
                   refine alt_e ?_
                   ·simp +decide only [Nat.reduceAdd, Nat.reduceMul, Int.reduceToNat, ak]
                    refine ghp_k (Weak.own (.tmp 28 0) (cs' := [.sc (.int .u32 0), .sc (.int .u32 0), .own 1 (([] : List Int).length) (encL c_i64 ([] : List Int)), .sc (.int .i64 0), .sc (.int .i64 0), .sc (.int .i64 0), .sc (.int .i64 0), .sc (.int .i64 0)]) rfl ⟨.inl rfl, .inl rfl, .inr ⟨rfl, _, rfl⟩, .inl rfl, .inl rfl, .inl rfl, .inl rfl, .inl rfl, trivial⟩) ?_
                    try simp +decide only [Nat.reduceAdd, Nat.reduceMul, Int.reduceToNat, ak]
                    refine alt_e ?_
                    ·have g419 : (encL c_i64 t352.2.2.1).length = t352.2.2.1.length * 1 := by simp [encL_length c_i64_w]
                     simp +decide only [Nat.reduceAdd, Nat.reduceMul, Int.reduceToNat, ak, g419]
                     obtain rfl := Option.some.inj h
                     refine G342n _ _ (wk [6, 11, 12, 23, 26, 27, 28, 29] [pI (.arg 0) .fz, pI (.arg 1) .fz, pI (.tmp 41 0) .lst, pI (.tmp 73 0) .lst, pI (.tmp 74 0) .lst, pI (.tmp 287 0) .lst, pI (.tmp 28 0) .box]) (hJ341 _ rfl)
                  ·simp +decide only [Nat.reduceAdd, Nat.reduceMul, Int.reduceToNat, ak]
                   refine ghp_k (Weak.own (.tmp 28 0) (cs' := [.sc (.int .u32 0), .sc (.int .u32 0), .own 1 (([] : List Int).length) (encL c_i64 ([] : List Int)), .sc (.int .i64 0), .sc (.int .i64 0), .sc (.int .i64 0), .sc (.int .i64 0), .sc (.int .i64 0)]) rfl ⟨.inl rfl, .inl rfl, .inr ⟨rfl, _, rfl⟩, .inl rfl, .inl rfl, .inl rfl, .inl rfl, .inl rfl, trivial⟩) ?_
                   try simp +decide only [Nat.reduceAdd, Nat.reduceMul, Int.reduceToNat, ak]
                   refine alt_e ?_
                   ·simp +decide only [Nat.reduceAdd, Nat.reduceMul, Int.reduceToNat, ak]
                    refine cm [pN (.arg 0) (.tmp 41 0) .fz] (impl_SubState.tri (encL c63 (j18 ++ ([(⟨2, 0, IntKind.u32.wrap (t15.1 + (IntKind.u32.wrap x259))⟩ : S63)] : List S63))) 0 (j18 ++ ([(⟨2, 0, IntKind.u32.wrap (t15.1 + (IntKind.u32.wrap x259))⟩ : S63)] : List S63)) (Vw.whole c63_w (j18 ++ ([(⟨2, 0, IntKind.u32.wrap (t15.1 + (IntKind.u32.wrap x259))⟩ : S63)] : List S63))) t15.1 t15.2.1 t15.2.2.1 t15.2.2.2.1 t15.2.2.2.2.1 t15.2.2.2.2.2.1 _ h353) (fun hl423 => ?_) (h0 := by first | rfl | simp only [reduceCtorEq, Nat.reduceEqDiff, ak, akF, b348, g52, g53, g54, g57, g58, g383, g384, g385, g403, g404, g405, g406, g407, (show j18.length + 1 = (j18 ++ ([(⟨2, 0, IntKind.u32.wrap (t15.1 + (IntKind.u32.wrap x259))⟩ : S63)] : List S63)).length by simp)]) (hav := by first | rfl | simp only [reduceCtorEq, Nat.reduceEqDiff, ak, akF, (show j18.length + 1 = (j18 ++ ([(⟨2, 0, IntKind.u32.wrap (t15.1 + (IntKind.u32.wrap x259))⟩ : S63)] : List S63)).length by simp)])
                    refine ct (.tup [(true, [.sc (.int .u32 t352.1), .sc (.int .u32 t352.2.1), .ref (.tmp 301 0) [] 0 t352.2.2.1.length, .sc (.int .i64 t352.2.2.2.1), .sc (.int .i64 t352.2.2.2.2.1), .sc (.int .i64 t352.2.2.2.2.2.1), .sc (.int .i64 t352.2.2.2.2.2.2.1), .sc (.int .i64 t352.2.2.2.2.2.2.2.1)]), (false, [.sc (.int .i64 t352.2.2.2.2.2.2.2.2)])]) (mF (mN ..)) ?_ (s4 := [(.arg 0, ⟨.fz, 1, cs0⟩), (.arg 1, ⟨.fz, 1, cs1⟩), (.tmp 5 0, ⟨.box, 0, [.sc (.int .u32 t15.1), .sc (.int .i64 t15.2.1), .sc (.int .i64 t15.2.2.1), .sc (.int .i64 t15.2.2.2.1), .sc (.int .i64 t15.2.2.2.2.1), .sc (.int .i64 t15.2.2.2.2.2.1)]⟩), (.tmp 41 0, ⟨.lst, 3, encL c63 (j18 ++ ([(⟨2, 0, IntKind.u32.wrap (t15.1 + (IntKind.u32.wrap x259))⟩ : S63)] : List S63))⟩), (.tmp 73 0, ⟨.lst, 1, encL c_i64 x197.1⟩), (.tmp 74 0, ⟨.lst, 1, encL c_i64 x197.2.1⟩), (.tmp 287 0, ⟨.lst, 5, encL c66 j288.2⟩), (.tmp 299 0, ⟨.lst, 3, encL c63 ([(⟨2, 0, IntKind.u32.wrap (t15.1 + (IntKind.u32.wrap x259))⟩ : S63)] : List S63)⟩), (.tmp 28 0, ⟨.box, 0, [.sc (.int .u32 0), .sc (.int .u32 0), .own 1 (([] : List Int).length) (encL c_i64 ([] : List Int)), .sc (.int .i64 0), .sc (.int .i64 0), .sc (.int .i64 0), .sc (.int .i64 0), .sc (.int .i64 0)]⟩), (.tmp 301 0, ⟨.lst, 1, encL c_i64 t352.2.2.1⟩)])
                    have g425 : (encL c63 (j18 ++ ([(⟨2, 0, IntKind.u32.wrap (t15.1 + (IntKind.u32.wrap x259))⟩ : S63)] : List S63))).length = (j18 ++ ([(⟨2, 0, IntKind.u32.wrap (t15.1 + (IntKind.u32.wrap x259))⟩ : S63)] : List S63)).length * 3 := encL_length c63_w _
                    have hsh : j18.length ≤ (j18 ++ ([(⟨2, 0, IntKind.u32.wrap (t15.1 + (IntKind.u32.wrap x259))⟩ : S63)] : List S63)).length := by simp
                    simp +decide only [Nat.reduceAdd, Nat.reduceMul, Int.reduceToNat, ak, g425]
                    refine ghp_k (Weak.shrink (st' := ⟨[(5, .c (.ptr (.tmp 5 0) [] 0)), (6, .c (.ref (.tmp 41 0) [] 0 j18.length)), (11, .c (.ref (.tmp 73 0) [] 0 x197.1.length)), (12, .c (.ref (.tmp 74 0) [] 0 x197.2.1.length)), (23, .c (.sc (.int .i64 x259))), (26, .c (.ref (.tmp 287 0) [] 0 j288.2.length)), (27, .c (.sc (.int .i64 j288.1))), (292, .c (.dead)), (293, .c (.ptr (.tmp 5 0) [] 0)), (294, .c (.sc (.int .u32 t15.1))), (295, .c (.sc (.int .i64 x259))), (296, .c (.sc (.int .u32 (IntKind.u32.wrap x259)))), (297, .c (.sc (.int .u32 (IntKind.u32.wrap (t15.1 + (IntKind.u32.wrap x259)))))), (298, .g [.sc (.int .i64 2), .sc (.int .i64 0), .sc (.int .u32 (IntKind.u32.wrap (t15.1 + (IntKind.u32.wrap x259))))]), (291, .g [.sc (.int .u32 t15.1), .sc (.int .i64 t15.2.1), .sc (.int .i64 t15.2.2.1), .sc (.int .i64 t15.2.2.2.1), .sc (.int .i64 t15.2.2.2.2.1), .sc (.int .i64 t15.2.2.2.2.2.1)]), (299, .c (.ref (.tmp 299 0) [] 0 1)), (300, .c (.dead)), (28, .c (.ptr (.tmp 28 0) [] 0)), (301, .tup [(true, [.sc (.int .u32 t352.1), .sc (.int .u32 t352.2.1), .ref (.tmp 301 0) [] 0 t352.2.2.1.length, .sc (.int .i64 t352.2.2.2.1), .sc (.int .i64 t352.2.2.2.2.1), .sc (.int .i64 t352.2.2.2.2.2.1), .sc (.int .i64 t352.2.2.2.2.2.2.1), .sc (.int .i64 t352.2.2.2.2.2.2.2.1)]), (false, [.sc (.int .i64 t352.2.2.2.2.2.2.2.2)])])], [(.arg 0, ⟨.fz, 1, cs0⟩), (.arg 1, ⟨.fz, 1, cs1⟩), (.tmp 5 0, ⟨.box, 0, [.sc (.int .u32 t15.1), .sc (.int .i64 t15.2.1), .sc (.int .i64 t15.2.2.1), .sc (.int .i64 t15.2.2.2.1), .sc (.int .i64 t15.2.2.2.2.1), .sc (.int .i64 t15.2.2.2.2.2.1)]⟩), (.tmp 41 0, ⟨.lst, 3, encL c63 j18⟩), (.tmp 73 0, ⟨.lst, 1, encL c_i64 x197.1⟩), (.tmp 74 0, ⟨.lst, 1, encL c_i64 x197.2.1⟩), (.tmp 287 0, ⟨.lst, 5, encL c66 j288.2⟩), (.tmp 299 0, ⟨.lst, 3, encL c63 ([(⟨2, 0, IntKind.u32.wrap (t15.1 + (IntKind.u32.wrap x259))⟩ : S63)] : List S63)⟩), (.tmp 28 0, ⟨.box, 0, [.sc (.int .u32 0), .sc (.int .u32 0), .own 1 (([] : List Int).length) (encL c_i64 ([] : List Int)), .sc (.int .i64 0), .sc (.int .i64 0), .sc (.int .i64 0), .sc (.int .i64 0), .sc (.int .i64 0)]⟩), (.tmp 301 0, ⟨.lst, 1, encL c_i64 t352.2.2.1⟩)], [], []⟩) 6 (.tmp 41 0) j18.length (cs := encL c63 (j18 ++ ([(⟨2, 0, IntKind.u32.wrap (t15.1 + (IntKind.u32.wrap x259))⟩ : S63)] : List S63))) (cs' := encL c63 j18) rfl (encL_all (fun _ => rfl) _) rfl (by have := g425; omega) rfl (encL_takeA c63_w _ _ rfl) (by first | rfl | simp +decide only [ak, akF])) ?_
                    simp +decide only [Nat.reduceAdd, Nat.reduceMul, Int.reduceToNat, ak]
                    refine alt_e ?_
                    ·have g427 : (encL c_i64 t352.2.2.1).length = t352.2.2.1.length * 1 := by simp [encL_length c_i64_w]
                     simp +decide only [Nat.reduceAdd, Nat.reduceMul, Int.reduceToNat, ak, g427]
                     obtain rfl := Option.some.inj h
                     refine G342n _ _ (wk [6, 11, 12, 23, 26, 27, 28, 29] [pI (.arg 0) .fz, pI (.arg 1) .fz, pI (.tmp 41 0) .lst, pI (.tmp 73 0) .lst, pI (.tmp 74 0) .lst, pI (.tmp 287 0) .lst, pI (.tmp 28 0) .box]) (hJ341 _ rfl)
                 ·simp +decide only [Nat.reduceAdd, Nat.reduceMul, Int.reduceToNat, ak]
                  refine alt_k ?_ (alt_e ?_)
                  ·simp +decide only [Nat.reduceAdd, Nat.reduceMul, Int.reduceToNat, ak]
                   refine cm [pN (.arg 0) (.tmp 300 0) .fz] (impl_SubState.tri (encL c63 (j18 ++ ([(⟨2, 0, IntKind.u32.wrap (t15.1 + (IntKind.u32.wrap x259))⟩ : S63)] : List S63))) 0 (j18 ++ ([(⟨2, 0, IntKind.u32.wrap (t15.1 + (IntKind.u32.wrap x259))⟩ : S63)] : List S63)) (Vw.whole c63_w (j18 ++ ([(⟨2, 0, IntKind.u32.wrap (t15.1 + (IntKind.u32.wrap x259))⟩ : S63)] : List S63))) t15.1 t15.2.1 t15.2.2.1 t15.2.2.2.1 t15.2.2.2.2.1 t15.2.2.2.2.2.1 _ h353) (fun hl432 => ?_) (h0 := by first | rfl | simp only [reduceCtorEq, Nat.reduceEqDiff, ak, akF, b348, g52, g53, g54, g57, g58, g383, g384, g385, g403, g404, g405, g406, g407, (show j18.length + 1 = (j18 ++ ([(⟨2, 0, IntKind.u32.wrap (t15.1 + (IntKind.u32.wrap x259))⟩ : S63)] : List S63)).length by simp)]) (hav := by first | rfl | simp only [reduceCtorEq, Nat.reduceEqDiff, ak, akF, (show j18.length + 1 = (j18 ++ ([(⟨2, 0, IntKind.u32.wrap (t15.1 + (IntKind.u32.wrap x259))⟩ : S63)] : List S63)).length by simp)])
                   refine ct (.tup [(true, [.sc (.int .u32 t352.1), .sc (.int .u32 t352.2.1), .ref (.tmp 301 0) [] 0 t352.2.2.1.length, .sc (.int .i64 t352.2.2.2.1), .sc (.int .i64 t352.2.2.2.2.1), .sc (.int .i64 t352.2.2.2.2.2.1), .sc (.int .i64 t352.2.2.2.2.2.2.1), .sc (.int .i64 t352.2.2.2.2.2.2.2.1)]), (false, [.sc (.int .i64 t352.2.2.2.2.2.2.2.2)])]) (mF (mN ..)) ?_ (s4 := [(.arg 0, ⟨.fz, 1, cs0⟩), (.arg 1, ⟨.fz, 1, cs1⟩), (.tmp 5 0, ⟨.box, 0, [.sc (.int .u32 t15.1), .sc (.int .i64 t15.2.1), .sc (.int .i64 t15.2.2.1), .sc (.int .i64 t15.2.2.2.1), .sc (.int .i64 t15.2.2.2.2.1), .sc (.int .i64 t15.2.2.2.2.2.1)]⟩), (.tmp 41 0, ⟨.lst, 3, encL c63 j18⟩), (.tmp 73 0, ⟨.lst, 1, encL c_i64 x197.1⟩), (.tmp 74 0, ⟨.lst, 1, encL c_i64 x197.2.1⟩), (.tmp 287 0, ⟨.lst, 5, encL c66 j288.2⟩), (.tmp 299 0, ⟨.lst, 3, encL c63 ([(⟨2, 0, IntKind.u32.wrap (t15.1 + (IntKind.u32.wrap x259))⟩ : S63)] : List S63)⟩), (.tmp 300 0, ⟨.lst, 3, encL c63 (j18 ++ ([(⟨2, 0, IntKind.u32.wrap (t15.1 + (IntKind.u32.wrap x259))⟩ : S63)] : List S63))⟩), (.tmp 301 0, ⟨.lst, 1, encL c_i64 t352.2.2.1⟩)])
                   simp +decide only [Nat.reduceAdd, Nat.reduceMul, Int.reduceToNat, ak]
                   refine ghp_k (Weak.refl _ _) ?_
                   simp +decide only [Nat.reduceAdd, Nat.reduceMul, Int.reduceToNat, ak]
                   refine alt_e ?_
                   ·simp +decide only [Nat.reduceAdd, Nat.reduceMul, Int.reduceToNat, ak]
                    refine ghp_k (Weak.own (.tmp 28 0) (cs' := [.sc (.int .u32 0), .sc (.int .u32 0), .own 1 (([] : List Int).length) (encL c_i64 ([] : List Int)), .sc (.int .i64 0), .sc (.int .i64 0), .sc (.int .i64 0), .sc (.int .i64 0), .sc (.int .i64 0)]) rfl ⟨.inl rfl, .inl rfl, .inr ⟨rfl, _, rfl⟩, .inl rfl, .inl rfl, .inl rfl, .inl rfl, .inl rfl, trivial⟩) ?_
                    try simp +decide only [Nat.reduceAdd, Nat.reduceMul, Int.reduceToNat, ak]
                    refine alt_e ?_
                    ·have g437 : (encL c_i64 t352.2.2.1).length = t352.2.2.1.length * 1 := by simp [encL_length c_i64_w]
                     simp +decide only [Nat.reduceAdd, Nat.reduceMul, Int.reduceToNat, ak, g437]
                     obtain rfl := Option.some.inj h
                     refine G342n _ _ (wk [6, 11, 12, 23, 26, 27, 28, 29] [pI (.arg 0) .fz, pI (.arg 1) .fz, pI (.tmp 41 0) .lst, pI (.tmp 73 0) .lst, pI (.tmp 74 0) .lst, pI (.tmp 287 0) .lst, pI (.tmp 28 0) .box]) (hJ341 _ rfl)
                  ·simp +decide only [Nat.reduceAdd, Nat.reduceMul, Int.reduceToNat, ak]
                   refine ghp_k (Weak.own (.tmp 28 0) (cs' := [.sc (.int .u32 0), .sc (.int .u32 0), .own 1 (([] : List Int).length) (encL c_i64 ([] : List Int)), .sc (.int .i64 0), .sc (.int .i64 0), .sc (.int .i64 0), .sc (.int .i64 0), .sc (.int .i64 0)]) rfl ⟨.inl rfl, .inl rfl, .inr ⟨rfl, _, rfl⟩, .inl rfl, .inl rfl, .inl rfl, .inl rfl, .inl rfl, trivial⟩) ?_
                   try simp +decide only [Nat.reduceAdd, Nat.reduceMul, Int.reduceToNat, ak]
                   refine alt_e ?_
                   ·simp +decide only [Nat.reduceAdd, Nat.reduceMul, Int.reduceToNat, ak]
                    refine cm [pN (.arg 0) (.tmp 300 0) .fz] (impl_SubState.tri (encL c63 (j18 ++ ([(⟨2, 0, IntKind.u32.wrap (t15.1 + (IntKind.u32.wrap x259))⟩ : S63)] : List S63))) 0 (j18 ++ ([(⟨2, 0, IntKind.u32.wrap (t15.1 + (IntKind.u32.wrap x259))⟩ : S63)] : List S63)) (Vw.whole c63_w (j18 ++ ([(⟨2, 0, IntKind.u32.wrap (t15.1 + (IntKind.u32.wrap x259))⟩ : S63)] : List S63))) t15.1 t15.2.1 t15.2.2.1 t15.2.2.2.1 t15.2.2.2.2.1 t15.2.2.2.2.2.1 _ h353) (fun hl440 => ?_) (h0 := by first | rfl | simp only [reduceCtorEq, Nat.reduceEqDiff, ak, akF, b348, g52, g53, g54, g57, g58, g383, g384, g385, g403, g404, g405, g406, g407, (show j18.length + 1 = (j18 ++ ([(⟨2, 0, IntKind.u32.wrap (t15.1 + (IntKind.u32.wrap x259))⟩ : S63)] : List S63)).length by simp)]) (hav := by first | rfl | simp only [reduceCtorEq, Nat.reduceEqDiff, ak, akF, (show j18.length + 1 = (j18 ++ ([(⟨2, 0, IntKind.u32.wrap (t15.1 + (IntKind.u32.wrap x259))⟩ : S63)] : List S63)).length by simp)])
                    refine ct (.tup [(true, [.sc (.int .u32 t352.1), .sc (.int .u32 t352.2.1), .ref (.tmp 301 0) [] 0 t352.2.2.1.length, .sc (.int .i64 t352.2.2.2.1), .sc (.int .i64 t352.2.2.2.2.1), .sc (.int .i64 t352.2.2.2.2.2.1), .sc (.int .i64 t352.2.2.2.2.2.2.1), .sc (.int .i64 t352.2.2.2.2.2.2.2.1)]), (false, [.sc (.int .i64 t352.2.2.2.2.2.2.2.2)])]) (mF (mN ..)) ?_ (s4 := [(.arg 0, ⟨.fz, 1, cs0⟩), (.arg 1, ⟨.fz, 1, cs1⟩), (.tmp 5 0, ⟨.box, 0, [.sc (.int .u32 t15.1), .sc (.int .i64 t15.2.1), .sc (.int .i64 t15.2.2.1), .sc (.int .i64 t15.2.2.2.1), .sc (.int .i64 t15.2.2.2.2.1), .sc (.int .i64 t15.2.2.2.2.2.1)]⟩), (.tmp 41 0, ⟨.lst, 3, encL c63 j18⟩), (.tmp 73 0, ⟨.lst, 1, encL c_i64 x197.1⟩), (.tmp 74 0, ⟨.lst, 1, encL c_i64 x197.2.1⟩), (.tmp 287 0, ⟨.lst, 5, encL c66 j288.2⟩), (.tmp 299 0, ⟨.lst, 3, encL c63 ([(⟨2, 0, IntKind.u32.wrap (t15.1 + (IntKind.u32.wrap x259))⟩ : S63)] : List S63)⟩), (.tmp 300 0, ⟨.lst, 3, encL c63 (j18 ++ ([(⟨2, 0, IntKind.u32.wrap (t15.1 + (IntKind.u32.wrap x259))⟩ : S63)] : List S63))⟩), (.tmp 28 0, ⟨.box, 0, [.sc (.int .u32 0), .sc (.int .u32 0), .own 1 (([] : List Int).length) (encL c_i64 ([] : List Int)), .sc (.int .i64 0), .sc (.int .i64 0), .sc (.int .i64 0), .sc (.int .i64 0), .sc (.int .i64 0)]⟩), (.tmp 301 0, ⟨.lst, 1, encL c_i64 t352.2.2.1⟩)])
                    simp +decide only [Nat.reduceAdd, Nat.reduceMul, Int.reduceToNat, ak]
                    refine ghp_k (Weak.refl _ _) ?_
                    simp +decide only [Nat.reduceAdd, Nat.reduceMul, Int.reduceToNat, ak]
                    refine alt_e ?_
                    ·have g443 : (encL c_i64 t352.2.2.1).length = t352.2.2.1.length * 1 := by simp [encL_length c_i64_w]
                     simp +decide only [Nat.reduceAdd, Nat.reduceMul, Int.reduceToNat, ak, g443]
                     obtain rfl := Option.some.inj h
                     refine G342n _ _ (wk [6, 11, 12, 23, 26, 27, 28, 29] [pI (.arg 0) .fz, pI (.arg 1) .fz, pI (.tmp 41 0) .lst, pI (.tmp 73 0) .lst, pI (.tmp 74 0) .lst, pI (.tmp 287 0) .lst, pI (.tmp 28 0) .box]) (hJ341 _ rfl)
                ·simp +decide only [Nat.reduceAdd, Nat.reduceMul, Int.reduceToNat, ak]
                 refine ghp_k (Weak.own (.tmp 28 0) (cs' := [.sc (.int .u32 0), .sc (.int .u32 0), .own 1 (([] : List Int).length) (encL c_i64 ([] : List Int)), .sc (.int .i64 0), .sc (.int .i64 0), .sc (.int .i64 0), .sc (.int .i64 0), .sc (.int .i64 0)]) rfl ⟨.inl rfl, .inl rfl, .inr ⟨rfl, _, rfl⟩, .inl rfl, .inl rfl, .inl rfl, .inl rfl, .inl rfl, trivial⟩) ?_
                 try simp +decide only [Nat.reduceAdd, Nat.reduceMul, Int.reduceToNat, ak]
                 refine alt_e ?_
                 ·have g457 : (encL c63 ([(⟨2, 0, IntKind.u32.wrap (t15.1 + (IntKind.u32.wrap x259))⟩ : S63)] : List S63)).take 3 = encL c63 ([(⟨2, 0, IntKind.u32.wrap (t15.1 + (IntKind.u32.wrap x259))⟩ : S63)] : List S63) := by simpa using (Vw.whole c63_w ([(⟨2, 0, IntKind.u32.wrap (t15.1 + (IntKind.u32.wrap x259))⟩ : S63)] : List S63)).all
                  have g458 : (encL c63 ([(⟨2, 0, IntKind.u32.wrap (t15.1 + (IntKind.u32.wrap x259))⟩ : S63)] : List S63)).all isSc = true := encL_all (fun _ => rfl) _
                  have g459 : appLim j18.length 1 24 := ⟨b348, by have := b348; omega⟩
                  have g460 : (encL c63 j18).length = j18.length * 3 := by simp [encL_length c63_w]
                  have g461 : encL c63 j18 ++ encL c63 ([(⟨2, 0, IntKind.u32.wrap (t15.1 + (IntKind.u32.wrap x259))⟩ : S63)] : List S63) = encL c63 (j18 ++ ([(⟨2, 0, IntKind.u32.wrap (t15.1 + (IntKind.u32.wrap x259))⟩ : S63)] : List S63)) := (encL_append _ _).symm
                  refine appv_k (st1 := ⟨[(5, .c (.ptr (.tmp 5 0) [] 0)), (6, .c (.ref (.tmp 41 0) [] 0 j18.length)), (11, .c (.ref (.tmp 73 0) [] 0 x197.1.length)), (12, .c (.ref (.tmp 74 0) [] 0 x197.2.1.length)), (23, .c (.sc (.int .i64 x259))), (26, .c (.ref (.tmp 287 0) [] 0 j288.2.length)), (27, .c (.sc (.int .i64 j288.1))), (292, .c (.dead)), (293, .c (.ptr (.tmp 5 0) [] 0)), (294, .c (.sc (.int .u32 t15.1))), (295, .c (.sc (.int .i64 x259))), (296, .c (.sc (.int .u32 (IntKind.u32.wrap x259)))), (297, .c (.sc (.int .u32 (IntKind.u32.wrap (t15.1 + (IntKind.u32.wrap x259)))))), (298, .g [.sc (.int .i64 2), .sc (.int .i64 0), .sc (.int .u32 (IntKind.u32.wrap (t15.1 + (IntKind.u32.wrap x259))))]), (291, .g [.sc (.int .u32 t15.1), .sc (.int .i64 t15.2.1), .sc (.int .i64 t15.2.2.1), .sc (.int .i64 t15.2.2.2.1), .sc (.int .i64 t15.2.2.2.2.1), .sc (.int .i64 t15.2.2.2.2.2.1)]), (299, .c (.ref (.tmp 299 0) [] 0 1)), (28, .c (.ptr (.tmp 28 0) [] 0)), (300, .c (.ref (.tmp 41 0) [] 0 (j18.length + 1)))], [(.arg 0, ⟨.fz, 1, cs0⟩), (.arg 1, ⟨.fz, 1, cs1⟩), (.tmp 5 0, ⟨.box, 0, [.sc (.int .u32 t15.1), .sc (.int .i64 t15.2.1), .sc (.int .i64 t15.2.2.1), .sc (.int .i64 t15.2.2.2.1), .sc (.int .i64 t15.2.2.2.2.1), .sc (.int .i64 t15.2.2.2.2.2.1)]⟩), (.tmp 41 0, ⟨.lst, 3, encL c63 (j18 ++ ([(⟨2, 0, IntKind.u32.wrap (t15.1 + (IntKind.u32.wrap x259))⟩ : S63)] : List S63))⟩), (.tmp 73 0, ⟨.lst, 1, encL c_i64 x197.1⟩), (.tmp 74 0, ⟨.lst, 1, encL c_i64 x197.2.1⟩), (.tmp 287 0, ⟨.lst, 5, encL c66 j288.2⟩), (.tmp 299 0, ⟨.lst, 3, encL c63 ([(⟨2, 0, IntKind.u32.wrap (t15.1 + (IntKind.u32.wrap x259))⟩ : S63)] : List S63)⟩), (.tmp 28 0, ⟨.box, 0, [.sc (.int .u32 0), .sc (.int .u32 0), .own 1 (([] : List Int).length) (encL c_i64 ([] : List Int)), .sc (.int .i64 0), .sc (.int .i64 0), .sc (.int .i64 0), .sc (.int .i64 0), .sc (.int .i64 0)]⟩)], [], []⟩) (st2 := ⟨[(5, .c (.ptr (.tmp 5 0) [] 0)), (6, .c (.ref (.tmp 41 0) [] 0 j18.length)), (11, .c (.ref (.tmp 73 0) [] 0 x197.1.length)), (12, .c (.ref (.tmp 74 0) [] 0 x197.2.1.length)), (23, .c (.sc (.int .i64 x259))), (26, .c (.ref (.tmp 287 0) [] 0 j288.2.length)), (27, .c (.sc (.int .i64 j288.1))), (292, .c (.ref (.tmp 41 0) [] 0 j18.length)), (293, .c (.ptr (.tmp 5 0) [] 0)), (294, .c (.sc (.int .u32 t15.1))), (295, .c (.sc (.int .i64 x259))), (296, .c (.sc (.int .u32 (IntKind.u32.wrap x259)))), (297, .c (.sc (.int .u32 (IntKind.u32.wrap (t15.1 + (IntKind.u32.wrap x259)))))), (298, .g [.sc (.int .i64 2), .sc (.int .i64 0), .sc (.int .u32 (IntKind.u32.wrap (t15.1 + (IntKind.u32.wrap x259))))]), (291, .g [.sc (.int .u32 t15.1), .sc (.int .i64 t15.2.1), .sc (.int .i64 t15.2.2.1), .sc (.int .i64 t15.2.2.2.1), .sc (.int .i64 t15.2.2.2.2.1), .sc (.int .i64 t15.2.2.2.2.2.1)]), (299, .c (.ref (.tmp 299 0) [] 0 1)), (28, .c (.ptr (.tmp 28 0) [] 0)), (300, .c (.ref (.tmp 300 0) [] 0 (j18.length + 1)))], [(.arg 0, ⟨.fz, 1, cs0⟩), (.arg 1, ⟨.fz, 1, cs1⟩), (.tmp 5 0, ⟨.box, 0, [.sc (.int .u32 t15.1), .sc (.int .i64 t15.2.1), .sc (.int .i64 t15.2.2.1), .sc (.int .i64 t15.2.2.2.1), .sc (.int .i64 t15.2.2.2.2.1), .sc (.int .i64 t15.2.2.2.2.2.1)]⟩), (.tmp 41 0, ⟨.lst, 3, encL c63 j18⟩), (.tmp 73 0, ⟨.lst, 1, encL c_i64 x197.1⟩), (.tmp 74 0, ⟨.lst, 1, encL c_i64 x197.2.1⟩), (.tmp 287 0, ⟨.lst, 5, encL c66 j288.2⟩), (.tmp 299 0, ⟨.lst, 3, encL c63 ([(⟨2, 0, IntKind.u32.wrap (t15.1 + (IntKind.u32.wrap x259))⟩ : S63)] : List S63)⟩), (.tmp 28 0, ⟨.box, 0, [.sc (.int .u32 0), .sc (.int .u32 0), .own 1 (([] : List Int).length) (encL c_i64 ([] : List Int)), .sc (.int .i64 0), .sc (.int .i64 0), .sc (.int .i64 0), .sc (.int .i64 0), .sc (.int .i64 0)]⟩), (.tmp 300 0, ⟨.lst, 3, encL c63 (j18 ++ ([(⟨2, 0, IntKind.u32.wrap (t15.1 + (IntKind.u32.wrap x259))⟩ : S63)] : List S63))⟩)], [], []⟩) 6 (.tmp 41 0) j18.length (encL c63 j18) 1 (encL c63 ([(⟨2, 0, IntKind.u32.wrap (t15.1 + (IntKind.u32.wrap x259))⟩ : S63)] : List S63)) (by decide) (by first | rfl | simp only [ak]) (by rfl) (by rfl) (g460).symm (encL_all (fun _ => rfl) _) (by first | rfl | (simp +decide only [srcOf, Nat.reduceAdd, Nat.reduceMul, Int.reduceToNat, ak, g457, g458, g459, g460, g461]; done) | simp [srcOf, g457, g458, g459, g460, g461]) g459 rfl (by rfl) (by first | rfl | (simp +decide only [St.appIn, St.appOut, growTo, Nat.reduceAdd, Nat.reduceMul, Int.reduceToNat, ak, g457, g458, g459, g460, g461]; done) | simp +decide [St.appIn, St.appOut, growTo, ak, g457, g458, g459, g460, g461]) (by first | rfl | (simp +decide only [St.appIn, St.appOut, growTo, Nat.reduceAdd, Nat.reduceMul, Int.reduceToNat, ak, g457, g458, g459, g460, g461]; done) | simp +decide [St.appIn, St.appOut, growTo, ak, g457, g458, g459, g460, g461]) ?_ ?_
                  ·simp +decide only [Nat.reduceAdd, Nat.reduceMul, Int.reduceToNat, ak]
                   refine alt_e ?_
                   ·simp +decide only [Nat.reduceAdd, Nat.reduceMul, Int.reduceToNat, ak]
                    refine cm [pN (.arg 0) (.tmp 41 0) .fz] (impl_SubState.tri (encL c63 (j18 ++ ([(⟨2, 0, IntKind.u32.wrap (t15.1 + (IntKind.u32.wrap x259))⟩ : S63)] : List S63))) 0 (j18 ++ ([(⟨2, 0, IntKind.u32.wrap (t15.1 + (IntKind.u32.wrap x259))⟩ : S63)] : List S63)) (Vw.whole c63_w (j18 ++ ([(⟨2, 0, IntKind.u32.wrap (t15.1 + (IntKind.u32.wrap x259))⟩ : S63)] : List S63))) t15.1 t15.2.1 t15.2.2.1 t15.2.2.2.1 t15.2.2.2.2.1 t15.2.2.2.2.2.1 _ h353) (fun hl465 => ?_) (h0 := by first | rfl | simp only [reduceCtorEq, Nat.reduceEqDiff, ak, akF, b348, g52, g53, g54, g57, g58, g383, g384, g385, g457, g458, g459, g460, g461, (show j18.length + 1 = (j18 ++ ([(⟨2, 0, IntKind.u32.wrap (t15.1 + (IntKind.u32.wrap x259))⟩ : S63)] : List S63)).length by simp)]) (hav := by first | rfl | simp only [reduceCtorEq, Nat.reduceEqDiff, ak, akF, (show j18.length + 1 = (j18 ++ ([(⟨2, 0, IntKind.u32.wrap (t15.1 + (IntKind.u32.wrap x259))⟩ : S63)] : List S63)).length by simp)])
                    refine ct (.tup [(true, [.sc (.int .u32 t352.1), .sc (.int .u32 t352.2.1), .ref (.tmp 301 0) [] 0 t352.2.2.1.length, .sc (.int .i64 t352.2.2.2.1), .sc (.int .i64 t352.2.2.2.2.1), .sc (.int .i64 t352.2.2.2.2.2.1), .sc (.int .i64 t352.2.2.2.2.2.2.1), .sc (.int .i64 t352.2.2.2.2.2.2.2.1)]), (false, [.sc (.int .i64 t352.2.2.2.2.2.2.2.2)])]) (mF (mN ..)) ?_ (s4 := [(.arg 0, ⟨.fz, 1, cs0⟩), (.arg 1, ⟨.fz, 1, cs1⟩), (.tmp 5 0, ⟨.box, 0, [.sc (.int .u32 t15.1), .sc (.int .i64 t15.2.1), .sc (.int .i64 t15.2.2.1), .sc (.int .i64 t15.2.2.2.1), .sc (.int .i64 t15.2.2.2.2.1), .sc (.int .i64 t15.2.2.2.2.2.1)]⟩), (.tmp 41 0, ⟨.lst, 3, encL c63 (j18 ++ ([(⟨2, 0, IntKind.u32.wrap (t15.1 + (IntKind.u32.wrap x259))⟩ : S63)] : List S63))⟩), (.tmp 73 0, ⟨.lst, 1, encL c_i64 x197.1⟩), (.tmp 74 0, ⟨.lst, 1, encL c_i64 x197.2.1⟩), (.tmp 287 0, ⟨.lst, 5, encL c66 j288.2⟩), (.tmp 299 0, ⟨.lst, 3, encL c63 ([(⟨2, 0, IntKind.u32.wrap (t15.1 + (IntKind.u32.wrap x259))⟩ : S63)] : List S63)⟩), (.tmp 28 0, ⟨.box, 0, [.sc (.int .u32 0), .sc (.int .u32 0), .own 1 (([] : List Int).length) (encL c_i64 ([] : List Int)), .sc (.int .i64 0), .sc (.int .i64 0), .sc (.int .i64 0), .sc (.int .i64 0), .sc (.int .i64 0)]⟩), (.tmp 301 0, ⟨.lst, 1, encL c_i64 t352.2.2.1⟩)])
                    have g467 : (encL c63 (j18 ++ ([(⟨2, 0, IntKind.u32.wrap (t15.1 + (IntKind.u32.wrap x259))⟩ : S63)] : List S63))).length = (j18 ++ ([(⟨2, 0, IntKind.u32.wrap (t15.1 + (IntKind.u32.wrap x259))⟩ : S63)] : List S63)).length * 3 := encL_length c63_w _
                    have hsh : j18.length ≤ (j18 ++ ([(⟨2, 0, IntKind.u32.wrap (t15.1 + (IntKind.u32.wrap x259))⟩ : S63)] : List S63)).length := by simp
                    simp +decide only [Nat.reduceAdd, Nat.reduceMul, Int.reduceToNat, ak, g467]
                    refine ghp_k (Weak.shrink (st' := ⟨[(5, .c (.ptr (.tmp 5 0) [] 0)), (6, .c (.ref (.tmp 41 0) [] 0 j18.length)), (11, .c (.ref (.tmp 73 0) [] 0 x197.1.length)), (12, .c (.ref (.tmp 74 0) [] 0 x197.2.1.length)), (23, .c (.sc (.int .i64 x259))), (26, .c (.ref (.tmp 287 0) [] 0 j288.2.length)), (27, .c (.sc (.int .i64 j288.1))), (292, .c (.dead)), (293, .c (.ptr (.tmp 5 0) [] 0)), (294, .c (.sc (.int .u32 t15.1))), (295, .c (.sc (.int .i64 x259))), (296, .c (.sc (.int .u32 (IntKind.u32.wrap x259)))), (297, .c (.sc (.int .u32 (IntKind.u32.wrap (t15.1 + (IntKind.u32.wrap x259)))))), (298, .g [.sc (.int .i64 2), .sc (.int .i64 0), .sc (.int .u32 (IntKind.u32.wrap (t15.1 + (IntKind.u32.wrap x259))))]), (291, .g [.sc (.int .u32 t15.1), .sc (.int .i64 t15.2.1), .sc (.int .i64 t15.2.2.1), .sc (.int .i64 t15.2.2.2.1), .sc (.int .i64 t15.2.2.2.2.1), .sc (.int .i64 t15.2.2.2.2.2.1)]), (299, .c (.ref (.tmp 299 0) [] 0 1)), (28, .c (.ptr (.tmp 28 0) [] 0)), (300, .c (.dead)), (301, .tup [(true, [.sc (.int .u32 t352.1), .sc (.int .u32 t352.2.1), .ref (.tmp 301 0) [] 0 t352.2.2.1.length, .sc (.int .i64 t352.2.2.2.1), .sc (.int .i64 t352.2.2.2.2.1), .sc (.int .i64 t352.2.2.2.2.2.1), .sc (.int .i64 t352.2.2.2.2.2.2.1), .sc (.int .i64 t352.2.2.2.2.2.2.2.1)]), (false, [.sc (.int .i64 t352.2.2.2.2.2.2.2.2)])])], [(.arg 0, ⟨.fz, 1, cs0⟩), (.arg 1, ⟨.fz, 1, cs1⟩), (.tmp 5 0, ⟨.box, 0, [.sc (.int .u32 t15.1), .sc (.int .i64 t15.2.1), .sc (.int .i64 t15.2.2.1), .sc (.int .i64 t15.2.2.2.1), .sc (.int .i64 t15.2.2.2.2.1), .sc (.int .i64 t15.2.2.2.2.2.1)]⟩), (.tmp 41 0, ⟨.lst, 3, encL c63 j18⟩), (.tmp 73 0, ⟨.lst, 1, encL c_i64 x197.1⟩), (.tmp 74 0, ⟨.lst, 1, encL c_i64 x197.2.1⟩), (.tmp 287 0, ⟨.lst, 5, encL c66 j288.2⟩), (.tmp 299 0, ⟨.lst, 3, encL c63 ([(⟨2, 0, IntKind.u32.wrap (t15.1 + (IntKind.u32.wrap x259))⟩ : S63)] : List S63)⟩), (.tmp 28 0, ⟨.box, 0, [.sc (.int .u32 0), .sc (.int .u32 0), .own 1 (([] : List Int).length) (encL c_i64 ([] : List Int)), .sc (.int .i64 0), .sc (.int .i64 0), .sc (.int .i64 0), .sc (.int .i64 0), .sc (.int .i64 0)]⟩), (.tmp 301 0, ⟨.lst, 1, encL c_i64 t352.2.2.1⟩)], [], []⟩) 6 (.tmp 41 0) j18.length (cs := encL c63 (j18 ++ ([(⟨2, 0, IntKind.u32.wrap (t15.1 + (IntKind.u32.wrap x259))⟩ : S63)] : List S63))) (cs' := encL c63 j18) rfl (encL_all (fun _ => rfl) _) rfl (by have := g467; omega) rfl (encL_takeA c63_w _ _ rfl) (by first | rfl | simp +decide only [ak, akF])) ?_
                    simp +decide only [Nat.reduceAdd, Nat.reduceMul, Int.reduceToNat, ak]
                    refine alt_e ?_
                    ·have g469 : (encL c_i64 t352.2.2.1).length = t352.2.2.1.length * 1 := by simp [encL_length c_i64_w]
                     simp +decide only [Nat.reduceAdd, Nat.reduceMul, Int.reduceToNat, ak, g469]
                     obtain rfl := Option.some.inj h
                     refine G342n _ _ (wk [6, 11, 12, 23, 26, 27, 28, 29] [pI (.arg 0) .fz, pI (.arg 1) .fz, pI (.tmp 41 0) .lst, pI (.tmp 73 0) .lst, pI (.tmp 74 0) .lst, pI (.tmp 287 0) .lst, pI (.tmp 28 0) .box]) (hJ341 _ rfl)
                  ·simp +decide only [Nat.reduceAdd, Nat.reduceMul, Int.reduceToNat, ak]
                   refine alt_e ?_
                   ·simp +decide only [Nat.reduceAdd, Nat.reduceMul, Int.reduceToNat, ak]
                    refine cm [pN (.arg 0) (.tmp 300 0) .fz] (impl_SubState.tri (encL c63 (j18 ++ ([(⟨2, 0, IntKind.u32.wrap (t15.1 + (IntKind.u32.wrap x259))⟩ : S63)] : List S63))) 0 (j18 ++ ([(⟨2, 0, IntKind.u32.wrap (t15.1 + (IntKind.u32.wrap x259))⟩ : S63)] : List S63)) (Vw.whole c63_w (j18 ++ ([(⟨2, 0, IntKind.u32.wrap (t15.1 + (IntKind.u32.wrap x259))⟩ : S63)] : List S63))) t15.1 t15.2.1 t15.2.2.1 t15.2.2.2.1 t15.2.2.2.2.1 t15.2.2.2.2.2.1 _ h353) (fun hl472 => ?_) (h0 := by first | rfl | simp only [reduceCtorEq, Nat.reduceEqDiff, ak, akF, b348, g52, g53, g54, g57, g58, g383, g384, g385, g457, g458, g459, g460, g461, (show j18.length + 1 = (j18 ++ ([(⟨2, 0, IntKind.u32.wrap (t15.1 + (IntKind.u32.wrap x259))⟩ : S63)] : List S63)).length by simp)]) (hav := by first | rfl | simp only [reduceCtorEq, Nat.reduceEqDiff, ak, akF, (show j18.length + 1 = (j18 ++ ([(⟨2, 0, IntKind.u32.wrap (t15.1 + (IntKind.u32.wrap x259))⟩ : S63)] : List S63)).length by simp)])
                    refine ct (.tup [(true, [.sc (.int .u32 t352.1), .sc (.int .u32 t352.2.1), .ref (.tmp 301 0) [] 0 t352.2.2.1.length, .sc (.int .i64 t352.2.2.2.1), .sc (.int .i64 t352.2.2.2.2.1), .sc (.int .i64 t352.2.2.2.2.2.1), .sc (.int .i64 t352.2.2.2.2.2.2.1), .sc (.int .i64 t352.2.2.2.2.2.2.2.1)]), (false, [.sc (.int .i64 t352.2.2.2.2.2.2.2.2)])]) (mF (mN ..)) ?_ (s4 := [(.arg 0, ⟨.fz, 1, cs0⟩), (.arg 1, ⟨.fz, 1, cs1⟩), (.tmp 5 0, ⟨.box, 0, [.sc (.int .u32 t15.1), .sc (.int .i64 t15.2.1), .sc (.int .i64 t15.2.2.1), .sc (.int .i64 t15.2.2.2.1), .sc (.int .i64 t15.2.2.2.2.1), .sc (.int .i64 t15.2.2.2.2.2.1)]⟩), (.tmp 41 0, ⟨.lst, 3, encL c63 j18⟩), (.tmp 73 0, ⟨.lst, 1, encL c_i64 x197.1⟩), (.tmp 74 0, ⟨.lst, 1, encL c_i64 x197.2.1⟩), (.tmp 287 0, ⟨.lst, 5, encL c66 j288.2⟩), (.tmp 299 0, ⟨.lst, 3, encL c63 ([(⟨2, 0, IntKind.u32.wrap (t15.1 + (IntKind.u32.wrap x259))⟩ : S63)] : List S63)⟩), (.tmp 28 0, ⟨.box, 0, [.sc (.int .u32 0), .sc (.int .u32 0), .own 1 (([] : List Int).length) (encL c_i64 ([] : List Int)), .sc (.int .i64 0), .sc (.int .i64 0), .sc (.int .i64 0), .sc (.int .i64 0), .sc (.int .i64 0)]⟩), (.tmp 300 0, ⟨.lst, 3, encL c63 (j18 ++ ([(⟨2, 0, IntKind.u32.wrap (t15.1 + (IntKind.u32.wrap x259))⟩ : S63)] : List S63))⟩), (.tmp 301 0, ⟨.lst, 1, encL c_i64 t352.2.2.1⟩)])
                    simp +decide only [Nat.reduceAdd, Nat.reduceMul, Int.reduceToNat, ak]
                    refine ghp_k (Weak.refl _ _) ?_
                    simp +decide only [Nat.reduceAdd, Nat.reduceMul, Int.reduceToNat, ak]
                    refine alt_e ?_
                    ·have g475 : (encL c_i64 t352.2.2.1).length = t352.2.2.1.length * 1 := by simp [encL_length c_i64_w]
                     simp +decide only [Nat.reduceAdd, Nat.reduceMul, Int.reduceToNat, ak, g475]
                     obtain rfl := Option.some.inj h
                     refine G342n _ _ (wk [6, 11, 12, 23, 26, 27, 28, 29] [pI (.arg 0) .fz, pI (.arg 1) .fz, pI (.tmp 41 0) .lst, pI (.tmp 73 0) .lst, pI (.tmp 74 0) .lst, pI (.tmp 287 0) .lst, pI (.tmp 28 0) .box]) (hJ341 _ rfl)
               ·simp +decide only [Nat.reduceAdd, Nat.reduceMul, Int.reduceToNat, ak]
                refine ghp_k (Weak.own (.tmp 28 0) (cs' := [.sc (.int .u32 0), .sc (.int .u32 0), .own 1 (([] : List Int).length) (encL c_i64 ([] : List Int)), .sc (.int .i64 0), .sc (.int .i64 0), .sc (.int .i64 0), .sc (.int .i64 0), .sc (.int .i64 0)]) rfl ⟨.inl rfl, .inl rfl, .inr ⟨rfl, _, rfl⟩, .inl rfl, .inl rfl, .inl rfl, .inl rfl, .inl rfl, trivial⟩) ?_
                try simp +decide only [Nat.reduceAdd, Nat.reduceMul, Int.reduceToNat, ak]
                refine alt_e ?_
                ·have g505 : (List.replicate 1 ([.int .i64 0, .int .i64 0, .int .u32 0] : List Value)).flatten = [.int .i64 0, .int .i64 0, .int .u32 0] := rfl
                 have g506 : (⟨.lst, 3, [.sc (.int .i64 2), .sc (.int .i64 0), .sc (.int .u32 (IntKind.u32.wrap (t15.1 + (IntKind.u32.wrap x259))))]⟩ : Root) = ⟨.lst, 3, encL c63 ([(⟨2, 0, IntKind.u32.wrap (t15.1 + (IntKind.u32.wrap x259))⟩ : S63)] : List S63)⟩ := rfl
                 have g507 : ([(⟨2, 0, IntKind.u32.wrap (t15.1 + (IntKind.u32.wrap x259))⟩ : S63)] : List S63).length = 1 := rfl
                 simp +decide only [Nat.reduceAdd, Nat.reduceMul, Int.reduceToNat, ak, g505, g506, g507]
                 refine alt_e ?_
                 ·have g521 : (encL c63 ([(⟨2, 0, IntKind.u32.wrap (t15.1 + (IntKind.u32.wrap x259))⟩ : S63)] : List S63)).take 3 = encL c63 ([(⟨2, 0, IntKind.u32.wrap (t15.1 + (IntKind.u32.wrap x259))⟩ : S63)] : List S63) := by simpa using (Vw.whole c63_w ([(⟨2, 0, IntKind.u32.wrap (t15.1 + (IntKind.u32.wrap x259))⟩ : S63)] : List S63)).all
                  have g522 : (encL c63 ([(⟨2, 0, IntKind.u32.wrap (t15.1 + (IntKind.u32.wrap x259))⟩ : S63)] : List S63)).all isSc = true := encL_all (fun _ => rfl) _
                  have g523 : appLim j18.length 1 24 := ⟨b348, by have := b348; omega⟩
                  have g524 : (encL c63 j18).length = j18.length * 3 := by simp [encL_length c63_w]
                  have g525 : encL c63 j18 ++ encL c63 ([(⟨2, 0, IntKind.u32.wrap (t15.1 + (IntKind.u32.wrap x259))⟩ : S63)] : List S63) = encL c63 (j18 ++ ([(⟨2, 0, IntKind.u32.wrap (t15.1 + (IntKind.u32.wrap x259))⟩ : S63)] : List S63)) := (encL_append _ _).symm
                  refine appv_k (st1 := ⟨[(5, .c (.ptr (.tmp 5 0) [] 0)), (6, .c (.ref (.tmp 41 0) [] 0 j18.length)), (11, .c (.ref (.tmp 73 0) [] 0 x197.1.length)), (12, .c (.ref (.tmp 74 0) [] 0 x197.2.1.length)), (23, .c (.sc (.int .i64 x259))), (26, .c (.ref (.tmp 287 0) [] 0 j288.2.length)), (27, .c (.sc (.int .i64 j288.1))), (292, .c (.dead)), (293, .c (.ptr (.tmp 5 0) [] 0)), (294, .c (.sc (.int .u32 t15.1))), (295, .c (.sc (.int .i64 x259))), (296, .c (.sc (.int .u32 (IntKind.u32.wrap x259)))), (297, .c (.sc (.int .u32 (IntKind.u32.wrap (t15.1 + (IntKind.u32.wrap x259)))))), (298, .g [.sc (.int .i64 2), .sc (.int .i64 0), .sc (.int .u32 (IntKind.u32.wrap (t15.1 + (IntKind.u32.wrap x259))))]), (291, .g [.sc (.int .u32 t15.1), .sc (.int .i64 t15.2.1), .sc (.int .i64 t15.2.2.1), .sc (.int .i64 t15.2.2.2.1), .sc (.int .i64 t15.2.2.2.2.1), .sc (.int .i64 t15.2.2.2.2.2.1)]), (28, .c (.ptr (.tmp 28 0) [] 0)), (299, .c (.ref (.tmp 299 0) [] 0 1)), (300, .c (.ref (.tmp 41 0) [] 0 (j18.length + 1)))], [(.arg 0, ⟨.fz, 1, cs0⟩), (.arg 1, ⟨.fz, 1, cs1⟩), (.tmp 5 0, ⟨.box, 0, [.sc (.int .u32 t15.1), .sc (.int .i64 t15.2.1), .sc (.int .i64 t15.2.2.1), .sc (.int .i64 t15.2.2.2.1), .sc (.int .i64 t15.2.2.2.2.1), .sc (.int .i64 t15.2.2.2.2.2.1)]⟩), (.tmp 41 0, ⟨.lst, 3, encL c63 (j18 ++ ([(⟨2, 0, IntKind.u32.wrap (t15.1 + (IntKind.u32.wrap x259))⟩ : S63)] : List S63))⟩), (.tmp 73 0, ⟨.lst, 1, encL c_i64 x197.1⟩), (.tmp 74 0, ⟨.lst, 1, encL c_i64 x197.2.1⟩), (.tmp 287 0, ⟨.lst, 5, encL c66 j288.2⟩), (.tmp 28 0, ⟨.box, 0, [.sc (.int .u32 0), .sc (.int .u32 0), .own 1 (([] : List Int).length) (encL c_i64 ([] : List Int)), .sc (.int .i64 0), .sc (.int .i64 0), .sc (.int .i64 0), .sc (.int .i64 0), .sc (.int .i64 0)]⟩), (.tmp 299 0, ⟨.lst, 3, encL c63 ([(⟨2, 0, IntKind.u32.wrap (t15.1 + (IntKind.u32.wrap x259))⟩ : S63)] : List S63)⟩)], [], []⟩) (st2 := ⟨[(5, .c (.ptr (.tmp 5 0) [] 0)), (6, .c (.ref (.tmp 41 0) [] 0 j18.length)), (11, .c (.ref (.tmp 73 0) [] 0 x197.1.length)), (12, .c (.ref (.tmp 74 0) [] 0 x197.2.1.length)), (23, .c (.sc (.int .i64 x259))), (26, .c (.ref (.tmp 287 0) [] 0 j288.2.length)), (27, .c (.sc (.int .i64 j288.1))), (292, .c (.ref (.tmp 41 0) [] 0 j18.length)), (293, .c (.ptr (.tmp 5 0) [] 0)), (294, .c (.sc (.int .u32 t15.1))), (295, .c (.sc (.int .i64 x259))), (296, .c (.sc (.int .u32 (IntKind.u32.wrap x259)))), (297, .c (.sc (.int .u32 (IntKind.u32.wrap (t15.1 + (IntKind.u32.wrap x259)))))), (298, .g [.sc (.int .i64 2), .sc (.int .i64 0), .sc (.int .u32 (IntKind.u32.wrap (t15.1 + (IntKind.u32.wrap x259))))]), (291, .g [.sc (.int .u32 t15.1), .sc (.int .i64 t15.2.1), .sc (.int .i64 t15.2.2.1), .sc (.int .i64 t15.2.2.2.1), .sc (.int .i64 t15.2.2.2.2.1), .sc (.int .i64 t15.2.2.2.2.2.1)]), (28, .c (.ptr (.tmp 28 0) [] 0)), (299, .c (.ref (.tmp 299 0) [] 0 1)), (300, .c (.ref (.tmp 300 0) [] 0 (j18.length + 1)))], [(.arg 0, ⟨.fz, 1, cs0⟩), (.arg 1, ⟨.fz, 1, cs1⟩), (.tmp 5 0, ⟨.box, 0, [.sc (.int .u32 t15.1), .sc (.int .i64 t15.2.1), .sc (.int .i64 t15.2.2.1), .sc (.int .i64 t15.2.2.2.1), .sc (.int .i64 t15.2.2.2.2.1), .sc (.int .i64 t15.2.2.2.2.2.1)]⟩), (.tmp 41 0, ⟨.lst, 3, encL c63 j18⟩), (.tmp 73 0, ⟨.lst, 1, encL c_i64 x197.1⟩), (.tmp 74 0, ⟨.lst, 1, encL c_i64 x197.2.1⟩), (.tmp 287 0, ⟨.lst, 5, encL c66 j288.2⟩), (.tmp 28 0, ⟨.box, 0, [.sc (.int .u32 0), .sc (.int .u32 0), .own 1 (([] : List Int).length) (encL c_i64 ([] : List Int)), .sc (.int .i64 0), .sc (.int .i64 0), .sc (.int .i64 0), .sc (.int .i64 0), .sc (.int .i64 0)]⟩), (.tmp 299 0, ⟨.lst, 3, encL c63 ([(⟨2, 0, IntKind.u32.wrap (t15.1 + (IntKind.u32.wrap x259))⟩ : S63)] : List S63)⟩), (.tmp 300 0, ⟨.lst, 3, encL c63 (j18 ++ ([(⟨2, 0, IntKind.u32.wrap (t15.1 + (IntKind.u32.wrap x259))⟩ : S63)] : List S63))⟩)], [], []⟩) 6 (.tmp 41 0) j18.length (encL c63 j18) 1 (encL c63 ([(⟨2, 0, IntKind.u32.wrap (t15.1 + (IntKind.u32.wrap x259))⟩ : S63)] : List S63)) (by decide) (by first | rfl | simp only [ak]) (by rfl) (by rfl) (g524).symm (encL_all (fun _ => rfl) _) (by first | rfl | (simp +decide only [srcOf, Nat.reduceAdd, Nat.reduceMul, Int.reduceToNat, ak, g521, g522, g523, g524, g525]; done) | simp [srcOf, g521, g522, g523, g524, g525]) g523 rfl (by rfl) (by first | rfl | (simp +decide only [St.appIn, St.appOut, growTo, Nat.reduceAdd, Nat.reduceMul, Int.reduceToNat, ak, g521, g522, g523, g524, g525]; done) | simp +decide [St.appIn, St.appOut, growTo, ak, g521, g522, g523, g524, g525]) (by first | rfl | (simp +decide only [St.appIn, St.appOut, growTo, Nat.reduceAdd, Nat.reduceMul, Int.reduceToNat, ak, g521, g522, g523, g524, g525]; done) | simp +decide [St.appIn, St.appOut, growTo, ak, g521, g522, g523, g524, g525]) ?_ ?_
                  ·simp +decide only [Nat.reduceAdd, Nat.reduceMul, Int.reduceToNat, ak]
                   refine alt_e ?_
                   ·simp +decide only [Nat.reduceAdd, Nat.reduceMul, Int.reduceToNat, ak]
                    refine cm [pN (.arg 0) (.tmp 41 0) .fz] (impl_SubState.tri (encL c63 (j18 ++ ([(⟨2, 0, IntKind.u32.wrap (t15.1 + (IntKind.u32.wrap x259))⟩ : S63)] : List S63))) 0 (j18 ++ ([(⟨2, 0, IntKind.u32.wrap (t15.1 + (IntKind.u32.wrap x259))⟩ : S63)] : List S63)) (Vw.whole c63_w (j18 ++ ([(⟨2, 0, IntKind.u32.wrap (t15.1 + (IntKind.u32.wrap x259))⟩ : S63)] : List S63))) t15.1 t15.2.1 t15.2.2.1 t15.2.2.2.1 t15.2.2.2.2.1 t15.2.2.2.2.2.1 _ h353) (fun hl529 => ?_) (h0 := by first | rfl | simp only [reduceCtorEq, Nat.reduceEqDiff, ak, akF, b348, g52, g53, g54, g57, g58, g505, g506, g507, g521, g522, g523, g524, g525, (show j18.length + 1 = (j18 ++ ([(⟨2, 0, IntKind.u32.wrap (t15.1 + (IntKind.u32.wrap x259))⟩ : S63)] : List S63)).length by simp)]) (hav := by first | rfl | simp only [reduceCtorEq, Nat.reduceEqDiff, ak, akF, (show j18.length + 1 = (j18 ++ ([(⟨2, 0, IntKind.u32.wrap (t15.1 + (IntKind.u32.wrap x259))⟩ : S63)] : List S63)).length by simp)])
                    refine ct (.tup [(true, [.sc (.int .u32 t352.1), .sc (.int .u32 t352.2.1), .ref (.tmp 301 0) [] 0 t352.2.2.1.length, .sc (.int .i64 t352.2.2.2.1), .sc (.int .i64 t352.2.2.2.2.1), .sc (.int .i64 t352.2.2.2.2.2.1), .sc (.int .i64 t352.2.2.2.2.2.2.1), .sc (.int .i64 t352.2.2.2.2.2.2.2.1)]), (false, [.sc (.int .i64 t352.2.2.2.2.2.2.2.2)])]) (mF (mN ..)) ?_ (s4 := [(.arg 0, ⟨.fz, 1, cs0⟩), (.arg 1, ⟨.fz, 1, cs1⟩), (.tmp 5 0, ⟨.box, 0, [.sc (.int .u32 t15.1), .sc (.int .i64 t15.2.1), .sc (.int .i64 t15.2.2.1), .sc (.int .i64 t15.2.2.2.1), .sc (.int .i64 t15.2.2.2.2.1), .sc (.int .i64 t15.2.2.2.2.2.1)]⟩), (.tmp 41 0, ⟨.lst, 3, encL c63 (j18 ++ ([(⟨2, 0, IntKind.u32.wrap (t15.1 + (IntKind.u32.wrap x259))⟩ : S63)] : List S63))⟩), (.tmp 73 0, ⟨.lst, 1, encL c_i64 x197.1⟩), (.tmp 74 0, ⟨.lst, 1, encL c_i64 x197.2.1⟩), (.tmp 287 0, ⟨.lst, 5, encL c66 j288.2⟩), (.tmp 28 0, ⟨.box, 0, [.sc (.int .u32 0), .sc (.int .u32 0), .own 1 (([] : List Int).length) (encL c_i64 ([] : List Int)), .sc (.int .i64 0), .sc (.int .i64 0), .sc (.int .i64 0), .sc (.int .i64 0), .sc (.int .i64 0)]⟩), (.tmp 299 0, ⟨.lst, 3, encL c63 ([(⟨2, 0, IntKind.u32.wrap (t15.1 + (IntKind.u32.wrap x259))⟩ : S63)] : List S63)⟩), (.tmp 301 0, ⟨.lst, 1, encL c_i64 t352.2.2.1⟩)])
                    have g531 : (encL c63 (j18 ++ ([(⟨2, 0, IntKind.u32.wrap (t15.1 + (IntKind.u32.wrap x259))⟩ : S63)] : List S63))).length = (j18 ++ ([(⟨2, 0, IntKind.u32.wrap (t15.1 + (IntKind.u32.wrap x259))⟩ : S63)] : List S63)).length * 3 := encL_length c63_w _
                    have hsh : j18.length ≤ (j18 ++ ([(⟨2, 0, IntKind.u32.wrap (t15.1 + (IntKind.u32.wrap x259))⟩ : S63)] : List S63)).length := by simp
                    simp +decide only [Nat.reduceAdd, Nat.reduceMul, Int.reduceToNat, ak, g531]
                    refine ghp_k (Weak.shrink (st' := ⟨[(5, .c (.ptr (.tmp 5 0) [] 0)), (6, .c (.ref (.tmp 41 0) [] 0 j18.length)), (11, .c (.ref (.tmp 73 0) [] 0 x197.1.length)), (12, .c (.ref (.tmp 74 0) [] 0 x197.2.1.length)), (23, .c (.sc (.int .i64 x259))), (26, .c (.ref (.tmp 287 0) [] 0 j288.2.length)), (27, .c (.sc (.int .i64 j288.1))), (292, .c (.dead)), (293, .c (.ptr (.tmp 5 0) [] 0)), (294, .c (.sc (.int .u32 t15.1))), (295, .c (.sc (.int .i64 x259))), (296, .c (.sc (.int .u32 (IntKind.u32.wrap x259)))), (297, .c (.sc (.int .u32 (IntKind.u32.wrap (t15.1 + (IntKind.u32.wrap x259)))))), (298, .g [.sc (.int .i64 2), .sc (.int .i64 0), .sc (.int .u32 (IntKind.u32.wrap (t15.1 + (IntKind.u32.wrap x259))))]), (291, .g [.sc (.int .u32 t15.1), .sc (.int .i64 t15.2.1), .sc (.int .i64 t15.2.2.1), .sc (.int .i64 t15.2.2.2.1), .sc (.int .i64 t15.2.2.2.2.1), .sc (.int .i64 t15.2.2.2.2.2.1)]), (28, .c (.ptr (.tmp 28 0) [] 0)), (299, .c (.ref (.tmp 299 0) [] 0 1)), (300, .c (.dead)), (301, .tup [(true, [.sc (.int .u32 t352.1), .sc (.int .u32 t352.2.1), .ref (.tmp 301 0) [] 0 t352.2.2.1.length, .sc (.int .i64 t352.2.2.2.1), .sc (.int .i64 t352.2.2.2.2.1), .sc (.int .i64 t352.2.2.2.2.2.1), .sc (.int .i64 t352.2.2.2.2.2.2.1), .sc (.int .i64 t352.2.2.2.2.2.2.2.1)]), (false, [.sc (.int .i64 t352.2.2.2.2.2.2.2.2)])])], [(.arg 0, ⟨.fz, 1, cs0⟩), (.arg 1, ⟨.fz, 1, cs1⟩), (.tmp 5 0, ⟨.box, 0, [.sc (.int .u32 t15.1), .sc (.int .i64 t15.2.1), .sc (.int .i64 t15.2.2.1), .sc (.int .i64 t15.2.2.2.1), .sc (.int .i64 t15.2.2.2.2.1), .sc (.int .i64 t15.2.2.2.2.2.1)]⟩), (.tmp 41 0, ⟨.lst, 3, encL c63 j18⟩), (.tmp 73 0, ⟨.lst, 1, encL c_i64 x197.1⟩), (.tmp 74 0, ⟨.lst, 1, encL c_i64 x197.2.1⟩), (.tmp 287 0, ⟨.lst, 5, encL c66 j288.2⟩), (.tmp 28 0, ⟨.box, 0, [.sc (.int .u32 0), .sc (.int .u32 0), .own 1 (([] : List Int).length) (encL c_i64 ([] : List Int)), .sc (.int .i64 0), .sc (.int .i64 0), .sc (.int .i64 0), .sc (.int .i64 0), .sc (.int .i64 0)]⟩), (.tmp 299 0, ⟨.lst, 3, encL c63 ([(⟨2, 0, IntKind.u32.wrap (t15.1 + (IntKind.u32.wrap x259))⟩ : S63)] : List S63)⟩), (.tmp 301 0, ⟨.lst, 1, encL c_i64 t352.2.2.1⟩)], [], []⟩) 6 (.tmp 41 0) j18.length (cs := encL c63 (j18 ++ ([(⟨2, 0, IntKind.u32.wrap (t15.1 + (IntKind.u32.wrap x259))⟩ : S63)] : List S63))) (cs' := encL c63 j18) rfl (encL_all (fun _ => rfl) _) rfl (by have := g531; omega) rfl (encL_takeA c63_w _ _ rfl) (by first | rfl | simp +decide only [ak, akF])) ?_
                    simp +decide only [Nat.reduceAdd, Nat.reduceMul, Int.reduceToNat, ak]
                    refine alt_e ?_
                    ·have g533 : (encL c_i64 t352.2.2.1).length = t352.2.2.1.length * 1 := by simp [encL_length c_i64_w]
                     simp +decide only [Nat.reduceAdd, Nat.reduceMul, Int.reduceToNat, ak, g533]
                     obtain rfl := Option.some.inj h
                     refine G342n _ _ (wk [6, 11, 12, 23, 26, 27, 28, 29] [pI (.arg 0) .fz, pI (.arg 1) .fz, pI (.tmp 41 0) .lst, pI (.tmp 73 0) .lst, pI (.tmp 74 0) .lst, pI (.tmp 287 0) .lst, pI (.tmp 28 0) .box]) (hJ341 _ rfl)
                  ·simp +decide only [Nat.reduceAdd, Nat.reduceMul, Int.reduceToNat, ak]
                   refine alt_e ?_
                   ·simp +decide only [Nat.reduceAdd, Nat.reduceMul, Int.reduceToNat, ak]
                    refine cm [pN (.arg 0) (.tmp 300 0) .fz] (impl_SubState.tri (encL c63 (j18 ++ ([(⟨2, 0, IntKind.u32.wrap (t15.1 + (IntKind.u32.wrap x259))⟩ : S63)] : List S63))) 0 (j18 ++ ([(⟨2, 0, IntKind.u32.wrap (t15.1 + (IntKind.u32.wrap x259))⟩ : S63)] : List S63)) (Vw.whole c63_w (j18 ++ ([(⟨2, 0, IntKind.u32.wrap (t15.1 + (IntKind.u32.wrap x259))⟩ : S63)] : List S63))) t15.1 t15.2.1 t15.2.2.1 t15.2.2.2.1 t15.2.2.2.2.1 t15.2.2.2.2.2.1 _ h353) (fun hl536 => ?_) (h0 := by first | rfl | simp only [reduceCtorEq, Nat.reduceEqDiff, ak, akF, b348, g52, g53, g54, g57, g58, g505, g506, g507, g521, g522, g523, g524, g525, (show j18.length + 1 = (j18 ++ ([(⟨2, 0, IntKind.u32.wrap (t15.1 + (IntKind.u32.wrap x259))⟩ : S63)] : List S63)).length by simp)]) (hav := by first | rfl | simp only [reduceCtorEq, Nat.reduceEqDiff, ak, akF, (show j18.length + 1 = (j18 ++ ([(⟨2, 0, IntKind.u32.wrap (t15.1 + (IntKind.u32.wrap x259))⟩ : S63)] : List S63)).length by simp)])
                    refine ct (.tup [(true, [.sc (.int .u32 t352.1), .sc (.int .u32 t352.2.1), .ref (.tmp 301 0) [] 0 t352.2.2.1.length, .sc (.int .i64 t352.2.2.2.1), .sc (.int .i64 t352.2.2.2.2.1), .sc (.int .i64 t352.2.2.2.2.2.1), .sc (.int .i64 t352.2.2.2.2.2.2.1), .sc (.int .i64 t352.2.2.2.2.2.2.2.1)]), (false, [.sc (.int .i64 t352.2.2.2.2.2.2.2.2)])]) (mF (mN ..)) ?_ (s4 := [(.arg 0, ⟨.fz, 1, cs0⟩), (.arg 1, ⟨.fz, 1, cs1⟩), (.tmp 5 0, ⟨.box, 0, [.sc (.int .u32 t15.1), .sc (.int .i64 t15.2.1), .sc (.int .i64 t15.2.2.1), .sc (.int .i64 t15.2.2.2.1), .sc (.int .i64 t15.2.2.2.2.1), .sc (.int .i64 t15.2.2.2.2.2.1)]⟩), (.tmp 41 0, ⟨.lst, 3, encL c63 j18⟩), (.tmp 73 0, ⟨.lst, 1, encL c_i64 x197.1⟩), (.tmp 74 0, ⟨.lst, 1, encL c_i64 x197.2.1⟩), (.tmp 287 0, ⟨.lst, 5, encL c66 j288.2⟩), (.tmp 28 0, ⟨.box, 0, [.sc (.int .u32 0), .sc (.int .u32 0), .own 1 (([] : List Int).length) (encL c_i64 ([] : List Int)), .sc (.int .i64 0), .sc (.int .i64 0), .sc (.int .i64 0), .sc (.int .i64 0), .sc (.int .i64 0)]⟩), (.tmp 299 0, ⟨.lst, 3, encL c63 ([(⟨2, 0, IntKind.u32.wrap (t15.1 + (IntKind.u32.wrap x259))⟩ : S63)] : List S63)⟩), (.tmp 300 0, ⟨.lst, 3, encL c63 (j18 ++ ([(⟨2, 0, IntKind.u32.wrap (t15.1 + (IntKind.u32.wrap x259))⟩ : S63)] : List S63))⟩), (.tmp 301 0, ⟨.lst, 1, encL c_i64 t352.2.2.1⟩)])
                    simp +decide only [Nat.reduceAdd, Nat.reduceMul, Int.reduceToNat, ak]
                    refine ghp_k (Weak.refl _ _) ?_
                    simp +decide only [Nat.reduceAdd, Nat.reduceMul, Int.reduceToNat, ak]
                    refine alt_e ?_
                    ·have g539 : (encL c_i64 t352.2.2.1).length = t352.2.2.1.length * 1 := by simp [encL_length c_i64_w]
                     simp +decide only [Nat.reduceAdd, Nat.reduceMul, Int.reduceToNat, ak, g539]
                     obtain rfl := Option.some.inj h
                     refine G342n _ _ (wk [6, 11, 12, 23, 26, 27, 28, 29] [pI (.arg 0) .fz, pI (.arg 1) .fz, pI (.tmp 41 0) .lst, pI (.tmp 73 0) .lst, pI (.tmp 74 0) .lst, pI (.tmp 287 0) .lst, pI (.tmp 28 0) .box]) (hJ341 _ rfl)
              ·replace h := hn; clear hn h340
               rintro _ rfl
               refine seq_k fun J540 hJ540 => ?_
               obtain ⟨j541, h542, hn⟩ := of_bind h
               refine seq_j (fun st => st = ⟨[(6, .c (.ref (.tmp 41 0) [] 0 j18.length)), (11, .c (.ref (.tmp 73 0) [] 0 x197.1.length)), (12, .c (.ref (.tmp 74 0) [] 0 x197.2.1.length)), (23, .c (.sc (.int .i64 x259))), (26, .c (.ref (.tmp 287 0) [] 0 j288.2.length)), (28, .c (.ptr (.tmp 28 0) [] 0)), (317, .c (.sc (.bool j541)))], [(.arg 0, ⟨.fz, 1, cs0⟩), (.arg 1, ⟨.fz, 1, cs1⟩), (.tmp 41 0, ⟨.lst, 3, encL c63 j18⟩), (.tmp 73 0, ⟨.lst, 1, encL c_i64 x197.1⟩), (.tmp 74 0, ⟨.lst, 1, encL c_i64 x197.2.1⟩), (.tmp 287 0, ⟨.lst, 5, encL c66 j288.2⟩), (.tmp 28 0, ⟨.box, 0, [.sc (.int .u32 j339.2.1), .sc (.int .u32 j339.2.2.1), .own 1 j339.2.2.2.1.length (encL c_i64 j339.2.2.2.1), .sc (.int .i64 j339.2.2.2.2.1), .sc (.int .i64 j339.2.2.2.2.2.1), .sc (.int .i64 j339.2.2.2.2.2.2.1), .sc (.int .i64 j339.2.2.2.2.2.2.2.1), .sc (.int .i64 j339.2.2.2.2.2.2.2.2)]⟩)], [], []⟩) (fun J543 hJ543 => ?_) ?_
               ·replace h := h542; clear hn
                refine ga_k fun G544 G544n G544r G544x => ?_
                refine reg_k ?_
                simp +decide only [Nat.reduceAdd, Nat.reduceMul, Int.reduceToNat, ak]
                by_cases c545 : j288.1 ≠ 0
                ·rw [if_pos c545] at h
                 have e546 : decide (j288.1 ≠ 0) = true := decide_eq_true c545
                 simp +decide only [Nat.reduceAdd, Nat.reduceMul, Int.reduceToNat, ak, e546]
                 obtain rfl := Option.some.inj h
                 refine G544n _ _ (wj [6, 11, 12, 23, 26, 28, 317] [pI (.arg 0) .fz, pI (.arg 1) .fz, pI (.tmp 41 0) .lst, pI (.tmp 73 0) .lst, pI (.tmp 74 0) .lst, pI (.tmp 287 0) .lst, pI (.tmp 28 0) .box]) (hJ543 _ rfl)
                ·rw [if_neg c545] at h
                 have e547 : decide (j288.1 ≠ 0) = false := decide_eq_false c545
                 simp +decide only [Nat.reduceAdd, Nat.reduceMul, Int.reduceToNat, ak, e547]
                 by_cases c548 : j339.1 ≠ 0
                 ·rw [if_pos c548] at h
                  have e549 : decide (j339.1 ≠ 0) = true := decide_eq_true c548
                  simp +decide only [Nat.reduceAdd, Nat.reduceMul, Int.reduceToNat, ak, e549]
                  obtain rfl := Option.some.inj h
                  refine G544n _ _ (wj [6, 11, 12, 23, 26, 28, 317] [pI (.arg 0) .fz, pI (.arg 1) .fz, pI (.tmp 41 0) .lst, pI (.tmp 73 0) .lst, pI (.tmp 74 0) .lst, pI (.tmp 287 0) .lst, pI (.tmp 28 0) .box]) (hJ543 _ rfl)
                 ·rw [if_neg c548] at h
                  have e550 : decide (j339.1 ≠ 0) = false := decide_eq_false c548
                  simp +decide only [Nat.reduceAdd, Nat.reduceMul, Int.reduceToNat, ak, e550]
                  obtain rfl := Option.some.inj h
                  refine G544n _ _ (wj [6, 11, 12, 23, 26, 28, 317] [pI (.arg 0) .fz, pI (.arg 1) .fz, pI (.tmp 41 0) .lst, pI (.tmp 73 0) .lst, pI (.tmp 74 0) .lst, pI (.tmp 287 0) .lst, pI (.tmp 28 0) .box]) (hJ543 _ rfl)
               ·replace h := hn; clear hn h542
                rintro _ rfl
                refine cond_k (b := j541) rfl (fun c551 => ?_) (fun c551 => ?_)
                ·rw [if_pos c551] at h
                 refine sr_k fun J552 hJ552 => ?_
                 simp +decide only [Nat.reduceAdd, Nat.reduceMul, Int.reduceToNat, ak]
                 refine hJ552 _ ?_
                 obtain rfl := Option.some.inj h
                 refine hKr _ ⟨_, rfl, [], _, rfl, rfl, ?_⟩
                 exact cl
                ·rw [if_neg (Bool.eq_false_iff.1 c551)] at h
                 refine hJ540 _ ?_
                 refine sr_k fun J553 hJ553 => ?_
                 obtain ⟨b554, h⟩ := of_guard h
                 have g555 : (List.drop (0 + (j18.length : Int).toNat * 5) (encL c66 j288.2)).take 5 = [.sc (.int .i64 ((rd z66 j288.2 (j18.length : Int)).f0)), .own 3 (((rd z66 j288.2 (j18.length : Int)).f1).length) (encL c68 ((rd z66 j288.2 (j18.length : Int)).f1)), .own 1 (((rd z66 j288.2 (j18.length : Int)).f2).length) (encL c_i64 ((rd z66 j288.2 (j18.length : Int)).f2)), .sc (.int .i64 ((rd z66 j288.2 (j18.length : Int)).f3)), .sc (.int .i64 ((rd z66 j288.2 (j18.length : Int)).f4))] := (Vw.whole c66_w j288.2).stretch z66 b554.1 b554.2
                 simp +decide only [Nat.reduceAdd, Nat.reduceMul, Int.reduceToNat, ak, b554, g555]
                 refine gho_k (Weak.own (.tmp 30 0) (cs' := [.sc (.int .i64 0), .own 3 (([] : List S68).length) (encL c68 ([] : List S68)), .own 1 (([] : List Int).length) (encL c_i64 ([] : List Int)), .sc (.int .i64 0), .sc (.int .i64 0)]) rfl ⟨.inl rfl, .inr ⟨rfl, _, rfl⟩, .inr ⟨rfl, _, rfl⟩, .inl rfl, .inl rfl, trivial⟩) ?_
                 simp +decide only [Nat.reduceAdd, Nat.reduceMul, Int.reduceToNat, ak]
                 refine hJ553 _ ?_
                 refine seq_k fun J556 hJ556 => ?_
                 refine sr_k fun J557 hJ557 => ?_
                 simp +decide only [Nat.reduceAdd, Nat.reduceMul, Int.reduceToNat, ak]
                 refine hJ557 _ ?_
                 refine cond_k (b := decide (x259 < (x197.2.1.length : Int))) rfl (fun c558 => ?_) (fun c558 => ?_)
                 ·replace c558 := of_decide_eq_true c558; rw [if_pos c558] at h
                  refine sr_k fun J559 hJ559 => ?_
                  simp +decide only [Nat.reduceAdd, Nat.reduceMul, Int.reduceToNat, ak]
                  by_cases c560 : (rd z66 j288.2 (j18.length : Int)).f0 = 11
                  ·rw [if_pos c560] at h
                   have e561 : decide ((rd z66 j288.2 (j18.length : Int)).f0 = 11) = true := decide_eq_true c560
                   simp +decide only [Nat.reduceAdd, Nat.reduceMul, Int.reduceToNat, ak, e561]
                   refine hJ559 _ ?_
                   obtain rfl := Option.some.inj h
                   refine hKr _ ⟨_, rfl, [], _, rfl, rfl, ?_⟩
                   exact cl
                  ·rw [if_neg c560] at h
                   have e562 : decide ((rd z66 j288.2 (j18.length : Int)).f0 = 11) = false := decide_eq_false c560
                   simp +decide only [Nat.reduceAdd, Nat.reduceMul, Int.reduceToNat, ak, e562]
                   refine hJ559 _ ?_
                   obtain rfl := Option.some.inj h
                   refine hKr _ ⟨_, rfl, [], _, rfl, rfl, ?_⟩
                   exact cl
                 ·replace c558 := of_decide_eq_false c558; rw [if_neg c558] at h
                  refine hJ556 _ ?_
                  refine seq_k fun J563 hJ563 => ?_
                  obtain ⟨j564, h565, hn⟩ := of_bind h
                  refine seq_j (fun st => st = ⟨[(11, .c (.ref (.tmp 73 0) [] 0 x197.1.length)), (23, .c (.sc (.int .i64 x259))), (28, .c (.ptr (.tmp 28 0) [] 0)), (354, .c (.sc (.bool j564)))], [(.arg 0, ⟨.fz, 1, cs0⟩), (.arg 1, ⟨.fz, 1, cs1⟩), (.tmp 73 0, ⟨.lst, 1, encL c_i64 x197.1⟩), (.tmp 28 0, ⟨.box, 0, [.sc (.int .u32 j339.2.1), .sc (.int .u32 j339.2.2.1), .own 1 j339.2.2.2.1.length (encL c_i64 j339.2.2.2.1), .sc (.int .i64 j339.2.2.2.2.1), .sc (.int .i64 j339.2.2.2.2.2.1), .sc (.int .i64 j339.2.2.2.2.2.2.1), .sc (.int .i64 j339.2.2.2.2.2.2.2.1), .sc (.int .i64 j339.2.2.2.2.2.2.2.2)]⟩)], [], []⟩) (fun J566 hJ566 => ?_) ?_
                  ·replace h := h565; clear hn
                   refine ga_k fun G567 G567n G567r G567x => ?_
                   refine regD_k ?_
                   simp +decide only [Nat.reduceAdd, Nat.reduceMul, Int.reduceToNat, ak]
                   by_cases c568 : (rd z66 j288.2 (j18.length : Int)).f0 ≠ 0
                   ·rw [if_pos c568] at h
                    have e569 : decide ((rd z66 j288.2 (j18.length : Int)).f0 ≠ 0) = true := decide_eq_true c568
                    simp +decide only [Nat.reduceAdd, Nat.reduceMul, Int.reduceToNat, ak, e569]
                    refine alt_e ?_
                    ·simp +decide only [Nat.reduceAdd, Nat.reduceMul, Int.reduceToNat, ak]
                     obtain rfl := Option.some.inj h
                     refine G567n _ _ (wj [11, 23, 28, 354] [pI (.arg 0) .fz, pI (.arg 1) .fz, pI (.tmp 73 0) .lst, pI (.tmp 28 0) .box]) (hJ566 _ rfl)
                   ·rw [if_neg c568] at h
                    have e570 : decide ((rd z66 j288.2 (j18.length : Int)).f0 ≠ 0) = false := decide_eq_false c568
                    obtain ⟨b571, h⟩ := of_guard h
                    have g572 : 0 ≤ (x197.2.1.length : Int) := (by have := b571; omega)
                    have g573 : 0 ≤ x259 := (by have := b571; omega)
                    have g574 : (x197.2.1.length : Int).toNat ≤ x259.toNat := (by have := b571; omega)
                    have g575 : x259.toNat ≤ x197.1.length := (by have := b571; omega)
                    have g576 : (List.drop (x197.2.1.length : Int).toNat (List.take x259.toNat x197.1)).length = x259.toNat - (x197.2.1.length : Int).toNat := by have := b571; have h0 : x197.1.length = x197.1.length := (by simp); simp only [List.length_drop, List.length_take] <;> omega
                    simp +decide only [Nat.reduceAdd, Nat.reduceMul, Int.reduceToNat, ak, e570, g572, g573, g574, g575]
                    obtain ⟨t578, h579, h⟩ := of_bind h
                    refine alt_e ?_
                    ·simp +decide only [Nat.reduceAdd, Nat.reduceMul, Int.reduceToNat, ak]
                     have g581 : (encL c66 j288.2)[0 + (j18.length : Int).toNat * 5 + 1 + 1]? = some (.own 1 (((rd z66 j288.2 (j18.length : Int)).f2).length) (encL c_i64 ((rd z66 j288.2 (j18.length : Int)).f2))) := (Vw.whole c66_w j288.2).get z66 2 b554.1 b554.2 (by decide)
                     refine cm [(.arg 0, ⟨(.tmp 287 0), [0 + (j18.length : Int).toNat * 5 + 1 + 1], none, .fz⟩), (.arg 1, ⟨(.tmp 73 0), [], none, .fz⟩)] (laws_lNums.tri (encL c_i64 ((rd z66 j288.2 (j18.length : Int)).f2)) 0 ((rd z66 j288.2 (j18.length : Int)).f2) (Vw.whole c_i64_w ((rd z66 j288.2 (j18.length : Int)).f2)) (encL c_i64 x197.1) (0 + (x197.2.1.length : Int).toNat * 1) (List.drop (x197.2.1.length : Int).toNat (List.take x259.toNat x197.1)) ((Vw.whole c_i64_w x197.1).slice (a := (x197.2.1.length : Int).toNat) (b := x259.toNat) (by have := b571; omega) (by have := b571; omega)) _ h579) (fun hl581 => ?_) (h0 := by first | rfl | simp only [reduceCtorEq, Nat.reduceEqDiff, ak, akF, b554, b571, e570, g52, g53, g54, g57, g58, g555, g572, g573, g574, g575, g576, g581, g576.symm]) (hav := by first | rfl | simp only [reduceCtorEq, Nat.reduceEqDiff, ak, akF, g576.symm])
                     refine cs (mD (mF (mN ..))) ?_ (s4 := [(.arg 0, ⟨.fz, 1, cs0⟩), (.arg 1, ⟨.fz, 1, cs1⟩), (.tmp 41 0, ⟨.lst, 3, encL c63 j18⟩), (.tmp 73 0, ⟨.lst, 1, encL c_i64 x197.1⟩), (.tmp 74 0, ⟨.lst, 1, encL c_i64 x197.2.1⟩), (.tmp 287 0, ⟨.lst, 5, encL c66 j288.2⟩), (.tmp 28 0, ⟨.box, 0, [.sc (.int .u32 j339.2.1), .sc (.int .u32 j339.2.2.1), .own 1 j339.2.2.2.1.length (encL c_i64 j339.2.2.2.1), .sc (.int .i64 j339.2.2.2.2.1), .sc (.int .i64 j339.2.2.2.2.2.1), .sc (.int .i64 j339.2.2.2.2.2.2.1), .sc (.int .i64 j339.2.2.2.2.2.2.2.1), .sc (.int .i64 j339.2.2.2.2.2.2.2.2)]⟩), (.tmp 30 0, ⟨.box, 0, [.sc (.int .i64 ((rd z66 j288.2 (j18.length : Int)).f0)), .ref (.tmp 287 0) [0 + (j18.length : Int).toNat * 5 + 1] 0 (((rd z66 j288.2 (j18.length : Int)).f1).length), .ref (.tmp 287 0) [0 + (j18.length : Int).toNat * 5 + 1 + 1] 0 (((rd z66 j288.2 (j18.length : Int)).f2).length), .sc (.int .i64 ((rd z66 j288.2 (j18.length : Int)).f3)), .sc (.int .i64 ((rd z66 j288.2 (j18.length : Int)).f4))]⟩)])
                     simp +decide only [Nat.reduceAdd, Nat.reduceMul, Int.reduceToNat, ak, b554, g581]
                     obtain rfl := Option.some.inj h
                     refine G567n _ _ (wj [11, 23, 28, 354] [pI (.arg 0) .fz, pI (.arg 1) .fz, pI (.tmp 73 0) .lst, pI (.tmp 28 0) .box]) (hJ566 _ rfl)
                  ·replace h := hn; clear hn h565
                   rintro _ rfl
                   refine cond_k (b := j564) rfl (fun c583 => ?_) (fun c583 => ?_)
                   ·rw [if_pos c583] at h
                    refine sr_k fun J584 hJ584 => ?_
                    simp +decide only [Nat.reduceAdd, Nat.reduceMul, Int.reduceToNat, ak]
                    refine hJ584 _ ?_
                    obtain rfl := Option.some.inj h
                    refine hKr _ ⟨_, rfl, [], _, rfl, rfl, ?_⟩
                    exact cl
                   ·rw [if_neg (Bool.eq_false_iff.1 c583)] at h
                    refine hJ563 _ ?_
                    refine sd_k fun J585 hJ585 => ?_
                    obtain ⟨b586, h⟩ := of_guard h
                    have g587 : 0 ≤ x259 := (by have := b586; omega)
                    have g588 : x259.toNat ≤ x197.1.length := (by have := b586; omega)
                    have g589 : (List.drop x259.toNat x197.1).length = x197.1.length - x259.toNat := by have := b586; have h0 : x197.1.length = x197.1.length := (by simp); simp only [List.length_drop, List.length_take] <;> omega
                    simp +decide only [Nat.reduceAdd, Nat.reduceMul, Int.reduceToNat, ak, g587, g588, Nat.le_refl]
                    obtain ⟨t590, h591, h⟩ := of_bind h
                    refine alt_e ?_
                    ·simp +decide only [Nat.reduceAdd, Nat.reduceMul, Int.reduceToNat, ak]
                     refine cm [(.arg 0, ⟨(.tmp 28 0), [2], none, .fz⟩), (.arg 1, ⟨(.tmp 73 0), [], none, .fz⟩)] (laws_lNums.tri (encL c_i64 j339.2.2.2.1) 0 j339.2.2.2.1 (Vw.whole c_i64_w j339.2.2.2.1) (encL c_i64 x197.1) (0 + x259.toNat * 1) (List.drop x259.toNat x197.1) ((Vw.whole c_i64_w x197.1).from (a := x259.toNat) (by have := b586; omega)) _ h591) (fun hl592 => ?_) (h0 := by first | rfl | simp only [reduceCtorEq, Nat.reduceEqDiff, ak, akF, b554, b586, g52, g53, g54, g57, g58, g555, g587, g588, g589, g589.symm]) (hav := by first | rfl | simp only [reduceCtorEq, Nat.reduceEqDiff, ak, akF, g589.symm])
                     refine cs (mD (mF (mN ..))) ?_ (s4 := [(.arg 0, ⟨.fz, 1, cs0⟩), (.arg 1, ⟨.fz, 1, cs1⟩), (.tmp 73 0, ⟨.lst, 1, encL c_i64 x197.1⟩), (.tmp 28 0, ⟨.box, 0, [.sc (.int .u32 j339.2.1), .sc (.int .u32 j339.2.2.1), .own 1 j339.2.2.2.1.length (encL c_i64 j339.2.2.2.1), .sc (.int .i64 j339.2.2.2.2.1), .sc (.int .i64 j339.2.2.2.2.2.1), .sc (.int .i64 j339.2.2.2.2.2.2.1), .sc (.int .i64 j339.2.2.2.2.2.2.2.1), .sc (.int .i64 j339.2.2.2.2.2.2.2.2)]⟩)])
                     simp +decide only [Nat.reduceAdd, Nat.reduceMul, Int.reduceToNat, ak]
                     refine hJ585 _ ?_
                     obtain rfl := Option.some.inj h
                     refine hKr _ ⟨_, rfl, [], _, rfl, rfl, ?_⟩
                     exact cl
            ·rintro x287 rfl
             dsimp only at h
             refine B262r _ ?_
             obtain rfl := Option.some.inj h
             refine hKr _ ⟨_, rfl, [], _, rfl, rfl, ?_⟩
             exact cl
           ·rintro x259 rfl
            dsimp only at h
            refine B219r _ ?_
            obtain rfl := Option.some.inj h
            refine hKr _ ⟨_, rfl, [], _, rfl, rfl, ?_⟩
            exact cl
       ·rintro x197 rfl
        dsimp only at h
        refine B63r _ ?_
        obtain rfl := Option.some.inj h
        refine hKr _ ⟨_, rfl, [], _, rfl, rfl, ?_⟩
        exact cl
end Go.AK
