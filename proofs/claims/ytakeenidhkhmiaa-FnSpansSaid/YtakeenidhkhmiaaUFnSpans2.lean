-- by a program of this session (wip/ak/pw.py)
import Derived.Test.YtakeenidhkhmiaaUFnSpans1
set_option synthInstance.maxSize 20000
set_option synthInstance.maxHeartbeats 400000
set_option maxRecDepth 100000
set_option maxHeartbeats 4000000
set_option linter.unusedVariables false
set_option linter.unusedSimpArgs false
namespace Go.AK
open Go Go.Proofs
/-! ### laws.FnSpans: function 4 -/
def C4_l0 : AC := .seq (.seq (.reg [.op none (.mv 153 (.tmp 28)), .op none (.mv 154 (.tmp 17)), .op none (.len 155 (.tmp 154)), .op none (.bin 156 .lss (.tmp 153) (.tmp 155)), .keep [3, 4, 6, 13, 17, 21, 25, 26, 27, 28, 156]]) (.cond (.tmp 156) (.skip) (.gh (.exit 0)))) (.seq (.block 1 (.seq (.regD (.first (.op none (.mv 159 (.tmp 25))) (.first (.op none (.mv 160 (.tmp 17))) (.first (.op none (.mv 161 (.tmp 28))) (.first (.op none (.iaddr 162 2 (.tmp 160) (.tmp 161))) (.first (.op none (.faddr 163 1 (.tmp 162))) (.first (.op none (.load 164 false 1 (.tmp 163))) (.first (.op none (.bin 165 .add (.tmp 159) (.tmp 164))) (.first (.op none (.mv 166 (.tmp 17))) (.first (.op none (.mv 167 (.tmp 28))) (.first (.op none (.iaddr 168 2 (.tmp 166) (.tmp 167))) (.first (.op none (.faddr 169 0 (.tmp 168))) (.first (.op none (.load 170 false 1 (.tmp 169))) (.first (.op none (.bin 171 .sub (.tmp 165) (.tmp 170))) (.first (.op none (.mv 25 (.tmp 171))) (.done))))))))))))))) [3, 4, 6, 13, 17, 21, 25, 26, 27, 28]) (.seq (.reg [.op none (.mv 29 (.const (.int .i64 0))), .op none (.mv 30 (.const (.int .i64 0))), .keep [3, 4, 6, 13, 17, 21, 25, 26, 27, 28]]) (.seq (.reg [.op none (.mv 173 (.tmp 26)), .op none (.mv 174 (.tmp 17)), .op none (.mv 175 (.tmp 28)), .op none (.iaddr 176 2 (.tmp 174) (.tmp 175)), .op none (.load 177 true 2 (.tmp 176)), .call none (some 178) 22 [.tmp 173, .tmp 177], .op none (.mv 172 (.tmp 178)), .op none (.extr 179 (.tmp 172) 0), .op none (.extr 180 (.tmp 172) 1), .op none (.mv 26 (.tmp 179)), .op none (.mv 29 (.tmp 180)), .keep [3, 4, 6, 13, 17, 21, 25, 26, 27, 28, 29]]) (.seq (.reg [.op none (.mv 182 (.tmp 27)), .op none (.mv 183 (.tmp 17)), .op none (.mv 184 (.tmp 28)), .op none (.iaddr 185 2 (.tmp 183) (.tmp 184)), .op none (.load 186 true 2 (.tmp 185)), .call none (some 187) 15 [.tmp 182, .tmp 186], .op none (.mv 181 (.tmp 187)), .op none (.extr 188 (.tmp 181) 0), .op none (.extr 189 (.tmp 181) 1), .op none (.mv 27 (.tmp 188)), .op none (.mv 30 (.tmp 189)), .keep [3, 4, 6, 13, 17, 21, 25, 26, 27, 28, 29, 30]]) (.seq (.ga (.reg [.op none (.mv 190 (.tmp 29)), .op none (.bin 191 .neq (.tmp 190) (.const (.int .i64 0))), .op none (.mv 192 (.tmp 191)), .op (some (192, false)) (.mv 193 (.tmp 30)), .op (some (192, false)) (.bin 194 .neq (.tmp 193) (.const (.int .i64 0))), .op none (.pick 195 (.tmp 192) (.const (.bool true)) (.tmp 194)), .keep [3, 4, 6, 13, 17, 21, 25, 26, 27, 28, 195]])) (.cond (.tmp 195) (.seq (.reg [.op none (.mv 196 (.tmp 6)), .op none (.bin 197 .eql (.tmp 196) (.const (.int .i64 0))), .op none (.mv 198 (.tmp 197)), .op (some (198, true)) (.mv 199 (.tmp 3)), .op (some (198, true)) (.len 200 (.tmp 199)), .op (some (198, true)) (.bin 201 .gtr (.tmp 200) (.const (.int .i64 980))), .op none (.pick 202 (.tmp 198) (.tmp 201) (.const (.bool false))), .op none (.mv 2 (.tmp 202)), .keep [2]]) (.gh .ret)) (.skip)))))))) (.reg [.op none (.mv 157 (.tmp 28)), .op none (.bin 158 .add (.tmp 157) (.const (.int .i64 1))), .op none (.mv 28 (.tmp 158)), .keep [3, 4, 6, 13, 17, 21, 25, 26, 27, 28]]))
def C4_l1 : AC := .seq (.seq (.reg [.op none (.mv 203 (.tmp 31)), .op none (.mv 204 (.tmp 3)), .op none (.len 205 (.tmp 204)), .op none (.bin 206 .lss (.tmp 203) (.tmp 205)), .keep [3, 4, 13, 21, 25, 26, 27, 31, 206]]) (.cond (.tmp 206) (.skip) (.gh (.exit 2)))) (.seq (.block 3 (.seq (.reg [.op none (.mv 210 (.tmp 13)), .op none (.mv 211 (.tmp 3)), .op none (.mv 212 (.tmp 31)), .op none (.iaddr 213 2 (.tmp 211) (.tmp 212)), .op none (.load 214 true 2 (.tmp 213)), .call none (some 215) 24 [.tmp 210, .tmp 214], .op none (.mv 209 (.tmp 215)), .op none (.extr 216 (.tmp 209) 0), .op none (.extr 217 (.tmp 209) 1), .op none (.mv 32 (.tmp 216)), .op none (.mv 33 (.tmp 217)), .keep [3, 4, 13, 21, 25, 26, 27, 31, 32]]) (.seq (.reg [.op none (.mv 218 (.tmp 32)), .op none (.bin 219 .neq (.tmp 218) (.const (.int .i64 1))), .keep [3, 4, 13, 21, 25, 26, 27, 31, 219]]) (.cond (.tmp 219) (.seq (.reg [.op none (.mv 2 (.const (.bool false))), .keep [2]]) (.gh .ret)) (.skip))))) (.reg [.op none (.mv 207 (.tmp 31)), .op none (.bin 208 .add (.tmp 207) (.const (.int .i64 1))), .op none (.mv 31 (.tmp 208)), .keep [3, 4, 13, 21, 25, 26, 27, 31]]))
def C4 : AC := .seq (.reg [.op none (.mv 2 (.const (.bool false))), .keep [0]]) (.seq (.seq (.reg [.op none (.mv 36 (.tmp 0)), .op none (.len 37 (.tmp 36)), .op none (.bin 38 .gtr (.tmp 37) (.const (.int .i64 1048576))), .keep [0, 38]]) (.cond (.tmp 38) (.seq (.reg [.op none (.mv 2 (.const (.bool true))), .keep [2]]) (.ret)) (.skip))) (.seq (.reg [.op none (.mv 40 (.tmp 0)), .call none (some 41) 19 [.tmp 40], .op none (.mv 39 (.tmp 41)), .op none (.extr 42 (.tmp 39) 0), .op none (.extr 43 (.tmp 39) 1), .op none (.alloc 4 [.int .u64 0, .int .u64 0]), .op none (.mv 3 (.tmp 42)), .op none (.store 2 (.tmp 4) (.tmp 43)), .keep [0, 3, 4]]) (.seq (.reg [.op none (.mv 45 (.tmp 3)), .op none (.load 46 true 2 (.tmp 4)), .call none (some 47) 12 [.tmp 45, .tmp 46], .op none (.mv 44 (.tmp 47)), .op none (.extr 48 (.tmp 44) 0), .op none (.extr 49 (.tmp 44) 1), .op none (.mv 5 (.tmp 48)), .op none (.mv 6 (.tmp 49)), .keep [0, 3, 4, 6]]) (.seq (.reg [.op none (.mv 51 (.tmp 3)), .op none (.load 52 true 2 (.tmp 4)), .call none (some 53) 20 [.tmp 51, .tmp 52], .op none (.mv 50 (.tmp 53)), .op none (.extr 54 (.tmp 50) 0), .op none (.extr 55 (.tmp 50) 1), .op none (.mv 7 (.tmp 54)), .op none (.mv 8 (.tmp 55)), .keep [0, 3, 4, 6, 8]]) (.seq (.reg [.op none (.mv 57 (.tmp 3)), .op none (.load 58 true 2 (.tmp 4)), .call none (some 59) 21 [.tmp 57, .tmp 58], .op none (.mv 56 (.tmp 59)), .op none (.extr 60 (.tmp 56) 0), .op none (.extr 61 (.tmp 56) 1), .op none (.mv 9 (.tmp 60)), .op none (.mv 10 (.tmp 61)), .keep [0, 3, 4, 6, 8, 10]]) (.seq (.reg [.op none (.mv 63 (.tmp 0)), .call none (some 64) 19 [.tmp 63], .op none (.mv 62 (.tmp 64)), .op none (.extr 65 (.tmp 62) 0), .op none (.extr 66 (.tmp 62) 1), .op none (.alloc 12 [.int .u64 0, .int .u64 0]), .op none (.mv 11 (.tmp 65)), .op none (.store 2 (.tmp 12) (.tmp 66)), .keep [3, 4, 6, 8, 10, 11]]) (.seq (.reg [.op none (.mv 68 (.tmp 11)), .op none (.load 69 true 2 (.tmp 4)), .call none (some 70) 15 [.tmp 68, .tmp 69], .op none (.mv 67 (.tmp 70)), .op none (.extr 71 (.tmp 67) 0), .op none (.extr 72 (.tmp 67) 1), .op none (.mv 13 (.tmp 71)), .op none (.mv 14 (.tmp 72)), .keep [3, 4, 6, 8, 10, 11, 13, 14]]) (.seq (.reg [.op none (.mv 74 (.tmp 11)), .op none (.load 75 true 2 (.tmp 4)), .call none (some 76) 22 [.tmp 74, .tmp 75], .op none (.mv 73 (.tmp 76)), .op none (.extr 77 (.tmp 73) 0), .op none (.extr 78 (.tmp 73) 1), .op none (.mv 15 (.tmp 77)), .op none (.mv 16 (.tmp 78)), .keep [3, 4, 6, 8, 10, 11, 13, 14, 15, 16]]) (.seq (.reg [.op none (.mv 80 (.tmp 11)), .op none (.load 81 true 2 (.tmp 4)), .call none (some 82) 23 [.tmp 80, .tmp 81], .op none (.mv 79 (.tmp 82)), .op none (.extr 83 (.tmp 79) 0), .op none (.extr 84 (.tmp 79) 1), .op none (.mv 17 (.tmp 83)), .op none (.mv 18 (.tmp 84)), .keep [3, 4, 6, 8, 10, 13, 14, 15, 16, 17, 18]]) (.seq (.seq (.ga (.reg [.op none (.mv 85 (.tmp 14)), .op none (.mv 86 (.tmp 6)), .op none (.bin 87 .neq (.tmp 85) (.tmp 86)), .op none (.mv 88 (.tmp 87)), .op (some (88, false)) (.mv 89 (.tmp 16)), .op (some (88, false)) (.mv 90 (.tmp 8)), .op (some (88, false)) (.bin 91 .neq (.tmp 89) (.tmp 90)), .op none (.pick 92 (.tmp 88) (.const (.bool true)) (.tmp 91)), .op none (.mv 93 (.tmp 92)), .op (some (93, false)) (.mv 94 (.tmp 18)), .op (some (93, false)) (.mv 95 (.tmp 10)), .op (some (93, false)) (.bin 96 .neq (.tmp 94) (.tmp 95)), .op none (.pick 97 (.tmp 93) (.const (.bool true)) (.tmp 96)), .keep [3, 4, 6, 8, 10, 13, 15, 17, 97]])) (.cond (.tmp 97) (.seq (.reg [.op none (.mv 2 (.const (.bool false))), .keep [2]]) (.ret)) (.skip))) (.seq (.seq (.ga (.reg [.op none (.mv 98 (.tmp 6)), .op none (.bin 99 .neq (.tmp 98) (.const (.int .i64 0))), .op none (.mv 100 (.tmp 99)), .op (some (100, false)) (.mv 101 (.tmp 8)), .op (some (100, false)) (.bin 102 .neq (.tmp 101) (.const (.int .i64 0))), .op none (.pick 103 (.tmp 100) (.const (.bool true)) (.tmp 102)), .op none (.mv 104 (.tmp 103)), .op (some (104, false)) (.mv 105 (.tmp 10)), .op (some (104, false)) (.bin 106 .neq (.tmp 105) (.const (.int .i64 0))), .op none (.pick 107 (.tmp 104) (.const (.bool true)) (.tmp 106)), .keep [3, 4, 6, 13, 15, 17, 107]])) (.cond (.tmp 107) (.seq (.reg [.op none (.mv 108 (.tmp 6)), .op none (.bin 109 .eql (.tmp 108) (.const (.int .i64 0))), .op none (.mv 110 (.tmp 109)), .op (some (110, false)) (.mv 111 (.tmp 13)), .op (some (110, false)) (.len 112 (.tmp 111)), .op (some (110, false)) (.bin 113 .eql (.tmp 112) (.const (.int .i64 0))), .op none (.pick 114 (.tmp 110) (.const (.bool true)) (.tmp 113)), .op none (.mv 2 (.tmp 114)), .keep [2]]) (.ret)) (.skip))) (.seq (.reg [.op none (.mv 116 (.tmp 13)), .op none (.load 117 true 2 (.tmp 4)), .call none (some 118) 24 [.tmp 116, .tmp 117], .op none (.mv 115 (.tmp 118)), .op none (.extr 119 (.tmp 115) 0), .op none (.extr 120 (.tmp 115) 1), .op none (.mv 19 (.tmp 119)), .op none (.mv 20 (.tmp 120)), .keep [3, 4, 6, 13, 15, 17, 19, 20]]) (.seq (.reg [.op none (.mv 122 (.tmp 3)), .op none (.load 123 true 2 (.tmp 4)), .call none (some 124) 25 [.tmp 122, .tmp 123], .op none (.mv 121 (.tmp 124)), .op none (.extr 125 (.tmp 121) 0), .op none (.extr 126 (.tmp 121) 1), .op none (.mv 21 (.tmp 125)), .op none (.mv 22 (.tmp 126)), .keep [3, 4, 6, 13, 15, 17, 19, 20, 21, 22]]) (.seq (.reg [.op none (.mv 128 (.tmp 15)), .op none (.load 129 true 2 (.tmp 4)), .call none (some 130) 25 [.tmp 128, .tmp 129], .op none (.mv 127 (.tmp 130)), .op none (.extr 131 (.tmp 127) 0), .op none (.extr 132 (.tmp 127) 1), .op none (.mv 23 (.tmp 131)), .op none (.mv 24 (.tmp 132)), .keep [3, 4, 6, 13, 17, 19, 20, 21, 22, 23, 24]]) (.seq (.seq (.ga (.reg [.op none (.mv 133 (.tmp 20)), .op none (.bin 134 .neq (.tmp 133) (.const (.int .i64 0))), .op none (.mv 135 (.tmp 134)), .op (some (135, false)) (.mv 136 (.tmp 22)), .op (some (135, false)) (.bin 137 .neq (.tmp 136) (.const (.int .i64 0))), .op none (.pick 138 (.tmp 135) (.const (.bool true)) (.tmp 137)), .op none (.mv 139 (.tmp 138)), .op (some (139, false)) (.mv 140 (.tmp 24)), .op (some (139, false)) (.bin 141 .neq (.tmp 140) (.const (.int .i64 0))), .op none (.pick 142 (.tmp 139) (.const (.bool true)) (.tmp 141)), .op none (.mv 143 (.tmp 142)), .op (some (143, false)) (.mv 144 (.tmp 19)), .op (some (143, false)) (.bin 145 .neq (.tmp 144) (.const (.int .i64 1))), .op none (.pick 146 (.tmp 143) (.const (.bool true)) (.tmp 145)), .op none (.mv 147 (.tmp 146)), .op (some (147, false)) (.mv 148 (.tmp 23)), .op (some (147, false)) (.bin 149 .neq (.tmp 148) (.const (.int .u64 0))), .op none (.pick 150 (.tmp 147) (.const (.bool true)) (.tmp 149)), .keep [3, 4, 6, 13, 17, 21, 150]])) (.cond (.tmp 150) (.seq (.reg [.op none (.mv 2 (.const (.bool false))), .keep [2]]) (.ret)) (.skip))) (.seq (.reg [.op none (.mv 25 (.const (.int .u64 0))), .keep [3, 4, 6, 13, 17, 21, 25]]) (.seq (.reg [.op none (.mv 151 (.tmp 13)), .op none (.mv 26 (.tmp 151)), .keep [3, 4, 6, 13, 17, 21, 25, 26]]) (.seq (.reg [.op none (.mv 152 (.tmp 3)), .op none (.mv 27 (.tmp 152)), .keep [3, 4, 6, 13, 17, 21, 25, 26, 27]]) (.seq (.seq (.reg [.op none (.mv 28 (.const (.int .i64 0))), .keep [3, 4, 6, 13, 17, 21, 25, 26, 27, 28]]) (.block 0 (.gh (.loop (.ga C4_l0))))) (.seq (.seq (.reg [.op none (.mv 31 (.const (.int .i64 0))), .keep [3, 4, 13, 21, 25, 26, 27, 31]]) (.block 2 (.gh (.loop (.ga C4_l1))))) (.seq (.reg [.op none (.mv 221 (.tmp 3)), .op none (.load 222 true 2 (.tmp 4)), .call none (some 223) 24 [.tmp 221, .tmp 222], .op none (.mv 220 (.tmp 223)), .op none (.extr 224 (.tmp 220) 0), .op none (.extr 225 (.tmp 220) 1), .op none (.mv 34 (.tmp 224)), .op none (.mv 35 (.tmp 225)), .keep [3, 4, 13, 21, 25, 26, 27, 34]]) (.seq (.reg [.op none (.mv 226 (.tmp 21)), .op none (.mv 227 (.tmp 25)), .op none (.bin 228 .add (.tmp 226) (.tmp 227)), .op none (.faddr 229 1 (.tmp 4)), .op none (.load 230 false 1 (.tmp 229)), .op none (.faddr 231 0 (.tmp 4)), .op none (.load 232 false 1 (.tmp 231)), .op none (.bin 233 .sub (.tmp 230) (.tmp 232)), .op none (.bin 234 .eql (.tmp 228) (.tmp 233)), .op none (.mv 235 (.tmp 234)), .op (some (235, true)) (.mv 236 (.tmp 34)), .op (some (235, true)) (.bin 237 .eql (.tmp 236) (.const (.int .i64 1))), .op (some (235, true)) (.mv 238 (.tmp 25)), .op (some (235, true)) (.bin 239 .eql (.tmp 238) (.const (.int .u64 0))), .op (some (235, true)) (.beq 240 false (.tmp 237) (.tmp 239)), .op none (.pick 241 (.tmp 235) (.tmp 240) (.const (.bool false))), .op none (.mv 242 (.tmp 241)), .op (some (242, true)) (.mv 243 (.tmp 26)), .op (some (242, true)) (.mv 244 (.tmp 3)), .call (some (242, true)) (some 245) 26 [.tmp 243, .tmp 244], .op none (.pick 246 (.tmp 242) (.tmp 245) (.const (.bool false))), .op none (.mv 247 (.tmp 246)), .op (some (247, true)) (.mv 248 (.tmp 27)), .op (some (247, true)) (.mv 249 (.tmp 13)), .call (some (247, true)) (some 250) 26 [.tmp 248, .tmp 249], .op none (.pick 251 (.tmp 247) (.tmp 250) (.const (.bool false))), .op none (.mv 2 (.tmp 251)), .keep [2]]) (.ret)))))))))))))))))))))))
def r4 : List RV := [.tmp 2]
theorem k4 : compC Try.prog 252 C4 (Try.f4.body.getD .skip) = some C4.erase := by kernel_rfl
theorem q4 : rvsOf Try.prog Try.f4.results.toList = some r4 := by kernel_rfl
def laws_FnSpans.l0 (l0 : List Int) (x0_0 : Int) (x0_1 : Int) (x0_4 : (List S31)) (x0_5 : Int) (x0_6 : Int) (x0_7 : (List S31)) (x0_8 : (List S31)) (x0_2 : Int) (x0_3 : Int) (x0_9 : (List S31)) (x0_10 : (List S31)) : Option (Lp (Int × (List S31) × (List S31)) Bool) := (if x0_3 < (x0_8.length : Int) then (if 0 ≤ x0_3 ∧ x0_3 < (x0_8.length : Int) then (impl_SpanCut.f x0_9 ((rd z31 x0_8 x0_3).f0) ((rd z31 x0_8 x0_3).f1) >>= fun t150 => (impl_SpanAdd.f x0_10 ((rd z31 x0_8 x0_3).f0) ((rd z31 x0_8 x0_3).f1) >>= fun t154 => ((if t150.2 ≠ 0 then (some true) else (some (decide (t154.2 ≠ 0)))) >>= fun (j157 : Bool) => (if j157 = true then (if x0_0 = 0 then (some (.b (decide ((x0_4.length : Int) > 980)))) else (some (.b false))) else (laws_FnSpans.l0 l0 x0_0 x0_1 x0_4 x0_5 x0_6 x0_7 x0_8 (IntKind.u64.wrap ((IntKind.u64.wrap (x0_2 + ((rd z31 x0_8 x0_3).f1))) - ((rd z31 x0_8 x0_3).f0))) (IntKind.i64.wrap (x0_3 + 1)) t150.1 t154.1))))) else none) else (some (.a (x0_2, x0_9, x0_10))))
  partial_fixpoint
def laws_FnSpans.l1 (x1_0 : Int) (x1_1 : Int) (x1_3 : (List S31)) (x1_4 : Int) (x1_5 : Int) (x1_6 : (List S31)) (x1_7 : (List S31)) (x1_8 : (List S31)) (x1_2 : Int) : Option (Lp Unit Bool) := (if x1_2 < (x1_3.length : Int) then (if 0 ≤ x1_2 ∧ x1_2 < (x1_3.length : Int) then (impl_SpanHas.f x1_6 ((rd z31 x1_3 x1_2).f0) ((rd z31 x1_3 x1_2).f1) >>= fun t183 => (if t183.1 ≠ 1 then (some (.b false)) else (laws_FnSpans.l1 x1_0 x1_1 x1_3 x1_4 x1_5 x1_6 x1_7 x1_8 (IntKind.i64.wrap (x1_2 + 1))))) else none) else (some (.a ())))
  partial_fixpoint
def laws_FnSpans.l1_1 (x1_0 : Int) (x1_1 : Int) (x1_3 : (List S31)) (x1_4 : Int) (x1_5 : Int) (x1_6 : (List S31)) (x1_2 : Int) : Option (Lp Unit Bool) := (if x1_2 < (x1_3.length : Int) then (if 0 ≤ x1_2 ∧ x1_2 < (x1_3.length : Int) then (impl_SpanHas.f x1_6 ((rd z31 x1_3 x1_2).f0) ((rd z31 x1_3 x1_2).f1) >>= fun t223 => (if t223.1 ≠ 1 then (some (.b false)) else (laws_FnSpans.l1_1 x1_0 x1_1 x1_3 x1_4 x1_5 x1_6 (IntKind.i64.wrap (x1_2 + 1))))) else none) else (some (.a ())))
  partial_fixpoint
def laws_FnSpans.f (l0 : List Int) : Option Bool := (if (l0.length : Int) > 1048576 then (some true) else (spec_DrawSpanAdd.f l0 >>= fun t7 => (spec_SpanAdd.f t7.1 t7.2.1 t7.2.2 >>= fun t11 => (spec_SpanCut.f t7.1 t7.2.1 t7.2.2 >>= fun t15 => (spec_SpanGaps.f t7.1 t7.2.1 t7.2.2 >>= fun t19 => (impl_SpanAdd.f t7.1 t7.2.1 t7.2.2 >>= fun t25 => (impl_SpanCut.f t7.1 t7.2.1 t7.2.2 >>= fun t29 => (impl_SpanGaps.f t7.1 t7.2.1 t7.2.2 >>= fun t33 => ((if t25.2 ≠ t11.2 then (some true) else (if t29.2 ≠ t15.2 then (some true) else (some (decide (t33.2 ≠ t19.2))))) >>= fun (j37 : Bool) => (if j37 = true then (some false) else ((if t11.2 ≠ 0 then (some true) else (if t15.2 ≠ 0 then (some true) else (some (decide (t19.2 ≠ 0))))) >>= fun (j50 : Bool) => (if j50 = true then (if t11.2 = 0 then (some true) else (some (decide ((t25.1.length : Int) = 0)))) else (impl_SpanHas.f t25.1 t7.2.1 t7.2.2 >>= fun t66 => (impl_SpanSize.f t7.1 t7.2.1 t7.2.2 >>= fun t70 => (impl_SpanSize.f t29.1 t7.2.1 t7.2.2 >>= fun t74 => ((if t66.2 ≠ 0 then (some true) else (if t70.2 ≠ 0 then (some true) else (if t74.2 ≠ 0 then (some true) else (if t66.1 ≠ 1 then (some true) else (some (decide (t74.1 ≠ 0))))))) >>= fun (j78 : Bool) => (if j78 = true then (some false) else (if 0 < (t33.1.length : Int) then (if (0 : Int) ≤ 0 ∧ 0 < (t33.1.length : Int) then (impl_SpanCut.f t25.1 ((rd z31 t33.1 0).f0) ((rd z31 t33.1 0).f1) >>= fun t117 => (impl_SpanAdd.f t7.1 ((rd z31 t33.1 0).f0) ((rd z31 t33.1 0).f1) >>= fun t121 => ((if t117.2 ≠ 0 then (some true) else (some (decide (t121.2 ≠ 0)))) >>= fun (j124 : Bool) => (if j124 = true then (if t11.2 = 0 then (some (decide ((t7.1.length : Int) > 980))) else (some false)) else (laws_FnSpans.l0 l0 t11.2 t70.1 t7.1 t7.2.1 t7.2.2 t25.1 t33.1 (IntKind.u64.wrap ((IntKind.u64.wrap (0 + ((rd z31 t33.1 0).f1))) - ((rd z31 t33.1 0).f0))) (IntKind.i64.wrap (0 + 1)) t117.1 t121.1 >>= fun (y169 : Lp (Int × (List S31) × (List S31)) Bool) => match y169 with | .a x171 => (laws_FnSpans.l1 t70.1 x171.1 t7.1 t7.2.1 t7.2.2 t25.1 x171.2.1 x171.2.2 0 >>= fun (y189 : Lp Unit Bool) => match y189 with | .a x191 => (impl_SpanHas.f t7.1 t7.2.1 t7.2.2 >>= fun t193 => (if IntKind.u64.wrap (t70.1 + x171.1) = IntKind.u64.wrap (t7.2.2 - t7.2.1) then (if ((decide (t193.1 = 1)) == (decide (x171.1 = 0))) = true then (laws_lSpans.f x171.2.1 t7.1 >>= fun t201 => (if t201 = true then (laws_lSpans.f x171.2.2 t25.1 >>= fun t206 => (some t206)) else (some false))) else (some false)) else (some false))) | .b x191 => (some x191)) | .b x171 => (some x171)))))) else none) else (laws_FnSpans.l1_1 t70.1 0 t7.1 t7.2.1 t7.2.2 t25.1 0 >>= fun (y229 : Lp Unit Bool) => match y229 with | .a x231 => (impl_SpanHas.f t7.1 t7.2.1 t7.2.2 >>= fun t233 => (if IntKind.u64.wrap (t70.1 + 0) = IntKind.u64.wrap (t7.2.2 - t7.2.1) then (if ((decide (t233.1 = 1)) == true) = true then (laws_lSpans.f t25.1 t7.1 >>= fun t241 => (if t241 = true then (laws_lSpans.f t7.1 t25.1 >>= fun t246 => (some t246)) else (some false))) else (some false)) else (some false))) | .b x231 => (some x231))))))))))))))))))))
def laws_FnSpans.l0_M (cs0 : List Cell) (o0 : Nat) (l0 : List Int) (hv0 : Vw c_u8 1 cs0 o0 l0) (x0_0 : Int) (x0_1 : Int) (x0_4 : (List S31)) (x0_5 : Int) (x0_6 : Int) (x0_7 : (List S31)) (x0_8 : (List S31)) (x0_2 : Int) (x0_3 : Int) (x0_9 : (List S31)) (x0_10 : (List S31)) (y : Lp (Int × (List S31) × (List S31)) Bool) : Prop := ∀ (K : AE → St → Prop), (∀ x, y = .a x → K (.exit 0) ⟨[(3, .c (.ref (.tmp 41 0) [] 0 x0_4.length)), (4, .c (.ptr (.tmp 4 0) [] 0)), (13, .c (.ref (.tmp 70 0) [] 0 x0_7.length)), (21, .c (.sc (.int .u64 x0_1))), (25, .c (.sc (.int .u64 x.1))), (26, .c (.ref (.tmp 178 50) [] 0 x.2.1.length)), (27, .c (.ref (.tmp 187 50) [] 0 x.2.2.length))], [(.arg 0, ⟨.fz, 1, cs0⟩), (.tmp 41 0, ⟨.lst, 2, encL c31 x0_4⟩), (.tmp 4 0, ⟨.box, 0, [.sc (.int .u64 x0_5), .sc (.int .u64 x0_6)]⟩), (.tmp 70 0, ⟨.lst, 2, encL c31 x0_7⟩), (.tmp 178 50, ⟨.lst, 2, encL c31 x.2.1⟩), (.tmp 187 50, ⟨.lst, 2, encL c31 x.2.2⟩)], [], []⟩) → (∀ x, y = .b x → K .ret ⟨[(2, .c (.sc (.bool x)))], [(.arg 0, ⟨.fz, 1, cs0⟩)], [], []⟩) → loopS Try.prog 252 (.ga C4_l0) K ⟨[(3, .c (.ref (.tmp 41 0) [] 0 x0_4.length)), (4, .c (.ptr (.tmp 4 0) [] 0)), (6, .c (.sc (.int .i64 x0_0))), (13, .c (.ref (.tmp 70 0) [] 0 x0_7.length)), (17, .c (.ref (.tmp 82 0) [] 0 x0_8.length)), (21, .c (.sc (.int .u64 x0_1))), (25, .c (.sc (.int .u64 x0_2))), (26, .c (.ref (.tmp 178 50) [] 0 x0_9.length)), (27, .c (.ref (.tmp 187 50) [] 0 x0_10.length)), (28, .c (.sc (.int .i64 x0_3)))], [(.arg 0, ⟨.fz, 1, cs0⟩), (.tmp 41 0, ⟨.lst, 2, encL c31 x0_4⟩), (.tmp 4 0, ⟨.box, 0, [.sc (.int .u64 x0_5), .sc (.int .u64 x0_6)]⟩), (.tmp 70 0, ⟨.lst, 2, encL c31 x0_7⟩), (.tmp 82 0, ⟨.lst, 2, encL c31 x0_8⟩), (.tmp 178 50, ⟨.lst, 2, encL c31 x0_9⟩), (.tmp 187 50, ⟨.lst, 2, encL c31 x0_10⟩)], [], []⟩
theorem laws_FnSpans.l0_walk (cs0 : List Cell) (o0 : Nat) (l0 : List Int) (hv0 : Vw c_u8 1 cs0 o0 l0) (x0_0 : Int) (x0_1 : Int) (x0_4 : (List S31)) (x0_5 : Int) (x0_6 : Int) (x0_7 : (List S31)) (x0_8 : (List S31)) (x0_2 : Int) (x0_3 : Int) (x0_9 : (List S31)) (x0_10 : (List S31)) (y : Lp (Int × (List S31) × (List S31)) Bool) (h : laws_FnSpans.l0 l0 x0_0 x0_1 x0_4 x0_5 x0_6 x0_7 x0_8 x0_2 x0_3 x0_9 x0_10 = some y) : laws_FnSpans.l0_M cs0 o0 l0 hv0 x0_0 x0_1 x0_4 x0_5 x0_6 x0_7 x0_8 x0_2 x0_3 x0_9 x0_10 y := by
  refine laws_FnSpans.l0.partial_correctness l0 x0_0 x0_1 x0_4 x0_5 x0_6 x0_7 x0_8 (motive := fun x0_2 x0_3 x0_9 x0_10 y => laws_FnSpans.l0_M cs0 o0 l0 hv0 x0_0 x0_1 x0_4 x0_5 x0_6 x0_7 x0_8 x0_2 x0_3 x0_9 x0_10 y) ?_ x0_2 x0_3 x0_9 x0_10 y h
  clear h
  unfold laws_FnSpans.l0_M
  intro rec ih x0_2 x0_3 x0_9 x0_10 y h K hx0 hx1
  refine loop_unroll (ga_k fun G0 G0n G0r G0x => ?_)
  unfold C4_l0
  refine seq_k fun J136 hJ136 => ?_
  refine sr_k fun J137 hJ137 => ?_
  simp +decide only [Nat.reduceAdd, Nat.reduceMul, Int.reduceToNat, ak]
  refine hJ137 _ ?_
  refine cond_k (b := decide (x0_3 < (x0_8.length : Int))) rfl (fun c138 => ?_) (fun c138 => ?_)
  · replace c138 := of_decide_eq_true c138; rw [if_pos c138] at h
    refine hJ136 _ ?_
    refine seq_k fun J139 hJ139 => ?_
    refine block_k fun B140 B140n B140x B140r B140j => ?_
    refine sd_k fun J141 hJ141 => ?_
    obtain ⟨b142, h⟩ := of_guard h
    have g143 : 0 + x0_3.toNat * 2 + 1 ≤ (encL c31 x0_8).length := ((Vw.whole c31_w x0_8).len_le b142.1 b142.2 (by decide))
    have g144 : (encL c31 x0_8)[0 + x0_3.toNat * 2 + 1]? = some (.sc (.int .u64 ((rd z31 x0_8 x0_3).f1))) := (Vw.whole c31_w x0_8).get z31 1 b142.1 b142.2 (by decide)
    have g145 : 0 + x0_3.toNat * 2 + 0 ≤ (encL c31 x0_8).length := ((Vw.whole c31_w x0_8).len_le b142.1 b142.2 (by decide))
    have g146 : (encL c31 x0_8)[0 + x0_3.toNat * 2 + 0]? = some (.sc (.int .u64 ((rd z31 x0_8 x0_3).f0))) := (Vw.whole c31_w x0_8).get z31 0 b142.1 b142.2 (by decide)
    simp +decide only [Nat.reduceAdd, Nat.reduceMul, Int.reduceToNat, ak, b142, g143, g144, g145, g146]
    refine hJ141 _ ?_
    refine sr_k fun J147 hJ147 => ?_
    simp +decide only [Nat.reduceAdd, Nat.reduceMul, Int.reduceToNat, ak]
    refine hJ147 _ ?_
    refine sr_k fun J148 hJ148 => ?_
    have g149 : (List.drop (0 + x0_3.toNat * 2) (encL c31 x0_8)).take 2 = [.sc (.int .u64 ((rd z31 x0_8 x0_3).f0)), .sc (.int .u64 ((rd z31 x0_8 x0_3).f1))] := (Vw.whole c31_w x0_8).stretch z31 b142.1 b142.2
    simp +decide only [Nat.reduceAdd, Nat.reduceMul, Int.reduceToNat, ak, b142, g149]
    obtain ⟨t150, h151, h⟩ := of_bind h
    refine call_m [(.arg 0, ⟨(.tmp 178 50), [], none, .fz⟩)] (s0 := [(.arg 0, ⟨.fz, 2, encL c31 x0_9⟩)]) (by intro t ht; cases ht; decide) rfl rfl (by first | rfl | simp only [reduceCtorEq, Nat.reduceEqDiff, ak, akF, b142, g143, g144, g145, g146, g149]) (impl_SpanCut.tri (encL c31 x0_9) 0 x0_9 (Vw.whole c31_w x0_9) ((rd z31 x0_8 x0_3).f0) ((rd z31 x0_8 x0_3).f1) _ h151) (by first | rfl | simp only [reduceCtorEq, Nat.reduceEqDiff, ak, akF]) (by simp [bkOk2, memK]) (fun hl151 => ?_)
    refine call_st (s4 := [(.arg 0, ⟨.fz, 1, cs0⟩), (.tmp 41 0, ⟨.lst, 2, encL c31 x0_4⟩), (.tmp 4 0, ⟨.box, 0, [.sc (.int .u64 x0_5), .sc (.int .u64 x0_6)]⟩), (.tmp 70 0, ⟨.lst, 2, encL c31 x0_7⟩), (.tmp 82 0, ⟨.lst, 2, encL c31 x0_8⟩), (.tmp 178 50, ⟨.lst, 2, encL c31 x0_9⟩), (.tmp 187 50, ⟨.lst, 2, encL c31 x0_10⟩), (.tmp 178 0, ⟨.lst, 2, encL c31 t150.1⟩)]) (m1' := []) (m2' := []) (v' := .tup [(false, [.ref (.tmp 178 0) [] 0 t150.1.length]), (false, [.sc (.int .i64 t150.2)])]) (Sto.mapN_killNil _ _) (mrgL_fz (mrgL_nil' _ _ _) rfl (by first | rfl | simp only [reduceCtorEq, Nat.reduceEqDiff, ak, b142, g143, g144, g145, g146, g149]) rfl (by intro R hR hh; cases hR; cases hh.2)) (by rfl) (mapT_killNil _ _) (by rfl) (by rfl) (by first | rfl | simp only [reduceCtorEq, Nat.reduceEqDiff, ak, akF, Nat.zero_add, List.append_nil, b142]) ?_
    simp +decide only [Nat.reduceAdd, Nat.reduceMul, Int.reduceToNat, ak]
    refine hJ148 _ ?_
    refine sr_k fun J153 hJ153 => ?_
    simp +decide only [Nat.reduceAdd, Nat.reduceMul, Int.reduceToNat, ak, b142, g149]
    obtain ⟨t154, h155, h⟩ := of_bind h
    refine call_m [(.arg 0, ⟨(.tmp 187 50), [], none, .fz⟩)] (s0 := [(.arg 0, ⟨.fz, 2, encL c31 x0_10⟩)]) (by intro t ht; cases ht; decide) rfl rfl (by first | rfl | simp only [reduceCtorEq, Nat.reduceEqDiff, ak, akF, b142, g143, g144, g145, g146, g149]) (impl_SpanAdd.tri (encL c31 x0_10) 0 x0_10 (Vw.whole c31_w x0_10) ((rd z31 x0_8 x0_3).f0) ((rd z31 x0_8 x0_3).f1) _ h155) (by first | rfl | simp only [reduceCtorEq, Nat.reduceEqDiff, ak, akF]) (by simp [bkOk2, memK]) (fun hl155 => ?_)
    refine call_st (s4 := [(.arg 0, ⟨.fz, 1, cs0⟩), (.tmp 41 0, ⟨.lst, 2, encL c31 x0_4⟩), (.tmp 4 0, ⟨.box, 0, [.sc (.int .u64 x0_5), .sc (.int .u64 x0_6)]⟩), (.tmp 70 0, ⟨.lst, 2, encL c31 x0_7⟩), (.tmp 82 0, ⟨.lst, 2, encL c31 x0_8⟩), (.tmp 178 50, ⟨.lst, 2, encL c31 x0_9⟩), (.tmp 187 50, ⟨.lst, 2, encL c31 x0_10⟩), (.tmp 178 0, ⟨.lst, 2, encL c31 t150.1⟩), (.tmp 187 0, ⟨.lst, 2, encL c31 t154.1⟩)]) (m1' := []) (m2' := []) (v' := .tup [(false, [.ref (.tmp 187 0) [] 0 t154.1.length]), (false, [.sc (.int .i64 t154.2)])]) (Sto.mapN_killNil _ _) (mrgL_fz (mrgL_nil' _ _ _) rfl (by first | rfl | simp only [reduceCtorEq, Nat.reduceEqDiff, ak, b142, g143, g144, g145, g146, g149]) rfl (by intro R hR hh; cases hR; cases hh.2)) (by rfl) (mapT_killNil _ _) (by rfl) (by rfl) (by first | rfl | simp only [reduceCtorEq, Nat.reduceEqDiff, ak, akF, Nat.zero_add, List.append_nil, b142]) ?_
    simp +decide only [Nat.reduceAdd, Nat.reduceMul, Int.reduceToNat, ak]
    refine hJ153 _ ?_
    obtain ⟨j157, h158, hn⟩ := of_bind h
    refine seq_j (fun st => st = ⟨[(3, .c (.ref (.tmp 41 0) [] 0 x0_4.length)), (4, .c (.ptr (.tmp 4 0) [] 0)), (6, .c (.sc (.int .i64 x0_0))), (13, .c (.ref (.tmp 70 0) [] 0 x0_7.length)), (17, .c (.ref (.tmp 82 0) [] 0 x0_8.length)), (21, .c (.sc (.int .u64 x0_1))), (25, .c (.sc (.int .u64 (IntKind.u64.wrap ((IntKind.u64.wrap (x0_2 + ((rd z31 x0_8 x0_3).f1))) - ((rd z31 x0_8 x0_3).f0)))))), (26, .c (.ref (.tmp 178 0) [] 0 t150.1.length)), (27, .c (.ref (.tmp 187 0) [] 0 t154.1.length)), (28, .c (.sc (.int .i64 x0_3))), (195, .c (.sc (.bool j157)))], [(.arg 0, ⟨.fz, 1, cs0⟩), (.tmp 41 0, ⟨.lst, 2, encL c31 x0_4⟩), (.tmp 4 0, ⟨.box, 0, [.sc (.int .u64 x0_5), .sc (.int .u64 x0_6)]⟩), (.tmp 70 0, ⟨.lst, 2, encL c31 x0_7⟩), (.tmp 82 0, ⟨.lst, 2, encL c31 x0_8⟩), (.tmp 178 0, ⟨.lst, 2, encL c31 t150.1⟩), (.tmp 187 0, ⟨.lst, 2, encL c31 t154.1⟩)], [], []⟩) (fun J159 hJ159 => ?_) ?_
    · replace h := h158; clear hn
      refine ga_k fun G160 G160n G160r G160x => ?_
      refine reg_k ?_
      simp +decide only [Nat.reduceAdd, Nat.reduceMul, Int.reduceToNat, ak]
      by_cases c161 : t150.2 ≠ 0
      · rw [if_pos c161] at h
        have e162 : decide (t150.2 ≠ 0) = true := decide_eq_true c161
        simp +decide only [Nat.reduceAdd, Nat.reduceMul, Int.reduceToNat, ak, e162]
        obtain rfl := Option.some.inj h
        refine G160n _ _ (wk [3, 4, 6, 13, 17, 21, 25, 26, 27, 28, 195] [pI (.arg 0) .fz, pI (.tmp 41 0) .lst, pI (.tmp 4 0) .box, pI (.tmp 70 0) .lst, pI (.tmp 82 0) .lst, pI (.tmp 178 0) .lst, pI (.tmp 187 0) .lst] (h0 := by first | rfl | simp +decide only [ak, akF, b142, e162]) (h := by first | rfl | (simp +decide only [ak, akF, b142, e162]; done) | (simp +decide [ak, akF, b142, e162] <;> omega))) (hJ159 _ rfl)
      · rw [if_neg c161] at h
        have e163 : decide (t150.2 ≠ 0) = false := decide_eq_false c161
        simp +decide only [Nat.reduceAdd, Nat.reduceMul, Int.reduceToNat, ak, e163]
        obtain rfl := Option.some.inj h
        refine G160n _ _ (wk [3, 4, 6, 13, 17, 21, 25, 26, 27, 28, 195] [pI (.arg 0) .fz, pI (.tmp 41 0) .lst, pI (.tmp 4 0) .box, pI (.tmp 70 0) .lst, pI (.tmp 82 0) .lst, pI (.tmp 178 0) .lst, pI (.tmp 187 0) .lst] (h0 := by first | rfl | simp +decide only [ak, akF, b142, e163]) (h := by first | rfl | (simp +decide only [ak, akF, b142, e163]; done) | (simp +decide [ak, akF, b142, e163] <;> omega))) (hJ159 _ rfl)
    · replace h := hn; clear hn h158
      rintro _ rfl
      refine cond_k (b := j157) rfl (fun c164 => ?_) (fun c164 => ?_)
      · rw [if_pos c164] at h
        refine sr_k fun J165 hJ165 => ?_
        simp +decide only [Nat.reduceAdd, Nat.reduceMul, Int.reduceToNat, ak]
        by_cases c166 : x0_0 = 0
        · rw [if_pos c166] at h
          have e167 : decide (x0_0 = 0) = true := decide_eq_true c166
          simp +decide only [Nat.reduceAdd, Nat.reduceMul, Int.reduceToNat, ak, e167]
          refine hJ165 _ ?_
          obtain rfl := Option.some.inj h
          refine gh_k (st' := ⟨[(2, .c (.sc (.bool (decide ((x0_4.length : Int) > 980)))))], [(.arg 0, ⟨.fz, 1, cs0⟩)], [], []⟩) (wk [2] [pI (.arg 0) .fz] (h0 := by first | rfl | simp +decide only [ak, akF, b142, e167]) (h := by first | rfl | (simp +decide only [ak, akF, b142, e167]; done) | (simp +decide [ak, akF, b142, e167] <;> omega))) ?_
          refine B140r _ ?_
          refine G0r _ ?_
          exact hx1 _ rfl
        · rw [if_neg c166] at h
          have e168 : decide (x0_0 = 0) = false := decide_eq_false c166
          simp +decide only [Nat.reduceAdd, Nat.reduceMul, Int.reduceToNat, ak, e168]
          refine hJ165 _ ?_
          obtain rfl := Option.some.inj h
          refine gh_k (st' := ⟨[(2, .c (.sc (.bool false)))], [(.arg 0, ⟨.fz, 1, cs0⟩)], [], []⟩) (wk [2] [pI (.arg 0) .fz] (h0 := by first | rfl | simp +decide only [ak, akF, b142, e168]) (h := by first | rfl | (simp +decide only [ak, akF, b142, e168]; done) | (simp +decide [ak, akF, b142, e168] <;> omega))) ?_
          refine B140r _ ?_
          refine G0r _ ?_
          exact hx1 _ rfl
      · rw [if_neg (Bool.eq_false_iff.1 c164)] at h
        refine B140n _ ?_
        refine hJ139 _ ?_
        refine reg_k ?_
        simp +decide only [Nat.reduceAdd, Nat.reduceMul, Int.reduceToNat, ak]
        refine G0n _ _ (wk [3, 4, 6, 13, 17, 21, 25, 26, 27, 28] [pI (.arg 0) .fz, pI (.tmp 41 0) .lst, pI (.tmp 4 0) .box, pI (.tmp 70 0) .lst, pI (.tmp 82 0) .lst, pN (.tmp 178 50) (.tmp 178 0) .lst, pN (.tmp 187 50) (.tmp 187 0) .lst]) (ih _ _ _ _ _ h K hx0 hx1)
  · replace c138 := of_decide_eq_false c138; rw [if_neg c138] at h
    obtain rfl := Option.some.inj h
    refine gh_k (wk [3, 4, 13, 21, 25, 26, 27] [pI (.arg 0) .fz, pI (.tmp 41 0) .lst, pI (.tmp 4 0) .box, pI (.tmp 70 0) .lst, pI (.tmp 178 50) .lst, pI (.tmp 187 50) .lst]) ?_
    refine G0x _ _ ?_
    exact hx0 _ rfl
def laws_FnSpans.l1_M (cs0 : List Cell) (o0 : Nat) (l0 : List Int) (hv0 : Vw c_u8 1 cs0 o0 l0) (x1_0 : Int) (x1_1 : Int) (x1_3 : (List S31)) (x1_4 : Int) (x1_5 : Int) (x1_6 : (List S31)) (x1_7 : (List S31)) (x1_8 : (List S31)) (x1_2 : Int) (y : Lp Unit Bool) : Prop := ∀ (K : AE → St → Prop), (∀ x, y = .a x → K (.exit 2) ⟨[(3, .c (.ref (.tmp 41 0) [] 0 x1_3.length)), (4, .c (.ptr (.tmp 4 0) [] 0)), (13, .c (.ref (.tmp 70 0) [] 0 x1_6.length)), (21, .c (.sc (.int .u64 x1_0))), (25, .c (.sc (.int .u64 x1_1))), (26, .c (.ref (.tmp 178 50) [] 0 x1_7.length)), (27, .c (.ref (.tmp 187 50) [] 0 x1_8.length))], [(.arg 0, ⟨.fz, 1, cs0⟩), (.tmp 41 0, ⟨.lst, 2, encL c31 x1_3⟩), (.tmp 4 0, ⟨.box, 0, [.sc (.int .u64 x1_4), .sc (.int .u64 x1_5)]⟩), (.tmp 70 0, ⟨.lst, 2, encL c31 x1_6⟩), (.tmp 178 50, ⟨.lst, 2, encL c31 x1_7⟩), (.tmp 187 50, ⟨.lst, 2, encL c31 x1_8⟩)], [], []⟩) → (∀ x, y = .b x → K .ret ⟨[(2, .c (.sc (.bool x)))], [(.arg 0, ⟨.fz, 1, cs0⟩)], [], []⟩) → loopS Try.prog 252 (.ga C4_l1) K ⟨[(3, .c (.ref (.tmp 41 0) [] 0 x1_3.length)), (4, .c (.ptr (.tmp 4 0) [] 0)), (13, .c (.ref (.tmp 70 0) [] 0 x1_6.length)), (21, .c (.sc (.int .u64 x1_0))), (25, .c (.sc (.int .u64 x1_1))), (26, .c (.ref (.tmp 178 50) [] 0 x1_7.length)), (27, .c (.ref (.tmp 187 50) [] 0 x1_8.length)), (31, .c (.sc (.int .i64 x1_2)))], [(.arg 0, ⟨.fz, 1, cs0⟩), (.tmp 41 0, ⟨.lst, 2, encL c31 x1_3⟩), (.tmp 4 0, ⟨.box, 0, [.sc (.int .u64 x1_4), .sc (.int .u64 x1_5)]⟩), (.tmp 70 0, ⟨.lst, 2, encL c31 x1_6⟩), (.tmp 178 50, ⟨.lst, 2, encL c31 x1_7⟩), (.tmp 187 50, ⟨.lst, 2, encL c31 x1_8⟩)], [], []⟩
theorem laws_FnSpans.l1_walk (cs0 : List Cell) (o0 : Nat) (l0 : List Int) (hv0 : Vw c_u8 1 cs0 o0 l0) (x1_0 : Int) (x1_1 : Int) (x1_3 : (List S31)) (x1_4 : Int) (x1_5 : Int) (x1_6 : (List S31)) (x1_7 : (List S31)) (x1_8 : (List S31)) (x1_2 : Int) (y : Lp Unit Bool) (h : laws_FnSpans.l1 x1_0 x1_1 x1_3 x1_4 x1_5 x1_6 x1_7 x1_8 x1_2 = some y) : laws_FnSpans.l1_M cs0 o0 l0 hv0 x1_0 x1_1 x1_3 x1_4 x1_5 x1_6 x1_7 x1_8 x1_2 y := by
  refine laws_FnSpans.l1.partial_correctness x1_0 x1_1 x1_3 x1_4 x1_5 x1_6 x1_7 x1_8 (motive := fun x1_2 y => laws_FnSpans.l1_M cs0 o0 l0 hv0 x1_0 x1_1 x1_3 x1_4 x1_5 x1_6 x1_7 x1_8 x1_2 y) ?_ x1_2 y h
  clear h
  unfold laws_FnSpans.l1_M
  intro rec ih x1_2 y h K hx0 hx1
  refine loop_unroll (ga_k fun G1 G1n G1r G1x => ?_)
  unfold C4_l1
  refine seq_k fun J175 hJ175 => ?_
  refine sr_k fun J176 hJ176 => ?_
  simp +decide only [Nat.reduceAdd, Nat.reduceMul, Int.reduceToNat, ak]
  refine hJ176 _ ?_
  refine cond_k (b := decide (x1_2 < (x1_3.length : Int))) rfl (fun c177 => ?_) (fun c177 => ?_)
  · replace c177 := of_decide_eq_true c177; rw [if_pos c177] at h
    refine hJ175 _ ?_
    refine seq_k fun J178 hJ178 => ?_
    refine block_k fun B179 B179n B179x B179r B179j => ?_
    refine sr_k fun J180 hJ180 => ?_
    obtain ⟨b181, h⟩ := of_guard h
    have g182 : (List.drop (0 + x1_2.toNat * 2) (encL c31 x1_3)).take 2 = [.sc (.int .u64 ((rd z31 x1_3 x1_2).f0)), .sc (.int .u64 ((rd z31 x1_3 x1_2).f1))] := (Vw.whole c31_w x1_3).stretch z31 b181.1 b181.2
    simp +decide only [Nat.reduceAdd, Nat.reduceMul, Int.reduceToNat, ak, b181, g182]
    obtain ⟨t183, h184, h⟩ := of_bind h
    refine call_m [(.arg 0, ⟨(.tmp 70 0), [], none, .fz⟩)] (s0 := [(.arg 0, ⟨.fz, 2, encL c31 x1_6⟩)]) (by intro t ht; cases ht; decide) rfl rfl (by first | rfl | simp only [reduceCtorEq, Nat.reduceEqDiff, ak, akF, b181, g182]) (impl_SpanHas.tri (encL c31 x1_6) 0 x1_6 (Vw.whole c31_w x1_6) ((rd z31 x1_3 x1_2).f0) ((rd z31 x1_3 x1_2).f1) _ h184) (by first | rfl | simp only [reduceCtorEq, Nat.reduceEqDiff, ak, akF]) (by simp [bkOk2, memK]) (fun hl184 => ?_)
    refine call_st (s4 := [(.arg 0, ⟨.fz, 1, cs0⟩), (.tmp 41 0, ⟨.lst, 2, encL c31 x1_3⟩), (.tmp 4 0, ⟨.box, 0, [.sc (.int .u64 x1_4), .sc (.int .u64 x1_5)]⟩), (.tmp 70 0, ⟨.lst, 2, encL c31 x1_6⟩), (.tmp 178 50, ⟨.lst, 2, encL c31 x1_7⟩), (.tmp 187 50, ⟨.lst, 2, encL c31 x1_8⟩)]) (m1' := []) (m2' := []) (v' := .tup [(false, [.sc (.int .i64 t183.1)]), (false, [.sc (.int .i64 t183.2)])]) (Sto.mapN_killNil _ _) (mrgL_fz (mrgL_nil' _ _ _) rfl (by first | rfl | simp only [reduceCtorEq, Nat.reduceEqDiff, ak, b181, g182]) rfl (by intro R hR hh; cases hR; cases hh.2)) (by rfl) (mapT_killNil _ _) (by rfl) (by rfl) (by first | rfl | simp only [reduceCtorEq, Nat.reduceEqDiff, ak, akF, Nat.zero_add, List.append_nil, b181]) ?_
    simp +decide only [Nat.reduceAdd, Nat.reduceMul, Int.reduceToNat, ak]
    refine hJ180 _ ?_
    refine sr_k fun J186 hJ186 => ?_
    simp +decide only [Nat.reduceAdd, Nat.reduceMul, Int.reduceToNat, ak]
    refine hJ186 _ ?_
    refine cond_k (b := decide (t183.1 ≠ 1)) rfl (fun c187 => ?_) (fun c187 => ?_)
    · replace c187 := of_decide_eq_true c187; rw [if_pos c187] at h
      refine sr_k fun J188 hJ188 => ?_
      simp +decide only [Nat.reduceAdd, Nat.reduceMul, Int.reduceToNat, ak]
      refine hJ188 _ ?_
      obtain rfl := Option.some.inj h
      refine gh_k (wk [2] [pI (.arg 0) .fz]) ?_
      refine B179r _ ?_
      refine G1r _ ?_
      exact hx1 _ rfl
    · replace c187 := of_decide_eq_false c187; rw [if_neg c187] at h
      refine B179n _ ?_
      refine hJ178 _ ?_
      refine reg_k ?_
      simp +decide only [Nat.reduceAdd, Nat.reduceMul, Int.reduceToNat, ak]
      refine G1n _ _ (wk [3, 4, 13, 21, 25, 26, 27, 31] [pI (.arg 0) .fz, pI (.tmp 41 0) .lst, pI (.tmp 4 0) .box, pI (.tmp 70 0) .lst, pI (.tmp 178 50) .lst, pI (.tmp 187 50) .lst]) (ih _ _ h K hx0 hx1)
  · replace c177 := of_decide_eq_false c177; rw [if_neg c177] at h
    obtain rfl := Option.some.inj h
    refine gh_k (wk [3, 4, 13, 21, 25, 26, 27] [pI (.arg 0) .fz, pI (.tmp 41 0) .lst, pI (.tmp 4 0) .box, pI (.tmp 70 0) .lst, pI (.tmp 178 50) .lst, pI (.tmp 187 50) .lst]) ?_
    refine G1x _ _ ?_
    exact hx0 _ rfl
def laws_FnSpans.l1_1_M (cs0 : List Cell) (o0 : Nat) (l0 : List Int) (hv0 : Vw c_u8 1 cs0 o0 l0) (x1_0 : Int) (x1_1 : Int) (x1_3 : (List S31)) (x1_4 : Int) (x1_5 : Int) (x1_6 : (List S31)) (x1_2 : Int) (y : Lp Unit Bool) : Prop := ∀ (K : AE → St → Prop), (∀ x, y = .a x → K (.exit 2) ⟨[(3, .c (.ref (.tmp 41 0) [] 0 x1_3.length)), (4, .c (.ptr (.tmp 4 0) [] 0)), (13, .c (.ref (.tmp 70 0) [] 0 x1_6.length)), (21, .c (.sc (.int .u64 x1_0))), (25, .c (.sc (.int .u64 x1_1))), (26, .c (.ref (.tmp 70 0) [] 0 x1_6.length)), (27, .c (.ref (.tmp 41 0) [] 0 x1_3.length))], [(.arg 0, ⟨.fz, 1, cs0⟩), (.tmp 41 0, ⟨.lst, 2, encL c31 x1_3⟩), (.tmp 4 0, ⟨.box, 0, [.sc (.int .u64 x1_4), .sc (.int .u64 x1_5)]⟩), (.tmp 70 0, ⟨.lst, 2, encL c31 x1_6⟩)], [], []⟩) → (∀ x, y = .b x → K .ret ⟨[(2, .c (.sc (.bool x)))], [(.arg 0, ⟨.fz, 1, cs0⟩)], [], []⟩) → loopS Try.prog 252 (.ga C4_l1) K ⟨[(3, .c (.ref (.tmp 41 0) [] 0 x1_3.length)), (4, .c (.ptr (.tmp 4 0) [] 0)), (13, .c (.ref (.tmp 70 0) [] 0 x1_6.length)), (21, .c (.sc (.int .u64 x1_0))), (25, .c (.sc (.int .u64 x1_1))), (26, .c (.ref (.tmp 70 0) [] 0 x1_6.length)), (27, .c (.ref (.tmp 41 0) [] 0 x1_3.length)), (31, .c (.sc (.int .i64 x1_2)))], [(.arg 0, ⟨.fz, 1, cs0⟩), (.tmp 41 0, ⟨.lst, 2, encL c31 x1_3⟩), (.tmp 4 0, ⟨.box, 0, [.sc (.int .u64 x1_4), .sc (.int .u64 x1_5)]⟩), (.tmp 70 0, ⟨.lst, 2, encL c31 x1_6⟩)], [], []⟩
theorem laws_FnSpans.l1_1_walk (cs0 : List Cell) (o0 : Nat) (l0 : List Int) (hv0 : Vw c_u8 1 cs0 o0 l0) (x1_0 : Int) (x1_1 : Int) (x1_3 : (List S31)) (x1_4 : Int) (x1_5 : Int) (x1_6 : (List S31)) (x1_2 : Int) (y : Lp Unit Bool) (h : laws_FnSpans.l1_1 x1_0 x1_1 x1_3 x1_4 x1_5 x1_6 x1_2 = some y) : laws_FnSpans.l1_1_M cs0 o0 l0 hv0 x1_0 x1_1 x1_3 x1_4 x1_5 x1_6 x1_2 y := by
  refine laws_FnSpans.l1_1.partial_correctness x1_0 x1_1 x1_3 x1_4 x1_5 x1_6 (motive := fun x1_2 y => laws_FnSpans.l1_1_M cs0 o0 l0 hv0 x1_0 x1_1 x1_3 x1_4 x1_5 x1_6 x1_2 y) ?_ x1_2 y h
  clear h
  unfold laws_FnSpans.l1_1_M
  intro rec ih x1_2 y h K hx0 hx1
  refine loop_unroll (ga_k fun G1 G1n G1r G1x => ?_)
  unfold C4_l1
  refine seq_k fun J215 hJ215 => ?_
  refine sr_k fun J216 hJ216 => ?_
  simp +decide only [Nat.reduceAdd, Nat.reduceMul, Int.reduceToNat, ak]
  refine hJ216 _ ?_
  refine cond_k (b := decide (x1_2 < (x1_3.length : Int))) rfl (fun c217 => ?_) (fun c217 => ?_)
  · replace c217 := of_decide_eq_true c217; rw [if_pos c217] at h
    refine hJ215 _ ?_
    refine seq_k fun J218 hJ218 => ?_
    refine block_k fun B219 B219n B219x B219r B219j => ?_
    refine sr_k fun J220 hJ220 => ?_
    obtain ⟨b221, h⟩ := of_guard h
    have g222 : (List.drop (0 + x1_2.toNat * 2) (encL c31 x1_3)).take 2 = [.sc (.int .u64 ((rd z31 x1_3 x1_2).f0)), .sc (.int .u64 ((rd z31 x1_3 x1_2).f1))] := (Vw.whole c31_w x1_3).stretch z31 b221.1 b221.2
    simp +decide only [Nat.reduceAdd, Nat.reduceMul, Int.reduceToNat, ak, b221, g222]
    obtain ⟨t223, h224, h⟩ := of_bind h
    refine call_m [(.arg 0, ⟨(.tmp 70 0), [], none, .fz⟩)] (s0 := [(.arg 0, ⟨.fz, 2, encL c31 x1_6⟩)]) (by intro t ht; cases ht; decide) rfl rfl (by first | rfl | simp only [reduceCtorEq, Nat.reduceEqDiff, ak, akF, b221, g222]) (impl_SpanHas.tri (encL c31 x1_6) 0 x1_6 (Vw.whole c31_w x1_6) ((rd z31 x1_3 x1_2).f0) ((rd z31 x1_3 x1_2).f1) _ h224) (by first | rfl | simp only [reduceCtorEq, Nat.reduceEqDiff, ak, akF]) (by simp [bkOk2, memK]) (fun hl224 => ?_)
    refine call_st (s4 := [(.arg 0, ⟨.fz, 1, cs0⟩), (.tmp 41 0, ⟨.lst, 2, encL c31 x1_3⟩), (.tmp 4 0, ⟨.box, 0, [.sc (.int .u64 x1_4), .sc (.int .u64 x1_5)]⟩), (.tmp 70 0, ⟨.lst, 2, encL c31 x1_6⟩)]) (m1' := []) (m2' := []) (v' := .tup [(false, [.sc (.int .i64 t223.1)]), (false, [.sc (.int .i64 t223.2)])]) (Sto.mapN_killNil _ _) (mrgL_fz (mrgL_nil' _ _ _) rfl (by first | rfl | simp only [reduceCtorEq, Nat.reduceEqDiff, ak, b221, g222]) rfl (by intro R hR hh; cases hR; cases hh.2)) (by rfl) (mapT_killNil _ _) (by rfl) (by rfl) (by first | rfl | simp only [reduceCtorEq, Nat.reduceEqDiff, ak, akF, Nat.zero_add, List.append_nil, b221]) ?_
    simp +decide only [Nat.reduceAdd, Nat.reduceMul, Int.reduceToNat, ak]
    refine hJ220 _ ?_
    refine sr_k fun J226 hJ226 => ?_
    simp +decide only [Nat.reduceAdd, Nat.reduceMul, Int.reduceToNat, ak]
    refine hJ226 _ ?_
    refine cond_k (b := decide (t223.1 ≠ 1)) rfl (fun c227 => ?_) (fun c227 => ?_)
    · replace c227 := of_decide_eq_true c227; rw [if_pos c227] at h
      refine sr_k fun J228 hJ228 => ?_
      simp +decide only [Nat.reduceAdd, Nat.reduceMul, Int.reduceToNat, ak]
      refine hJ228 _ ?_
      obtain rfl := Option.some.inj h
      refine gh_k (wk [2] [pI (.arg 0) .fz]) ?_
      refine B219r _ ?_
      refine G1r _ ?_
      exact hx1 _ rfl
    · replace c227 := of_decide_eq_false c227; rw [if_neg c227] at h
      refine B219n _ ?_
      refine hJ218 _ ?_
      refine reg_k ?_
      simp +decide only [Nat.reduceAdd, Nat.reduceMul, Int.reduceToNat, ak]
      refine G1n _ _ (wk [3, 4, 13, 21, 25, 26, 27, 31] [pI (.arg 0) .fz, pI (.tmp 41 0) .lst, pI (.tmp 4 0) .box, pI (.tmp 70 0) .lst]) (ih _ _ h K hx0 hx1)
  · replace c217 := of_decide_eq_false c217; rw [if_neg c217] at h
    obtain rfl := Option.some.inj h
    refine gh_k (wk [3, 4, 13, 21, 25, 26, 27] [pI (.arg 0) .fz, pI (.tmp 41 0) .lst, pI (.tmp 4 0) .box, pI (.tmp 70 0) .lst]) ?_
    refine G1x _ _ ?_
    exact hx0 _ rfl
theorem laws_FnSpans.tri (cs0 : List Cell) (o0 : Nat) (l0 : List Int) (hv0 : Vw c_u8 1 cs0 o0 l0) (r : Bool) (h : laws_FnSpans.f l0 = some r) : Tri Try.prog 4 [.c (.ref (.arg 0) [] o0 l0.length)] [(.arg 0, ⟨.fz, 1, cs0⟩)] (fun o => o = ⟨.c (.sc (.bool r)), [(.arg 0, ⟨.fz, 1, cs0⟩)], [], []⟩) := by
  refine tri_of_body (ac := C4) (xs := r4) Try.func4 (show Try.f4.body = some (Try.f4.body.getD .skip) from rfl) k4 q4 (Nat.le_of_ble_eq_true rfl) ?_
  refine body_of fun K hKn hKr => ?_
  unfold laws_FnSpans.f at h
  unfold C4
  simp only [initT, Nat.reduceAdd]
  refine sr_k fun J1 hJ1 => ?_
  simp +decide only [Nat.reduceAdd, Nat.reduceMul, Int.reduceToNat, ak]
  refine hJ1 _ ?_
  refine seq_k fun J2 hJ2 => ?_
  refine sr_k fun J3 hJ3 => ?_
  simp +decide only [Nat.reduceAdd, Nat.reduceMul, Int.reduceToNat, ak]
  refine hJ3 _ ?_
  refine cond_k (b := decide ((l0.length : Int) > 1048576)) rfl (fun c4 => ?_) (fun c4 => ?_)
  · replace c4 := of_decide_eq_true c4; rw [if_pos c4] at h
    refine sr_k fun J5 hJ5 => ?_
    simp +decide only [Nat.reduceAdd, Nat.reduceMul, Int.reduceToNat, ak]
    refine hJ5 _ ?_
    obtain rfl := Option.some.inj h
    refine hKr _ ⟨_, rfl, [], _, rfl, rfl, ?_⟩
    first | rfl | (simp only [reduceCtorEq, Nat.reduceEqDiff, ak, akF]; done) | (simp [reduceCtorEq, Nat.reduceEqDiff, ak, akF] <;> omega)
  · replace c4 := of_decide_eq_false c4; rw [if_neg c4] at h
    refine hJ2 _ ?_
    refine sr_k fun J6 hJ6 => ?_
    simp +decide only [Nat.reduceAdd, Nat.reduceMul, Int.reduceToNat, ak]
    obtain ⟨t7, h8, h⟩ := of_bind h
    refine call_m [(.arg 0, ⟨(.arg 0), [], none, .fz⟩)] (s0 := [(.arg 0, ⟨.fz, 1, cs0⟩)]) (by intro t ht; cases ht; decide) rfl rfl (by first | rfl | simp only [reduceCtorEq, Nat.reduceEqDiff, ak, akF]) (spec_DrawSpanAdd.tri (cs0) o0 l0 hv0 _ h8) (by first | rfl | simp only [reduceCtorEq, Nat.reduceEqDiff, ak, akF]) (by simp [bkOk2, memK]) (fun hl8 => ?_)
    refine call_st (s4 := [(.arg 0, ⟨.fz, 1, cs0⟩), (.tmp 41 0, ⟨.lst, 2, encL c31 t7.1⟩)]) (m1' := []) (m2' := []) (v' := .tup [(false, [.ref (.tmp 41 0) [] 0 t7.1.length]), (true, [.sc (.int .u64 t7.2.1), .sc (.int .u64 t7.2.2)])]) (Sto.mapN_killNil _ _) (mrgL_fz (mrgL_nil' _ _ _) rfl (by first | rfl | simp only [reduceCtorEq, Nat.reduceEqDiff, ak]) rfl (by intro R hR hh; cases hR; cases hh.2)) (by rfl) (mapT_killNil _ _) (by rfl) (by rfl) (by first | rfl | simp only [reduceCtorEq, Nat.reduceEqDiff, ak, akF, Nat.zero_add, List.append_nil]) ?_
    simp +decide only [Nat.reduceAdd, Nat.reduceMul, Int.reduceToNat, ak]
    refine hJ6 _ ?_
    refine sr_k fun J10 hJ10 => ?_
    simp +decide only [Nat.reduceAdd, Nat.reduceMul, Int.reduceToNat, ak]
    obtain ⟨t11, h12, h⟩ := of_bind h
    refine call_m [(.arg 0, ⟨(.tmp 41 0), [], none, .fz⟩)] (s0 := [(.arg 0, ⟨.fz, 2, encL c31 t7.1⟩)]) (by intro t ht; cases ht; decide) rfl rfl (by first | rfl | simp only [reduceCtorEq, Nat.reduceEqDiff, ak, akF]) (spec_SpanAdd.tri (encL c31 t7.1) 0 t7.1 (Vw.whole c31_w t7.1) t7.2.1 t7.2.2 _ h12) (by first | rfl | simp only [reduceCtorEq, Nat.reduceEqDiff, ak, akF]) (by simp [bkOk2, memK]) (fun hl12 => ?_)
    refine call_st (s4 := [(.arg 0, ⟨.fz, 1, cs0⟩), (.tmp 41 0, ⟨.lst, 2, encL c31 t7.1⟩), (.tmp 4 0, ⟨.box, 0, [.sc (.int .u64 t7.2.1), .sc (.int .u64 t7.2.2)]⟩), (.tmp 47 0, ⟨.lst, 2, encL c31 t11.1⟩)]) (m1' := []) (m2' := []) (v' := .tup [(false, [.ref (.tmp 47 0) [] 0 t11.1.length]), (false, [.sc (.int .i64 t11.2)])]) (Sto.mapN_killNil _ _) (mrgL_fz (mrgL_nil' _ _ _) rfl (by first | rfl | simp only [reduceCtorEq, Nat.reduceEqDiff, ak]) rfl (by intro R hR hh; cases hR; cases hh.2)) (by rfl) (mapT_killNil _ _) (by rfl) (by rfl) (by first | rfl | simp only [reduceCtorEq, Nat.reduceEqDiff, ak, akF, Nat.zero_add, List.append_nil]) ?_
    simp +decide only [Nat.reduceAdd, Nat.reduceMul, Int.reduceToNat, ak]
    refine hJ10 _ ?_
    refine sr_k fun J14 hJ14 => ?_
    simp +decide only [Nat.reduceAdd, Nat.reduceMul, Int.reduceToNat, ak]
    obtain ⟨t15, h16, h⟩ := of_bind h
    refine call_m [(.arg 0, ⟨(.tmp 41 0), [], none, .fz⟩)] (s0 := [(.arg 0, ⟨.fz, 2, encL c31 t7.1⟩)]) (by intro t ht; cases ht; decide) rfl rfl (by first | rfl | simp only [reduceCtorEq, Nat.reduceEqDiff, ak, akF]) (spec_SpanCut.tri (encL c31 t7.1) 0 t7.1 (Vw.whole c31_w t7.1) t7.2.1 t7.2.2 _ h16) (by first | rfl | simp only [reduceCtorEq, Nat.reduceEqDiff, ak, akF]) (by simp [bkOk2, memK]) (fun hl16 => ?_)
    refine call_st (s4 := [(.arg 0, ⟨.fz, 1, cs0⟩), (.tmp 41 0, ⟨.lst, 2, encL c31 t7.1⟩), (.tmp 4 0, ⟨.box, 0, [.sc (.int .u64 t7.2.1), .sc (.int .u64 t7.2.2)]⟩), (.tmp 47 0, ⟨.lst, 2, encL c31 t11.1⟩), (.tmp 53 0, ⟨.lst, 2, encL c31 t15.1⟩)]) (m1' := []) (m2' := []) (v' := .tup [(false, [.ref (.tmp 53 0) [] 0 t15.1.length]), (false, [.sc (.int .i64 t15.2)])]) (Sto.mapN_killNil _ _) (mrgL_fz (mrgL_nil' _ _ _) rfl (by first | rfl | simp only [reduceCtorEq, Nat.reduceEqDiff, ak]) rfl (by intro R hR hh; cases hR; cases hh.2)) (by rfl) (mapT_killNil _ _) (by rfl) (by rfl) (by first | rfl | simp only [reduceCtorEq, Nat.reduceEqDiff, ak, akF, Nat.zero_add, List.append_nil]) ?_
    simp +decide only [Nat.reduceAdd, Nat.reduceMul, Int.reduceToNat, ak]
    refine hJ14 _ ?_
    refine sr_k fun J18 hJ18 => ?_
    simp +decide only [Nat.reduceAdd, Nat.reduceMul, Int.reduceToNat, ak]
    obtain ⟨t19, h20, h⟩ := of_bind h
    refine call_m [(.arg 0, ⟨(.tmp 41 0), [], none, .fz⟩)] (s0 := [(.arg 0, ⟨.fz, 2, encL c31 t7.1⟩)]) (by intro t ht; cases ht; decide) rfl rfl (by first | rfl | simp only [reduceCtorEq, Nat.reduceEqDiff, ak, akF]) (spec_SpanGaps.tri (encL c31 t7.1) 0 t7.1 (Vw.whole c31_w t7.1) t7.2.1 t7.2.2 _ h20) (by first | rfl | simp only [reduceCtorEq, Nat.reduceEqDiff, ak, akF]) (by simp [bkOk2, memK]) (fun hl20 => ?_)
    refine call_st (s4 := [(.arg 0, ⟨.fz, 1, cs0⟩), (.tmp 41 0, ⟨.lst, 2, encL c31 t7.1⟩), (.tmp 4 0, ⟨.box, 0, [.sc (.int .u64 t7.2.1), .sc (.int .u64 t7.2.2)]⟩), (.tmp 47 0, ⟨.lst, 2, encL c31 t11.1⟩), (.tmp 53 0, ⟨.lst, 2, encL c31 t15.1⟩), (.tmp 59 0, ⟨.lst, 2, encL c31 t19.1⟩)]) (m1' := []) (m2' := []) (v' := .tup [(false, [.ref (.tmp 59 0) [] 0 t19.1.length]), (false, [.sc (.int .i64 t19.2)])]) (Sto.mapN_killNil _ _) (mrgL_fz (mrgL_nil' _ _ _) rfl (by first | rfl | simp only [reduceCtorEq, Nat.reduceEqDiff, ak]) rfl (by intro R hR hh; cases hR; cases hh.2)) (by rfl) (mapT_killNil _ _) (by rfl) (by rfl) (by first | rfl | simp only [reduceCtorEq, Nat.reduceEqDiff, ak, akF, Nat.zero_add, List.append_nil]) ?_
    simp +decide only [Nat.reduceAdd, Nat.reduceMul, Int.reduceToNat, ak]
    refine hJ18 _ ?_
    refine sr_k fun J22 hJ22 => ?_
    simp +decide only [Nat.reduceAdd, Nat.reduceMul, Int.reduceToNat, ak]
    refine call_m [(.arg 0, ⟨(.arg 0), [], none, .fz⟩)] (s0 := [(.arg 0, ⟨.fz, 1, cs0⟩)]) (by intro t ht; cases ht; decide) rfl rfl (by first | rfl | simp only [reduceCtorEq, Nat.reduceEqDiff, ak, akF]) (spec_DrawSpanAdd.tri (cs0) o0 l0 hv0 _ h8) (by first | rfl | simp only [reduceCtorEq, Nat.reduceEqDiff, ak, akF]) (by simp [bkOk2, memK]) (fun hl22 => ?_)
    refine call_st (s4 := [(.arg 0, ⟨.fz, 1, cs0⟩), (.tmp 41 0, ⟨.lst, 2, encL c31 t7.1⟩), (.tmp 4 0, ⟨.box, 0, [.sc (.int .u64 t7.2.1), .sc (.int .u64 t7.2.2)]⟩), (.tmp 47 0, ⟨.lst, 2, encL c31 t11.1⟩), (.tmp 53 0, ⟨.lst, 2, encL c31 t15.1⟩), (.tmp 59 0, ⟨.lst, 2, encL c31 t19.1⟩), (.tmp 64 0, ⟨.lst, 2, encL c31 t7.1⟩)]) (m1' := []) (m2' := []) (v' := .tup [(false, [.ref (.tmp 64 0) [] 0 t7.1.length]), (true, [.sc (.int .u64 t7.2.1), .sc (.int .u64 t7.2.2)])]) (Sto.mapN_killNil _ _) (mrgL_fz (mrgL_nil' _ _ _) rfl (by first | rfl | simp only [reduceCtorEq, Nat.reduceEqDiff, ak]) rfl (by intro R hR hh; cases hR; cases hh.2)) (by rfl) (mapT_killNil _ _) (by rfl) (by rfl) (by first | rfl | simp only [reduceCtorEq, Nat.reduceEqDiff, ak, akF, Nat.zero_add, List.append_nil]) ?_
    simp +decide only [Nat.reduceAdd, Nat.reduceMul, Int.reduceToNat, ak]
    refine hJ22 _ ?_
    refine sr_k fun J24 hJ24 => ?_
    simp +decide only [Nat.reduceAdd, Nat.reduceMul, Int.reduceToNat, ak]
    obtain ⟨t25, h26, h⟩ := of_bind h
    refine call_m [(.arg 0, ⟨(.tmp 64 0), [], none, .fz⟩)] (s0 := [(.arg 0, ⟨.fz, 2, encL c31 t7.1⟩)]) (by intro t ht; cases ht; decide) rfl rfl (by first | rfl | simp only [reduceCtorEq, Nat.reduceEqDiff, ak, akF]) (impl_SpanAdd.tri (encL c31 t7.1) 0 t7.1 (Vw.whole c31_w t7.1) t7.2.1 t7.2.2 _ h26) (by first | rfl | simp only [reduceCtorEq, Nat.reduceEqDiff, ak, akF]) (by simp [bkOk2, memK]) (fun hl26 => ?_)
    refine call_st (s4 := [(.arg 0, ⟨.fz, 1, cs0⟩), (.tmp 41 0, ⟨.lst, 2, encL c31 t7.1⟩), (.tmp 4 0, ⟨.box, 0, [.sc (.int .u64 t7.2.1), .sc (.int .u64 t7.2.2)]⟩), (.tmp 47 0, ⟨.lst, 2, encL c31 t11.1⟩), (.tmp 53 0, ⟨.lst, 2, encL c31 t15.1⟩), (.tmp 59 0, ⟨.lst, 2, encL c31 t19.1⟩), (.tmp 64 0, ⟨.lst, 2, encL c31 t7.1⟩), (.tmp 12 0, ⟨.box, 0, [.sc (.int .u64 t7.2.1), .sc (.int .u64 t7.2.2)]⟩), (.tmp 70 0, ⟨.lst, 2, encL c31 t25.1⟩)]) (m1' := []) (m2' := []) (v' := .tup [(false, [.ref (.tmp 70 0) [] 0 t25.1.length]), (false, [.sc (.int .i64 t25.2)])]) (Sto.mapN_killNil _ _) (mrgL_fz (mrgL_nil' _ _ _) rfl (by first | rfl | simp only [reduceCtorEq, Nat.reduceEqDiff, ak]) rfl (by intro R hR hh; cases hR; cases hh.2)) (by rfl) (mapT_killNil _ _) (by rfl) (by rfl) (by first | rfl | simp only [reduceCtorEq, Nat.reduceEqDiff, ak, akF, Nat.zero_add, List.append_nil]) ?_
    simp +decide only [Nat.reduceAdd, Nat.reduceMul, Int.reduceToNat, ak]
    refine hJ24 _ ?_
    refine sr_k fun J28 hJ28 => ?_
    simp +decide only [Nat.reduceAdd, Nat.reduceMul, Int.reduceToNat, ak]
    obtain ⟨t29, h30, h⟩ := of_bind h
    refine call_m [(.arg 0, ⟨(.tmp 64 0), [], none, .fz⟩)] (s0 := [(.arg 0, ⟨.fz, 2, encL c31 t7.1⟩)]) (by intro t ht; cases ht; decide) rfl rfl (by first | rfl | simp only [reduceCtorEq, Nat.reduceEqDiff, ak, akF]) (impl_SpanCut.tri (encL c31 t7.1) 0 t7.1 (Vw.whole c31_w t7.1) t7.2.1 t7.2.2 _ h30) (by first | rfl | simp only [reduceCtorEq, Nat.reduceEqDiff, ak, akF]) (by simp [bkOk2, memK]) (fun hl30 => ?_)
    refine call_st (s4 := [(.arg 0, ⟨.fz, 1, cs0⟩), (.tmp 41 0, ⟨.lst, 2, encL c31 t7.1⟩), (.tmp 4 0, ⟨.box, 0, [.sc (.int .u64 t7.2.1), .sc (.int .u64 t7.2.2)]⟩), (.tmp 47 0, ⟨.lst, 2, encL c31 t11.1⟩), (.tmp 53 0, ⟨.lst, 2, encL c31 t15.1⟩), (.tmp 59 0, ⟨.lst, 2, encL c31 t19.1⟩), (.tmp 64 0, ⟨.lst, 2, encL c31 t7.1⟩), (.tmp 12 0, ⟨.box, 0, [.sc (.int .u64 t7.2.1), .sc (.int .u64 t7.2.2)]⟩), (.tmp 70 0, ⟨.lst, 2, encL c31 t25.1⟩), (.tmp 76 0, ⟨.lst, 2, encL c31 t29.1⟩)]) (m1' := []) (m2' := []) (v' := .tup [(false, [.ref (.tmp 76 0) [] 0 t29.1.length]), (false, [.sc (.int .i64 t29.2)])]) (Sto.mapN_killNil _ _) (mrgL_fz (mrgL_nil' _ _ _) rfl (by first | rfl | simp only [reduceCtorEq, Nat.reduceEqDiff, ak]) rfl (by intro R hR hh; cases hR; cases hh.2)) (by rfl) (mapT_killNil _ _) (by rfl) (by rfl) (by first | rfl | simp only [reduceCtorEq, Nat.reduceEqDiff, ak, akF, Nat.zero_add, List.append_nil]) ?_
    simp +decide only [Nat.reduceAdd, Nat.reduceMul, Int.reduceToNat, ak]
    refine hJ28 _ ?_
    refine sr_k fun J32 hJ32 => ?_
    simp +decide only [Nat.reduceAdd, Nat.reduceMul, Int.reduceToNat, ak]
    obtain ⟨t33, h34, h⟩ := of_bind h
    refine call_m [(.arg 0, ⟨(.tmp 64 0), [], none, .fz⟩)] (s0 := [(.arg 0, ⟨.fz, 2, encL c31 t7.1⟩)]) (by intro t ht; cases ht; decide) rfl rfl (by first | rfl | simp only [reduceCtorEq, Nat.reduceEqDiff, ak, akF]) (impl_SpanGaps.tri (encL c31 t7.1) 0 t7.1 (Vw.whole c31_w t7.1) t7.2.1 t7.2.2 _ h34) (by first | rfl | simp only [reduceCtorEq, Nat.reduceEqDiff, ak, akF]) (by simp [bkOk2, memK]) (fun hl34 => ?_)
    refine call_st (s4 := [(.arg 0, ⟨.fz, 1, cs0⟩), (.tmp 41 0, ⟨.lst, 2, encL c31 t7.1⟩), (.tmp 4 0, ⟨.box, 0, [.sc (.int .u64 t7.2.1), .sc (.int .u64 t7.2.2)]⟩), (.tmp 47 0, ⟨.lst, 2, encL c31 t11.1⟩), (.tmp 53 0, ⟨.lst, 2, encL c31 t15.1⟩), (.tmp 59 0, ⟨.lst, 2, encL c31 t19.1⟩), (.tmp 64 0, ⟨.lst, 2, encL c31 t7.1⟩), (.tmp 12 0, ⟨.box, 0, [.sc (.int .u64 t7.2.1), .sc (.int .u64 t7.2.2)]⟩), (.tmp 70 0, ⟨.lst, 2, encL c31 t25.1⟩), (.tmp 76 0, ⟨.lst, 2, encL c31 t29.1⟩), (.tmp 82 0, ⟨.lst, 2, encL c31 t33.1⟩)]) (m1' := []) (m2' := []) (v' := .tup [(false, [.ref (.tmp 82 0) [] 0 t33.1.length]), (false, [.sc (.int .i64 t33.2)])]) (Sto.mapN_killNil _ _) (mrgL_fz (mrgL_nil' _ _ _) rfl (by first | rfl | simp only [reduceCtorEq, Nat.reduceEqDiff, ak]) rfl (by intro R hR hh; cases hR; cases hh.2)) (by rfl) (mapT_killNil _ _) (by rfl) (by rfl) (by first | rfl | simp only [reduceCtorEq, Nat.reduceEqDiff, ak, akF, Nat.zero_add, List.append_nil]) ?_
    simp +decide only [Nat.reduceAdd, Nat.reduceMul, Int.reduceToNat, ak]
    refine hJ32 _ ?_
    refine seq_k fun J36 hJ36 => ?_
    obtain ⟨j37, h38, hn⟩ := of_bind h
    refine seq_j (fun st => st = ⟨[(3, .c (.ref (.tmp 41 0) [] 0 t7.1.length)), (4, .c (.ptr (.tmp 4 0) [] 0)), (6, .c (.sc (.int .i64 t11.2))), (8, .c (.sc (.int .i64 t15.2))), (10, .c (.sc (.int .i64 t19.2))), (13, .c (.ref (.tmp 70 0) [] 0 t25.1.length)), (15, .c (.ref (.tmp 76 0) [] 0 t29.1.length)), (17, .c (.ref (.tmp 82 0) [] 0 t33.1.length)), (97, .c (.sc (.bool j37)))], [(.arg 0, ⟨.fz, 1, cs0⟩), (.tmp 41 0, ⟨.lst, 2, encL c31 t7.1⟩), (.tmp 4 0, ⟨.box, 0, [.sc (.int .u64 t7.2.1), .sc (.int .u64 t7.2.2)]⟩), (.tmp 70 0, ⟨.lst, 2, encL c31 t25.1⟩), (.tmp 76 0, ⟨.lst, 2, encL c31 t29.1⟩), (.tmp 82 0, ⟨.lst, 2, encL c31 t33.1⟩)], [], []⟩) (fun J39 hJ39 => ?_) ?_
    · replace h := h38; clear hn
      refine ga_k fun G40 G40n G40r G40x => ?_
      refine reg_k ?_
      simp +decide only [Nat.reduceAdd, Nat.reduceMul, Int.reduceToNat, ak]
      by_cases c41 : t25.2 ≠ t11.2
      · rw [if_pos c41] at h
        have e42 : decide (t25.2 ≠ t11.2) = true := decide_eq_true c41
        simp +decide only [Nat.reduceAdd, Nat.reduceMul, Int.reduceToNat, ak, e42]
        obtain rfl := Option.some.inj h
        refine G40n _ _ (wk [3, 4, 6, 8, 10, 13, 15, 17, 97] [pI (.arg 0) .fz, pI (.tmp 41 0) .lst, pI (.tmp 4 0) .box, pI (.tmp 70 0) .lst, pI (.tmp 76 0) .lst, pI (.tmp 82 0) .lst] (h0 := by first | rfl | simp +decide only [ak, akF, e42]) (h := by first | rfl | (simp +decide only [ak, akF, e42]; done) | (simp +decide [ak, akF, e42] <;> omega))) (hJ39 _ rfl)
      · rw [if_neg c41] at h
        have e43 : decide (t25.2 ≠ t11.2) = false := decide_eq_false c41
        simp +decide only [Nat.reduceAdd, Nat.reduceMul, Int.reduceToNat, ak, e43]
        by_cases c44 : t29.2 ≠ t15.2
        · rw [if_pos c44] at h
          have e45 : decide (t29.2 ≠ t15.2) = true := decide_eq_true c44
          simp +decide only [Nat.reduceAdd, Nat.reduceMul, Int.reduceToNat, ak, e45]
          obtain rfl := Option.some.inj h
          refine G40n _ _ (wk [3, 4, 6, 8, 10, 13, 15, 17, 97] [pI (.arg 0) .fz, pI (.tmp 41 0) .lst, pI (.tmp 4 0) .box, pI (.tmp 70 0) .lst, pI (.tmp 76 0) .lst, pI (.tmp 82 0) .lst] (h0 := by first | rfl | simp +decide only [ak, akF, e43, e45]) (h := by first | rfl | (simp +decide only [ak, akF, e43, e45]; done) | (simp +decide [ak, akF, e43, e45] <;> omega))) (hJ39 _ rfl)
        · rw [if_neg c44] at h
          have e46 : decide (t29.2 ≠ t15.2) = false := decide_eq_false c44
          simp +decide only [Nat.reduceAdd, Nat.reduceMul, Int.reduceToNat, ak, e46]
          obtain rfl := Option.some.inj h
          refine G40n _ _ (wk [3, 4, 6, 8, 10, 13, 15, 17, 97] [pI (.arg 0) .fz, pI (.tmp 41 0) .lst, pI (.tmp 4 0) .box, pI (.tmp 70 0) .lst, pI (.tmp 76 0) .lst, pI (.tmp 82 0) .lst] (h0 := by first | rfl | simp +decide only [ak, akF, e43, e46]) (h := by first | rfl | (simp +decide only [ak, akF, e43, e46]; done) | (simp +decide [ak, akF, e43, e46] <;> omega))) (hJ39 _ rfl)
    · replace h := hn; clear hn h38
      rintro _ rfl
      refine cond_k (b := j37) rfl (fun c47 => ?_) (fun c47 => ?_)
      · rw [if_pos c47] at h
        refine sr_k fun J48 hJ48 => ?_
        simp +decide only [Nat.reduceAdd, Nat.reduceMul, Int.reduceToNat, ak]
        refine hJ48 _ ?_
        obtain rfl := Option.some.inj h
        refine hKr _ ⟨_, rfl, [], _, rfl, rfl, ?_⟩
        first | rfl | (simp only [reduceCtorEq, Nat.reduceEqDiff, ak, akF]; done) | (simp [reduceCtorEq, Nat.reduceEqDiff, ak, akF] <;> omega)
      · rw [if_neg (Bool.eq_false_iff.1 c47)] at h
        refine hJ36 _ ?_
        refine seq_k fun J49 hJ49 => ?_
        obtain ⟨j50, h51, hn⟩ := of_bind h
        refine seq_j (fun st => st = ⟨[(3, .c (.ref (.tmp 41 0) [] 0 t7.1.length)), (4, .c (.ptr (.tmp 4 0) [] 0)), (6, .c (.sc (.int .i64 t11.2))), (13, .c (.ref (.tmp 70 0) [] 0 t25.1.length)), (15, .c (.ref (.tmp 76 0) [] 0 t29.1.length)), (17, .c (.ref (.tmp 82 0) [] 0 t33.1.length)), (107, .c (.sc (.bool j50)))], [(.arg 0, ⟨.fz, 1, cs0⟩), (.tmp 41 0, ⟨.lst, 2, encL c31 t7.1⟩), (.tmp 4 0, ⟨.box, 0, [.sc (.int .u64 t7.2.1), .sc (.int .u64 t7.2.2)]⟩), (.tmp 70 0, ⟨.lst, 2, encL c31 t25.1⟩), (.tmp 76 0, ⟨.lst, 2, encL c31 t29.1⟩), (.tmp 82 0, ⟨.lst, 2, encL c31 t33.1⟩)], [], []⟩) (fun J52 hJ52 => ?_) ?_
        · replace h := h51; clear hn
          refine ga_k fun G53 G53n G53r G53x => ?_
          refine reg_k ?_
          simp +decide only [Nat.reduceAdd, Nat.reduceMul, Int.reduceToNat, ak]
          by_cases c54 : t11.2 ≠ 0
          · rw [if_pos c54] at h
            have e55 : decide (t11.2 ≠ 0) = true := decide_eq_true c54
            simp +decide only [Nat.reduceAdd, Nat.reduceMul, Int.reduceToNat, ak, e55]
            obtain rfl := Option.some.inj h
            refine G53n _ _ (wk [3, 4, 6, 13, 15, 17, 107] [pI (.arg 0) .fz, pI (.tmp 41 0) .lst, pI (.tmp 4 0) .box, pI (.tmp 70 0) .lst, pI (.tmp 76 0) .lst, pI (.tmp 82 0) .lst] (h0 := by first | rfl | simp +decide only [ak, akF, e55]) (h := by first | rfl | (simp +decide only [ak, akF, e55]; done) | (simp +decide [ak, akF, e55] <;> omega))) (hJ52 _ rfl)
          · rw [if_neg c54] at h
            have e56 : decide (t11.2 ≠ 0) = false := decide_eq_false c54
            simp +decide only [Nat.reduceAdd, Nat.reduceMul, Int.reduceToNat, ak, e56]
            by_cases c57 : t15.2 ≠ 0
            · rw [if_pos c57] at h
              have e58 : decide (t15.2 ≠ 0) = true := decide_eq_true c57
              simp +decide only [Nat.reduceAdd, Nat.reduceMul, Int.reduceToNat, ak, e58]
              obtain rfl := Option.some.inj h
              refine G53n _ _ (wk [3, 4, 6, 13, 15, 17, 107] [pI (.arg 0) .fz, pI (.tmp 41 0) .lst, pI (.tmp 4 0) .box, pI (.tmp 70 0) .lst, pI (.tmp 76 0) .lst, pI (.tmp 82 0) .lst] (h0 := by first | rfl | simp +decide only [ak, akF, e56, e58]) (h := by first | rfl | (simp +decide only [ak, akF, e56, e58]; done) | (simp +decide [ak, akF, e56, e58] <;> omega))) (hJ52 _ rfl)
            · rw [if_neg c57] at h
              have e59 : decide (t15.2 ≠ 0) = false := decide_eq_false c57
              simp +decide only [Nat.reduceAdd, Nat.reduceMul, Int.reduceToNat, ak, e59]
              obtain rfl := Option.some.inj h
              refine G53n _ _ (wk [3, 4, 6, 13, 15, 17, 107] [pI (.arg 0) .fz, pI (.tmp 41 0) .lst, pI (.tmp 4 0) .box, pI (.tmp 70 0) .lst, pI (.tmp 76 0) .lst, pI (.tmp 82 0) .lst] (h0 := by first | rfl | simp +decide only [ak, akF, e56, e59]) (h := by first | rfl | (simp +decide only [ak, akF, e56, e59]; done) | (simp +decide [ak, akF, e56, e59] <;> omega))) (hJ52 _ rfl)
        · replace h := hn; clear hn h51
          rintro _ rfl
          refine cond_k (b := j50) rfl (fun c60 => ?_) (fun c60 => ?_)
          · rw [if_pos c60] at h
            refine sr_k fun J61 hJ61 => ?_
            simp +decide only [Nat.reduceAdd, Nat.reduceMul, Int.reduceToNat, ak]
            by_cases c62 : t11.2 = 0
            · rw [if_pos c62] at h
              have e63 : decide (t11.2 = 0) = true := decide_eq_true c62
              simp +decide only [Nat.reduceAdd, Nat.reduceMul, Int.reduceToNat, ak, e63]
              refine hJ61 _ ?_
              obtain rfl := Option.some.inj h
              refine hKr _ ⟨_, rfl, [], _, rfl, rfl, ?_⟩
              first | rfl | (simp only [reduceCtorEq, Nat.reduceEqDiff, ak, akF, e63]; done) | (simp [reduceCtorEq, Nat.reduceEqDiff, ak, akF, e63] <;> omega)
            · rw [if_neg c62] at h
              have e64 : decide (t11.2 = 0) = false := decide_eq_false c62
              simp +decide only [Nat.reduceAdd, Nat.reduceMul, Int.reduceToNat, ak, e64]
              refine hJ61 _ ?_
              obtain rfl := Option.some.inj h
              refine hKr _ ⟨_, rfl, [], _, rfl, rfl, ?_⟩
              first | rfl | (simp only [reduceCtorEq, Nat.reduceEqDiff, ak, akF, e64]; done) | (simp [reduceCtorEq, Nat.reduceEqDiff, ak, akF, e64] <;> omega)
          · rw [if_neg (Bool.eq_false_iff.1 c60)] at h
            refine hJ49 _ ?_
            refine sr_k fun J65 hJ65 => ?_
            simp +decide only [Nat.reduceAdd, Nat.reduceMul, Int.reduceToNat, ak]
            obtain ⟨t66, h67, h⟩ := of_bind h
            refine call_m [(.arg 0, ⟨(.tmp 70 0), [], none, .fz⟩)] (s0 := [(.arg 0, ⟨.fz, 2, encL c31 t25.1⟩)]) (by intro t ht; cases ht; decide) rfl rfl (by first | rfl | simp only [reduceCtorEq, Nat.reduceEqDiff, ak, akF]) (impl_SpanHas.tri (encL c31 t25.1) 0 t25.1 (Vw.whole c31_w t25.1) t7.2.1 t7.2.2 _ h67) (by first | rfl | simp only [reduceCtorEq, Nat.reduceEqDiff, ak, akF]) (by simp [bkOk2, memK]) (fun hl67 => ?_)
            refine call_st (s4 := [(.arg 0, ⟨.fz, 1, cs0⟩), (.tmp 41 0, ⟨.lst, 2, encL c31 t7.1⟩), (.tmp 4 0, ⟨.box, 0, [.sc (.int .u64 t7.2.1), .sc (.int .u64 t7.2.2)]⟩), (.tmp 70 0, ⟨.lst, 2, encL c31 t25.1⟩), (.tmp 76 0, ⟨.lst, 2, encL c31 t29.1⟩), (.tmp 82 0, ⟨.lst, 2, encL c31 t33.1⟩)]) (m1' := []) (m2' := []) (v' := .tup [(false, [.sc (.int .i64 t66.1)]), (false, [.sc (.int .i64 t66.2)])]) (Sto.mapN_killNil _ _) (mrgL_fz (mrgL_nil' _ _ _) rfl (by first | rfl | simp only [reduceCtorEq, Nat.reduceEqDiff, ak]) rfl (by intro R hR hh; cases hR; cases hh.2)) (by rfl) (mapT_killNil _ _) (by rfl) (by rfl) (by first | rfl | simp only [reduceCtorEq, Nat.reduceEqDiff, ak, akF, Nat.zero_add, List.append_nil]) ?_
            simp +decide only [Nat.reduceAdd, Nat.reduceMul, Int.reduceToNat, ak]
            refine hJ65 _ ?_
            refine sr_k fun J69 hJ69 => ?_
            simp +decide only [Nat.reduceAdd, Nat.reduceMul, Int.reduceToNat, ak]
            obtain ⟨t70, h71, h⟩ := of_bind h
            refine call_m [(.arg 0, ⟨(.tmp 41 0), [], none, .fz⟩)] (s0 := [(.arg 0, ⟨.fz, 2, encL c31 t7.1⟩)]) (by intro t ht; cases ht; decide) rfl rfl (by first | rfl | simp only [reduceCtorEq, Nat.reduceEqDiff, ak, akF]) (impl_SpanSize.tri (encL c31 t7.1) 0 t7.1 (Vw.whole c31_w t7.1) t7.2.1 t7.2.2 _ h71) (by first | rfl | simp only [reduceCtorEq, Nat.reduceEqDiff, ak, akF]) (by simp [bkOk2, memK]) (fun hl71 => ?_)
            refine call_st (s4 := [(.arg 0, ⟨.fz, 1, cs0⟩), (.tmp 41 0, ⟨.lst, 2, encL c31 t7.1⟩), (.tmp 4 0, ⟨.box, 0, [.sc (.int .u64 t7.2.1), .sc (.int .u64 t7.2.2)]⟩), (.tmp 70 0, ⟨.lst, 2, encL c31 t25.1⟩), (.tmp 76 0, ⟨.lst, 2, encL c31 t29.1⟩), (.tmp 82 0, ⟨.lst, 2, encL c31 t33.1⟩)]) (m1' := []) (m2' := []) (v' := .tup [(false, [.sc (.int .u64 t70.1)]), (false, [.sc (.int .i64 t70.2)])]) (Sto.mapN_killNil _ _) (mrgL_fz (mrgL_nil' _ _ _) rfl (by first | rfl | simp only [reduceCtorEq, Nat.reduceEqDiff, ak]) rfl (by intro R hR hh; cases hR; cases hh.2)) (by rfl) (mapT_killNil _ _) (by rfl) (by rfl) (by first | rfl | simp only [reduceCtorEq, Nat.reduceEqDiff, ak, akF, Nat.zero_add, List.append_nil]) ?_
            simp +decide only [Nat.reduceAdd, Nat.reduceMul, Int.reduceToNat, ak]
            refine hJ69 _ ?_
            refine sr_k fun J73 hJ73 => ?_
            simp +decide only [Nat.reduceAdd, Nat.reduceMul, Int.reduceToNat, ak]
            obtain ⟨t74, h75, h⟩ := of_bind h
            refine call_m [(.arg 0, ⟨(.tmp 76 0), [], none, .fz⟩)] (s0 := [(.arg 0, ⟨.fz, 2, encL c31 t29.1⟩)]) (by intro t ht; cases ht; decide) rfl rfl (by first | rfl | simp only [reduceCtorEq, Nat.reduceEqDiff, ak, akF]) (impl_SpanSize.tri (encL c31 t29.1) 0 t29.1 (Vw.whole c31_w t29.1) t7.2.1 t7.2.2 _ h75) (by first | rfl | simp only [reduceCtorEq, Nat.reduceEqDiff, ak, akF]) (by simp [bkOk2, memK]) (fun hl75 => ?_)
            refine call_st (s4 := [(.arg 0, ⟨.fz, 1, cs0⟩), (.tmp 41 0, ⟨.lst, 2, encL c31 t7.1⟩), (.tmp 4 0, ⟨.box, 0, [.sc (.int .u64 t7.2.1), .sc (.int .u64 t7.2.2)]⟩), (.tmp 70 0, ⟨.lst, 2, encL c31 t25.1⟩), (.tmp 76 0, ⟨.lst, 2, encL c31 t29.1⟩), (.tmp 82 0, ⟨.lst, 2, encL c31 t33.1⟩)]) (m1' := []) (m2' := []) (v' := .tup [(false, [.sc (.int .u64 t74.1)]), (false, [.sc (.int .i64 t74.2)])]) (Sto.mapN_killNil _ _) (mrgL_fz (mrgL_nil' _ _ _) rfl (by first | rfl | simp only [reduceCtorEq, Nat.reduceEqDiff, ak]) rfl (by intro R hR hh; cases hR; cases hh.2)) (by rfl) (mapT_killNil _ _) (by rfl) (by rfl) (by first | rfl | simp only [reduceCtorEq, Nat.reduceEqDiff, ak, akF, Nat.zero_add, List.append_nil]) ?_
            simp +decide only [Nat.reduceAdd, Nat.reduceMul, Int.reduceToNat, ak]
            refine hJ73 _ ?_
            refine seq_k fun J77 hJ77 => ?_
            obtain ⟨j78, h79, hn⟩ := of_bind h
            refine seq_j (fun st => st = ⟨[(3, .c (.ref (.tmp 41 0) [] 0 t7.1.length)), (4, .c (.ptr (.tmp 4 0) [] 0)), (6, .c (.sc (.int .i64 t11.2))), (13, .c (.ref (.tmp 70 0) [] 0 t25.1.length)), (17, .c (.ref (.tmp 82 0) [] 0 t33.1.length)), (21, .c (.sc (.int .u64 t70.1))), (150, .c (.sc (.bool j78)))], [(.arg 0, ⟨.fz, 1, cs0⟩), (.tmp 41 0, ⟨.lst, 2, encL c31 t7.1⟩), (.tmp 4 0, ⟨.box, 0, [.sc (.int .u64 t7.2.1), .sc (.int .u64 t7.2.2)]⟩), (.tmp 70 0, ⟨.lst, 2, encL c31 t25.1⟩), (.tmp 82 0, ⟨.lst, 2, encL c31 t33.1⟩)], [], []⟩) (fun J80 hJ80 => ?_) ?_
            · replace h := h79; clear hn
              refine ga_k fun G81 G81n G81r G81x => ?_
              refine reg_k ?_
              simp +decide only [Nat.reduceAdd, Nat.reduceMul, Int.reduceToNat, ak]
              by_cases c82 : t66.2 ≠ 0
              · rw [if_pos c82] at h
                have e83 : decide (t66.2 ≠ 0) = true := decide_eq_true c82
                simp +decide only [Nat.reduceAdd, Nat.reduceMul, Int.reduceToNat, ak, e83]
                obtain rfl := Option.some.inj h
                refine G81n _ _ (wk [3, 4, 6, 13, 17, 21, 150] [pI (.arg 0) .fz, pI (.tmp 41 0) .lst, pI (.tmp 4 0) .box, pI (.tmp 70 0) .lst, pI (.tmp 82 0) .lst] (h0 := by first | rfl | simp +decide only [ak, akF, e83]) (h := by first | rfl | (simp +decide only [ak, akF, e83]; done) | (simp +decide [ak, akF, e83] <;> omega))) (hJ80 _ rfl)
              · rw [if_neg c82] at h
                have e84 : decide (t66.2 ≠ 0) = false := decide_eq_false c82
                simp +decide only [Nat.reduceAdd, Nat.reduceMul, Int.reduceToNat, ak, e84]
                by_cases c85 : t70.2 ≠ 0
                · rw [if_pos c85] at h
                  have e86 : decide (t70.2 ≠ 0) = true := decide_eq_true c85
                  simp +decide only [Nat.reduceAdd, Nat.reduceMul, Int.reduceToNat, ak, e86]
                  obtain rfl := Option.some.inj h
                  refine G81n _ _ (wk [3, 4, 6, 13, 17, 21, 150] [pI (.arg 0) .fz, pI (.tmp 41 0) .lst, pI (.tmp 4 0) .box, pI (.tmp 70 0) .lst, pI (.tmp 82 0) .lst] (h0 := by first | rfl | simp +decide only [ak, akF, e84, e86]) (h := by first | rfl | (simp +decide only [ak, akF, e84, e86]; done) | (simp +decide [ak, akF, e84, e86] <;> omega))) (hJ80 _ rfl)
                · rw [if_neg c85] at h
                  have e87 : decide (t70.2 ≠ 0) = false := decide_eq_false c85
                  simp +decide only [Nat.reduceAdd, Nat.reduceMul, Int.reduceToNat, ak, e87]
                  by_cases c88 : t74.2 ≠ 0
                  · rw [if_pos c88] at h
                    have e89 : decide (t74.2 ≠ 0) = true := decide_eq_true c88
                    simp +decide only [Nat.reduceAdd, Nat.reduceMul, Int.reduceToNat, ak, e89]
                    obtain rfl := Option.some.inj h
                    refine G81n _ _ (wk [3, 4, 6, 13, 17, 21, 150] [pI (.arg 0) .fz, pI (.tmp 41 0) .lst, pI (.tmp 4 0) .box, pI (.tmp 70 0) .lst, pI (.tmp 82 0) .lst] (h0 := by first | rfl | simp +decide only [ak, akF, e84, e87, e89]) (h := by first | rfl | (simp +decide only [ak, akF, e84, e87, e89]; done) | (simp +decide [ak, akF, e84, e87, e89] <;> omega))) (hJ80 _ rfl)
                  · rw [if_neg c88] at h
                    have e90 : decide (t74.2 ≠ 0) = false := decide_eq_false c88
                    simp +decide only [Nat.reduceAdd, Nat.reduceMul, Int.reduceToNat, ak, e90]
                    by_cases c91 : t66.1 ≠ 1
                    · rw [if_pos c91] at h
                      have e92 : decide (t66.1 ≠ 1) = true := decide_eq_true c91
                      simp +decide only [Nat.reduceAdd, Nat.reduceMul, Int.reduceToNat, ak, e92]
                      obtain rfl := Option.some.inj h
                      refine G81n _ _ (wk [3, 4, 6, 13, 17, 21, 150] [pI (.arg 0) .fz, pI (.tmp 41 0) .lst, pI (.tmp 4 0) .box, pI (.tmp 70 0) .lst, pI (.tmp 82 0) .lst] (h0 := by first | rfl | simp +decide only [ak, akF, e84, e87, e90, e92]) (h := by first | rfl | (simp +decide only [ak, akF, e84, e87, e90, e92]; done) | (simp +decide [ak, akF, e84, e87, e90, e92] <;> omega))) (hJ80 _ rfl)
                    · rw [if_neg c91] at h
                      have e93 : decide (t66.1 ≠ 1) = false := decide_eq_false c91
                      simp +decide only [Nat.reduceAdd, Nat.reduceMul, Int.reduceToNat, ak, e93]
                      obtain rfl := Option.some.inj h
                      refine G81n _ _ (wk [3, 4, 6, 13, 17, 21, 150] [pI (.arg 0) .fz, pI (.tmp 41 0) .lst, pI (.tmp 4 0) .box, pI (.tmp 70 0) .lst, pI (.tmp 82 0) .lst] (h0 := by first | rfl | simp +decide only [ak, akF, e84, e87, e90, e93]) (h := by first | rfl | (simp +decide only [ak, akF, e84, e87, e90, e93]; done) | (simp +decide [ak, akF, e84, e87, e90, e93] <;> omega))) (hJ80 _ rfl)
            · replace h := hn; clear hn h79
              rintro _ rfl
              refine cond_k (b := j78) rfl (fun c94 => ?_) (fun c94 => ?_)
              · rw [if_pos c94] at h
                refine sr_k fun J95 hJ95 => ?_
                simp +decide only [Nat.reduceAdd, Nat.reduceMul, Int.reduceToNat, ak]
                refine hJ95 _ ?_
                obtain rfl := Option.some.inj h
                refine hKr _ ⟨_, rfl, [], _, rfl, rfl, ?_⟩
                first | rfl | (simp only [reduceCtorEq, Nat.reduceEqDiff, ak, akF]; done) | (simp [reduceCtorEq, Nat.reduceEqDiff, ak, akF] <;> omega)
              · rw [if_neg (Bool.eq_false_iff.1 c94)] at h
                refine hJ77 _ ?_
                refine sr_k fun J96 hJ96 => ?_
                simp +decide only [Nat.reduceAdd, Nat.reduceMul, Int.reduceToNat, ak]
                refine hJ96 _ ?_
                refine sr_k fun J97 hJ97 => ?_
                simp +decide only [Nat.reduceAdd, Nat.reduceMul, Int.reduceToNat, ak]
                refine hJ97 _ ?_
                refine sr_k fun J98 hJ98 => ?_
                simp +decide only [Nat.reduceAdd, Nat.reduceMul, Int.reduceToNat, ak]
                refine hJ98 _ ?_
                refine seq_k fun J99 hJ99 => ?_
                refine sr_k fun J100 hJ100 => ?_
                simp +decide only [Nat.reduceAdd, Nat.reduceMul, Int.reduceToNat, ak]
                refine hJ100 _ ?_
                refine block_k fun B101 B101n B101x B101r B101j => ?_
                refine gh_k (st' := ⟨[(3, .c (.ref (.tmp 41 0) [] 0 t7.1.length)), (4, .c (.ptr (.tmp 4 0) [] 0)), (6, .c (.sc (.int .i64 t11.2))), (13, .c (.ref (.tmp 70 0) [] 0 t25.1.length)), (17, .c (.ref (.tmp 82 0) [] 0 t33.1.length)), (21, .c (.sc (.int .u64 t70.1))), (25, .c (.sc (.int .u64 0))), (26, .c (.ref (.tmp 70 0) [] 0 t25.1.length)), (27, .c (.ref (.tmp 41 0) [] 0 t7.1.length)), (28, .c (.sc (.int .i64 0)))], [(.arg 0, ⟨.fz, 1, cs0⟩), (.tmp 41 0, ⟨.lst, 2, encL c31 t7.1⟩), (.tmp 4 0, ⟨.box, 0, [.sc (.int .u64 t7.2.1), .sc (.int .u64 t7.2.2)]⟩), (.tmp 70 0, ⟨.lst, 2, encL c31 t25.1⟩), (.tmp 82 0, ⟨.lst, 2, encL c31 t33.1⟩)], [], []⟩) (wk [3, 4, 6, 13, 17, 21, 25, 26, 27, 28] [pI (.arg 0) .fz, pI (.tmp 41 0) .lst, pI (.tmp 4 0) .box, pI (.tmp 70 0) .lst, pI (.tmp 82 0) .lst] (h := by first | rfl | (simp +decide only [ak, akF]; done) | (simp +decide [ak, akF] <;> omega))) ?_
                rw [e_loop]
                refine loop_unroll (ga_k fun P0 P0n P0r P0x => ?_)
                unfold C4_l0
                refine seq_k fun J102 hJ102 => ?_
                refine sr_k fun J103 hJ103 => ?_
                simp +decide only [Nat.reduceAdd, Nat.reduceMul, Int.reduceToNat, ak]
                refine hJ103 _ ?_
                refine cond_k (b := decide (0 < (t33.1.length : Int))) rfl (fun c104 => ?_) (fun c104 => ?_)
                · replace c104 := of_decide_eq_true c104; rw [if_pos c104] at h
                  refine hJ102 _ ?_
                  refine seq_k fun J105 hJ105 => ?_
                  refine block_k fun B106 B106n B106x B106r B106j => ?_
                  refine sd_k fun J107 hJ107 => ?_
                  obtain ⟨b108, h⟩ := of_guard h
                  have g109 : 1 ≤ (encL c31 t33.1).length := (by have := (Vw.whole c31_w t33.1).len_le b108.1 b108.2 (j := 1) (by decide); first | exact this | simpa using this)
                  have g110 : (encL c31 t33.1)[1]? = some (.sc (.int .u64 ((rd z31 t33.1 0).f1))) := (by have := (Vw.whole c31_w t33.1).get z31 1 b108.1 b108.2 (by decide); first | exact this | simpa using this)
                  have g111 : 0 ≤ (encL c31 t33.1).length := (by have := (Vw.whole c31_w t33.1).len_le b108.1 b108.2 (j := 0) (by decide); first | exact this | simpa using this)
                  have g112 : (encL c31 t33.1)[0]? = some (.sc (.int .u64 ((rd z31 t33.1 0).f0))) := (by have := (Vw.whole c31_w t33.1).get z31 0 b108.1 b108.2 (by decide); first | exact this | simpa using this)
                  simp +decide only [Nat.reduceAdd, Nat.reduceMul, Int.reduceToNat, ak, b108, g109, g110, g111, g112]
                  refine hJ107 _ ?_
                  refine sr_k fun J113 hJ113 => ?_
                  simp +decide only [Nat.reduceAdd, Nat.reduceMul, Int.reduceToNat, ak]
                  refine hJ113 _ ?_
                  refine sr_k fun J114 hJ114 => ?_
                  have g115 : (List.drop 0 (encL c31 t33.1)).take 2 = [.sc (.int .u64 ((rd z31 t33.1 0).f0)), .sc (.int .u64 ((rd z31 t33.1 0).f1))] := by have := (Vw.whole c31_w t33.1).stretch z31 b108.1 b108.2; first | exact this | simpa using this
                  have g116 : (encL c31 t33.1).take 2 = [.sc (.int .u64 ((rd z31 t33.1 0).f0)), .sc (.int .u64 ((rd z31 t33.1 0).f1))] := by have := (Vw.whole c31_w t33.1).stretch z31 b108.1 b108.2; first | exact this | simpa using this
                  simp +decide only [Nat.reduceAdd, Nat.reduceMul, Int.reduceToNat, ak, b108, g115, g116]
                  obtain ⟨t117, h118, h⟩ := of_bind h
                  refine call_m [(.arg 0, ⟨(.tmp 70 0), [], none, .fz⟩)] (s0 := [(.arg 0, ⟨.fz, 2, encL c31 t25.1⟩)]) (by intro t ht; cases ht; decide) rfl rfl (by first | rfl | simp only [reduceCtorEq, Nat.reduceEqDiff, ak, akF, b108, g109, g110, g111, g112, g115, g116]) (impl_SpanCut.tri (encL c31 t25.1) 0 t25.1 (Vw.whole c31_w t25.1) ((rd z31 t33.1 0).f0) ((rd z31 t33.1 0).f1) _ h118) (by first | rfl | simp only [reduceCtorEq, Nat.reduceEqDiff, ak, akF]) (by simp [bkOk2, memK]) (fun hl118 => ?_)
                  refine call_st (s4 := [(.arg 0, ⟨.fz, 1, cs0⟩), (.tmp 41 0, ⟨.lst, 2, encL c31 t7.1⟩), (.tmp 4 0, ⟨.box, 0, [.sc (.int .u64 t7.2.1), .sc (.int .u64 t7.2.2)]⟩), (.tmp 70 0, ⟨.lst, 2, encL c31 t25.1⟩), (.tmp 82 0, ⟨.lst, 2, encL c31 t33.1⟩), (.tmp 178 0, ⟨.lst, 2, encL c31 t117.1⟩)]) (m1' := []) (m2' := []) (v' := .tup [(false, [.ref (.tmp 178 0) [] 0 t117.1.length]), (false, [.sc (.int .i64 t117.2)])]) (Sto.mapN_killNil _ _) (mrgL_fz (mrgL_nil' _ _ _) rfl (by first | rfl | simp only [reduceCtorEq, Nat.reduceEqDiff, ak, b108, g109, g110, g111, g112, g115, g116]) rfl (by intro R hR hh; cases hR; cases hh.2)) (by rfl) (mapT_killNil _ _) (by rfl) (by rfl) (by first | rfl | simp only [reduceCtorEq, Nat.reduceEqDiff, ak, akF, Nat.zero_add, List.append_nil, b108]) ?_
                  simp +decide only [Nat.reduceAdd, Nat.reduceMul, Int.reduceToNat, ak]
                  refine hJ114 _ ?_
                  refine sr_k fun J120 hJ120 => ?_
                  simp +decide only [Nat.reduceAdd, Nat.reduceMul, Int.reduceToNat, ak, b108, g115, g116]
                  obtain ⟨t121, h122, h⟩ := of_bind h
                  refine call_m [(.arg 0, ⟨(.tmp 41 0), [], none, .fz⟩)] (s0 := [(.arg 0, ⟨.fz, 2, encL c31 t7.1⟩)]) (by intro t ht; cases ht; decide) rfl rfl (by first | rfl | simp only [reduceCtorEq, Nat.reduceEqDiff, ak, akF, b108, g109, g110, g111, g112, g115, g116]) (impl_SpanAdd.tri (encL c31 t7.1) 0 t7.1 (Vw.whole c31_w t7.1) ((rd z31 t33.1 0).f0) ((rd z31 t33.1 0).f1) _ h122) (by first | rfl | simp only [reduceCtorEq, Nat.reduceEqDiff, ak, akF]) (by simp [bkOk2, memK]) (fun hl122 => ?_)
                  refine call_st (s4 := [(.arg 0, ⟨.fz, 1, cs0⟩), (.tmp 41 0, ⟨.lst, 2, encL c31 t7.1⟩), (.tmp 4 0, ⟨.box, 0, [.sc (.int .u64 t7.2.1), .sc (.int .u64 t7.2.2)]⟩), (.tmp 70 0, ⟨.lst, 2, encL c31 t25.1⟩), (.tmp 82 0, ⟨.lst, 2, encL c31 t33.1⟩), (.tmp 178 0, ⟨.lst, 2, encL c31 t117.1⟩), (.tmp 187 0, ⟨.lst, 2, encL c31 t121.1⟩)]) (m1' := []) (m2' := []) (v' := .tup [(false, [.ref (.tmp 187 0) [] 0 t121.1.length]), (false, [.sc (.int .i64 t121.2)])]) (Sto.mapN_killNil _ _) (mrgL_fz (mrgL_nil' _ _ _) rfl (by first | rfl | simp only [reduceCtorEq, Nat.reduceEqDiff, ak, b108, g109, g110, g111, g112, g115, g116]) rfl (by intro R hR hh; cases hR; cases hh.2)) (by rfl) (mapT_killNil _ _) (by rfl) (by rfl) (by first | rfl | simp only [reduceCtorEq, Nat.reduceEqDiff, ak, akF, Nat.zero_add, List.append_nil, b108]) ?_
                  simp +decide only [Nat.reduceAdd, Nat.reduceMul, Int.reduceToNat, ak]
                  refine hJ120 _ ?_
                  obtain ⟨j124, h125, hn⟩ := of_bind h
                  refine seq_j (fun st => st = ⟨[(3, .c (.ref (.tmp 41 0) [] 0 t7.1.length)), (4, .c (.ptr (.tmp 4 0) [] 0)), (6, .c (.sc (.int .i64 t11.2))), (13, .c (.ref (.tmp 70 0) [] 0 t25.1.length)), (17, .c (.ref (.tmp 82 0) [] 0 t33.1.length)), (21, .c (.sc (.int .u64 t70.1))), (25, .c (.sc (.int .u64 (IntKind.u64.wrap ((IntKind.u64.wrap (0 + ((rd z31 t33.1 0).f1))) - ((rd z31 t33.1 0).f0)))))), (26, .c (.ref (.tmp 178 0) [] 0 t117.1.length)), (27, .c (.ref (.tmp 187 0) [] 0 t121.1.length)), (28, .c (.sc (.int .i64 0))), (195, .c (.sc (.bool j124)))], [(.arg 0, ⟨.fz, 1, cs0⟩), (.tmp 41 0, ⟨.lst, 2, encL c31 t7.1⟩), (.tmp 4 0, ⟨.box, 0, [.sc (.int .u64 t7.2.1), .sc (.int .u64 t7.2.2)]⟩), (.tmp 70 0, ⟨.lst, 2, encL c31 t25.1⟩), (.tmp 82 0, ⟨.lst, 2, encL c31 t33.1⟩), (.tmp 178 0, ⟨.lst, 2, encL c31 t117.1⟩), (.tmp 187 0, ⟨.lst, 2, encL c31 t121.1⟩)], [], []⟩) (fun J126 hJ126 => ?_) ?_
                  · replace h := h125; clear hn
                    refine ga_k fun G127 G127n G127r G127x => ?_
                    refine reg_k ?_
                    simp +decide only [Nat.reduceAdd, Nat.reduceMul, Int.reduceToNat, ak]
                    by_cases c128 : t117.2 ≠ 0
                    · rw [if_pos c128] at h
                      have e129 : decide (t117.2 ≠ 0) = true := decide_eq_true c128
                      simp +decide only [Nat.reduceAdd, Nat.reduceMul, Int.reduceToNat, ak, e129]
                      obtain rfl := Option.some.inj h
                      refine G127n _ _ (wk [3, 4, 6, 13, 17, 21, 25, 26, 27, 28, 195] [pI (.arg 0) .fz, pI (.tmp 41 0) .lst, pI (.tmp 4 0) .box, pI (.tmp 70 0) .lst, pI (.tmp 82 0) .lst, pI (.tmp 178 0) .lst, pI (.tmp 187 0) .lst] (h0 := by first | rfl | simp +decide only [ak, akF, b108, e129]) (h := by first | rfl | (simp +decide only [ak, akF, b108, e129]; done) | (simp +decide [ak, akF, b108, e129] <;> omega))) (hJ126 _ rfl)
                    · rw [if_neg c128] at h
                      have e130 : decide (t117.2 ≠ 0) = false := decide_eq_false c128
                      simp +decide only [Nat.reduceAdd, Nat.reduceMul, Int.reduceToNat, ak, e130]
                      obtain rfl := Option.some.inj h
                      refine G127n _ _ (wk [3, 4, 6, 13, 17, 21, 25, 26, 27, 28, 195] [pI (.arg 0) .fz, pI (.tmp 41 0) .lst, pI (.tmp 4 0) .box, pI (.tmp 70 0) .lst, pI (.tmp 82 0) .lst, pI (.tmp 178 0) .lst, pI (.tmp 187 0) .lst] (h0 := by first | rfl | simp +decide only [ak, akF, b108, e130]) (h := by first | rfl | (simp +decide only [ak, akF, b108, e130]; done) | (simp +decide [ak, akF, b108, e130] <;> omega))) (hJ126 _ rfl)
                  · replace h := hn; clear hn h125
                    rintro _ rfl
                    refine cond_k (b := j124) rfl (fun c131 => ?_) (fun c131 => ?_)
                    · rw [if_pos c131] at h
                      refine sr_k fun J132 hJ132 => ?_
                      simp +decide only [Nat.reduceAdd, Nat.reduceMul, Int.reduceToNat, ak]
                      by_cases c133 : t11.2 = 0
                      · rw [if_pos c133] at h
                        have e134 : decide (t11.2 = 0) = true := decide_eq_true c133
                        simp +decide only [Nat.reduceAdd, Nat.reduceMul, Int.reduceToNat, ak, e134]
                        refine hJ132 _ ?_
                        refine gh_k (st' := ⟨[(2, .c (.sc (.bool (decide ((t7.1.length : Int) > 980)))))], [(.arg 0, ⟨.fz, 1, cs0⟩)], [], []⟩) (wk [2] [pI (.arg 0) .fz] (h0 := by first | rfl | simp +decide only [ak, akF, b108, e134]) (h := by first | rfl | (simp +decide only [ak, akF, b108, e134]; done) | (simp +decide [ak, akF, b108, e134] <;> omega))) ?_
                        refine B106r _ ?_
                        refine P0r _ ?_
                        refine B101r _ ?_
                        obtain rfl := Option.some.inj h
                        refine hKr _ ⟨_, rfl, [], _, rfl, rfl, ?_⟩
                        first | rfl | (simp only [reduceCtorEq, Nat.reduceEqDiff, ak, akF, b108, e134]; done) | (simp [reduceCtorEq, Nat.reduceEqDiff, ak, akF, b108, e134] <;> omega)
                      · rw [if_neg c133] at h
                        have e135 : decide (t11.2 = 0) = false := decide_eq_false c133
                        simp +decide only [Nat.reduceAdd, Nat.reduceMul, Int.reduceToNat, ak, e135]
                        refine hJ132 _ ?_
                        refine gh_k (st' := ⟨[(2, .c (.sc (.bool false)))], [(.arg 0, ⟨.fz, 1, cs0⟩)], [], []⟩) (wk [2] [pI (.arg 0) .fz] (h0 := by first | rfl | simp +decide only [ak, akF, b108, e135]) (h := by first | rfl | (simp +decide only [ak, akF, b108, e135]; done) | (simp +decide [ak, akF, b108, e135] <;> omega))) ?_
                        refine B106r _ ?_
                        refine P0r _ ?_
                        refine B101r _ ?_
                        obtain rfl := Option.some.inj h
                        refine hKr _ ⟨_, rfl, [], _, rfl, rfl, ?_⟩
                        first | rfl | (simp only [reduceCtorEq, Nat.reduceEqDiff, ak, akF, b108, e135]; done) | (simp [reduceCtorEq, Nat.reduceEqDiff, ak, akF, b108, e135] <;> omega)
                    · rw [if_neg (Bool.eq_false_iff.1 c131)] at h
                      refine B106n _ ?_
                      refine hJ105 _ ?_
                      refine reg_k ?_
                      simp +decide only [Nat.reduceAdd, Nat.reduceMul, Int.reduceToNat, ak]
                      obtain ⟨y169, h170, h⟩ := of_bind h
                      refine P0n _ ⟨[(3, .c (.ref (.tmp 41 0) [] 0 t7.1.length)), (4, .c (.ptr (.tmp 4 0) [] 0)), (6, .c (.sc (.int .i64 t11.2))), (13, .c (.ref (.tmp 70 0) [] 0 t25.1.length)), (17, .c (.ref (.tmp 82 0) [] 0 t33.1.length)), (21, .c (.sc (.int .u64 t70.1))), (25, .c (.sc (.int .u64 (IntKind.u64.wrap ((IntKind.u64.wrap (0 + ((rd z31 t33.1 0).f1))) - ((rd z31 t33.1 0).f0)))))), (26, .c (.ref (.tmp 178 50) [] 0 t117.1.length)), (27, .c (.ref (.tmp 187 50) [] 0 t121.1.length)), (28, .c (.sc (.int .i64 (IntKind.i64.wrap (0 + 1)))))], [(.arg 0, ⟨.fz, 1, cs0⟩), (.tmp 41 0, ⟨.lst, 2, encL c31 t7.1⟩), (.tmp 4 0, ⟨.box, 0, [.sc (.int .u64 t7.2.1), .sc (.int .u64 t7.2.2)]⟩), (.tmp 70 0, ⟨.lst, 2, encL c31 t25.1⟩), (.tmp 82 0, ⟨.lst, 2, encL c31 t33.1⟩), (.tmp 178 50, ⟨.lst, 2, encL c31 t117.1⟩), (.tmp 187 50, ⟨.lst, 2, encL c31 t121.1⟩)], [], []⟩ (wk [3, 4, 6, 13, 17, 21, 25, 26, 27, 28] [pI (.arg 0) .fz, pI (.tmp 41 0) .lst, pI (.tmp 4 0) .box, pI (.tmp 70 0) .lst, pI (.tmp 82 0) .lst, pN (.tmp 178 50) (.tmp 178 0) .lst, pN (.tmp 187 50) (.tmp 187 0) .lst] (h0 := by first | rfl | simp +decide only [ak, akF, b108]) (h := by first | rfl | (simp +decide only [ak, akF, b108]; done) | (simp +decide [ak, akF, b108] <;> omega))) ?_
                      refine laws_FnSpans.l0_walk cs0 o0 l0 hv0 t11.2 t70.1 t7.1 t7.2.1 t7.2.2 t25.1 t33.1 (IntKind.u64.wrap ((IntKind.u64.wrap (0 + ((rd z31 t33.1 0).f1))) - ((rd z31 t33.1 0).f0))) (IntKind.i64.wrap (0 + 1)) t117.1 t121.1 _ h170 _ ?_ ?_
                      · rintro x171 rfl
                        dsimp only at h
                        refine B101x _ ?_
                        refine hJ99 _ ?_
                        refine seq_k fun J172 hJ172 => ?_
                        refine sr_k fun J173 hJ173 => ?_
                        simp +decide only [Nat.reduceAdd, Nat.reduceMul, Int.reduceToNat, ak]
                        refine hJ173 _ ?_
                        refine block_k fun B174 B174n B174x B174r B174j => ?_
                        obtain ⟨y189, h190, h⟩ := of_bind h
                        refine gh_k (wk [3, 4, 13, 21, 25, 26, 27, 31] [pI (.arg 0) .fz, pI (.tmp 41 0) .lst, pI (.tmp 4 0) .box, pI (.tmp 70 0) .lst, pI (.tmp 178 50) .lst, pI (.tmp 187 50) .lst]) ?_
                        rw [e_loop]
                        refine laws_FnSpans.l1_walk cs0 o0 l0 hv0 t70.1 x171.1 t7.1 t7.2.1 t7.2.2 t25.1 x171.2.1 x171.2.2 0 _ h190 _ ?_ ?_
                        · rintro x191 rfl
                          dsimp only at h
                          refine B174x _ ?_
                          refine hJ172 _ ?_
                          refine sr_k fun J192 hJ192 => ?_
                          simp +decide only [Nat.reduceAdd, Nat.reduceMul, Int.reduceToNat, ak]
                          obtain ⟨t193, h194, h⟩ := of_bind h
                          refine call_m [(.arg 0, ⟨(.tmp 41 0), [], none, .fz⟩)] (s0 := [(.arg 0, ⟨.fz, 2, encL c31 t7.1⟩)]) (by intro t ht; cases ht; decide) rfl rfl (by first | rfl | simp only [reduceCtorEq, Nat.reduceEqDiff, ak, akF, b108, g109, g110, g111, g112, g115, g116]) (impl_SpanHas.tri (encL c31 t7.1) 0 t7.1 (Vw.whole c31_w t7.1) t7.2.1 t7.2.2 _ h194) (by first | rfl | simp only [reduceCtorEq, Nat.reduceEqDiff, ak, akF]) (by simp [bkOk2, memK]) (fun hl194 => ?_)
                          refine call_st (s4 := [(.arg 0, ⟨.fz, 1, cs0⟩), (.tmp 41 0, ⟨.lst, 2, encL c31 t7.1⟩), (.tmp 4 0, ⟨.box, 0, [.sc (.int .u64 t7.2.1), .sc (.int .u64 t7.2.2)]⟩), (.tmp 70 0, ⟨.lst, 2, encL c31 t25.1⟩), (.tmp 178 50, ⟨.lst, 2, encL c31 x171.2.1⟩), (.tmp 187 50, ⟨.lst, 2, encL c31 x171.2.2⟩)]) (m1' := []) (m2' := []) (v' := .tup [(false, [.sc (.int .i64 t193.1)]), (false, [.sc (.int .i64 t193.2)])]) (Sto.mapN_killNil _ _) (mrgL_fz (mrgL_nil' _ _ _) rfl (by first | rfl | simp only [reduceCtorEq, Nat.reduceEqDiff, ak, b108, g109, g110, g111, g112, g115, g116]) rfl (by intro R hR hh; cases hR; cases hh.2)) (by rfl) (mapT_killNil _ _) (by rfl) (by rfl) (by first | rfl | simp only [reduceCtorEq, Nat.reduceEqDiff, ak, akF, Nat.zero_add, List.append_nil, b108]) ?_
                          simp +decide only [Nat.reduceAdd, Nat.reduceMul, Int.reduceToNat, ak]
                          refine hJ192 _ ?_
                          refine sr_k fun J196 hJ196 => ?_
                          simp +decide only [Nat.reduceAdd, Nat.reduceMul, Int.reduceToNat, ak]
                          by_cases c197 : IntKind.u64.wrap (t70.1 + x171.1) = IntKind.u64.wrap (t7.2.2 - t7.2.1)
                          · rw [if_pos c197] at h
                            have e198 : decide (IntKind.u64.wrap (t70.1 + x171.1) = IntKind.u64.wrap (t7.2.2 - t7.2.1)) = true := decide_eq_true c197
                            simp +decide only [Nat.reduceAdd, Nat.reduceMul, Int.reduceToNat, ak, e198]
                            by_cases c199 : ((decide (t193.1 = 1)) == (decide (x171.1 = 0))) = true
                            · rw [if_pos c199] at h
                              have e200 : ((decide (t193.1 = 1)) == (decide (x171.1 = 0))) = true := c199
                              simp +decide only [Nat.reduceAdd, Nat.reduceMul, Int.reduceToNat, ak, e200]
                              obtain ⟨t201, h202, h⟩ := of_bind h
                              refine call_m [(.arg 0, ⟨(.tmp 178 50), [], none, .fz⟩), (.arg 1, ⟨(.tmp 41 0), [], none, .fz⟩)] (s0 := [(.arg 0, ⟨.fz, 2, encL c31 x171.2.1⟩), (.arg 1, ⟨.fz, 2, encL c31 t7.1⟩)]) (by intro t ht; cases ht; decide) rfl rfl (by first | rfl | simp only [reduceCtorEq, Nat.reduceEqDiff, ak, akF, b108, e198, e200, g109, g110, g111, g112, g115, g116]) (laws_lSpans.tri (encL c31 x171.2.1) 0 x171.2.1 (Vw.whole c31_w x171.2.1) (encL c31 t7.1) 0 t7.1 (Vw.whole c31_w t7.1) _ h202) (by first | rfl | simp only [reduceCtorEq, Nat.reduceEqDiff, ak, akF]) (by simp [bkOk2, memK]) (fun hl202 => ?_)
                              refine call_st (s4 := [(.arg 0, ⟨.fz, 1, cs0⟩), (.tmp 41 0, ⟨.lst, 2, encL c31 t7.1⟩), (.tmp 4 0, ⟨.box, 0, [.sc (.int .u64 t7.2.1), .sc (.int .u64 t7.2.2)]⟩), (.tmp 70 0, ⟨.lst, 2, encL c31 t25.1⟩), (.tmp 178 50, ⟨.lst, 2, encL c31 x171.2.1⟩), (.tmp 187 50, ⟨.lst, 2, encL c31 x171.2.2⟩)]) (m1' := []) (m2' := []) (v' := .c (.sc (.bool t201))) (Sto.mapN_killNil _ _) (mrgL_fz (mrgL_fz (mrgL_nil' _ _ _) rfl (by first | rfl | simp only [reduceCtorEq, Nat.reduceEqDiff, ak, b108, e198, e200, g109, g110, g111, g112, g115, g116]) rfl (by intro R hR hh; cases hR; cases hh.2)) rfl (by first | rfl | simp only [reduceCtorEq, Nat.reduceEqDiff, ak, b108, e198, e200, g109, g110, g111, g112, g115, g116]) rfl (by intro R hR hh; cases hR; cases hh.2)) (by rfl) (mapT_killNil _ _) (by rfl) (by rfl) (by first | rfl | simp only [reduceCtorEq, Nat.reduceEqDiff, ak, akF, Nat.zero_add, List.append_nil, b108, e198, e200]) ?_
                              simp +decide only [Nat.reduceAdd, Nat.reduceMul, Int.reduceToNat, ak]
                              by_cases c204 : t201 = true
                              · rw [if_pos c204] at h
                                have e205 : (t201) = true := c204
                                simp +decide only [Nat.reduceAdd, Nat.reduceMul, Int.reduceToNat, ak, e205]
                                obtain ⟨t206, h207, h⟩ := of_bind h
                                refine call_m [(.arg 0, ⟨(.tmp 187 50), [], none, .fz⟩), (.arg 1, ⟨(.tmp 70 0), [], none, .fz⟩)] (s0 := [(.arg 0, ⟨.fz, 2, encL c31 x171.2.2⟩), (.arg 1, ⟨.fz, 2, encL c31 t25.1⟩)]) (by intro t ht; cases ht; decide) rfl rfl (by first | rfl | simp only [reduceCtorEq, Nat.reduceEqDiff, ak, akF, b108, e198, e200, e205, g109, g110, g111, g112, g115, g116]) (laws_lSpans.tri (encL c31 x171.2.2) 0 x171.2.2 (Vw.whole c31_w x171.2.2) (encL c31 t25.1) 0 t25.1 (Vw.whole c31_w t25.1) _ h207) (by first | rfl | simp only [reduceCtorEq, Nat.reduceEqDiff, ak, akF]) (by simp [bkOk2, memK]) (fun hl207 => ?_)
                                refine call_st (s4 := [(.arg 0, ⟨.fz, 1, cs0⟩), (.tmp 41 0, ⟨.lst, 2, encL c31 t7.1⟩), (.tmp 4 0, ⟨.box, 0, [.sc (.int .u64 t7.2.1), .sc (.int .u64 t7.2.2)]⟩), (.tmp 70 0, ⟨.lst, 2, encL c31 t25.1⟩), (.tmp 178 50, ⟨.lst, 2, encL c31 x171.2.1⟩), (.tmp 187 50, ⟨.lst, 2, encL c31 x171.2.2⟩)]) (m1' := []) (m2' := []) (v' := .c (.sc (.bool t206))) (Sto.mapN_killNil _ _) (mrgL_fz (mrgL_fz (mrgL_nil' _ _ _) rfl (by first | rfl | simp only [reduceCtorEq, Nat.reduceEqDiff, ak, b108, e198, e200, e205, g109, g110, g111, g112, g115, g116]) rfl (by intro R hR hh; cases hR; cases hh.2)) rfl (by first | rfl | simp only [reduceCtorEq, Nat.reduceEqDiff, ak, b108, e198, e200, e205, g109, g110, g111, g112, g115, g116]) rfl (by intro R hR hh; cases hR; cases hh.2)) (by rfl) (mapT_killNil _ _) (by rfl) (by rfl) (by first | rfl | simp only [reduceCtorEq, Nat.reduceEqDiff, ak, akF, Nat.zero_add, List.append_nil, b108, e198, e200, e205]) ?_
                                simp +decide only [Nat.reduceAdd, Nat.reduceMul, Int.reduceToNat, ak]
                                refine hJ196 _ ?_
                                obtain rfl := Option.some.inj h
                                refine hKr _ ⟨_, rfl, [], _, rfl, rfl, ?_⟩
                                first | rfl | (simp only [reduceCtorEq, Nat.reduceEqDiff, ak, akF, b108, e198, e200, e205]; done) | (simp [reduceCtorEq, Nat.reduceEqDiff, ak, akF, b108, e198, e200, e205] <;> omega)
                              · rw [if_neg c204] at h
                                have e209 : (t201) = false := Bool.eq_false_iff.2 c204
                                simp +decide only [Nat.reduceAdd, Nat.reduceMul, Int.reduceToNat, ak, e209]
                                refine hJ196 _ ?_
                                obtain rfl := Option.some.inj h
                                refine hKr _ ⟨_, rfl, [], _, rfl, rfl, ?_⟩
                                first | rfl | (simp only [reduceCtorEq, Nat.reduceEqDiff, ak, akF, b108, e198, e200, e209]; done) | (simp [reduceCtorEq, Nat.reduceEqDiff, ak, akF, b108, e198, e200, e209] <;> omega)
                            · rw [if_neg c199] at h
                              have e210 : ((decide (t193.1 = 1)) == (decide (x171.1 = 0))) = false := Bool.eq_false_iff.2 c199
                              simp +decide only [Nat.reduceAdd, Nat.reduceMul, Int.reduceToNat, ak, e210]
                              refine hJ196 _ ?_
                              obtain rfl := Option.some.inj h
                              refine hKr _ ⟨_, rfl, [], _, rfl, rfl, ?_⟩
                              first | rfl | (simp only [reduceCtorEq, Nat.reduceEqDiff, ak, akF, b108, e198, e210]; done) | (simp [reduceCtorEq, Nat.reduceEqDiff, ak, akF, b108, e198, e210] <;> omega)
                          · rw [if_neg c197] at h
                            have e211 : decide (IntKind.u64.wrap (t70.1 + x171.1) = IntKind.u64.wrap (t7.2.2 - t7.2.1)) = false := decide_eq_false c197
                            simp +decide only [Nat.reduceAdd, Nat.reduceMul, Int.reduceToNat, ak, e211]
                            refine hJ196 _ ?_
                            obtain rfl := Option.some.inj h
                            refine hKr _ ⟨_, rfl, [], _, rfl, rfl, ?_⟩
                            first | rfl | (simp only [reduceCtorEq, Nat.reduceEqDiff, ak, akF, b108, e211]; done) | (simp [reduceCtorEq, Nat.reduceEqDiff, ak, akF, b108, e211] <;> omega)
                        · rintro x191 rfl
                          dsimp only at h
                          refine B174r _ ?_
                          obtain rfl := Option.some.inj h
                          refine hKr _ ⟨_, rfl, [], _, rfl, rfl, ?_⟩
                          first | rfl | (simp only [reduceCtorEq, Nat.reduceEqDiff, ak, akF, b108, e211]; done) | (simp [reduceCtorEq, Nat.reduceEqDiff, ak, akF, b108, e211] <;> omega)
                      · rintro x171 rfl
                        dsimp only at h
                        refine B101r _ ?_
                        obtain rfl := Option.some.inj h
                        refine hKr _ ⟨_, rfl, [], _, rfl, rfl, ?_⟩
                        first | rfl | (simp only [reduceCtorEq, Nat.reduceEqDiff, ak, akF, b108, e211]; done) | (simp [reduceCtorEq, Nat.reduceEqDiff, ak, akF, b108, e211] <;> omega)
                · replace c104 := of_decide_eq_false c104; rw [if_neg c104] at h
                  refine gh_k (st' := ⟨[(3, .c (.ref (.tmp 41 0) [] 0 t7.1.length)), (4, .c (.ptr (.tmp 4 0) [] 0)), (13, .c (.ref (.tmp 70 0) [] 0 t25.1.length)), (21, .c (.sc (.int .u64 t70.1))), (25, .c (.sc (.int .u64 0))), (26, .c (.ref (.tmp 70 0) [] 0 t25.1.length)), (27, .c (.ref (.tmp 41 0) [] 0 t7.1.length))], [(.arg 0, ⟨.fz, 1, cs0⟩), (.tmp 41 0, ⟨.lst, 2, encL c31 t7.1⟩), (.tmp 4 0, ⟨.box, 0, [.sc (.int .u64 t7.2.1), .sc (.int .u64 t7.2.2)]⟩), (.tmp 70 0, ⟨.lst, 2, encL c31 t25.1⟩)], [], []⟩) (wk [3, 4, 13, 21, 25, 26, 27] [pI (.arg 0) .fz, pI (.tmp 41 0) .lst, pI (.tmp 4 0) .box, pI (.tmp 70 0) .lst] (h := by first | rfl | (simp +decide only [ak, akF]; done) | (simp +decide [ak, akF] <;> omega))) ?_
                  refine P0x _ _ ?_
                  refine B101x _ ?_
                  refine hJ99 _ ?_
                  refine seq_k fun J212 hJ212 => ?_
                  refine sr_k fun J213 hJ213 => ?_
                  simp +decide only [Nat.reduceAdd, Nat.reduceMul, Int.reduceToNat, ak]
                  refine hJ213 _ ?_
                  refine block_k fun B214 B214n B214x B214r B214j => ?_
                  obtain ⟨y229, h230, h⟩ := of_bind h
                  refine gh_k (wk [3, 4, 13, 21, 25, 26, 27, 31] [pI (.arg 0) .fz, pI (.tmp 41 0) .lst, pI (.tmp 4 0) .box, pI (.tmp 70 0) .lst]) ?_
                  rw [e_loop]
                  refine laws_FnSpans.l1_1_walk cs0 o0 l0 hv0 t70.1 0 t7.1 t7.2.1 t7.2.2 t25.1 0 _ h230 _ ?_ ?_
                  · rintro x231 rfl
                    dsimp only at h
                    refine B214x _ ?_
                    refine hJ212 _ ?_
                    refine sr_k fun J232 hJ232 => ?_
                    simp +decide only [Nat.reduceAdd, Nat.reduceMul, Int.reduceToNat, ak]
                    obtain ⟨t233, h234, h⟩ := of_bind h
                    refine call_m [(.arg 0, ⟨(.tmp 41 0), [], none, .fz⟩)] (s0 := [(.arg 0, ⟨.fz, 2, encL c31 t7.1⟩)]) (by intro t ht; cases ht; decide) rfl rfl (by first | rfl | simp only [reduceCtorEq, Nat.reduceEqDiff, ak, akF]) (impl_SpanHas.tri (encL c31 t7.1) 0 t7.1 (Vw.whole c31_w t7.1) t7.2.1 t7.2.2 _ h234) (by first | rfl | simp only [reduceCtorEq, Nat.reduceEqDiff, ak, akF]) (by simp [bkOk2, memK]) (fun hl234 => ?_)
                    refine call_st (s4 := [(.arg 0, ⟨.fz, 1, cs0⟩), (.tmp 41 0, ⟨.lst, 2, encL c31 t7.1⟩), (.tmp 4 0, ⟨.box, 0, [.sc (.int .u64 t7.2.1), .sc (.int .u64 t7.2.2)]⟩), (.tmp 70 0, ⟨.lst, 2, encL c31 t25.1⟩)]) (m1' := []) (m2' := []) (v' := .tup [(false, [.sc (.int .i64 t233.1)]), (false, [.sc (.int .i64 t233.2)])]) (Sto.mapN_killNil _ _) (mrgL_fz (mrgL_nil' _ _ _) rfl (by first | rfl | simp only [reduceCtorEq, Nat.reduceEqDiff, ak]) rfl (by intro R hR hh; cases hR; cases hh.2)) (by rfl) (mapT_killNil _ _) (by rfl) (by rfl) (by first | rfl | simp only [reduceCtorEq, Nat.reduceEqDiff, ak, akF, Nat.zero_add, List.append_nil]) ?_
                    simp +decide only [Nat.reduceAdd, Nat.reduceMul, Int.reduceToNat, ak]
                    refine hJ232 _ ?_
                    refine sr_k fun J236 hJ236 => ?_
                    simp +decide only [Nat.reduceAdd, Nat.reduceMul, Int.reduceToNat, ak]
                    by_cases c237 : IntKind.u64.wrap (t70.1 + 0) = IntKind.u64.wrap (t7.2.2 - t7.2.1)
                    · rw [if_pos c237] at h
                      have e238 : decide (IntKind.u64.wrap (t70.1 + 0) = IntKind.u64.wrap (t7.2.2 - t7.2.1)) = true := decide_eq_true c237
                      simp +decide only [Nat.reduceAdd, Nat.reduceMul, Int.reduceToNat, ak, e238]
                      by_cases c239 : ((decide (t233.1 = 1)) == true) = true
                      · rw [if_pos c239] at h
                        have e240 : ((decide (t233.1 = 1)) == true) = true := c239
                        simp +decide only [Nat.reduceAdd, Nat.reduceMul, Int.reduceToNat, ak, e240]
                        obtain ⟨t241, h242, h⟩ := of_bind h
                        refine call_m [(.arg 0, ⟨(.tmp 70 0), [], none, .fz⟩), (.arg 1, ⟨(.tmp 41 0), [], none, .fz⟩)] (s0 := [(.arg 0, ⟨.fz, 2, encL c31 t25.1⟩), (.arg 1, ⟨.fz, 2, encL c31 t7.1⟩)]) (by intro t ht; cases ht; decide) rfl rfl (by first | rfl | simp only [reduceCtorEq, Nat.reduceEqDiff, ak, akF, e238, e240]) (laws_lSpans.tri (encL c31 t25.1) 0 t25.1 (Vw.whole c31_w t25.1) (encL c31 t7.1) 0 t7.1 (Vw.whole c31_w t7.1) _ h242) (by first | rfl | simp only [reduceCtorEq, Nat.reduceEqDiff, ak, akF]) (by simp [bkOk2, memK]) (fun hl242 => ?_)
                        refine call_st (s4 := [(.arg 0, ⟨.fz, 1, cs0⟩), (.tmp 41 0, ⟨.lst, 2, encL c31 t7.1⟩), (.tmp 4 0, ⟨.box, 0, [.sc (.int .u64 t7.2.1), .sc (.int .u64 t7.2.2)]⟩), (.tmp 70 0, ⟨.lst, 2, encL c31 t25.1⟩)]) (m1' := []) (m2' := []) (v' := .c (.sc (.bool t241))) (Sto.mapN_killNil _ _) (mrgL_fz (mrgL_fz (mrgL_nil' _ _ _) rfl (by first | rfl | simp only [reduceCtorEq, Nat.reduceEqDiff, ak, e238, e240]) rfl (by intro R hR hh; cases hR; cases hh.2)) rfl (by first | rfl | simp only [reduceCtorEq, Nat.reduceEqDiff, ak, e238, e240]) rfl (by intro R hR hh; cases hR; cases hh.2)) (by rfl) (mapT_killNil _ _) (by rfl) (by rfl) (by first | rfl | simp only [reduceCtorEq, Nat.reduceEqDiff, ak, akF, Nat.zero_add, List.append_nil, e238, e240]) ?_
                        simp +decide only [Nat.reduceAdd, Nat.reduceMul, Int.reduceToNat, ak]
                        by_cases c244 : t241 = true
                        · rw [if_pos c244] at h
                          have e245 : (t241) = true := c244
                          simp +decide only [Nat.reduceAdd, Nat.reduceMul, Int.reduceToNat, ak, e245]
                          obtain ⟨t246, h247, h⟩ := of_bind h
                          refine call_m [(.arg 0, ⟨(.tmp 41 0), [], none, .fz⟩), (.arg 1, ⟨(.tmp 70 0), [], none, .fz⟩)] (s0 := [(.arg 0, ⟨.fz, 2, encL c31 t7.1⟩), (.arg 1, ⟨.fz, 2, encL c31 t25.1⟩)]) (by intro t ht; cases ht; decide) rfl rfl (by first | rfl | simp only [reduceCtorEq, Nat.reduceEqDiff, ak, akF, e238, e240, e245]) (laws_lSpans.tri (encL c31 t7.1) 0 t7.1 (Vw.whole c31_w t7.1) (encL c31 t25.1) 0 t25.1 (Vw.whole c31_w t25.1) _ h247) (by first | rfl | simp only [reduceCtorEq, Nat.reduceEqDiff, ak, akF]) (by simp [bkOk2, memK]) (fun hl247 => ?_)
                          refine call_st (s4 := [(.arg 0, ⟨.fz, 1, cs0⟩), (.tmp 41 0, ⟨.lst, 2, encL c31 t7.1⟩), (.tmp 4 0, ⟨.box, 0, [.sc (.int .u64 t7.2.1), .sc (.int .u64 t7.2.2)]⟩), (.tmp 70 0, ⟨.lst, 2, encL c31 t25.1⟩)]) (m1' := []) (m2' := []) (v' := .c (.sc (.bool t246))) (Sto.mapN_killNil _ _) (mrgL_fz (mrgL_fz (mrgL_nil' _ _ _) rfl (by first | rfl | simp only [reduceCtorEq, Nat.reduceEqDiff, ak, e238, e240, e245]) rfl (by intro R hR hh; cases hR; cases hh.2)) rfl (by first | rfl | simp only [reduceCtorEq, Nat.reduceEqDiff, ak, e238, e240, e245]) rfl (by intro R hR hh; cases hR; cases hh.2)) (by rfl) (mapT_killNil _ _) (by rfl) (by rfl) (by first | rfl | simp only [reduceCtorEq, Nat.reduceEqDiff, ak, akF, Nat.zero_add, List.append_nil, e238, e240, e245]) ?_
                          simp +decide only [Nat.reduceAdd, Nat.reduceMul, Int.reduceToNat, ak]
                          refine hJ236 _ ?_
                          obtain rfl := Option.some.inj h
                          refine hKr _ ⟨_, rfl, [], _, rfl, rfl, ?_⟩
                          first | rfl | (simp only [reduceCtorEq, Nat.reduceEqDiff, ak, akF, e238, e240, e245]; done) | (simp [reduceCtorEq, Nat.reduceEqDiff, ak, akF, e238, e240, e245] <;> omega)
                        · rw [if_neg c244] at h
                          have e249 : (t241) = false := Bool.eq_false_iff.2 c244
                          simp +decide only [Nat.reduceAdd, Nat.reduceMul, Int.reduceToNat, ak, e249]
                          refine hJ236 _ ?_
                          obtain rfl := Option.some.inj h
                          refine hKr _ ⟨_, rfl, [], _, rfl, rfl, ?_⟩
                          first | rfl | (simp only [reduceCtorEq, Nat.reduceEqDiff, ak, akF, e238, e240, e249]; done) | (simp [reduceCtorEq, Nat.reduceEqDiff, ak, akF, e238, e240, e249] <;> omega)
                      · rw [if_neg c239] at h
                        have e250 : ((decide (t233.1 = 1)) == true) = false := Bool.eq_false_iff.2 c239
                        simp +decide only [Nat.reduceAdd, Nat.reduceMul, Int.reduceToNat, ak, e250]
                        refine hJ236 _ ?_
                        obtain rfl := Option.some.inj h
                        refine hKr _ ⟨_, rfl, [], _, rfl, rfl, ?_⟩
                        first | rfl | (simp only [reduceCtorEq, Nat.reduceEqDiff, ak, akF, e238, e250]; done) | (simp [reduceCtorEq, Nat.reduceEqDiff, ak, akF, e238, e250] <;> omega)
                    · rw [if_neg c237] at h
                      have e251 : decide (IntKind.u64.wrap (t70.1 + 0) = IntKind.u64.wrap (t7.2.2 - t7.2.1)) = false := decide_eq_false c237
                      simp +decide only [Nat.reduceAdd, Nat.reduceMul, Int.reduceToNat, ak, e251]
                      refine hJ236 _ ?_
                      obtain rfl := Option.some.inj h
                      refine hKr _ ⟨_, rfl, [], _, rfl, rfl, ?_⟩
                      first | rfl | (simp only [reduceCtorEq, Nat.reduceEqDiff, ak, akF, e251]; done) | (simp [reduceCtorEq, Nat.reduceEqDiff, ak, akF, e251] <;> omega)
                  · rintro x231 rfl
                    dsimp only at h
                    refine B214r _ ?_
                    obtain rfl := Option.some.inj h
                    refine hKr _ ⟨_, rfl, [], _, rfl, rfl, ?_⟩
                    first | rfl | (simp only [reduceCtorEq, Nat.reduceEqDiff, ak, akF, e251]; done) | (simp [reduceCtorEq, Nat.reduceEqDiff, ak, akF, e251] <;> omega)
end Go.AK
