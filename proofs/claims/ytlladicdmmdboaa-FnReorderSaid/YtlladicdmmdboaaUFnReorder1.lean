-- by a program of this session (wip/ak/pw.py)
import Derived.Test.YtlladicdmmdboaaUFnReorder0
set_option synthInstance.maxSize 20000
set_option synthInstance.maxHeartbeats 400000
set_option maxRecDepth 100000
set_option maxHeartbeats 4000000
set_option linter.unusedVariables false
set_option linter.unusedSimpArgs false
namespace Go.AK
open Go Go.Proofs
/-! ### spec.l5DrawEvents: function 111 -/
def C111_l1 : AC := .seq (.seq (.ga (.reg [.op none (.mv 60 (.tmp 19)), .op none (.mv 61 (.tmp 17)), .op none (.mv 62 (.tmp 18)), .op none (.bin 63 .add (.tmp 61) (.tmp 62)), .op none (.bin 64 .lss (.tmp 60) (.tmp 63)), .op none (.mv 65 (.tmp 64)), .op (some (65, true)) (.mv 66 (.tmp 19)), .op (some (65, true)) (.mv 67 (.tmp 13)), .op (some (65, true)) (.bin 68 .lss (.tmp 66) (.tmp 67)), .op (some (65, true)) (.mv 69 (.tmp 68)), .op (some (69, false)) (.mv 70 (.tmp 4)), .op (some (69, false)) (.un 71 .not (.tmp 70)), .op (some (65, true)) (.pick 72 (.tmp 69) (.const (.bool true)) (.tmp 71)), .op none (.pick 73 (.tmp 65) (.tmp 72) (.const (.bool false))), .keep [0, 1, 2, 3, 4, 11, 12, 13, 14, 16, 17, 18, 19, 73]])) (.cond (.tmp 73) (.skip) (.gh (.exit 2)))) (.seq (.block 3 (.regD (.first (.op none (.faddr 76 2 (.tmp 16))) (.first (.op none (.mv 78 (.tmp 19))) (.pin [7, 6, 5] (.op none (.load 77 false 1 (.tmp 76))) (.alt (.call none (some 79) 115 [.tmp 78]) none (.alt (.op none (.bslice 80 1 [.int .u8 0] 1 [(0, .tmp 79)])) none (.alt (.op none (.app 81 1 1 false (.tmp 77) (.tmp 80))) (some 5) (.first (.op none (.faddr 82 2 (.tmp 16))) (.alt (.op none (.store 1 (.tmp 82) (.tmp 81))) none (.done) (.stop))) (.stop)) (.stop)) (.stop))))) [0, 1, 2, 3, 4, 11, 12, 13, 14, 16, 17, 18, 19])) (.reg [.op none (.mv 74 (.tmp 19)), .op none (.bin 75 .add (.tmp 74) (.const (.int .i64 1))), .op none (.mv 19 (.tmp 75)), .keep [0, 1, 2, 3, 4, 11, 12, 13, 14, 16, 17, 18, 19]]))
def C111_l0 : AC := .seq (.seq (.reg [.op none (.mv 27 (.tmp 14)), .op none (.mv 28 (.tmp 3)), .op none (.bin 29 .lss (.tmp 27) (.tmp 28)), .keep [0, 1, 2, 3, 4, 11, 12, 13, 14, 29]]) (.cond (.tmp 29) (.skip) (.gh (.exit 0)))) (.seq (.block 1 (.seq (.reg [.op none (.mv 32 (.tmp 0)), .call none (some 33) 69 [.tmp 32, .const (.int .i64 100)], .op none (.mv 15 (.tmp 33)), .keep [0, 1, 2, 3, 4, 11, 12, 13, 14, 15]]) (.seq (.reg [.op none (.build 34 [.int .i64 0, .int .u64 0, .slice none 0 0, .int .i64 0] [(0, 1, .const (.int .i64 1))]), .gh, .op none (.alloc 16 [.int .i64 0, .int .u64 0, .slice none 0 0, .int .i64 0]), .gh, .op none (.store 4 (.tmp 16) (.tmp 34)), .keep [0, 1, 2, 3, 4, 11, 12, 13, 14, 15, 16]]) (.seq (.ga (.seq (.reg [.op none (.mv 35 (.tmp 15)), .op none (.bin 36 .lss (.tmp 35) (.const (.int .i64 60))), .keep [0, 1, 2, 3, 4, 11, 12, 13, 14, 15, 16, 36]]) (.cond (.tmp 36) (.seq (.regD (.first (.op none (.faddr 37 3 (.tmp 12))) (.first (.op none (.mv 39 (.tmp 0))) (.first (.op none (.mv 40 (.tmp 2))) (.first (.op none (.bin 41 .add (.tmp 40) (.const (.int .i64 2)))) (.first (.op none (.mv 44 (.tmp 0))) (.pin [10, 9, 6] (.op none (.load 38 false 1 (.tmp 37))) (.alt (.call none (some 42) 69 [.tmp 39, .tmp 41]) none (.pin [10, 9] (.op none (.bin 43 .add (.tmp 38) (.tmp 42))) (.alt (.call none (some 45) 69 [.tmp 44, .const (.int .i64 6)]) none (.pin [10] (.op none (.bin 46 .sub (.tmp 43) (.tmp 45))) (.pin [] (.op none (.mv 17 (.tmp 46))) (.done))) (.stop))) (.stop)))))))) [0, 1, 2, 3, 4, 11, 12, 13, 14, 16, 17]) (.seq (.ga (.seq (.reg [.op none (.mv 47 (.tmp 0)), .call none (some 48) 69 [.tmp 47, .const (.int .i64 2)], .op none (.bin 49 .eql (.tmp 48) (.const (.int .i64 0))), .keep [0, 1, 2, 3, 4, 11, 12, 13, 14, 16, 17, 49]]) (.cond (.tmp 49) (.reg [.call none (some 50) 141 [.tmp 12], .op none (.mv 51 (.tmp 0)), .call none (some 52) 69 [.tmp 51, .const (.int .i64 3)], .op none (.bin 53 .sub (.tmp 50) (.tmp 52)), .op none (.mv 17 (.tmp 53)), .keep [0, 1, 2, 3, 4, 11, 12, 13, 14, 16, 17]]) (.skip)))) (.seq (.ga (.seq (.reg [.op none (.mv 54 (.tmp 17)), .op none (.bin 55 .lss (.tmp 54) (.const (.int .i64 0))), .keep [0, 1, 2, 3, 4, 11, 12, 13, 14, 16, 17, 55]]) (.cond (.tmp 55) (.reg [.op none (.mv 17 (.const (.int .i64 0))), .keep [0, 1, 2, 3, 4, 11, 12, 13, 14, 16, 17]]) (.skip)))) (.seq (.reg [.op none (.mv 56 (.tmp 0)), .call none (some 57) 69 [.tmp 56, .const (.int .i64 12)], .op none (.bin 58 .add (.const (.int .i64 1)) (.tmp 57)), .op none (.mv 18 (.tmp 58)), .keep [0, 1, 2, 3, 4, 11, 12, 13, 14, 16, 17, 18]]) (.seq (.seq (.reg [.op none (.mv 59 (.tmp 17)), .op none (.mv 19 (.tmp 59)), .keep [0, 1, 2, 3, 4, 11, 12, 13, 14, 16, 17, 18, 19]]) (.block 2 (.gh (.loop (.ga C111_l1))))) (.reg [.op none (.mv 83 (.tmp 1)), .op none (.mv 84 (.tmp 17)), .op none (.conv 85 .u64 (.tmp 84)), .op none (.bin 86 .add (.tmp 83) (.tmp 85)), .op none (.faddr 87 1 (.tmp 16)), .op none (.store 1 (.tmp 87) (.tmp 86)), .keep [0, 1, 2, 3, 4, 11, 12, 13, 14, 16]])))))) (.seq (.reg [.op none (.mv 88 (.tmp 15)), .op none (.bin 89 .lss (.tmp 88) (.const (.int .i64 90))), .keep [0, 1, 2, 3, 4, 11, 12, 13, 14, 15, 16, 89]]) (.cond (.tmp 89) (.seq (.reg [.op none (.faddr 90 0 (.tmp 16)), .op none (.store 1 (.tmp 90) (.const (.int .i64 2))), .keep [0, 1, 2, 3, 4, 11, 12, 13, 14, 16]]) (.reg [.op none (.mv 91 (.tmp 0)), .call none (some 92) 69 [.tmp 91, .const (.int .i64 20)], .op none (.bin 93 .sub (.tmp 92) (.const (.int .i64 1))), .op none (.faddr 94 3 (.tmp 16)), .op none (.store 1 (.tmp 94) (.tmp 93)), .keep [0, 1, 2, 3, 4, 11, 12, 13, 14, 16]])) (.seq (.ga (.reg [.op none (.mv 95 (.tmp 15)), .op none (.bin 96 .lss (.tmp 95) (.const (.int .i64 96))), .op none (.mv 97 (.tmp 96)), .op (some (97, true)) (.faddr 98 3 (.tmp 12)), .op (some (97, true)) (.load 99 false 1 (.tmp 98)), .op (some (97, true)) (.mv 100 (.tmp 2)), .op (some (97, true)) (.bin 101 .add (.tmp 99) (.tmp 100)), .op (some (97, true)) (.mv 102 (.tmp 13)), .op (some (97, true)) (.bin 103 .geq (.tmp 101) (.tmp 102)), .op none (.pick 104 (.tmp 97) (.tmp 103) (.const (.bool false))), .op none (.mv 105 (.tmp 104)), .op (some (105, false)) (.mv 106 (.tmp 15)), .op (some (105, false)) (.bin 107 .eql (.tmp 106) (.const (.int .i64 96))), .op none (.pick 108 (.tmp 105) (.const (.bool true)) (.tmp 107)), .keep [0, 1, 2, 3, 4, 11, 12, 13, 14, 16, 108]])) (.cond (.tmp 108) (.seq (.reg [.op none (.faddr 109 0 (.tmp 16)), .op none (.store 1 (.tmp 109) (.const (.int .i64 3))), .keep [0, 1, 2, 3, 4, 11, 12, 13, 14, 16]]) (.reg [.op none (.mv 110 (.tmp 1)), .op none (.mv 111 (.tmp 13)), .op none (.conv 112 .u64 (.tmp 111)), .op none (.bin 113 .add (.tmp 110) (.tmp 112)), .op none (.faddr 114 1 (.tmp 16)), .op none (.store 1 (.tmp 114) (.tmp 113)), .keep [0, 1, 2, 3, 4, 11, 12, 13, 14, 16]])) (.skip)))))))) (.seq (.ga (.seq (.ga (.reg [.op none (.mv 115 (.tmp 4)), .op none (.un 116 .not (.tmp 115)), .op none (.mv 117 (.tmp 116)), .op (some (117, true)) (.mv 118 (.tmp 0)), .call (some (117, true)) (some 119) 69 [.tmp 118, .const (.int .i64 14)], .op (some (117, true)) (.bin 120 .eql (.tmp 119) (.const (.int .i64 0))), .op none (.pick 121 (.tmp 117) (.tmp 120) (.const (.bool false))), .keep [0, 1, 2, 3, 4, 11, 12, 13, 14, 16, 121]])) (.cond (.tmp 121) (.seq (.reg [.op none (.mv 122 (.tmp 0)), .call none (some 123) 69 [.tmp 122, .const (.int .i64 8)], .keep [0, 1, 2, 3, 4, 11, 12, 13, 14, 16, 123]]) (.block 4 (.seq (.reg [.op none (.bin 125 .eql (.tmp 123) (.const (.int .i64 0))), .op none (.mv 124 (.tmp 125)), .keep [0, 1, 2, 3, 4, 11, 12, 13, 14, 16, 123, 124]]) (.cond (.tmp 124) (.reg [.op none (.mv 126 (.tmp 0)), .call none (some 127) 69 [.tmp 126, .const (.int .i64 2)], .op none (.bin 128 .mul (.const (.int .i64 4)) (.tmp 127)), .op none (.faddr 129 0 (.tmp 16)), .op none (.store 1 (.tmp 129) (.tmp 128)), .keep [0, 1, 2, 3, 4, 11, 12, 13, 14, 16]]) (.seq (.reg [.op none (.bin 131 .eql (.tmp 123) (.const (.int .i64 1))), .op none (.mv 130 (.tmp 131)), .keep [0, 1, 2, 3, 4, 11, 12, 13, 14, 16, 123, 130]]) (.cond (.tmp 130) (.reg [.op none (.mv 132 (.tmp 0)), .op none (.mv 133 (.tmp 0)), .call none (some 134) 69 [.tmp 133, .const (.int .i64 2)], .op none (.bin 135 .add (.const (.int .i64 32)) (.tmp 134)), .call none (some 136) 116 [.tmp 132, .tmp 135], .op none (.faddr 137 2 (.tmp 16)), .op none (.store 1 (.tmp 137) (.tmp 136)), .keep [0, 1, 2, 3, 4, 11, 12, 13, 14, 16]]) (.seq (.reg [.op none (.bin 139 .eql (.tmp 123) (.const (.int .i64 2))), .op none (.mv 138 (.tmp 139)), .keep [0, 1, 2, 3, 4, 11, 12, 13, 14, 16, 123, 138]]) (.cond (.tmp 138) (.reg [.op none (.mv 140 (.tmp 0)), .call none (some 141) 69 [.tmp 140, .const (.int .i64 3)], .op none (.conv 142 .u64 (.tmp 141)), .op none (.bin 143 .sub (.const (.int .u64 18446744073709551615)) (.tmp 142)), .op none (.faddr 144 1 (.tmp 16)), .op none (.store 1 (.tmp 144) (.tmp 143)), .keep [0, 1, 2, 3, 4, 11, 12, 13, 14, 16]]) (.seq (.reg [.op none (.bin 146 .eql (.tmp 123) (.const (.int .i64 3))), .op none (.mv 145 (.tmp 146)), .keep [0, 1, 2, 3, 4, 11, 12, 13, 14, 16, 123, 145]]) (.cond (.tmp 145) (.regD (.first (.op none (.mv 148 (.tmp 2))) (.first (.op none (.conv 149 .u64 (.tmp 148))) (.first (.op none (.faddr 151 2 (.tmp 16))) (.first (.op none (.mv 156 (.tmp 0))) (.pin [14, 13, 12, 8, 7, 6] (.op none (.load 152 false 1 (.tmp 151))) (.pin [14, 13, 12, 8, 7] (.op none (.len 153 (.tmp 152))) (.pin [14, 13, 12, 8] (.op none (.conv 154 .u64 (.tmp 153))) (.alt (.call none (some 147) 140 [.tmp 12]) none (.first (.op none (.bin 150 .add (.tmp 147) (.tmp 149))) (.pin [14, 13, 12] (.op none (.bin 155 .sub (.tmp 150) (.tmp 154))) (.alt (.call none (some 157) 69 [.tmp 156, .const (.int .i64 2)]) none (.first (.op none (.conv 158 .u64 (.tmp 157))) (.pin [14, 13] (.op none (.bin 159 .add (.tmp 155) (.tmp 158))) (.pin [14] (.op none (.faddr 160 1 (.tmp 16))) (.alt (.op none (.store 1 (.tmp 160) (.tmp 159))) (some 14) (.done) (.stop))))) (.stop)))) (.stop))))))))) [0, 1, 2, 3, 4, 11, 12, 13, 14, 16]) (.seq (.reg [.op none (.bin 162 .eql (.tmp 123) (.const (.int .i64 4))), .op none (.mv 161 (.tmp 162)), .keep [0, 1, 2, 3, 4, 11, 12, 13, 14, 16, 123, 161]]) (.cond (.tmp 161) (.regD (.first (.op none (.mv 163 (.tmp 1))) (.first (.op none (.faddr 164 3 (.tmp 12))) (.first (.op none (.mv 166 (.tmp 0))) (.first (.op none (.mv 167 (.tmp 2))) (.first (.op none (.bin 168 .add (.tmp 167) (.const (.int .i64 3)))) (.pin [11, 10, 9, 8, 7] (.op none (.load 165 false 1 (.tmp 164))) (.alt (.call none (some 169) 69 [.tmp 166, .tmp 168]) none (.pin [11, 10, 9, 8] (.op none (.bin 170 .add (.tmp 165) (.tmp 169))) (.pin [11, 10, 9] (.op none (.conv 171 .u64 (.tmp 170))) (.pin [11, 10] (.op none (.bin 172 .add (.tmp 163) (.tmp 171))) (.alt (.op none (.build 173 [.int .i64 0, .int .u64 0, .slice none 0 0, .int .i64 0] [(0, 1, .const (.int .i64 3)), (1, 1, .tmp 172)])) (some 10) (.gh (.alt (.op none (.store 4 (.tmp 16) (.tmp 173))) none (.done) (.stop))) (.stop))))) (.stop)))))))) [0, 1, 2, 3, 4, 11, 12, 13, 14, 16]) (.seq (.reg [.op none (.bin 175 .eql (.tmp 123) (.const (.int .i64 5))), .op none (.mv 174 (.tmp 175)), .keep [0, 1, 2, 3, 4, 11, 12, 13, 14, 16, 123, 174]]) (.cond (.tmp 174) (.reg [.call none (some 176) 140 [.tmp 12], .op none (.mv 177 (.tmp 0)), .call none (some 178) 69 [.tmp 177, .const (.int .i64 2)], .op none (.conv 179 .u64 (.tmp 178)), .op none (.bin 180 .sub (.tmp 176) (.tmp 179)), .op none (.build 181 [.int .i64 0, .int .u64 0, .slice none 0 0, .int .i64 0] [(0, 1, .const (.int .i64 3)), (1, 1, .tmp 180)]), .gh, .op none (.store 4 (.tmp 16) (.tmp 181)), .keep [0, 1, 2, 3, 4, 11, 12, 13, 14, 16]]) (.seq (.reg [.op none (.bin 183 .eql (.tmp 123) (.const (.int .i64 6))), .op none (.mv 182 (.tmp 183)), .keep [0, 1, 2, 3, 4, 11, 12, 13, 14, 16, 123, 182]]) (.cond (.tmp 182) (.reg [.op none (.mv 184 (.tmp 0)), .op none (.faddr 185 2 (.tmp 16)), .op none (.load 186 false 1 (.tmp 185)), .op none (.len 187 (.tmp 186)), .call none (some 188) 116 [.tmp 184, .tmp 187], .op none (.faddr 189 2 (.tmp 16)), .op none (.store 1 (.tmp 189) (.tmp 188)), .keep [0, 1, 2, 3, 4, 11, 12, 13, 14, 16]]) (.seq (.reg [.op none (.bin 191 .eql (.tmp 123) (.const (.int .i64 7))), .op none (.mv 190 (.tmp 191)), .keep [0, 1, 2, 3, 4, 11, 12, 13, 14, 16, 190]]) (.cond (.tmp 190) (.reg [.op none (.faddr 192 1 (.tmp 16)), .op none (.load 193 false 1 (.tmp 192)), .op none (.mv 194 (.tmp 1)), .op none (.bin 195 .sub (.tmp 193) (.tmp 194)), .op none (.faddr 196 1 (.tmp 16)), .op none (.store 1 (.tmp 196) (.tmp 195)), .keep [0, 1, 2, 3, 4, 11, 12, 13, 14, 16]]) (.skip))))))))))))))))))) (.skip)))) (.seq (.reg [.op none (.load 197 true 4 (.tmp 16)), .call none (some 198) 137 [.tmp 12, .tmp 197], .keep [0, 1, 2, 3, 4, 11, 12, 13, 14, 16]]) (.reg [.op none (.mv 199 (.tmp 11)), .op none (.load 200 true 4 (.tmp 16)), .gh, .op none (.bslice 201 4 [.int .i64 0, .int .u64 0, .slice none 0 0, .int .i64 0] 1 [(0, .tmp 200)]), .gh, .op none (.app 202 4 48 true (.tmp 199) (.tmp 201)), .op none (.mv 11 (.tmp 202)), .keep [0, 1, 2, 3, 4, 11, 12, 13, 14]]))))))) (.reg [.op none (.mv 30 (.tmp 14)), .op none (.bin 31 .add (.tmp 30) (.const (.int .i64 1))), .op none (.mv 14 (.tmp 31)), .keep [0, 1, 2, 3, 4, 11, 12, 13, 14]]))
def C111 : AC := .seq (.reg [.op none (.mv 10 (.const (.slice none 0 0))), .gh, .keep [0, 1, 2, 3, 4]]) (.seq (.reg [.op none (.bslice 20 4 [.int .i64 0, .int .u64 0, .slice none 0 0, .int .i64 0] 0 []), .gh, .op none (.mv 11 (.tmp 20)), .keep [0, 1, 2, 3, 4, 11]]) (.seq (.reg [.op none (.mv 21 (.tmp 1)), .op none (.mv 22 (.tmp 2)), .call none (some 23) 136 [.tmp 21, .tmp 22], .op none (.alloc 12 [.int .u64 0, .int .i64 0, .slice none 0 0, .int .i64 0, .int .u64 0, .bool false]), .gh, .op none (.store 6 (.tmp 12) (.tmp 23)), .keep [0, 1, 2, 3, 4, 11, 12]]) (.seq (.reg [.op none (.mv 24 (.tmp 0)), .call none (some 25) 69 [.tmp 24, .const (.int .i64 200)], .op none (.bin 26 .add (.const (.int .i64 20)) (.tmp 25)), .op none (.mv 13 (.tmp 26)), .keep [0, 1, 2, 3, 4, 11, 12, 13]]) (.seq (.seq (.reg [.op none (.mv 14 (.const (.int .i64 0))), .keep [0, 1, 2, 3, 4, 11, 12, 13, 14]]) (.block 0 (.gh (.loop (.ga C111_l0))))) (.seq (.reg [.op none (.mv 203 (.tmp 11)), .op none (.mv 10 (.tmp 203)), .keep [10]]) (.ret))))))
def r111 : List RV := [.tmp 10]
theorem k111 : compC Try.prog 204 C111 (Try.f111.body.getD .skip) = some C111.erase := by kernel_rfl
theorem q111 : rvsOf Try.prog Try.f111.results.toList = some r111 := by kernel_rfl
def spec_l5DrawEvents.l1 (x1_0 : Int) (x1_1 : Int) (x1_2 : Int) (x1_3 : Bool) (x1_4 : Int) (x1_5 : Int) (x1_6 : Int) (x1_7 : Int) (x1_9 : Int) (x1_10 : Int) (x1_11 : (List S116)) (x1_12 : Int) (x1_13 : Int) (x1_14 : (List Int)) (x1_15 : Int) (x1_16 : Int) (x1_17 : Bool) (x1_18 : Int) (x1_19 : Int) (x1_21 : Int) (x1_8 : Int) (x1_20 : (List Int)) : Option (List Int) := ((if x1_8 < IntKind.i64.wrap (x1_6 + x1_7) then (if x1_8 < x1_4 then (some true) else (some (!x1_3))) else (some false)) >>= fun (j75 : Bool) => (if j75 = true then (spec_l5Byte.f x1_8 >>= fun t88 => (if (x1_20.length + 1) * 1 ≤ 140737488355328 then (spec_l5DrawEvents.l1 x1_0 x1_1 x1_2 x1_3 x1_4 x1_5 x1_6 x1_7 x1_9 x1_10 x1_11 x1_12 x1_13 x1_14 x1_15 x1_16 x1_17 x1_18 x1_19 x1_21 (IntKind.i64.wrap (x1_8 + 1)) (x1_20 ++ ([t88] : List Int))) else none)) else (some x1_20)))
 partial_fixpoint
def spec_l5DrawEvents.l0 (l0_0 : List Int) (x0_0 : Int) (x0_1 : Int) (x0_2 : Int) (x0_3 : Bool) (x0_4 : Int) (x0_9 : Int) (x0_10 : Int) (x0_5 : Int) (x0_6 : Int) (x0_7 : Int) (x0_8 : (List S116)) (x0_11 : (List Int)) (x0_12 : Int) (x0_13 : Int) (x0_14 : Bool) : Option (Int × Int × (List S116)) := (if x0_5 < x0_2 then (spec_l1Next.f l0_0 x0_6 x0_7 100 >>= fun t24 => ((if t24.1 < 60 then (spec_l1Next.f l0_0 t24.2.1 t24.2.2 (IntKind.i64.wrap (x0_1 + 2)) >>= fun t36 => (spec_l1Next.f l0_0 t36.2.1 t36.2.2 6 >>= fun t39 => ((spec_l1Next.f l0_0 t39.2.1 t39.2.2 2 >>= fun t51 => (if t51.1 = 0 then (spec_l5Next.f x0_9 x0_10 x0_11 x0_12 x0_13 x0_14 >>= fun t55 => (spec_l1Next.f l0_0 t51.2.1 t51.2.2 3 >>= fun t58 => (some (IntKind.i64.wrap (t55 - t58.1), t58.2.1, t58.2.2)))) else (some (IntKind.i64.wrap ((IntKind.i64.wrap (x0_12 + t36.1)) - t39.1), t51.2.1, t51.2.2)))) >>= fun (j46 : Int × Int × Int) => ((if j46.1 < 0 then (some 0) else (some j46.1)) >>= fun (j61 : Int) => (spec_l1Next.f l0_0 j46.2.1 j46.2.2 12 >>= fun t68 => (spec_l5DrawEvents.l1 x0_0 x0_1 x0_2 x0_3 x0_4 x0_5 j61 (IntKind.i64.wrap (1 + t68.1)) t68.2.1 t68.2.2 x0_8 x0_9 x0_10 x0_11 x0_12 x0_13 x0_14 1 0 0 j61 ([] : List Int) >>= fun (y161 : (List Int)) => (some (t68.2.1, t68.2.2, 1, IntKind.u64.wrap (x0_0 + (IntKind.u64.wrap j61)), y161, 0)))))))) else (if t24.1 < 90 then (spec_l1Next.f l0_0 t24.2.1 t24.2.2 20 >>= fun t166 => (some (t166.2.1, t166.2.2, 2, 0, ([] : List Int), IntKind.i64.wrap (t166.1 - 1)))) else ((if t24.1 < 96 then (if IntKind.i64.wrap (x0_12 + x0_1) ≥ x0_4 then (some true) else (some (decide (t24.1 = 96)))) else (some (decide (t24.1 = 96)))) >>= fun (j169 : Bool) => (if j169 = true then (some (t24.2.1, t24.2.2, 3, IntKind.u64.wrap (x0_0 + (IntKind.u64.wrap x0_4)), ([] : List Int), 0)) else (some (t24.2.1, t24.2.2, 1, 0, ([] : List Int), 0)))))) >>= fun (j29 : Int × Int × Int × Int × (List Int) × Int) => (((if (!x0_3) = true then (spec_l1Next.f l0_0 j29.1 j29.2.1 14 >>= fun t191 => (some (decide (t191.1 = 0), t191.2.1, t191.2.2))) else (some (false, j29.1, j29.2.1))) >>= fun (j185 : Bool × Int × Int) => (if j185.1 = true then (spec_l1Next.f l0_0 j185.2.1 j185.2.2 8 >>= fun t197 => (if t197.1 = 0 then (spec_l1Next.f l0_0 t197.2.1 t197.2.2 2 >>= fun t203 => (some (t203.2.1, t203.2.2, IntKind.i64.wrap (4 * t203.1), j29.2.2.2.1, j29.2.2.2.2.1, j29.2.2.2.2.2))) else (if t197.1 = 1 then (spec_l1Next.f l0_0 t197.2.1 t197.2.2 2 >>= fun t208 => (spec_l1DrawBytes.f l0_0 t208.2.1 t208.2.2 (IntKind.i64.wrap (32 + t208.1)) >>= fun t211 => (some (t211.2.1, t211.2.2, j29.2.2.1, j29.2.2.2.1, t211.1, j29.2.2.2.2.2)))) else (if t197.1 = 2 then (spec_l1Next.f l0_0 t197.2.1 t197.2.2 3 >>= fun t217 => (some (t217.2.1, t217.2.2, j29.2.2.1, IntKind.u64.wrap (18446744073709551615 - (IntKind.u64.wrap t217.1)), j29.2.2.2.2.1, j29.2.2.2.2.2))) else (if t197.1 = 3 then (spec_l5Read.f x0_9 x0_10 x0_11 x0_12 x0_13 x0_14 >>= fun t222 => (spec_l1Next.f l0_0 t197.2.1 t197.2.2 2 >>= fun t225 => (some (t225.2.1, t225.2.2, j29.2.2.1, IntKind.u64.wrap ((IntKind.u64.wrap ((IntKind.u64.wrap (t222 + (IntKind.u64.wrap x0_1))) - (IntKind.u64.wrap (j29.2.2.2.2.1.length : Int)))) + (IntKind.u64.wrap t225.1)), j29.2.2.2.2.1, j29.2.2.2.2.2)))) else (if t197.1 = 4 then (spec_l1Next.f l0_0 t197.2.1 t197.2.2 (IntKind.i64.wrap (x0_1 + 3)) >>= fun t234 => (some (t234.2.1, t234.2.2, 3, IntKind.u64.wrap (x0_0 + (IntKind.u64.wrap (IntKind.i64.wrap (x0_12 + t234.1)))), ([] : List Int), 0))) else (if t197.1 = 5 then (spec_l5Read.f x0_9 x0_10 x0_11 x0_12 x0_13 x0_14 >>= fun t240 => (spec_l1Next.f l0_0 t197.2.1 t197.2.2 2 >>= fun t243 => (some (t243.2.1, t243.2.2, 3, IntKind.u64.wrap (t240 - (IntKind.u64.wrap t243.1)), ([] : List Int), 0)))) else (if t197.1 = 6 then (spec_l1DrawBytes.f l0_0 t197.2.1 t197.2.2 (j29.2.2.2.2.1.length : Int) >>= fun t248 => (some (t248.2.1, t248.2.2, j29.2.2.1, j29.2.2.2.1, t248.1, j29.2.2.2.2.2))) else (if t197.1 = 7 then (some (t197.2.1, t197.2.2, j29.2.2.1, IntKind.u64.wrap (j29.2.2.2.1 - x0_0), j29.2.2.2.2.1, j29.2.2.2.2.2)) else (some (t197.2.1, t197.2.2, j29.2.2.1, j29.2.2.2.1, j29.2.2.2.2.1, j29.2.2.2.2.2))))))))))) else (some (j185.2.1, j185.2.2, j29.2.2.1, j29.2.2.2.1, j29.2.2.2.2.1, j29.2.2.2.2.2)))) >>= fun (j181 : Int × Int × Int × Int × (List Int) × Int) => (spec_l5Step.f x0_9 x0_10 x0_11 x0_12 x0_13 x0_14 j181.2.2.1 j181.2.2.2.1 j181.2.2.2.2.1 j181.2.2.2.2.2 >>= fun t255 => (if (x0_8.length + 1) * 48 ≤ 140737488355328 then (spec_l5DrawEvents.l0 l0_0 x0_0 x0_1 x0_2 x0_3 x0_4 x0_9 x0_10 (IntKind.i64.wrap (x0_5 + 1)) j181.1 j181.2.1 (x0_8 ++ ([(⟨j181.2.2.1, j181.2.2.2.1, j181.2.2.2.2.1, j181.2.2.2.2.2⟩ : S116)] : List S116)) t255.2.2.2.1 t255.2.2.2.2.1 t255.2.2.2.2.2.1 t255.2.2.2.2.2.2) else none))))) else (some (x0_6, x0_7, x0_8)))
 partial_fixpoint
def spec_l5DrawEvents.f (l0_0 : List Int) (a0_1 : Int) (a0_2 : Int) (a1 : Int) (a2 : Int) (a3 : Int) (a4 : Bool) : Option ((List S116) × Int × Int) := (spec_l5Begin.f a1 a2 >>= fun t7 => (spec_l1Next.f l0_0 a0_1 a0_2 200 >>= fun t12 => (spec_l5DrawEvents.l0 l0_0 a1 a2 a3 a4 (IntKind.i64.wrap (20 + t12.1)) t7.1 t7.2.1 0 t12.2.1 t12.2.2 ([] : List S116) t7.2.2.1 t7.2.2.2.1 t7.2.2.2.2.1 t7.2.2.2.2.2 >>= fun (y268 : (Int × Int × (List S116))) => (some (y268.2.2, y268.1, y268.2.1)))))
def spec_l5DrawEvents.l1_M (cs1 : List Cell) (o1 : Nat) (l0_0 : List Int) (hv1 : Vw c_u8 1 cs1 o1 l0_0) (x1_0 : Int) (x1_1 : Int) (x1_2 : Int) (x1_3 : Bool) (x1_4 : Int) (x1_5 : Int) (x1_6 : Int) (x1_7 : Int) (x1_9 : Int) (x1_10 : Int) (x1_11 : (List S116)) (x1_12 : Int) (x1_13 : Int) (x1_14 : (List Int)) (x1_15 : Int) (x1_16 : Int) (x1_17 : Bool) (x1_18 : Int) (x1_19 : Int) (x1_21 : Int) (x1_8 : Int) (x1_20 : (List Int)) (y : (List Int)) : Prop := ∀ (K : AE → St → Prop), (K (.exit 2) ⟨[(0, .c (.ptr (.arg 0) [] 0)), (1, .c (.sc (.int .u64 x1_0))), (2, .c (.sc (.int .i64 x1_1))), (3, .c (.sc (.int .i64 x1_2))), (4, .c (.sc (.bool x1_3))), (11, .c (.ref (.tmp 20 0) [] 0 x1_11.length)), (12, .c (.ptr (.tmp 12 0) [] 0)), (13, .c (.sc (.int .i64 x1_4))), (14, .c (.sc (.int .i64 x1_5))), (16, .c (.ptr (.tmp 16 0) [] 0)), (17, .c (.sc (.int .i64 x1_6)))], [(.arg 0, ⟨.box, 0, [.ref (.arg 1) [] o1 l0_0.length, .sc (.int .i64 x1_9), .sc (.int .u64 x1_10)]⟩), (.arg 1, ⟨.fz, 1, cs1⟩), (.tmp 20 0, ⟨.lst, 4, encL c116 x1_11⟩), (.tmp 12 0, ⟨.box, 0, [.sc (.int .u64 x1_12), .sc (.int .i64 x1_13), .own 1 x1_14.length (encL c_i64 x1_14), .sc (.int .i64 x1_15), .sc (.int .u64 x1_16), .sc (.bool x1_17)]⟩), (.tmp 16 0, ⟨.box, 0, [.sc (.int .i64 x1_18), .sc (.int .u64 x1_19), .own 1 y.length (encL c_u8 y), .sc (.int .i64 x1_21)]⟩)], [], []⟩) → loopS Try.prog 204 (.ga C111_l1) K ⟨[(0, .c (.ptr (.arg 0) [] 0)), (1, .c (.sc (.int .u64 x1_0))), (2, .c (.sc (.int .i64 x1_1))), (3, .c (.sc (.int .i64 x1_2))), (4, .c (.sc (.bool x1_3))), (11, .c (.ref (.tmp 20 0) [] 0 x1_11.length)), (12, .c (.ptr (.tmp 12 0) [] 0)), (13, .c (.sc (.int .i64 x1_4))), (14, .c (.sc (.int .i64 x1_5))), (16, .c (.ptr (.tmp 16 0) [] 0)), (17, .c (.sc (.int .i64 x1_6))), (18, .c (.sc (.int .i64 x1_7))), (19, .c (.sc (.int .i64 x1_8)))], [(.arg 0, ⟨.box, 0, [.ref (.arg 1) [] o1 l0_0.length, .sc (.int .i64 x1_9), .sc (.int .u64 x1_10)]⟩), (.arg 1, ⟨.fz, 1, cs1⟩), (.tmp 20 0, ⟨.lst, 4, encL c116 x1_11⟩), (.tmp 12 0, ⟨.box, 0, [.sc (.int .u64 x1_12), .sc (.int .i64 x1_13), .own 1 x1_14.length (encL c_i64 x1_14), .sc (.int .i64 x1_15), .sc (.int .u64 x1_16), .sc (.bool x1_17)]⟩), (.tmp 16 0, ⟨.box, 0, [.sc (.int .i64 x1_18), .sc (.int .u64 x1_19), .own 1 x1_20.length (encL c_u8 x1_20), .sc (.int .i64 x1_21)]⟩)], [], []⟩
theorem spec_l5DrawEvents.l1_walk (cs1 : List Cell) (o1 : Nat) (l0_0 : List Int) (hv1 : Vw c_u8 1 cs1 o1 l0_0) (x1_0 : Int) (x1_1 : Int) (x1_2 : Int) (x1_3 : Bool) (x1_4 : Int) (x1_5 : Int) (x1_6 : Int) (x1_7 : Int) (x1_9 : Int) (x1_10 : Int) (x1_11 : (List S116)) (x1_12 : Int) (x1_13 : Int) (x1_14 : (List Int)) (x1_15 : Int) (x1_16 : Int) (x1_17 : Bool) (x1_18 : Int) (x1_19 : Int) (x1_21 : Int) (x1_8 : Int) (x1_20 : (List Int)) (y : (List Int)) (h : spec_l5DrawEvents.l1 x1_0 x1_1 x1_2 x1_3 x1_4 x1_5 x1_6 x1_7 x1_9 x1_10 x1_11 x1_12 x1_13 x1_14 x1_15 x1_16 x1_17 x1_18 x1_19 x1_21 x1_8 x1_20 = some y) : spec_l5DrawEvents.l1_M cs1 o1 l0_0 hv1 x1_0 x1_1 x1_2 x1_3 x1_4 x1_5 x1_6 x1_7 x1_9 x1_10 x1_11 x1_12 x1_13 x1_14 x1_15 x1_16 x1_17 x1_18 x1_19 x1_21 x1_8 x1_20 y := by
 refine spec_l5DrawEvents.l1.partial_correctness x1_0 x1_1 x1_2 x1_3 x1_4 x1_5 x1_6 x1_7 x1_9 x1_10 x1_11 x1_12 x1_13 x1_14 x1_15 x1_16 x1_17 x1_18 x1_19 x1_21 (motive := fun x1_8 x1_20 y => spec_l5DrawEvents.l1_M cs1 o1 l0_0 hv1 x1_0 x1_1 x1_2 x1_3 x1_4 x1_5 x1_6 x1_7 x1_9 x1_10 x1_11 x1_12 x1_13 x1_14 x1_15 x1_16 x1_17 x1_18 x1_19 x1_21 x1_8 x1_20 y) ?_ x1_8 x1_20 y h
 clear h
 unfold spec_l5DrawEvents.l1_M
 intro rec ih x1_8 x1_20 y h K hx0
 refine loop_unroll (ga_k fun G1 G1n G1r G1x => ?_)
 unfold C111_l1
 refine seq_k fun J74 hJ74 => ?_
 obtain ⟨j75, h76, hn⟩ := of_bind h
 refine seq_j (fun st => st = ⟨[(0, .c (.ptr (.arg 0) [] 0)), (1, .c (.sc (.int .u64 x1_0))), (2, .c (.sc (.int .i64 x1_1))), (3, .c (.sc (.int .i64 x1_2))), (4, .c (.sc (.bool x1_3))), (11, .c (.ref (.tmp 20 0) [] 0 x1_11.length)), (12, .c (.ptr (.tmp 12 0) [] 0)), (13, .c (.sc (.int .i64 x1_4))), (14, .c (.sc (.int .i64 x1_5))), (16, .c (.ptr (.tmp 16 0) [] 0)), (17, .c (.sc (.int .i64 x1_6))), (18, .c (.sc (.int .i64 x1_7))), (19, .c (.sc (.int .i64 x1_8))), (73, .c (.sc (.bool j75)))], [(.arg 0, ⟨.box, 0, [.ref (.arg 1) [] o1 l0_0.length, .sc (.int .i64 x1_9), .sc (.int .u64 x1_10)]⟩), (.arg 1, ⟨.fz, 1, cs1⟩), (.tmp 20 0, ⟨.lst, 4, encL c116 x1_11⟩), (.tmp 12 0, ⟨.box, 0, [.sc (.int .u64 x1_12), .sc (.int .i64 x1_13), .own 1 x1_14.length (encL c_i64 x1_14), .sc (.int .i64 x1_15), .sc (.int .u64 x1_16), .sc (.bool x1_17)]⟩), (.tmp 16 0, ⟨.box, 0, [.sc (.int .i64 x1_18), .sc (.int .u64 x1_19), .own 1 x1_20.length (encL c_u8 x1_20), .sc (.int .i64 x1_21)]⟩)], [], []⟩) (fun J77 hJ77 => ?_) ?_
 ·replace h := h76; clear hn
  refine ga_k fun G78 G78n G78r G78x => ?_
  refine reg_k ?_
  simp +decide only [Nat.reduceAdd, Nat.reduceMul, Int.reduceToNat, ak]
  by_cases c79 : x1_8 < IntKind.i64.wrap (x1_6 + x1_7)
  ·rw [if_pos c79] at h
   have e80 : decide (x1_8 < IntKind.i64.wrap (x1_6 + x1_7)) = true := decide_eq_true c79
   simp +decide only [Nat.reduceAdd, Nat.reduceMul, Int.reduceToNat, ak, e80]
   by_cases c81 : x1_8 < x1_4
   ·rw [if_pos c81] at h
    have e82 : decide (x1_8 < x1_4) = true := decide_eq_true c81
    simp +decide only [Nat.reduceAdd, Nat.reduceMul, Int.reduceToNat, ak, e82]
    obtain rfl := Option.some.inj h
    refine G78n _ _ (wk [0, 1, 2, 3, 4, 11, 12, 13, 14, 16, 17, 18, 19, 73] [pI (.arg 0) .box, pI (.arg 1) .fz, pI (.tmp 20 0) .lst, pI (.tmp 12 0) .box, pI (.tmp 16 0) .box] (h0 := by first | rfl | simp +decide only [ak, akF, e80, e82]) (h := by first | rfl | (simp +decide only [ak, akF, e80, e82]; done) | (simp +decide [ak, akF, e80, e82] <;> omega))) (hJ77 _ rfl)
   ·rw [if_neg c81] at h
    have e83 : decide (x1_8 < x1_4) = false := decide_eq_false c81
    simp +decide only [Nat.reduceAdd, Nat.reduceMul, Int.reduceToNat, ak, e83]
    obtain rfl := Option.some.inj h
    refine G78n _ _ (wk [0, 1, 2, 3, 4, 11, 12, 13, 14, 16, 17, 18, 19, 73] [pI (.arg 0) .box, pI (.arg 1) .fz, pI (.tmp 20 0) .lst, pI (.tmp 12 0) .box, pI (.tmp 16 0) .box] (h0 := by first | rfl | simp +decide only [ak, akF, e80, e83]) (h := by first | rfl | (simp +decide only [ak, akF, e80, e83]; done) | (simp +decide [ak, akF, e80, e83] <;> omega))) (hJ77 _ rfl)
  ·rw [if_neg c79] at h
   have e84 : decide (x1_8 < IntKind.i64.wrap (x1_6 + x1_7)) = false := decide_eq_false c79
   simp +decide only [Nat.reduceAdd, Nat.reduceMul, Int.reduceToNat, ak, e84]
   obtain rfl := Option.some.inj h
   refine G78n _ _ (wk [0, 1, 2, 3, 4, 11, 12, 13, 14, 16, 17, 18, 19, 73] [pI (.arg 0) .box, pI (.arg 1) .fz, pI (.tmp 20 0) .lst, pI (.tmp 12 0) .box, pI (.tmp 16 0) .box] (h0 := by first | rfl | simp +decide only [ak, akF, e84]) (h := by first | rfl | (simp +decide only [ak, akF, e84]; done) | (simp +decide [ak, akF, e84] <;> omega))) (hJ77 _ rfl)
 ·replace h := hn; clear hn h76
  rintro _ rfl
  refine cond_k (b := j75) rfl (fun c85 => ?_) (fun c85 => ?_)
  ·rw [if_pos c85] at h
   refine hJ74 _ ?_
   refine seq_k fun J86 hJ86 => ?_
   refine block_k fun B87 B87n B87x B87r B87j => ?_
   refine regD_k ?_
   simp +decide only [Nat.reduceAdd, Nat.reduceMul, Int.reduceToNat, ak]
   obtain ⟨t88, h89, h⟩ := of_bind h
   obtain ⟨b96, h⟩ := of_guard h
   refine alt_e ?_
   ·simp +decide only [Nat.reduceAdd, Nat.reduceMul, Int.reduceToNat, ak]
    refine call_m [] (s0 := []) (by intro t ht; cases ht; decide) rfl rfl (by first | rfl | simp only [reduceCtorEq, Nat.reduceEqDiff, ak, akF, b96]) (spec_l5Byte.tri x1_8 _ h89) (by first | rfl | simp only [reduceCtorEq, Nat.reduceEqDiff, ak, akF]) (by simp [bkOk2, memK]) (fun hl125 => ?_)
    refine call_st (s4 := [(.arg 0, ⟨.box, 0, [.ref (.arg 1) [] o1 l0_0.length, .sc (.int .i64 x1_9), .sc (.int .u64 x1_10)]⟩), (.arg 1, ⟨.fz, 1, cs1⟩), (.tmp 20 0, ⟨.lst, 4, encL c116 x1_11⟩), (.tmp 12 0, ⟨.box, 0, [.sc (.int .u64 x1_12), .sc (.int .i64 x1_13), .own 1 x1_14.length (encL c_i64 x1_14), .sc (.int .i64 x1_15), .sc (.int .u64 x1_16), .sc (.bool x1_17)]⟩), (.tmp 16 0, ⟨.box, 0, [.sc (.int .i64 x1_18), .sc (.int .u64 x1_19), .own 1 x1_20.length (encL c_u8 x1_20), .sc (.int .i64 x1_21)]⟩)]) (m1' := []) (m2' := []) (v' := .c (.sc (.int .u8 t88))) (Sto.mapN_killNil _ _) (mrgL_nil' _ _ _) (by rfl) (mapT_killNil _ _) (by rfl) (by rfl) (by first | rfl | simp only [reduceCtorEq, Nat.reduceEqDiff, ak, akF, Nat.zero_add, List.append_nil, b96]) ?_
    simp +decide only [Nat.reduceAdd, Nat.reduceMul, Int.reduceToNat, ak]
    refine alt_e ?_
    ·have g144 : (List.replicate 1 ([.int .u8 0] : List Value)).flatten = [.int .u8 0] := rfl
     have g145 : (⟨.lst, 1, [.sc (.int .u8 t88)]⟩ : Root) = ⟨.lst, 1, encL c_u8 ([t88] : List Int)⟩ := rfl
     have g146 : ([t88] : List Int).length = 1 := rfl
     simp +decide only [Nat.reduceAdd, Nat.reduceMul, Int.reduceToNat, ak, g144, g145, g146]
     refine alt_e ?_
     ·have g154 : (encL c_u8 ([t88] : List Int)).take 1 = encL c_u8 ([t88] : List Int) := by simpa using (Vw.whole c_u8_w ([t88] : List Int)).all
      have g155 : (encL c_u8 ([t88] : List Int)).all isSc = true := encL_all (fun _ => rfl) _
      have g156 : appLim x1_20.length 1 1 := ⟨b96, by have := b96; omega⟩
      have g157 : (encL c_u8 x1_20).length = x1_20.length * 1 := by simp [encL_length c_u8_w]
      have g158 : encL c_u8 x1_20 ++ encL c_u8 ([t88] : List Int) = encL c_u8 (x1_20 ++ ([t88] : List Int)) := (encL_append _ _).symm
      simp +decide only [Nat.reduceAdd, Nat.reduceMul, Int.reduceToNat, ak, g154, g155, g156, g157, g158]
      refine alt_e ?_
      ·have g160 : (encL c_u8 (x1_20 ++ ([t88] : List Int))).length = (x1_20.length + 1) * 1 := by simp [encL_length c_u8_w]
       simp +decide only [Nat.reduceAdd, Nat.reduceMul, Int.reduceToNat, ak, g160]
       refine B87n _ ?_
       refine hJ86 _ ?_
       refine reg_k ?_
       simp +decide only [Nat.reduceAdd, Nat.reduceMul, Int.reduceToNat, ak]
       refine G1n _ _ (wk [0, 1, 2, 3, 4, 11, 12, 13, 14, 16, 17, 18, 19] [pI (.arg 0) .box, pI (.arg 1) .fz, pI (.tmp 20 0) .lst, pI (.tmp 12 0) .box, pI (.tmp 16 0) .box] (h0 := by first | rfl | simp +decide only [ak, akF, b96]) (h := by first | rfl | (simp +decide only [ak, akF, b96]; done) | (simp +decide [ak, akF, b96] <;> omega))) (ih _ _ _ h K hx0)
  ·rw [if_neg (Bool.eq_false_iff.1 c85)] at h
   obtain rfl := Option.some.inj h
   refine gh_k (wk [0, 1, 2, 3, 4, 11, 12, 13, 14, 16, 17] [pI (.arg 0) .box, pI (.arg 1) .fz, pI (.tmp 20 0) .lst, pI (.tmp 12 0) .box, pI (.tmp 16 0) .box]) ?_
   refine G1x _ _ ?_
   exact hx0
def spec_l5DrawEvents.l0_M (cs1 : List Cell) (o1 : Nat) (l0_0 : List Int) (hv1 : Vw c_u8 1 cs1 o1 l0_0) (x0_0 : Int) (x0_1 : Int) (x0_2 : Int) (x0_3 : Bool) (x0_4 : Int) (x0_9 : Int) (x0_10 : Int) (x0_5 : Int) (x0_6 : Int) (x0_7 : Int) (x0_8 : (List S116)) (x0_11 : (List Int)) (x0_12 : Int) (x0_13 : Int) (x0_14 : Bool) (y : (Int × Int × (List S116))) : Prop := ∀ (K : AE → St → Prop), (K (.exit 0) ⟨[(11, .c (.ref (.tmp 20 0) [] 0 y.2.2.length))], [(.arg 0, ⟨.box, 0, [.ref (.arg 1) [] o1 l0_0.length, .sc (.int .i64 y.1), .sc (.int .u64 y.2.1)]⟩), (.arg 1, ⟨.fz, 1, cs1⟩), (.tmp 20 0, ⟨.lst, 4, encL c116 y.2.2⟩)], [], []⟩) → loopS Try.prog 204 (.ga C111_l0) K ⟨[(0, .c (.ptr (.arg 0) [] 0)), (1, .c (.sc (.int .u64 x0_0))), (2, .c (.sc (.int .i64 x0_1))), (3, .c (.sc (.int .i64 x0_2))), (4, .c (.sc (.bool x0_3))), (11, .c (.ref (.tmp 20 0) [] 0 x0_8.length)), (12, .c (.ptr (.tmp 12 0) [] 0)), (13, .c (.sc (.int .i64 x0_4))), (14, .c (.sc (.int .i64 x0_5)))], [(.arg 0, ⟨.box, 0, [.ref (.arg 1) [] o1 l0_0.length, .sc (.int .i64 x0_6), .sc (.int .u64 x0_7)]⟩), (.arg 1, ⟨.fz, 1, cs1⟩), (.tmp 20 0, ⟨.lst, 4, encL c116 x0_8⟩), (.tmp 12 0, ⟨.box, 0, [.sc (.int .u64 x0_9), .sc (.int .i64 x0_10), .own 1 x0_11.length (encL c_i64 x0_11), .sc (.int .i64 x0_12), .sc (.int .u64 x0_13), .sc (.bool x0_14)]⟩)], [], []⟩
theorem spec_l5DrawEvents.l0_walk (cs1 : List Cell) (o1 : Nat) (l0_0 : List Int) (hv1 : Vw c_u8 1 cs1 o1 l0_0) (x0_0 : Int) (x0_1 : Int) (x0_2 : Int) (x0_3 : Bool) (x0_4 : Int) (x0_9 : Int) (x0_10 : Int) (x0_5 : Int) (x0_6 : Int) (x0_7 : Int) (x0_8 : (List S116)) (x0_11 : (List Int)) (x0_12 : Int) (x0_13 : Int) (x0_14 : Bool) (y : (Int × Int × (List S116))) (h : spec_l5DrawEvents.l0 l0_0 x0_0 x0_1 x0_2 x0_3 x0_4 x0_9 x0_10 x0_5 x0_6 x0_7 x0_8 x0_11 x0_12 x0_13 x0_14 = some y) : spec_l5DrawEvents.l0_M cs1 o1 l0_0 hv1 x0_0 x0_1 x0_2 x0_3 x0_4 x0_9 x0_10 x0_5 x0_6 x0_7 x0_8 x0_11 x0_12 x0_13 x0_14 y := by
 refine spec_l5DrawEvents.l0.partial_correctness l0_0 x0_0 x0_1 x0_2 x0_3 x0_4 x0_9 x0_10 (motive := fun x0_5 x0_6 x0_7 x0_8 x0_11 x0_12 x0_13 x0_14 y => spec_l5DrawEvents.l0_M cs1 o1 l0_0 hv1 x0_0 x0_1 x0_2 x0_3 x0_4 x0_9 x0_10 x0_5 x0_6 x0_7 x0_8 x0_11 x0_12 x0_13 x0_14 y) ?_ x0_5 x0_6 x0_7 x0_8 x0_11 x0_12 x0_13 x0_14 y h
 clear h
 unfold spec_l5DrawEvents.l0_M
 intro rec ih x0_5 x0_6 x0_7 x0_8 x0_11 x0_12 x0_13 x0_14 y h K hx0
 refine loop_unroll (ga_k fun G0 G0n G0r G0x => ?_)
 unfold C111_l0
 refine seq_k fun J18 hJ18 => ?_
 refine sr_k fun J19 hJ19 => ?_
 simp +decide only [Nat.reduceAdd, Nat.reduceMul, Int.reduceToNat, ak]
 refine hJ19 _ ?_
 refine cond_k (b := decide (x0_5 < x0_2)) rfl (fun c20 => ?_) (fun c20 => ?_)
 ·replace c20 := of_decide_eq_true c20; rw [if_pos c20] at h
  refine hJ18 _ ?_
  refine seq_k fun J21 hJ21 => ?_
  refine block_k fun B22 B22n B22x B22r B22j => ?_
  refine sr_k fun J23 hJ23 => ?_
  simp +decide only [Nat.reduceAdd, Nat.reduceMul, Int.reduceToNat, ak]
  obtain ⟨t24, h25, h⟩ := of_bind h
  refine call_m [(.arg 0, ⟨(.arg 0), [], none, .box⟩), (.arg 1, ⟨(.arg 1), [], none, .fz⟩)] (s0 := [(.arg 0, ⟨.box, 0, [.ref (.arg 1) [] o1 l0_0.length, .sc (.int .i64 x0_6), .sc (.int .u64 x0_7)]⟩), (.arg 1, ⟨.fz, 1, cs1⟩)]) (by intro t ht; cases ht; decide) rfl rfl (by first | rfl | simp only [reduceCtorEq, Nat.reduceEqDiff, ak, akF]) (spec_l1Next.tri (cs1) o1 l0_0 hv1 x0_6 x0_7 100 _ h25) (by first | rfl | simp only [reduceCtorEq, Nat.reduceEqDiff, ak, akF]) (by simp [bkOk2, memK]) (fun hl25 => ?_)
  refine call_st (s4 := [(.arg 0, ⟨.box, 0, [.ref (.arg 1) [] o1 l0_0.length, .sc (.int .i64 t24.2.1), .sc (.int .u64 t24.2.2)]⟩), (.arg 1, ⟨.fz, 1, cs1⟩), (.tmp 20 0, ⟨.lst, 4, encL c116 x0_8⟩), (.tmp 12 0, ⟨.box, 0, [.sc (.int .u64 x0_9), .sc (.int .i64 x0_10), .own 1 x0_11.length (encL c_i64 x0_11), .sc (.int .i64 x0_12), .sc (.int .u64 x0_13), .sc (.bool x0_14)]⟩)]) (m1' := []) (m2' := []) (v' := .c (.sc (.int .i64 t24.1))) (Sto.mapN_killNil _ _) (mrgL_whole (new' := [.ref (.arg 1) [] o1 l0_0.length, .sc (.int .i64 t24.2.1), .sc (.int .u64 t24.2.2)]) (mrgL_fz (mrgL_nil' _ _ _) rfl (by first | rfl | simp only [reduceCtorEq, Nat.reduceEqDiff, ak]) rfl (by intro R hR hh; cases hR; cases hh.2)) rfl (by rfl) (.inl ⟨rfl, by first | rfl | simp only [reduceCtorEq, Nat.reduceEqDiff, ak, akF, Nat.zero_add, List.append_nil]⟩)) (by rfl) (mapT_killNil _ _) (by rfl) (by rfl) (by first | rfl | simp only [reduceCtorEq, Nat.reduceEqDiff, ak, akF, Nat.zero_add, List.append_nil]) ?_
  simp +decide only [Nat.reduceAdd, Nat.reduceMul, Int.reduceToNat, ak]
  refine hJ23 _ ?_
  refine sr_k fun J27 hJ27 => ?_
  simp +decide only [Nat.reduceAdd, Nat.reduceMul, Int.reduceToNat, ak]
  refine gho_k (Weak.nmg' 34 2 (.tmp 34 22) 1 (encL c_u8 ([] : List Int)) rfl rfl rfl rfl) ?_
  simp +decide only [Nat.reduceAdd, Nat.reduceMul, Int.reduceToNat, ak]
  refine gho_k (Weak.own (.tmp 16 0) (cs' := [.sc (.int .i64 0), .sc (.int .u64 0), .own 1 (([] : List Int).length) (encL c_u8 ([] : List Int)), .sc (.int .i64 0)]) rfl ⟨.inl rfl, .inl rfl, .inr ⟨rfl, _, rfl⟩, .inl rfl, trivial⟩) ?_
  have g28 : (encL c_u8 ([] : List Int)).length = 0 * 1 := by simp [encL_length c_u8_w]
  simp +decide only [Nat.reduceAdd, Nat.reduceMul, Int.reduceToNat, ak, g28]
  refine hJ27 _ ?_
  obtain ⟨j29, h30, hn⟩ := of_bind h
  refine seq_j (fun st => st = ⟨[(0, .c (.ptr (.arg 0) [] 0)), (1, .c (.sc (.int .u64 x0_0))), (2, .c (.sc (.int .i64 x0_1))), (3, .c (.sc (.int .i64 x0_2))), (4, .c (.sc (.bool x0_3))), (11, .c (.ref (.tmp 20 0) [] 0 x0_8.length)), (12, .c (.ptr (.tmp 12 0) [] 0)), (13, .c (.sc (.int .i64 x0_4))), (14, .c (.sc (.int .i64 x0_5))), (16, .c (.ptr (.tmp 16 0) [] 0))], [(.arg 0, ⟨.box, 0, [.ref (.arg 1) [] o1 l0_0.length, .sc (.int .i64 j29.1), .sc (.int .u64 j29.2.1)]⟩), (.arg 1, ⟨.fz, 1, cs1⟩), (.tmp 20 0, ⟨.lst, 4, encL c116 x0_8⟩), (.tmp 12 0, ⟨.box, 0, [.sc (.int .u64 x0_9), .sc (.int .i64 x0_10), .own 1 x0_11.length (encL c_i64 x0_11), .sc (.int .i64 x0_12), .sc (.int .u64 x0_13), .sc (.bool x0_14)]⟩), (.tmp 16 0, ⟨.box, 0, [.sc (.int .i64 j29.2.2.1), .sc (.int .u64 j29.2.2.2.1), .own 1 j29.2.2.2.2.1.length (encL c_u8 j29.2.2.2.2.1), .sc (.int .i64 j29.2.2.2.2.2)]⟩)], [], []⟩) (fun J31 hJ31 => ?_) ?_
  ·replace h := h30; clear hn
   refine ga_k fun G32 G32n G32r G32x => ?_
   refine sr_k fun J33 hJ33 => ?_
   simp +decide only [Nat.reduceAdd, Nat.reduceMul, Int.reduceToNat, ak]
   refine hJ33 _ ?_
   refine cond_k (b := decide (t24.1 < 60)) rfl (fun c34 => ?_) (fun c34 => ?_)
   ·replace c34 := of_decide_eq_true c34; rw [if_pos c34] at h
    refine sd_k fun J35 hJ35 => ?_
    simp +decide only [Nat.reduceAdd, Nat.reduceMul, Int.reduceToNat, ak]
    obtain ⟨t36, h37, h⟩ := of_bind h
    obtain ⟨t39, h40, h⟩ := of_bind h
    refine alt_e ?_
    ·simp +decide only [Nat.reduceAdd, Nat.reduceMul, Int.reduceToNat, ak]
     refine call_m [(.arg 0, ⟨(.arg 0), [], none, .box⟩), (.arg 1, ⟨(.arg 1), [], none, .fz⟩)] (s0 := [(.arg 0, ⟨.box, 0, [.ref (.arg 1) [] o1 l0_0.length, .sc (.int .i64 t24.2.1), .sc (.int .u64 t24.2.2)]⟩), (.arg 1, ⟨.fz, 1, cs1⟩)]) (by intro t ht; cases ht; decide) rfl rfl (by first | rfl | simp only [reduceCtorEq, Nat.reduceEqDiff, ak, akF, g28]) (spec_l1Next.tri (cs1) o1 l0_0 hv1 t24.2.1 t24.2.2 (IntKind.i64.wrap (x0_1 + 2)) _ h37) (by first | rfl | simp only [reduceCtorEq, Nat.reduceEqDiff, ak, akF]) (by simp [bkOk2, memK]) (fun hl42 => ?_)
     refine call_st (s4 := [(.arg 0, ⟨.box, 0, [.ref (.arg 1) [] o1 l0_0.length, .sc (.int .i64 t36.2.1), .sc (.int .u64 t36.2.2)]⟩), (.arg 1, ⟨.fz, 1, cs1⟩), (.tmp 20 0, ⟨.lst, 4, encL c116 x0_8⟩), (.tmp 12 0, ⟨.box, 0, [.sc (.int .u64 x0_9), .sc (.int .i64 x0_10), .own 1 x0_11.length (encL c_i64 x0_11), .sc (.int .i64 x0_12), .sc (.int .u64 x0_13), .sc (.bool x0_14)]⟩), (.tmp 16 0, ⟨.box, 0, [.sc (.int .i64 1), .sc (.int .u64 0), .own 1 0 (encL c_u8 ([] : List Int)), .sc (.int .i64 0)]⟩)]) (m1' := []) (m2' := []) (v' := .c (.sc (.int .i64 t36.1))) (Sto.mapN_killNil _ _) (mrgL_whole (new' := [.ref (.arg 1) [] o1 l0_0.length, .sc (.int .i64 t36.2.1), .sc (.int .u64 t36.2.2)]) (mrgL_fz (mrgL_nil' _ _ _) rfl (by first | rfl | simp only [reduceCtorEq, Nat.reduceEqDiff, ak, g28]) rfl (by intro R hR hh; cases hR; cases hh.2)) rfl (by rfl) (.inl ⟨rfl, by first | rfl | simp only [reduceCtorEq, Nat.reduceEqDiff, ak, akF, Nat.zero_add, List.append_nil]⟩)) (by rfl) (mapT_killNil _ _) (by rfl) (by rfl) (by first | rfl | simp only [reduceCtorEq, Nat.reduceEqDiff, ak, akF, Nat.zero_add, List.append_nil]) ?_
     simp +decide only [Nat.reduceAdd, Nat.reduceMul, Int.reduceToNat, ak]
     refine alt_e ?_
     ·simp +decide only [Nat.reduceAdd, Nat.reduceMul, Int.reduceToNat, ak]
      refine call_m [(.arg 0, ⟨(.arg 0), [], none, .box⟩), (.arg 1, ⟨(.arg 1), [], none, .fz⟩)] (s0 := [(.arg 0, ⟨.box, 0, [.ref (.arg 1) [] o1 l0_0.length, .sc (.int .i64 t36.2.1), .sc (.int .u64 t36.2.2)]⟩), (.arg 1, ⟨.fz, 1, cs1⟩)]) (by intro t ht; cases ht; decide) rfl rfl (by first | rfl | simp only [reduceCtorEq, Nat.reduceEqDiff, ak, akF, g28]) (spec_l1Next.tri (cs1) o1 l0_0 hv1 t36.2.1 t36.2.2 6 _ h40) (by first | rfl | simp only [reduceCtorEq, Nat.reduceEqDiff, ak, akF]) (by simp [bkOk2, memK]) (fun hl44 => ?_)
      refine call_st (s4 := [(.arg 0, ⟨.box, 0, [.ref (.arg 1) [] o1 l0_0.length, .sc (.int .i64 t39.2.1), .sc (.int .u64 t39.2.2)]⟩), (.arg 1, ⟨.fz, 1, cs1⟩), (.tmp 20 0, ⟨.lst, 4, encL c116 x0_8⟩), (.tmp 12 0, ⟨.box, 0, [.sc (.int .u64 x0_9), .sc (.int .i64 x0_10), .own 1 x0_11.length (encL c_i64 x0_11), .sc (.int .i64 x0_12), .sc (.int .u64 x0_13), .sc (.bool x0_14)]⟩), (.tmp 16 0, ⟨.box, 0, [.sc (.int .i64 1), .sc (.int .u64 0), .own 1 0 (encL c_u8 ([] : List Int)), .sc (.int .i64 0)]⟩)]) (m1' := []) (m2' := []) (v' := .c (.sc (.int .i64 t39.1))) (Sto.mapN_killNil _ _) (mrgL_whole (new' := [.ref (.arg 1) [] o1 l0_0.length, .sc (.int .i64 t39.2.1), .sc (.int .u64 t39.2.2)]) (mrgL_fz (mrgL_nil' _ _ _) rfl (by first | rfl | simp only [reduceCtorEq, Nat.reduceEqDiff, ak, g28]) rfl (by intro R hR hh; cases hR; cases hh.2)) rfl (by rfl) (.inl ⟨rfl, by first | rfl | simp only [reduceCtorEq, Nat.reduceEqDiff, ak, akF, Nat.zero_add, List.append_nil]⟩)) (by rfl) (mapT_killNil _ _) (by rfl) (by rfl) (by first | rfl | simp only [reduceCtorEq, Nat.reduceEqDiff, ak, akF, Nat.zero_add, List.append_nil]) ?_
      simp +decide only [Nat.reduceAdd, Nat.reduceMul, Int.reduceToNat, ak]
      refine hJ35 _ ?_
      obtain ⟨j46, h47, hn⟩ := of_bind h
      refine seq_j (fun st => st = ⟨[(0, .c (.ptr (.arg 0) [] 0)), (1, .c (.sc (.int .u64 x0_0))), (2, .c (.sc (.int .i64 x0_1))), (3, .c (.sc (.int .i64 x0_2))), (4, .c (.sc (.bool x0_3))), (11, .c (.ref (.tmp 20 0) [] 0 x0_8.length)), (12, .c (.ptr (.tmp 12 0) [] 0)), (13, .c (.sc (.int .i64 x0_4))), (14, .c (.sc (.int .i64 x0_5))), (16, .c (.ptr (.tmp 16 0) [] 0)), (17, .c (.sc (.int .i64 j46.1)))], [(.arg 0, ⟨.box, 0, [.ref (.arg 1) [] o1 l0_0.length, .sc (.int .i64 j46.2.1), .sc (.int .u64 j46.2.2)]⟩), (.arg 1, ⟨.fz, 1, cs1⟩), (.tmp 20 0, ⟨.lst, 4, encL c116 x0_8⟩), (.tmp 12 0, ⟨.box, 0, [.sc (.int .u64 x0_9), .sc (.int .i64 x0_10), .own 1 x0_11.length (encL c_i64 x0_11), .sc (.int .i64 x0_12), .sc (.int .u64 x0_13), .sc (.bool x0_14)]⟩), (.tmp 16 0, ⟨.box, 0, [.sc (.int .i64 1), .sc (.int .u64 0), .own 1 0 (encL c_u8 ([] : List Int)), .sc (.int .i64 0)]⟩)], [], []⟩) (fun J48 hJ48 => ?_) ?_
      ·replace h := h47; clear hn
       refine ga_k fun G49 G49n G49r G49x => ?_
       refine sr_k fun J50 hJ50 => ?_
       simp +decide only [Nat.reduceAdd, Nat.reduceMul, Int.reduceToNat, ak]
       obtain ⟨t51, h52, h⟩ := of_bind h
       refine call_m [(.arg 0, ⟨(.arg 0), [], none, .box⟩), (.arg 1, ⟨(.arg 1), [], none, .fz⟩)] (s0 := [(.arg 0, ⟨.box, 0, [.ref (.arg 1) [] o1 l0_0.length, .sc (.int .i64 t39.2.1), .sc (.int .u64 t39.2.2)]⟩), (.arg 1, ⟨.fz, 1, cs1⟩)]) (by intro t ht; cases ht; decide) rfl rfl (by first | rfl | simp only [reduceCtorEq, Nat.reduceEqDiff, ak, akF, g28]) (spec_l1Next.tri (cs1) o1 l0_0 hv1 t39.2.1 t39.2.2 2 _ h52) (by first | rfl | simp only [reduceCtorEq, Nat.reduceEqDiff, ak, akF]) (by simp [bkOk2, memK]) (fun hl52 => ?_)
       refine call_st (s4 := [(.arg 0, ⟨.box, 0, [.ref (.arg 1) [] o1 l0_0.length, .sc (.int .i64 t51.2.1), .sc (.int .u64 t51.2.2)]⟩), (.arg 1, ⟨.fz, 1, cs1⟩), (.tmp 20 0, ⟨.lst, 4, encL c116 x0_8⟩), (.tmp 12 0, ⟨.box, 0, [.sc (.int .u64 x0_9), .sc (.int .i64 x0_10), .own 1 x0_11.length (encL c_i64 x0_11), .sc (.int .i64 x0_12), .sc (.int .u64 x0_13), .sc (.bool x0_14)]⟩), (.tmp 16 0, ⟨.box, 0, [.sc (.int .i64 1), .sc (.int .u64 0), .own 1 0 (encL c_u8 ([] : List Int)), .sc (.int .i64 0)]⟩)]) (m1' := []) (m2' := []) (v' := .c (.sc (.int .i64 t51.1))) (Sto.mapN_killNil _ _) (mrgL_whole (new' := [.ref (.arg 1) [] o1 l0_0.length, .sc (.int .i64 t51.2.1), .sc (.int .u64 t51.2.2)]) (mrgL_fz (mrgL_nil' _ _ _) rfl (by first | rfl | simp only [reduceCtorEq, Nat.reduceEqDiff, ak, g28]) rfl (by intro R hR hh; cases hR; cases hh.2)) rfl (by rfl) (.inl ⟨rfl, by first | rfl | simp only [reduceCtorEq, Nat.reduceEqDiff, ak, akF, Nat.zero_add, List.append_nil]⟩)) (by rfl) (mapT_killNil _ _) (by rfl) (by rfl) (by first | rfl | simp only [reduceCtorEq, Nat.reduceEqDiff, ak, akF, Nat.zero_add, List.append_nil]) ?_
       simp +decide only [Nat.reduceAdd, Nat.reduceMul, Int.reduceToNat, ak]
       refine hJ50 _ ?_
       refine cond_k (b := decide (t51.1 = 0)) rfl (fun c54 => ?_) (fun c54 => ?_)
       ·replace c54 := of_decide_eq_true c54; rw [if_pos c54] at h
        refine reg_k ?_
        simp +decide only [Nat.reduceAdd, Nat.reduceMul, Int.reduceToNat, ak]
        obtain ⟨t55, h56, h⟩ := of_bind h
        refine call_m [(.arg 0, ⟨(.tmp 12 0), [], none, .box⟩)] (s0 := [(.arg 0, ⟨.box, 0, [.sc (.int .u64 x0_9), .sc (.int .i64 x0_10), .own 1 x0_11.length (encL c_i64 x0_11), .sc (.int .i64 x0_12), .sc (.int .u64 x0_13), .sc (.bool x0_14)]⟩)]) (by intro t ht; cases ht; decide) rfl rfl (by first | rfl | simp only [reduceCtorEq, Nat.reduceEqDiff, ak, akF, g28]) (spec_l5Next.tri x0_9 x0_10 x0_11 x0_12 x0_13 x0_14 _ h56) (by first | rfl | simp only [reduceCtorEq, Nat.reduceEqDiff, ak, akF]) (by simp [bkOk2, memK]) (fun hl56 => ?_)
        refine call_st (s4 := [(.arg 0, ⟨.box, 0, [.ref (.arg 1) [] o1 l0_0.length, .sc (.int .i64 t51.2.1), .sc (.int .u64 t51.2.2)]⟩), (.arg 1, ⟨.fz, 1, cs1⟩), (.tmp 20 0, ⟨.lst, 4, encL c116 x0_8⟩), (.tmp 12 0, ⟨.box, 0, [.sc (.int .u64 x0_9), .sc (.int .i64 x0_10), .own 1 x0_11.length (encL c_i64 x0_11), .sc (.int .i64 x0_12), .sc (.int .u64 x0_13), .sc (.bool x0_14)]⟩), (.tmp 16 0, ⟨.box, 0, [.sc (.int .i64 1), .sc (.int .u64 0), .own 1 0 (encL c_u8 ([] : List Int)), .sc (.int .i64 0)]⟩)]) (m1' := []) (m2' := []) (v' := .c (.sc (.int .i64 t55))) (Sto.mapN_killNil _ _) (mrgL_whole (new' := [.sc (.int .u64 x0_9), .sc (.int .i64 x0_10), .own 1 x0_11.length (encL c_i64 x0_11), .sc (.int .i64 x0_12), .sc (.int .u64 x0_13), .sc (.bool x0_14)]) (mrgL_nil' _ _ _) rfl (by rfl) (.inl ⟨rfl, by first | rfl | simp only [reduceCtorEq, Nat.reduceEqDiff, ak, akF, Nat.zero_add, List.append_nil]⟩)) (by rfl) (mapT_killNil _ _) (by rfl) (by rfl) (by first | rfl | simp only [reduceCtorEq, Nat.reduceEqDiff, ak, akF, Nat.zero_add, List.append_nil]) ?_
        simp +decide only [Nat.reduceAdd, Nat.reduceMul, Int.reduceToNat, ak]
        obtain ⟨t58, h59, h⟩ := of_bind h
        refine call_m [(.arg 0, ⟨(.arg 0), [], none, .box⟩), (.arg 1, ⟨(.arg 1), [], none, .fz⟩)] (s0 := [(.arg 0, ⟨.box, 0, [.ref (.arg 1) [] o1 l0_0.length, .sc (.int .i64 t51.2.1), .sc (.int .u64 t51.2.2)]⟩), (.arg 1, ⟨.fz, 1, cs1⟩)]) (by intro t ht; cases ht; decide) rfl rfl (by first | rfl | simp only [reduceCtorEq, Nat.reduceEqDiff, ak, akF, g28]) (spec_l1Next.tri (cs1) o1 l0_0 hv1 t51.2.1 t51.2.2 3 _ h59) (by first | rfl | simp only [reduceCtorEq, Nat.reduceEqDiff, ak, akF]) (by simp [bkOk2, memK]) (fun hl59 => ?_)
        refine call_st (s4 := [(.arg 0, ⟨.box, 0, [.ref (.arg 1) [] o1 l0_0.length, .sc (.int .i64 t58.2.1), .sc (.int .u64 t58.2.2)]⟩), (.arg 1, ⟨.fz, 1, cs1⟩), (.tmp 20 0, ⟨.lst, 4, encL c116 x0_8⟩), (.tmp 12 0, ⟨.box, 0, [.sc (.int .u64 x0_9), .sc (.int .i64 x0_10), .own 1 x0_11.length (encL c_i64 x0_11), .sc (.int .i64 x0_12), .sc (.int .u64 x0_13), .sc (.bool x0_14)]⟩), (.tmp 16 0, ⟨.box, 0, [.sc (.int .i64 1), .sc (.int .u64 0), .own 1 0 (encL c_u8 ([] : List Int)), .sc (.int .i64 0)]⟩)]) (m1' := []) (m2' := []) (v' := .c (.sc (.int .i64 t58.1))) (Sto.mapN_killNil _ _) (mrgL_whole (new' := [.ref (.arg 1) [] o1 l0_0.length, .sc (.int .i64 t58.2.1), .sc (.int .u64 t58.2.2)]) (mrgL_fz (mrgL_nil' _ _ _) rfl (by first | rfl | simp only [reduceCtorEq, Nat.reduceEqDiff, ak, g28]) rfl (by intro R hR hh; cases hR; cases hh.2)) rfl (by rfl) (.inl ⟨rfl, by first | rfl | simp only [reduceCtorEq, Nat.reduceEqDiff, ak, akF, Nat.zero_add, List.append_nil]⟩)) (by rfl) (mapT_killNil _ _) (by rfl) (by rfl) (by first | rfl | simp only [reduceCtorEq, Nat.reduceEqDiff, ak, akF, Nat.zero_add, List.append_nil]) ?_
        simp +decide only [Nat.reduceAdd, Nat.reduceMul, Int.reduceToNat, ak]
        obtain rfl := Option.some.inj h
        refine G49n _ _ (wk [0, 1, 2, 3, 4, 11, 12, 13, 14, 16, 17] [pI (.arg 0) .box, pI (.arg 1) .fz, pI (.tmp 20 0) .lst, pI (.tmp 12 0) .box, pI (.tmp 16 0) .box] (h := by first | rfl | (simp +decide only [ak, akF]; done) | (simp +decide [ak, akF] <;> omega))) (hJ48 _ rfl)
       ·replace c54 := of_decide_eq_false c54; rw [if_neg c54] at h
        obtain rfl := Option.some.inj h
        refine G49n _ _ (wk [0, 1, 2, 3, 4, 11, 12, 13, 14, 16, 17] [pI (.arg 0) .box, pI (.arg 1) .fz, pI (.tmp 20 0) .lst, pI (.tmp 12 0) .box, pI (.tmp 16 0) .box] (h := by first | rfl | (simp +decide only [ak, akF]; done) | (simp +decide [ak, akF] <;> omega))) (hJ48 _ rfl)
      ·replace h := hn; clear hn h47
       rintro _ rfl
       obtain ⟨j61, h62, hn⟩ := of_bind h
       refine seq_j (fun st => st = ⟨[(0, .c (.ptr (.arg 0) [] 0)), (1, .c (.sc (.int .u64 x0_0))), (2, .c (.sc (.int .i64 x0_1))), (3, .c (.sc (.int .i64 x0_2))), (4, .c (.sc (.bool x0_3))), (11, .c (.ref (.tmp 20 0) [] 0 x0_8.length)), (12, .c (.ptr (.tmp 12 0) [] 0)), (13, .c (.sc (.int .i64 x0_4))), (14, .c (.sc (.int .i64 x0_5))), (16, .c (.ptr (.tmp 16 0) [] 0)), (17, .c (.sc (.int .i64 j61)))], [(.arg 0, ⟨.box, 0, [.ref (.arg 1) [] o1 l0_0.length, .sc (.int .i64 j46.2.1), .sc (.int .u64 j46.2.2)]⟩), (.arg 1, ⟨.fz, 1, cs1⟩), (.tmp 20 0, ⟨.lst, 4, encL c116 x0_8⟩), (.tmp 12 0, ⟨.box, 0, [.sc (.int .u64 x0_9), .sc (.int .i64 x0_10), .own 1 x0_11.length (encL c_i64 x0_11), .sc (.int .i64 x0_12), .sc (.int .u64 x0_13), .sc (.bool x0_14)]⟩), (.tmp 16 0, ⟨.box, 0, [.sc (.int .i64 1), .sc (.int .u64 0), .own 1 0 (encL c_u8 ([] : List Int)), .sc (.int .i64 0)]⟩)], [], []⟩) (fun J63 hJ63 => ?_) ?_
       ·replace h := h62; clear hn
        refine ga_k fun G64 G64n G64r G64x => ?_
        refine sr_k fun J65 hJ65 => ?_
        simp +decide only [Nat.reduceAdd, Nat.reduceMul, Int.reduceToNat, ak]
        refine hJ65 _ ?_
        refine cond_k (b := decide (j46.1 < 0)) rfl (fun c66 => ?_) (fun c66 => ?_)
        ·replace c66 := of_decide_eq_true c66; rw [if_pos c66] at h
         refine reg_k ?_
         simp +decide only [Nat.reduceAdd, Nat.reduceMul, Int.reduceToNat, ak]
         obtain rfl := Option.some.inj h
         refine G64n _ _ (wk [0, 1, 2, 3, 4, 11, 12, 13, 14, 16, 17] [pI (.arg 0) .box, pI (.arg 1) .fz, pI (.tmp 20 0) .lst, pI (.tmp 12 0) .box, pI (.tmp 16 0) .box] (h := by first | rfl | (simp +decide only [ak, akF]; done) | (simp +decide [ak, akF] <;> omega))) (hJ63 _ rfl)
        ·replace c66 := of_decide_eq_false c66; rw [if_neg c66] at h
         obtain rfl := Option.some.inj h
         refine G64n _ _ (wk [0, 1, 2, 3, 4, 11, 12, 13, 14, 16, 17] [pI (.arg 0) .box, pI (.arg 1) .fz, pI (.tmp 20 0) .lst, pI (.tmp 12 0) .box, pI (.tmp 16 0) .box] (h := by first | rfl | (simp +decide only [ak, akF]; done) | (simp +decide [ak, akF] <;> omega))) (hJ63 _ rfl)
       ·replace h := hn; clear hn h62
        rintro _ rfl
        refine sr_k fun J67 hJ67 => ?_
        simp +decide only [Nat.reduceAdd, Nat.reduceMul, Int.reduceToNat, ak]
        obtain ⟨t68, h69, h⟩ := of_bind h
        refine call_m [(.arg 0, ⟨(.arg 0), [], none, .box⟩), (.arg 1, ⟨(.arg 1), [], none, .fz⟩)] (s0 := [(.arg 0, ⟨.box, 0, [.ref (.arg 1) [] o1 l0_0.length, .sc (.int .i64 j46.2.1), .sc (.int .u64 j46.2.2)]⟩), (.arg 1, ⟨.fz, 1, cs1⟩)]) (by intro t ht; cases ht; decide) rfl rfl (by first | rfl | simp only [reduceCtorEq, Nat.reduceEqDiff, ak, akF, g28]) (spec_l1Next.tri (cs1) o1 l0_0 hv1 j46.2.1 j46.2.2 12 _ h69) (by first | rfl | simp only [reduceCtorEq, Nat.reduceEqDiff, ak, akF]) (by simp [bkOk2, memK]) (fun hl69 => ?_)
        refine call_st (s4 := [(.arg 0, ⟨.box, 0, [.ref (.arg 1) [] o1 l0_0.length, .sc (.int .i64 t68.2.1), .sc (.int .u64 t68.2.2)]⟩), (.arg 1, ⟨.fz, 1, cs1⟩), (.tmp 20 0, ⟨.lst, 4, encL c116 x0_8⟩), (.tmp 12 0, ⟨.box, 0, [.sc (.int .u64 x0_9), .sc (.int .i64 x0_10), .own 1 x0_11.length (encL c_i64 x0_11), .sc (.int .i64 x0_12), .sc (.int .u64 x0_13), .sc (.bool x0_14)]⟩), (.tmp 16 0, ⟨.box, 0, [.sc (.int .i64 1), .sc (.int .u64 0), .own 1 0 (encL c_u8 ([] : List Int)), .sc (.int .i64 0)]⟩)]) (m1' := []) (m2' := []) (v' := .c (.sc (.int .i64 t68.1))) (Sto.mapN_killNil _ _) (mrgL_whole (new' := [.ref (.arg 1) [] o1 l0_0.length, .sc (.int .i64 t68.2.1), .sc (.int .u64 t68.2.2)]) (mrgL_fz (mrgL_nil' _ _ _) rfl (by first | rfl | simp only [reduceCtorEq, Nat.reduceEqDiff, ak, g28]) rfl (by intro R hR hh; cases hR; cases hh.2)) rfl (by rfl) (.inl ⟨rfl, by first | rfl | simp only [reduceCtorEq, Nat.reduceEqDiff, ak, akF, Nat.zero_add, List.append_nil]⟩)) (by rfl) (mapT_killNil _ _) (by rfl) (by rfl) (by first | rfl | simp only [reduceCtorEq, Nat.reduceEqDiff, ak, akF, Nat.zero_add, List.append_nil]) ?_
        simp +decide only [Nat.reduceAdd, Nat.reduceMul, Int.reduceToNat, ak]
        refine hJ67 _ ?_
        refine seq_k fun J71 hJ71 => ?_
        refine sr_k fun J72 hJ72 => ?_
        simp +decide only [Nat.reduceAdd, Nat.reduceMul, Int.reduceToNat, ak]
        refine hJ72 _ ?_
        refine block_k fun B73 B73n B73x B73r B73j => ?_
        obtain ⟨y161, h162, h⟩ := of_bind h
        refine gh_k (st' := ⟨[(0, .c (.ptr (.arg 0) [] 0)), (1, .c (.sc (.int .u64 x0_0))), (2, .c (.sc (.int .i64 x0_1))), (3, .c (.sc (.int .i64 x0_2))), (4, .c (.sc (.bool x0_3))), (11, .c (.ref (.tmp 20 0) [] 0 x0_8.length)), (12, .c (.ptr (.tmp 12 0) [] 0)), (13, .c (.sc (.int .i64 x0_4))), (14, .c (.sc (.int .i64 x0_5))), (16, .c (.ptr (.tmp 16 0) [] 0)), (17, .c (.sc (.int .i64 j61))), (18, .c (.sc (.int .i64 (IntKind.i64.wrap (1 + t68.1))))), (19, .c (.sc (.int .i64 j61)))], [(.arg 0, ⟨.box, 0, [.ref (.arg 1) [] o1 l0_0.length, .sc (.int .i64 t68.2.1), .sc (.int .u64 t68.2.2)]⟩), (.arg 1, ⟨.fz, 1, cs1⟩), (.tmp 20 0, ⟨.lst, 4, encL c116 x0_8⟩), (.tmp 12 0, ⟨.box, 0, [.sc (.int .u64 x0_9), .sc (.int .i64 x0_10), .own 1 x0_11.length (encL c_i64 x0_11), .sc (.int .i64 x0_12), .sc (.int .u64 x0_13), .sc (.bool x0_14)]⟩), (.tmp 16 0, ⟨.box, 0, [.sc (.int .i64 1), .sc (.int .u64 0), .own 1 (([] : List Int).length) (encL c_u8 ([] : List Int)), .sc (.int .i64 0)]⟩)], [], []⟩) (wk [0, 1, 2, 3, 4, 11, 12, 13, 14, 16, 17, 18, 19] [pI (.arg 0) .box, pI (.arg 1) .fz, pI (.tmp 20 0) .lst, pI (.tmp 12 0) .box, pI (.tmp 16 0) .box] (h := by first | rfl | (simp +decide only [ak, akF]; done) | (simp +decide [ak, akF] <;> omega))) ?_
        rw [e_loop]
        refine spec_l5DrawEvents.l1_walk cs1 o1 l0_0 hv1 x0_0 x0_1 x0_2 x0_3 x0_4 x0_5 j61 (IntKind.i64.wrap (1 + t68.1)) t68.2.1 t68.2.2 x0_8 x0_9 x0_10 x0_11 x0_12 x0_13 x0_14 1 0 0 j61 ([] : List Int) _ h162 _ ?_
        refine B73x _ ?_
        refine hJ71 _ ?_
        refine reg_k ?_
        simp +decide only [Nat.reduceAdd, Nat.reduceMul, Int.reduceToNat, ak]
        obtain rfl := Option.some.inj h
        refine G32n _ _ (wk [0, 1, 2, 3, 4, 11, 12, 13, 14, 16] [pI (.arg 0) .box, pI (.arg 1) .fz, pI (.tmp 20 0) .lst, pI (.tmp 12 0) .box, pI (.tmp 16 0) .box]) (hJ31 _ rfl)
   ·replace c34 := of_decide_eq_false c34; rw [if_neg c34] at h
    refine sr_k fun J163 hJ163 => ?_
    simp +decide only [Nat.reduceAdd, Nat.reduceMul, Int.reduceToNat, ak]
    refine hJ163 _ ?_
    refine cond_k (b := decide (t24.1 < 90)) rfl (fun c164 => ?_) (fun c164 => ?_)
    ·replace c164 := of_decide_eq_true c164; rw [if_pos c164] at h
     refine sr_k fun J165 hJ165 => ?_
     simp +decide only [Nat.reduceAdd, Nat.reduceMul, Int.reduceToNat, ak]
     refine hJ165 _ ?_
     refine reg_k ?_
     simp +decide only [Nat.reduceAdd, Nat.reduceMul, Int.reduceToNat, ak]
     obtain ⟨t166, h167, h⟩ := of_bind h
     refine call_m [(.arg 0, ⟨(.arg 0), [], none, .box⟩), (.arg 1, ⟨(.arg 1), [], none, .fz⟩)] (s0 := [(.arg 0, ⟨.box, 0, [.ref (.arg 1) [] o1 l0_0.length, .sc (.int .i64 t24.2.1), .sc (.int .u64 t24.2.2)]⟩), (.arg 1, ⟨.fz, 1, cs1⟩)]) (by intro t ht; cases ht; decide) rfl rfl (by first | rfl | simp only [reduceCtorEq, Nat.reduceEqDiff, ak, akF, g28]) (spec_l1Next.tri (cs1) o1 l0_0 hv1 t24.2.1 t24.2.2 20 _ h167) (by first | rfl | simp only [reduceCtorEq, Nat.reduceEqDiff, ak, akF]) (by simp [bkOk2, memK]) (fun hl167 => ?_)
     refine call_st (s4 := [(.arg 0, ⟨.box, 0, [.ref (.arg 1) [] o1 l0_0.length, .sc (.int .i64 t166.2.1), .sc (.int .u64 t166.2.2)]⟩), (.arg 1, ⟨.fz, 1, cs1⟩), (.tmp 20 0, ⟨.lst, 4, encL c116 x0_8⟩), (.tmp 12 0, ⟨.box, 0, [.sc (.int .u64 x0_9), .sc (.int .i64 x0_10), .own 1 x0_11.length (encL c_i64 x0_11), .sc (.int .i64 x0_12), .sc (.int .u64 x0_13), .sc (.bool x0_14)]⟩), (.tmp 16 0, ⟨.box, 0, [.sc (.int .i64 2), .sc (.int .u64 0), .own 1 0 (encL c_u8 ([] : List Int)), .sc (.int .i64 0)]⟩)]) (m1' := []) (m2' := []) (v' := .c (.sc (.int .i64 t166.1))) (Sto.mapN_killNil _ _) (mrgL_whole (new' := [.ref (.arg 1) [] o1 l0_0.length, .sc (.int .i64 t166.2.1), .sc (.int .u64 t166.2.2)]) (mrgL_fz (mrgL_nil' _ _ _) rfl (by first | rfl | simp only [reduceCtorEq, Nat.reduceEqDiff, ak, g28]) rfl (by intro R hR hh; cases hR; cases hh.2)) rfl (by rfl) (.inl ⟨rfl, by first | rfl | simp only [reduceCtorEq, Nat.reduceEqDiff, ak, akF, Nat.zero_add, List.append_nil]⟩)) (by rfl) (mapT_killNil _ _) (by rfl) (by rfl) (by first | rfl | simp only [reduceCtorEq, Nat.reduceEqDiff, ak, akF, Nat.zero_add, List.append_nil]) ?_
     simp +decide only [Nat.reduceAdd, Nat.reduceMul, Int.reduceToNat, ak]
     obtain rfl := Option.some.inj h
     refine G32n _ _ (wk [0, 1, 2, 3, 4, 11, 12, 13, 14, 16] [pI (.arg 0) .box, pI (.arg 1) .fz, pI (.tmp 20 0) .lst, pI (.tmp 12 0) .box, pI (.tmp 16 0) .box] (h := by first | rfl | (simp +decide only [ak, akF]; done) | (simp +decide [ak, akF] <;> omega))) (hJ31 _ rfl)
    ·replace c164 := of_decide_eq_false c164; rw [if_neg c164] at h
     obtain ⟨j169, h170, hn⟩ := of_bind h
     refine seq_j (fun st => st = ⟨[(0, .c (.ptr (.arg 0) [] 0)), (1, .c (.sc (.int .u64 x0_0))), (2, .c (.sc (.int .i64 x0_1))), (3, .c (.sc (.int .i64 x0_2))), (4, .c (.sc (.bool x0_3))), (11, .c (.ref (.tmp 20 0) [] 0 x0_8.length)), (12, .c (.ptr (.tmp 12 0) [] 0)), (13, .c (.sc (.int .i64 x0_4))), (14, .c (.sc (.int .i64 x0_5))), (16, .c (.ptr (.tmp 16 0) [] 0)), (108, .c (.sc (.bool j169)))], [(.arg 0, ⟨.box, 0, [.ref (.arg 1) [] o1 l0_0.length, .sc (.int .i64 t24.2.1), .sc (.int .u64 t24.2.2)]⟩), (.arg 1, ⟨.fz, 1, cs1⟩), (.tmp 20 0, ⟨.lst, 4, encL c116 x0_8⟩), (.tmp 12 0, ⟨.box, 0, [.sc (.int .u64 x0_9), .sc (.int .i64 x0_10), .own 1 x0_11.length (encL c_i64 x0_11), .sc (.int .i64 x0_12), .sc (.int .u64 x0_13), .sc (.bool x0_14)]⟩), (.tmp 16 0, ⟨.box, 0, [.sc (.int .i64 1), .sc (.int .u64 0), .own 1 0 (encL c_u8 ([] : List Int)), .sc (.int .i64 0)]⟩)], [], []⟩) (fun J171 hJ171 => ?_) ?_
     ·replace h := h170; clear hn
      refine ga_k fun G172 G172n G172r G172x => ?_
      refine reg_k ?_
      simp +decide only [Nat.reduceAdd, Nat.reduceMul, Int.reduceToNat, ak]
      by_cases c173 : t24.1 < 96
      ·rw [if_pos c173] at h
       have e174 : decide (t24.1 < 96) = true := decide_eq_true c173
       simp +decide only [Nat.reduceAdd, Nat.reduceMul, Int.reduceToNat, ak, e174]
       by_cases c175 : IntKind.i64.wrap (x0_12 + x0_1) ≥ x0_4
       ·rw [if_pos c175] at h
        have e176 : decide (IntKind.i64.wrap (x0_12 + x0_1) ≥ x0_4) = true := decide_eq_true c175
        simp +decide only [Nat.reduceAdd, Nat.reduceMul, Int.reduceToNat, ak, e176]
        obtain rfl := Option.some.inj h
        refine G172n _ _ (wk [0, 1, 2, 3, 4, 11, 12, 13, 14, 16, 108] [pI (.arg 0) .box, pI (.arg 1) .fz, pI (.tmp 20 0) .lst, pI (.tmp 12 0) .box, pI (.tmp 16 0) .box] (h0 := by first | rfl | simp +decide only [ak, akF, e174, e176]) (h := by first | rfl | (simp +decide only [ak, akF, e174, e176]; done) | (simp +decide [ak, akF, e174, e176] <;> omega))) (hJ171 _ rfl)
       ·rw [if_neg c175] at h
        have e177 : decide (IntKind.i64.wrap (x0_12 + x0_1) ≥ x0_4) = false := decide_eq_false c175
        simp +decide only [Nat.reduceAdd, Nat.reduceMul, Int.reduceToNat, ak, e177]
        obtain rfl := Option.some.inj h
        refine G172n _ _ (wk [0, 1, 2, 3, 4, 11, 12, 13, 14, 16, 108] [pI (.arg 0) .box, pI (.arg 1) .fz, pI (.tmp 20 0) .lst, pI (.tmp 12 0) .box, pI (.tmp 16 0) .box] (h0 := by first | rfl | simp +decide only [ak, akF, e174, e177]) (h := by first | rfl | (simp +decide only [ak, akF, e174, e177]; done) | (simp +decide [ak, akF, e174, e177] <;> omega))) (hJ171 _ rfl)
      ·rw [if_neg c173] at h
       have e178 : decide (t24.1 < 96) = false := decide_eq_false c173
       simp +decide only [Nat.reduceAdd, Nat.reduceMul, Int.reduceToNat, ak, e178]
       obtain rfl := Option.some.inj h
       refine G172n _ _ (wk [0, 1, 2, 3, 4, 11, 12, 13, 14, 16, 108] [pI (.arg 0) .box, pI (.arg 1) .fz, pI (.tmp 20 0) .lst, pI (.tmp 12 0) .box, pI (.tmp 16 0) .box] (h0 := by first | rfl | simp +decide only [ak, akF, e178]) (h := by first | rfl | (simp +decide only [ak, akF, e178]; done) | (simp +decide [ak, akF, e178] <;> omega))) (hJ171 _ rfl)
     ·replace h := hn; clear hn h170
      rintro _ rfl
      refine cond_k (b := j169) rfl (fun c179 => ?_) (fun c179 => ?_)
      ·rw [if_pos c179] at h
       refine sr_k fun J180 hJ180 => ?_
       simp +decide only [Nat.reduceAdd, Nat.reduceMul, Int.reduceToNat, ak]
       refine hJ180 _ ?_
       refine reg_k ?_
       simp +decide only [Nat.reduceAdd, Nat.reduceMul, Int.reduceToNat, ak]
       obtain rfl := Option.some.inj h
       refine G32n _ _ (wk [0, 1, 2, 3, 4, 11, 12, 13, 14, 16] [pI (.arg 0) .box, pI (.arg 1) .fz, pI (.tmp 20 0) .lst, pI (.tmp 12 0) .box, pI (.tmp 16 0) .box] (h := by first | rfl | (simp +decide only [ak, akF]; done) | (simp +decide [ak, akF] <;> omega))) (hJ31 _ rfl)
      ·rw [if_neg (Bool.eq_false_iff.1 c179)] at h
       obtain rfl := Option.some.inj h
       refine G32n _ _ (wk [0, 1, 2, 3, 4, 11, 12, 13, 14, 16] [pI (.arg 0) .box, pI (.arg 1) .fz, pI (.tmp 20 0) .lst, pI (.tmp 12 0) .box, pI (.tmp 16 0) .box] (h := by first | rfl | (simp +decide only [ak, akF]; done) | (simp +decide [ak, akF] <;> omega))) (hJ31 _ rfl)
  ·replace h := hn; clear hn h30
   rintro _ rfl
   obtain ⟨j181, h182, hn⟩ := of_bind h
   refine seq_j (fun st => st = ⟨[(0, .c (.ptr (.arg 0) [] 0)), (1, .c (.sc (.int .u64 x0_0))), (2, .c (.sc (.int .i64 x0_1))), (3, .c (.sc (.int .i64 x0_2))), (4, .c (.sc (.bool x0_3))), (11, .c (.ref (.tmp 20 0) [] 0 x0_8.length)), (12, .c (.ptr (.tmp 12 0) [] 0)), (13, .c (.sc (.int .i64 x0_4))), (14, .c (.sc (.int .i64 x0_5))), (16, .c (.ptr (.tmp 16 0) [] 0))], [(.arg 0, ⟨.box, 0, [.ref (.arg 1) [] o1 l0_0.length, .sc (.int .i64 j181.1), .sc (.int .u64 j181.2.1)]⟩), (.arg 1, ⟨.fz, 1, cs1⟩), (.tmp 20 0, ⟨.lst, 4, encL c116 x0_8⟩), (.tmp 12 0, ⟨.box, 0, [.sc (.int .u64 x0_9), .sc (.int .i64 x0_10), .own 1 x0_11.length (encL c_i64 x0_11), .sc (.int .i64 x0_12), .sc (.int .u64 x0_13), .sc (.bool x0_14)]⟩), (.tmp 16 0, ⟨.box, 0, [.sc (.int .i64 j181.2.2.1), .sc (.int .u64 j181.2.2.2.1), .own 1 j181.2.2.2.2.1.length (encL c_u8 j181.2.2.2.2.1), .sc (.int .i64 j181.2.2.2.2.2)]⟩)], [], []⟩) (fun J183 hJ183 => ?_) ?_
   ·replace h := h182; clear hn
    refine ga_k fun G184 G184n G184r G184x => ?_
    obtain ⟨j185, h186, hn⟩ := of_bind h
    refine seq_j (fun st => st = ⟨[(0, .c (.ptr (.arg 0) [] 0)), (1, .c (.sc (.int .u64 x0_0))), (2, .c (.sc (.int .i64 x0_1))), (3, .c (.sc (.int .i64 x0_2))), (4, .c (.sc (.bool x0_3))), (11, .c (.ref (.tmp 20 0) [] 0 x0_8.length)), (12, .c (.ptr (.tmp 12 0) [] 0)), (13, .c (.sc (.int .i64 x0_4))), (14, .c (.sc (.int .i64 x0_5))), (16, .c (.ptr (.tmp 16 0) [] 0)), (121, .c (.sc (.bool j185.1)))], [(.arg 0, ⟨.box, 0, [.ref (.arg 1) [] o1 l0_0.length, .sc (.int .i64 j185.2.1), .sc (.int .u64 j185.2.2)]⟩), (.arg 1, ⟨.fz, 1, cs1⟩), (.tmp 20 0, ⟨.lst, 4, encL c116 x0_8⟩), (.tmp 12 0, ⟨.box, 0, [.sc (.int .u64 x0_9), .sc (.int .i64 x0_10), .own 1 x0_11.length (encL c_i64 x0_11), .sc (.int .i64 x0_12), .sc (.int .u64 x0_13), .sc (.bool x0_14)]⟩), (.tmp 16 0, ⟨.box, 0, [.sc (.int .i64 j29.2.2.1), .sc (.int .u64 j29.2.2.2.1), .own 1 j29.2.2.2.2.1.length (encL c_u8 j29.2.2.2.2.1), .sc (.int .i64 j29.2.2.2.2.2)]⟩)], [], []⟩) (fun J187 hJ187 => ?_) ?_
    ·replace h := h186; clear hn
     refine ga_k fun G188 G188n G188r G188x => ?_
     refine reg_k ?_
     simp +decide only [Nat.reduceAdd, Nat.reduceMul, Int.reduceToNat, ak]
     by_cases c189 : (!x0_3) = true
     ·rw [if_pos c189] at h
      have e190 : (!x0_3) = true := c189
      simp +decide only [Nat.reduceAdd, Nat.reduceMul, Int.reduceToNat, ak, e190]
      obtain ⟨t191, h192, h⟩ := of_bind h
      refine call_m [(.arg 0, ⟨(.arg 0), [], none, .box⟩), (.arg 1, ⟨(.arg 1), [], none, .fz⟩)] (s0 := [(.arg 0, ⟨.box, 0, [.ref (.arg 1) [] o1 l0_0.length, .sc (.int .i64 j29.1), .sc (.int .u64 j29.2.1)]⟩), (.arg 1, ⟨.fz, 1, cs1⟩)]) (by intro t ht; cases ht; decide) rfl rfl (by first | rfl | simp only [reduceCtorEq, Nat.reduceEqDiff, ak, akF, e190, g28]) (spec_l1Next.tri (cs1) o1 l0_0 hv1 j29.1 j29.2.1 14 _ h192) (by first | rfl | simp only [reduceCtorEq, Nat.reduceEqDiff, ak, akF]) (by simp [bkOk2, memK]) (fun hl192 => ?_)
      refine call_st (s4 := [(.arg 0, ⟨.box, 0, [.ref (.arg 1) [] o1 l0_0.length, .sc (.int .i64 t191.2.1), .sc (.int .u64 t191.2.2)]⟩), (.arg 1, ⟨.fz, 1, cs1⟩), (.tmp 20 0, ⟨.lst, 4, encL c116 x0_8⟩), (.tmp 12 0, ⟨.box, 0, [.sc (.int .u64 x0_9), .sc (.int .i64 x0_10), .own 1 x0_11.length (encL c_i64 x0_11), .sc (.int .i64 x0_12), .sc (.int .u64 x0_13), .sc (.bool x0_14)]⟩), (.tmp 16 0, ⟨.box, 0, [.sc (.int .i64 j29.2.2.1), .sc (.int .u64 j29.2.2.2.1), .own 1 j29.2.2.2.2.1.length (encL c_u8 j29.2.2.2.2.1), .sc (.int .i64 j29.2.2.2.2.2)]⟩)]) (m1' := []) (m2' := []) (v' := .c (.sc (.int .i64 t191.1))) (Sto.mapN_killNil _ _) (mrgL_whole (new' := [.ref (.arg 1) [] o1 l0_0.length, .sc (.int .i64 t191.2.1), .sc (.int .u64 t191.2.2)]) (mrgL_fz (mrgL_nil' _ _ _) rfl (by first | rfl | simp only [reduceCtorEq, Nat.reduceEqDiff, ak, e190, g28]) rfl (by intro R hR hh; cases hR; cases hh.2)) rfl (by rfl) (.inl ⟨rfl, by first | rfl | simp only [reduceCtorEq, Nat.reduceEqDiff, ak, akF, Nat.zero_add, List.append_nil, e190]⟩)) (by rfl) (mapT_killNil _ _) (by rfl) (by rfl) (by first | rfl | simp only [reduceCtorEq, Nat.reduceEqDiff, ak, akF, Nat.zero_add, List.append_nil, e190]) ?_
      simp +decide only [Nat.reduceAdd, Nat.reduceMul, Int.reduceToNat, ak]
      obtain rfl := Option.some.inj h
      refine G188n _ _ (wk [0, 1, 2, 3, 4, 11, 12, 13, 14, 16, 121] [pI (.arg 0) .box, pI (.arg 1) .fz, pI (.tmp 20 0) .lst, pI (.tmp 12 0) .box, pI (.tmp 16 0) .box] (h0 := by first | rfl | simp +decide only [ak, akF, e190]) (h := by first | rfl | (simp +decide only [ak, akF, e190]; done) | (simp +decide [ak, akF, e190] <;> omega))) (hJ187 _ rfl)
     ·rw [if_neg c189] at h
      have e194 : (!x0_3) = false := Bool.eq_false_iff.2 c189
      simp +decide only [Nat.reduceAdd, Nat.reduceMul, Int.reduceToNat, ak, e194]
      obtain rfl := Option.some.inj h
      refine G188n _ _ (wk [0, 1, 2, 3, 4, 11, 12, 13, 14, 16, 121] [pI (.arg 0) .box, pI (.arg 1) .fz, pI (.tmp 20 0) .lst, pI (.tmp 12 0) .box, pI (.tmp 16 0) .box] (h0 := by first | rfl | simp +decide only [ak, akF, e194]) (h := by first | rfl | (simp +decide only [ak, akF, e194]; done) | (simp +decide [ak, akF, e194] <;> omega))) (hJ187 _ rfl)
    ·replace h := hn; clear hn h186
     rintro _ rfl
     refine cond_k (b := j185.1) rfl (fun c195 => ?_) (fun c195 => ?_)
     ·rw [if_pos c195] at h
      refine sr_k fun J196 hJ196 => ?_
      simp +decide only [Nat.reduceAdd, Nat.reduceMul, Int.reduceToNat, ak]
      obtain ⟨t197, h198, h⟩ := of_bind h
      refine call_m [(.arg 0, ⟨(.arg 0), [], none, .box⟩), (.arg 1, ⟨(.arg 1), [], none, .fz⟩)] (s0 := [(.arg 0, ⟨.box, 0, [.ref (.arg 1) [] o1 l0_0.length, .sc (.int .i64 j185.2.1), .sc (.int .u64 j185.2.2)]⟩), (.arg 1, ⟨.fz, 1, cs1⟩)]) (by intro t ht; cases ht; decide) rfl rfl (by first | rfl | simp only [reduceCtorEq, Nat.reduceEqDiff, ak, akF, g28]) (spec_l1Next.tri (cs1) o1 l0_0 hv1 j185.2.1 j185.2.2 8 _ h198) (by first | rfl | simp only [reduceCtorEq, Nat.reduceEqDiff, ak, akF]) (by simp [bkOk2, memK]) (fun hl198 => ?_)
      refine call_st (s4 := [(.arg 0, ⟨.box, 0, [.ref (.arg 1) [] o1 l0_0.length, .sc (.int .i64 t197.2.1), .sc (.int .u64 t197.2.2)]⟩), (.arg 1, ⟨.fz, 1, cs1⟩), (.tmp 20 0, ⟨.lst, 4, encL c116 x0_8⟩), (.tmp 12 0, ⟨.box, 0, [.sc (.int .u64 x0_9), .sc (.int .i64 x0_10), .own 1 x0_11.length (encL c_i64 x0_11), .sc (.int .i64 x0_12), .sc (.int .u64 x0_13), .sc (.bool x0_14)]⟩), (.tmp 16 0, ⟨.box, 0, [.sc (.int .i64 j29.2.2.1), .sc (.int .u64 j29.2.2.2.1), .own 1 j29.2.2.2.2.1.length (encL c_u8 j29.2.2.2.2.1), .sc (.int .i64 j29.2.2.2.2.2)]⟩)]) (m1' := []) (m2' := []) (v' := .c (.sc (.int .i64 t197.1))) (Sto.mapN_killNil _ _) (mrgL_whole (new' := [.ref (.arg 1) [] o1 l0_0.length, .sc (.int .i64 t197.2.1), .sc (.int .u64 t197.2.2)]) (mrgL_fz (mrgL_nil' _ _ _) rfl (by first | rfl | simp only [reduceCtorEq, Nat.reduceEqDiff, ak, g28]) rfl (by intro R hR hh; cases hR; cases hh.2)) rfl (by rfl) (.inl ⟨rfl, by first | rfl | simp only [reduceCtorEq, Nat.reduceEqDiff, ak, akF, Nat.zero_add, List.append_nil]⟩)) (by rfl) (mapT_killNil _ _) (by rfl) (by rfl) (by first | rfl | simp only [reduceCtorEq, Nat.reduceEqDiff, ak, akF, Nat.zero_add, List.append_nil]) ?_
      simp +decide only [Nat.reduceAdd, Nat.reduceMul, Int.reduceToNat, ak]
      refine hJ196 _ ?_
      refine block_k fun B200 B200n B200x B200r B200j => ?_
      refine sr_k fun J201 hJ201 => ?_
      simp +decide only [Nat.reduceAdd, Nat.reduceMul, Int.reduceToNat, ak]
      refine hJ201 _ ?_
      refine cond_k (b := decide (t197.1 = 0)) rfl (fun c202 => ?_) (fun c202 => ?_)
      ·replace c202 := of_decide_eq_true c202; rw [if_pos c202] at h
       refine reg_k ?_
       simp +decide only [Nat.reduceAdd, Nat.reduceMul, Int.reduceToNat, ak]
       obtain ⟨t203, h204, h⟩ := of_bind h
       refine call_m [(.arg 0, ⟨(.arg 0), [], none, .box⟩), (.arg 1, ⟨(.arg 1), [], none, .fz⟩)] (s0 := [(.arg 0, ⟨.box, 0, [.ref (.arg 1) [] o1 l0_0.length, .sc (.int .i64 t197.2.1), .sc (.int .u64 t197.2.2)]⟩), (.arg 1, ⟨.fz, 1, cs1⟩)]) (by intro t ht; cases ht; decide) rfl rfl (by first | rfl | simp only [reduceCtorEq, Nat.reduceEqDiff, ak, akF, g28]) (spec_l1Next.tri (cs1) o1 l0_0 hv1 t197.2.1 t197.2.2 2 _ h204) (by first | rfl | simp only [reduceCtorEq, Nat.reduceEqDiff, ak, akF]) (by simp [bkOk2, memK]) (fun hl204 => ?_)
       refine call_st (s4 := [(.arg 0, ⟨.box, 0, [.ref (.arg 1) [] o1 l0_0.length, .sc (.int .i64 t203.2.1), .sc (.int .u64 t203.2.2)]⟩), (.arg 1, ⟨.fz, 1, cs1⟩), (.tmp 20 0, ⟨.lst, 4, encL c116 x0_8⟩), (.tmp 12 0, ⟨.box, 0, [.sc (.int .u64 x0_9), .sc (.int .i64 x0_10), .own 1 x0_11.length (encL c_i64 x0_11), .sc (.int .i64 x0_12), .sc (.int .u64 x0_13), .sc (.bool x0_14)]⟩), (.tmp 16 0, ⟨.box, 0, [.sc (.int .i64 j29.2.2.1), .sc (.int .u64 j29.2.2.2.1), .own 1 j29.2.2.2.2.1.length (encL c_u8 j29.2.2.2.2.1), .sc (.int .i64 j29.2.2.2.2.2)]⟩)]) (m1' := []) (m2' := []) (v' := .c (.sc (.int .i64 t203.1))) (Sto.mapN_killNil _ _) (mrgL_whole (new' := [.ref (.arg 1) [] o1 l0_0.length, .sc (.int .i64 t203.2.1), .sc (.int .u64 t203.2.2)]) (mrgL_fz (mrgL_nil' _ _ _) rfl (by first | rfl | simp only [reduceCtorEq, Nat.reduceEqDiff, ak, g28]) rfl (by intro R hR hh; cases hR; cases hh.2)) rfl (by rfl) (.inl ⟨rfl, by first | rfl | simp only [reduceCtorEq, Nat.reduceEqDiff, ak, akF, Nat.zero_add, List.append_nil]⟩)) (by rfl) (mapT_killNil _ _) (by rfl) (by rfl) (by first | rfl | simp only [reduceCtorEq, Nat.reduceEqDiff, ak, akF, Nat.zero_add, List.append_nil]) ?_
       simp +decide only [Nat.reduceAdd, Nat.reduceMul, Int.reduceToNat, ak]
       refine B200n _ ?_
       obtain rfl := Option.some.inj h
       refine G184n _ _ (wk [0, 1, 2, 3, 4, 11, 12, 13, 14, 16] [pI (.arg 0) .box, pI (.arg 1) .fz, pI (.tmp 20 0) .lst, pI (.tmp 12 0) .box, pI (.tmp 16 0) .box]) (hJ183 _ rfl)
      ·replace c202 := of_decide_eq_false c202; rw [if_neg c202] at h
       refine sr_k fun J206 hJ206 => ?_
       simp +decide only [Nat.reduceAdd, Nat.reduceMul, Int.reduceToNat, ak]
       refine hJ206 _ ?_
       refine cond_k (b := decide (t197.1 = 1)) rfl (fun c207 => ?_) (fun c207 => ?_)
       ·replace c207 := of_decide_eq_true c207; rw [if_pos c207] at h
        refine reg_k ?_
        simp +decide only [Nat.reduceAdd, Nat.reduceMul, Int.reduceToNat, ak]
        obtain ⟨t208, h209, h⟩ := of_bind h
        refine call_m [(.arg 0, ⟨(.arg 0), [], none, .box⟩), (.arg 1, ⟨(.arg 1), [], none, .fz⟩)] (s0 := [(.arg 0, ⟨.box, 0, [.ref (.arg 1) [] o1 l0_0.length, .sc (.int .i64 t197.2.1), .sc (.int .u64 t197.2.2)]⟩), (.arg 1, ⟨.fz, 1, cs1⟩)]) (by intro t ht; cases ht; decide) rfl rfl (by first | rfl | simp only [reduceCtorEq, Nat.reduceEqDiff, ak, akF, g28]) (spec_l1Next.tri (cs1) o1 l0_0 hv1 t197.2.1 t197.2.2 2 _ h209) (by first | rfl | simp only [reduceCtorEq, Nat.reduceEqDiff, ak, akF]) (by simp [bkOk2, memK]) (fun hl209 => ?_)
        refine call_st (s4 := [(.arg 0, ⟨.box, 0, [.ref (.arg 1) [] o1 l0_0.length, .sc (.int .i64 t208.2.1), .sc (.int .u64 t208.2.2)]⟩), (.arg 1, ⟨.fz, 1, cs1⟩), (.tmp 20 0, ⟨.lst, 4, encL c116 x0_8⟩), (.tmp 12 0, ⟨.box, 0, [.sc (.int .u64 x0_9), .sc (.int .i64 x0_10), .own 1 x0_11.length (encL c_i64 x0_11), .sc (.int .i64 x0_12), .sc (.int .u64 x0_13), .sc (.bool x0_14)]⟩), (.tmp 16 0, ⟨.box, 0, [.sc (.int .i64 j29.2.2.1), .sc (.int .u64 j29.2.2.2.1), .own 1 j29.2.2.2.2.1.length (encL c_u8 j29.2.2.2.2.1), .sc (.int .i64 j29.2.2.2.2.2)]⟩)]) (m1' := []) (m2' := []) (v' := .c (.sc (.int .i64 t208.1))) (Sto.mapN_killNil _ _) (mrgL_whole (new' := [.ref (.arg 1) [] o1 l0_0.length, .sc (.int .i64 t208.2.1), .sc (.int .u64 t208.2.2)]) (mrgL_fz (mrgL_nil' _ _ _) rfl (by first | rfl | simp only [reduceCtorEq, Nat.reduceEqDiff, ak, g28]) rfl (by intro R hR hh; cases hR; cases hh.2)) rfl (by rfl) (.inl ⟨rfl, by first | rfl | simp only [reduceCtorEq, Nat.reduceEqDiff, ak, akF, Nat.zero_add, List.append_nil]⟩)) (by rfl) (mapT_killNil _ _) (by rfl) (by rfl) (by first | rfl | simp only [reduceCtorEq, Nat.reduceEqDiff, ak, akF, Nat.zero_add, List.append_nil]) ?_
        simp +decide only [Nat.reduceAdd, Nat.reduceMul, Int.reduceToNat, ak]
        obtain ⟨t211, h212, h⟩ := of_bind h
        refine call_m [(.arg 0, ⟨(.arg 0), [], none, .box⟩), (.arg 1, ⟨(.arg 1), [], none, .fz⟩)] (s0 := [(.arg 0, ⟨.box, 0, [.ref (.arg 1) [] o1 l0_0.length, .sc (.int .i64 t208.2.1), .sc (.int .u64 t208.2.2)]⟩), (.arg 1, ⟨.fz, 1, cs1⟩)]) (by intro t ht; cases ht; decide) rfl rfl (by first | rfl | simp only [reduceCtorEq, Nat.reduceEqDiff, ak, akF, g28]) (spec_l1DrawBytes.tri (cs1) o1 l0_0 hv1 t208.2.1 t208.2.2 (IntKind.i64.wrap (32 + t208.1)) _ h212) (by first | rfl | simp only [reduceCtorEq, Nat.reduceEqDiff, ak, akF]) (by simp [bkOk2, memK]) (fun hl212 => ?_)
        refine call_st (s4 := [(.arg 0, ⟨.box, 0, [.ref (.arg 1) [] o1 l0_0.length, .sc (.int .i64 t211.2.1), .sc (.int .u64 t211.2.2)]⟩), (.arg 1, ⟨.fz, 1, cs1⟩), (.tmp 20 0, ⟨.lst, 4, encL c116 x0_8⟩), (.tmp 12 0, ⟨.box, 0, [.sc (.int .u64 x0_9), .sc (.int .i64 x0_10), .own 1 x0_11.length (encL c_i64 x0_11), .sc (.int .i64 x0_12), .sc (.int .u64 x0_13), .sc (.bool x0_14)]⟩), (.tmp 16 0, ⟨.box, 0, [.sc (.int .i64 j29.2.2.1), .sc (.int .u64 j29.2.2.2.1), .own 1 j29.2.2.2.2.1.length (encL c_u8 j29.2.2.2.2.1), .sc (.int .i64 j29.2.2.2.2.2)]⟩), (.tmp 136 0, ⟨.lst, 1, encL c_u8 t211.1⟩)]) (m1' := []) (m2' := []) (v' := .c (.ref (.tmp 136 0) [] 0 t211.1.length)) (Sto.mapN_killNil _ _) (mrgL_whole (new' := [.ref (.arg 1) [] o1 l0_0.length, .sc (.int .i64 t211.2.1), .sc (.int .u64 t211.2.2)]) (mrgL_fz (mrgL_nil' _ _ _) rfl (by first | rfl | simp only [reduceCtorEq, Nat.reduceEqDiff, ak, g28]) rfl (by intro R hR hh; cases hR; cases hh.2)) rfl (by rfl) (.inl ⟨rfl, by first | rfl | simp only [reduceCtorEq, Nat.reduceEqDiff, ak, akF, Nat.zero_add, List.append_nil]⟩)) (by rfl) (mapT_killNil _ _) (by rfl) (by rfl) (by first | rfl | simp only [reduceCtorEq, Nat.reduceEqDiff, ak, akF, Nat.zero_add, List.append_nil]) ?_
        have g214 : (encL c_u8 t211.1).length = t211.1.length * 1 := by simp [encL_length c_u8_w]
        simp +decide only [Nat.reduceAdd, Nat.reduceMul, Int.reduceToNat, ak, g214]
        refine B200n _ ?_
        obtain rfl := Option.some.inj h
        refine G184n _ _ (wk [0, 1, 2, 3, 4, 11, 12, 13, 14, 16] [pI (.arg 0) .box, pI (.arg 1) .fz, pI (.tmp 20 0) .lst, pI (.tmp 12 0) .box, pI (.tmp 16 0) .box]) (hJ183 _ rfl)
       ·replace c207 := of_decide_eq_false c207; rw [if_neg c207] at h
        refine sr_k fun J215 hJ215 => ?_
        simp +decide only [Nat.reduceAdd, Nat.reduceMul, Int.reduceToNat, ak]
        refine hJ215 _ ?_
        refine cond_k (b := decide (t197.1 = 2)) rfl (fun c216 => ?_) (fun c216 => ?_)
        ·replace c216 := of_decide_eq_true c216; rw [if_pos c216] at h
         refine reg_k ?_
         simp +decide only [Nat.reduceAdd, Nat.reduceMul, Int.reduceToNat, ak]
         obtain ⟨t217, h218, h⟩ := of_bind h
         refine call_m [(.arg 0, ⟨(.arg 0), [], none, .box⟩), (.arg 1, ⟨(.arg 1), [], none, .fz⟩)] (s0 := [(.arg 0, ⟨.box, 0, [.ref (.arg 1) [] o1 l0_0.length, .sc (.int .i64 t197.2.1), .sc (.int .u64 t197.2.2)]⟩), (.arg 1, ⟨.fz, 1, cs1⟩)]) (by intro t ht; cases ht; decide) rfl rfl (by first | rfl | simp only [reduceCtorEq, Nat.reduceEqDiff, ak, akF, g28]) (spec_l1Next.tri (cs1) o1 l0_0 hv1 t197.2.1 t197.2.2 3 _ h218) (by first | rfl | simp only [reduceCtorEq, Nat.reduceEqDiff, ak, akF]) (by simp [bkOk2, memK]) (fun hl218 => ?_)
         refine call_st (s4 := [(.arg 0, ⟨.box, 0, [.ref (.arg 1) [] o1 l0_0.length, .sc (.int .i64 t217.2.1), .sc (.int .u64 t217.2.2)]⟩), (.arg 1, ⟨.fz, 1, cs1⟩), (.tmp 20 0, ⟨.lst, 4, encL c116 x0_8⟩), (.tmp 12 0, ⟨.box, 0, [.sc (.int .u64 x0_9), .sc (.int .i64 x0_10), .own 1 x0_11.length (encL c_i64 x0_11), .sc (.int .i64 x0_12), .sc (.int .u64 x0_13), .sc (.bool x0_14)]⟩), (.tmp 16 0, ⟨.box, 0, [.sc (.int .i64 j29.2.2.1), .sc (.int .u64 j29.2.2.2.1), .own 1 j29.2.2.2.2.1.length (encL c_u8 j29.2.2.2.2.1), .sc (.int .i64 j29.2.2.2.2.2)]⟩)]) (m1' := []) (m2' := []) (v' := .c (.sc (.int .i64 t217.1))) (Sto.mapN_killNil _ _) (mrgL_whole (new' := [.ref (.arg 1) [] o1 l0_0.length, .sc (.int .i64 t217.2.1), .sc (.int .u64 t217.2.2)]) (mrgL_fz (mrgL_nil' _ _ _) rfl (by first | rfl | simp only [reduceCtorEq, Nat.reduceEqDiff, ak, g28]) rfl (by intro R hR hh; cases hR; cases hh.2)) rfl (by rfl) (.inl ⟨rfl, by first | rfl | simp only [reduceCtorEq, Nat.reduceEqDiff, ak, akF, Nat.zero_add, List.append_nil]⟩)) (by rfl) (mapT_killNil _ _) (by rfl) (by rfl) (by first | rfl | simp only [reduceCtorEq, Nat.reduceEqDiff, ak, akF, Nat.zero_add, List.append_nil]) ?_
         simp +decide only [Nat.reduceAdd, Nat.reduceMul, Int.reduceToNat, ak]
         refine B200n _ ?_
         obtain rfl := Option.some.inj h
         refine G184n _ _ (wk [0, 1, 2, 3, 4, 11, 12, 13, 14, 16] [pI (.arg 0) .box, pI (.arg 1) .fz, pI (.tmp 20 0) .lst, pI (.tmp 12 0) .box, pI (.tmp 16 0) .box]) (hJ183 _ rfl)
        ·replace c216 := of_decide_eq_false c216; rw [if_neg c216] at h
         refine sr_k fun J220 hJ220 => ?_
         simp +decide only [Nat.reduceAdd, Nat.reduceMul, Int.reduceToNat, ak]
         refine hJ220 _ ?_
         refine cond_k (b := decide (t197.1 = 3)) rfl (fun c221 => ?_) (fun c221 => ?_)
         ·replace c221 := of_decide_eq_true c221; rw [if_pos c221] at h
          refine regD_k ?_
          simp +decide only [Nat.reduceAdd, Nat.reduceMul, Int.reduceToNat, ak]
          obtain ⟨t222, h223, h⟩ := of_bind h
          obtain ⟨t225, h226, h⟩ := of_bind h
          refine alt_e ?_
          ·simp +decide only [Nat.reduceAdd, Nat.reduceMul, Int.reduceToNat, ak]
           refine call_m [(.arg 0, ⟨(.tmp 12 0), [], none, .box⟩)] (s0 := [(.arg 0, ⟨.box, 0, [.sc (.int .u64 x0_9), .sc (.int .i64 x0_10), .own 1 x0_11.length (encL c_i64 x0_11), .sc (.int .i64 x0_12), .sc (.int .u64 x0_13), .sc (.bool x0_14)]⟩)]) (by intro t ht; cases ht; decide) rfl rfl (by first | rfl | simp only [reduceCtorEq, Nat.reduceEqDiff, ak, akF, g28]) (spec_l5Read.tri x0_9 x0_10 x0_11 x0_12 x0_13 x0_14 _ h223) (by first | rfl | simp only [reduceCtorEq, Nat.reduceEqDiff, ak, akF]) (by simp [bkOk2, memK]) (fun hl228 => ?_)
           refine call_st (s4 := [(.arg 0, ⟨.box, 0, [.ref (.arg 1) [] o1 l0_0.length, .sc (.int .i64 t197.2.1), .sc (.int .u64 t197.2.2)]⟩), (.arg 1, ⟨.fz, 1, cs1⟩), (.tmp 20 0, ⟨.lst, 4, encL c116 x0_8⟩), (.tmp 12 0, ⟨.box, 0, [.sc (.int .u64 x0_9), .sc (.int .i64 x0_10), .own 1 x0_11.length (encL c_i64 x0_11), .sc (.int .i64 x0_12), .sc (.int .u64 x0_13), .sc (.bool x0_14)]⟩), (.tmp 16 0, ⟨.box, 0, [.sc (.int .i64 j29.2.2.1), .sc (.int .u64 j29.2.2.2.1), .own 1 j29.2.2.2.2.1.length (encL c_u8 j29.2.2.2.2.1), .sc (.int .i64 j29.2.2.2.2.2)]⟩)]) (m1' := []) (m2' := []) (v' := .c (.sc (.int .u64 t222))) (Sto.mapN_killNil _ _) (mrgL_whole (new' := [.sc (.int .u64 x0_9), .sc (.int .i64 x0_10), .own 1 x0_11.length (encL c_i64 x0_11), .sc (.int .i64 x0_12), .sc (.int .u64 x0_13), .sc (.bool x0_14)]) (mrgL_nil' _ _ _) rfl (by rfl) (.inl ⟨rfl, by first | rfl | simp only [reduceCtorEq, Nat.reduceEqDiff, ak, akF, Nat.zero_add, List.append_nil]⟩)) (by rfl) (mapT_killNil _ _) (by rfl) (by rfl) (by first | rfl | simp only [reduceCtorEq, Nat.reduceEqDiff, ak, akF, Nat.zero_add, List.append_nil]) ?_
           simp +decide only [Nat.reduceAdd, Nat.reduceMul, Int.reduceToNat, ak]
           refine alt_e ?_
           ·simp +decide only [Nat.reduceAdd, Nat.reduceMul, Int.reduceToNat, ak]
            refine call_m [(.arg 0, ⟨(.arg 0), [], none, .box⟩), (.arg 1, ⟨(.arg 1), [], none, .fz⟩)] (s0 := [(.arg 0, ⟨.box, 0, [.ref (.arg 1) [] o1 l0_0.length, .sc (.int .i64 t197.2.1), .sc (.int .u64 t197.2.2)]⟩), (.arg 1, ⟨.fz, 1, cs1⟩)]) (by intro t ht; cases ht; decide) rfl rfl (by first | rfl | simp only [reduceCtorEq, Nat.reduceEqDiff, ak, akF, g28]) (spec_l1Next.tri (cs1) o1 l0_0 hv1 t197.2.1 t197.2.2 2 _ h226) (by first | rfl | simp only [reduceCtorEq, Nat.reduceEqDiff, ak, akF]) (by simp [bkOk2, memK]) (fun hl230 => ?_)
            refine call_st (s4 := [(.arg 0, ⟨.box, 0, [.ref (.arg 1) [] o1 l0_0.length, .sc (.int .i64 t225.2.1), .sc (.int .u64 t225.2.2)]⟩), (.arg 1, ⟨.fz, 1, cs1⟩), (.tmp 20 0, ⟨.lst, 4, encL c116 x0_8⟩), (.tmp 12 0, ⟨.box, 0, [.sc (.int .u64 x0_9), .sc (.int .i64 x0_10), .own 1 x0_11.length (encL c_i64 x0_11), .sc (.int .i64 x0_12), .sc (.int .u64 x0_13), .sc (.bool x0_14)]⟩), (.tmp 16 0, ⟨.box, 0, [.sc (.int .i64 j29.2.2.1), .sc (.int .u64 j29.2.2.2.1), .own 1 j29.2.2.2.2.1.length (encL c_u8 j29.2.2.2.2.1), .sc (.int .i64 j29.2.2.2.2.2)]⟩)]) (m1' := []) (m2' := []) (v' := .c (.sc (.int .i64 t225.1))) (Sto.mapN_killNil _ _) (mrgL_whole (new' := [.ref (.arg 1) [] o1 l0_0.length, .sc (.int .i64 t225.2.1), .sc (.int .u64 t225.2.2)]) (mrgL_fz (mrgL_nil' _ _ _) rfl (by first | rfl | simp only [reduceCtorEq, Nat.reduceEqDiff, ak, g28]) rfl (by intro R hR hh; cases hR; cases hh.2)) rfl (by rfl) (.inl ⟨rfl, by first | rfl | simp only [reduceCtorEq, Nat.reduceEqDiff, ak, akF, Nat.zero_add, List.append_nil]⟩)) (by rfl) (mapT_killNil _ _) (by rfl) (by rfl) (by first | rfl | simp only [reduceCtorEq, Nat.reduceEqDiff, ak, akF, Nat.zero_add, List.append_nil]) ?_
            simp +decide only [Nat.reduceAdd, Nat.reduceMul, Int.reduceToNat, ak]
            refine alt_e ?_
            ·simp +decide only [Nat.reduceAdd, Nat.reduceMul, Int.reduceToNat, ak]
             refine B200n _ ?_
             obtain rfl := Option.some.inj h
             refine G184n _ _ (wk [0, 1, 2, 3, 4, 11, 12, 13, 14, 16] [pI (.arg 0) .box, pI (.arg 1) .fz, pI (.tmp 20 0) .lst, pI (.tmp 12 0) .box, pI (.tmp 16 0) .box]) (hJ183 _ rfl)
         ·replace c221 := of_decide_eq_false c221; rw [if_neg c221] at h
          refine sr_k fun J232 hJ232 => ?_
          simp +decide only [Nat.reduceAdd, Nat.reduceMul, Int.reduceToNat, ak]
          refine hJ232 _ ?_
          refine cond_k (b := decide (t197.1 = 4)) rfl (fun c233 => ?_) (fun c233 => ?_)
          ·replace c233 := of_decide_eq_true c233; rw [if_pos c233] at h
           refine regD_k ?_
           simp +decide only [Nat.reduceAdd, Nat.reduceMul, Int.reduceToNat, ak]
           obtain ⟨t234, h235, h⟩ := of_bind h
           refine alt_e ?_
           ·simp +decide only [Nat.reduceAdd, Nat.reduceMul, Int.reduceToNat, ak]
            refine call_m [(.arg 0, ⟨(.arg 0), [], none, .box⟩), (.arg 1, ⟨(.arg 1), [], none, .fz⟩)] (s0 := [(.arg 0, ⟨.box, 0, [.ref (.arg 1) [] o1 l0_0.length, .sc (.int .i64 t197.2.1), .sc (.int .u64 t197.2.2)]⟩), (.arg 1, ⟨.fz, 1, cs1⟩)]) (by intro t ht; cases ht; decide) rfl rfl (by first | rfl | simp only [reduceCtorEq, Nat.reduceEqDiff, ak, akF, g28]) (spec_l1Next.tri (cs1) o1 l0_0 hv1 t197.2.1 t197.2.2 (IntKind.i64.wrap (x0_1 + 3)) _ h235) (by first | rfl | simp only [reduceCtorEq, Nat.reduceEqDiff, ak, akF]) (by simp [bkOk2, memK]) (fun hl236 => ?_)
            refine call_st (s4 := [(.arg 0, ⟨.box, 0, [.ref (.arg 1) [] o1 l0_0.length, .sc (.int .i64 t234.2.1), .sc (.int .u64 t234.2.2)]⟩), (.arg 1, ⟨.fz, 1, cs1⟩), (.tmp 20 0, ⟨.lst, 4, encL c116 x0_8⟩), (.tmp 12 0, ⟨.box, 0, [.sc (.int .u64 x0_9), .sc (.int .i64 x0_10), .own 1 x0_11.length (encL c_i64 x0_11), .sc (.int .i64 x0_12), .sc (.int .u64 x0_13), .sc (.bool x0_14)]⟩), (.tmp 16 0, ⟨.box, 0, [.sc (.int .i64 j29.2.2.1), .sc (.int .u64 j29.2.2.2.1), .own 1 j29.2.2.2.2.1.length (encL c_u8 j29.2.2.2.2.1), .sc (.int .i64 j29.2.2.2.2.2)]⟩)]) (m1' := []) (m2' := []) (v' := .c (.sc (.int .i64 t234.1))) (Sto.mapN_killNil _ _) (mrgL_whole (new' := [.ref (.arg 1) [] o1 l0_0.length, .sc (.int .i64 t234.2.1), .sc (.int .u64 t234.2.2)]) (mrgL_fz (mrgL_nil' _ _ _) rfl (by first | rfl | simp only [reduceCtorEq, Nat.reduceEqDiff, ak, g28]) rfl (by intro R hR hh; cases hR; cases hh.2)) rfl (by rfl) (.inl ⟨rfl, by first | rfl | simp only [reduceCtorEq, Nat.reduceEqDiff, ak, akF, Nat.zero_add, List.append_nil]⟩)) (by rfl) (mapT_killNil _ _) (by rfl) (by rfl) (by first | rfl | simp only [reduceCtorEq, Nat.reduceEqDiff, ak, akF, Nat.zero_add, List.append_nil]) ?_
            simp +decide only [Nat.reduceAdd, Nat.reduceMul, Int.reduceToNat, ak]
            refine alt_e ?_
            ·simp +decide only [Nat.reduceAdd, Nat.reduceMul, Int.reduceToNat, ak]
             refine ghp_k (Weak.nmg' 173 2 (.tmp 173 22) 1 (encL c_u8 ([] : List Int)) rfl rfl rfl rfl) ?_
             try simp +decide only [Nat.reduceAdd, Nat.reduceMul, Int.reduceToNat, ak]
             refine alt_e ?_
             ·simp +decide only [Nat.reduceAdd, Nat.reduceMul, Int.reduceToNat, ak, g28]
              refine B200n _ ?_
              obtain rfl := Option.some.inj h
              refine G184n _ _ (wk [0, 1, 2, 3, 4, 11, 12, 13, 14, 16] [pI (.arg 0) .box, pI (.arg 1) .fz, pI (.tmp 20 0) .lst, pI (.tmp 12 0) .box, pI (.tmp 16 0) .box] (h := by first | rfl | (simp +decide only [ak, akF]; done) | (simp +decide [ak, akF] <;> omega))) (hJ183 _ rfl)
          ·replace c233 := of_decide_eq_false c233; rw [if_neg c233] at h
           refine sr_k fun J238 hJ238 => ?_
           simp +decide only [Nat.reduceAdd, Nat.reduceMul, Int.reduceToNat, ak]
           refine hJ238 _ ?_
           refine cond_k (b := decide (t197.1 = 5)) rfl (fun c239 => ?_) (fun c239 => ?_)
           ·replace c239 := of_decide_eq_true c239; rw [if_pos c239] at h
            refine reg_k ?_
            simp +decide only [Nat.reduceAdd, Nat.reduceMul, Int.reduceToNat, ak]
            obtain ⟨t240, h241, h⟩ := of_bind h
            refine call_m [(.arg 0, ⟨(.tmp 12 0), [], none, .box⟩)] (s0 := [(.arg 0, ⟨.box, 0, [.sc (.int .u64 x0_9), .sc (.int .i64 x0_10), .own 1 x0_11.length (encL c_i64 x0_11), .sc (.int .i64 x0_12), .sc (.int .u64 x0_13), .sc (.bool x0_14)]⟩)]) (by intro t ht; cases ht; decide) rfl rfl (by first | rfl | simp only [reduceCtorEq, Nat.reduceEqDiff, ak, akF, g28]) (spec_l5Read.tri x0_9 x0_10 x0_11 x0_12 x0_13 x0_14 _ h241) (by first | rfl | simp only [reduceCtorEq, Nat.reduceEqDiff, ak, akF]) (by simp [bkOk2, memK]) (fun hl241 => ?_)
            refine call_st (s4 := [(.arg 0, ⟨.box, 0, [.ref (.arg 1) [] o1 l0_0.length, .sc (.int .i64 t197.2.1), .sc (.int .u64 t197.2.2)]⟩), (.arg 1, ⟨.fz, 1, cs1⟩), (.tmp 20 0, ⟨.lst, 4, encL c116 x0_8⟩), (.tmp 12 0, ⟨.box, 0, [.sc (.int .u64 x0_9), .sc (.int .i64 x0_10), .own 1 x0_11.length (encL c_i64 x0_11), .sc (.int .i64 x0_12), .sc (.int .u64 x0_13), .sc (.bool x0_14)]⟩), (.tmp 16 0, ⟨.box, 0, [.sc (.int .i64 j29.2.2.1), .sc (.int .u64 j29.2.2.2.1), .own 1 j29.2.2.2.2.1.length (encL c_u8 j29.2.2.2.2.1), .sc (.int .i64 j29.2.2.2.2.2)]⟩)]) (m1' := []) (m2' := []) (v' := .c (.sc (.int .u64 t240))) (Sto.mapN_killNil _ _) (mrgL_whole (new' := [.sc (.int .u64 x0_9), .sc (.int .i64 x0_10), .own 1 x0_11.length (encL c_i64 x0_11), .sc (.int .i64 x0_12), .sc (.int .u64 x0_13), .sc (.bool x0_14)]) (mrgL_nil' _ _ _) rfl (by rfl) (.inl ⟨rfl, by first | rfl | simp only [reduceCtorEq, Nat.reduceEqDiff, ak, akF, Nat.zero_add, List.append_nil]⟩)) (by rfl) (mapT_killNil _ _) (by rfl) (by rfl) (by first | rfl | simp only [reduceCtorEq, Nat.reduceEqDiff, ak, akF, Nat.zero_add, List.append_nil]) ?_
            simp +decide only [Nat.reduceAdd, Nat.reduceMul, Int.reduceToNat, ak]
            obtain ⟨t243, h244, h⟩ := of_bind h
            refine call_m [(.arg 0, ⟨(.arg 0), [], none, .box⟩), (.arg 1, ⟨(.arg 1), [], none, .fz⟩)] (s0 := [(.arg 0, ⟨.box, 0, [.ref (.arg 1) [] o1 l0_0.length, .sc (.int .i64 t197.2.1), .sc (.int .u64 t197.2.2)]⟩), (.arg 1, ⟨.fz, 1, cs1⟩)]) (by intro t ht; cases ht; decide) rfl rfl (by first | rfl | simp only [reduceCtorEq, Nat.reduceEqDiff, ak, akF, g28]) (spec_l1Next.tri (cs1) o1 l0_0 hv1 t197.2.1 t197.2.2 2 _ h244) (by first | rfl | simp only [reduceCtorEq, Nat.reduceEqDiff, ak, akF]) (by simp [bkOk2, memK]) (fun hl244 => ?_)
            refine call_st (s4 := [(.arg 0, ⟨.box, 0, [.ref (.arg 1) [] o1 l0_0.length, .sc (.int .i64 t243.2.1), .sc (.int .u64 t243.2.2)]⟩), (.arg 1, ⟨.fz, 1, cs1⟩), (.tmp 20 0, ⟨.lst, 4, encL c116 x0_8⟩), (.tmp 12 0, ⟨.box, 0, [.sc (.int .u64 x0_9), .sc (.int .i64 x0_10), .own 1 x0_11.length (encL c_i64 x0_11), .sc (.int .i64 x0_12), .sc (.int .u64 x0_13), .sc (.bool x0_14)]⟩), (.tmp 16 0, ⟨.box, 0, [.sc (.int .i64 j29.2.2.1), .sc (.int .u64 j29.2.2.2.1), .own 1 j29.2.2.2.2.1.length (encL c_u8 j29.2.2.2.2.1), .sc (.int .i64 j29.2.2.2.2.2)]⟩)]) (m1' := []) (m2' := []) (v' := .c (.sc (.int .i64 t243.1))) (Sto.mapN_killNil _ _) (mrgL_whole (new' := [.ref (.arg 1) [] o1 l0_0.length, .sc (.int .i64 t243.2.1), .sc (.int .u64 t243.2.2)]) (mrgL_fz (mrgL_nil' _ _ _) rfl (by first | rfl | simp only [reduceCtorEq, Nat.reduceEqDiff, ak, g28]) rfl (by intro R hR hh; cases hR; cases hh.2)) rfl (by rfl) (.inl ⟨rfl, by first | rfl | simp only [reduceCtorEq, Nat.reduceEqDiff, ak, akF, Nat.zero_add, List.append_nil]⟩)) (by rfl) (mapT_killNil _ _) (by rfl) (by rfl) (by first | rfl | simp only [reduceCtorEq, Nat.reduceEqDiff, ak, akF, Nat.zero_add, List.append_nil]) ?_
            simp +decide only [Nat.reduceAdd, Nat.reduceMul, Int.reduceToNat, ak]
            refine gho_k (Weak.nmg' 181 2 (.tmp 181 22) 1 (encL c_u8 ([] : List Int)) rfl rfl rfl rfl) ?_
            simp +decide only [Nat.reduceAdd, Nat.reduceMul, Int.reduceToNat, ak, g28]
            refine B200n _ ?_
            obtain rfl := Option.some.inj h
            refine G184n _ _ (wk [0, 1, 2, 3, 4, 11, 12, 13, 14, 16] [pI (.arg 0) .box, pI (.arg 1) .fz, pI (.tmp 20 0) .lst, pI (.tmp 12 0) .box, pI (.tmp 16 0) .box] (h := by first | rfl | (simp +decide only [ak, akF]; done) | (simp +decide [ak, akF] <;> omega))) (hJ183 _ rfl)
           ·replace c239 := of_decide_eq_false c239; rw [if_neg c239] at h
            refine sr_k fun J246 hJ246 => ?_
            simp +decide only [Nat.reduceAdd, Nat.reduceMul, Int.reduceToNat, ak]
            refine hJ246 _ ?_
            refine cond_k (b := decide (t197.1 = 6)) rfl (fun c247 => ?_) (fun c247 => ?_)
            ·replace c247 := of_decide_eq_true c247; rw [if_pos c247] at h
             refine reg_k ?_
             simp +decide only [Nat.reduceAdd, Nat.reduceMul, Int.reduceToNat, ak]
             obtain ⟨t248, h249, h⟩ := of_bind h
             refine call_m [(.arg 0, ⟨(.arg 0), [], none, .box⟩), (.arg 1, ⟨(.arg 1), [], none, .fz⟩)] (s0 := [(.arg 0, ⟨.box, 0, [.ref (.arg 1) [] o1 l0_0.length, .sc (.int .i64 t197.2.1), .sc (.int .u64 t197.2.2)]⟩), (.arg 1, ⟨.fz, 1, cs1⟩)]) (by intro t ht; cases ht; decide) rfl rfl (by first | rfl | simp only [reduceCtorEq, Nat.reduceEqDiff, ak, akF, g28]) (spec_l1DrawBytes.tri (cs1) o1 l0_0 hv1 t197.2.1 t197.2.2 (j29.2.2.2.2.1.length : Int) _ h249) (by first | rfl | simp only [reduceCtorEq, Nat.reduceEqDiff, ak, akF]) (by simp [bkOk2, memK]) (fun hl249 => ?_)
             refine call_st (s4 := [(.arg 0, ⟨.box, 0, [.ref (.arg 1) [] o1 l0_0.length, .sc (.int .i64 t248.2.1), .sc (.int .u64 t248.2.2)]⟩), (.arg 1, ⟨.fz, 1, cs1⟩), (.tmp 20 0, ⟨.lst, 4, encL c116 x0_8⟩), (.tmp 12 0, ⟨.box, 0, [.sc (.int .u64 x0_9), .sc (.int .i64 x0_10), .own 1 x0_11.length (encL c_i64 x0_11), .sc (.int .i64 x0_12), .sc (.int .u64 x0_13), .sc (.bool x0_14)]⟩), (.tmp 16 0, ⟨.box, 0, [.sc (.int .i64 j29.2.2.1), .sc (.int .u64 j29.2.2.2.1), .own 1 j29.2.2.2.2.1.length (encL c_u8 j29.2.2.2.2.1), .sc (.int .i64 j29.2.2.2.2.2)]⟩), (.tmp 188 0, ⟨.lst, 1, encL c_u8 t248.1⟩)]) (m1' := []) (m2' := []) (v' := .c (.ref (.tmp 188 0) [] 0 t248.1.length)) (Sto.mapN_killNil _ _) (mrgL_whole (new' := [.ref (.arg 1) [] o1 l0_0.length, .sc (.int .i64 t248.2.1), .sc (.int .u64 t248.2.2)]) (mrgL_fz (mrgL_nil' _ _ _) rfl (by first | rfl | simp only [reduceCtorEq, Nat.reduceEqDiff, ak, g28]) rfl (by intro R hR hh; cases hR; cases hh.2)) rfl (by rfl) (.inl ⟨rfl, by first | rfl | simp only [reduceCtorEq, Nat.reduceEqDiff, ak, akF, Nat.zero_add, List.append_nil]⟩)) (by rfl) (mapT_killNil _ _) (by rfl) (by rfl) (by first | rfl | simp only [reduceCtorEq, Nat.reduceEqDiff, ak, akF, Nat.zero_add, List.append_nil]) ?_
             have g251 : (encL c_u8 t248.1).length = t248.1.length * 1 := by simp [encL_length c_u8_w]
             simp +decide only [Nat.reduceAdd, Nat.reduceMul, Int.reduceToNat, ak, g251]
             refine B200n _ ?_
             obtain rfl := Option.some.inj h
             refine G184n _ _ (wk [0, 1, 2, 3, 4, 11, 12, 13, 14, 16] [pI (.arg 0) .box, pI (.arg 1) .fz, pI (.tmp 20 0) .lst, pI (.tmp 12 0) .box, pI (.tmp 16 0) .box]) (hJ183 _ rfl)
            ·replace c247 := of_decide_eq_false c247; rw [if_neg c247] at h
             refine sr_k fun J252 hJ252 => ?_
             simp +decide only [Nat.reduceAdd, Nat.reduceMul, Int.reduceToNat, ak]
             refine hJ252 _ ?_
             refine cond_k (b := decide (t197.1 = 7)) rfl (fun c253 => ?_) (fun c253 => ?_)
             ·replace c253 := of_decide_eq_true c253; rw [if_pos c253] at h
              refine reg_k ?_
              simp +decide only [Nat.reduceAdd, Nat.reduceMul, Int.reduceToNat, ak]
              refine B200n _ ?_
              obtain rfl := Option.some.inj h
              refine G184n _ _ (wk [0, 1, 2, 3, 4, 11, 12, 13, 14, 16] [pI (.arg 0) .box, pI (.arg 1) .fz, pI (.tmp 20 0) .lst, pI (.tmp 12 0) .box, pI (.tmp 16 0) .box]) (hJ183 _ rfl)
             ·replace c253 := of_decide_eq_false c253; rw [if_neg c253] at h
              refine B200n _ ?_
              obtain rfl := Option.some.inj h
              refine G184n _ _ (wk [0, 1, 2, 3, 4, 11, 12, 13, 14, 16] [pI (.arg 0) .box, pI (.arg 1) .fz, pI (.tmp 20 0) .lst, pI (.tmp 12 0) .box, pI (.tmp 16 0) .box]) (hJ183 _ rfl)
     ·rw [if_neg (Bool.eq_false_iff.1 c195)] at h
      obtain rfl := Option.some.inj h
      refine G184n _ _ (wk [0, 1, 2, 3, 4, 11, 12, 13, 14, 16] [pI (.arg 0) .box, pI (.arg 1) .fz, pI (.tmp 20 0) .lst, pI (.tmp 12 0) .box, pI (.tmp 16 0) .box]) (hJ183 _ rfl)
   ·replace h := hn; clear hn h182
    rintro _ rfl
    refine sr_k fun J254 hJ254 => ?_
    simp +decide only [Nat.reduceAdd, Nat.reduceMul, Int.reduceToNat, ak]
    obtain ⟨t255, h256, h⟩ := of_bind h
    refine call_m [(.arg 0, ⟨(.tmp 12 0), [], none, .box⟩), (.arg 1, ⟨(.tmp 16 0), [2], none, .fz⟩)] (s0 := [(.arg 0, ⟨.box, 0, [.sc (.int .u64 x0_9), .sc (.int .i64 x0_10), .own 1 x0_11.length (encL c_i64 x0_11), .sc (.int .i64 x0_12), .sc (.int .u64 x0_13), .sc (.bool x0_14)]⟩), (.arg 1, ⟨.fz, 1, encL c_u8 j181.2.2.2.2.1⟩)]) (by intro t ht; cases ht; decide) rfl rfl (by first | rfl | simp only [reduceCtorEq, Nat.reduceEqDiff, ak, akF, g28]) (spec_l5Step.tri (encL c_u8 j181.2.2.2.2.1) 0 j181.2.2.2.2.1 (Vw.whole c_u8_w j181.2.2.2.2.1) x0_9 x0_10 x0_11 x0_12 x0_13 x0_14 j181.2.2.1 j181.2.2.2.1 j181.2.2.2.2.2 _ h256) (by first | rfl | simp only [reduceCtorEq, Nat.reduceEqDiff, ak, akF]) (by simp [bkOk2, memK]) (fun hl256 => ?_)
    refine call_st (s2 := [(.arg 0, ⟨.box, 0, [.ref (.arg 1) [] o1 l0_0.length, .sc (.int .i64 j181.1), .sc (.int .u64 j181.2.1)]⟩), (.arg 1, ⟨.fz, 1, cs1⟩), (.tmp 20 0, ⟨.lst, 4, encL c116 x0_8⟩), (.tmp 12 0, ⟨.box, 0, [.sc (.int .u64 x0_9), .sc (.int .i64 x0_10), .own 1 x0_11.length (encL c_i64 x0_11), .sc (.int .i64 x0_12), .sc (.int .u64 x0_13), .sc (.bool x0_14)]⟩), (.tmp 16 0, ⟨.box, 0, [.sc (.int .i64 j181.2.2.1), .sc (.int .u64 j181.2.2.2.1), .own 1 j181.2.2.2.2.1.length (encL c_u8 j181.2.2.2.2.1), .sc (.int .i64 j181.2.2.2.2.2)]⟩)]) (s4 := [(.arg 0, ⟨.box, 0, [.ref (.arg 1) [] o1 l0_0.length, .sc (.int .i64 j181.1), .sc (.int .u64 j181.2.1)]⟩), (.arg 1, ⟨.fz, 1, cs1⟩), (.tmp 20 0, ⟨.lst, 4, encL c116 x0_8⟩), (.tmp 12 0, ⟨.box, 0, [.sc (.int .u64 x0_9), .sc (.int .i64 x0_10), .own 1 t255.2.2.2.1.length (encL c_i64 t255.2.2.2.1), .sc (.int .i64 t255.2.2.2.2.1), .sc (.int .u64 t255.2.2.2.2.2.1), .sc (.bool t255.2.2.2.2.2.2)]⟩), (.tmp 16 0, ⟨.box, 0, [.sc (.int .i64 j181.2.2.1), .sc (.int .u64 j181.2.2.2.1), .own 1 j181.2.2.2.2.1.length (encL c_u8 j181.2.2.2.2.1), .sc (.int .i64 j181.2.2.2.2.2)]⟩), (.tmp 198 0, ⟨.lst, 1, encL c_u8 t255.2.2.1⟩)]) (t' := [(0, .c (.ptr (.arg 0) [] 0)), (1, .c (.sc (.int .u64 x0_0))), (2, .c (.sc (.int .i64 x0_1))), (3, .c (.sc (.int .i64 x0_2))), (4, .c (.sc (.bool x0_3))), (11, .c (.ref (.tmp 20 0) [] 0 x0_8.length)), (12, .c (.ptr (.tmp 12 0) [] 0)), (13, .c (.sc (.int .i64 x0_4))), (14, .c (.sc (.int .i64 x0_5))), (16, .c (.ptr (.tmp 16 0) [] 0)), (197, .g [.sc (.int .i64 j181.2.2.1), .sc (.int .u64 j181.2.2.2.1), .ref (.tmp 16 0) [2] 0 j181.2.2.2.2.1.length, .sc (.int .i64 j181.2.2.2.2.2)])]) (m1' := []) (m2' := []) (v' := .g [.sc (.int .i64 t255.1), .sc (.int .i64 t255.2.1), .ref (.tmp 198 0) [] 0 t255.2.2.1.length]) (by first | rfl | simp only [reduceCtorEq, Nat.reduceEqDiff, ak, akF, List.contains_nil, List.contains_cons, Nat.reduceBEq]) (mrgL_whole (new' := [.sc (.int .u64 x0_9), .sc (.int .i64 x0_10), .own 1 t255.2.2.2.1.length (encL c_i64 t255.2.2.2.1), .sc (.int .i64 t255.2.2.2.2.1), .sc (.int .u64 t255.2.2.2.2.2.1), .sc (.bool t255.2.2.2.2.2.2)]) (mrgL_fz (mrgL_nil' _ _ _) rfl (by first | rfl | simp only [reduceCtorEq, Nat.reduceEqDiff, ak, g28]) rfl (by intro R hR hh; cases hh.1)) rfl (by rfl) (.inl ⟨rfl, by first | rfl | simp only [reduceCtorEq, Nat.reduceEqDiff, ak, akF, Nat.zero_add, List.append_nil]⟩)) (by rfl) (by first | rfl | simp only [reduceCtorEq, Nat.reduceEqDiff, ak, akF, List.contains_nil, List.contains_cons, Nat.reduceBEq]) (by rfl) (by rfl) (by first | rfl | simp only [reduceCtorEq, Nat.reduceEqDiff, ak, akF, Nat.zero_add, List.append_nil]) ?_
    simp +decide only [Nat.reduceAdd, Nat.reduceMul, Int.reduceToNat, ak]
    refine hJ254 _ ?_
    refine reg_k ?_
    have g258 : (encL c_u8 j181.2.2.2.2.1).length = j181.2.2.2.2.1.length * 1 := by simp [encL_length c_u8_w]
    simp +decide only [Nat.reduceAdd, Nat.reduceMul, Int.reduceToNat, ak, g258]
    refine gho_k (Weak.take (st' := ⟨[(0, .c (.ptr (.arg 0) [] 0)), (1, .c (.sc (.int .u64 x0_0))), (2, .c (.sc (.int .i64 x0_1))), (3, .c (.sc (.int .i64 x0_2))), (4, .c (.sc (.bool x0_3))), (11, .c (.ref (.tmp 20 0) [] 0 x0_8.length)), (12, .c (.ptr (.tmp 12 0) [] 0)), (13, .c (.sc (.int .i64 x0_4))), (14, .c (.sc (.int .i64 x0_5))), (16, .c (.ptr (.tmp 16 0) [] 0)), (199, .c (.ref (.tmp 20 0) [] 0 x0_8.length)), (200, .g [.sc (.int .i64 j181.2.2.1), .sc (.int .u64 j181.2.2.2.1), .ref (.tmp 200 62) [] 0 j181.2.2.2.2.1.length, .sc (.int .i64 j181.2.2.2.2.2)])], [(.arg 0, ⟨.box, 0, [.ref (.arg 1) [] o1 l0_0.length, .sc (.int .i64 j181.1), .sc (.int .u64 j181.2.1)]⟩), (.arg 1, ⟨.fz, 1, cs1⟩), (.tmp 20 0, ⟨.lst, 4, encL c116 x0_8⟩), (.tmp 12 0, ⟨.box, 0, [.sc (.int .u64 x0_9), .sc (.int .i64 x0_10), .own 1 t255.2.2.2.1.length (encL c_i64 t255.2.2.2.1), .sc (.int .i64 t255.2.2.2.2.1), .sc (.int .u64 t255.2.2.2.2.2.1), .sc (.bool t255.2.2.2.2.2.2)]⟩), (.tmp 16 0, ⟨.box, 0, [.sc (.int .i64 j181.2.2.1), .sc (.int .u64 j181.2.2.2.1), .dead, .sc (.int .i64 j181.2.2.2.2.2)]⟩), (.tmp 198 0, ⟨.lst, 1, encL c_u8 t255.2.2.1⟩), (.tmp 200 62, ⟨.lst, 1, encL c_u8 j181.2.2.2.2.1⟩)], [], []⟩) 200 2 (.tmp 200 62) (.tmp 16 0) [] 2 j181.2.2.2.2.1.length rfl rfl (by decide) rfl rfl rfl rfl (by first | rfl | simp +decide only [St.takeB, ak, akF])) ?_
    have g259 : (List.replicate 1 ([.int .i64 0, .int .u64 0, .slice none 0 0, .int .i64 0] : List Value)).flatten = [.int .i64 0, .int .u64 0, .slice none 0 0, .int .i64 0] := rfl
    have g260 : (⟨.lst, 4, [.sc (.int .i64 j181.2.2.1), .sc (.int .u64 j181.2.2.2.1), .own 1 j181.2.2.2.2.1.length (encL c_u8 j181.2.2.2.2.1), .sc (.int .i64 j181.2.2.2.2.2)]⟩ : Root) = ⟨.lst, 4, encL c116 ([(⟨j181.2.2.1, j181.2.2.2.1, j181.2.2.2.2.1, j181.2.2.2.2.2⟩ : S116)] : List S116)⟩ := rfl
    have g261 : ([(⟨j181.2.2.1, j181.2.2.2.1, j181.2.2.2.2.1, j181.2.2.2.2.2⟩ : S116)] : List S116).length = 1 := rfl
    simp +decide only [Nat.reduceAdd, Nat.reduceMul, Int.reduceToNat, ak, g259, g258, g260, g261]
    refine gho_k (Weak.refl _ _) ?_
    have g262 : (encL c116 ([(⟨j181.2.2.1, j181.2.2.2.1, j181.2.2.2.2.1, j181.2.2.2.2.2⟩ : S116)] : List S116)).length = 1 * 4 := by simp [encL_length c116_w]
    have g263 : (encL c116 ([(⟨j181.2.2.1, j181.2.2.2.1, j181.2.2.2.2.1, j181.2.2.2.2.2⟩ : S116)] : List S116)).all nd = true := rfl
    obtain ⟨b264, h⟩ := of_guard h
    have g265 : appLim x0_8.length 1 48 := ⟨b264, by have := b264; omega⟩
    have g266 : (encL c116 x0_8).length = x0_8.length * 4 := by simp [encL_length c116_w]
    have g267 : encL c116 x0_8 ++ encL c116 ([(⟨j181.2.2.1, j181.2.2.2.1, j181.2.2.2.2.1, j181.2.2.2.2.2⟩ : S116)] : List S116) = encL c116 (x0_8 ++ ([(⟨j181.2.2.1, j181.2.2.2.1, j181.2.2.2.2.1, j181.2.2.2.2.2⟩ : S116)] : List S116)) := (encL_append _ _).symm
    simp +decide only [Nat.reduceAdd, Nat.reduceMul, Int.reduceToNat, ak, g262, g263, g265, g266, g267]
    refine B22n _ ?_
    refine hJ21 _ ?_
    refine reg_k ?_
    simp +decide only [Nat.reduceAdd, Nat.reduceMul, Int.reduceToNat, ak]
    refine G0n _ _ (wk [0, 1, 2, 3, 4, 11, 12, 13, 14] [pI (.arg 0) .box, pI (.arg 1) .fz, pI (.tmp 20 0) .lst, pI (.tmp 12 0) .box] (h0 := by first | rfl | simp +decide only [ak, akF, b264]) (h := by first | rfl | (simp +decide only [ak, akF, b264]; done) | (simp +decide [ak, akF, b264] <;> omega))) (ih _ _ _ _ _ _ _ _ _ h K hx0)
 ·replace c20 := of_decide_eq_false c20; rw [if_neg c20] at h
  obtain rfl := Option.some.inj h
  refine gh_k (wk [11] [pI (.arg 0) .box, pI (.arg 1) .fz, pI (.tmp 20 0) .lst]) ?_
  refine G0x _ _ ?_
  exact hx0
theorem spec_l5DrawEvents.tri (cs1 : List Cell) (o1 : Nat) (l0_0 : List Int) (hv1 : Vw c_u8 1 cs1 o1 l0_0) (a0_1 : Int) (a0_2 : Int) (a1 : Int) (a2 : Int) (a3 : Int) (a4 : Bool) (r : (List S116) × Int × Int) (h : spec_l5DrawEvents.f l0_0 a0_1 a0_2 a1 a2 a3 a4 = some r) : Tri Try.prog 111 [.c (.ptr (.arg 0) [] 0), .c (.sc (.int .u64 a1)), .c (.sc (.int .i64 a2)), .c (.sc (.int .i64 a3)), .c (.sc (.bool a4))] [(.arg 0, ⟨.box, 0, [.ref (.arg 1) [] o1 l0_0.length, .sc (.int .i64 a0_1), .sc (.int .u64 a0_2)]⟩), (.arg 1, ⟨.fz, 1, cs1⟩)] (fun o => o = ⟨.c (.ref (.res 0) [] 0 r.1.length), [(.arg 0, ⟨.box, 0, [.ref (.arg 1) [] o1 l0_0.length, .sc (.int .i64 r.2.1), .sc (.int .u64 r.2.2)]⟩), (.arg 1, ⟨.fz, 1, cs1⟩), (.res 0, ⟨.lst, 4, encL c116 r.1⟩)], [], []⟩) := by
 refine tri_of_body (ac := C111) (xs := r111) Try.func111 (show Try.f111.body = some (Try.f111.body.getD .skip) from rfl) k111 q111 (Nat.le_of_ble_eq_true rfl) ?_
 refine body_of fun K hKn hKr => ?_
 unfold spec_l5DrawEvents.f at h
 unfold C111
 simp only [initT, Nat.reduceAdd]
 refine sr_k fun J1 hJ1 => ?_
 simp +decide only [Nat.reduceAdd, Nat.reduceMul, Int.reduceToNat, ak]
 refine gho_k (Weak.nm' 10 (.tmp 10 20) 4 (encL c116 ([] : List S116)) rfl rfl rfl) ?_
 simp +decide only [Nat.reduceAdd, Nat.reduceMul, Int.reduceToNat, ak]
 refine hJ1 _ ?_
 refine sr_k fun J2 hJ2 => ?_
 have g3 : (List.replicate 0 ([.int .i64 0, .int .u64 0, .slice none 0 0, .int .i64 0] : List Value)).flatten = [] := rfl
 have g4 : (⟨.lst, 4, []⟩ : Root) = ⟨.lst, 4, encL c116 ([] : List S116)⟩ := rfl
 have g5 : ([] : List S116).length = 0 := rfl
 simp +decide only [Nat.reduceAdd, Nat.reduceMul, Int.reduceToNat, ak, g3, g4, g5]
 refine gho_k (Weak.refl _ _) ?_
 simp +decide only [Nat.reduceAdd, Nat.reduceMul, Int.reduceToNat, ak]
 refine hJ2 _ ?_
 refine sr_k fun J6 hJ6 => ?_
 simp +decide only [Nat.reduceAdd, Nat.reduceMul, Int.reduceToNat, ak]
 obtain ⟨t7, h8, h⟩ := of_bind h
 refine call_m [] (s0 := []) (by intro t ht; cases ht; decide) rfl rfl (by first | rfl | simp only [reduceCtorEq, Nat.reduceEqDiff, ak, akF, g3, g4, g5]) (spec_l5Begin.tri a1 a2 _ h8) (by first | rfl | simp only [reduceCtorEq, Nat.reduceEqDiff, ak, akF]) (by simp [bkOk2, memK]) (fun hl8 => ?_)
 refine call_st (s4 := [(.arg 0, ⟨.box, 0, [.ref (.arg 1) [] o1 l0_0.length, .sc (.int .i64 a0_1), .sc (.int .u64 a0_2)]⟩), (.arg 1, ⟨.fz, 1, cs1⟩), (.tmp 10 20, ⟨.lst, 4, encL c116 ([] : List S116)⟩), (.tmp 20 0, ⟨.lst, 4, encL c116 ([] : List S116)⟩), (.tmp 23 0, ⟨.lst, 1, encL c_i64 t7.2.2.1⟩)]) (m1' := []) (m2' := []) (v' := .g [.sc (.int .u64 t7.1), .sc (.int .i64 t7.2.1), .ref (.tmp 23 0) [] 0 t7.2.2.1.length, .sc (.int .i64 t7.2.2.2.1), .sc (.int .u64 t7.2.2.2.2.1), .sc (.bool t7.2.2.2.2.2)]) (Sto.mapN_killNil _ _) (mrgL_nil' _ _ _) (by rfl) (mapT_killNil _ _) (by rfl) (by rfl) (by first | rfl | simp only [reduceCtorEq, Nat.reduceEqDiff, ak, akF, Nat.zero_add, List.append_nil]) ?_
 simp +decide only [Nat.reduceAdd, Nat.reduceMul, Int.reduceToNat, ak]
 refine gho_k (Weak.own (.tmp 12 0) (cs' := [.sc (.int .u64 0), .sc (.int .i64 0), .own 1 (([] : List Int).length) (encL c_i64 ([] : List Int)), .sc (.int .i64 0), .sc (.int .u64 0), .sc (.bool false)]) rfl ⟨.inl rfl, .inl rfl, .inr ⟨rfl, _, rfl⟩, .inl rfl, .inl rfl, .inl rfl, trivial⟩) ?_
 have g10 : (encL c_i64 t7.2.2.1).length = t7.2.2.1.length * 1 := by simp [encL_length c_i64_w]
 simp +decide only [Nat.reduceAdd, Nat.reduceMul, Int.reduceToNat, ak, g10]
 refine hJ6 _ ?_
 refine sr_k fun J11 hJ11 => ?_
 simp +decide only [Nat.reduceAdd, Nat.reduceMul, Int.reduceToNat, ak]
 obtain ⟨t12, h13, h⟩ := of_bind h
 refine call_m [(.arg 0, ⟨(.arg 0), [], none, .box⟩), (.arg 1, ⟨(.arg 1), [], none, .fz⟩)] (s0 := [(.arg 0, ⟨.box, 0, [.ref (.arg 1) [] o1 l0_0.length, .sc (.int .i64 a0_1), .sc (.int .u64 a0_2)]⟩), (.arg 1, ⟨.fz, 1, cs1⟩)]) (by intro t ht; cases ht; decide) rfl rfl (by first | rfl | simp only [reduceCtorEq, Nat.reduceEqDiff, ak, akF, g3, g4, g5, g10]) (spec_l1Next.tri (cs1) o1 l0_0 hv1 a0_1 a0_2 200 _ h13) (by first | rfl | simp only [reduceCtorEq, Nat.reduceEqDiff, ak, akF]) (by simp [bkOk2, memK]) (fun hl13 => ?_)
 refine call_st (s4 := [(.arg 0, ⟨.box, 0, [.ref (.arg 1) [] o1 l0_0.length, .sc (.int .i64 t12.2.1), .sc (.int .u64 t12.2.2)]⟩), (.arg 1, ⟨.fz, 1, cs1⟩), (.tmp 10 20, ⟨.lst, 4, encL c116 ([] : List S116)⟩), (.tmp 20 0, ⟨.lst, 4, encL c116 ([] : List S116)⟩), (.tmp 12 0, ⟨.box, 0, [.sc (.int .u64 t7.1), .sc (.int .i64 t7.2.1), .own 1 t7.2.2.1.length (encL c_i64 t7.2.2.1), .sc (.int .i64 t7.2.2.2.1), .sc (.int .u64 t7.2.2.2.2.1), .sc (.bool t7.2.2.2.2.2)]⟩)]) (m1' := []) (m2' := []) (v' := .c (.sc (.int .i64 t12.1))) (Sto.mapN_killNil _ _) (mrgL_whole (new' := [.ref (.arg 1) [] o1 l0_0.length, .sc (.int .i64 t12.2.1), .sc (.int .u64 t12.2.2)]) (mrgL_fz (mrgL_nil' _ _ _) rfl (by first | rfl | simp only [reduceCtorEq, Nat.reduceEqDiff, ak, g3, g4, g5, g10]) rfl (by intro R hR hh; cases hR; cases hh.2)) rfl (by rfl) (.inl ⟨rfl, by first | rfl | simp only [reduceCtorEq, Nat.reduceEqDiff, ak, akF, Nat.zero_add, List.append_nil]⟩)) (by rfl) (mapT_killNil _ _) (by rfl) (by rfl) (by first | rfl | simp only [reduceCtorEq, Nat.reduceEqDiff, ak, akF, Nat.zero_add, List.append_nil]) ?_
 simp +decide only [Nat.reduceAdd, Nat.reduceMul, Int.reduceToNat, ak]
 refine hJ11 _ ?_
 refine seq_k fun J15 hJ15 => ?_
 refine sr_k fun J16 hJ16 => ?_
 simp +decide only [Nat.reduceAdd, Nat.reduceMul, Int.reduceToNat, ak]
 refine hJ16 _ ?_
 refine block_k fun B17 B17n B17x B17r B17j => ?_
 obtain ⟨y268, h269, h⟩ := of_bind h
 refine gh_k (st' := ⟨[(0, .c (.ptr (.arg 0) [] 0)), (1, .c (.sc (.int .u64 a1))), (2, .c (.sc (.int .i64 a2))), (3, .c (.sc (.int .i64 a3))), (4, .c (.sc (.bool a4))), (11, .c (.ref (.tmp 20 0) [] 0 (([] : List S116).length))), (12, .c (.ptr (.tmp 12 0) [] 0)), (13, .c (.sc (.int .i64 (IntKind.i64.wrap (20 + t12.1))))), (14, .c (.sc (.int .i64 0)))], [(.arg 0, ⟨.box, 0, [.ref (.arg 1) [] o1 l0_0.length, .sc (.int .i64 t12.2.1), .sc (.int .u64 t12.2.2)]⟩), (.arg 1, ⟨.fz, 1, cs1⟩), (.tmp 20 0, ⟨.lst, 4, encL c116 ([] : List S116)⟩), (.tmp 12 0, ⟨.box, 0, [.sc (.int .u64 t7.1), .sc (.int .i64 t7.2.1), .own 1 t7.2.2.1.length (encL c_i64 t7.2.2.1), .sc (.int .i64 t7.2.2.2.1), .sc (.int .u64 t7.2.2.2.2.1), .sc (.bool t7.2.2.2.2.2)]⟩)], [], []⟩) (wk [0, 1, 2, 3, 4, 11, 12, 13, 14] [pI (.arg 0) .box, pI (.arg 1) .fz, pI (.tmp 20 0) .lst, pI (.tmp 12 0) .box] (h := by first | rfl | (simp +decide only [ak, akF]; done) | (simp +decide [ak, akF] <;> omega))) ?_
 rw [e_loop]
 refine spec_l5DrawEvents.l0_walk cs1 o1 l0_0 hv1 a1 a2 a3 a4 (IntKind.i64.wrap (20 + t12.1)) t7.1 t7.2.1 0 t12.2.1 t12.2.2 ([] : List S116) t7.2.2.1 t7.2.2.2.1 t7.2.2.2.2.1 t7.2.2.2.2.2 _ h269 _ ?_
 refine B17x _ ?_
 refine hJ15 _ ?_
 refine sr_k fun J270 hJ270 => ?_
 simp +decide only [Nat.reduceAdd, Nat.reduceMul, Int.reduceToNat, ak]
 refine hJ270 _ ?_
 obtain rfl := Option.some.inj h
 refine hKr _ ⟨_, rfl, [⟨(.tmp 20 0), [], none, .lst⟩], _, rfl, rfl, ?_⟩
 first | rfl | (simp only [reduceCtorEq, Nat.reduceEqDiff, ak, akF]; done) | (simp [reduceCtorEq, Nat.reduceEqDiff, ak, akF] <;> omega)
/-! ### spec.HonestPieces: function 61 -/
def C61 : AC := .seq (.reg [.op none (.mv 2 (.const (.int .u64 0))), .op none (.mv 3 (.const (.int .i64 0))), .op none (.mv 4 (.const (.slice none 0 0))), .gh, .keep [0]]) (.seq (.reg [.op none (.mv 8 (.tmp 0)), .call none (some 9) 68 [.tmp 8], .op none (.alloc 5 [.slice none 0 0, .int .i64 0, .int .u64 0]), .gh, .op none (.store 3 (.tmp 5) (.tmp 9)), .keep [5]]) (.seq (.reg [.call none (some 10) 110 [.tmp 5], .op none (.mv 6 (.tmp 10)), .keep [5, 6]]) (.seq (.reg [.call none (some 11) 69 [.tmp 5, .const (.int .i64 60)], .op none (.bin 12 .add (.const (.int .i64 1)) (.tmp 11)), .op none (.mv 7 (.tmp 12)), .keep [5, 6, 7]]) (.seq (.reg [.op none (.mv 13 (.tmp 6)), .op none (.mv 14 (.tmp 7)), .op none (.mv 15 (.tmp 6)), .op none (.mv 16 (.tmp 7)), .call none (some 17) 69 [.tmp 5, .const (.int .i64 120)], .op none (.bin 18 .add (.const (.int .i64 20)) (.tmp 17)), .call none (some 19) 111 [.tmp 5, .tmp 15, .tmp 16, .tmp 18, .const (.bool true)], .op none (.mv 2 (.tmp 13)), .op none (.mv 3 (.tmp 14)), .op none (.mv 4 (.tmp 19)), .keep [2, 3, 4]]) (.ret)))))
def r61 : List RV := [.tmp 2, .tmp 3, .tmp 4]
theorem k61 : compC Try.prog 20 C61 (Try.f61.body.getD .skip) = some C61.erase := by kernel_rfl
theorem q61 : rvsOf Try.prog Try.f61.results.toList = some r61 := by kernel_rfl
def spec_HonestPieces.f (l0 : List Int) : Option (Int × Int × (List S116)) := (spec_l1Begin.f l0 >>= fun t3 => (spec_l5DrawStart.f l0 t3.1 t3.2 >>= fun t7 => (spec_l1Next.f l0 t7.2.1 t7.2.2 60 >>= fun t11 => (spec_l1Next.f l0 t11.2.1 t11.2.2 120 >>= fun t15 => (spec_l5DrawEvents.f l0 t15.2.1 t15.2.2 t7.1 (IntKind.i64.wrap (1 + t11.1)) (IntKind.i64.wrap (20 + t15.1)) true >>= fun t18 => (some (t7.1, IntKind.i64.wrap (1 + t11.1), t18.1)))))))
theorem spec_HonestPieces.tri (cs0 : List Cell) (o0 : Nat) (l0 : List Int) (hv0 : Vw c_u8 1 cs0 o0 l0) (r : Int × Int × (List S116)) (h : spec_HonestPieces.f l0 = some r) : Tri Try.prog 61 [.c (.ref (.arg 0) [] o0 l0.length)] [(.arg 0, ⟨.fz, 1, cs0⟩)] (fun o => o = ⟨.tup [(false, [.sc (.int .u64 r.1)]), (false, [.sc (.int .i64 r.2.1)]), (false, [.ref (.res 0) [] 0 r.2.2.length])], [(.arg 0, ⟨.fz, 1, cs0⟩), (.res 0, ⟨.lst, 4, encL c116 r.2.2⟩)], [], []⟩) := by
 refine tri_of_body (ac := C61) (xs := r61) Try.func61 (show Try.f61.body = some (Try.f61.body.getD .skip) from rfl) k61 q61 (Nat.le_of_ble_eq_true rfl) ?_
 refine body_of fun K hKn hKr => ?_
 unfold spec_HonestPieces.f at h
 unfold C61
 simp only [initT, Nat.reduceAdd]
 refine sr_k fun J1 hJ1 => ?_
 simp +decide only [Nat.reduceAdd, Nat.reduceMul, Int.reduceToNat, ak]
 refine gho_k (Weak.nm' 4 (.tmp 4 20) 4 (encL c116 ([] : List S116)) rfl rfl rfl) ?_
 simp +decide only [Nat.reduceAdd, Nat.reduceMul, Int.reduceToNat, ak]
 refine hJ1 _ ?_
 refine sr_k fun J2 hJ2 => ?_
 simp +decide only [Nat.reduceAdd, Nat.reduceMul, Int.reduceToNat, ak]
 obtain ⟨t3, h4, h⟩ := of_bind h
 refine call_m [(.arg 0, ⟨(.arg 0), [], none, .fz⟩)] (s0 := [(.arg 0, ⟨.fz, 1, cs0⟩)]) (by intro t ht; cases ht; decide) rfl rfl (by first | rfl | simp only [reduceCtorEq, Nat.reduceEqDiff, ak, akF]) (spec_l1Begin.tri (cs0) o0 l0 hv0 _ h4) (by first | rfl | simp only [reduceCtorEq, Nat.reduceEqDiff, ak, akF]) (by simp [bkOk2, memK]) (fun hl4 => ?_)
 refine call_st (s4 := [(.arg 0, ⟨.fz, 1, cs0⟩), (.tmp 4 20, ⟨.lst, 4, encL c116 ([] : List S116)⟩)]) (m1' := []) (m2' := []) (v' := .g [.ref (.arg 0) [] o0 l0.length, .sc (.int .i64 t3.1), .sc (.int .u64 t3.2)]) (Sto.mapN_killNil _ _) (mrgL_fz (mrgL_nil' _ _ _) rfl (by first | rfl | simp only [reduceCtorEq, Nat.reduceEqDiff, ak]) rfl (by intro R hR hh; cases hR; cases hh.2)) (by rfl) (mapT_killNil _ _) (by rfl) (by rfl) (by first | rfl | simp only [reduceCtorEq, Nat.reduceEqDiff, ak, akF, Nat.zero_add, List.append_nil]) ?_
 simp +decide only [Nat.reduceAdd, Nat.reduceMul, Int.reduceToNat, ak]
 refine gho_k (Weak.own (.tmp 5 0) (cs' := [.own 1 (([] : List Int).length) (encL c_u8 ([] : List Int)), .sc (.int .i64 0), .sc (.int .u64 0)]) rfl ⟨.inr ⟨rfl, _, rfl⟩, .inl rfl, .inl rfl, trivial⟩) ?_
 simp +decide only [Nat.reduceAdd, Nat.reduceMul, Int.reduceToNat, ak]
 refine hJ2 _ ?_
 refine sr_k fun J6 hJ6 => ?_
 simp +decide only [Nat.reduceAdd, Nat.reduceMul, Int.reduceToNat, ak]
 obtain ⟨t7, h8, h⟩ := of_bind h
 refine call_m [(.arg 0, ⟨(.tmp 5 0), [], none, .box⟩), (.arg 1, ⟨(.arg 0), [], none, .fz⟩)] (s0 := [(.arg 0, ⟨.box, 0, [.ref (.arg 1) [] o0 l0.length, .sc (.int .i64 t3.1), .sc (.int .u64 t3.2)]⟩), (.arg 1, ⟨.fz, 1, cs0⟩)]) (by intro t ht; cases ht; decide) rfl rfl (by first | rfl | simp only [reduceCtorEq, Nat.reduceEqDiff, ak, akF]) (spec_l5DrawStart.tri (cs0) o0 l0 hv0 t3.1 t3.2 _ h8) (by first | rfl | simp only [reduceCtorEq, Nat.reduceEqDiff, ak, akF]) (by simp [bkOk2, memK]) (fun hl8 => ?_)
 refine call_st (s4 := [(.arg 0, ⟨.fz, 1, cs0⟩), (.tmp 4 20, ⟨.lst, 4, encL c116 ([] : List S116)⟩), (.tmp 5 0, ⟨.box, 0, [.ref (.arg 0) [] o0 l0.length, .sc (.int .i64 t7.2.1), .sc (.int .u64 t7.2.2)]⟩)]) (m1' := []) (m2' := []) (v' := .c (.sc (.int .u64 t7.1))) (Sto.mapN_killNil _ _) (mrgL_whole (new' := [.ref (.arg 0) [] o0 l0.length, .sc (.int .i64 t7.2.1), .sc (.int .u64 t7.2.2)]) (mrgL_fz (mrgL_nil' _ _ _) rfl (by first | rfl | simp only [reduceCtorEq, Nat.reduceEqDiff, ak]) rfl (by intro R hR hh; cases hR; cases hh.2)) rfl (by rfl) (.inl ⟨rfl, by first | rfl | simp only [reduceCtorEq, Nat.reduceEqDiff, ak, akF, Nat.zero_add, List.append_nil]⟩)) (by rfl) (mapT_killNil _ _) (by rfl) (by rfl) (by first | rfl | simp only [reduceCtorEq, Nat.reduceEqDiff, ak, akF, Nat.zero_add, List.append_nil]) ?_
 simp +decide only [Nat.reduceAdd, Nat.reduceMul, Int.reduceToNat, ak]
 refine hJ6 _ ?_
 refine sr_k fun J10 hJ10 => ?_
 simp +decide only [Nat.reduceAdd, Nat.reduceMul, Int.reduceToNat, ak]
 obtain ⟨t11, h12, h⟩ := of_bind h
 refine call_m [(.arg 0, ⟨(.tmp 5 0), [], none, .box⟩), (.arg 1, ⟨(.arg 0), [], none, .fz⟩)] (s0 := [(.arg 0, ⟨.box, 0, [.ref (.arg 1) [] o0 l0.length, .sc (.int .i64 t7.2.1), .sc (.int .u64 t7.2.2)]⟩), (.arg 1, ⟨.fz, 1, cs0⟩)]) (by intro t ht; cases ht; decide) rfl rfl (by first | rfl | simp only [reduceCtorEq, Nat.reduceEqDiff, ak, akF]) (spec_l1Next.tri (cs0) o0 l0 hv0 t7.2.1 t7.2.2 60 _ h12) (by first | rfl | simp only [reduceCtorEq, Nat.reduceEqDiff, ak, akF]) (by simp [bkOk2, memK]) (fun hl12 => ?_)
 refine call_st (s4 := [(.arg 0, ⟨.fz, 1, cs0⟩), (.tmp 4 20, ⟨.lst, 4, encL c116 ([] : List S116)⟩), (.tmp 5 0, ⟨.box, 0, [.ref (.arg 0) [] o0 l0.length, .sc (.int .i64 t11.2.1), .sc (.int .u64 t11.2.2)]⟩)]) (m1' := []) (m2' := []) (v' := .c (.sc (.int .i64 t11.1))) (Sto.mapN_killNil _ _) (mrgL_whole (new' := [.ref (.arg 0) [] o0 l0.length, .sc (.int .i64 t11.2.1), .sc (.int .u64 t11.2.2)]) (mrgL_fz (mrgL_nil' _ _ _) rfl (by first | rfl | simp only [reduceCtorEq, Nat.reduceEqDiff, ak]) rfl (by intro R hR hh; cases hR; cases hh.2)) rfl (by rfl) (.inl ⟨rfl, by first | rfl | simp only [reduceCtorEq, Nat.reduceEqDiff, ak, akF, Nat.zero_add, List.append_nil]⟩)) (by rfl) (mapT_killNil _ _) (by rfl) (by rfl) (by first | rfl | simp only [reduceCtorEq, Nat.reduceEqDiff, ak, akF, Nat.zero_add, List.append_nil]) ?_
 simp +decide only [Nat.reduceAdd, Nat.reduceMul, Int.reduceToNat, ak]
 refine hJ10 _ ?_
 refine sr_k fun J14 hJ14 => ?_
 simp +decide only [Nat.reduceAdd, Nat.reduceMul, Int.reduceToNat, ak]
 obtain ⟨t15, h16, h⟩ := of_bind h
 refine call_m [(.arg 0, ⟨(.tmp 5 0), [], none, .box⟩), (.arg 1, ⟨(.arg 0), [], none, .fz⟩)] (s0 := [(.arg 0, ⟨.box, 0, [.ref (.arg 1) [] o0 l0.length, .sc (.int .i64 t11.2.1), .sc (.int .u64 t11.2.2)]⟩), (.arg 1, ⟨.fz, 1, cs0⟩)]) (by intro t ht; cases ht; decide) rfl rfl (by first | rfl | simp only [reduceCtorEq, Nat.reduceEqDiff, ak, akF]) (spec_l1Next.tri (cs0) o0 l0 hv0 t11.2.1 t11.2.2 120 _ h16) (by first | rfl | simp only [reduceCtorEq, Nat.reduceEqDiff, ak, akF]) (by simp [bkOk2, memK]) (fun hl16 => ?_)
 refine call_st (s4 := [(.arg 0, ⟨.fz, 1, cs0⟩), (.tmp 4 20, ⟨.lst, 4, encL c116 ([] : List S116)⟩), (.tmp 5 0, ⟨.box, 0, [.ref (.arg 0) [] o0 l0.length, .sc (.int .i64 t15.2.1), .sc (.int .u64 t15.2.2)]⟩)]) (m1' := []) (m2' := []) (v' := .c (.sc (.int .i64 t15.1))) (Sto.mapN_killNil _ _) (mrgL_whole (new' := [.ref (.arg 0) [] o0 l0.length, .sc (.int .i64 t15.2.1), .sc (.int .u64 t15.2.2)]) (mrgL_fz (mrgL_nil' _ _ _) rfl (by first | rfl | simp only [reduceCtorEq, Nat.reduceEqDiff, ak]) rfl (by intro R hR hh; cases hR; cases hh.2)) rfl (by rfl) (.inl ⟨rfl, by first | rfl | simp only [reduceCtorEq, Nat.reduceEqDiff, ak, akF, Nat.zero_add, List.append_nil]⟩)) (by rfl) (mapT_killNil _ _) (by rfl) (by rfl) (by first | rfl | simp only [reduceCtorEq, Nat.reduceEqDiff, ak, akF, Nat.zero_add, List.append_nil]) ?_
 simp +decide only [Nat.reduceAdd, Nat.reduceMul, Int.reduceToNat, ak]
 obtain ⟨t18, h19, h⟩ := of_bind h
 refine call_m [(.arg 0, ⟨(.tmp 5 0), [], none, .box⟩), (.arg 1, ⟨(.arg 0), [], none, .fz⟩)] (s0 := [(.arg 0, ⟨.box, 0, [.ref (.arg 1) [] o0 l0.length, .sc (.int .i64 t15.2.1), .sc (.int .u64 t15.2.2)]⟩), (.arg 1, ⟨.fz, 1, cs0⟩)]) (by intro t ht; cases ht; decide) rfl rfl (by first | rfl | simp only [reduceCtorEq, Nat.reduceEqDiff, ak, akF]) (spec_l5DrawEvents.tri (cs0) o0 l0 hv0 t15.2.1 t15.2.2 t7.1 (IntKind.i64.wrap (1 + t11.1)) (IntKind.i64.wrap (20 + t15.1)) true _ h19) (by first | rfl | simp only [reduceCtorEq, Nat.reduceEqDiff, ak, akF]) (by simp [bkOk2, memK]) (fun hl19 => ?_)
 refine call_st (s4 := [(.arg 0, ⟨.fz, 1, cs0⟩), (.tmp 4 20, ⟨.lst, 4, encL c116 ([] : List S116)⟩), (.tmp 5 0, ⟨.box, 0, [.ref (.arg 0) [] o0 l0.length, .sc (.int .i64 t18.2.1), .sc (.int .u64 t18.2.2)]⟩), (.tmp 19 0, ⟨.lst, 4, encL c116 t18.1⟩)]) (m1' := []) (m2' := []) (v' := .c (.ref (.tmp 19 0) [] 0 t18.1.length)) (Sto.mapN_killNil _ _) (mrgL_whole (new' := [.ref (.arg 0) [] o0 l0.length, .sc (.int .i64 t18.2.1), .sc (.int .u64 t18.2.2)]) (mrgL_fz (mrgL_nil' _ _ _) rfl (by first | rfl | simp only [reduceCtorEq, Nat.reduceEqDiff, ak]) rfl (by intro R hR hh; cases hR; cases hh.2)) rfl (by rfl) (.inl ⟨rfl, by first | rfl | simp only [reduceCtorEq, Nat.reduceEqDiff, ak, akF, Nat.zero_add, List.append_nil]⟩)) (by rfl) (mapT_killNil _ _) (by rfl) (by rfl) (by first | rfl | simp only [reduceCtorEq, Nat.reduceEqDiff, ak, akF, Nat.zero_add, List.append_nil]) ?_
 simp +decide only [Nat.reduceAdd, Nat.reduceMul, Int.reduceToNat, ak]
 refine hJ14 _ ?_
 obtain rfl := Option.some.inj h
 refine hKr _ ⟨_, rfl, [⟨(.tmp 19 0), [], none, .lst⟩], _, rfl, rfl, ?_⟩
 first | rfl | (simp only [reduceCtorEq, Nat.reduceEqDiff, ak, akF]; done) | (simp [reduceCtorEq, Nat.reduceEqDiff, ak, akF] <;> omega)
/-! ### spec.l5Run: function 100 -/
def C100_l0 : AC := .seq (.seq (.reg [.op none (.mv 31 (.tmp 11)), .op none (.mv 32 (.tmp 2)), .op none (.len 33 (.tmp 32)), .op none (.bin 34 .lss (.tmp 31) (.tmp 33)), .keep [2, 6, 9, 10, 11, 34]]) (.cond (.tmp 34) (.skip) (.gh (.exit 0)))) (.seq (.block 1 (.reg [.op none (.mv 37 (.tmp 10)), .op none (.mv 38 (.tmp 2)), .op none (.mv 39 (.tmp 11)), .op none (.iaddr 40 4 (.tmp 38) (.tmp 39)), .op none (.load 41 true 4 (.tmp 40)), .call none (some 42) 137 [.tmp 9, .tmp 41], .op none (.bslice 43 3 [.int .i64 0, .int .i64 0, .slice none 0 0] 1 [(0, .tmp 42)]), .gh, .op none (.app 44 3 40 true (.tmp 37) (.tmp 43)), .op none (.mv 10 (.tmp 44)), .keep [2, 6, 9, 10, 11]])) (.reg [.op none (.mv 35 (.tmp 11)), .op none (.bin 36 .add (.tmp 35) (.const (.int .i64 1))), .op none (.mv 11 (.tmp 36)), .keep [2, 6, 9, 10, 11]]))
def C100 : AC := .seq (.reg [.op none (.alloc 6 [.int .u64 0, .int .i64 0, .slice none 0 0, .int .i64 0, .int .u64 0, .bool false]), .gh, .op none (.mv 7 (.const (.slice none 0 0))), .gh, .op none (.mv 8 (.const (.int .i64 0))), .keep [0, 1, 2, 6]]) (.seq (.seq (.ga (.reg [.op none (.mv 12 (.tmp 0)), .op none (.bin 13 .gtr (.tmp 12) (.const (.int .u64 4611686018427387904))), .op none (.mv 14 (.tmp 13)), .op (some (14, false)) (.mv 15 (.tmp 1)), .op (some (14, false)) (.bin 16 .lss (.tmp 15) (.const (.int .i64 1))), .op none (.pick 17 (.tmp 14) (.const (.bool true)) (.tmp 16)), .op none (.mv 18 (.tmp 17)), .op (some (18, false)) (.mv 19 (.tmp 1)), .op (some (18, false)) (.bin 20 .gtr (.tmp 19) (.const (.int .i64 4096))), .op none (.pick 21 (.tmp 18) (.const (.bool true)) (.tmp 20)), .keep [0, 1, 2, 6, 21]])) (.cond (.tmp 21) (.seq (.reg [.op none (.build 22 [.int .u64 0, .int .i64 0, .slice none 0 0, .int .i64 0, .int .u64 0, .bool false] []), .gh, .op none (.store 6 (.tmp 6) (.tmp 22)), .op none (.mv 7 (.const (.slice none 0 0))), .gh, .op none (.mv 8 (.const (.int .i64 17))), .keep [6, 7, 8]]) (.ret)) (.skip))) (.seq (.seq (.reg [.op none (.mv 23 (.tmp 2)), .op none (.len 24 (.tmp 23)), .op none (.bin 25 .gtr (.tmp 24) (.const (.int .i64 4000))), .keep [0, 1, 2, 6, 25]]) (.cond (.tmp 25) (.seq (.reg [.op none (.build 26 [.int .u64 0, .int .i64 0, .slice none 0 0, .int .i64 0, .int .u64 0, .bool false] []), .gh, .op none (.store 6 (.tmp 6) (.tmp 26)), .op none (.mv 7 (.const (.slice none 0 0))), .gh, .op none (.mv 8 (.const (.int .i64 5))), .keep [6, 7, 8]]) (.ret)) (.skip))) (.seq (.reg [.op none (.mv 27 (.tmp 0)), .op none (.mv 28 (.tmp 1)), .call none (some 29) 136 [.tmp 27, .tmp 28], .op none (.alloc 9 [.int .u64 0, .int .i64 0, .slice none 0 0, .int .i64 0, .int .u64 0, .bool false]), .gh, .op none (.store 6 (.tmp 9) (.tmp 29)), .keep [2, 6, 9]]) (.seq (.reg [.op none (.bslice 30 3 [.int .i64 0, .int .i64 0, .slice none 0 0] 0 []), .gh, .op none (.mv 10 (.tmp 30)), .keep [2, 6, 9, 10]]) (.seq (.seq (.reg [.op none (.mv 11 (.const (.int .i64 0))), .keep [2, 6, 9, 10, 11]]) (.block 0 (.gh (.loop (.ga C100_l0))))) (.seq (.reg [.op none (.load 45 true 6 (.tmp 9)), .op none (.mv 46 (.tmp 10)), .op none (.store 6 (.tmp 6) (.tmp 45)), .op none (.mv 7 (.tmp 46)), .op none (.mv 8 (.const (.int .i64 0))), .keep [6, 7, 8]]) (.ret)))))))
def r100 : List RV := [.cell 6 true 6, .tmp 7, .tmp 8]
theorem k100 : compC Try.prog 47 C100 (Try.f100.body.getD .skip) = some C100.erase := by kernel_rfl
theorem q100 : rvsOf Try.prog Try.f100.results.toList = some r100 := by kernel_rfl
def spec_l5Run.l0 (l2 : List S116) (x0_1 : Int) (x0_2 : Int) (x0_3 : (List Int)) (x0_4 : Int) (x0_5 : Int) (x0_6 : Bool) (x0_7 : Int) (x0_8 : Int) (x0_0 : Int) (x0_9 : (List Int)) (x0_10 : Int) (x0_11 : Int) (x0_12 : Bool) (x0_13 : (List S118)) : Option ((List Int) × Int × Int × Bool × (List S118)) := (if x0_0 < (l2.length : Int) then (if 0 ≤ x0_0 ∧ x0_0 < (l2.length : Int) then (spec_l5Step.f x0_7 x0_8 x0_9 x0_10 x0_11 x0_12 ((rd z116 l2 x0_0).f0) ((rd z116 l2 x0_0).f1) ((rd z116 l2 x0_0).f2) ((rd z116 l2 x0_0).f3) >>= fun t41 => (if (x0_13.length + 1) * 40 ≤ 140737488355328 then (spec_l5Run.l0 l2 x0_1 x0_2 x0_3 x0_4 x0_5 x0_6 x0_7 x0_8 (IntKind.i64.wrap (x0_0 + 1)) t41.2.2.2.1 t41.2.2.2.2.1 t41.2.2.2.2.2.1 t41.2.2.2.2.2.2 (x0_13 ++ ([(⟨t41.1, t41.2.1, t41.2.2.1⟩ : S118)] : List S118))) else none)) else none) else (some (x0_9, x0_10, x0_11, x0_12, x0_13)))
 partial_fixpoint
def spec_l5Run.f (a0 : Int) (a1 : Int) (l2 : List S116) : Option (Int × Int × (List Int) × Int × Int × Bool × (List S118) × Int) := ((if a0 > 4611686018427387904 then (some true) else (if a1 < 1 then (some true) else (some (decide (a1 > 4096))))) >>= fun (j3 : Bool) => (if j3 = true then (some (0, 0, ([] : List Int), 0, 0, false, ([] : List S118), 17)) else (if (l2.length : Int) > 4000 then (some (0, 0, ([] : List Int), 0, 0, false, ([] : List S118), 5)) else (spec_l5Begin.f a0 a1 >>= fun t22 => (spec_l5Run.l0 l2 0 0 ([] : List Int) 0 0 false t22.1 t22.2.1 0 t22.2.2.1 t22.2.2.2.1 t22.2.2.2.2.1 t22.2.2.2.2.2 ([] : List S118) >>= fun (y54 : ((List Int) × Int × Int × Bool × (List S118))) => (some (t22.1, t22.2.1, y54.1, y54.2.1, y54.2.2.1, y54.2.2.2.1, y54.2.2.2.2, 0)))))))
def spec_l5Run.l0_M (cs0 : List Cell) (o0 : Nat) (l2 : List S116) (hv0 : Vw c116 4 cs0 o0 l2) (x0_1 : Int) (x0_2 : Int) (x0_3 : (List Int)) (x0_4 : Int) (x0_5 : Int) (x0_6 : Bool) (x0_7 : Int) (x0_8 : Int) (x0_0 : Int) (x0_9 : (List Int)) (x0_10 : Int) (x0_11 : Int) (x0_12 : Bool) (x0_13 : (List S118)) (y : ((List Int) × Int × Int × Bool × (List S118))) : Prop := ∀ (K : AE → St → Prop), (K (.exit 0) ⟨[(6, .c (.ptr (.tmp 6 0) [] 0)), (9, .c (.ptr (.tmp 9 0) [] 0)), (10, .c (.ref (.tmp 30 0) [] 0 y.2.2.2.2.length))], [(.arg 0, ⟨.fz, 4, cs0⟩), (.tmp 6 0, ⟨.box, 0, [.sc (.int .u64 x0_1), .sc (.int .i64 x0_2), .own 1 x0_3.length (encL c_i64 x0_3), .sc (.int .i64 x0_4), .sc (.int .u64 x0_5), .sc (.bool x0_6)]⟩), (.tmp 9 0, ⟨.box, 0, [.sc (.int .u64 x0_7), .sc (.int .i64 x0_8), .own 1 y.1.length (encL c_i64 y.1), .sc (.int .i64 y.2.1), .sc (.int .u64 y.2.2.1), .sc (.bool y.2.2.2.1)]⟩), (.tmp 30 0, ⟨.lst, 3, encL c118 y.2.2.2.2⟩)], [], []⟩) → loopS Try.prog 47 (.ga C100_l0) K ⟨[(2, .c (.ref (.arg 0) [] o0 l2.length)), (6, .c (.ptr (.tmp 6 0) [] 0)), (9, .c (.ptr (.tmp 9 0) [] 0)), (10, .c (.ref (.tmp 30 0) [] 0 x0_13.length)), (11, .c (.sc (.int .i64 x0_0)))], [(.arg 0, ⟨.fz, 4, cs0⟩), (.tmp 6 0, ⟨.box, 0, [.sc (.int .u64 x0_1), .sc (.int .i64 x0_2), .own 1 x0_3.length (encL c_i64 x0_3), .sc (.int .i64 x0_4), .sc (.int .u64 x0_5), .sc (.bool x0_6)]⟩), (.tmp 9 0, ⟨.box, 0, [.sc (.int .u64 x0_7), .sc (.int .i64 x0_8), .own 1 x0_9.length (encL c_i64 x0_9), .sc (.int .i64 x0_10), .sc (.int .u64 x0_11), .sc (.bool x0_12)]⟩), (.tmp 30 0, ⟨.lst, 3, encL c118 x0_13⟩)], [], []⟩
theorem spec_l5Run.l0_walk (cs0 : List Cell) (o0 : Nat) (l2 : List S116) (hv0 : Vw c116 4 cs0 o0 l2) (x0_1 : Int) (x0_2 : Int) (x0_3 : (List Int)) (x0_4 : Int) (x0_5 : Int) (x0_6 : Bool) (x0_7 : Int) (x0_8 : Int) (x0_0 : Int) (x0_9 : (List Int)) (x0_10 : Int) (x0_11 : Int) (x0_12 : Bool) (x0_13 : (List S118)) (y : ((List Int) × Int × Int × Bool × (List S118))) (h : spec_l5Run.l0 l2 x0_1 x0_2 x0_3 x0_4 x0_5 x0_6 x0_7 x0_8 x0_0 x0_9 x0_10 x0_11 x0_12 x0_13 = some y) : spec_l5Run.l0_M cs0 o0 l2 hv0 x0_1 x0_2 x0_3 x0_4 x0_5 x0_6 x0_7 x0_8 x0_0 x0_9 x0_10 x0_11 x0_12 x0_13 y := by
 refine spec_l5Run.l0.partial_correctness l2 x0_1 x0_2 x0_3 x0_4 x0_5 x0_6 x0_7 x0_8 (motive := fun x0_0 x0_9 x0_10 x0_11 x0_12 x0_13 y => spec_l5Run.l0_M cs0 o0 l2 hv0 x0_1 x0_2 x0_3 x0_4 x0_5 x0_6 x0_7 x0_8 x0_0 x0_9 x0_10 x0_11 x0_12 x0_13 y) ?_ x0_0 x0_9 x0_10 x0_11 x0_12 x0_13 y h
 clear h
 unfold spec_l5Run.l0_M
 intro rec ih x0_0 x0_9 x0_10 x0_11 x0_12 x0_13 y h K hx0
 refine loop_unroll (ga_k fun G0 G0n G0r G0x => ?_)
 unfold C100_l0
 refine seq_k fun J33 hJ33 => ?_
 refine sr_k fun J34 hJ34 => ?_
 simp +decide only [Nat.reduceAdd, Nat.reduceMul, Int.reduceToNat, ak]
 refine hJ34 _ ?_
 refine cond_k (b := decide (x0_0 < (l2.length : Int))) rfl (fun c35 => ?_) (fun c35 => ?_)
 ·replace c35 := of_decide_eq_true c35; rw [if_pos c35] at h
  refine hJ33 _ ?_
  refine seq_k fun J36 hJ36 => ?_
  refine block_k fun B37 B37n B37x B37r B37j => ?_
  refine reg_k ?_
  obtain ⟨b38, h⟩ := of_guard h
  have g39 : (List.drop (o0 + x0_0.toNat * 4) (cs0)).take 4 = [.sc (.int .i64 ((rd z116 l2 x0_0).f0)), .sc (.int .u64 ((rd z116 l2 x0_0).f1)), .own 1 (((rd z116 l2 x0_0).f2).length) (encL c_u8 ((rd z116 l2 x0_0).f2)), .sc (.int .i64 ((rd z116 l2 x0_0).f3))] := hv0.stretch z116 b38.1 b38.2
  simp +decide only [Nat.reduceAdd, Nat.reduceMul, Int.reduceToNat, ak, b38, g39]
  have g40 : (cs0)[o0 + x0_0.toNat * 4 + 1 + 1]? = some (.own 1 (((rd z116 l2 x0_0).f2).length) (encL c_u8 ((rd z116 l2 x0_0).f2))) := hv0.get z116 2 b38.1 b38.2 (by decide)
  obtain ⟨t41, h42, h⟩ := of_bind h
  refine call_m [(.arg 0, ⟨(.tmp 9 0), [], none, .box⟩), (.arg 1, ⟨(.arg 0), [o0 + x0_0.toNat * 4 + 1 + 1], none, .fz⟩)] (s0 := [(.arg 0, ⟨.box, 0, [.sc (.int .u64 x0_7), .sc (.int .i64 x0_8), .own 1 x0_9.length (encL c_i64 x0_9), .sc (.int .i64 x0_10), .sc (.int .u64 x0_11), .sc (.bool x0_12)]⟩), (.arg 1, ⟨.fz, 1, encL c_u8 ((rd z116 l2 x0_0).f2)⟩)]) (by intro t ht; cases ht; decide) rfl rfl (by first | rfl | simp only [reduceCtorEq, Nat.reduceEqDiff, ak, akF, b38, g39, g40]) (spec_l5Step.tri (encL c_u8 ((rd z116 l2 x0_0).f2)) 0 ((rd z116 l2 x0_0).f2) (Vw.whole c_u8_w ((rd z116 l2 x0_0).f2)) x0_7 x0_8 x0_9 x0_10 x0_11 x0_12 ((rd z116 l2 x0_0).f0) ((rd z116 l2 x0_0).f1) ((rd z116 l2 x0_0).f3) _ h42) (by first | rfl | simp only [reduceCtorEq, Nat.reduceEqDiff, ak, akF]) (by simp [bkOk2, memK]) (fun hl42 => ?_)
  refine call_st (s2 := [(.arg 0, ⟨.fz, 4, cs0⟩), (.tmp 6 0, ⟨.box, 0, [.sc (.int .u64 x0_1), .sc (.int .i64 x0_2), .own 1 x0_3.length (encL c_i64 x0_3), .sc (.int .i64 x0_4), .sc (.int .u64 x0_5), .sc (.bool x0_6)]⟩), (.tmp 9 0, ⟨.box, 0, [.sc (.int .u64 x0_7), .sc (.int .i64 x0_8), .own 1 x0_9.length (encL c_i64 x0_9), .sc (.int .i64 x0_10), .sc (.int .u64 x0_11), .sc (.bool x0_12)]⟩), (.tmp 30 0, ⟨.lst, 3, encL c118 x0_13⟩)]) (s4 := [(.arg 0, ⟨.fz, 4, cs0⟩), (.tmp 6 0, ⟨.box, 0, [.sc (.int .u64 x0_1), .sc (.int .i64 x0_2), .own 1 x0_3.length (encL c_i64 x0_3), .sc (.int .i64 x0_4), .sc (.int .u64 x0_5), .sc (.bool x0_6)]⟩), (.tmp 9 0, ⟨.box, 0, [.sc (.int .u64 x0_7), .sc (.int .i64 x0_8), .own 1 t41.2.2.2.1.length (encL c_i64 t41.2.2.2.1), .sc (.int .i64 t41.2.2.2.2.1), .sc (.int .u64 t41.2.2.2.2.2.1), .sc (.bool t41.2.2.2.2.2.2)]⟩), (.tmp 30 0, ⟨.lst, 3, encL c118 x0_13⟩), (.tmp 42 0, ⟨.lst, 1, encL c_u8 t41.2.2.1⟩)]) (t' := [(2, .c (.ref (.arg 0) [] o0 l2.length)), (6, .c (.ptr (.tmp 6 0) [] 0)), (9, .c (.ptr (.tmp 9 0) [] 0)), (10, .c (.ref (.tmp 30 0) [] 0 x0_13.length)), (11, .c (.sc (.int .i64 x0_0))), (34, .c (.sc (.bool (decide (x0_0 < (l2.length : Int)))))), (37, .c (.ref (.tmp 30 0) [] 0 x0_13.length)), (38, .c (.ref (.arg 0) [] o0 l2.length)), (39, .c (.sc (.int .i64 x0_0))), (40, .c (.ptr (.arg 0) [] (o0 + x0_0.toNat * 4))), (41, .g [.sc (.int .i64 ((rd z116 l2 x0_0).f0)), .sc (.int .u64 ((rd z116 l2 x0_0).f1)), .ref (.arg 0) [o0 + x0_0.toNat * 4 + 1 + 1] 0 (((rd z116 l2 x0_0).f2).length), .sc (.int .i64 ((rd z116 l2 x0_0).f3))])]) (m1' := []) (m2' := []) (v' := .g [.sc (.int .i64 t41.1), .sc (.int .i64 t41.2.1), .ref (.tmp 42 0) [] 0 t41.2.2.1.length]) (by first | rfl | simp only [reduceCtorEq, Nat.reduceEqDiff, ak, akF, List.contains_nil, List.contains_cons, Nat.reduceBEq, b38]) (mrgL_whole (new' := [.sc (.int .u64 x0_7), .sc (.int .i64 x0_8), .own 1 t41.2.2.2.1.length (encL c_i64 t41.2.2.2.1), .sc (.int .i64 t41.2.2.2.2.1), .sc (.int .u64 t41.2.2.2.2.2.1), .sc (.bool t41.2.2.2.2.2.2)]) (mrgL_fz (mrgL_nil' _ _ _) rfl (by first | rfl | simp only [reduceCtorEq, Nat.reduceEqDiff, ak, b38, g39, g40]) rfl (by intro R hR hh; cases hh.1)) rfl (by rfl) (.inl ⟨rfl, by first | rfl | simp only [reduceCtorEq, Nat.reduceEqDiff, ak, akF, Nat.zero_add, List.append_nil, b38]⟩)) (by rfl) (by first | rfl | simp only [reduceCtorEq, Nat.reduceEqDiff, ak, akF, List.contains_nil, List.contains_cons, Nat.reduceBEq, b38]) (by rfl) (by rfl) (by first | rfl | simp only [reduceCtorEq, Nat.reduceEqDiff, ak, akF, Nat.zero_add, List.append_nil, b38]) ?_
  have g44 : (List.replicate 1 ([.int .i64 0, .int .i64 0, .slice none 0 0] : List Value)).flatten = [.int .i64 0, .int .i64 0, .slice none 0 0] := rfl
  have g45 : (encL c_u8 t41.2.2.1).length = t41.2.2.1.length * 1 := by simp [encL_length c_u8_w]
  have g46 : (⟨.lst, 3, [.sc (.int .i64 t41.1), .sc (.int .i64 t41.2.1), .own 1 t41.2.2.1.length (encL c_u8 t41.2.2.1)]⟩ : Root) = ⟨.lst, 3, encL c118 ([(⟨t41.1, t41.2.1, t41.2.2.1⟩ : S118)] : List S118)⟩ := rfl
  have g47 : ([(⟨t41.1, t41.2.1, t41.2.2.1⟩ : S118)] : List S118).length = 1 := rfl
  simp +decide only [Nat.reduceAdd, Nat.reduceMul, Int.reduceToNat, ak, b38, g40, g44, g45, g46, g47]
  refine gho_k (Weak.refl _ _) ?_
  have g48 : (encL c118 ([(⟨t41.1, t41.2.1, t41.2.2.1⟩ : S118)] : List S118)).length = 1 * 3 := by simp [encL_length c118_w]
  have g49 : (encL c118 ([(⟨t41.1, t41.2.1, t41.2.2.1⟩ : S118)] : List S118)).all nd = true := rfl
  obtain ⟨b50, h⟩ := of_guard h
  have g51 : appLim x0_13.length 1 40 := ⟨b50, by have := b50; omega⟩
  have g52 : (encL c118 x0_13).length = x0_13.length * 3 := by simp [encL_length c118_w]
  have g53 : encL c118 x0_13 ++ encL c118 ([(⟨t41.1, t41.2.1, t41.2.2.1⟩ : S118)] : List S118) = encL c118 (x0_13 ++ ([(⟨t41.1, t41.2.1, t41.2.2.1⟩ : S118)] : List S118)) := (encL_append _ _).symm
  simp +decide only [Nat.reduceAdd, Nat.reduceMul, Int.reduceToNat, ak, g48, g49, g51, g52, g53]
  refine B37n _ ?_
  refine hJ36 _ ?_
  refine reg_k ?_
  simp +decide only [Nat.reduceAdd, Nat.reduceMul, Int.reduceToNat, ak]
  refine G0n _ _ (wk [2, 6, 9, 10, 11] [pI (.arg 0) .fz, pI (.tmp 6 0) .box, pI (.tmp 9 0) .box, pI (.tmp 30 0) .lst] (h0 := by first | rfl | simp +decide only [ak, akF, b38, b50]) (h := by first | rfl | (simp +decide only [ak, akF, b38, b50]; done) | (simp +decide [ak, akF, b38, b50] <;> omega))) (ih _ _ _ _ _ _ _ h K hx0)
 ·replace c35 := of_decide_eq_false c35; rw [if_neg c35] at h
  obtain rfl := Option.some.inj h
  refine gh_k (wk [6, 9, 10] [pI (.arg 0) .fz, pI (.tmp 6 0) .box, pI (.tmp 9 0) .box, pI (.tmp 30 0) .lst]) ?_
  refine G0x _ _ ?_
  exact hx0
theorem spec_l5Run.tri (cs0 : List Cell) (o0 : Nat) (l2 : List S116) (hv0 : Vw c116 4 cs0 o0 l2) (a0 : Int) (a1 : Int) (r : Int × Int × (List Int) × Int × Int × Bool × (List S118) × Int) (h : spec_l5Run.f a0 a1 l2 = some r) : Tri Try.prog 100 [.c (.sc (.int .u64 a0)), .c (.sc (.int .i64 a1)), .c (.ref (.arg 0) [] o0 l2.length)] [(.arg 0, ⟨.fz, 4, cs0⟩)] (fun o => o = ⟨.tup [(true, [.sc (.int .u64 r.1), .sc (.int .i64 r.2.1), .ref (.res 0) [] 0 r.2.2.1.length, .sc (.int .i64 r.2.2.2.1), .sc (.int .u64 r.2.2.2.2.1), .sc (.bool r.2.2.2.2.2.1)]), (false, [.ref (.res 1) [] 0 r.2.2.2.2.2.2.1.length]), (false, [.sc (.int .i64 r.2.2.2.2.2.2.2)])], [(.arg 0, ⟨.fz, 4, cs0⟩), (.res 0, ⟨.lst, 1, encL c_i64 r.2.2.1⟩), (.res 1, ⟨.lst, 3, encL c118 r.2.2.2.2.2.2.1⟩)], [], []⟩) := by
 refine tri_of_body (ac := C100) (xs := r100) Try.func100 (show Try.f100.body = some (Try.f100.body.getD .skip) from rfl) k100 q100 (Nat.le_of_ble_eq_true rfl) ?_
 refine body_of fun K hKn hKr => ?_
 unfold spec_l5Run.f at h
 unfold C100
 simp only [initT, Nat.reduceAdd]
 refine sr_k fun J1 hJ1 => ?_
 simp +decide only [Nat.reduceAdd, Nat.reduceMul, Int.reduceToNat, ak]
 refine gho_k (Weak.own (.tmp 6 0) (cs' := [.sc (.int .u64 0), .sc (.int .i64 0), .own 1 (([] : List Int).length) (encL c_i64 ([] : List Int)), .sc (.int .i64 0), .sc (.int .u64 0), .sc (.bool false)]) rfl ⟨.inl rfl, .inl rfl, .inr ⟨rfl, _, rfl⟩, .inl rfl, .inl rfl, .inl rfl, trivial⟩) ?_
 simp +decide only [Nat.reduceAdd, Nat.reduceMul, Int.reduceToNat, ak]
 refine gho_k (Weak.nm' 7 (.tmp 7 20) 3 (encL c118 ([] : List S118)) rfl rfl rfl) ?_
 simp +decide only [Nat.reduceAdd, Nat.reduceMul, Int.reduceToNat, ak]
 refine hJ1 _ ?_
 refine seq_k fun J2 hJ2 => ?_
 obtain ⟨j3, h4, hn⟩ := of_bind h
 refine seq_j (fun st => st = ⟨[(0, .c (.sc (.int .u64 a0))), (1, .c (.sc (.int .i64 a1))), (2, .c (.ref (.arg 0) [] o0 l2.length)), (6, .c (.ptr (.tmp 6 0) [] 0)), (21, .c (.sc (.bool j3)))], [(.arg 0, ⟨.fz, 4, cs0⟩), (.tmp 6 0, ⟨.box, 0, [.sc (.int .u64 0), .sc (.int .i64 0), .own 1 (([] : List Int).length) (encL c_i64 ([] : List Int)), .sc (.int .i64 0), .sc (.int .u64 0), .sc (.bool false)]⟩)], [], []⟩) (fun J5 hJ5 => ?_) ?_
 ·replace h := h4; clear hn
  refine ga_k fun G6 G6n G6r G6x => ?_
  refine reg_k ?_
  simp +decide only [Nat.reduceAdd, Nat.reduceMul, Int.reduceToNat, ak]
  by_cases c7 : a0 > 4611686018427387904
  ·rw [if_pos c7] at h
   have e8 : decide (a0 > 4611686018427387904) = true := decide_eq_true c7
   simp +decide only [Nat.reduceAdd, Nat.reduceMul, Int.reduceToNat, ak, e8]
   obtain rfl := Option.some.inj h
   refine G6n _ _ (wk [0, 1, 2, 6, 21] [pI (.arg 0) .fz, pI (.tmp 6 0) .box] (h0 := by first | rfl | simp +decide only [ak, akF, e8]) (h := by first | rfl | (simp +decide only [ak, akF, e8]; done) | (simp +decide [ak, akF, e8] <;> omega))) (hJ5 _ rfl)
  ·rw [if_neg c7] at h
   have e9 : decide (a0 > 4611686018427387904) = false := decide_eq_false c7
   simp +decide only [Nat.reduceAdd, Nat.reduceMul, Int.reduceToNat, ak, e9]
   by_cases c10 : a1 < 1
   ·rw [if_pos c10] at h
    have e11 : decide (a1 < 1) = true := decide_eq_true c10
    simp +decide only [Nat.reduceAdd, Nat.reduceMul, Int.reduceToNat, ak, e11]
    obtain rfl := Option.some.inj h
    refine G6n _ _ (wk [0, 1, 2, 6, 21] [pI (.arg 0) .fz, pI (.tmp 6 0) .box] (h0 := by first | rfl | simp +decide only [ak, akF, e9, e11]) (h := by first | rfl | (simp +decide only [ak, akF, e9, e11]; done) | (simp +decide [ak, akF, e9, e11] <;> omega))) (hJ5 _ rfl)
   ·rw [if_neg c10] at h
    have e12 : decide (a1 < 1) = false := decide_eq_false c10
    simp +decide only [Nat.reduceAdd, Nat.reduceMul, Int.reduceToNat, ak, e12]
    obtain rfl := Option.some.inj h
    refine G6n _ _ (wk [0, 1, 2, 6, 21] [pI (.arg 0) .fz, pI (.tmp 6 0) .box] (h0 := by first | rfl | simp +decide only [ak, akF, e9, e12]) (h := by first | rfl | (simp +decide only [ak, akF, e9, e12]; done) | (simp +decide [ak, akF, e9, e12] <;> omega))) (hJ5 _ rfl)
 ·replace h := hn; clear hn h4
  rintro _ rfl
  refine cond_k (b := j3) rfl (fun c13 => ?_) (fun c13 => ?_)
  ·rw [if_pos c13] at h
   refine sr_k fun J14 hJ14 => ?_
   simp +decide only [Nat.reduceAdd, Nat.reduceMul, Int.reduceToNat, ak]
   refine gho_k (Weak.nmg' 22 2 (.tmp 22 22) 1 (encL c_i64 ([] : List Int)) rfl rfl rfl rfl) ?_
   have g15 : (encL c_i64 ([] : List Int)).length = 0 * 1 := by simp [encL_length c_i64_w]
   simp +decide only [Nat.reduceAdd, Nat.reduceMul, Int.reduceToNat, ak, g15]
   refine gho_k (Weak.nm' 7 (.tmp 7 20) 3 (encL c118 ([] : List S118)) rfl rfl rfl) ?_
   simp +decide only [Nat.reduceAdd, Nat.reduceMul, Int.reduceToNat, ak]
   refine hJ14 _ ?_
   obtain rfl := Option.some.inj h
   refine hKr _ ⟨_, rfl, [⟨(.tmp 6 0), [2], none, .lst⟩, ⟨(.tmp 7 20), [], none, .lst⟩], _, rfl, rfl, ?_⟩
   first | rfl | (simp only [reduceCtorEq, Nat.reduceEqDiff, ak, akF]; done) | (simp [reduceCtorEq, Nat.reduceEqDiff, ak, akF] <;> omega)
  ·rw [if_neg (Bool.eq_false_iff.1 c13)] at h
   refine hJ2 _ ?_
   refine seq_k fun J16 hJ16 => ?_
   refine sr_k fun J17 hJ17 => ?_
   simp +decide only [Nat.reduceAdd, Nat.reduceMul, Int.reduceToNat, ak]
   refine hJ17 _ ?_
   refine cond_k (b := decide ((l2.length : Int) > 4000)) rfl (fun c18 => ?_) (fun c18 => ?_)
   ·replace c18 := of_decide_eq_true c18; rw [if_pos c18] at h
    refine sr_k fun J19 hJ19 => ?_
    simp +decide only [Nat.reduceAdd, Nat.reduceMul, Int.reduceToNat, ak]
    refine gho_k (Weak.nmg' 26 2 (.tmp 26 22) 1 (encL c_i64 ([] : List Int)) rfl rfl rfl rfl) ?_
    have g20 : (encL c_i64 ([] : List Int)).length = 0 * 1 := by simp [encL_length c_i64_w]
    simp +decide only [Nat.reduceAdd, Nat.reduceMul, Int.reduceToNat, ak, g20]
    refine gho_k (Weak.nm' 7 (.tmp 7 20) 3 (encL c118 ([] : List S118)) rfl rfl rfl) ?_
    simp +decide only [Nat.reduceAdd, Nat.reduceMul, Int.reduceToNat, ak]
    refine hJ19 _ ?_
    obtain rfl := Option.some.inj h
    refine hKr _ ⟨_, rfl, [⟨(.tmp 6 0), [2], none, .lst⟩, ⟨(.tmp 7 20), [], none, .lst⟩], _, rfl, rfl, ?_⟩
    first | rfl | (simp only [reduceCtorEq, Nat.reduceEqDiff, ak, akF]; done) | (simp [reduceCtorEq, Nat.reduceEqDiff, ak, akF] <;> omega)
   ·replace c18 := of_decide_eq_false c18; rw [if_neg c18] at h
    refine hJ16 _ ?_
    refine sr_k fun J21 hJ21 => ?_
    simp +decide only [Nat.reduceAdd, Nat.reduceMul, Int.reduceToNat, ak]
    obtain ⟨t22, h23, h⟩ := of_bind h
    refine call_m [] (s0 := []) (by intro t ht; cases ht; decide) rfl rfl (by first | rfl | simp only [reduceCtorEq, Nat.reduceEqDiff, ak, akF]) (spec_l5Begin.tri a0 a1 _ h23) (by first | rfl | simp only [reduceCtorEq, Nat.reduceEqDiff, ak, akF]) (by simp [bkOk2, memK]) (fun hl23 => ?_)
    refine call_st (s4 := [(.arg 0, ⟨.fz, 4, cs0⟩), (.tmp 6 0, ⟨.box, 0, [.sc (.int .u64 0), .sc (.int .i64 0), .own 1 (([] : List Int).length) (encL c_i64 ([] : List Int)), .sc (.int .i64 0), .sc (.int .u64 0), .sc (.bool false)]⟩), (.tmp 29 0, ⟨.lst, 1, encL c_i64 t22.2.2.1⟩)]) (m1' := []) (m2' := []) (v' := .g [.sc (.int .u64 t22.1), .sc (.int .i64 t22.2.1), .ref (.tmp 29 0) [] 0 t22.2.2.1.length, .sc (.int .i64 t22.2.2.2.1), .sc (.int .u64 t22.2.2.2.2.1), .sc (.bool t22.2.2.2.2.2)]) (Sto.mapN_killNil _ _) (mrgL_nil' _ _ _) (by rfl) (mapT_killNil _ _) (by rfl) (by rfl) (by first | rfl | simp only [reduceCtorEq, Nat.reduceEqDiff, ak, akF, Nat.zero_add, List.append_nil]) ?_
    simp +decide only [Nat.reduceAdd, Nat.reduceMul, Int.reduceToNat, ak]
    refine gho_k (Weak.own (.tmp 9 0) (cs' := [.sc (.int .u64 0), .sc (.int .i64 0), .own 1 (([] : List Int).length) (encL c_i64 ([] : List Int)), .sc (.int .i64 0), .sc (.int .u64 0), .sc (.bool false)]) rfl ⟨.inl rfl, .inl rfl, .inr ⟨rfl, _, rfl⟩, .inl rfl, .inl rfl, .inl rfl, trivial⟩) ?_
    have g25 : (encL c_i64 t22.2.2.1).length = t22.2.2.1.length * 1 := by simp [encL_length c_i64_w]
    simp +decide only [Nat.reduceAdd, Nat.reduceMul, Int.reduceToNat, ak, g25]
    refine hJ21 _ ?_
    refine sr_k fun J26 hJ26 => ?_
    have g27 : (List.replicate 0 ([.int .i64 0, .int .i64 0, .slice none 0 0] : List Value)).flatten = [] := rfl
    have g28 : (⟨.lst, 3, []⟩ : Root) = ⟨.lst, 3, encL c118 ([] : List S118)⟩ := rfl
    have g29 : ([] : List S118).length = 0 := rfl
    simp +decide only [Nat.reduceAdd, Nat.reduceMul, Int.reduceToNat, ak, g27, g28, g29]
    refine gho_k (Weak.refl _ _) ?_
    simp +decide only [Nat.reduceAdd, Nat.reduceMul, Int.reduceToNat, ak]
    refine hJ26 _ ?_
    refine seq_k fun J30 hJ30 => ?_
    refine sr_k fun J31 hJ31 => ?_
    simp +decide only [Nat.reduceAdd, Nat.reduceMul, Int.reduceToNat, ak]
    refine hJ31 _ ?_
    refine block_k fun B32 B32n B32x B32r B32j => ?_
    obtain ⟨y54, h55, h⟩ := of_bind h
    refine gh_k (st' := ⟨[(2, .c (.ref (.arg 0) [] o0 l2.length)), (6, .c (.ptr (.tmp 6 0) [] 0)), (9, .c (.ptr (.tmp 9 0) [] 0)), (10, .c (.ref (.tmp 30 0) [] 0 (([] : List S118).length))), (11, .c (.sc (.int .i64 0)))], [(.arg 0, ⟨.fz, 4, cs0⟩), (.tmp 6 0, ⟨.box, 0, [.sc (.int .u64 0), .sc (.int .i64 0), .own 1 (([] : List Int).length) (encL c_i64 ([] : List Int)), .sc (.int .i64 0), .sc (.int .u64 0), .sc (.bool false)]⟩), (.tmp 9 0, ⟨.box, 0, [.sc (.int .u64 t22.1), .sc (.int .i64 t22.2.1), .own 1 t22.2.2.1.length (encL c_i64 t22.2.2.1), .sc (.int .i64 t22.2.2.2.1), .sc (.int .u64 t22.2.2.2.2.1), .sc (.bool t22.2.2.2.2.2)]⟩), (.tmp 30 0, ⟨.lst, 3, encL c118 ([] : List S118)⟩)], [], []⟩) (wk [2, 6, 9, 10, 11] [pI (.arg 0) .fz, pI (.tmp 6 0) .box, pI (.tmp 9 0) .box, pI (.tmp 30 0) .lst] (h := by first | rfl | (simp +decide only [ak, akF]; done) | (simp +decide [ak, akF] <;> omega))) ?_
    rw [e_loop]
    refine spec_l5Run.l0_walk cs0 o0 l2 hv0 0 0 ([] : List Int) 0 0 false t22.1 t22.2.1 0 t22.2.2.1 t22.2.2.2.1 t22.2.2.2.2.1 t22.2.2.2.2.2 ([] : List S118) _ h55 _ ?_
    refine B32x _ ?_
    refine hJ30 _ ?_
    refine sr_k fun J56 hJ56 => ?_
    simp +decide only [Nat.reduceAdd, Nat.reduceMul, Int.reduceToNat, ak]
    refine hJ56 _ ?_
    obtain rfl := Option.some.inj h
    refine hKr _ ⟨_, rfl, [⟨(.tmp 9 0), [2], none, .lst⟩, ⟨(.tmp 30 0), [], none, .lst⟩], _, rfl, rfl, ?_⟩
    first | rfl | (simp only [reduceCtorEq, Nat.reduceEqDiff, ak, akF]; done) | (simp [reduceCtorEq, Nat.reduceEqDiff, ak, akF] <;> omega)
/-! ### spec.ReorderRun: function 48 -/
def C48 : AC := .seq (.reg [.op none (.mv 6 (.const (.slice none 0 0))), .gh, .op none (.mv 7 (.const (.int .i64 0))), .keep [0, 1, 2]]) (.seq (.reg [.op none (.mv 12 (.tmp 0)), .op none (.mv 13 (.tmp 1)), .op none (.mv 14 (.tmp 2)), .call none (some 15) 100 [.tmp 12, .tmp 13, .tmp 14], .op none (.mv 11 (.tmp 15)), .op none (.extr 16 (.tmp 11) 0), .op none (.extr 17 (.tmp 11) 1), .op none (.extr 18 (.tmp 11) 2), .op none (.alloc 8 [.int .u64 0, .int .i64 0, .slice none 0 0, .int .i64 0, .int .u64 0, .bool false]), .gh, .op none (.store 6 (.tmp 8) (.tmp 16)), .op none (.mv 9 (.tmp 17)), .op none (.mv 10 (.tmp 18)), .keep [9, 10]]) (.seq (.reg [.op none (.mv 19 (.tmp 9)), .op none (.mv 20 (.tmp 10)), .op none (.mv 6 (.tmp 19)), .op none (.mv 7 (.tmp 20)), .keep [6, 7]]) (.ret)))
def r48 : List RV := [.tmp 6, .tmp 7]
theorem k48 : compC Try.prog 21 C48 (Try.f48.body.getD .skip) = some C48.erase := by kernel_rfl
theorem q48 : rvsOf Try.prog Try.f48.results.toList = some r48 := by kernel_rfl
def spec_ReorderRun.f (a0 : Int) (a1 : Int) (l2 : List S116) : Option ((List S118) × Int) := (spec_l5Run.f a0 a1 l2 >>= fun t3 => (some (t3.2.2.2.2.2.2.1, t3.2.2.2.2.2.2.2)))
theorem spec_ReorderRun.tri (cs0 : List Cell) (o0 : Nat) (l2 : List S116) (hv0 : Vw c116 4 cs0 o0 l2) (a0 : Int) (a1 : Int) (r : (List S118) × Int) (h : spec_ReorderRun.f a0 a1 l2 = some r) : Tri Try.prog 48 [.c (.sc (.int .u64 a0)), .c (.sc (.int .i64 a1)), .c (.ref (.arg 0) [] o0 l2.length)] [(.arg 0, ⟨.fz, 4, cs0⟩)] (fun o => o = ⟨.tup [(false, [.ref (.res 0) [] 0 r.1.length]), (false, [.sc (.int .i64 r.2)])], [(.arg 0, ⟨.fz, 4, cs0⟩), (.res 0, ⟨.lst, 3, encL c118 r.1⟩)], [], []⟩) := by
 refine tri_of_body (ac := C48) (xs := r48) Try.func48 (show Try.f48.body = some (Try.f48.body.getD .skip) from rfl) k48 q48 (Nat.le_of_ble_eq_true rfl) ?_
 refine body_of fun K hKn hKr => ?_
 unfold spec_ReorderRun.f at h
 unfold C48
 simp only [initT, Nat.reduceAdd]
 refine sr_k fun J1 hJ1 => ?_
 simp +decide only [Nat.reduceAdd, Nat.reduceMul, Int.reduceToNat, ak]
 refine gho_k (Weak.nm' 6 (.tmp 6 20) 3 (encL c118 ([] : List S118)) rfl rfl rfl) ?_
 simp +decide only [Nat.reduceAdd, Nat.reduceMul, Int.reduceToNat, ak]
 refine hJ1 _ ?_
 refine sr_k fun J2 hJ2 => ?_
 simp +decide only [Nat.reduceAdd, Nat.reduceMul, Int.reduceToNat, ak]
 obtain ⟨t3, h4, h⟩ := of_bind h
 refine call_m [(.arg 0, ⟨(.arg 0), [], none, .fz⟩)] (s0 := [(.arg 0, ⟨.fz, 4, cs0⟩)]) (by intro t ht; cases ht; decide) rfl rfl (by first | rfl | simp only [reduceCtorEq, Nat.reduceEqDiff, ak, akF]) (spec_l5Run.tri (cs0) o0 l2 hv0 a0 a1 _ h4) (by first | rfl | simp only [reduceCtorEq, Nat.reduceEqDiff, ak, akF]) (by simp [bkOk2, memK]) (fun hl4 => ?_)
 refine call_st (s4 := [(.arg 0, ⟨.fz, 4, cs0⟩), (.tmp 6 20, ⟨.lst, 3, encL c118 ([] : List S118)⟩), (.tmp 15 1, ⟨.lst, 3, encL c118 t3.2.2.2.2.2.2.1⟩), (.tmp 15 0, ⟨.lst, 1, encL c_i64 t3.2.2.1⟩)]) (m1' := []) (m2' := []) (v' := .tup [(true, [.sc (.int .u64 t3.1), .sc (.int .i64 t3.2.1), .ref (.tmp 15 0) [] 0 t3.2.2.1.length, .sc (.int .i64 t3.2.2.2.1), .sc (.int .u64 t3.2.2.2.2.1), .sc (.bool t3.2.2.2.2.2.1)]), (false, [.ref (.tmp 15 1) [] 0 t3.2.2.2.2.2.2.1.length]), (false, [.sc (.int .i64 t3.2.2.2.2.2.2.2)])]) (Sto.mapN_killNil _ _) (mrgL_fz (mrgL_nil' _ _ _) rfl (by first | rfl | simp only [reduceCtorEq, Nat.reduceEqDiff, ak]) rfl (by intro R hR hh; cases hR; cases hh.2)) (by rfl) (mapT_killNil _ _) (by rfl) (by rfl) (by first | rfl | simp only [reduceCtorEq, Nat.reduceEqDiff, ak, akF, Nat.zero_add, List.append_nil]) ?_
 simp +decide only [Nat.reduceAdd, Nat.reduceMul, Int.reduceToNat, ak]
 refine gho_k (Weak.own (.tmp 8 0) (cs' := [.sc (.int .u64 0), .sc (.int .i64 0), .own 1 (([] : List Int).length) (encL c_i64 ([] : List Int)), .sc (.int .i64 0), .sc (.int .u64 0), .sc (.bool false)]) rfl ⟨.inl rfl, .inl rfl, .inr ⟨rfl, _, rfl⟩, .inl rfl, .inl rfl, .inl rfl, trivial⟩) ?_
 have g6 : (encL c_i64 t3.2.2.1).length = t3.2.2.1.length * 1 := by simp [encL_length c_i64_w]
 simp +decide only [Nat.reduceAdd, Nat.reduceMul, Int.reduceToNat, ak, g6]
 refine hJ2 _ ?_
 refine sr_k fun J7 hJ7 => ?_
 simp +decide only [Nat.reduceAdd, Nat.reduceMul, Int.reduceToNat, ak]
 refine hJ7 _ ?_
 obtain rfl := Option.some.inj h
 refine hKr _ ⟨_, rfl, [⟨(.tmp 15 1), [], none, .lst⟩], _, rfl, rfl, ?_⟩
 first | rfl | (simp only [reduceCtorEq, Nat.reduceEqDiff, ak, akF]; done) | (simp [reduceCtorEq, Nat.reduceEqDiff, ak, akF] <;> omega)
/-! ### impl.newBuffer: function 138 -/
def C138 : AC := .seq (.reg [.op none (.mv 4 (.const (.pointer none))), .keep [0, 1]]) (.seq (.regD (.first (.op none (.mv 5 (.tmp 1))) (.first (.op none (.conv 6 .u64 (.tmp 5))) (.first (.op none (.mv 7 (.tmp 1))) (.first (.op none (.mv 9 (.tmp 1))) (.first (.op none (.mv 11 (.tmp 0))) (.alt (.op none (.mslice 8 1 1 [.int .u8 0] (.tmp 7))) none (.alt (.op none (.mslice 10 1 1 [.bool false] (.tmp 9))) none (.first (.op none (.build 12 [.int .u64 0, .slice none 0 0, .slice none 0 0, .int .u64 0, .bool false, .int .u64 0] [(0, 1, .tmp 6), (1, 1, .tmp 8), (2, 1, .tmp 10), (3, 1, .tmp 11)])) (.gh (.alt (.op none (.box 13 (.tmp 12))) none (.first (.op none (.mv 4 (.tmp 13))) (.done)) (.stop)))) (.stop)) (.alt (.op none (.mslice 10 1 1 [.bool false] (.tmp 9))) none (.alt (.op none (.mslice 8 1 1 [.int .u8 0] (.tmp 7))) none (.first (.op none (.build 12 [.int .u64 0, .slice none 0 0, .slice none 0 0, .int .u64 0, .bool false, .int .u64 0] [(0, 1, .tmp 6), (1, 1, .tmp 8), (2, 1, .tmp 10), (3, 1, .tmp 11)])) (.gh (.alt (.op none (.box 13 (.tmp 12))) none (.first (.op none (.mv 4 (.tmp 13))) (.done)) (.stop)))) (.stop)) (.stop)))))))) [4]) (.ret))
def r138 : List RV := [.tmp 4]
theorem k138 : compC Try.prog 14 C138 (Try.f138.body.getD .skip) = some C138.erase := by kernel_rfl
theorem q138 : rvsOf Try.prog Try.f138.results.toList = some r138 := by kernel_rfl
def impl_newBuffer.f (a0 : Int) (a1 : Int) : Option (Int × (List Int) × (List Bool) × Int × Bool × Int) := (if 0 ≤ a1 ∧ a1 < 9223372036854775808 ∧ ((1 : Nat) : Int) * a1 ≤ 281474976710656 then (some (IntKind.u64.wrap a1, (List.replicate a1.toNat (0 : Int)), (List.replicate a1.toNat (false : Bool)), a0, false, 0)) else none)
theorem impl_newBuffer.tri (a0 : Int) (a1 : Int) (r : (Int × (List Int) × (List Bool) × Int × Bool × Int)) (h : impl_newBuffer.f a0 a1 = some r) : Tri Try.prog 138 [.c (.sc (.int .u64 a0)), .c (.sc (.int .i64 a1))] [] (fun o => o = ⟨.c (.ptr (.res 0) [] 0), [(.res 0, ⟨.box, 0, [.sc (.int .u64 r.1), .own 1 r.2.1.length (encL c_u8 r.2.1), .own 1 r.2.2.1.length (encL c_bool r.2.2.1), .sc (.int .u64 r.2.2.2.1), .sc (.bool r.2.2.2.2.1), .sc (.int .u64 r.2.2.2.2.2)]⟩)], [], []⟩) := by
 refine tri_of_body (ac := C138) (xs := r138) Try.func138 (show Try.f138.body = some (Try.f138.body.getD .skip) from rfl) k138 q138 (Nat.le_of_ble_eq_true rfl) ?_
 refine body_of fun K hKn hKr => ?_
 unfold impl_newBuffer.f at h
 unfold C138
 simp only [initT, Nat.reduceAdd]
 refine sr_k fun J1 hJ1 => ?_
 simp +decide only [Nat.reduceAdd, Nat.reduceMul, Int.reduceToNat, ak]
 refine hJ1 _ ?_
 refine sd_k fun J2 hJ2 => ?_
 simp +decide only [Nat.reduceAdd, Nat.reduceMul, Int.reduceToNat, ak]
 obtain ⟨b3, h⟩ := of_guard h
 refine alt_k ?_ (alt_e ?_)
 ·have g15 : ((List.replicate a1.toNat [.int .u8 0]).flatten.map Cell.sc) = encL c_u8 (List.replicate a1.toNat (0 : Int)) := encL_zeros _ _ _ rfl
  simp +decide only [Nat.reduceAdd, Nat.reduceMul, Int.reduceToNat, ak, b3, g15]
  refine alt_e ?_
  ·have g21 : ((List.replicate a1.toNat [.bool false]).flatten.map Cell.sc) = encL c_bool (List.replicate a1.toNat (false : Bool)) := encL_zeros _ _ _ rfl
   simp +decide only [Nat.reduceAdd, Nat.reduceMul, Int.reduceToNat, ak, b3, g21]
   refine ghp_k (Weak.refl _ _) ?_
   try simp +decide only [Nat.reduceAdd, Nat.reduceMul, Int.reduceToNat, ak]
   refine alt_e ?_
   ·have g24 : (encL c_u8 (List.replicate a1.toNat (0 : Int))).length = a1.toNat * 1 := by simp [encL_length c_u8_w]
    have g25 : (encL c_bool (List.replicate a1.toNat (false : Bool))).length = a1.toNat * 1 := by simp [encL_length c_bool_w]
    simp +decide only [Nat.reduceAdd, Nat.reduceMul, Int.reduceToNat, ak, g24, g25]
    refine hJ2 _ ?_
    obtain rfl := Option.some.inj h
    refine hKr _ ⟨_, rfl, [⟨(.tmp 13 0), [], none, .box⟩], _, rfl, rfl, ?_⟩
    first | rfl | (simp only [reduceCtorEq, Nat.reduceEqDiff, ak, akF, b3]; done) | (simp [reduceCtorEq, Nat.reduceEqDiff, ak, akF, b3] <;> omega)
 ·have g26 : ((List.replicate a1.toNat [.bool false]).flatten.map Cell.sc) = encL c_bool (List.replicate a1.toNat (false : Bool)) := encL_zeros _ _ _ rfl
  simp +decide only [Nat.reduceAdd, Nat.reduceMul, Int.reduceToNat, ak, b3, g26]
  refine alt_e ?_
  ·have g32 : ((List.replicate a1.toNat [.int .u8 0]).flatten.map Cell.sc) = encL c_u8 (List.replicate a1.toNat (0 : Int)) := encL_zeros _ _ _ rfl
   simp +decide only [Nat.reduceAdd, Nat.reduceMul, Int.reduceToNat, ak, b3, g32]
   refine ghp_k (Weak.refl _ _) ?_
   try simp +decide only [Nat.reduceAdd, Nat.reduceMul, Int.reduceToNat, ak]
   refine alt_e ?_
   ·have g35 : (encL c_u8 (List.replicate a1.toNat (0 : Int))).length = a1.toNat * 1 := by simp [encL_length c_u8_w]
    have g36 : (encL c_bool (List.replicate a1.toNat (false : Bool))).length = a1.toNat * 1 := by simp [encL_length c_bool_w]
    simp +decide only [Nat.reduceAdd, Nat.reduceMul, Int.reduceToNat, ak, g35, g36]
    refine hJ2 _ ?_
    obtain rfl := Option.some.inj h
    refine hKr _ ⟨_, rfl, [⟨(.tmp 13 0), [], none, .box⟩], _, rfl, rfl, ?_⟩
    first | rfl | (simp only [reduceCtorEq, Nat.reduceEqDiff, ak, akF, b3]; done) | (simp [reduceCtorEq, Nat.reduceEqDiff, ak, akF, b3] <;> omega)
/-! ### (*impl.buffer).put: function 158 -/
def C158_l0 : AC := .seq (.reg [.op none (.bin 61 .lss (.tmp 60) (.tmp 59)), .keep [0, 1, 6, 9, 58, 59, 60, 61]]) (.seq (.cond (.tmp 61) (.skip) (.gh (.exit 0))) (.seq (.ga (.block 1 (.seq (.reg [.op none (.mv 62 (.tmp 60)), .op none (.iaddr 63 1 (.tmp 58) (.tmp 60)), .op none (.load 64 false 1 (.tmp 63)), .op none (.mv 10 (.tmp 62)), .op none (.mv 11 (.tmp 64)), .keep [0, 1, 6, 9, 10, 11, 58, 59, 60]]) (.seq (.reg [.op none (.mv 65 (.tmp 1)), .op none (.mv 66 (.tmp 10)), .op none (.conv 67 .u64 (.tmp 66)), .op none (.bin 68 .add (.tmp 65) (.tmp 67)), .op none (.mv 12 (.tmp 68)), .keep [0, 1, 6, 9, 11, 12, 58, 59, 60]]) (.seq (.ga (.regD (.first (.op none (.mv 69 (.tmp 12))) (.first (.op none (.mv 70 (.tmp 0))) (.first (.op none (.nilc 71 (.tmp 70))) (.first (.op none (.faddr 72 3 (.tmp 71))) (.first (.op none (.load 73 false 1 (.tmp 72))) (.first (.op none (.bin 74 .geq (.tmp 69) (.tmp 73))) (.first (.op none (.mv 75 (.tmp 74))) (.first (.op (some (75, true)) (.mv 76 (.tmp 0))) (.first (.op (some (75, true)) (.nilc 77 (.tmp 76))) (.first (.op (some (75, true)) (.faddr 78 2 (.tmp 77))) (.first (.op (some (75, true)) (.load 79 false 1 (.tmp 78))) (.first (.op (some (75, true)) (.mv 80 (.tmp 12))) (.first (.op (some (75, true)) (.mv 81 (.tmp 0))) (.first (.op (some (75, true)) (.nilc 82 (.tmp 81))) (.first (.op (some (75, true)) (.faddr 83 0 (.tmp 82))) (.first (.op (some (75, true)) (.load 84 false 1 (.tmp 83))) (.first (.op (some (75, true)) (.bin 85 .rem (.tmp 80) (.tmp 84))) (.first (.op (some (75, true)) (.iaddr 86 1 (.tmp 79) (.tmp 85))) (.first (.op (some (75, true)) (.load 87 false 1 (.tmp 86))) (.first (.op (some (75, true)) (.un 88 .not (.tmp 87))) (.first (.op none (.pick 89 (.tmp 75) (.tmp 88) (.const (.bool false)))) (.done)))))))))))))))))))))) [0, 1, 6, 9, 11, 12, 58, 59, 60, 89])) (.cond (.tmp 89) (.seq (.regD (.first (.op none (.mv 90 (.tmp 0))) (.first (.op none (.nilc 91 (.tmp 90))) (.first (.op none (.faddr 92 2 (.tmp 91))) (.first (.op none (.load 93 false 1 (.tmp 92))) (.first (.op none (.mv 94 (.tmp 12))) (.first (.op none (.mv 95 (.tmp 0))) (.first (.op none (.nilc 96 (.tmp 95))) (.first (.op none (.faddr 97 0 (.tmp 96))) (.first (.op none (.load 98 false 1 (.tmp 97))) (.first (.op none (.bin 99 .rem (.tmp 94) (.tmp 98))) (.first (.op none (.iaddr 100 1 (.tmp 93) (.tmp 99))) (.alt (.op none (.store 1 (.tmp 100) (.const (.bool true)))) none (.done) (.stop))))))))))))) [0, 1, 6, 9, 11, 12, 58, 59, 60]) (.seq (.regD (.first (.op none (.mv 101 (.tmp 0))) (.first (.op none (.nilc 102 (.tmp 101))) (.first (.op none (.faddr 103 1 (.tmp 102))) (.first (.op none (.load 104 false 1 (.tmp 103))) (.first (.op none (.mv 105 (.tmp 12))) (.first (.op none (.mv 106 (.tmp 0))) (.first (.op none (.nilc 107 (.tmp 106))) (.first (.op none (.faddr 108 0 (.tmp 107))) (.first (.op none (.load 109 false 1 (.tmp 108))) (.first (.op none (.bin 110 .rem (.tmp 105) (.tmp 109))) (.first (.op none (.mv 111 (.tmp 11))) (.first (.op none (.iaddr 112 1 (.tmp 104) (.tmp 110))) (.alt (.op none (.store 1 (.tmp 112) (.tmp 111))) none (.done) (.stop)))))))))))))) [0, 1, 6, 9, 58, 59, 60]) (.reg [.op none (.mv 113 (.tmp 9)), .op none (.bin 114 .add (.tmp 113) (.const (.int .i64 1))), .op none (.mv 9 (.tmp 114)), .keep [0, 1, 6, 9, 58, 59, 60]]))) (.skip))))))) (.reg [.op none (.bin 115 .add (.tmp 60) (.const (.int .i64 1))), .op none (.mv 60 (.tmp 115)), .keep [0, 1, 6, 9, 58, 59, 60]])))
def C158 : AC := .seq (.reg [.op none (.alloc 6 [.int .i64 0, .int .i64 0, .slice none 0 0]), .gh, .keep [0, 1, 2, 6]]) (.seq (.reg [.op none (.mv 13 (.tmp 2)), .op none (.len 14 (.tmp 13)), .op none (.conv 15 .u64 (.tmp 14)), .op none (.mv 7 (.tmp 15)), .keep [0, 1, 2, 6, 7]]) (.seq (.seq (.ga (.reg [.op none (.mv 16 (.tmp 7)), .op none (.bin 17 .eql (.tmp 16) (.const (.int .u64 0))), .op none (.mv 18 (.tmp 17)), .op (some (18, false)) (.mv 19 (.tmp 7)), .op (some (18, false)) (.bin 20 .gtr (.tmp 19) (.const (.int .u64 32))), .op none (.pick 21 (.tmp 18) (.const (.bool true)) (.tmp 20)), .keep [0, 1, 2, 6, 7, 21]])) (.cond (.tmp 21) (.seq (.reg [.op none (.build 22 [.int .i64 0, .int .i64 0, .slice none 0 0] [(0, 1, .const (.int .i64 1))]), .gh, .op none (.store 3 (.tmp 6) (.tmp 22)), .keep [6]]) (.ret)) (.skip))) (.seq (.regD (.first (.op none (.mv 23 (.tmp 0))) (.first (.op none (.nilc 24 (.tmp 23))) (.first (.op none (.faddr 25 3 (.tmp 24))) (.first (.op none (.load 26 false 1 (.tmp 25))) (.first (.op none (.mv 27 (.tmp 0))) (.first (.op none (.nilc 28 (.tmp 27))) (.first (.op none (.faddr 29 0 (.tmp 28))) (.first (.op none (.load 30 false 1 (.tmp 29))) (.first (.op none (.bin 31 .add (.tmp 26) (.tmp 30))) (.first (.op none (.mv 8 (.tmp 31))) (.done))))))))))) [0, 1, 2, 6, 7, 8]) (.seq (.seq (.ga (.reg [.op none (.mv 32 (.tmp 1)), .op none (.mv 33 (.tmp 8)), .op none (.bin 34 .gtr (.tmp 32) (.tmp 33)), .op none (.mv 35 (.tmp 34)), .op (some (35, false)) (.mv 36 (.tmp 7)), .op (some (35, false)) (.mv 37 (.tmp 8)), .op (some (35, false)) (.mv 38 (.tmp 1)), .op (some (35, false)) (.bin 39 .sub (.tmp 37) (.tmp 38)), .op (some (35, false)) (.bin 40 .gtr (.tmp 36) (.tmp 39)), .op none (.pick 41 (.tmp 35) (.const (.bool true)) (.tmp 40)), .keep [0, 1, 2, 6, 7, 41]])) (.cond (.tmp 41) (.seq (.reg [.op none (.build 42 [.int .i64 0, .int .i64 0, .slice none 0 0] [(0, 1, .const (.int .i64 4))]), .gh, .op none (.store 3 (.tmp 6) (.tmp 42)), .keep [6]]) (.ret)) (.skip))) (.seq (.seq (.ga (.reg [.op none (.mv 43 (.tmp 0)), .op none (.nilc 44 (.tmp 43)), .op none (.faddr 45 4 (.tmp 44)), .op none (.load 46 false 1 (.tmp 45)), .op none (.mv 47 (.tmp 46)), .op (some (47, true)) (.mv 48 (.tmp 1)), .op (some (47, true)) (.mv 49 (.tmp 7)), .op (some (47, true)) (.bin 50 .add (.tmp 48) (.tmp 49)), .op (some (47, true)) (.mv 51 (.tmp 0)), .op (some (47, true)) (.nilc 52 (.tmp 51)), .op (some (47, true)) (.faddr 53 5 (.tmp 52)), .op (some (47, true)) (.load 54 false 1 (.tmp 53)), .op (some (47, true)) (.bin 55 .gtr (.tmp 50) (.tmp 54)), .op none (.pick 56 (.tmp 47) (.tmp 55) (.const (.bool false))), .keep [0, 1, 2, 6, 56]])) (.cond (.tmp 56) (.seq (.reg [.op none (.build 57 [.int .i64 0, .int .i64 0, .slice none 0 0] [(0, 1, .const (.int .i64 12))]), .gh, .op none (.store 3 (.tmp 6) (.tmp 57)), .keep [6]]) (.ret)) (.skip))) (.seq (.reg [.op none (.mv 9 (.const (.int .i64 0))), .keep [0, 1, 2, 6, 9]]) (.seq (.seq (.reg [.op none (.mv 58 (.tmp 2)), .op none (.len 59 (.tmp 58)), .op none (.mv 60 (.const (.int .i64 0))), .keep [0, 1, 6, 9, 58, 59, 60]]) (.block 0 (.gh (.loop (.ga C158_l0))))) (.seq (.reg [.op none (.mv 116 (.tmp 9)), .op none (.build 117 [.int .i64 0, .int .i64 0, .slice none 0 0] [(1, 1, .tmp 116)]), .gh, .op none (.store 3 (.tmp 6) (.tmp 117)), .keep [6]]) (.ret)))))))))
def r158 : List RV := [.cell 6 true 3]
theorem k158 : compC Try.prog 118 C158 (Try.f158.body.getD .skip) = some C158.erase := by kernel_rfl
theorem q158 : rvsOf Try.prog Try.f158.results.toList = some r158 := by kernel_rfl
def impl_buffer_put.l0 (l2 : List Int) (x0_0 : Int) (x0_2 : Int) (x0_4 : Int) (x0_7 : Int) (x0_8 : Bool) (x0_9 : Int) (x0_10 : Int) (x0_11 : Int) (x0_12 : (List Int)) (x0_1 : Int) (x0_3 : Int) (x0_5 : (List Int)) (x0_6 : (List Bool)) : Option (Int × (List Int) × (List Bool)) := (if x0_3 < x0_2 then ((if 0 ≤ x0_3 ∧ x0_3 < (l2.length : Int) then ((if IntKind.u64.wrap (x0_0 + (IntKind.u64.wrap x0_3)) ≥ x0_7 then (if ¬ x0_4 = 0 then (if 0 ≤ (IntKind.u64.wrap (x0_0 + (IntKind.u64.wrap x0_3))).tmod x0_4 ∧ (IntKind.u64.wrap (x0_0 + (IntKind.u64.wrap x0_3))).tmod x0_4 < (x0_6.length : Int) then (some (!(rd false x0_6 ((IntKind.u64.wrap (x0_0 + (IntKind.u64.wrap x0_3))).tmod x0_4)))) else none) else none) else (some false)) >>= fun (j53 : Bool) => (if j53 = true then (if ¬ x0_4 = 0 then (if 0 ≤ (IntKind.u64.wrap (x0_0 + (IntKind.u64.wrap x0_3))).tmod x0_4 ∧ (IntKind.u64.wrap (x0_0 + (IntKind.u64.wrap x0_3))).tmod x0_4 < (x0_6.length : Int) then (if 0 ≤ (IntKind.u64.wrap (x0_0 + (IntKind.u64.wrap x0_3))).tmod x0_4 ∧ (IntKind.u64.wrap (x0_0 + (IntKind.u64.wrap x0_3))).tmod x0_4 < (x0_5.length : Int) then (some (IntKind.i64.wrap (x0_1 + 1), (x0_5.set ((IntKind.u64.wrap (x0_0 + (IntKind.u64.wrap x0_3))).tmod x0_4).toNat (rd 0 l2 x0_3)), (x0_6.set ((IntKind.u64.wrap (x0_0 + (IntKind.u64.wrap x0_3))).tmod x0_4).toNat true))) else none) else none) else none) else (some (x0_1, x0_5, x0_6)))) else none) >>= fun (j44 : Int × (List Int) × (List Bool)) => (impl_buffer_put.l0 l2 x0_0 x0_2 x0_4 x0_7 x0_8 x0_9 x0_10 x0_11 x0_12 j44.1 (IntKind.i64.wrap (x0_3 + 1)) j44.2.1 j44.2.2)) else (some (x0_1, x0_5, x0_6)))
 partial_fixpoint
def impl_buffer_put.f (a0_0 : Int) (l0_1 : List Int) (l0_2 : List Bool) (a0_3 : Int) (a0_4 : Bool) (a0_5 : Int) (a1 : Int) (l2 : List Int) : Option (Int × Int × (List Int) × (List Int) × (List Bool)) := ((if IntKind.u64.wrap (l2.length : Int) = 0 then (some true) else (some (decide (IntKind.u64.wrap (l2.length : Int) > 32)))) >>= fun (j4 : Bool) => (if j4 = true then (some (1, 0, ([] : List Int), l0_1, l0_2)) else ((if a1 > IntKind.u64.wrap (a0_3 + a0_0) then (some true) else (some (decide (IntKind.u64.wrap (l2.length : Int) > IntKind.u64.wrap ((IntKind.u64.wrap (a0_3 + a0_0)) - a1))))) >>= fun (j16 : Bool) => (if j16 = true then (some (4, 0, ([] : List Int), l0_1, l0_2)) else ((if a0_4 = true then (some (decide (IntKind.u64.wrap (a1 + (IntKind.u64.wrap (l2.length : Int))) > a0_5))) else (some false)) >>= fun (j27 : Bool) => (if j27 = true then (some (12, 0, ([] : List Int), l0_1, l0_2)) else (impl_buffer_put.l0 l2 a1 (l2.length : Int) a0_0 a0_3 a0_4 a0_5 0 0 ([] : List Int) 0 0 l0_1 l0_2 >>= fun (y85 : (Int × (List Int) × (List Bool))) => (some (0, y85.1, ([] : List Int), y85.2.1, y85.2.2)))))))))
def impl_buffer_put.l0_M (cs1 : List Cell) (o1 : Nat) (l2 : List Int) (hv1 : Vw c_u8 1 cs1 o1 l2) (x0_0 : Int) (x0_2 : Int) (x0_4 : Int) (x0_7 : Int) (x0_8 : Bool) (x0_9 : Int) (x0_10 : Int) (x0_11 : Int) (x0_12 : (List Int)) (x0_1 : Int) (x0_3 : Int) (x0_5 : (List Int)) (x0_6 : (List Bool)) (y : (Int × (List Int) × (List Bool))) : Prop := ∀ (K : AE → St → Prop), (K (.exit 0) ⟨[(6, .c (.ptr (.tmp 6 0) [] 0)), (9, .c (.sc (.int .i64 y.1)))], [(.arg 0, ⟨.box, 0, [.sc (.int .u64 x0_4), .own 1 y.2.1.length (encL c_u8 y.2.1), .own 1 y.2.2.length (encL c_bool y.2.2), .sc (.int .u64 x0_7), .sc (.bool x0_8), .sc (.int .u64 x0_9)]⟩), (.arg 1, ⟨.fz, 1, cs1⟩), (.tmp 6 0, ⟨.box, 0, [.sc (.int .i64 x0_10), .sc (.int .i64 x0_11), .own 1 x0_12.length (encL c_u8 x0_12)]⟩)], [], []⟩) → loopS Try.prog 118 (.ga C158_l0) K ⟨[(0, .c (.ptr (.arg 0) [] 0)), (1, .c (.sc (.int .u64 x0_0))), (6, .c (.ptr (.tmp 6 0) [] 0)), (9, .c (.sc (.int .i64 x0_1))), (58, .c (.ref (.arg 1) [] o1 l2.length)), (59, .c (.sc (.int .i64 x0_2))), (60, .c (.sc (.int .i64 x0_3)))], [(.arg 0, ⟨.box, 0, [.sc (.int .u64 x0_4), .own 1 x0_5.length (encL c_u8 x0_5), .own 1 x0_6.length (encL c_bool x0_6), .sc (.int .u64 x0_7), .sc (.bool x0_8), .sc (.int .u64 x0_9)]⟩), (.arg 1, ⟨.fz, 1, cs1⟩), (.tmp 6 0, ⟨.box, 0, [.sc (.int .i64 x0_10), .sc (.int .i64 x0_11), .own 1 x0_12.length (encL c_u8 x0_12)]⟩)], [], []⟩
theorem impl_buffer_put.l0_walk (cs1 : List Cell) (o1 : Nat) (l2 : List Int) (hv1 : Vw c_u8 1 cs1 o1 l2) (x0_0 : Int) (x0_2 : Int) (x0_4 : Int) (x0_7 : Int) (x0_8 : Bool) (x0_9 : Int) (x0_10 : Int) (x0_11 : Int) (x0_12 : (List Int)) (x0_1 : Int) (x0_3 : Int) (x0_5 : (List Int)) (x0_6 : (List Bool)) (y : (Int × (List Int) × (List Bool))) (h : impl_buffer_put.l0 l2 x0_0 x0_2 x0_4 x0_7 x0_8 x0_9 x0_10 x0_11 x0_12 x0_1 x0_3 x0_5 x0_6 = some y) : impl_buffer_put.l0_M cs1 o1 l2 hv1 x0_0 x0_2 x0_4 x0_7 x0_8 x0_9 x0_10 x0_11 x0_12 x0_1 x0_3 x0_5 x0_6 y := by
 refine impl_buffer_put.l0.partial_correctness l2 x0_0 x0_2 x0_4 x0_7 x0_8 x0_9 x0_10 x0_11 x0_12 (motive := fun x0_1 x0_3 x0_5 x0_6 y => impl_buffer_put.l0_M cs1 o1 l2 hv1 x0_0 x0_2 x0_4 x0_7 x0_8 x0_9 x0_10 x0_11 x0_12 x0_1 x0_3 x0_5 x0_6 y) ?_ x0_1 x0_3 x0_5 x0_6 y h
 clear h
 unfold impl_buffer_put.l0_M
 intro rec ih x0_1 x0_3 x0_5 x0_6 y h K hx0
 refine loop_unroll (ga_k fun G0 G0n G0r G0x => ?_)
 unfold C158_l0
 refine sr_k fun J41 hJ41 => ?_
 simp +decide only [Nat.reduceAdd, Nat.reduceMul, Int.reduceToNat, ak]
 refine hJ41 _ ?_
 refine seq_k fun J42 hJ42 => ?_
 refine cond_k (b := decide (x0_3 < x0_2)) rfl (fun c43 => ?_) (fun c43 => ?_)
 ·replace c43 := of_decide_eq_true c43; rw [if_pos c43] at h
  refine hJ42 _ ?_
  obtain ⟨j44, h45, hn⟩ := of_bind h
  refine seq_j (fun st => st = ⟨[(0, .c (.ptr (.arg 0) [] 0)), (1, .c (.sc (.int .u64 x0_0))), (6, .c (.ptr (.tmp 6 0) [] 0)), (9, .c (.sc (.int .i64 j44.1))), (58, .c (.ref (.arg 1) [] o1 l2.length)), (59, .c (.sc (.int .i64 x0_2))), (60, .c (.sc (.int .i64 x0_3)))], [(.arg 0, ⟨.box, 0, [.sc (.int .u64 x0_4), .own 1 j44.2.1.length (encL c_u8 j44.2.1), .own 1 j44.2.2.length (encL c_bool j44.2.2), .sc (.int .u64 x0_7), .sc (.bool x0_8), .sc (.int .u64 x0_9)]⟩), (.arg 1, ⟨.fz, 1, cs1⟩), (.tmp 6 0, ⟨.box, 0, [.sc (.int .i64 x0_10), .sc (.int .i64 x0_11), .own 1 x0_12.length (encL c_u8 x0_12)]⟩)], [], []⟩) (fun J46 hJ46 => ?_) ?_
  ·replace h := h45; clear hn
   refine ga_k fun G47 G47n G47r G47x => ?_
   refine block_k fun B48 B48n B48x B48r B48j => ?_
   refine sr_k fun J49 hJ49 => ?_
   obtain ⟨b50, h⟩ := of_guard h
   have g51 : (cs1)[o1 + x0_3.toNat * 1]? = some (.sc (.int .u8 (rd 0 l2 x0_3))) := hv1.get 0 0 b50.1 b50.2 (by decide)
   simp +decide only [Nat.reduceAdd, Nat.reduceMul, Int.reduceToNat, ak, b50, g51]
   refine hJ49 _ ?_
   refine sr_k fun J52 hJ52 => ?_
   simp +decide only [Nat.reduceAdd, Nat.reduceMul, Int.reduceToNat, ak]
   refine hJ52 _ ?_
   obtain ⟨j53, h54, hn⟩ := of_bind h
   refine seq_j (fun st => st = ⟨[(0, .c (.ptr (.arg 0) [] 0)), (1, .c (.sc (.int .u64 x0_0))), (6, .c (.ptr (.tmp 6 0) [] 0)), (9, .c (.sc (.int .i64 x0_1))), (11, .c (.sc (.int .u8 (rd 0 l2 x0_3)))), (12, .c (.sc (.int .u64 (IntKind.u64.wrap (x0_0 + (IntKind.u64.wrap x0_3)))))), (58, .c (.ref (.arg 1) [] o1 l2.length)), (59, .c (.sc (.int .i64 x0_2))), (60, .c (.sc (.int .i64 x0_3))), (89, .c (.sc (.bool j53)))], [(.arg 0, ⟨.box, 0, [.sc (.int .u64 x0_4), .own 1 x0_5.length (encL c_u8 x0_5), .own 1 x0_6.length (encL c_bool x0_6), .sc (.int .u64 x0_7), .sc (.bool x0_8), .sc (.int .u64 x0_9)]⟩), (.arg 1, ⟨.fz, 1, cs1⟩), (.tmp 6 0, ⟨.box, 0, [.sc (.int .i64 x0_10), .sc (.int .i64 x0_11), .own 1 x0_12.length (encL c_u8 x0_12)]⟩)], [], []⟩) (fun J55 hJ55 => ?_) ?_
   ·replace h := h54; clear hn
    refine ga_k fun G56 G56n G56r G56x => ?_
    refine regD_k ?_
    simp +decide only [Nat.reduceAdd, Nat.reduceMul, Int.reduceToNat, ak]
    by_cases c57 : IntKind.u64.wrap (x0_0 + (IntKind.u64.wrap x0_3)) ≥ x0_7
    ·rw [if_pos c57] at h
     have e58 : decide (IntKind.u64.wrap (x0_0 + (IntKind.u64.wrap x0_3)) ≥ x0_7) = true := decide_eq_true c57
     obtain ⟨b59, h⟩ := of_guard h
     obtain ⟨b60, h⟩ := of_guard h
     have g61 : (encL c_bool x0_6)[0 + ((IntKind.u64.wrap (x0_0 + (IntKind.u64.wrap x0_3))).tmod x0_4).toNat * 1]? = some (.sc (.bool (rd false x0_6 ((IntKind.u64.wrap (x0_0 + (IntKind.u64.wrap x0_3))).tmod x0_4)))) := (Vw.whole c_bool_w x0_6).get false 0 b60.1 b60.2 (by decide)
     simp +decide only [Nat.reduceAdd, Nat.reduceMul, Int.reduceToNat, ak, e58, b59, b60, g61]
     obtain rfl := Option.some.inj h
     refine G56n _ _ (wk [0, 1, 6, 9, 11, 12, 58, 59, 60, 89] [pI (.arg 0) .box, pI (.arg 1) .fz, pI (.tmp 6 0) .box] (h0 := by first | rfl | simp +decide only [ak, akF, b50, b59, b60, e58]) (h := by first | rfl | (simp +decide only [ak, akF, b50, b59, b60, e58]; done) | (simp +decide [ak, akF, b50, b59, b60, e58] <;> omega))) (hJ55 _ rfl)
    ·rw [if_neg c57] at h
     have e62 : decide (IntKind.u64.wrap (x0_0 + (IntKind.u64.wrap x0_3)) ≥ x0_7) = false := decide_eq_false c57
     simp +decide only [Nat.reduceAdd, Nat.reduceMul, Int.reduceToNat, ak, e62]
     obtain rfl := Option.some.inj h
     refine G56n _ _ (wk [0, 1, 6, 9, 11, 12, 58, 59, 60, 89] [pI (.arg 0) .box, pI (.arg 1) .fz, pI (.tmp 6 0) .box] (h0 := by first | rfl | simp +decide only [ak, akF, b50, e62]) (h := by first | rfl | (simp +decide only [ak, akF, b50, e62]; done) | (simp +decide [ak, akF, b50, e62] <;> omega))) (hJ55 _ rfl)
   ·replace h := hn; clear hn h54
    rintro _ rfl
    refine cond_k (b := j53) rfl (fun c63 => ?_) (fun c63 => ?_)
    ·rw [if_pos c63] at h
     refine sd_k fun J64 hJ64 => ?_
     obtain ⟨b65, h⟩ := of_guard h
     obtain ⟨b66, h⟩ := of_guard h
     simp +decide only [Nat.reduceAdd, Nat.reduceMul, Int.reduceToNat, ak, b65, b66]
     refine alt_e ?_
     ·have g71 : 0 + ((IntKind.u64.wrap (x0_0 + (IntKind.u64.wrap x0_3))).tmod x0_4).toNat * 1 + 1 ≤ (encL c_bool x0_6).length := (Vw.whole c_bool_w x0_6).le b66.1 b66.2 (j := 0) (q := 1) (by decide)
      have g72 : 0 + ((IntKind.u64.wrap (x0_0 + (IntKind.u64.wrap x0_3))).tmod x0_4).toNat * 1 < (encL c_bool x0_6).length := (Vw.whole c_bool_w x0_6).lt b66.1 b66.2 (j := 0) (by decide)
      have g73 : (encL c_bool x0_6)[0 + ((IntKind.u64.wrap (x0_0 + (IntKind.u64.wrap x0_3))).tmod x0_4).toNat * 1]? = some (.sc (.bool (rd false x0_6 ((IntKind.u64.wrap (x0_0 + (IntKind.u64.wrap x0_3))).tmod x0_4)))) := (Vw.whole c_bool_w x0_6).get false 0 b66.1 b66.2 (by decide)
      have g74 : (encL c_bool x0_6).set (0 + ((IntKind.u64.wrap (x0_0 + (IntKind.u64.wrap x0_3))).tmod x0_4).toNat * 1) (.sc (.bool true)) = encL c_bool (x0_6.set ((IntKind.u64.wrap (x0_0 + (IntKind.u64.wrap x0_3))).tmod x0_4).toNat true) := encL_put c_bool_w false b66.1 b66.2 (j := 0) (by decide) rfl
      simp +decide only [Nat.reduceAdd, Nat.reduceMul, Int.reduceToNat, ak, b66, g71, g72, g73, g74]
      refine hJ64 _ ?_
      refine sd_k fun J75 hJ75 => ?_
      obtain ⟨b76, h⟩ := of_guard h
      simp +decide only [Nat.reduceAdd, Nat.reduceMul, Int.reduceToNat, ak, b65, b76]
      refine alt_e ?_
      ·have g81 : 0 + ((IntKind.u64.wrap (x0_0 + (IntKind.u64.wrap x0_3))).tmod x0_4).toNat * 1 + 1 ≤ (encL c_u8 x0_5).length := (Vw.whole c_u8_w x0_5).le b76.1 b76.2 (j := 0) (q := 1) (by decide)
       have g82 : 0 + ((IntKind.u64.wrap (x0_0 + (IntKind.u64.wrap x0_3))).tmod x0_4).toNat * 1 < (encL c_u8 x0_5).length := (Vw.whole c_u8_w x0_5).lt b76.1 b76.2 (j := 0) (by decide)
       have g83 : (encL c_u8 x0_5)[0 + ((IntKind.u64.wrap (x0_0 + (IntKind.u64.wrap x0_3))).tmod x0_4).toNat * 1]? = some (.sc (.int .u8 (rd 0 x0_5 ((IntKind.u64.wrap (x0_0 + (IntKind.u64.wrap x0_3))).tmod x0_4)))) := (Vw.whole c_u8_w x0_5).get 0 0 b76.1 b76.2 (by decide)
       have g84 : (encL c_u8 x0_5).set (0 + ((IntKind.u64.wrap (x0_0 + (IntKind.u64.wrap x0_3))).tmod x0_4).toNat * 1) (.sc (.int .u8 (rd 0 l2 x0_3))) = encL c_u8 (x0_5.set ((IntKind.u64.wrap (x0_0 + (IntKind.u64.wrap x0_3))).tmod x0_4).toNat (rd 0 l2 x0_3)) := encL_put c_u8_w 0 b76.1 b76.2 (j := 0) (by decide) rfl
       simp +decide only [Nat.reduceAdd, Nat.reduceMul, Int.reduceToNat, ak, b76, g81, g82, g83, g84]
       refine hJ75 _ ?_
       refine reg_k ?_
       simp +decide only [Nat.reduceAdd, Nat.reduceMul, Int.reduceToNat, ak]
       refine B48n _ ?_
       obtain rfl := Option.some.inj h
       refine G47n _ _ (wk [0, 1, 6, 9, 58, 59, 60] [pI (.arg 0) .box, pI (.arg 1) .fz, pI (.tmp 6 0) .box] (h0 := by first | rfl | simp +decide only [ak, akF, b50, b65, b66, b76]) (h := by first | rfl | (simp +decide only [ak, akF, b50, b65, b66, b76]; done) | (simp +decide [ak, akF, b50, b65, b66, b76] <;> omega))) (hJ46 _ rfl)
    ·rw [if_neg (Bool.eq_false_iff.1 c63)] at h
     refine B48n _ ?_
     obtain rfl := Option.some.inj h
     refine G47n _ _ (wk [0, 1, 6, 9, 58, 59, 60] [pI (.arg 0) .box, pI (.arg 1) .fz, pI (.tmp 6 0) .box]) (hJ46 _ rfl)
  ·replace h := hn; clear hn h45
   rintro _ rfl
   refine reg_k ?_
   simp +decide only [Nat.reduceAdd, Nat.reduceMul, Int.reduceToNat, ak]
   refine G0n _ _ (wk [0, 1, 6, 9, 58, 59, 60] [pI (.arg 0) .box, pI (.arg 1) .fz, pI (.tmp 6 0) .box]) (ih _ _ _ _ _ h K hx0)
 ·replace c43 := of_decide_eq_false c43; rw [if_neg c43] at h
  obtain rfl := Option.some.inj h
  refine gh_k (wk [6, 9] [pI (.arg 0) .box, pI (.arg 1) .fz, pI (.tmp 6 0) .box]) ?_
  refine G0x _ _ ?_
  exact hx0
theorem impl_buffer_put.tri (cs1 : List Cell) (o1 : Nat) (l2 : List Int) (hv1 : Vw c_u8 1 cs1 o1 l2) (a0_0 : Int) (l0_1 : List Int) (l0_2 : List Bool) (a0_3 : Int) (a0_4 : Bool) (a0_5 : Int) (a1 : Int) (r : Int × Int × (List Int) × (List Int) × (List Bool)) (h : impl_buffer_put.f a0_0 l0_1 l0_2 a0_3 a0_4 a0_5 a1 l2 = some r) : Tri Try.prog 158 [.c (.ptr (.arg 0) [] 0), .c (.sc (.int .u64 a1)), .c (.ref (.arg 1) [] o1 l2.length)] [(.arg 0, ⟨.box, 0, [.sc (.int .u64 a0_0), .own 1 l0_1.length (encL c_u8 l0_1), .own 1 l0_2.length (encL c_bool l0_2), .sc (.int .u64 a0_3), .sc (.bool a0_4), .sc (.int .u64 a0_5)]⟩), (.arg 1, ⟨.fz, 1, cs1⟩)] (fun o => o = ⟨.g [.sc (.int .i64 r.1), .sc (.int .i64 r.2.1), .ref (.res 0) [] 0 r.2.2.1.length], [(.arg 0, ⟨.box, 0, [.sc (.int .u64 a0_0), .own 1 r.2.2.2.1.length (encL c_u8 r.2.2.2.1), .own 1 r.2.2.2.2.length (encL c_bool r.2.2.2.2), .sc (.int .u64 a0_3), .sc (.bool a0_4), .sc (.int .u64 a0_5)]⟩), (.arg 1, ⟨.fz, 1, cs1⟩), (.res 0, ⟨.lst, 1, encL c_u8 r.2.2.1⟩)], [], []⟩) := by
 refine tri_of_body (ac := C158) (xs := r158) Try.func158 (show Try.f158.body = some (Try.f158.body.getD .skip) from rfl) k158 q158 (Nat.le_of_ble_eq_true rfl) ?_
 refine body_of fun K hKn hKr => ?_
 unfold impl_buffer_put.f at h
 unfold C158
 simp only [initT, Nat.reduceAdd]
 refine sr_k fun J1 hJ1 => ?_
 simp +decide only [Nat.reduceAdd, Nat.reduceMul, Int.reduceToNat, ak]
 refine gho_k (Weak.own (.tmp 6 0) (cs' := [.sc (.int .i64 0), .sc (.int .i64 0), .own 1 (([] : List Int).length) (encL c_u8 ([] : List Int))]) rfl ⟨.inl rfl, .inl rfl, .inr ⟨rfl, _, rfl⟩, trivial⟩) ?_
 simp +decide only [Nat.reduceAdd, Nat.reduceMul, Int.reduceToNat, ak]
 refine hJ1 _ ?_
 refine sr_k fun J2 hJ2 => ?_
 simp +decide only [Nat.reduceAdd, Nat.reduceMul, Int.reduceToNat, ak]
 refine hJ2 _ ?_
 refine seq_k fun J3 hJ3 => ?_
 obtain ⟨j4, h5, hn⟩ := of_bind h
 refine seq_j (fun st => st = ⟨[(0, .c (.ptr (.arg 0) [] 0)), (1, .c (.sc (.int .u64 a1))), (2, .c (.ref (.arg 1) [] o1 l2.length)), (6, .c (.ptr (.tmp 6 0) [] 0)), (7, .c (.sc (.int .u64 (IntKind.u64.wrap (l2.length : Int))))), (21, .c (.sc (.bool j4)))], [(.arg 0, ⟨.box, 0, [.sc (.int .u64 a0_0), .own 1 l0_1.length (encL c_u8 l0_1), .own 1 l0_2.length (encL c_bool l0_2), .sc (.int .u64 a0_3), .sc (.bool a0_4), .sc (.int .u64 a0_5)]⟩), (.arg 1, ⟨.fz, 1, cs1⟩), (.tmp 6 0, ⟨.box, 0, [.sc (.int .i64 0), .sc (.int .i64 0), .own 1 (([] : List Int).length) (encL c_u8 ([] : List Int))]⟩)], [], []⟩) (fun J6 hJ6 => ?_) ?_
 ·replace h := h5; clear hn
  refine ga_k fun G7 G7n G7r G7x => ?_
  refine reg_k ?_
  simp +decide only [Nat.reduceAdd, Nat.reduceMul, Int.reduceToNat, ak]
  by_cases c8 : IntKind.u64.wrap (l2.length : Int) = 0
  ·rw [if_pos c8] at h
   have e9 : decide (IntKind.u64.wrap (l2.length : Int) = 0) = true := decide_eq_true c8
   simp +decide only [Nat.reduceAdd, Nat.reduceMul, Int.reduceToNat, ak, e9]
   obtain rfl := Option.some.inj h
   refine G7n _ _ (wk [0, 1, 2, 6, 7, 21] [pI (.arg 0) .box, pI (.arg 1) .fz, pI (.tmp 6 0) .box] (h0 := by first | rfl | simp +decide only [ak, akF, e9]) (h := by first | rfl | (simp +decide only [ak, akF, e9]; done) | (simp +decide [ak, akF, e9] <;> omega))) (hJ6 _ rfl)
  ·rw [if_neg c8] at h
   have e10 : decide (IntKind.u64.wrap (l2.length : Int) = 0) = false := decide_eq_false c8
   simp +decide only [Nat.reduceAdd, Nat.reduceMul, Int.reduceToNat, ak, e10]
   obtain rfl := Option.some.inj h
   refine G7n _ _ (wk [0, 1, 2, 6, 7, 21] [pI (.arg 0) .box, pI (.arg 1) .fz, pI (.tmp 6 0) .box] (h0 := by first | rfl | simp +decide only [ak, akF, e10]) (h := by first | rfl | (simp +decide only [ak, akF, e10]; done) | (simp +decide [ak, akF, e10] <;> omega))) (hJ6 _ rfl)
 ·replace h := hn; clear hn h5
  rintro _ rfl
  refine cond_k (b := j4) rfl (fun c11 => ?_) (fun c11 => ?_)
  ·rw [if_pos c11] at h
   refine sr_k fun J12 hJ12 => ?_
   simp +decide only [Nat.reduceAdd, Nat.reduceMul, Int.reduceToNat, ak]
   refine gho_k (Weak.nmg' 22 2 (.tmp 22 22) 1 (encL c_u8 ([] : List Int)) rfl rfl rfl rfl) ?_
   have g13 : (encL c_u8 ([] : List Int)).length = 0 * 1 := by simp [encL_length c_u8_w]
   simp +decide only [Nat.reduceAdd, Nat.reduceMul, Int.reduceToNat, ak, g13]
   refine hJ12 _ ?_
   obtain rfl := Option.some.inj h
   refine hKr _ ⟨_, rfl, [⟨(.tmp 6 0), [2], none, .lst⟩], _, rfl, rfl, ?_⟩
   first | rfl | (simp only [reduceCtorEq, Nat.reduceEqDiff, ak, akF]; done) | (simp [reduceCtorEq, Nat.reduceEqDiff, ak, akF] <;> omega)
  ·rw [if_neg (Bool.eq_false_iff.1 c11)] at h
   refine hJ3 _ ?_
   refine sd_k fun J14 hJ14 => ?_
   simp +decide only [Nat.reduceAdd, Nat.reduceMul, Int.reduceToNat, ak]
   refine hJ14 _ ?_
   refine seq_k fun J15 hJ15 => ?_
   obtain ⟨j16, h17, hn⟩ := of_bind h
   refine seq_j (fun st => st = ⟨[(0, .c (.ptr (.arg 0) [] 0)), (1, .c (.sc (.int .u64 a1))), (2, .c (.ref (.arg 1) [] o1 l2.length)), (6, .c (.ptr (.tmp 6 0) [] 0)), (7, .c (.sc (.int .u64 (IntKind.u64.wrap (l2.length : Int))))), (41, .c (.sc (.bool j16)))], [(.arg 0, ⟨.box, 0, [.sc (.int .u64 a0_0), .own 1 l0_1.length (encL c_u8 l0_1), .own 1 l0_2.length (encL c_bool l0_2), .sc (.int .u64 a0_3), .sc (.bool a0_4), .sc (.int .u64 a0_5)]⟩), (.arg 1, ⟨.fz, 1, cs1⟩), (.tmp 6 0, ⟨.box, 0, [.sc (.int .i64 0), .sc (.int .i64 0), .own 1 (([] : List Int).length) (encL c_u8 ([] : List Int))]⟩)], [], []⟩) (fun J18 hJ18 => ?_) ?_
   ·replace h := h17; clear hn
    refine ga_k fun G19 G19n G19r G19x => ?_
    refine reg_k ?_
    simp +decide only [Nat.reduceAdd, Nat.reduceMul, Int.reduceToNat, ak]
    by_cases c20 : a1 > IntKind.u64.wrap (a0_3 + a0_0)
    ·rw [if_pos c20] at h
     have e21 : decide (a1 > IntKind.u64.wrap (a0_3 + a0_0)) = true := decide_eq_true c20
     simp +decide only [Nat.reduceAdd, Nat.reduceMul, Int.reduceToNat, ak, e21]
     obtain rfl := Option.some.inj h
     refine G19n _ _ (wk [0, 1, 2, 6, 7, 41] [pI (.arg 0) .box, pI (.arg 1) .fz, pI (.tmp 6 0) .box] (h0 := by first | rfl | simp +decide only [ak, akF, e21]) (h := by first | rfl | (simp +decide only [ak, akF, e21]; done) | (simp +decide [ak, akF, e21] <;> omega))) (hJ18 _ rfl)
    ·rw [if_neg c20] at h
     have e22 : decide (a1 > IntKind.u64.wrap (a0_3 + a0_0)) = false := decide_eq_false c20
     simp +decide only [Nat.reduceAdd, Nat.reduceMul, Int.reduceToNat, ak, e22]
     obtain rfl := Option.some.inj h
     refine G19n _ _ (wk [0, 1, 2, 6, 7, 41] [pI (.arg 0) .box, pI (.arg 1) .fz, pI (.tmp 6 0) .box] (h0 := by first | rfl | simp +decide only [ak, akF, e22]) (h := by first | rfl | (simp +decide only [ak, akF, e22]; done) | (simp +decide [ak, akF, e22] <;> omega))) (hJ18 _ rfl)
   ·replace h := hn; clear hn h17
    rintro _ rfl
    refine cond_k (b := j16) rfl (fun c23 => ?_) (fun c23 => ?_)
    ·rw [if_pos c23] at h
     refine sr_k fun J24 hJ24 => ?_
     simp +decide only [Nat.reduceAdd, Nat.reduceMul, Int.reduceToNat, ak]
     refine gho_k (Weak.nmg' 42 2 (.tmp 42 22) 1 (encL c_u8 ([] : List Int)) rfl rfl rfl rfl) ?_
     have g25 : (encL c_u8 ([] : List Int)).length = 0 * 1 := by simp [encL_length c_u8_w]
     simp +decide only [Nat.reduceAdd, Nat.reduceMul, Int.reduceToNat, ak, g25]
     refine hJ24 _ ?_
     obtain rfl := Option.some.inj h
     refine hKr _ ⟨_, rfl, [⟨(.tmp 6 0), [2], none, .lst⟩], _, rfl, rfl, ?_⟩
     first | rfl | (simp only [reduceCtorEq, Nat.reduceEqDiff, ak, akF]; done) | (simp [reduceCtorEq, Nat.reduceEqDiff, ak, akF] <;> omega)
    ·rw [if_neg (Bool.eq_false_iff.1 c23)] at h
     refine hJ15 _ ?_
     refine seq_k fun J26 hJ26 => ?_
     obtain ⟨j27, h28, hn⟩ := of_bind h
     refine seq_j (fun st => st = ⟨[(0, .c (.ptr (.arg 0) [] 0)), (1, .c (.sc (.int .u64 a1))), (2, .c (.ref (.arg 1) [] o1 l2.length)), (6, .c (.ptr (.tmp 6 0) [] 0)), (56, .c (.sc (.bool j27)))], [(.arg 0, ⟨.box, 0, [.sc (.int .u64 a0_0), .own 1 l0_1.length (encL c_u8 l0_1), .own 1 l0_2.length (encL c_bool l0_2), .sc (.int .u64 a0_3), .sc (.bool a0_4), .sc (.int .u64 a0_5)]⟩), (.arg 1, ⟨.fz, 1, cs1⟩), (.tmp 6 0, ⟨.box, 0, [.sc (.int .i64 0), .sc (.int .i64 0), .own 1 (([] : List Int).length) (encL c_u8 ([] : List Int))]⟩)], [], []⟩) (fun J29 hJ29 => ?_) ?_
     ·replace h := h28; clear hn
      refine ga_k fun G30 G30n G30r G30x => ?_
      refine reg_k ?_
      simp +decide only [Nat.reduceAdd, Nat.reduceMul, Int.reduceToNat, ak]
      by_cases c31 : a0_4 = true
      ·rw [if_pos c31] at h
       have e32 : (a0_4) = true := c31
       simp +decide only [Nat.reduceAdd, Nat.reduceMul, Int.reduceToNat, ak, e32]
       obtain rfl := Option.some.inj h
       refine G30n _ _ (wk [0, 1, 2, 6, 56] [pI (.arg 0) .box, pI (.arg 1) .fz, pI (.tmp 6 0) .box] (h0 := by first | rfl | simp +decide only [ak, akF, e32]) (h := by first | rfl | (simp +decide only [ak, akF, e32]; done) | (simp +decide [ak, akF, e32] <;> omega))) (hJ29 _ rfl)
      ·rw [if_neg c31] at h
       have e33 : (a0_4) = false := Bool.eq_false_iff.2 c31
       simp +decide only [Nat.reduceAdd, Nat.reduceMul, Int.reduceToNat, ak, e33]
       obtain rfl := Option.some.inj h
       refine G30n _ _ (wk [0, 1, 2, 6, 56] [pI (.arg 0) .box, pI (.arg 1) .fz, pI (.tmp 6 0) .box] (h0 := by first | rfl | simp +decide only [ak, akF, e33]) (h := by first | rfl | (simp +decide only [ak, akF, e33]; done) | (simp +decide [ak, akF, e33] <;> omega))) (hJ29 _ rfl)
     ·replace h := hn; clear hn h28
      rintro _ rfl
      refine cond_k (b := j27) rfl (fun c34 => ?_) (fun c34 => ?_)
      ·rw [if_pos c34] at h
       refine sr_k fun J35 hJ35 => ?_
       simp +decide only [Nat.reduceAdd, Nat.reduceMul, Int.reduceToNat, ak]
       refine gho_k (Weak.nmg' 57 2 (.tmp 57 22) 1 (encL c_u8 ([] : List Int)) rfl rfl rfl rfl) ?_
       have g36 : (encL c_u8 ([] : List Int)).length = 0 * 1 := by simp [encL_length c_u8_w]
       simp +decide only [Nat.reduceAdd, Nat.reduceMul, Int.reduceToNat, ak, g36]
       refine hJ35 _ ?_
       obtain rfl := Option.some.inj h
       refine hKr _ ⟨_, rfl, [⟨(.tmp 6 0), [2], none, .lst⟩], _, rfl, rfl, ?_⟩
       first | rfl | (simp only [reduceCtorEq, Nat.reduceEqDiff, ak, akF]; done) | (simp [reduceCtorEq, Nat.reduceEqDiff, ak, akF] <;> omega)
      ·rw [if_neg (Bool.eq_false_iff.1 c34)] at h
       refine hJ26 _ ?_
       refine sr_k fun J37 hJ37 => ?_
       simp +decide only [Nat.reduceAdd, Nat.reduceMul, Int.reduceToNat, ak]
       refine hJ37 _ ?_
       refine seq_k fun J38 hJ38 => ?_
       refine sr_k fun J39 hJ39 => ?_
       simp +decide only [Nat.reduceAdd, Nat.reduceMul, Int.reduceToNat, ak]
       refine hJ39 _ ?_
       refine block_k fun B40 B40n B40x B40r B40j => ?_
       obtain ⟨y85, h86, h⟩ := of_bind h
       refine gh_k (wk [0, 1, 6, 9, 58, 59, 60] [pI (.arg 0) .box, pI (.arg 1) .fz, pI (.tmp 6 0) .box]) ?_
       rw [e_loop]
       refine impl_buffer_put.l0_walk cs1 o1 l2 hv1 a1 (l2.length : Int) a0_0 a0_3 a0_4 a0_5 0 0 ([] : List Int) 0 0 l0_1 l0_2 _ h86 _ ?_
       refine B40x _ ?_
       refine hJ38 _ ?_
       refine sr_k fun J87 hJ87 => ?_
       simp +decide only [Nat.reduceAdd, Nat.reduceMul, Int.reduceToNat, ak]
       refine gho_k (Weak.nmg' 117 2 (.tmp 117 22) 1 (encL c_u8 ([] : List Int)) rfl rfl rfl rfl) ?_
       have g88 : (encL c_u8 ([] : List Int)).length = 0 * 1 := by simp [encL_length c_u8_w]
       simp +decide only [Nat.reduceAdd, Nat.reduceMul, Int.reduceToNat, ak, g88]
       refine hJ87 _ ?_
       obtain rfl := Option.some.inj h
       refine hKr _ ⟨_, rfl, [⟨(.tmp 6 0), [2], none, .lst⟩], _, rfl, rfl, ?_⟩
       first | rfl | (simp only [reduceCtorEq, Nat.reduceEqDiff, ak, akF]; done) | (simp [reduceCtorEq, Nat.reduceEqDiff, ak, akF] <;> omega)
/-! ### (*impl.buffer).end: function 159 -/
def C159_l0 : AC := .seq (.seq (.regD (.first (.op none (.mv 28 (.tmp 5))) (.first (.op none (.mv 29 (.tmp 0))) (.first (.op none (.nilc 30 (.tmp 29))) (.first (.op none (.faddr 31 3 (.tmp 30))) (.first (.op none (.load 32 false 1 (.tmp 31))) (.first (.op none (.mv 33 (.tmp 0))) (.first (.op none (.nilc 34 (.tmp 33))) (.first (.op none (.faddr 35 0 (.tmp 34))) (.first (.op none (.load 36 false 1 (.tmp 35))) (.first (.op none (.bin 37 .add (.tmp 32) (.tmp 36))) (.first (.op none (.bin 38 .lss (.tmp 28) (.tmp 37))) (.done)))))))))))) [0, 1, 4, 5, 38]) (.cond (.tmp 38) (.skip) (.gh (.exit 0)))) (.seq (.block 1 (.seq (.regD (.first (.op none (.mv 41 (.tmp 0))) (.first (.op none (.nilc 42 (.tmp 41))) (.first (.op none (.faddr 43 2 (.tmp 42))) (.first (.op none (.load 44 false 1 (.tmp 43))) (.first (.op none (.mv 45 (.tmp 5))) (.first (.op none (.mv 46 (.tmp 0))) (.first (.op none (.nilc 47 (.tmp 46))) (.first (.op none (.faddr 48 0 (.tmp 47))) (.first (.op none (.load 49 false 1 (.tmp 48))) (.first (.op none (.bin 50 .rem (.tmp 45) (.tmp 49))) (.first (.op none (.iaddr 51 1 (.tmp 44) (.tmp 50))) (.first (.op none (.load 52 false 1 (.tmp 51))) (.done))))))))))))) [0, 1, 4, 5, 52]) (.cond (.tmp 52) (.seq (.reg [.op none (.build 53 [.int .i64 0, .int .i64 0, .slice none 0 0] [(0, 1, .const (.int .i64 12))]), .gh, .op none (.store 3 (.tmp 4) (.tmp 53)), .keep [4]]) (.gh .ret)) (.skip)))) (.reg [.op none (.mv 39 (.tmp 5)), .op none (.bin 40 .add (.tmp 39) (.const (.int .u64 1))), .op none (.mv 5 (.tmp 40)), .keep [0, 1, 4, 5]]))
def C159 : AC := .seq (.reg [.op none (.alloc 4 [.int .i64 0, .int .i64 0, .slice none 0 0]), .gh, .keep [0, 1, 4]]) (.seq (.seq (.ga (.reg [.op none (.mv 6 (.tmp 0)), .op none (.nilc 7 (.tmp 6)), .op none (.faddr 8 4 (.tmp 7)), .op none (.load 9 false 1 (.tmp 8)), .op none (.mv 10 (.tmp 9)), .op (some (10, true)) (.mv 11 (.tmp 0)), .op (some (10, true)) (.nilc 12 (.tmp 11)), .op (some (10, true)) (.faddr 13 5 (.tmp 12)), .op (some (10, true)) (.load 14 false 1 (.tmp 13)), .op (some (10, true)) (.mv 15 (.tmp 1)), .op (some (10, true)) (.bin 16 .neq (.tmp 14) (.tmp 15)), .op none (.pick 17 (.tmp 10) (.tmp 16) (.const (.bool false))), .op none (.mv 18 (.tmp 17)), .op (some (18, false)) (.mv 19 (.tmp 1)), .op (some (18, false)) (.mv 20 (.tmp 0)), .op (some (18, false)) (.nilc 21 (.tmp 20)), .op (some (18, false)) (.faddr 22 3 (.tmp 21)), .op (some (18, false)) (.load 23 false 1 (.tmp 22)), .op (some (18, false)) (.bin 24 .lss (.tmp 19) (.tmp 23)), .op none (.pick 25 (.tmp 18) (.const (.bool true)) (.tmp 24)), .keep [0, 1, 4, 25]])) (.cond (.tmp 25) (.seq (.reg [.op none (.build 26 [.int .i64 0, .int .i64 0, .slice none 0 0] [(0, 1, .const (.int .i64 12))]), .gh, .op none (.store 3 (.tmp 4) (.tmp 26)), .keep [4]]) (.ret)) (.skip))) (.seq (.seq (.reg [.op none (.mv 27 (.tmp 1)), .op none (.mv 5 (.tmp 27)), .keep [0, 1, 4, 5]]) (.block 0 (.gh (.loop (.ga C159_l0))))) (.seq (.seq (.regD (.first (.op none (.mv 54 (.tmp 1))) (.first (.op none (.mv 55 (.tmp 0))) (.first (.op none (.nilc 56 (.tmp 55))) (.first (.op none (.faddr 57 3 (.tmp 56))) (.first (.op none (.load 58 false 1 (.tmp 57))) (.first (.op none (.mv 59 (.tmp 0))) (.first (.op none (.nilc 60 (.tmp 59))) (.first (.op none (.faddr 61 0 (.tmp 60))) (.first (.op none (.load 62 false 1 (.tmp 61))) (.first (.op none (.bin 63 .add (.tmp 58) (.tmp 62))) (.first (.op none (.bin 64 .gtr (.tmp 54) (.tmp 63))) (.done)))))))))))) [0, 1, 4, 64]) (.cond (.tmp 64) (.seq (.reg [.op none (.build 65 [.int .i64 0, .int .i64 0, .slice none 0 0] [(0, 1, .const (.int .i64 4))]), .gh, .op none (.store 3 (.tmp 4) (.tmp 65)), .keep [4]]) (.ret)) (.skip))) (.seq (.reg [.op none (.mv 66 (.tmp 0)), .op none (.nilc 67 (.tmp 66)), .op none (.faddr 68 4 (.tmp 67)), .op none (.store 1 (.tmp 68) (.const (.bool true))), .keep [0, 1, 4]]) (.seq (.reg [.op none (.mv 69 (.tmp 0)), .op none (.mv 70 (.tmp 1)), .op none (.nilc 71 (.tmp 69)), .op none (.faddr 72 5 (.tmp 71)), .op none (.store 1 (.tmp 72) (.tmp 70)), .keep [4]]) (.seq (.reg [.op none (.build 73 [.int .i64 0, .int .i64 0, .slice none 0 0] []), .gh, .op none (.store 3 (.tmp 4) (.tmp 73)), .keep [4]]) (.ret)))))))
def r159 : List RV := [.cell 4 true 3]
theorem k159 : compC Try.prog 74 C159 (Try.f159.body.getD .skip) = some C159.erase := by kernel_rfl
theorem q159 : rvsOf Try.prog Try.f159.results.toList = some r159 := by kernel_rfl
def impl_buffer_end.l0 (x0_0 : Int) (x0_2 : Int) (x0_3 : (List Int)) (x0_4 : (List Bool)) (x0_5 : Int) (x0_6 : Bool) (x0_7 : Int) (x0_8 : Int) (x0_9 : Int) (x0_10 : (List Int)) (x0_1 : Int) : Option (Lp Unit (List Int)) := (if x0_1 < IntKind.u64.wrap (x0_5 + x0_2) then (if ¬ x0_2 = 0 then (if 0 ≤ x0_1.tmod x0_2 ∧ x0_1.tmod x0_2 < (x0_4.length : Int) then (if (rd false x0_4 (x0_1.tmod x0_2)) = true then (some (.b ([] : List Int))) else (impl_buffer_end.l0 x0_0 x0_2 x0_3 x0_4 x0_5 x0_6 x0_7 x0_8 x0_9 x0_10 (IntKind.u64.wrap (x0_1 + 1)))) else none) else none) else (some (.a ())))
 partial_fixpoint
def impl_buffer_end.f (a0_0 : Int) (l0_1 : List Int) (l0_2 : List Bool) (a0_3 : Int) (a0_4 : Bool) (a0_5 : Int) (a1 : Int) : Option (Int × Int × (List Int) × Bool × Int) := ((if a0_4 = true then (if a0_5 ≠ a1 then (some true) else (some (decide (a1 < a0_3)))) else (some (decide (a1 < a0_3)))) >>= fun (j3 : Bool) => (if j3 = true then (some (12, 0, ([] : List Int), a0_4, a0_5)) else (impl_buffer_end.l0 a1 a0_0 l0_1 l0_2 a0_3 a0_4 a0_5 0 0 ([] : List Int) a1 >>= fun (y31 : Lp Unit (List Int)) => match y31 with | .a x33 => (if a1 > IntKind.u64.wrap (a0_3 + a0_0) then (some (4, 0, ([] : List Int), a0_4, a0_5)) else (some (0, 0, ([] : List Int), true, a1))) | .b x33 => (some (12, 0, x33, a0_4, a0_5)))))
def impl_buffer_end.l0_M (x0_0 : Int) (x0_2 : Int) (x0_3 : (List Int)) (x0_4 : (List Bool)) (x0_5 : Int) (x0_6 : Bool) (x0_7 : Int) (x0_8 : Int) (x0_9 : Int) (x0_10 : (List Int)) (x0_1 : Int) (y : Lp Unit (List Int)) : Prop := ∀ (K : AE → St → Prop), (∀ x, y = .a x → K (.exit 0) ⟨[(0, .c (.ptr (.arg 0) [] 0)), (1, .c (.sc (.int .u64 x0_0))), (4, .c (.ptr (.tmp 4 0) [] 0))], [(.arg 0, ⟨.box, 0, [.sc (.int .u64 x0_2), .own 1 x0_3.length (encL c_u8 x0_3), .own 1 x0_4.length (encL c_bool x0_4), .sc (.int .u64 x0_5), .sc (.bool x0_6), .sc (.int .u64 x0_7)]⟩), (.tmp 4 0, ⟨.box, 0, [.sc (.int .i64 x0_8), .sc (.int .i64 x0_9), .own 1 x0_10.length (encL c_u8 x0_10)]⟩)], [], []⟩) → (∀ x, y = .b x → K .ret ⟨[(4, .c (.ptr (.tmp 4 0) [] 0))], [(.arg 0, ⟨.box, 0, [.sc (.int .u64 x0_2), .own 1 x0_3.length (encL c_u8 x0_3), .own 1 x0_4.length (encL c_bool x0_4), .sc (.int .u64 x0_5), .sc (.bool x0_6), .sc (.int .u64 x0_7)]⟩), (.tmp 4 0, ⟨.box, 0, [.sc (.int .i64 12), .sc (.int .i64 0), .own 1 x.length (encL c_u8 x)]⟩)], [], []⟩) → loopS Try.prog 74 (.ga C159_l0) K ⟨[(0, .c (.ptr (.arg 0) [] 0)), (1, .c (.sc (.int .u64 x0_0))), (4, .c (.ptr (.tmp 4 0) [] 0)), (5, .c (.sc (.int .u64 x0_1)))], [(.arg 0, ⟨.box, 0, [.sc (.int .u64 x0_2), .own 1 x0_3.length (encL c_u8 x0_3), .own 1 x0_4.length (encL c_bool x0_4), .sc (.int .u64 x0_5), .sc (.bool x0_6), .sc (.int .u64 x0_7)]⟩), (.tmp 4 0, ⟨.box, 0, [.sc (.int .i64 x0_8), .sc (.int .i64 x0_9), .own 1 x0_10.length (encL c_u8 x0_10)]⟩)], [], []⟩
theorem impl_buffer_end.l0_walk (x0_0 : Int) (x0_2 : Int) (x0_3 : (List Int)) (x0_4 : (List Bool)) (x0_5 : Int) (x0_6 : Bool) (x0_7 : Int) (x0_8 : Int) (x0_9 : Int) (x0_10 : (List Int)) (x0_1 : Int) (y : Lp Unit (List Int)) (h : impl_buffer_end.l0 x0_0 x0_2 x0_3 x0_4 x0_5 x0_6 x0_7 x0_8 x0_9 x0_10 x0_1 = some y) : impl_buffer_end.l0_M x0_0 x0_2 x0_3 x0_4 x0_5 x0_6 x0_7 x0_8 x0_9 x0_10 x0_1 y := by
 refine impl_buffer_end.l0.partial_correctness x0_0 x0_2 x0_3 x0_4 x0_5 x0_6 x0_7 x0_8 x0_9 x0_10 (motive := fun x0_1 y => impl_buffer_end.l0_M x0_0 x0_2 x0_3 x0_4 x0_5 x0_6 x0_7 x0_8 x0_9 x0_10 x0_1 y) ?_ x0_1 y h
 clear h
 unfold impl_buffer_end.l0_M
 intro rec ih x0_1 y h K hx0 hx1
 refine loop_unroll (ga_k fun G0 G0n G0r G0x => ?_)
 unfold C159_l0
 refine seq_k fun J19 hJ19 => ?_
 refine sd_k fun J20 hJ20 => ?_
 simp +decide only [Nat.reduceAdd, Nat.reduceMul, Int.reduceToNat, ak]
 refine hJ20 _ ?_
 refine cond_k (b := decide (x0_1 < IntKind.u64.wrap (x0_5 + x0_2))) rfl (fun c21 => ?_) (fun c21 => ?_)
 ·replace c21 := of_decide_eq_true c21; rw [if_pos c21] at h
  refine hJ19 _ ?_
  refine seq_k fun J22 hJ22 => ?_
  refine block_k fun B23 B23n B23x B23r B23j => ?_
  refine sd_k fun J24 hJ24 => ?_
  obtain ⟨b25, h⟩ := of_guard h
  obtain ⟨b26, h⟩ := of_guard h
  have g27 : (encL c_bool x0_4)[0 + (x0_1.tmod x0_2).toNat * 1]? = some (.sc (.bool (rd false x0_4 (x0_1.tmod x0_2)))) := (Vw.whole c_bool_w x0_4).get false 0 b26.1 b26.2 (by decide)
  simp +decide only [Nat.reduceAdd, Nat.reduceMul, Int.reduceToNat, ak, b25, b26, g27]
  refine hJ24 _ ?_
  refine cond_k (b := (rd false x0_4 (x0_1.tmod x0_2))) rfl (fun c28 => ?_) (fun c28 => ?_)
  ·rw [if_pos c28] at h
   refine sr_k fun J29 hJ29 => ?_
   simp +decide only [Nat.reduceAdd, Nat.reduceMul, Int.reduceToNat, ak]
   refine gho_k (Weak.nmg' 53 2 (.tmp 53 22) 1 (encL c_u8 ([] : List Int)) rfl rfl rfl rfl) ?_
   have g30 : (encL c_u8 ([] : List Int)).length = 0 * 1 := by simp [encL_length c_u8_w]
   simp +decide only [Nat.reduceAdd, Nat.reduceMul, Int.reduceToNat, ak, g30]
   refine hJ29 _ ?_
   obtain rfl := Option.some.inj h
   refine gh_k (st' := ⟨[(4, .c (.ptr (.tmp 4 0) [] 0))], [(.arg 0, ⟨.box, 0, [.sc (.int .u64 x0_2), .own 1 x0_3.length (encL c_u8 x0_3), .own 1 x0_4.length (encL c_bool x0_4), .sc (.int .u64 x0_5), .sc (.bool x0_6), .sc (.int .u64 x0_7)]⟩), (.tmp 4 0, ⟨.box, 0, [.sc (.int .i64 12), .sc (.int .i64 0), .own 1 (([] : List Int).length) (encL c_u8 ([] : List Int))]⟩)], [], []⟩) (wk [4] [pI (.arg 0) .box, pI (.tmp 4 0) .box] (h0 := by first | rfl | simp +decide only [ak, akF, b25, b26]) (h := by first | rfl | (simp +decide only [ak, akF, b25, b26]; done) | (simp +decide [ak, akF, b25, b26] <;> omega))) ?_
   refine B23r _ ?_
   refine G0r _ ?_
   exact hx1 _ rfl
  ·rw [if_neg (Bool.eq_false_iff.1 c28)] at h
   refine B23n _ ?_
   refine hJ22 _ ?_
   refine reg_k ?_
   simp +decide only [Nat.reduceAdd, Nat.reduceMul, Int.reduceToNat, ak]
   refine G0n _ _ (wk [0, 1, 4, 5] [pI (.arg 0) .box, pI (.tmp 4 0) .box]) (ih _ _ h K hx0 hx1)
 ·replace c21 := of_decide_eq_false c21; rw [if_neg c21] at h
  obtain rfl := Option.some.inj h
  refine gh_k (wk [0, 1, 4] [pI (.arg 0) .box, pI (.tmp 4 0) .box]) ?_
  refine G0x _ _ ?_
  exact hx0 _ rfl
theorem impl_buffer_end.tri (a0_0 : Int) (l0_1 : List Int) (l0_2 : List Bool) (a0_3 : Int) (a0_4 : Bool) (a0_5 : Int) (a1 : Int) (r : Int × Int × (List Int) × Bool × Int) (h : impl_buffer_end.f a0_0 l0_1 l0_2 a0_3 a0_4 a0_5 a1 = some r) : Tri Try.prog 159 [.c (.ptr (.arg 0) [] 0), .c (.sc (.int .u64 a1))] [(.arg 0, ⟨.box, 0, [.sc (.int .u64 a0_0), .own 1 l0_1.length (encL c_u8 l0_1), .own 1 l0_2.length (encL c_bool l0_2), .sc (.int .u64 a0_3), .sc (.bool a0_4), .sc (.int .u64 a0_5)]⟩)] (fun o => o = ⟨.g [.sc (.int .i64 r.1), .sc (.int .i64 r.2.1), .ref (.res 0) [] 0 r.2.2.1.length], [(.arg 0, ⟨.box, 0, [.sc (.int .u64 a0_0), .own 1 l0_1.length (encL c_u8 l0_1), .own 1 l0_2.length (encL c_bool l0_2), .sc (.int .u64 a0_3), .sc (.bool r.2.2.2.1), .sc (.int .u64 r.2.2.2.2)]⟩), (.res 0, ⟨.lst, 1, encL c_u8 r.2.2.1⟩)], [], []⟩) := by
 refine tri_of_body (ac := C159) (xs := r159) Try.func159 (show Try.f159.body = some (Try.f159.body.getD .skip) from rfl) k159 q159 (Nat.le_of_ble_eq_true rfl) ?_
 refine body_of fun K hKn hKr => ?_
 unfold impl_buffer_end.f at h
 unfold C159
 simp only [initT, Nat.reduceAdd]
 refine sr_k fun J1 hJ1 => ?_
 simp +decide only [Nat.reduceAdd, Nat.reduceMul, Int.reduceToNat, ak]
 refine gho_k (Weak.own (.tmp 4 0) (cs' := [.sc (.int .i64 0), .sc (.int .i64 0), .own 1 (([] : List Int).length) (encL c_u8 ([] : List Int))]) rfl ⟨.inl rfl, .inl rfl, .inr ⟨rfl, _, rfl⟩, trivial⟩) ?_
 simp +decide only [Nat.reduceAdd, Nat.reduceMul, Int.reduceToNat, ak]
 refine hJ1 _ ?_
 refine seq_k fun J2 hJ2 => ?_
 obtain ⟨j3, h4, hn⟩ := of_bind h
 refine seq_j (fun st => st = ⟨[(0, .c (.ptr (.arg 0) [] 0)), (1, .c (.sc (.int .u64 a1))), (4, .c (.ptr (.tmp 4 0) [] 0)), (25, .c (.sc (.bool j3)))], [(.arg 0, ⟨.box, 0, [.sc (.int .u64 a0_0), .own 1 l0_1.length (encL c_u8 l0_1), .own 1 l0_2.length (encL c_bool l0_2), .sc (.int .u64 a0_3), .sc (.bool a0_4), .sc (.int .u64 a0_5)]⟩), (.tmp 4 0, ⟨.box, 0, [.sc (.int .i64 0), .sc (.int .i64 0), .own 1 (([] : List Int).length) (encL c_u8 ([] : List Int))]⟩)], [], []⟩) (fun J5 hJ5 => ?_) ?_
 ·replace h := h4; clear hn
  refine ga_k fun G6 G6n G6r G6x => ?_
  refine reg_k ?_
  simp +decide only [Nat.reduceAdd, Nat.reduceMul, Int.reduceToNat, ak]
  by_cases c7 : a0_4 = true
  ·rw [if_pos c7] at h
   have e8 : (a0_4) = true := c7
   simp +decide only [Nat.reduceAdd, Nat.reduceMul, Int.reduceToNat, ak, e8]
   by_cases c9 : a0_5 ≠ a1
   ·rw [if_pos c9] at h
    have e10 : decide (a0_5 ≠ a1) = true := decide_eq_true c9
    simp +decide only [Nat.reduceAdd, Nat.reduceMul, Int.reduceToNat, ak, e10]
    obtain rfl := Option.some.inj h
    refine G6n _ _ (wk [0, 1, 4, 25] [pI (.arg 0) .box, pI (.tmp 4 0) .box] (h0 := by first | rfl | simp +decide only [ak, akF, e8, e10]) (h := by first | rfl | (simp +decide only [ak, akF, e8, e10]; done) | (simp +decide [ak, akF, e8, e10] <;> omega))) (hJ5 _ rfl)
   ·rw [if_neg c9] at h
    have e11 : decide (a0_5 ≠ a1) = false := decide_eq_false c9
    simp +decide only [Nat.reduceAdd, Nat.reduceMul, Int.reduceToNat, ak, e11]
    obtain rfl := Option.some.inj h
    refine G6n _ _ (wk [0, 1, 4, 25] [pI (.arg 0) .box, pI (.tmp 4 0) .box] (h0 := by first | rfl | simp +decide only [ak, akF, e8, e11]) (h := by first | rfl | (simp +decide only [ak, akF, e8, e11]; done) | (simp +decide [ak, akF, e8, e11] <;> omega))) (hJ5 _ rfl)
  ·rw [if_neg c7] at h
   have e12 : (a0_4) = false := Bool.eq_false_iff.2 c7
   simp +decide only [Nat.reduceAdd, Nat.reduceMul, Int.reduceToNat, ak, e12]
   obtain rfl := Option.some.inj h
   refine G6n _ _ (wk [0, 1, 4, 25] [pI (.arg 0) .box, pI (.tmp 4 0) .box] (h0 := by first | rfl | simp +decide only [ak, akF, e12]) (h := by first | rfl | (simp +decide only [ak, akF, e12]; done) | (simp +decide [ak, akF, e12] <;> omega))) (hJ5 _ rfl)
 ·replace h := hn; clear hn h4
  rintro _ rfl
  refine cond_k (b := j3) rfl (fun c13 => ?_) (fun c13 => ?_)
  ·rw [if_pos c13] at h
   refine sr_k fun J14 hJ14 => ?_
   simp +decide only [Nat.reduceAdd, Nat.reduceMul, Int.reduceToNat, ak]
   refine gho_k (Weak.nmg' 26 2 (.tmp 26 22) 1 (encL c_u8 ([] : List Int)) rfl rfl rfl rfl) ?_
   have g15 : (encL c_u8 ([] : List Int)).length = 0 * 1 := by simp [encL_length c_u8_w]
   simp +decide only [Nat.reduceAdd, Nat.reduceMul, Int.reduceToNat, ak, g15]
   refine hJ14 _ ?_
   obtain rfl := Option.some.inj h
   refine hKr _ ⟨_, rfl, [⟨(.tmp 4 0), [2], none, .lst⟩], _, rfl, rfl, ?_⟩
   first | rfl | (simp only [reduceCtorEq, Nat.reduceEqDiff, ak, akF]; done) | (simp [reduceCtorEq, Nat.reduceEqDiff, ak, akF] <;> omega)
  ·rw [if_neg (Bool.eq_false_iff.1 c13)] at h
   refine hJ2 _ ?_
   refine seq_k fun J16 hJ16 => ?_
   refine sr_k fun J17 hJ17 => ?_
   simp +decide only [Nat.reduceAdd, Nat.reduceMul, Int.reduceToNat, ak]
   refine hJ17 _ ?_
   refine block_k fun B18 B18n B18x B18r B18j => ?_
   obtain ⟨y31, h32, h⟩ := of_bind h
   refine gh_k (wk [0, 1, 4, 5] [pI (.arg 0) .box, pI (.tmp 4 0) .box]) ?_
   rw [e_loop]
   refine impl_buffer_end.l0_walk a1 a0_0 l0_1 l0_2 a0_3 a0_4 a0_5 0 0 ([] : List Int) a1 _ h32 _ ?_ ?_
   ·rintro x33 rfl
    dsimp only at h
    refine B18x _ ?_
    refine hJ16 _ ?_
    refine seq_k fun J34 hJ34 => ?_
    refine sd_k fun J35 hJ35 => ?_
    simp +decide only [Nat.reduceAdd, Nat.reduceMul, Int.reduceToNat, ak]
    refine hJ35 _ ?_
    refine cond_k (b := decide (a1 > IntKind.u64.wrap (a0_3 + a0_0))) rfl (fun c36 => ?_) (fun c36 => ?_)
    ·replace c36 := of_decide_eq_true c36; rw [if_pos c36] at h
     refine sr_k fun J37 hJ37 => ?_
     simp +decide only [Nat.reduceAdd, Nat.reduceMul, Int.reduceToNat, ak]
     refine gho_k (Weak.nmg' 65 2 (.tmp 65 22) 1 (encL c_u8 ([] : List Int)) rfl rfl rfl rfl) ?_
     have g38 : (encL c_u8 ([] : List Int)).length = 0 * 1 := by simp [encL_length c_u8_w]
     simp +decide only [Nat.reduceAdd, Nat.reduceMul, Int.reduceToNat, ak, g38]
     refine hJ37 _ ?_
     obtain rfl := Option.some.inj h
     refine hKr _ ⟨_, rfl, [⟨(.tmp 4 0), [2], none, .lst⟩], _, rfl, rfl, ?_⟩
     first | rfl | (simp only [reduceCtorEq, Nat.reduceEqDiff, ak, akF]; done) | (simp [reduceCtorEq, Nat.reduceEqDiff, ak, akF] <;> omega)
    ·replace c36 := of_decide_eq_false c36; rw [if_neg c36] at h
     refine hJ34 _ ?_
     refine sr_k fun J39 hJ39 => ?_
     simp +decide only [Nat.reduceAdd, Nat.reduceMul, Int.reduceToNat, ak]
     refine hJ39 _ ?_
     refine sr_k fun J40 hJ40 => ?_
     simp +decide only [Nat.reduceAdd, Nat.reduceMul, Int.reduceToNat, ak]
     refine hJ40 _ ?_
     refine sr_k fun J41 hJ41 => ?_
     simp +decide only [Nat.reduceAdd, Nat.reduceMul, Int.reduceToNat, ak]
     refine gho_k (Weak.nmg' 73 2 (.tmp 73 22) 1 (encL c_u8 ([] : List Int)) rfl rfl rfl rfl) ?_
     have g42 : (encL c_u8 ([] : List Int)).length = 0 * 1 := by simp [encL_length c_u8_w]
     simp +decide only [Nat.reduceAdd, Nat.reduceMul, Int.reduceToNat, ak, g42]
     refine hJ41 _ ?_
     obtain rfl := Option.some.inj h
     refine hKr _ ⟨_, rfl, [⟨(.tmp 4 0), [2], none, .lst⟩], _, rfl, rfl, ?_⟩
     first | rfl | (simp only [reduceCtorEq, Nat.reduceEqDiff, ak, akF]; done) | (simp [reduceCtorEq, Nat.reduceEqDiff, ak, akF] <;> omega)
   ·rintro x33 rfl
    dsimp only at h
    refine B18r _ ?_
    obtain rfl := Option.some.inj h
    refine hKr _ ⟨_, rfl, [⟨(.tmp 4 0), [2], none, .lst⟩], _, rfl, rfl, ?_⟩
    first | rfl | (simp only [reduceCtorEq, Nat.reduceEqDiff, ak, akF]; done) | (simp [reduceCtorEq, Nat.reduceEqDiff, ak, akF] <;> omega)
/-! ### (*impl.buffer).next: function 142 -/
def C142_l0 : AC := .seq (.seq (.ga (.regD (.first (.op none (.mv 8 (.tmp 3))) (.first (.op none (.mv 9 (.tmp 0))) (.first (.op none (.nilc 10 (.tmp 9))) (.first (.op none (.faddr 11 3 (.tmp 10))) (.first (.op none (.load 12 false 1 (.tmp 11))) (.first (.op none (.mv 13 (.tmp 0))) (.first (.op none (.nilc 14 (.tmp 13))) (.first (.op none (.faddr 15 0 (.tmp 14))) (.first (.op none (.load 16 false 1 (.tmp 15))) (.first (.op none (.bin 17 .add (.tmp 12) (.tmp 16))) (.first (.op none (.bin 18 .lss (.tmp 8) (.tmp 17))) (.first (.op none (.mv 19 (.tmp 18))) (.first (.op (some (19, true)) (.mv 20 (.tmp 0))) (.first (.op (some (19, true)) (.nilc 21 (.tmp 20))) (.first (.op (some (19, true)) (.faddr 22 2 (.tmp 21))) (.first (.op (some (19, true)) (.load 23 false 1 (.tmp 22))) (.first (.op (some (19, true)) (.mv 24 (.tmp 3))) (.first (.op (some (19, true)) (.mv 25 (.tmp 0))) (.first (.op (some (19, true)) (.nilc 26 (.tmp 25))) (.first (.op (some (19, true)) (.faddr 27 0 (.tmp 26))) (.first (.op (some (19, true)) (.load 28 false 1 (.tmp 27))) (.first (.op (some (19, true)) (.bin 29 .rem (.tmp 24) (.tmp 28))) (.first (.op (some (19, true)) (.iaddr 30 1 (.tmp 23) (.tmp 29))) (.first (.op (some (19, true)) (.load 31 false 1 (.tmp 30))) (.first (.op none (.pick 32 (.tmp 19) (.tmp 31) (.const (.bool false)))) (.done)))))))))))))))))))))))))) [0, 3, 32])) (.cond (.tmp 32) (.skip) (.gh (.exit 0)))) (.block 1 (.reg [.op none (.mv 33 (.tmp 3)), .op none (.bin 34 .add (.tmp 33) (.const (.int .u64 1))), .op none (.mv 3 (.tmp 34)), .keep [0, 3]]))
def C142 : AC := .seq (.reg [.op none (.mv 2 (.const (.int .u64 0))), .keep [0]]) (.seq (.reg [.op none (.mv 4 (.tmp 0)), .op none (.nilc 5 (.tmp 4)), .op none (.faddr 6 3 (.tmp 5)), .op none (.load 7 false 1 (.tmp 6)), .op none (.mv 3 (.tmp 7)), .keep [0, 3]]) (.seq (.block 0 (.gh (.loop (.ga C142_l0)))) (.seq (.reg [.op none (.mv 35 (.tmp 3)), .op none (.mv 2 (.tmp 35)), .keep [2]]) (.ret))))
def r142 : List RV := [.tmp 2]
theorem k142 : compC Try.prog 36 C142 (Try.f142.body.getD .skip) = some C142.erase := by kernel_rfl
theorem q142 : rvsOf Try.prog Try.f142.results.toList = some r142 := by kernel_rfl
def impl_buffer_next.l0 (x0_1 : Int) (x0_2 : (List Int)) (x0_3 : (List Bool)) (x0_4 : Int) (x0_5 : Bool) (x0_6 : Int) (x0_0 : Int) : Option Int := ((if x0_0 < IntKind.u64.wrap (x0_4 + x0_1) then (if ¬ x0_1 = 0 then (if 0 ≤ x0_0.tmod x0_1 ∧ x0_0.tmod x0_1 < (x0_3.length : Int) then (some (rd false x0_3 (x0_0.tmod x0_1))) else none) else none) else (some false)) >>= fun (j6 : Bool) => (if j6 = true then (impl_buffer_next.l0 x0_1 x0_2 x0_3 x0_4 x0_5 x0_6 (IntKind.u64.wrap (x0_0 + 1))) else (some x0_0)))
 partial_fixpoint
def impl_buffer_next.f (a0_0 : Int) (l0_1 : List Int) (l0_2 : List Bool) (a0_3 : Int) (a0_4 : Bool) (a0_5 : Int) : Option Int := (impl_buffer_next.l0 a0_0 l0_1 l0_2 a0_3 a0_4 a0_5 a0_3 >>= fun (y18 : Int) => (some y18))
def impl_buffer_next.l0_M (x0_1 : Int) (x0_2 : (List Int)) (x0_3 : (List Bool)) (x0_4 : Int) (x0_5 : Bool) (x0_6 : Int) (x0_0 : Int) (y : Int) : Prop := ∀ (K : AE → St → Prop), (K (.exit 0) ⟨[(3, .c (.sc (.int .u64 y)))], [(.arg 0, ⟨.box, 0, [.sc (.int .u64 x0_1), .own 1 x0_2.length (encL c_u8 x0_2), .own 1 x0_3.length (encL c_bool x0_3), .sc (.int .u64 x0_4), .sc (.bool x0_5), .sc (.int .u64 x0_6)]⟩)], [], []⟩) → loopS Try.prog 36 (.ga C142_l0) K ⟨[(0, .c (.ptr (.arg 0) [] 0)), (3, .c (.sc (.int .u64 x0_0)))], [(.arg 0, ⟨.box, 0, [.sc (.int .u64 x0_1), .own 1 x0_2.length (encL c_u8 x0_2), .own 1 x0_3.length (encL c_bool x0_3), .sc (.int .u64 x0_4), .sc (.bool x0_5), .sc (.int .u64 x0_6)]⟩)], [], []⟩
theorem impl_buffer_next.l0_walk (x0_1 : Int) (x0_2 : (List Int)) (x0_3 : (List Bool)) (x0_4 : Int) (x0_5 : Bool) (x0_6 : Int) (x0_0 : Int) (y : Int) (h : impl_buffer_next.l0 x0_1 x0_2 x0_3 x0_4 x0_5 x0_6 x0_0 = some y) : impl_buffer_next.l0_M x0_1 x0_2 x0_3 x0_4 x0_5 x0_6 x0_0 y := by
 refine impl_buffer_next.l0.partial_correctness x0_1 x0_2 x0_3 x0_4 x0_5 x0_6 (motive := fun x0_0 y => impl_buffer_next.l0_M x0_1 x0_2 x0_3 x0_4 x0_5 x0_6 x0_0 y) ?_ x0_0 y h
 clear h
 unfold impl_buffer_next.l0_M
 intro rec ih x0_0 y h K hx0
 refine loop_unroll (ga_k fun G0 G0n G0r G0x => ?_)
 unfold C142_l0
 refine seq_k fun J5 hJ5 => ?_
 obtain ⟨j6, h7, hn⟩ := of_bind h
 refine seq_j (fun st => st = ⟨[(0, .c (.ptr (.arg 0) [] 0)), (3, .c (.sc (.int .u64 x0_0))), (32, .c (.sc (.bool j6)))], [(.arg 0, ⟨.box, 0, [.sc (.int .u64 x0_1), .own 1 x0_2.length (encL c_u8 x0_2), .own 1 x0_3.length (encL c_bool x0_3), .sc (.int .u64 x0_4), .sc (.bool x0_5), .sc (.int .u64 x0_6)]⟩)], [], []⟩) (fun J8 hJ8 => ?_) ?_
 ·replace h := h7; clear hn
  refine ga_k fun G9 G9n G9r G9x => ?_
  refine regD_k ?_
  simp +decide only [Nat.reduceAdd, Nat.reduceMul, Int.reduceToNat, ak]
  by_cases c10 : x0_0 < IntKind.u64.wrap (x0_4 + x0_1)
  ·rw [if_pos c10] at h
   have e11 : decide (x0_0 < IntKind.u64.wrap (x0_4 + x0_1)) = true := decide_eq_true c10
   obtain ⟨b12, h⟩ := of_guard h
   obtain ⟨b13, h⟩ := of_guard h
   have g14 : (encL c_bool x0_3)[0 + (x0_0.tmod x0_1).toNat * 1]? = some (.sc (.bool (rd false x0_3 (x0_0.tmod x0_1)))) := (Vw.whole c_bool_w x0_3).get false 0 b13.1 b13.2 (by decide)
   simp +decide only [Nat.reduceAdd, Nat.reduceMul, Int.reduceToNat, ak, e11, b12, b13, g14]
   obtain rfl := Option.some.inj h
   refine G9n _ _ (wk [0, 3, 32] [pI (.arg 0) .box] (h0 := by first | rfl | simp +decide only [ak, akF, b12, b13, e11]) (h := by first | rfl | (simp +decide only [ak, akF, b12, b13, e11]; done) | (simp +decide [ak, akF, b12, b13, e11] <;> omega))) (hJ8 _ rfl)
  ·rw [if_neg c10] at h
   have e15 : decide (x0_0 < IntKind.u64.wrap (x0_4 + x0_1)) = false := decide_eq_false c10
   simp +decide only [Nat.reduceAdd, Nat.reduceMul, Int.reduceToNat, ak, e15]
   obtain rfl := Option.some.inj h
   refine G9n _ _ (wk [0, 3, 32] [pI (.arg 0) .box] (h0 := by first | rfl | simp +decide only [ak, akF, e15]) (h := by first | rfl | (simp +decide only [ak, akF, e15]; done) | (simp +decide [ak, akF, e15] <;> omega))) (hJ8 _ rfl)
 ·replace h := hn; clear hn h7
  rintro _ rfl
  refine cond_k (b := j6) rfl (fun c16 => ?_) (fun c16 => ?_)
  ·rw [if_pos c16] at h
   refine hJ5 _ ?_
   refine block_k fun B17 B17n B17x B17r B17j => ?_
   refine reg_k ?_
   simp +decide only [Nat.reduceAdd, Nat.reduceMul, Int.reduceToNat, ak]
   refine B17n _ ?_
   refine G0n _ _ (wk [0, 3] [pI (.arg 0) .box]) (ih _ _ h K hx0)
  ·rw [if_neg (Bool.eq_false_iff.1 c16)] at h
   obtain rfl := Option.some.inj h
   refine gh_k (wk [3] [pI (.arg 0) .box]) ?_
   refine G0x _ _ ?_
   exact hx0
theorem impl_buffer_next.tri (a0_0 : Int) (l0_1 : List Int) (l0_2 : List Bool) (a0_3 : Int) (a0_4 : Bool) (a0_5 : Int) (r : Int) (h : impl_buffer_next.f a0_0 l0_1 l0_2 a0_3 a0_4 a0_5 = some r) : Tri Try.prog 142 [.c (.ptr (.arg 0) [] 0)] [(.arg 0, ⟨.box, 0, [.sc (.int .u64 a0_0), .own 1 l0_1.length (encL c_u8 l0_1), .own 1 l0_2.length (encL c_bool l0_2), .sc (.int .u64 a0_3), .sc (.bool a0_4), .sc (.int .u64 a0_5)]⟩)] (fun o => o = ⟨.c (.sc (.int .u64 r)), [(.arg 0, ⟨.box, 0, [.sc (.int .u64 a0_0), .own 1 l0_1.length (encL c_u8 l0_1), .own 1 l0_2.length (encL c_bool l0_2), .sc (.int .u64 a0_3), .sc (.bool a0_4), .sc (.int .u64 a0_5)]⟩)], [], []⟩) := by
 refine tri_of_body (ac := C142) (xs := r142) Try.func142 (show Try.f142.body = some (Try.f142.body.getD .skip) from rfl) k142 q142 (Nat.le_of_ble_eq_true rfl) ?_
 refine body_of fun K hKn hKr => ?_
 unfold impl_buffer_next.f at h
 unfold C142
 simp only [initT, Nat.reduceAdd]
 refine sr_k fun J1 hJ1 => ?_
 simp +decide only [Nat.reduceAdd, Nat.reduceMul, Int.reduceToNat, ak]
 refine hJ1 _ ?_
 refine sr_k fun J2 hJ2 => ?_
 simp +decide only [Nat.reduceAdd, Nat.reduceMul, Int.reduceToNat, ak]
 refine hJ2 _ ?_
 refine seq_k fun J3 hJ3 => ?_
 refine block_k fun B4 B4n B4x B4r B4j => ?_
 obtain ⟨y18, h19, h⟩ := of_bind h
 refine gh_k (wk [0, 3] [pI (.arg 0) .box]) ?_
 rw [e_loop]
 refine impl_buffer_next.l0_walk a0_0 l0_1 l0_2 a0_3 a0_4 a0_5 a0_3 _ h19 _ ?_
 refine B4x _ ?_
 refine hJ3 _ ?_
 refine sr_k fun J20 hJ20 => ?_
 simp +decide only [Nat.reduceAdd, Nat.reduceMul, Int.reduceToNat, ak]
 refine hJ20 _ ?_
 obtain rfl := Option.some.inj h
 refine hKr _ ⟨_, rfl, [], _, rfl, rfl, ?_⟩
 first | rfl | (simp only [reduceCtorEq, Nat.reduceEqDiff, ak, akF]; done) | (simp [reduceCtorEq, Nat.reduceEqDiff, ak, akF] <;> omega)
end Go.AK
