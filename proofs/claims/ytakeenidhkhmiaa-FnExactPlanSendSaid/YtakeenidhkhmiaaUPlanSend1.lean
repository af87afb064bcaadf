-- by a program of this session (wip/ak/pw.py)
import Derived.Test.YtakeenidhkhmiaaUPlanSend0
set_option synthInstance.maxSize 20000
set_option synthInstance.maxHeartbeats 400000
set_option maxRecDepth 100000
set_option maxHeartbeats 4000000
set_option linter.unusedVariables false
set_option linter.unusedSimpArgs false
namespace Go.AK
open Go Go.Proofs
/-! ### spec.l6Plan: function 87 -/
def C87_l0 : AC := .seq (.seq (.ga (.reg [.op none (.mv 10 (.tmp 5)), .op none (.faddr 11 4 (.tmp 1)), .op none (.load 12 false 1 (.tmp 11)), .op none (.len 13 (.tmp 12)), .op none (.bin 14 .lss (.tmp 10) (.tmp 13)), .op none (.mv 15 (.tmp 14)), .op (some (15, true)) (.faddr 16 0 (.tmp 3)), .op (some (15, true)) (.load 17 false 1 (.tmp 16)), .op (some (15, true)) (.bin 18 .eql (.tmp 17) (.const (.int .i64 0))), .op none (.pick 19 (.tmp 15) (.tmp 18) (.const (.bool false))), .keep [1, 2, 3, 4, 5, 19]])) (.cond (.tmp 19) (.skip) (.gh (.exit 0)))) (.seq (.ga (.block 1 (.seq (.reg [.op none (.faddr 22 4 (.tmp 1)), .op none (.load 23 false 1 (.tmp 22)), .op none (.mv 24 (.tmp 5)), .op none (.iaddr 25 5 (.tmp 23) (.tmp 24)), .op none (.load 26 true 5 (.tmp 25)), .op none (.alloc 6 [.int .u64 0, .int .i64 0, .int .i64 0, .int .i64 0, .int .i64 0]), .op none (.store 5 (.tmp 6) (.tmp 26)), .keep [1, 2, 3, 4, 5, 6]]) (.seq (.ga (.reg [.op none (.faddr 27 4 (.tmp 6)), .op none (.load 28 false 1 (.tmp 27)), .op none (.bin 29 .eql (.tmp 28) (.const (.int .i64 1))), .op none (.mv 30 (.tmp 29)), .op (some (30, true)) (.faddr 31 3 (.tmp 1)), .op (some (30, true)) (.load 32 false 1 (.tmp 31)), .op (some (30, true)) (.faddr 33 3 (.tmp 6)), .op (some (30, true)) (.load 34 false 1 (.tmp 33)), .call (some (30, true)) (some 35) 111 [.tmp 32, .tmp 34], .op (some (30, true)) (.len 36 (.tmp 35)), .op (some (30, true)) (.bin 37 .gtr (.tmp 36) (.const (.int .i64 0))), .op none (.pick 38 (.tmp 30) (.tmp 37) (.const (.bool false))), .keep [1, 2, 3, 4, 5, 6, 38]])) (.cond (.tmp 38) (.seq (.reg [.op none (.mv 39 (.tmp 5)), .op none (.faddr 40 0 (.tmp 6)), .op none (.load 41 false 1 (.tmp 40)), .op none (.faddr 42 1 (.tmp 6)), .op none (.load 43 false 1 (.tmp 42)), .op none (.build 44 [.int .i64 0, .int .i64 0, .int .u64 0, .int .i64 0, .slice none 0 0, .int .i64 0, .int .i64 0] [(0, 1, .const (.int .i64 1)), (1, 1, .tmp 39), (2, 1, .tmp 41), (3, 1, .tmp 43)]), .gh, .op none (.store 7 (.tmp 3) (.tmp 44)), .keep [1, 2, 3, 5, 6]]) (.reg [.op none (.faddr 45 3 (.tmp 6)), .op none (.load 46 false 1 (.tmp 45)), .op none (.mv 4 (.tmp 46)), .keep [1, 2, 3, 4, 5]])) (.skip)))))) (.reg [.op none (.mv 20 (.tmp 5)), .op none (.bin 21 .add (.tmp 20) (.const (.int .i64 1))), .op none (.mv 5 (.tmp 21)), .keep [1, 2, 3, 4, 5]]))
def C87 : AC := .seq (.reg [.op none (.box 1 (.tmp 0)), .op none (.alloc 2 [.int .i64 0, .int .i64 0, .int .u64 0, .int .i64 0, .slice none 0 0, .int .i64 0, .int .i64 0]), .gh, .keep [1, 2]]) (.seq (.reg [.op none (.build 9 [.int .i64 0, .int .i64 0, .int .u64 0, .int .i64 0, .slice none 0 0, .int .i64 0, .int .i64 0] []), .gh, .op none (.alloc 3 [.int .i64 0, .int .i64 0, .int .u64 0, .int .i64 0, .slice none 0 0, .int .i64 0, .int .i64 0]), .gh, .op none (.store 7 (.tmp 3) (.tmp 9)), .keep [1, 2, 3]]) (.seq (.reg [.op none (.mv 4 (.const (.int .i64 0))), .keep [1, 2, 3, 4]]) (.seq (.seq (.reg [.op none (.mv 5 (.const (.int .i64 0))), .keep [1, 2, 3, 4, 5]]) (.block 0 (.gh (.loop (.ga C87_l0))))) (.seq (.ga (.reg [.op none (.faddr 47 0 (.tmp 3)), .op none (.load 48 false 1 (.tmp 47)), .op none (.bin 49 .eql (.tmp 48) (.const (.int .i64 0))), .op none (.mv 50 (.tmp 49)), .op (some (50, true)) (.faddr 51 4 (.tmp 1)), .op (some (50, true)) (.load 52 false 1 (.tmp 51)), .op (some (50, true)) (.len 53 (.tmp 52)), .op (some (50, true)) (.faddr 54 5 (.tmp 1)), .op (some (50, true)) (.load 55 false 1 (.tmp 54)), .op (some (50, true)) (.bin 56 .lss (.tmp 53) (.tmp 55)), .op none (.pick 57 (.tmp 50) (.tmp 56) (.const (.bool false))), .op none (.mv 58 (.tmp 57)), .op (some (58, true)) (.faddr 59 3 (.tmp 1)), .op (some (58, true)) (.load 60 false 1 (.tmp 59)), .call (some (58, true)) (some 61) 111 [.tmp 60, .const (.int .i64 0)], .op (some (58, true)) (.len 62 (.tmp 61)), .op (some (58, true)) (.bin 63 .gtr (.tmp 62) (.const (.int .i64 0))), .op none (.pick 64 (.tmp 58) (.tmp 63) (.const (.bool false))), .op none (.mv 7 (.tmp 64)), .keep [1, 2, 3, 4, 7]])) (.seq (.ga (.seq (.ga (.reg [.op none (.mv 65 (.tmp 7)), .op none (.mv 66 (.tmp 65)), .op (some (66, true)) (.faddr 67 6 (.tmp 1)), .op (some (66, true)) (.load 68 false 1 (.tmp 67)), .op (some (66, true)) (.faddr 69 7 (.tmp 1)), .op (some (66, true)) (.load 70 false 1 (.tmp 69)), .op (some (66, true)) (.bin 71 .lss (.tmp 68) (.tmp 70)), .op none (.pick 72 (.tmp 66) (.tmp 71) (.const (.bool false))), .op none (.mv 73 (.tmp 72)), .op (some (73, true)) (.faddr 74 6 (.tmp 1)), .op (some (73, true)) (.load 75 false 1 (.tmp 74)), .op (some (73, true)) (.faddr 76 8 (.tmp 1)), .op (some (73, true)) (.load 77 false 1 (.tmp 76)), .op (some (73, true)) (.bin 78 .lss (.tmp 75) (.tmp 77)), .op none (.pick 79 (.tmp 73) (.tmp 78) (.const (.bool false))), .keep [1, 2, 3, 4, 7, 79]])) (.cond (.tmp 79) (.regD (.first (.op none (.faddr 80 6 (.tmp 1))) (.first (.op none (.faddr 82 11 (.tmp 1))) (.first (.op none (.load 83 false 1 (.tmp 82))) (.first (.op none (.conv 84 .u64 (.tmp 83))) (.first (.op none (.faddr 85 7 (.tmp 1))) (.first (.op none (.load 86 false 1 (.tmp 85))) (.first (.op none (.faddr 87 6 (.tmp 1))) (.first (.op none (.load 88 false 1 (.tmp 87))) (.first (.op none (.bin 89 .sub (.tmp 86) (.tmp 88))) (.first (.op none (.faddr 90 8 (.tmp 1))) (.first (.op none (.load 91 false 1 (.tmp 90))) (.first (.op none (.faddr 92 6 (.tmp 1))) (.first (.op none (.load 93 false 1 (.tmp 92))) (.first (.op none (.bin 94 .sub (.tmp 91) (.tmp 93))) (.pin [17, 16] (.op none (.load 81 false 1 (.tmp 80))) (.alt (.call none (some 95) 118 [.tmp 84, .tmp 89, .tmp 94]) none (.alt (.op none (.build 96 [.int .i64 0, .int .i64 0, .int .u64 0, .int .i64 0, .slice none 0 0, .int .i64 0, .int .i64 0] [(0, 1, .const (.int .i64 2)), (2, 1, .tmp 81), (3, 1, .tmp 95)])) (some 16) (.gh (.alt (.op none (.store 7 (.tmp 3) (.tmp 96))) none (.done) (.stop))) (.stop)) (.stop))))))))))))))))) [1, 2, 3, 4]) (.seq (.ga (.reg [.op none (.mv 97 (.tmp 7)), .op none (.mv 98 (.tmp 97)), .op (some (98, true)) (.faddr 99 9 (.tmp 1)), .op (some (98, true)) (.load 100 false 1 (.tmp 99)), .op (some (98, true)) (.bin 101 .eql (.tmp 100) (.const (.int .i64 1))), .op none (.pick 102 (.tmp 98) (.tmp 101) (.const (.bool false))), .op none (.mv 103 (.tmp 102)), .op (some (103, true)) (.faddr 104 10 (.tmp 1)), .op (some (103, true)) (.load 105 false 1 (.tmp 104)), .op (some (103, true)) (.bin 106 .eql (.tmp 105) (.const (.int .i64 0))), .op none (.pick 107 (.tmp 103) (.tmp 106) (.const (.bool false))), .op none (.mv 108 (.tmp 107)), .op (some (108, true)) (.faddr 109 6 (.tmp 1)), .op (some (108, true)) (.load 110 false 1 (.tmp 109)), .op (some (108, true)) (.faddr 111 7 (.tmp 1)), .op (some (108, true)) (.load 112 false 1 (.tmp 111)), .op (some (108, true)) (.bin 113 .eql (.tmp 110) (.tmp 112)), .op none (.pick 114 (.tmp 108) (.tmp 113) (.const (.bool false))), .keep [1, 2, 3, 4, 114]])) (.cond (.tmp 114) (.reg [.op none (.faddr 115 7 (.tmp 1)), .op none (.load 116 false 1 (.tmp 115)), .op none (.build 117 [.int .i64 0, .int .i64 0, .int .u64 0, .int .i64 0, .slice none 0 0, .int .i64 0, .int .i64 0] [(0, 1, .const (.int .i64 3)), (2, 1, .tmp 116)]), .gh, .op none (.store 7 (.tmp 3) (.tmp 117)), .keep [1, 2, 3, 4]]) (.skip)))))) (.seq (.reg [.op none (.faddr 118 1 (.tmp 1)), .op none (.load 119 false 1 (.tmp 118)), .op none (.faddr 120 5 (.tmp 3)), .op none (.store 1 (.tmp 120) (.tmp 119)), .keep [1, 2, 3, 4]]) (.seq (.seq (.reg [.op none (.faddr 121 0 (.tmp 3)), .op none (.load 122 false 1 (.tmp 121)), .op none (.bin 123 .eql (.tmp 122) (.const (.int .i64 0))), .keep [1, 2, 3, 4, 123]]) (.cond (.tmp 123) (.seq (.reg [.op none (.load 124 true 7 (.tmp 3)), .op none (.store 7 (.tmp 2) (.tmp 124)), .keep [2]]) (.ret)) (.skip))) (.seq (.reg [.op none (.mv 8 (.const (.int .i64 0))), .keep [1, 2, 3, 4, 8]]) (.seq (.ga (.seq (.reg [.op none (.faddr 125 2 (.tmp 1)), .op none (.load 126 false 1 (.tmp 125)), .op none (.len 127 (.tmp 126)), .op none (.bin 128 .gtr (.tmp 127) (.const (.int .i64 0))), .keep [1, 2, 3, 4, 8, 128]]) (.cond (.tmp 128) (.seq (.reg [.op none (.faddr 129 2 (.tmp 1)), .op none (.load 130 false 1 (.tmp 129)), .op none (.iaddr 131 1 (.tmp 130) (.const (.int .i64 0))), .op none (.load 132 false 1 (.tmp 131)), .op none (.mv 8 (.tmp 132)), .keep [1, 2, 3, 4, 8]]) (.seq (.reg [.op none (.faddr 133 0 (.tmp 1)), .op none (.load 134 false 1 (.tmp 133)), .op none (.bin 135 .eql (.tmp 134) (.const (.int .i64 4))), .keep [1, 2, 3, 4, 8, 135]]) (.cond (.tmp 135) (.reg [.op none (.faddr 136 6 (.tmp 3)), .op none (.store 1 (.tmp 136) (.const (.int .i64 1))), .keep [1, 2, 3, 4, 8]]) (.skip)))) (.skip)))) (.seq (.reg [.op none (.faddr 138 0 (.tmp 1)), .op none (.load 139 false 1 (.tmp 138)), .op none (.faddr 140 1 (.tmp 1)), .op none (.load 141 false 1 (.tmp 140)), .op none (.mv 142 (.tmp 8)), .op none (.faddr 143 3 (.tmp 1)), .op none (.load 144 false 1 (.tmp 143)), .op none (.mv 145 (.tmp 4)), .call none (some 146) 79 [.tmp 139, .tmp 141, .tmp 142, .tmp 144, .tmp 145], .op none (.mv 137 (.tmp 146)), .op none (.extr 147 (.tmp 137) 0), .op none (.extr 148 (.tmp 137) 1), .op none (.faddr 149 4 (.tmp 3)), .op none (.store 1 (.tmp 149) (.tmp 147)), .op none (.faddr 150 5 (.tmp 3)), .op none (.store 1 (.tmp 150) (.tmp 148)), .keep [2, 3]]) (.seq (.reg [.op none (.load 151 true 7 (.tmp 3)), .op none (.store 7 (.tmp 2) (.tmp 151)), .keep [2]]) (.ret))))))))))))
def r87 : List RV := [.cell 2 true 7]
theorem k87 : compC Try.prog 152 C87 (Try.f87.body.getD .skip) = some C87.erase := by kernel_rfl
theorem q87 : rvsOf Try.prog Try.f87.results.toList = some r87 := by kernel_rfl
def spec_l6Plan.l0 (l0_3 : List S86) (l0_4 : List S84) (x0_2 : Int) (x0_3 : Int) (x0_4 : Int) (x0_5 : Int) (x0_6 : Int) (x0_7 : Int) (x0_8 : Int) (x0_9 : Int) (x0_10 : Int) (x0_11 : Int) (x0_12 : Int) (x0_13 : Int) (x0_14 : Int) (x0_15 : (List Int)) (x0_16 : Int) (x0_17 : Int) (x0_0 : Int) (x0_1 : Int) (x0_18 : Int) (x0_19 : Int) (x0_20 : Int) (x0_21 : Int) (x0_22 : (List Int)) (x0_23 : Int) (x0_24 : Int) : Option (Int × Int × Int × Int × Int × (List Int) × Int × Int) := ((if x0_1 < (l0_4.length : Int) then (some (decide (x0_18 = 0))) else (some false)) >>= fun (j9 : Bool) => (if j9 = true then ((if 0 ≤ x0_1 ∧ x0_1 < (l0_4.length : Int) then ((if (rd z84 l0_4 x0_1).f4 = 1 then (spec_l6Eligible.f l0_3 ((rd z84 l0_4 x0_1).f3) >>= fun t31 => (some (decide ((t31.length : Int) > 0)))) else (some false)) >>= fun (j25 : Bool) => (if j25 = true then (some ((rd z84 l0_4 x0_1).f3, 1, x0_1, (rd z84 l0_4 x0_1).f0, (rd z84 l0_4 x0_1).f1, ([] : List Int), 0, 0)) else (some (x0_0, x0_18, x0_19, x0_20, x0_21, x0_22, x0_23, x0_24)))) else none) >>= fun (j17 : Int × Int × Int × Int × Int × (List Int) × Int × Int) => (spec_l6Plan.l0 l0_3 l0_4 x0_2 x0_3 x0_4 x0_5 x0_6 x0_7 x0_8 x0_9 x0_10 x0_11 x0_12 x0_13 x0_14 x0_15 x0_16 x0_17 j17.1 (IntKind.i64.wrap (x0_1 + 1)) j17.2.1 j17.2.2.1 j17.2.2.2.1 j17.2.2.2.2.1 j17.2.2.2.2.2.1 j17.2.2.2.2.2.2.1 j17.2.2.2.2.2.2.2)) else (some (x0_0, x0_18, x0_19, x0_20, x0_21, x0_22, x0_23, x0_24))))
 partial_fixpoint
def spec_l6Plan.f (a0_0 : Int) (a0_1 : Int) (l0_2 : List Int) (l0_3 : List S86) (l0_4 : List S84) (a0_5 : Int) (a0_6 : Int) (a0_7 : Int) (a0_8 : Int) (a0_9 : Int) (a0_10 : Int) (a0_11 : Int) : Option (Int × Int × Int × Int × (List Int) × Int × Int) := (spec_l6Plan.l0 l0_3 l0_4 a0_0 a0_1 a0_5 a0_6 a0_7 a0_8 a0_9 a0_10 a0_11 0 0 0 0 ([] : List Int) 0 0 0 0 0 0 0 0 ([] : List Int) 0 0 >>= fun (y38 : (Int × Int × Int × Int × Int × (List Int) × Int × Int)) => ((if y38.2.1 = 0 then (if (l0_4.length : Int) < a0_5 then (spec_l6Eligible.f l0_3 0 >>= fun t48 => (some (decide ((t48.length : Int) > 0)))) else (some false)) else (some false)) >>= fun (j40 : Bool) => (((if j40 = true then (if a0_6 < a0_7 then (some (true, decide (a0_6 < a0_8))) else (some (true, false))) else (some (false, false))) >>= fun (j57 : Bool × Bool) => (if j57.2 = true then (spec_l6Least.f (IntKind.u64.wrap a0_11) (IntKind.u64.wrap (a0_7 - a0_6)) (IntKind.u64.wrap (a0_8 - a0_6)) >>= fun t68 => (some (2, 0, a0_6, t68, ([] : List Int), 0, 0))) else ((if j57.1 = true then (if a0_9 = 1 then (if a0_10 = 0 then (some (decide (a0_6 = a0_7))) else (some false)) else (some false)) else (some false)) >>= fun (j72 : Bool) => (if j72 = true then (some (3, 0, a0_7, 0, ([] : List Int), 0, 0)) else (some (y38.2.1, y38.2.2.1, y38.2.2.2.1, y38.2.2.2.2.1, y38.2.2.2.2.2.1, y38.2.2.2.2.2.2.1, y38.2.2.2.2.2.2.2)))))) >>= fun (j53 : Int × Int × Int × Int × (List Int) × Int × Int) => (if j53.1 = 0 then (some (j53.1, j53.2.1, j53.2.2.1, j53.2.2.2.1, j53.2.2.2.2.1, a0_1, j53.2.2.2.2.2.2)) else ((if (l0_2.length : Int) > 0 then (if (0 : Int) ≤ 0 ∧ 0 < (l0_2.length : Int) then (if a0_0 = 4 then (some ((rd 0 l0_2 0), 1)) else (some ((rd 0 l0_2 0), j53.2.2.2.2.2.2))) else none) else (some (0, j53.2.2.2.2.2.2))) >>= fun (j92 : Int × Int) => (spec_l6Pick.f a0_0 a0_1 j92.1 l0_3 y38.1 >>= fun t104 => (some (j53.1, j53.2.1, j53.2.2.1, j53.2.2.2.1, t104.1, t104.2, j92.2))))))))
def spec_l6Plan.l0_M (cs0 : List Cell) (o0 : Nat) (l0_2 : List Int) (hv0 : Vw c_i64 1 cs0 o0 l0_2) (cs1 : List Cell) (o1 : Nat) (l0_3 : List S86) (hv1 : Vw c86 3 cs1 o1 l0_3) (cs2 : List Cell) (o2 : Nat) (l0_4 : List S84) (hv2 : Vw c84 5 cs2 o2 l0_4) (x0_2 : Int) (x0_3 : Int) (x0_4 : Int) (x0_5 : Int) (x0_6 : Int) (x0_7 : Int) (x0_8 : Int) (x0_9 : Int) (x0_10 : Int) (x0_11 : Int) (x0_12 : Int) (x0_13 : Int) (x0_14 : Int) (x0_15 : (List Int)) (x0_16 : Int) (x0_17 : Int) (x0_0 : Int) (x0_1 : Int) (x0_18 : Int) (x0_19 : Int) (x0_20 : Int) (x0_21 : Int) (x0_22 : (List Int)) (x0_23 : Int) (x0_24 : Int) (y : (Int × Int × Int × Int × Int × (List Int) × Int × Int)) : Prop := ∀ (K : AE → St → Prop), (K (.exit 0) ⟨[(1, .c (.ptr (.tmp 1 0) [] 0)), (2, .c (.ptr (.tmp 2 0) [] 0)), (3, .c (.ptr (.tmp 3 0) [] 0)), (4, .c (.sc (.int .i64 y.1)))], [(.arg 0, ⟨.fz, 1, cs0⟩), (.arg 1, ⟨.fz, 3, cs1⟩), (.arg 2, ⟨.fz, 5, cs2⟩), (.tmp 1 0, ⟨.box, 0, [.sc (.int .i64 x0_2), .sc (.int .i64 x0_3), .ref (.arg 0) [] o0 l0_2.length, .ref (.arg 1) [] o1 l0_3.length, .ref (.arg 2) [] o2 l0_4.length, .sc (.int .i64 x0_4), .sc (.int .u64 x0_5), .sc (.int .u64 x0_6), .sc (.int .u64 x0_7), .sc (.int .i64 x0_8), .sc (.int .i64 x0_9), .sc (.int .i64 x0_10)]⟩), (.tmp 2 0, ⟨.box, 0, [.sc (.int .i64 x0_11), .sc (.int .i64 x0_12), .sc (.int .u64 x0_13), .sc (.int .i64 x0_14), .own 1 x0_15.length (encL c_i64 x0_15), .sc (.int .i64 x0_16), .sc (.int .i64 x0_17)]⟩), (.tmp 3 0, ⟨.box, 0, [.sc (.int .i64 y.2.1), .sc (.int .i64 y.2.2.1), .sc (.int .u64 y.2.2.2.1), .sc (.int .i64 y.2.2.2.2.1), .own 1 y.2.2.2.2.2.1.length (encL c_i64 y.2.2.2.2.2.1), .sc (.int .i64 y.2.2.2.2.2.2.1), .sc (.int .i64 y.2.2.2.2.2.2.2)]⟩)], [], []⟩) → loopS Try.prog 152 (.ga C87_l0) K ⟨[(1, .c (.ptr (.tmp 1 0) [] 0)), (2, .c (.ptr (.tmp 2 0) [] 0)), (3, .c (.ptr (.tmp 3 0) [] 0)), (4, .c (.sc (.int .i64 x0_0))), (5, .c (.sc (.int .i64 x0_1)))], [(.arg 0, ⟨.fz, 1, cs0⟩), (.arg 1, ⟨.fz, 3, cs1⟩), (.arg 2, ⟨.fz, 5, cs2⟩), (.tmp 1 0, ⟨.box, 0, [.sc (.int .i64 x0_2), .sc (.int .i64 x0_3), .ref (.arg 0) [] o0 l0_2.length, .ref (.arg 1) [] o1 l0_3.length, .ref (.arg 2) [] o2 l0_4.length, .sc (.int .i64 x0_4), .sc (.int .u64 x0_5), .sc (.int .u64 x0_6), .sc (.int .u64 x0_7), .sc (.int .i64 x0_8), .sc (.int .i64 x0_9), .sc (.int .i64 x0_10)]⟩), (.tmp 2 0, ⟨.box, 0, [.sc (.int .i64 x0_11), .sc (.int .i64 x0_12), .sc (.int .u64 x0_13), .sc (.int .i64 x0_14), .own 1 x0_15.length (encL c_i64 x0_15), .sc (.int .i64 x0_16), .sc (.int .i64 x0_17)]⟩), (.tmp 3 0, ⟨.box, 0, [.sc (.int .i64 x0_18), .sc (.int .i64 x0_19), .sc (.int .u64 x0_20), .sc (.int .i64 x0_21), .own 1 x0_22.length (encL c_i64 x0_22), .sc (.int .i64 x0_23), .sc (.int .i64 x0_24)]⟩)], [], []⟩
theorem spec_l6Plan.l0_walk (cs0 : List Cell) (o0 : Nat) (l0_2 : List Int) (hv0 : Vw c_i64 1 cs0 o0 l0_2) (cs1 : List Cell) (o1 : Nat) (l0_3 : List S86) (hv1 : Vw c86 3 cs1 o1 l0_3) (cs2 : List Cell) (o2 : Nat) (l0_4 : List S84) (hv2 : Vw c84 5 cs2 o2 l0_4) (x0_2 : Int) (x0_3 : Int) (x0_4 : Int) (x0_5 : Int) (x0_6 : Int) (x0_7 : Int) (x0_8 : Int) (x0_9 : Int) (x0_10 : Int) (x0_11 : Int) (x0_12 : Int) (x0_13 : Int) (x0_14 : Int) (x0_15 : (List Int)) (x0_16 : Int) (x0_17 : Int) (x0_0 : Int) (x0_1 : Int) (x0_18 : Int) (x0_19 : Int) (x0_20 : Int) (x0_21 : Int) (x0_22 : (List Int)) (x0_23 : Int) (x0_24 : Int) (y : (Int × Int × Int × Int × Int × (List Int) × Int × Int)) (h : spec_l6Plan.l0 l0_3 l0_4 x0_2 x0_3 x0_4 x0_5 x0_6 x0_7 x0_8 x0_9 x0_10 x0_11 x0_12 x0_13 x0_14 x0_15 x0_16 x0_17 x0_0 x0_1 x0_18 x0_19 x0_20 x0_21 x0_22 x0_23 x0_24 = some y) : spec_l6Plan.l0_M cs0 o0 l0_2 hv0 cs1 o1 l0_3 hv1 cs2 o2 l0_4 hv2 x0_2 x0_3 x0_4 x0_5 x0_6 x0_7 x0_8 x0_9 x0_10 x0_11 x0_12 x0_13 x0_14 x0_15 x0_16 x0_17 x0_0 x0_1 x0_18 x0_19 x0_20 x0_21 x0_22 x0_23 x0_24 y := by
 refine spec_l6Plan.l0.partial_correctness l0_3 l0_4 x0_2 x0_3 x0_4 x0_5 x0_6 x0_7 x0_8 x0_9 x0_10 x0_11 x0_12 x0_13 x0_14 x0_15 x0_16 x0_17 (motive := fun x0_0 x0_1 x0_18 x0_19 x0_20 x0_21 x0_22 x0_23 x0_24 y => spec_l6Plan.l0_M cs0 o0 l0_2 hv0 cs1 o1 l0_3 hv1 cs2 o2 l0_4 hv2 x0_2 x0_3 x0_4 x0_5 x0_6 x0_7 x0_8 x0_9 x0_10 x0_11 x0_12 x0_13 x0_14 x0_15 x0_16 x0_17 x0_0 x0_1 x0_18 x0_19 x0_20 x0_21 x0_22 x0_23 x0_24 y) ?_ x0_0 x0_1 x0_18 x0_19 x0_20 x0_21 x0_22 x0_23 x0_24 y h
 clear h
 unfold spec_l6Plan.l0_M
 intro rec ih x0_0 x0_1 x0_18 x0_19 x0_20 x0_21 x0_22 x0_23 x0_24 y h K hx0
 refine loop_unroll (ga_k fun G0 G0n G0r G0x => ?_)
 unfold C87_l0
 refine seq_k fun J8 hJ8 => ?_
 obtain ⟨j9, h10, hn⟩ := of_bind h
 refine seq_j (fun st => st = ⟨[(1, .c (.ptr (.tmp 1 0) [] 0)), (2, .c (.ptr (.tmp 2 0) [] 0)), (3, .c (.ptr (.tmp 3 0) [] 0)), (4, .c (.sc (.int .i64 x0_0))), (5, .c (.sc (.int .i64 x0_1))), (19, .c (.sc (.bool j9)))], [(.arg 0, ⟨.fz, 1, cs0⟩), (.arg 1, ⟨.fz, 3, cs1⟩), (.arg 2, ⟨.fz, 5, cs2⟩), (.tmp 1 0, ⟨.box, 0, [.sc (.int .i64 x0_2), .sc (.int .i64 x0_3), .ref (.arg 0) [] o0 l0_2.length, .ref (.arg 1) [] o1 l0_3.length, .ref (.arg 2) [] o2 l0_4.length, .sc (.int .i64 x0_4), .sc (.int .u64 x0_5), .sc (.int .u64 x0_6), .sc (.int .u64 x0_7), .sc (.int .i64 x0_8), .sc (.int .i64 x0_9), .sc (.int .i64 x0_10)]⟩), (.tmp 2 0, ⟨.box, 0, [.sc (.int .i64 x0_11), .sc (.int .i64 x0_12), .sc (.int .u64 x0_13), .sc (.int .i64 x0_14), .own 1 x0_15.length (encL c_i64 x0_15), .sc (.int .i64 x0_16), .sc (.int .i64 x0_17)]⟩), (.tmp 3 0, ⟨.box, 0, [.sc (.int .i64 x0_18), .sc (.int .i64 x0_19), .sc (.int .u64 x0_20), .sc (.int .i64 x0_21), .own 1 x0_22.length (encL c_i64 x0_22), .sc (.int .i64 x0_23), .sc (.int .i64 x0_24)]⟩)], [], []⟩) (fun J11 hJ11 => ?_) ?_
 ·replace h := h10; clear hn
  refine ga_k fun G12 G12n G12r G12x => ?_
  refine reg_k ?_
  simp +decide only [Nat.reduceAdd, Nat.reduceMul, Int.reduceToNat, ak]
  by_cases c13 : x0_1 < (l0_4.length : Int)
  ·rw [if_pos c13] at h
   have e14 : decide (x0_1 < (l0_4.length : Int)) = true := decide_eq_true c13
   simp +decide only [Nat.reduceAdd, Nat.reduceMul, Int.reduceToNat, ak, e14]
   obtain rfl := Option.some.inj h
   refine G12n _ _ (wk [1, 2, 3, 4, 5, 19] [pI (.arg 0) .fz, pI (.arg 1) .fz, pI (.arg 2) .fz, pI (.tmp 1 0) .box, pI (.tmp 2 0) .box, pI (.tmp 3 0) .box] (h0 := by first | rfl | simp +decide only [ak, akF, e14]) (h := by first | rfl | (simp +decide only [ak, akF, e14]; done) | (simp +decide [ak, akF, e14] <;> omega))) (hJ11 _ rfl)
  ·rw [if_neg c13] at h
   have e15 : decide (x0_1 < (l0_4.length : Int)) = false := decide_eq_false c13
   simp +decide only [Nat.reduceAdd, Nat.reduceMul, Int.reduceToNat, ak, e15]
   obtain rfl := Option.some.inj h
   refine G12n _ _ (wk [1, 2, 3, 4, 5, 19] [pI (.arg 0) .fz, pI (.arg 1) .fz, pI (.arg 2) .fz, pI (.tmp 1 0) .box, pI (.tmp 2 0) .box, pI (.tmp 3 0) .box] (h0 := by first | rfl | simp +decide only [ak, akF, e15]) (h := by first | rfl | (simp +decide only [ak, akF, e15]; done) | (simp +decide [ak, akF, e15] <;> omega))) (hJ11 _ rfl)
 ·replace h := hn; clear hn h10
  rintro _ rfl
  refine cond_k (b := j9) rfl (fun c16 => ?_) (fun c16 => ?_)
  ·rw [if_pos c16] at h
   refine hJ8 _ ?_
   obtain ⟨j17, h18, hn⟩ := of_bind h
   refine seq_j (fun st => st = ⟨[(1, .c (.ptr (.tmp 1 0) [] 0)), (2, .c (.ptr (.tmp 2 0) [] 0)), (3, .c (.ptr (.tmp 3 0) [] 0)), (4, .c (.sc (.int .i64 j17.1))), (5, .c (.sc (.int .i64 x0_1)))], [(.arg 0, ⟨.fz, 1, cs0⟩), (.arg 1, ⟨.fz, 3, cs1⟩), (.arg 2, ⟨.fz, 5, cs2⟩), (.tmp 1 0, ⟨.box, 0, [.sc (.int .i64 x0_2), .sc (.int .i64 x0_3), .ref (.arg 0) [] o0 l0_2.length, .ref (.arg 1) [] o1 l0_3.length, .ref (.arg 2) [] o2 l0_4.length, .sc (.int .i64 x0_4), .sc (.int .u64 x0_5), .sc (.int .u64 x0_6), .sc (.int .u64 x0_7), .sc (.int .i64 x0_8), .sc (.int .i64 x0_9), .sc (.int .i64 x0_10)]⟩), (.tmp 2 0, ⟨.box, 0, [.sc (.int .i64 x0_11), .sc (.int .i64 x0_12), .sc (.int .u64 x0_13), .sc (.int .i64 x0_14), .own 1 x0_15.length (encL c_i64 x0_15), .sc (.int .i64 x0_16), .sc (.int .i64 x0_17)]⟩), (.tmp 3 0, ⟨.box, 0, [.sc (.int .i64 j17.2.1), .sc (.int .i64 j17.2.2.1), .sc (.int .u64 j17.2.2.2.1), .sc (.int .i64 j17.2.2.2.2.1), .own 1 j17.2.2.2.2.2.1.length (encL c_i64 j17.2.2.2.2.2.1), .sc (.int .i64 j17.2.2.2.2.2.2.1), .sc (.int .i64 j17.2.2.2.2.2.2.2)]⟩)], [], []⟩) (fun J19 hJ19 => ?_) ?_
   ·replace h := h18; clear hn
    refine ga_k fun G20 G20n G20r G20x => ?_
    refine block_k fun B21 B21n B21x B21r B21j => ?_
    refine sr_k fun J22 hJ22 => ?_
    obtain ⟨b23, h⟩ := of_guard h
    have g24 : (List.drop (o2 + x0_1.toNat * 5) (cs2)).take 5 = [.sc (.int .u64 ((rd z84 l0_4 x0_1).f0)), .sc (.int .i64 ((rd z84 l0_4 x0_1).f1)), .sc (.int .i64 ((rd z84 l0_4 x0_1).f2)), .sc (.int .i64 ((rd z84 l0_4 x0_1).f3)), .sc (.int .i64 ((rd z84 l0_4 x0_1).f4))] := hv2.stretch z84 b23.1 b23.2
    simp +decide only [Nat.reduceAdd, Nat.reduceMul, Int.reduceToNat, ak, b23, g24]
    refine hJ22 _ ?_
    obtain ⟨j25, h26, hn⟩ := of_bind h
    refine seq_j (fun st => st = ⟨[(1, .c (.ptr (.tmp 1 0) [] 0)), (2, .c (.ptr (.tmp 2 0) [] 0)), (3, .c (.ptr (.tmp 3 0) [] 0)), (4, .c (.sc (.int .i64 x0_0))), (5, .c (.sc (.int .i64 x0_1))), (6, .c (.ptr (.tmp 6 0) [] 0)), (38, .c (.sc (.bool j25)))], [(.arg 0, ⟨.fz, 1, cs0⟩), (.arg 1, ⟨.fz, 3, cs1⟩), (.arg 2, ⟨.fz, 5, cs2⟩), (.tmp 1 0, ⟨.box, 0, [.sc (.int .i64 x0_2), .sc (.int .i64 x0_3), .ref (.arg 0) [] o0 l0_2.length, .ref (.arg 1) [] o1 l0_3.length, .ref (.arg 2) [] o2 l0_4.length, .sc (.int .i64 x0_4), .sc (.int .u64 x0_5), .sc (.int .u64 x0_6), .sc (.int .u64 x0_7), .sc (.int .i64 x0_8), .sc (.int .i64 x0_9), .sc (.int .i64 x0_10)]⟩), (.tmp 2 0, ⟨.box, 0, [.sc (.int .i64 x0_11), .sc (.int .i64 x0_12), .sc (.int .u64 x0_13), .sc (.int .i64 x0_14), .own 1 x0_15.length (encL c_i64 x0_15), .sc (.int .i64 x0_16), .sc (.int .i64 x0_17)]⟩), (.tmp 3 0, ⟨.box, 0, [.sc (.int .i64 x0_18), .sc (.int .i64 x0_19), .sc (.int .u64 x0_20), .sc (.int .i64 x0_21), .own 1 x0_22.length (encL c_i64 x0_22), .sc (.int .i64 x0_23), .sc (.int .i64 x0_24)]⟩), (.tmp 6 0, ⟨.box, 0, [.sc (.int .u64 ((rd z84 l0_4 x0_1).f0)), .sc (.int .i64 ((rd z84 l0_4 x0_1).f1)), .sc (.int .i64 ((rd z84 l0_4 x0_1).f2)), .sc (.int .i64 ((rd z84 l0_4 x0_1).f3)), .sc (.int .i64 ((rd z84 l0_4 x0_1).f4))]⟩)], [], []⟩) (fun J27 hJ27 => ?_) ?_
    ·replace h := h26; clear hn
     refine ga_k fun G28 G28n G28r G28x => ?_
     refine reg_k ?_
     simp +decide only [Nat.reduceAdd, Nat.reduceMul, Int.reduceToNat, ak]
     by_cases c29 : (rd z84 l0_4 x0_1).f4 = 1
     ·rw [if_pos c29] at h
      have e30 : decide ((rd z84 l0_4 x0_1).f4 = 1) = true := decide_eq_true c29
      simp +decide only [Nat.reduceAdd, Nat.reduceMul, Int.reduceToNat, ak, e30]
      obtain ⟨t31, h32, h⟩ := of_bind h
      refine call_m [(.arg 0, ⟨(.arg 1), [], none, .fz⟩)] (s0 := [(.arg 0, ⟨.fz, 3, cs1⟩)]) (by intro t ht; cases ht; decide) rfl rfl (by first | rfl | simp only [reduceCtorEq, Nat.reduceEqDiff, ak, akF, b23, e30, g24]) (spec_l6Eligible.tri (cs1) o1 l0_3 hv1 ((rd z84 l0_4 x0_1).f3) _ h32) (by first | rfl | simp only [reduceCtorEq, Nat.reduceEqDiff, ak, akF]) (by simp [bkOk2, memK]) (fun hl32 => ?_)
      refine call_st (s4 := [(.arg 0, ⟨.fz, 1, cs0⟩), (.arg 1, ⟨.fz, 3, cs1⟩), (.arg 2, ⟨.fz, 5, cs2⟩), (.tmp 1 0, ⟨.box, 0, [.sc (.int .i64 x0_2), .sc (.int .i64 x0_3), .ref (.arg 0) [] o0 l0_2.length, .ref (.arg 1) [] o1 l0_3.length, .ref (.arg 2) [] o2 l0_4.length, .sc (.int .i64 x0_4), .sc (.int .u64 x0_5), .sc (.int .u64 x0_6), .sc (.int .u64 x0_7), .sc (.int .i64 x0_8), .sc (.int .i64 x0_9), .sc (.int .i64 x0_10)]⟩), (.tmp 2 0, ⟨.box, 0, [.sc (.int .i64 x0_11), .sc (.int .i64 x0_12), .sc (.int .u64 x0_13), .sc (.int .i64 x0_14), .own 1 x0_15.length (encL c_i64 x0_15), .sc (.int .i64 x0_16), .sc (.int .i64 x0_17)]⟩), (.tmp 3 0, ⟨.box, 0, [.sc (.int .i64 x0_18), .sc (.int .i64 x0_19), .sc (.int .u64 x0_20), .sc (.int .i64 x0_21), .own 1 x0_22.length (encL c_i64 x0_22), .sc (.int .i64 x0_23), .sc (.int .i64 x0_24)]⟩), (.tmp 6 0, ⟨.box, 0, [.sc (.int .u64 ((rd z84 l0_4 x0_1).f0)), .sc (.int .i64 ((rd z84 l0_4 x0_1).f1)), .sc (.int .i64 ((rd z84 l0_4 x0_1).f2)), .sc (.int .i64 ((rd z84 l0_4 x0_1).f3)), .sc (.int .i64 ((rd z84 l0_4 x0_1).f4))]⟩), (.tmp 35 0, ⟨.lst, 1, encL c_i64 t31⟩)]) (m1' := []) (m2' := []) (v' := .c (.ref (.tmp 35 0) [] 0 t31.length)) (Sto.mapN_killNil _ _) (mrgL_fz (mrgL_nil' _ _ _) rfl (by first | rfl | simp only [reduceCtorEq, Nat.reduceEqDiff, ak, b23, e30, g24]) rfl (by intro R hR hh; cases hR; cases hh.2)) (by rfl) (mapT_killNil _ _) (by rfl) (by rfl) (by first | rfl | simp only [reduceCtorEq, Nat.reduceEqDiff, ak, akF, Nat.zero_add, List.append_nil, b23, e30]) ?_
      simp +decide only [Nat.reduceAdd, Nat.reduceMul, Int.reduceToNat, ak]
      obtain rfl := Option.some.inj h
      refine G28n _ _ (wk [1, 2, 3, 4, 5, 6, 38] [pI (.arg 0) .fz, pI (.arg 1) .fz, pI (.arg 2) .fz, pI (.tmp 1 0) .box, pI (.tmp 2 0) .box, pI (.tmp 3 0) .box, pI (.tmp 6 0) .box] (h0 := by first | rfl | simp +decide only [ak, akF, b23, e30]) (h := by first | rfl | (simp +decide only [ak, akF, b23, e30]; done) | (simp +decide [ak, akF, b23, e30] <;> omega))) (hJ27 _ rfl)
     ·rw [if_neg c29] at h
      have e34 : decide ((rd z84 l0_4 x0_1).f4 = 1) = false := decide_eq_false c29
      simp +decide only [Nat.reduceAdd, Nat.reduceMul, Int.reduceToNat, ak, e34]
      obtain rfl := Option.some.inj h
      refine G28n _ _ (wk [1, 2, 3, 4, 5, 6, 38] [pI (.arg 0) .fz, pI (.arg 1) .fz, pI (.arg 2) .fz, pI (.tmp 1 0) .box, pI (.tmp 2 0) .box, pI (.tmp 3 0) .box, pI (.tmp 6 0) .box] (h0 := by first | rfl | simp +decide only [ak, akF, b23, e34]) (h := by first | rfl | (simp +decide only [ak, akF, b23, e34]; done) | (simp +decide [ak, akF, b23, e34] <;> omega))) (hJ27 _ rfl)
    ·replace h := hn; clear hn h26
     rintro _ rfl
     refine cond_k (b := j25) rfl (fun c35 => ?_) (fun c35 => ?_)
     ·rw [if_pos c35] at h
      refine sr_k fun J36 hJ36 => ?_
      simp +decide only [Nat.reduceAdd, Nat.reduceMul, Int.reduceToNat, ak]
      refine gho_k (Weak.nmg' 44 4 (.tmp 44 24) 1 (encL c_i64 ([] : List Int)) rfl rfl rfl rfl) ?_
      have g37 : (encL c_i64 ([] : List Int)).length = 0 * 1 := by simp [encL_length c_i64_w]
      simp +decide only [Nat.reduceAdd, Nat.reduceMul, Int.reduceToNat, ak, g37]
      refine hJ36 _ ?_
      refine reg_k ?_
      simp +decide only [Nat.reduceAdd, Nat.reduceMul, Int.reduceToNat, ak]
      refine B21n _ ?_
      obtain rfl := Option.some.inj h
      refine G20n _ _ (wk [1, 2, 3, 4, 5] [pI (.arg 0) .fz, pI (.arg 1) .fz, pI (.arg 2) .fz, pI (.tmp 1 0) .box, pI (.tmp 2 0) .box, pI (.tmp 3 0) .box] (h0 := by first | rfl | simp +decide only [ak, akF, b23]) (h := by first | rfl | (simp +decide only [ak, akF, b23]; done) | (simp +decide [ak, akF, b23] <;> omega))) (hJ19 _ rfl)
     ·rw [if_neg (Bool.eq_false_iff.1 c35)] at h
      refine B21n _ ?_
      obtain rfl := Option.some.inj h
      refine G20n _ _ (wk [1, 2, 3, 4, 5] [pI (.arg 0) .fz, pI (.arg 1) .fz, pI (.arg 2) .fz, pI (.tmp 1 0) .box, pI (.tmp 2 0) .box, pI (.tmp 3 0) .box]) (hJ19 _ rfl)
   ·replace h := hn; clear hn h18
    rintro _ rfl
    refine reg_k ?_
    simp +decide only [Nat.reduceAdd, Nat.reduceMul, Int.reduceToNat, ak]
    refine G0n _ _ (wk [1, 2, 3, 4, 5] [pI (.arg 0) .fz, pI (.arg 1) .fz, pI (.arg 2) .fz, pI (.tmp 1 0) .box, pI (.tmp 2 0) .box, pI (.tmp 3 0) .box]) (ih _ _ _ _ _ _ _ _ _ _ h K hx0)
  ·rw [if_neg (Bool.eq_false_iff.1 c16)] at h
   obtain rfl := Option.some.inj h
   refine gh_k (wk [1, 2, 3, 4] [pI (.arg 0) .fz, pI (.arg 1) .fz, pI (.arg 2) .fz, pI (.tmp 1 0) .box, pI (.tmp 2 0) .box, pI (.tmp 3 0) .box]) ?_
   refine G0x _ _ ?_
   exact hx0
theorem spec_l6Plan.tri (cs0 : List Cell) (o0 : Nat) (l0_2 : List Int) (hv0 : Vw c_i64 1 cs0 o0 l0_2) (cs1 : List Cell) (o1 : Nat) (l0_3 : List S86) (hv1 : Vw c86 3 cs1 o1 l0_3) (cs2 : List Cell) (o2 : Nat) (l0_4 : List S84) (hv2 : Vw c84 5 cs2 o2 l0_4) (a0_0 : Int) (a0_1 : Int) (a0_5 : Int) (a0_6 : Int) (a0_7 : Int) (a0_8 : Int) (a0_9 : Int) (a0_10 : Int) (a0_11 : Int) (r : Int × Int × Int × Int × (List Int) × Int × Int) (h : spec_l6Plan.f a0_0 a0_1 l0_2 l0_3 l0_4 a0_5 a0_6 a0_7 a0_8 a0_9 a0_10 a0_11 = some r) : Tri Try.prog 87 [.g [.sc (.int .i64 a0_0), .sc (.int .i64 a0_1), .ref (.arg 0) [] o0 l0_2.length, .ref (.arg 1) [] o1 l0_3.length, .ref (.arg 2) [] o2 l0_4.length, .sc (.int .i64 a0_5), .sc (.int .u64 a0_6), .sc (.int .u64 a0_7), .sc (.int .u64 a0_8), .sc (.int .i64 a0_9), .sc (.int .i64 a0_10), .sc (.int .i64 a0_11)]] [(.arg 0, ⟨.fz, 1, cs0⟩), (.arg 1, ⟨.fz, 3, cs1⟩), (.arg 2, ⟨.fz, 5, cs2⟩)] (fun o => o = ⟨.g [.sc (.int .i64 r.1), .sc (.int .i64 r.2.1), .sc (.int .u64 r.2.2.1), .sc (.int .i64 r.2.2.2.1), .ref (.res 0) [] 0 r.2.2.2.2.1.length, .sc (.int .i64 r.2.2.2.2.2.1), .sc (.int .i64 r.2.2.2.2.2.2)], [(.arg 0, ⟨.fz, 1, cs0⟩), (.arg 1, ⟨.fz, 3, cs1⟩), (.arg 2, ⟨.fz, 5, cs2⟩), (.res 0, ⟨.lst, 1, encL c_i64 r.2.2.2.2.1⟩)], [], []⟩) := by
 refine tri_of_body (ac := C87) (xs := r87) Try.func87 (show Try.f87.body = some (Try.f87.body.getD .skip) from rfl) k87 q87 (Nat.le_of_ble_eq_true rfl) ?_
 refine body_of fun K hKn hKr => ?_
 unfold spec_l6Plan.f at h
 unfold C87
 simp only [initT, Nat.reduceAdd]
 refine sr_k fun J1 hJ1 => ?_
 simp +decide only [Nat.reduceAdd, Nat.reduceMul, Int.reduceToNat, ak]
 refine gho_k (Weak.own (.tmp 2 0) (cs' := [.sc (.int .i64 0), .sc (.int .i64 0), .sc (.int .u64 0), .sc (.int .i64 0), .own 1 (([] : List Int).length) (encL c_i64 ([] : List Int)), .sc (.int .i64 0), .sc (.int .i64 0)]) rfl ⟨.inl rfl, .inl rfl, .inl rfl, .inl rfl, .inr ⟨rfl, _, rfl⟩, .inl rfl, .inl rfl, trivial⟩) ?_
 simp +decide only [Nat.reduceAdd, Nat.reduceMul, Int.reduceToNat, ak]
 refine hJ1 _ ?_
 refine sr_k fun J2 hJ2 => ?_
 simp +decide only [Nat.reduceAdd, Nat.reduceMul, Int.reduceToNat, ak]
 refine gho_k (Weak.nmg' 9 4 (.tmp 9 24) 1 (encL c_i64 ([] : List Int)) rfl rfl rfl rfl) ?_
 simp +decide only [Nat.reduceAdd, Nat.reduceMul, Int.reduceToNat, ak]
 refine gho_k (Weak.own (.tmp 3 0) (cs' := [.sc (.int .i64 0), .sc (.int .i64 0), .sc (.int .u64 0), .sc (.int .i64 0), .own 1 (([] : List Int).length) (encL c_i64 ([] : List Int)), .sc (.int .i64 0), .sc (.int .i64 0)]) rfl ⟨.inl rfl, .inl rfl, .inl rfl, .inl rfl, .inr ⟨rfl, _, rfl⟩, .inl rfl, .inl rfl, trivial⟩) ?_
 have g3 : (encL c_i64 ([] : List Int)).length = 0 * 1 := by simp [encL_length c_i64_w]
 simp +decide only [Nat.reduceAdd, Nat.reduceMul, Int.reduceToNat, ak, g3]
 refine hJ2 _ ?_
 refine sr_k fun J4 hJ4 => ?_
 simp +decide only [Nat.reduceAdd, Nat.reduceMul, Int.reduceToNat, ak]
 refine hJ4 _ ?_
 refine seq_k fun J5 hJ5 => ?_
 refine sr_k fun J6 hJ6 => ?_
 simp +decide only [Nat.reduceAdd, Nat.reduceMul, Int.reduceToNat, ak]
 refine hJ6 _ ?_
 refine block_k fun B7 B7n B7x B7r B7j => ?_
 obtain ⟨y38, h39, h⟩ := of_bind h
 refine gh_k (st' := ⟨[(1, .c (.ptr (.tmp 1 0) [] 0)), (2, .c (.ptr (.tmp 2 0) [] 0)), (3, .c (.ptr (.tmp 3 0) [] 0)), (4, .c (.sc (.int .i64 0))), (5, .c (.sc (.int .i64 0)))], [(.arg 0, ⟨.fz, 1, cs0⟩), (.arg 1, ⟨.fz, 3, cs1⟩), (.arg 2, ⟨.fz, 5, cs2⟩), (.tmp 1 0, ⟨.box, 0, [.sc (.int .i64 a0_0), .sc (.int .i64 a0_1), .ref (.arg 0) [] o0 l0_2.length, .ref (.arg 1) [] o1 l0_3.length, .ref (.arg 2) [] o2 l0_4.length, .sc (.int .i64 a0_5), .sc (.int .u64 a0_6), .sc (.int .u64 a0_7), .sc (.int .u64 a0_8), .sc (.int .i64 a0_9), .sc (.int .i64 a0_10), .sc (.int .i64 a0_11)]⟩), (.tmp 2 0, ⟨.box, 0, [.sc (.int .i64 0), .sc (.int .i64 0), .sc (.int .u64 0), .sc (.int .i64 0), .own 1 (([] : List Int).length) (encL c_i64 ([] : List Int)), .sc (.int .i64 0), .sc (.int .i64 0)]⟩), (.tmp 3 0, ⟨.box, 0, [.sc (.int .i64 0), .sc (.int .i64 0), .sc (.int .u64 0), .sc (.int .i64 0), .own 1 (([] : List Int).length) (encL c_i64 ([] : List Int)), .sc (.int .i64 0), .sc (.int .i64 0)]⟩)], [], []⟩) (wk [1, 2, 3, 4, 5] [pI (.arg 0) .fz, pI (.arg 1) .fz, pI (.arg 2) .fz, pI (.tmp 1 0) .box, pI (.tmp 2 0) .box, pI (.tmp 3 0) .box] (h := by first | rfl | (simp +decide only [ak, akF]; done) | (simp +decide [ak, akF] <;> omega))) ?_
 rw [e_loop]
 refine spec_l6Plan.l0_walk cs0 o0 l0_2 hv0 cs1 o1 l0_3 hv1 cs2 o2 l0_4 hv2 a0_0 a0_1 a0_5 a0_6 a0_7 a0_8 a0_9 a0_10 a0_11 0 0 0 0 ([] : List Int) 0 0 0 0 0 0 0 0 ([] : List Int) 0 0 _ h39 _ ?_
 refine B7x _ ?_
 refine hJ5 _ ?_
 obtain ⟨j40, h41, hn⟩ := of_bind h
 refine seq_j (fun st => st = ⟨[(1, .c (.ptr (.tmp 1 0) [] 0)), (2, .c (.ptr (.tmp 2 0) [] 0)), (3, .c (.ptr (.tmp 3 0) [] 0)), (4, .c (.sc (.int .i64 y38.1))), (7, .c (.sc (.bool j40)))], [(.arg 0, ⟨.fz, 1, cs0⟩), (.arg 1, ⟨.fz, 3, cs1⟩), (.arg 2, ⟨.fz, 5, cs2⟩), (.tmp 1 0, ⟨.box, 0, [.sc (.int .i64 a0_0), .sc (.int .i64 a0_1), .ref (.arg 0) [] o0 l0_2.length, .ref (.arg 1) [] o1 l0_3.length, .ref (.arg 2) [] o2 l0_4.length, .sc (.int .i64 a0_5), .sc (.int .u64 a0_6), .sc (.int .u64 a0_7), .sc (.int .u64 a0_8), .sc (.int .i64 a0_9), .sc (.int .i64 a0_10), .sc (.int .i64 a0_11)]⟩), (.tmp 2 0, ⟨.box, 0, [.sc (.int .i64 0), .sc (.int .i64 0), .sc (.int .u64 0), .sc (.int .i64 0), .own 1 (([] : List Int).length) (encL c_i64 ([] : List Int)), .sc (.int .i64 0), .sc (.int .i64 0)]⟩), (.tmp 3 0, ⟨.box, 0, [.sc (.int .i64 y38.2.1), .sc (.int .i64 y38.2.2.1), .sc (.int .u64 y38.2.2.2.1), .sc (.int .i64 y38.2.2.2.2.1), .own 1 y38.2.2.2.2.2.1.length (encL c_i64 y38.2.2.2.2.2.1), .sc (.int .i64 y38.2.2.2.2.2.2.1), .sc (.int .i64 y38.2.2.2.2.2.2.2)]⟩)], [], []⟩) (fun J42 hJ42 => ?_) ?_
 ·replace h := h41; clear hn
  refine ga_k fun G43 G43n G43r G43x => ?_
  refine reg_k ?_
  simp +decide only [Nat.reduceAdd, Nat.reduceMul, Int.reduceToNat, ak]
  by_cases c44 : y38.2.1 = 0
  ·rw [if_pos c44] at h
   have e45 : decide (y38.2.1 = 0) = true := decide_eq_true c44
   simp +decide only [Nat.reduceAdd, Nat.reduceMul, Int.reduceToNat, ak, e45]
   by_cases c46 : (l0_4.length : Int) < a0_5
   ·rw [if_pos c46] at h
    have e47 : decide ((l0_4.length : Int) < a0_5) = true := decide_eq_true c46
    simp +decide only [Nat.reduceAdd, Nat.reduceMul, Int.reduceToNat, ak, e47]
    obtain ⟨t48, h49, h⟩ := of_bind h
    refine call_m [(.arg 0, ⟨(.arg 1), [], none, .fz⟩)] (s0 := [(.arg 0, ⟨.fz, 3, cs1⟩)]) (by intro t ht; cases ht; decide) rfl rfl (by first | rfl | simp only [reduceCtorEq, Nat.reduceEqDiff, ak, akF, e45, e47, g3]) (spec_l6Eligible.tri (cs1) o1 l0_3 hv1 0 _ h49) (by first | rfl | simp only [reduceCtorEq, Nat.reduceEqDiff, ak, akF]) (by simp [bkOk2, memK]) (fun hl49 => ?_)
    refine call_st (s4 := [(.arg 0, ⟨.fz, 1, cs0⟩), (.arg 1, ⟨.fz, 3, cs1⟩), (.arg 2, ⟨.fz, 5, cs2⟩), (.tmp 1 0, ⟨.box, 0, [.sc (.int .i64 a0_0), .sc (.int .i64 a0_1), .ref (.arg 0) [] o0 l0_2.length, .ref (.arg 1) [] o1 l0_3.length, .ref (.arg 2) [] o2 l0_4.length, .sc (.int .i64 a0_5), .sc (.int .u64 a0_6), .sc (.int .u64 a0_7), .sc (.int .u64 a0_8), .sc (.int .i64 a0_9), .sc (.int .i64 a0_10), .sc (.int .i64 a0_11)]⟩), (.tmp 2 0, ⟨.box, 0, [.sc (.int .i64 0), .sc (.int .i64 0), .sc (.int .u64 0), .sc (.int .i64 0), .own 1 (([] : List Int).length) (encL c_i64 ([] : List Int)), .sc (.int .i64 0), .sc (.int .i64 0)]⟩), (.tmp 3 0, ⟨.box, 0, [.sc (.int .i64 y38.2.1), .sc (.int .i64 y38.2.2.1), .sc (.int .u64 y38.2.2.2.1), .sc (.int .i64 y38.2.2.2.2.1), .own 1 y38.2.2.2.2.2.1.length (encL c_i64 y38.2.2.2.2.2.1), .sc (.int .i64 y38.2.2.2.2.2.2.1), .sc (.int .i64 y38.2.2.2.2.2.2.2)]⟩), (.tmp 61 0, ⟨.lst, 1, encL c_i64 t48⟩)]) (m1' := []) (m2' := []) (v' := .c (.ref (.tmp 61 0) [] 0 t48.length)) (Sto.mapN_killNil _ _) (mrgL_fz (mrgL_nil' _ _ _) rfl (by first | rfl | simp only [reduceCtorEq, Nat.reduceEqDiff, ak, e45, e47, g3]) rfl (by intro R hR hh; cases hR; cases hh.2)) (by rfl) (mapT_killNil _ _) (by rfl) (by rfl) (by first | rfl | simp only [reduceCtorEq, Nat.reduceEqDiff, ak, akF, Nat.zero_add, List.append_nil, e45, e47]) ?_
    simp +decide only [Nat.reduceAdd, Nat.reduceMul, Int.reduceToNat, ak]
    obtain rfl := Option.some.inj h
    refine G43n _ _ (wk [1, 2, 3, 4, 7] [pI (.arg 0) .fz, pI (.arg 1) .fz, pI (.arg 2) .fz, pI (.tmp 1 0) .box, pI (.tmp 2 0) .box, pI (.tmp 3 0) .box] (h0 := by first | rfl | simp +decide only [ak, akF, e45, e47]) (h := by first | rfl | (simp +decide only [ak, akF, e45, e47]; done) | (simp +decide [ak, akF, e45, e47] <;> omega))) (hJ42 _ rfl)
   ·rw [if_neg c46] at h
    have e51 : decide ((l0_4.length : Int) < a0_5) = false := decide_eq_false c46
    simp +decide only [Nat.reduceAdd, Nat.reduceMul, Int.reduceToNat, ak, e51]
    obtain rfl := Option.some.inj h
    refine G43n _ _ (wk [1, 2, 3, 4, 7] [pI (.arg 0) .fz, pI (.arg 1) .fz, pI (.arg 2) .fz, pI (.tmp 1 0) .box, pI (.tmp 2 0) .box, pI (.tmp 3 0) .box] (h0 := by first | rfl | simp +decide only [ak, akF, e45, e51]) (h := by first | rfl | (simp +decide only [ak, akF, e45, e51]; done) | (simp +decide [ak, akF, e45, e51] <;> omega))) (hJ42 _ rfl)
  ·rw [if_neg c44] at h
   have e52 : decide (y38.2.1 = 0) = false := decide_eq_false c44
   simp +decide only [Nat.reduceAdd, Nat.reduceMul, Int.reduceToNat, ak, e52]
   obtain rfl := Option.some.inj h
   refine G43n _ _ (wk [1, 2, 3, 4, 7] [pI (.arg 0) .fz, pI (.arg 1) .fz, pI (.arg 2) .fz, pI (.tmp 1 0) .box, pI (.tmp 2 0) .box, pI (.tmp 3 0) .box] (h0 := by first | rfl | simp +decide only [ak, akF, e52]) (h := by first | rfl | (simp +decide only [ak, akF, e52]; done) | (simp +decide [ak, akF, e52] <;> omega))) (hJ42 _ rfl)
 ·replace h := hn; clear hn h41
  rintro _ rfl
  obtain ⟨j53, h54, hn⟩ := of_bind h
  refine seq_j (fun st => st = ⟨[(1, .c (.ptr (.tmp 1 0) [] 0)), (2, .c (.ptr (.tmp 2 0) [] 0)), (3, .c (.ptr (.tmp 3 0) [] 0)), (4, .c (.sc (.int .i64 y38.1)))], [(.arg 0, ⟨.fz, 1, cs0⟩), (.arg 1, ⟨.fz, 3, cs1⟩), (.arg 2, ⟨.fz, 5, cs2⟩), (.tmp 1 0, ⟨.box, 0, [.sc (.int .i64 a0_0), .sc (.int .i64 a0_1), .ref (.arg 0) [] o0 l0_2.length, .ref (.arg 1) [] o1 l0_3.length, .ref (.arg 2) [] o2 l0_4.length, .sc (.int .i64 a0_5), .sc (.int .u64 a0_6), .sc (.int .u64 a0_7), .sc (.int .u64 a0_8), .sc (.int .i64 a0_9), .sc (.int .i64 a0_10), .sc (.int .i64 a0_11)]⟩), (.tmp 2 0, ⟨.box, 0, [.sc (.int .i64 0), .sc (.int .i64 0), .sc (.int .u64 0), .sc (.int .i64 0), .own 1 (([] : List Int).length) (encL c_i64 ([] : List Int)), .sc (.int .i64 0), .sc (.int .i64 0)]⟩), (.tmp 3 0, ⟨.box, 0, [.sc (.int .i64 j53.1), .sc (.int .i64 j53.2.1), .sc (.int .u64 j53.2.2.1), .sc (.int .i64 j53.2.2.2.1), .own 1 j53.2.2.2.2.1.length (encL c_i64 j53.2.2.2.2.1), .sc (.int .i64 j53.2.2.2.2.2.1), .sc (.int .i64 j53.2.2.2.2.2.2)]⟩)], [], []⟩) (fun J55 hJ55 => ?_) ?_
  ·replace h := h54; clear hn
   refine ga_k fun G56 G56n G56r G56x => ?_
   obtain ⟨j57, h58, hn⟩ := of_bind h
   refine seq_j (fun st => st = ⟨[(1, .c (.ptr (.tmp 1 0) [] 0)), (2, .c (.ptr (.tmp 2 0) [] 0)), (3, .c (.ptr (.tmp 3 0) [] 0)), (4, .c (.sc (.int .i64 y38.1))), (7, .c (.sc (.bool j57.1))), (79, .c (.sc (.bool j57.2)))], [(.arg 0, ⟨.fz, 1, cs0⟩), (.arg 1, ⟨.fz, 3, cs1⟩), (.arg 2, ⟨.fz, 5, cs2⟩), (.tmp 1 0, ⟨.box, 0, [.sc (.int .i64 a0_0), .sc (.int .i64 a0_1), .ref (.arg 0) [] o0 l0_2.length, .ref (.arg 1) [] o1 l0_3.length, .ref (.arg 2) [] o2 l0_4.length, .sc (.int .i64 a0_5), .sc (.int .u64 a0_6), .sc (.int .u64 a0_7), .sc (.int .u64 a0_8), .sc (.int .i64 a0_9), .sc (.int .i64 a0_10), .sc (.int .i64 a0_11)]⟩), (.tmp 2 0, ⟨.box, 0, [.sc (.int .i64 0), .sc (.int .i64 0), .sc (.int .u64 0), .sc (.int .i64 0), .own 1 (([] : List Int).length) (encL c_i64 ([] : List Int)), .sc (.int .i64 0), .sc (.int .i64 0)]⟩), (.tmp 3 0, ⟨.box, 0, [.sc (.int .i64 y38.2.1), .sc (.int .i64 y38.2.2.1), .sc (.int .u64 y38.2.2.2.1), .sc (.int .i64 y38.2.2.2.2.1), .own 1 y38.2.2.2.2.2.1.length (encL c_i64 y38.2.2.2.2.2.1), .sc (.int .i64 y38.2.2.2.2.2.2.1), .sc (.int .i64 y38.2.2.2.2.2.2.2)]⟩)], [], []⟩) (fun J59 hJ59 => ?_) ?_
   ·replace h := h58; clear hn
    refine ga_k fun G60 G60n G60r G60x => ?_
    refine reg_k ?_
    simp +decide only [Nat.reduceAdd, Nat.reduceMul, Int.reduceToNat, ak]
    by_cases c61 : j40 = true
    ·rw [if_pos c61] at h
     have e62 : (j40) = true := c61
     simp +decide only [Nat.reduceAdd, Nat.reduceMul, Int.reduceToNat, ak, e62]
     by_cases c63 : a0_6 < a0_7
     ·rw [if_pos c63] at h
      have e64 : decide (a0_6 < a0_7) = true := decide_eq_true c63
      simp +decide only [Nat.reduceAdd, Nat.reduceMul, Int.reduceToNat, ak, e64]
      obtain rfl := Option.some.inj h
      refine G60n _ _ (wk [1, 2, 3, 4, 7, 79] [pI (.arg 0) .fz, pI (.arg 1) .fz, pI (.arg 2) .fz, pI (.tmp 1 0) .box, pI (.tmp 2 0) .box, pI (.tmp 3 0) .box] (h0 := by first | rfl | simp +decide only [ak, akF, e62, e64]) (h := by first | rfl | (simp +decide only [ak, akF, e62, e64]; done) | (simp +decide [ak, akF, e62, e64] <;> omega))) (hJ59 _ rfl)
     ·rw [if_neg c63] at h
      have e65 : decide (a0_6 < a0_7) = false := decide_eq_false c63
      simp +decide only [Nat.reduceAdd, Nat.reduceMul, Int.reduceToNat, ak, e65]
      obtain rfl := Option.some.inj h
      refine G60n _ _ (wk [1, 2, 3, 4, 7, 79] [pI (.arg 0) .fz, pI (.arg 1) .fz, pI (.arg 2) .fz, pI (.tmp 1 0) .box, pI (.tmp 2 0) .box, pI (.tmp 3 0) .box] (h0 := by first | rfl | simp +decide only [ak, akF, e62, e65]) (h := by first | rfl | (simp +decide only [ak, akF, e62, e65]; done) | (simp +decide [ak, akF, e62, e65] <;> omega))) (hJ59 _ rfl)
    ·rw [if_neg c61] at h
     have e66 : (j40) = false := Bool.eq_false_iff.2 c61
     simp +decide only [Nat.reduceAdd, Nat.reduceMul, Int.reduceToNat, ak, e66]
     obtain rfl := Option.some.inj h
     refine G60n _ _ (wk [1, 2, 3, 4, 7, 79] [pI (.arg 0) .fz, pI (.arg 1) .fz, pI (.arg 2) .fz, pI (.tmp 1 0) .box, pI (.tmp 2 0) .box, pI (.tmp 3 0) .box] (h0 := by first | rfl | simp +decide only [ak, akF, e66]) (h := by first | rfl | (simp +decide only [ak, akF, e66]; done) | (simp +decide [ak, akF, e66] <;> omega))) (hJ59 _ rfl)
   ·replace h := hn; clear hn h58
    rintro _ rfl
    refine cond_k (b := j57.2) rfl (fun c67 => ?_) (fun c67 => ?_)
    ·rw [if_pos c67] at h
     refine regD_k ?_
     simp +decide only [Nat.reduceAdd, Nat.reduceMul, Int.reduceToNat, ak]
     obtain ⟨t68, h69, h⟩ := of_bind h
     refine alt_e ?_
     ·simp +decide only [Nat.reduceAdd, Nat.reduceMul, Int.reduceToNat, ak]
      refine call_m [] (s0 := []) (by intro t ht; cases ht; decide) rfl rfl (by first | rfl | simp only [reduceCtorEq, Nat.reduceEqDiff, ak, akF, g3]) (spec_l6Least.tri (IntKind.u64.wrap a0_11) (IntKind.u64.wrap (a0_7 - a0_6)) (IntKind.u64.wrap (a0_8 - a0_6)) _ h69) (by first | rfl | simp only [reduceCtorEq, Nat.reduceEqDiff, ak, akF]) (by simp [bkOk2, memK]) (fun hl70 => ?_)
      refine call_st (s4 := [(.arg 0, ⟨.fz, 1, cs0⟩), (.arg 1, ⟨.fz, 3, cs1⟩), (.arg 2, ⟨.fz, 5, cs2⟩), (.tmp 1 0, ⟨.box, 0, [.sc (.int .i64 a0_0), .sc (.int .i64 a0_1), .ref (.arg 0) [] o0 l0_2.length, .ref (.arg 1) [] o1 l0_3.length, .ref (.arg 2) [] o2 l0_4.length, .sc (.int .i64 a0_5), .sc (.int .u64 a0_6), .sc (.int .u64 a0_7), .sc (.int .u64 a0_8), .sc (.int .i64 a0_9), .sc (.int .i64 a0_10), .sc (.int .i64 a0_11)]⟩), (.tmp 2 0, ⟨.box, 0, [.sc (.int .i64 0), .sc (.int .i64 0), .sc (.int .u64 0), .sc (.int .i64 0), .own 1 (([] : List Int).length) (encL c_i64 ([] : List Int)), .sc (.int .i64 0), .sc (.int .i64 0)]⟩), (.tmp 3 0, ⟨.box, 0, [.sc (.int .i64 y38.2.1), .sc (.int .i64 y38.2.2.1), .sc (.int .u64 y38.2.2.2.1), .sc (.int .i64 y38.2.2.2.2.1), .own 1 y38.2.2.2.2.2.1.length (encL c_i64 y38.2.2.2.2.2.1), .sc (.int .i64 y38.2.2.2.2.2.2.1), .sc (.int .i64 y38.2.2.2.2.2.2.2)]⟩)]) (m1' := []) (m2' := []) (v' := .c (.sc (.int .i64 t68))) (Sto.mapN_killNil _ _) (mrgL_nil' _ _ _) (by rfl) (mapT_killNil _ _) (by rfl) (by rfl) (by first | rfl | simp only [reduceCtorEq, Nat.reduceEqDiff, ak, akF, Nat.zero_add, List.append_nil]) ?_
      simp +decide only [Nat.reduceAdd, Nat.reduceMul, Int.reduceToNat, ak]
      refine alt_e ?_
      ·simp +decide only [Nat.reduceAdd, Nat.reduceMul, Int.reduceToNat, ak]
       refine ghp_k (Weak.nmg' 96 4 (.tmp 96 24) 1 (encL c_i64 ([] : List Int)) rfl rfl rfl rfl) ?_
       try simp +decide only [Nat.reduceAdd, Nat.reduceMul, Int.reduceToNat, ak]
       refine alt_e ?_
       ·simp +decide only [Nat.reduceAdd, Nat.reduceMul, Int.reduceToNat, ak, g3]
        obtain rfl := Option.some.inj h
        refine G56n _ _ (wk [1, 2, 3, 4] [pI (.arg 0) .fz, pI (.arg 1) .fz, pI (.arg 2) .fz, pI (.tmp 1 0) .box, pI (.tmp 2 0) .box, pI (.tmp 3 0) .box] (h := by first | rfl | (simp +decide only [ak, akF]; done) | (simp +decide [ak, akF] <;> omega))) (hJ55 _ rfl)
    ·rw [if_neg (Bool.eq_false_iff.1 c67)] at h
     obtain ⟨j72, h73, hn⟩ := of_bind h
     refine seq_j (fun st => st = ⟨[(1, .c (.ptr (.tmp 1 0) [] 0)), (2, .c (.ptr (.tmp 2 0) [] 0)), (3, .c (.ptr (.tmp 3 0) [] 0)), (4, .c (.sc (.int .i64 y38.1))), (114, .c (.sc (.bool j72)))], [(.arg 0, ⟨.fz, 1, cs0⟩), (.arg 1, ⟨.fz, 3, cs1⟩), (.arg 2, ⟨.fz, 5, cs2⟩), (.tmp 1 0, ⟨.box, 0, [.sc (.int .i64 a0_0), .sc (.int .i64 a0_1), .ref (.arg 0) [] o0 l0_2.length, .ref (.arg 1) [] o1 l0_3.length, .ref (.arg 2) [] o2 l0_4.length, .sc (.int .i64 a0_5), .sc (.int .u64 a0_6), .sc (.int .u64 a0_7), .sc (.int .u64 a0_8), .sc (.int .i64 a0_9), .sc (.int .i64 a0_10), .sc (.int .i64 a0_11)]⟩), (.tmp 2 0, ⟨.box, 0, [.sc (.int .i64 0), .sc (.int .i64 0), .sc (.int .u64 0), .sc (.int .i64 0), .own 1 (([] : List Int).length) (encL c_i64 ([] : List Int)), .sc (.int .i64 0), .sc (.int .i64 0)]⟩), (.tmp 3 0, ⟨.box, 0, [.sc (.int .i64 y38.2.1), .sc (.int .i64 y38.2.2.1), .sc (.int .u64 y38.2.2.2.1), .sc (.int .i64 y38.2.2.2.2.1), .own 1 y38.2.2.2.2.2.1.length (encL c_i64 y38.2.2.2.2.2.1), .sc (.int .i64 y38.2.2.2.2.2.2.1), .sc (.int .i64 y38.2.2.2.2.2.2.2)]⟩)], [], []⟩) (fun J74 hJ74 => ?_) ?_
     ·replace h := h73; clear hn
      refine ga_k fun G75 G75n G75r G75x => ?_
      refine reg_k ?_
      simp +decide only [Nat.reduceAdd, Nat.reduceMul, Int.reduceToNat, ak]
      by_cases c76 : j57.1 = true
      ·rw [if_pos c76] at h
       have e77 : (j57.1) = true := c76
       simp +decide only [Nat.reduceAdd, Nat.reduceMul, Int.reduceToNat, ak, e77]
       by_cases c78 : a0_9 = 1
       ·rw [if_pos c78] at h
        have e79 : decide (a0_9 = 1) = true := decide_eq_true c78
        simp +decide only [Nat.reduceAdd, Nat.reduceMul, Int.reduceToNat, ak, e79]
        by_cases c80 : a0_10 = 0
        ·rw [if_pos c80] at h
         have e81 : decide (a0_10 = 0) = true := decide_eq_true c80
         simp +decide only [Nat.reduceAdd, Nat.reduceMul, Int.reduceToNat, ak, e81]
         obtain rfl := Option.some.inj h
         refine G75n _ _ (wk [1, 2, 3, 4, 114] [pI (.arg 0) .fz, pI (.arg 1) .fz, pI (.arg 2) .fz, pI (.tmp 1 0) .box, pI (.tmp 2 0) .box, pI (.tmp 3 0) .box] (h0 := by first | rfl | simp +decide only [ak, akF, e77, e79, e81]) (h := by first | rfl | (simp +decide only [ak, akF, e77, e79, e81]; done) | (simp +decide [ak, akF, e77, e79, e81] <;> omega))) (hJ74 _ rfl)
        ·rw [if_neg c80] at h
         have e82 : decide (a0_10 = 0) = false := decide_eq_false c80
         simp +decide only [Nat.reduceAdd, Nat.reduceMul, Int.reduceToNat, ak, e82]
         obtain rfl := Option.some.inj h
         refine G75n _ _ (wk [1, 2, 3, 4, 114] [pI (.arg 0) .fz, pI (.arg 1) .fz, pI (.arg 2) .fz, pI (.tmp 1 0) .box, pI (.tmp 2 0) .box, pI (.tmp 3 0) .box] (h0 := by first | rfl | simp +decide only [ak, akF, e77, e79, e82]) (h := by first | rfl | (simp +decide only [ak, akF, e77, e79, e82]; done) | (simp +decide [ak, akF, e77, e79, e82] <;> omega))) (hJ74 _ rfl)
       ·rw [if_neg c78] at h
        have e83 : decide (a0_9 = 1) = false := decide_eq_false c78
        simp +decide only [Nat.reduceAdd, Nat.reduceMul, Int.reduceToNat, ak, e83]
        obtain rfl := Option.some.inj h
        refine G75n _ _ (wk [1, 2, 3, 4, 114] [pI (.arg 0) .fz, pI (.arg 1) .fz, pI (.arg 2) .fz, pI (.tmp 1 0) .box, pI (.tmp 2 0) .box, pI (.tmp 3 0) .box] (h0 := by first | rfl | simp +decide only [ak, akF, e77, e83]) (h := by first | rfl | (simp +decide only [ak, akF, e77, e83]; done) | (simp +decide [ak, akF, e77, e83] <;> omega))) (hJ74 _ rfl)
      ·rw [if_neg c76] at h
       have e84 : (j57.1) = false := Bool.eq_false_iff.2 c76
       simp +decide only [Nat.reduceAdd, Nat.reduceMul, Int.reduceToNat, ak, e84]
       obtain rfl := Option.some.inj h
       refine G75n _ _ (wk [1, 2, 3, 4, 114] [pI (.arg 0) .fz, pI (.arg 1) .fz, pI (.arg 2) .fz, pI (.tmp 1 0) .box, pI (.tmp 2 0) .box, pI (.tmp 3 0) .box] (h0 := by first | rfl | simp +decide only [ak, akF, e84]) (h := by first | rfl | (simp +decide only [ak, akF, e84]; done) | (simp +decide [ak, akF, e84] <;> omega))) (hJ74 _ rfl)
     ·replace h := hn; clear hn h73
      rintro _ rfl
      refine cond_k (b := j72) rfl (fun c85 => ?_) (fun c85 => ?_)
      ·rw [if_pos c85] at h
       refine reg_k ?_
       simp +decide only [Nat.reduceAdd, Nat.reduceMul, Int.reduceToNat, ak]
       refine gho_k (Weak.nmg' 117 4 (.tmp 117 24) 1 (encL c_i64 ([] : List Int)) rfl rfl rfl rfl) ?_
       simp +decide only [Nat.reduceAdd, Nat.reduceMul, Int.reduceToNat, ak, g3]
       obtain rfl := Option.some.inj h
       refine G56n _ _ (wk [1, 2, 3, 4] [pI (.arg 0) .fz, pI (.arg 1) .fz, pI (.arg 2) .fz, pI (.tmp 1 0) .box, pI (.tmp 2 0) .box, pI (.tmp 3 0) .box] (h := by first | rfl | (simp +decide only [ak, akF]; done) | (simp +decide [ak, akF] <;> omega))) (hJ55 _ rfl)
      ·rw [if_neg (Bool.eq_false_iff.1 c85)] at h
       obtain rfl := Option.some.inj h
       refine G56n _ _ (wk [1, 2, 3, 4] [pI (.arg 0) .fz, pI (.arg 1) .fz, pI (.arg 2) .fz, pI (.tmp 1 0) .box, pI (.tmp 2 0) .box, pI (.tmp 3 0) .box]) (hJ55 _ rfl)
  ·replace h := hn; clear hn h54
   rintro _ rfl
   refine sr_k fun J86 hJ86 => ?_
   simp +decide only [Nat.reduceAdd, Nat.reduceMul, Int.reduceToNat, ak]
   refine hJ86 _ ?_
   refine seq_k fun J87 hJ87 => ?_
   refine sr_k fun J88 hJ88 => ?_
   simp +decide only [Nat.reduceAdd, Nat.reduceMul, Int.reduceToNat, ak]
   refine hJ88 _ ?_
   refine cond_k (b := decide (j53.1 = 0)) rfl (fun c89 => ?_) (fun c89 => ?_)
   ·replace c89 := of_decide_eq_true c89; rw [if_pos c89] at h
    refine sr_k fun J90 hJ90 => ?_
    simp +decide only [Nat.reduceAdd, Nat.reduceMul, Int.reduceToNat, ak]
    refine hJ90 _ ?_
    obtain rfl := Option.some.inj h
    refine hKr _ ⟨_, rfl, [⟨(.tmp 3 0), [4], none, .lst⟩], _, rfl, rfl, ?_⟩
    first | rfl | (simp only [reduceCtorEq, Nat.reduceEqDiff, ak, akF]; done) | (simp [reduceCtorEq, Nat.reduceEqDiff, ak, akF] <;> omega)
   ·replace c89 := of_decide_eq_false c89; rw [if_neg c89] at h
    refine hJ87 _ ?_
    refine sr_k fun J91 hJ91 => ?_
    simp +decide only [Nat.reduceAdd, Nat.reduceMul, Int.reduceToNat, ak]
    refine hJ91 _ ?_
    obtain ⟨j92, h93, hn⟩ := of_bind h
    refine seq_j (fun st => st = ⟨[(1, .c (.ptr (.tmp 1 0) [] 0)), (2, .c (.ptr (.tmp 2 0) [] 0)), (3, .c (.ptr (.tmp 3 0) [] 0)), (4, .c (.sc (.int .i64 y38.1))), (8, .c (.sc (.int .i64 j92.1)))], [(.arg 0, ⟨.fz, 1, cs0⟩), (.arg 1, ⟨.fz, 3, cs1⟩), (.arg 2, ⟨.fz, 5, cs2⟩), (.tmp 1 0, ⟨.box, 0, [.sc (.int .i64 a0_0), .sc (.int .i64 a0_1), .ref (.arg 0) [] o0 l0_2.length, .ref (.arg 1) [] o1 l0_3.length, .ref (.arg 2) [] o2 l0_4.length, .sc (.int .i64 a0_5), .sc (.int .u64 a0_6), .sc (.int .u64 a0_7), .sc (.int .u64 a0_8), .sc (.int .i64 a0_9), .sc (.int .i64 a0_10), .sc (.int .i64 a0_11)]⟩), (.tmp 2 0, ⟨.box, 0, [.sc (.int .i64 0), .sc (.int .i64 0), .sc (.int .u64 0), .sc (.int .i64 0), .own 1 (([] : List Int).length) (encL c_i64 ([] : List Int)), .sc (.int .i64 0), .sc (.int .i64 0)]⟩), (.tmp 3 0, ⟨.box, 0, [.sc (.int .i64 j53.1), .sc (.int .i64 j53.2.1), .sc (.int .u64 j53.2.2.1), .sc (.int .i64 j53.2.2.2.1), .own 1 j53.2.2.2.2.1.length (encL c_i64 j53.2.2.2.2.1), .sc (.int .i64 a0_1), .sc (.int .i64 j92.2)]⟩)], [], []⟩) (fun J94 hJ94 => ?_) ?_
    ·replace h := h93; clear hn
     refine ga_k fun G95 G95n G95r G95x => ?_
     refine sr_k fun J96 hJ96 => ?_
     simp +decide only [Nat.reduceAdd, Nat.reduceMul, Int.reduceToNat, ak]
     refine hJ96 _ ?_
     refine cond_k (b := decide ((l0_2.length : Int) > 0)) rfl (fun c97 => ?_) (fun c97 => ?_)
     ·replace c97 := of_decide_eq_true c97; rw [if_pos c97] at h
      refine sr_k fun J98 hJ98 => ?_
      obtain ⟨b99, h⟩ := of_guard h
      have g100 : (cs0)[o0 + 0]? = some (.sc (.int .i64 (rd 0 l0_2 0))) := hv0.get 0 0 b99.1 b99.2 (by decide)
      simp +decide only [Nat.reduceAdd, Nat.reduceMul, Int.reduceToNat, ak, b99, g100]
      refine hJ98 _ ?_
      refine sr_k fun J101 hJ101 => ?_
      simp +decide only [Nat.reduceAdd, Nat.reduceMul, Int.reduceToNat, ak]
      refine hJ101 _ ?_
      refine cond_k (b := decide (a0_0 = 4)) rfl (fun c102 => ?_) (fun c102 => ?_)
      ·replace c102 := of_decide_eq_true c102; rw [if_pos c102] at h
       refine reg_k ?_
       simp +decide only [Nat.reduceAdd, Nat.reduceMul, Int.reduceToNat, ak]
       obtain rfl := Option.some.inj h
       refine G95n _ _ (wk [1, 2, 3, 4, 8] [pI (.arg 0) .fz, pI (.arg 1) .fz, pI (.arg 2) .fz, pI (.tmp 1 0) .box, pI (.tmp 2 0) .box, pI (.tmp 3 0) .box]) (hJ94 _ rfl)
      ·replace c102 := of_decide_eq_false c102; rw [if_neg c102] at h
       obtain rfl := Option.some.inj h
       refine G95n _ _ (wk [1, 2, 3, 4, 8] [pI (.arg 0) .fz, pI (.arg 1) .fz, pI (.arg 2) .fz, pI (.tmp 1 0) .box, pI (.tmp 2 0) .box, pI (.tmp 3 0) .box]) (hJ94 _ rfl)
     ·replace c97 := of_decide_eq_false c97; rw [if_neg c97] at h
      obtain rfl := Option.some.inj h
      refine G95n _ _ (wk [1, 2, 3, 4, 8] [pI (.arg 0) .fz, pI (.arg 1) .fz, pI (.arg 2) .fz, pI (.tmp 1 0) .box, pI (.tmp 2 0) .box, pI (.tmp 3 0) .box]) (hJ94 _ rfl)
    ·replace h := hn; clear hn h93
     rintro _ rfl
     refine sr_k fun J103 hJ103 => ?_
     simp +decide only [Nat.reduceAdd, Nat.reduceMul, Int.reduceToNat, ak]
     obtain ⟨t104, h105, h⟩ := of_bind h
     refine call_m [(.arg 0, ⟨(.arg 1), [], none, .fz⟩)] (s0 := [(.arg 0, ⟨.fz, 3, cs1⟩)]) (by intro t ht; cases ht; decide) rfl rfl (by first | rfl | simp only [reduceCtorEq, Nat.reduceEqDiff, ak, akF, g3]) (spec_l6Pick.tri (cs1) o1 l0_3 hv1 a0_0 a0_1 j92.1 y38.1 _ h105) (by first | rfl | simp only [reduceCtorEq, Nat.reduceEqDiff, ak, akF]) (by simp [bkOk2, memK]) (fun hl105 => ?_)
     refine call_st (s4 := [(.arg 0, ⟨.fz, 1, cs0⟩), (.arg 1, ⟨.fz, 3, cs1⟩), (.arg 2, ⟨.fz, 5, cs2⟩), (.tmp 1 0, ⟨.box, 0, [.sc (.int .i64 a0_0), .sc (.int .i64 a0_1), .ref (.arg 0) [] o0 l0_2.length, .ref (.arg 1) [] o1 l0_3.length, .ref (.arg 2) [] o2 l0_4.length, .sc (.int .i64 a0_5), .sc (.int .u64 a0_6), .sc (.int .u64 a0_7), .sc (.int .u64 a0_8), .sc (.int .i64 a0_9), .sc (.int .i64 a0_10), .sc (.int .i64 a0_11)]⟩), (.tmp 2 0, ⟨.box, 0, [.sc (.int .i64 0), .sc (.int .i64 0), .sc (.int .u64 0), .sc (.int .i64 0), .own 1 (([] : List Int).length) (encL c_i64 ([] : List Int)), .sc (.int .i64 0), .sc (.int .i64 0)]⟩), (.tmp 3 0, ⟨.box, 0, [.sc (.int .i64 j53.1), .sc (.int .i64 j53.2.1), .sc (.int .u64 j53.2.2.1), .sc (.int .i64 j53.2.2.2.1), .own 1 j53.2.2.2.2.1.length (encL c_i64 j53.2.2.2.2.1), .sc (.int .i64 a0_1), .sc (.int .i64 j92.2)]⟩), (.tmp 146 0, ⟨.lst, 1, encL c_i64 t104.1⟩)]) (m1' := []) (m2' := []) (v' := .tup [(false, [.ref (.tmp 146 0) [] 0 t104.1.length]), (false, [.sc (.int .i64 t104.2)])]) (Sto.mapN_killNil _ _) (mrgL_fz (mrgL_nil' _ _ _) rfl (by first | rfl | simp only [reduceCtorEq, Nat.reduceEqDiff, ak, g3]) rfl (by intro R hR hh; cases hR; cases hh.2)) (by rfl) (mapT_killNil _ _) (by rfl) (by rfl) (by first | rfl | simp only [reduceCtorEq, Nat.reduceEqDiff, ak, akF, Nat.zero_add, List.append_nil]) ?_
     have g107 : (encL c_i64 t104.1).length = t104.1.length * 1 := by simp [encL_length c_i64_w]
     simp +decide only [Nat.reduceAdd, Nat.reduceMul, Int.reduceToNat, ak, g107]
     refine hJ103 _ ?_
     refine sr_k fun J108 hJ108 => ?_
     simp +decide only [Nat.reduceAdd, Nat.reduceMul, Int.reduceToNat, ak]
     refine hJ108 _ ?_
     obtain rfl := Option.some.inj h
     refine hKr _ ⟨_, rfl, [⟨(.tmp 3 0), [4], none, .lst⟩], _, rfl, rfl, ?_⟩
     first | rfl | (simp only [reduceCtorEq, Nat.reduceEqDiff, ak, akF]; done) | (simp [reduceCtorEq, Nat.reduceEqDiff, ak, akF] <;> omega)
/-! ### spec.PlanSend: function 46 -/
def C46 : AC := .seq (.reg [.op none (.box 1 (.tmp 0)), .op none (.alloc 2 [.int .i64 0, .int .i64 0, .int .u64 0, .int .i64 0, .slice none 0 0, .int .i64 0, .int .i64 0]), .gh, .op none (.mv 3 (.const (.int .i64 0))), .keep [1, 2]]) (.seq (.reg [.op none (.load 5 true 12 (.tmp 1)), .call none (some 6) 86 [.tmp 5], .op none (.mv 4 (.tmp 6)), .keep [1, 2, 4]]) (.seq (.seq (.reg [.op none (.mv 7 (.tmp 4)), .op none (.bin 8 .neq (.tmp 7) (.const (.int .i64 0))), .keep [1, 2, 4, 8]]) (.cond (.tmp 8) (.seq (.reg [.op none (.build 9 [.int .i64 0, .int .i64 0, .int .u64 0, .int .i64 0, .slice none 0 0, .int .i64 0, .int .i64 0] []), .gh, .op none (.mv 10 (.tmp 4)), .op none (.store 7 (.tmp 2) (.tmp 9)), .op none (.mv 3 (.tmp 10)), .keep [2, 3]]) (.ret)) (.skip))) (.seq (.reg [.op none (.load 11 true 12 (.tmp 1)), .call none (some 12) 87 [.tmp 11], .op none (.store 7 (.tmp 2) (.tmp 12)), .op none (.mv 3 (.const (.int .i64 0))), .keep [2, 3]]) (.ret))))
def r46 : List RV := [.cell 2 true 7, .tmp 3]
theorem k46 : compC Try.prog 13 C46 (Try.f46.body.getD .skip) = some C46.erase := by kernel_rfl
theorem q46 : rvsOf Try.prog Try.f46.results.toList = some r46 := by kernel_rfl
def spec_PlanSend.f (a0_0 : Int) (a0_1 : Int) (l0_2 : List Int) (l0_3 : List S86) (l0_4 : List S84) (a0_5 : Int) (a0_6 : Int) (a0_7 : Int) (a0_8 : Int) (a0_9 : Int) (a0_10 : Int) (a0_11 : Int) : Option (Int × Int × Int × Int × (List Int) × Int × Int × Int) := (spec_l6InputCode.f a0_0 a0_1 l0_2 l0_3 l0_4 a0_5 a0_6 a0_7 a0_8 a0_9 a0_10 a0_11 >>= fun t3 => (if t3 ≠ 0 then (some (0, 0, 0, 0, ([] : List Int), 0, 0, t3)) else (spec_l6Plan.f a0_0 a0_1 l0_2 l0_3 l0_4 a0_5 a0_6 a0_7 a0_8 a0_9 a0_10 a0_11 >>= fun t12 => (some (t12.1, t12.2.1, t12.2.2.1, t12.2.2.2.1, t12.2.2.2.2.1, t12.2.2.2.2.2.1, t12.2.2.2.2.2.2, 0)))))
theorem spec_PlanSend.tri (cs0 : List Cell) (o0 : Nat) (l0_2 : List Int) (hv0 : Vw c_i64 1 cs0 o0 l0_2) (cs1 : List Cell) (o1 : Nat) (l0_3 : List S86) (hv1 : Vw c86 3 cs1 o1 l0_3) (cs2 : List Cell) (o2 : Nat) (l0_4 : List S84) (hv2 : Vw c84 5 cs2 o2 l0_4) (a0_0 : Int) (a0_1 : Int) (a0_5 : Int) (a0_6 : Int) (a0_7 : Int) (a0_8 : Int) (a0_9 : Int) (a0_10 : Int) (a0_11 : Int) (r : Int × Int × Int × Int × (List Int) × Int × Int × Int) (h : spec_PlanSend.f a0_0 a0_1 l0_2 l0_3 l0_4 a0_5 a0_6 a0_7 a0_8 a0_9 a0_10 a0_11 = some r) : Tri Try.prog 46 [.g [.sc (.int .i64 a0_0), .sc (.int .i64 a0_1), .ref (.arg 0) [] o0 l0_2.length, .ref (.arg 1) [] o1 l0_3.length, .ref (.arg 2) [] o2 l0_4.length, .sc (.int .i64 a0_5), .sc (.int .u64 a0_6), .sc (.int .u64 a0_7), .sc (.int .u64 a0_8), .sc (.int .i64 a0_9), .sc (.int .i64 a0_10), .sc (.int .i64 a0_11)]] [(.arg 0, ⟨.fz, 1, cs0⟩), (.arg 1, ⟨.fz, 3, cs1⟩), (.arg 2, ⟨.fz, 5, cs2⟩)] (fun o => o = ⟨.tup [(true, [.sc (.int .i64 r.1), .sc (.int .i64 r.2.1), .sc (.int .u64 r.2.2.1), .sc (.int .i64 r.2.2.2.1), .ref (.res 0) [] 0 r.2.2.2.2.1.length, .sc (.int .i64 r.2.2.2.2.2.1), .sc (.int .i64 r.2.2.2.2.2.2.1)]), (false, [.sc (.int .i64 r.2.2.2.2.2.2.2)])], [(.arg 0, ⟨.fz, 1, cs0⟩), (.arg 1, ⟨.fz, 3, cs1⟩), (.arg 2, ⟨.fz, 5, cs2⟩), (.res 0, ⟨.lst, 1, encL c_i64 r.2.2.2.2.1⟩)], [], []⟩) := by
 refine tri_of_body (ac := C46) (xs := r46) Try.func46 (show Try.f46.body = some (Try.f46.body.getD .skip) from rfl) k46 q46 (Nat.le_of_ble_eq_true rfl) ?_
 refine body_of fun K hKn hKr => ?_
 unfold spec_PlanSend.f at h
 unfold C46
 simp only [initT, Nat.reduceAdd]
 refine sr_k fun J1 hJ1 => ?_
 simp +decide only [Nat.reduceAdd, Nat.reduceMul, Int.reduceToNat, ak]
 refine gho_k (Weak.own (.tmp 2 0) (cs' := [.sc (.int .i64 0), .sc (.int .i64 0), .sc (.int .u64 0), .sc (.int .i64 0), .own 1 (([] : List Int).length) (encL c_i64 ([] : List Int)), .sc (.int .i64 0), .sc (.int .i64 0)]) rfl ⟨.inl rfl, .inl rfl, .inl rfl, .inl rfl, .inr ⟨rfl, _, rfl⟩, .inl rfl, .inl rfl, trivial⟩) ?_
 simp +decide only [Nat.reduceAdd, Nat.reduceMul, Int.reduceToNat, ak]
 refine hJ1 _ ?_
 refine sr_k fun J2 hJ2 => ?_
 simp +decide only [Nat.reduceAdd, Nat.reduceMul, Int.reduceToNat, ak]
 obtain ⟨t3, h4, h⟩ := of_bind h
 refine call_m [(.arg 0, ⟨(.arg 0), [], none, .fz⟩), (.arg 1, ⟨(.arg 1), [], none, .fz⟩), (.arg 2, ⟨(.arg 2), [], none, .fz⟩)] (s0 := [(.arg 0, ⟨.fz, 1, cs0⟩), (.arg 1, ⟨.fz, 3, cs1⟩), (.arg 2, ⟨.fz, 5, cs2⟩)]) (by intro t ht; cases ht; decide) rfl rfl (by first | rfl | simp only [reduceCtorEq, Nat.reduceEqDiff, ak, akF]) (spec_l6InputCode.tri (cs0) o0 l0_2 hv0 (cs1) o1 l0_3 hv1 (cs2) o2 l0_4 hv2 a0_0 a0_1 a0_5 a0_6 a0_7 a0_8 a0_9 a0_10 a0_11 _ h4) (by first | rfl | simp only [reduceCtorEq, Nat.reduceEqDiff, ak, akF]) (by simp [bkOk2, memK]) (fun hl4 => ?_)
 refine call_st (s4 := [(.arg 0, ⟨.fz, 1, cs0⟩), (.arg 1, ⟨.fz, 3, cs1⟩), (.arg 2, ⟨.fz, 5, cs2⟩), (.tmp 1 0, ⟨.box, 0, [.sc (.int .i64 a0_0), .sc (.int .i64 a0_1), .ref (.arg 0) [] o0 l0_2.length, .ref (.arg 1) [] o1 l0_3.length, .ref (.arg 2) [] o2 l0_4.length, .sc (.int .i64 a0_5), .sc (.int .u64 a0_6), .sc (.int .u64 a0_7), .sc (.int .u64 a0_8), .sc (.int .i64 a0_9), .sc (.int .i64 a0_10), .sc (.int .i64 a0_11)]⟩), (.tmp 2 0, ⟨.box, 0, [.sc (.int .i64 0), .sc (.int .i64 0), .sc (.int .u64 0), .sc (.int .i64 0), .own 1 (([] : List Int).length) (encL c_i64 ([] : List Int)), .sc (.int .i64 0), .sc (.int .i64 0)]⟩)]) (m1' := []) (m2' := []) (v' := .c (.sc (.int .i64 t3))) (Sto.mapN_killNil _ _) (mrgL_fz (mrgL_fz (mrgL_fz (mrgL_nil' _ _ _) rfl (by first | rfl | simp only [reduceCtorEq, Nat.reduceEqDiff, ak]) rfl (by intro R hR hh; cases hR; cases hh.2)) rfl (by first | rfl | simp only [reduceCtorEq, Nat.reduceEqDiff, ak]) rfl (by intro R hR hh; cases hR; cases hh.2)) rfl (by first | rfl | simp only [reduceCtorEq, Nat.reduceEqDiff, ak]) rfl (by intro R hR hh; cases hR; cases hh.2)) (by rfl) (mapT_killNil _ _) (by rfl) (by rfl) (by first | rfl | simp only [reduceCtorEq, Nat.reduceEqDiff, ak, akF, Nat.zero_add, List.append_nil]) ?_
 simp +decide only [Nat.reduceAdd, Nat.reduceMul, Int.reduceToNat, ak]
 refine hJ2 _ ?_
 refine seq_k fun J6 hJ6 => ?_
 refine sr_k fun J7 hJ7 => ?_
 simp +decide only [Nat.reduceAdd, Nat.reduceMul, Int.reduceToNat, ak]
 refine hJ7 _ ?_
 refine cond_k (b := decide (t3 ≠ 0)) rfl (fun c8 => ?_) (fun c8 => ?_)
 ·replace c8 := of_decide_eq_true c8; rw [if_pos c8] at h
  refine sr_k fun J9 hJ9 => ?_
  simp +decide only [Nat.reduceAdd, Nat.reduceMul, Int.reduceToNat, ak]
  refine gho_k (Weak.nmg' 9 4 (.tmp 9 24) 1 (encL c_i64 ([] : List Int)) rfl rfl rfl rfl) ?_
  have g10 : (encL c_i64 ([] : List Int)).length = 0 * 1 := by simp [encL_length c_i64_w]
  simp +decide only [Nat.reduceAdd, Nat.reduceMul, Int.reduceToNat, ak, g10]
  refine hJ9 _ ?_
  obtain rfl := Option.some.inj h
  refine hKr _ ⟨_, rfl, [⟨(.tmp 2 0), [4], none, .lst⟩], _, rfl, rfl, ?_⟩
  first | rfl | (simp only [reduceCtorEq, Nat.reduceEqDiff, ak, akF]; done) | (simp [reduceCtorEq, Nat.reduceEqDiff, ak, akF] <;> omega)
 ·replace c8 := of_decide_eq_false c8; rw [if_neg c8] at h
  refine hJ6 _ ?_
  refine sr_k fun J11 hJ11 => ?_
  simp +decide only [Nat.reduceAdd, Nat.reduceMul, Int.reduceToNat, ak]
  obtain ⟨t12, h13, h⟩ := of_bind h
  refine call_m [(.arg 0, ⟨(.arg 0), [], none, .fz⟩), (.arg 1, ⟨(.arg 1), [], none, .fz⟩), (.arg 2, ⟨(.arg 2), [], none, .fz⟩)] (s0 := [(.arg 0, ⟨.fz, 1, cs0⟩), (.arg 1, ⟨.fz, 3, cs1⟩), (.arg 2, ⟨.fz, 5, cs2⟩)]) (by intro t ht; cases ht; decide) rfl rfl (by first | rfl | simp only [reduceCtorEq, Nat.reduceEqDiff, ak, akF]) (spec_l6Plan.tri (cs0) o0 l0_2 hv0 (cs1) o1 l0_3 hv1 (cs2) o2 l0_4 hv2 a0_0 a0_1 a0_5 a0_6 a0_7 a0_8 a0_9 a0_10 a0_11 _ h13) (by first | rfl | simp only [reduceCtorEq, Nat.reduceEqDiff, ak, akF]) (by simp [bkOk2, memK]) (fun hl13 => ?_)
  refine call_st (s4 := [(.arg 0, ⟨.fz, 1, cs0⟩), (.arg 1, ⟨.fz, 3, cs1⟩), (.arg 2, ⟨.fz, 5, cs2⟩), (.tmp 1 0, ⟨.box, 0, [.sc (.int .i64 a0_0), .sc (.int .i64 a0_1), .ref (.arg 0) [] o0 l0_2.length, .ref (.arg 1) [] o1 l0_3.length, .ref (.arg 2) [] o2 l0_4.length, .sc (.int .i64 a0_5), .sc (.int .u64 a0_6), .sc (.int .u64 a0_7), .sc (.int .u64 a0_8), .sc (.int .i64 a0_9), .sc (.int .i64 a0_10), .sc (.int .i64 a0_11)]⟩), (.tmp 2 0, ⟨.box, 0, [.sc (.int .i64 0), .sc (.int .i64 0), .sc (.int .u64 0), .sc (.int .i64 0), .own 1 (([] : List Int).length) (encL c_i64 ([] : List Int)), .sc (.int .i64 0), .sc (.int .i64 0)]⟩), (.tmp 12 0, ⟨.lst, 1, encL c_i64 t12.2.2.2.2.1⟩)]) (m1' := []) (m2' := []) (v' := .g [.sc (.int .i64 t12.1), .sc (.int .i64 t12.2.1), .sc (.int .u64 t12.2.2.1), .sc (.int .i64 t12.2.2.2.1), .ref (.tmp 12 0) [] 0 t12.2.2.2.2.1.length, .sc (.int .i64 t12.2.2.2.2.2.1), .sc (.int .i64 t12.2.2.2.2.2.2)]) (Sto.mapN_killNil _ _) (mrgL_fz (mrgL_fz (mrgL_fz (mrgL_nil' _ _ _) rfl (by first | rfl | simp only [reduceCtorEq, Nat.reduceEqDiff, ak]) rfl (by intro R hR hh; cases hR; cases hh.2)) rfl (by first | rfl | simp only [reduceCtorEq, Nat.reduceEqDiff, ak]) rfl (by intro R hR hh; cases hR; cases hh.2)) rfl (by first | rfl | simp only [reduceCtorEq, Nat.reduceEqDiff, ak]) rfl (by intro R hR hh; cases hR; cases hh.2)) (by rfl) (mapT_killNil _ _) (by rfl) (by rfl) (by first | rfl | simp only [reduceCtorEq, Nat.reduceEqDiff, ak, akF, Nat.zero_add, List.append_nil]) ?_
  have g15 : (encL c_i64 t12.2.2.2.2.1).length = t12.2.2.2.2.1.length * 1 := by simp [encL_length c_i64_w]
  simp +decide only [Nat.reduceAdd, Nat.reduceMul, Int.reduceToNat, ak, g15]
  refine hJ11 _ ?_
  obtain rfl := Option.some.inj h
  refine hKr _ ⟨_, rfl, [⟨(.tmp 2 0), [4], none, .lst⟩], _, rfl, rfl, ?_⟩
  first | rfl | (simp only [reduceCtorEq, Nat.reduceEqDiff, ak, akF]; done) | (simp [reduceCtorEq, Nat.reduceEqDiff, ak, akF] <;> omega)
/-! ### impl.policyOf: function 81 -/
def C81 : AC := .seq (.reg [.op none (.alloc 2 [.string .empty, .nilFunc]), .op none (.mv 3 (.const (.bool false))), .keep [0, 2]]) (.seq (.seq (.reg [.op none (.mv 4 (.tmp 0)), .keep [2, 4]]) (.block 0 (.seq (.reg [.op none (.bin 6 .eql (.tmp 4) (.const (.int .i64 1))), .op none (.mv 5 (.tmp 6)), .keep [2, 4, 5]]) (.cond (.tmp 5) (.seq (.reg [.op none (.build 7 [.string .empty, .nilFunc] [(0, 1, .const (.string ⟨#[114, 111, 117, 110, 100]⟩)), (1, 1, .func 113)]), .op none (.store 2 (.tmp 2) (.tmp 7)), .op none (.mv 3 (.const (.bool true))), .keep [2, 3]]) (.ret)) (.seq (.reg [.op none (.bin 9 .eql (.tmp 4) (.const (.int .i64 2))), .op none (.mv 8 (.tmp 9)), .keep [2, 4, 8]]) (.cond (.tmp 8) (.seq (.reg [.op none (.build 10 [.string .empty, .nilFunc] [(0, 1, .const (.string ⟨#[98, 97, 99, 107, 108, 111, 103]⟩)), (1, 1, .func 114)]), .op none (.store 2 (.tmp 2) (.tmp 10)), .op none (.mv 3 (.const (.bool true))), .keep [2, 3]]) (.ret)) (.seq (.reg [.op none (.bin 12 .eql (.tmp 4) (.const (.int .i64 3))), .op none (.mv 11 (.tmp 12)), .keep [2, 4, 11]]) (.cond (.tmp 11) (.seq (.reg [.op none (.build 13 [.string .empty, .nilFunc] [(0, 1, .const (.string ⟨#[97, 108, 108]⟩)), (1, 1, .func 115)]), .op none (.store 2 (.tmp 2) (.tmp 13)), .op none (.mv 3 (.const (.bool true))), .keep [2, 3]]) (.ret)) (.seq (.reg [.op none (.bin 15 .eql (.tmp 4) (.const (.int .i64 4))), .op none (.mv 14 (.tmp 15)), .keep [2, 14]]) (.cond (.tmp 14) (.seq (.reg [.op none (.build 16 [.string .empty, .nilFunc] [(0, 1, .const (.string ⟨#[115, 99, 114, 105, 112, 116]⟩)), (1, 1, .func 116)]), .op none (.store 2 (.tmp 2) (.tmp 16)), .op none (.mv 3 (.const (.bool true))), .keep [2, 3]]) (.ret)) (.skip))))))))))) (.seq (.reg [.op none (.build 17 [.string .empty, .nilFunc] []), .op none (.store 2 (.tmp 2) (.tmp 17)), .op none (.mv 3 (.const (.bool false))), .keep [2, 3]]) (.ret)))
def r81 : List RV := [.cell 2 true 2, .tmp 3]
theorem k81 : compC Try.prog 18 C81 (Try.f81.body.getD .skip) = some C81.erase := by kernel_rfl
theorem q81 : rvsOf Try.prog Try.f81.results.toList = some r81 := by kernel_rfl
def impl_policyOf.f (a0 : Int) : Option (ByteArray × Int × Bool) := (if a0 = 1 then (some (⟨#[114, 111, 117, 110, 100]⟩, 113, true)) else (if a0 = 2 then (some (⟨#[98, 97, 99, 107, 108, 111, 103]⟩, 114, true)) else (if a0 = 3 then (some (⟨#[97, 108, 108]⟩, 115, true)) else (if a0 = 4 then (some (⟨#[115, 99, 114, 105, 112, 116]⟩, 116, true)) else (some (ByteArray.empty, 0, false))))))
theorem impl_policyOf.tri (a0 : Int) (r : ByteArray × Int × Bool) (h : impl_policyOf.f a0 = some r) : Tri Try.prog 81 [.c (.sc (.int .i64 a0))] [] (fun o => o = ⟨.tup [(true, [.sc (.string r.1), .sc (fnv r.2.1)]), (false, [.sc (.bool r.2.2)])], [], [], []⟩) := by
 refine tri_of_body (ac := C81) (xs := r81) Try.func81 (show Try.f81.body = some (Try.f81.body.getD .skip) from rfl) k81 q81 (Nat.le_of_ble_eq_true rfl) ?_
 refine body_of fun K hKn hKr => ?_
 unfold impl_policyOf.f at h
 unfold C81
 simp only [initT, Nat.reduceAdd]
 refine sr_k fun J1 hJ1 => ?_
 simp +decide only [Nat.reduceAdd, Nat.reduceMul, Int.reduceToNat, ak]
 refine hJ1 _ ?_
 refine seq_k fun J2 hJ2 => ?_
 refine sr_k fun J3 hJ3 => ?_
 simp +decide only [Nat.reduceAdd, Nat.reduceMul, Int.reduceToNat, ak]
 refine hJ3 _ ?_
 refine block_k fun B4 B4n B4x B4r B4j => ?_
 refine sr_k fun J5 hJ5 => ?_
 simp +decide only [Nat.reduceAdd, Nat.reduceMul, Int.reduceToNat, ak]
 refine hJ5 _ ?_
 refine cond_k (b := decide (a0 = 1)) rfl (fun c6 => ?_) (fun c6 => ?_)
 ·replace c6 := of_decide_eq_true c6; rw [if_pos c6] at h
  refine sr_k fun J7 hJ7 => ?_
  simp +decide only [Nat.reduceAdd, Nat.reduceMul, Int.reduceToNat, ak]
  refine hJ7 _ ?_
  refine B4r _ ?_
  obtain rfl := Option.some.inj h
  refine hKr _ ⟨_, rfl, [], _, rfl, rfl, ?_⟩
  first | rfl | (simp only [reduceCtorEq, Nat.reduceEqDiff, ak, akF]; done) | (simp [reduceCtorEq, Nat.reduceEqDiff, ak, akF] <;> omega)
 ·replace c6 := of_decide_eq_false c6; rw [if_neg c6] at h
  refine sr_k fun J8 hJ8 => ?_
  simp +decide only [Nat.reduceAdd, Nat.reduceMul, Int.reduceToNat, ak]
  refine hJ8 _ ?_
  refine cond_k (b := decide (a0 = 2)) rfl (fun c9 => ?_) (fun c9 => ?_)
  ·replace c9 := of_decide_eq_true c9; rw [if_pos c9] at h
   refine sr_k fun J10 hJ10 => ?_
   simp +decide only [Nat.reduceAdd, Nat.reduceMul, Int.reduceToNat, ak]
   refine hJ10 _ ?_
   refine B4r _ ?_
   obtain rfl := Option.some.inj h
   refine hKr _ ⟨_, rfl, [], _, rfl, rfl, ?_⟩
   first | rfl | (simp only [reduceCtorEq, Nat.reduceEqDiff, ak, akF]; done) | (simp [reduceCtorEq, Nat.reduceEqDiff, ak, akF] <;> omega)
  ·replace c9 := of_decide_eq_false c9; rw [if_neg c9] at h
   refine sr_k fun J11 hJ11 => ?_
   simp +decide only [Nat.reduceAdd, Nat.reduceMul, Int.reduceToNat, ak]
   refine hJ11 _ ?_
   refine cond_k (b := decide (a0 = 3)) rfl (fun c12 => ?_) (fun c12 => ?_)
   ·replace c12 := of_decide_eq_true c12; rw [if_pos c12] at h
    refine sr_k fun J13 hJ13 => ?_
    simp +decide only [Nat.reduceAdd, Nat.reduceMul, Int.reduceToNat, ak]
    refine hJ13 _ ?_
    refine B4r _ ?_
    obtain rfl := Option.some.inj h
    refine hKr _ ⟨_, rfl, [], _, rfl, rfl, ?_⟩
    first | rfl | (simp only [reduceCtorEq, Nat.reduceEqDiff, ak, akF]; done) | (simp [reduceCtorEq, Nat.reduceEqDiff, ak, akF] <;> omega)
   ·replace c12 := of_decide_eq_false c12; rw [if_neg c12] at h
    refine sr_k fun J14 hJ14 => ?_
    simp +decide only [Nat.reduceAdd, Nat.reduceMul, Int.reduceToNat, ak]
    refine hJ14 _ ?_
    refine cond_k (b := decide (a0 = 4)) rfl (fun c15 => ?_) (fun c15 => ?_)
    ·replace c15 := of_decide_eq_true c15; rw [if_pos c15] at h
     refine sr_k fun J16 hJ16 => ?_
     simp +decide only [Nat.reduceAdd, Nat.reduceMul, Int.reduceToNat, ak]
     refine hJ16 _ ?_
     refine B4r _ ?_
     obtain rfl := Option.some.inj h
     refine hKr _ ⟨_, rfl, [], _, rfl, rfl, ?_⟩
     first | rfl | (simp only [reduceCtorEq, Nat.reduceEqDiff, ak, akF]; done) | (simp [reduceCtorEq, Nat.reduceEqDiff, ak, akF] <;> omega)
    ·replace c15 := of_decide_eq_false c15; rw [if_neg c15] at h
     refine B4n _ ?_
     refine hJ2 _ ?_
     refine sr_k fun J17 hJ17 => ?_
     simp +decide only [Nat.reduceAdd, Nat.reduceMul, Int.reduceToNat, ak]
     refine hJ17 _ ?_
     obtain rfl := Option.some.inj h
     refine hKr _ ⟨_, rfl, [], _, rfl, rfl, ?_⟩
     first | rfl | (simp only [reduceCtorEq, Nat.reduceEqDiff, ak, akF]; done) | (simp [reduceCtorEq, Nat.reduceEqDiff, ak, akF] <;> omega)
/-! ### impl.validPaths: function 82 -/
def C82_l0 : AC := .seq (.reg [.op none (.bin 16 .lss (.tmp 15) (.tmp 14)), .keep [13, 14, 15, 16]]) (.seq (.cond (.tmp 16) (.skip) (.gh (.exit 0))) (.seq (.block 1 (.seq (.reg [.op none (.iaddr 17 3 (.tmp 13) (.tmp 15)), .op none (.load 18 true 3 (.tmp 17)), .op none (.alloc 4 [.int .i64 0, .int .i64 0, .int .i64 0]), .op none (.store 3 (.tmp 4) (.tmp 18)), .keep [4, 13, 14, 15]]) (.seq (.ga (.reg [.op none (.faddr 19 0 (.tmp 4)), .op none (.load 20 false 1 (.tmp 19)), .op none (.bin 21 .neq (.tmp 20) (.const (.int .i64 0))), .op none (.mv 22 (.tmp 21)), .op (some (22, true)) (.faddr 23 0 (.tmp 4)), .op (some (22, true)) (.load 24 false 1 (.tmp 23)), .op (some (22, true)) (.bin 25 .neq (.tmp 24) (.const (.int .i64 1))), .op none (.pick 26 (.tmp 22) (.tmp 25) (.const (.bool false))), .op none (.mv 27 (.tmp 26)), .op (some (27, false)) (.faddr 28 1 (.tmp 4)), .op (some (27, false)) (.load 29 false 1 (.tmp 28)), .op (some (27, false)) (.bin 30 .lss (.tmp 29) (.const (.int .i64 0))), .op none (.pick 31 (.tmp 27) (.const (.bool true)) (.tmp 30)), .op none (.mv 32 (.tmp 31)), .op (some (32, false)) (.faddr 33 1 (.tmp 4)), .op (some (32, false)) (.load 34 false 1 (.tmp 33)), .op (some (32, false)) (.bin 35 .gtr (.tmp 34) (.const (.int .i64 16))), .op none (.pick 36 (.tmp 32) (.const (.bool true)) (.tmp 35)), .op none (.mv 37 (.tmp 36)), .op (some (37, false)) (.faddr 38 2 (.tmp 4)), .op (some (37, false)) (.load 39 false 1 (.tmp 38)), .op (some (37, false)) (.bin 40 .lss (.tmp 39) (.const (.int .i64 0))), .op none (.pick 41 (.tmp 37) (.const (.bool true)) (.tmp 40)), .op none (.mv 42 (.tmp 41)), .op (some (42, false)) (.faddr 43 2 (.tmp 4)), .op (some (42, false)) (.load 44 false 1 (.tmp 43)), .op (some (42, false)) (.bin 45 .gtr (.tmp 44) (.const (.int .i64 16))), .op none (.pick 46 (.tmp 42) (.const (.bool true)) (.tmp 45)), .keep [13, 14, 15, 46]])) (.cond (.tmp 46) (.seq (.reg [.op none (.mv 2 (.const (.bool false))), .keep [2]]) (.gh .ret)) (.skip))))) (.reg [.op none (.bin 47 .add (.tmp 15) (.const (.int .i64 1))), .op none (.mv 15 (.tmp 47)), .keep [13, 14, 15]])))
def C82 : AC := .seq (.reg [.op none (.mv 2 (.const (.bool false))), .keep [0]]) (.seq (.seq (.ga (.reg [.op none (.mv 5 (.tmp 0)), .op none (.len 6 (.tmp 5)), .op none (.bin 7 .lss (.tmp 6) (.const (.int .i64 1))), .op none (.mv 8 (.tmp 7)), .op (some (8, false)) (.mv 9 (.tmp 0)), .op (some (8, false)) (.len 10 (.tmp 9)), .op (some (8, false)) (.bin 11 .gtr (.tmp 10) (.const (.int .i64 8))), .op none (.pick 12 (.tmp 8) (.const (.bool true)) (.tmp 11)), .keep [0, 12]])) (.cond (.tmp 12) (.seq (.reg [.op none (.mv 2 (.const (.bool false))), .keep [2]]) (.ret)) (.skip))) (.seq (.seq (.reg [.op none (.mv 13 (.tmp 0)), .op none (.len 14 (.tmp 13)), .op none (.mv 15 (.const (.int .i64 0))), .keep [13, 14, 15]]) (.block 0 (.gh (.loop (.ga C82_l0))))) (.seq (.reg [.op none (.mv 2 (.const (.bool true))), .keep [2]]) (.ret))))
def r82 : List RV := [.tmp 2]
theorem k82 : compC Try.prog 48 C82 (Try.f82.body.getD .skip) = some C82.erase := by kernel_rfl
theorem q82 : rvsOf Try.prog Try.f82.results.toList = some r82 := by kernel_rfl
def impl_validPaths.l0 (l0 : List S86) (x0_0 : Int) (x0_1 : Int) : Option (Lp Unit Bool) := (if x0_1 < x0_0 then (if 0 ≤ x0_1 ∧ x0_1 < (l0.length : Int) then ((if (rd z86 l0 x0_1).f0 ≠ 0 then (if (rd z86 l0 x0_1).f0 ≠ 1 then (some true) else (if (rd z86 l0 x0_1).f1 < 0 then (some true) else (if (rd z86 l0 x0_1).f1 > 16 then (some true) else (if (rd z86 l0 x0_1).f2 < 0 then (some true) else (some (decide ((rd z86 l0 x0_1).f2 > 16))))))) else (if (rd z86 l0 x0_1).f1 < 0 then (some true) else (if (rd z86 l0 x0_1).f1 > 16 then (some true) else (if (rd z86 l0 x0_1).f2 < 0 then (some true) else (some (decide ((rd z86 l0 x0_1).f2 > 16))))))) >>= fun (j23 : Bool) => (if j23 = true then (some (.b false)) else (impl_validPaths.l0 l0 x0_0 (IntKind.i64.wrap (x0_1 + 1))))) else none) else (some (.a ())))
 partial_fixpoint
def impl_validPaths.f (l0 : List S86) : Option Bool := ((if (l0.length : Int) < 1 then (some true) else (some (decide ((l0.length : Int) > 8)))) >>= fun (j3 : Bool) => (if j3 = true then (some false) else (impl_validPaths.l0 l0 (l0.length : Int) 0 >>= fun (y53 : Lp Unit Bool) => match y53 with | .a x55 => (some true) | .b x55 => (some x55))))
def impl_validPaths.l0_M (cs0 : List Cell) (o0 : Nat) (l0 : List S86) (hv0 : Vw c86 3 cs0 o0 l0) (x0_0 : Int) (x0_1 : Int) (y : Lp Unit Bool) : Prop := ∀ (K : AE → St → Prop), (∀ x, y = .a x → K (.exit 0) ⟨[], [(.arg 0, ⟨.fz, 3, cs0⟩)], [], []⟩) → (∀ x, y = .b x → K .ret ⟨[(2, .c (.sc (.bool x)))], [(.arg 0, ⟨.fz, 3, cs0⟩)], [], []⟩) → loopS Try.prog 48 (.ga C82_l0) K ⟨[(13, .c (.ref (.arg 0) [] o0 l0.length)), (14, .c (.sc (.int .i64 x0_0))), (15, .c (.sc (.int .i64 x0_1)))], [(.arg 0, ⟨.fz, 3, cs0⟩)], [], []⟩
theorem impl_validPaths.l0_walk (cs0 : List Cell) (o0 : Nat) (l0 : List S86) (hv0 : Vw c86 3 cs0 o0 l0) (x0_0 : Int) (x0_1 : Int) (y : Lp Unit Bool) (h : impl_validPaths.l0 l0 x0_0 x0_1 = some y) : impl_validPaths.l0_M cs0 o0 l0 hv0 x0_0 x0_1 y := by
 refine impl_validPaths.l0.partial_correctness l0 x0_0 (motive := fun x0_1 y => impl_validPaths.l0_M cs0 o0 l0 hv0 x0_0 x0_1 y) ?_ x0_1 y h
 clear h
 unfold impl_validPaths.l0_M
 intro rec ih x0_1 y h K hx0 hx1
 refine loop_unroll (ga_k fun G0 G0n G0r G0x => ?_)
 unfold C82_l0
 refine sr_k fun J15 hJ15 => ?_
 simp +decide only [Nat.reduceAdd, Nat.reduceMul, Int.reduceToNat, ak]
 refine hJ15 _ ?_
 refine seq_k fun J16 hJ16 => ?_
 refine cond_k (b := decide (x0_1 < x0_0)) rfl (fun c17 => ?_) (fun c17 => ?_)
 ·replace c17 := of_decide_eq_true c17; rw [if_pos c17] at h
  refine hJ16 _ ?_
  refine seq_k fun J18 hJ18 => ?_
  refine block_k fun B19 B19n B19x B19r B19j => ?_
  refine sr_k fun J20 hJ20 => ?_
  obtain ⟨b21, h⟩ := of_guard h
  have g22 : (List.drop (o0 + x0_1.toNat * 3) (cs0)).take 3 = [.sc (.int .i64 ((rd z86 l0 x0_1).f0)), .sc (.int .i64 ((rd z86 l0 x0_1).f1)), .sc (.int .i64 ((rd z86 l0 x0_1).f2))] := hv0.stretch z86 b21.1 b21.2
  simp +decide only [Nat.reduceAdd, Nat.reduceMul, Int.reduceToNat, ak, b21, g22]
  refine hJ20 _ ?_
  obtain ⟨j23, h24, hn⟩ := of_bind h
  refine seq_j (fun st => st = ⟨[(13, .c (.ref (.arg 0) [] o0 l0.length)), (14, .c (.sc (.int .i64 x0_0))), (15, .c (.sc (.int .i64 x0_1))), (46, .c (.sc (.bool j23)))], [(.arg 0, ⟨.fz, 3, cs0⟩)], [], []⟩) (fun J25 hJ25 => ?_) ?_
  ·replace h := h24; clear hn
   refine ga_k fun G26 G26n G26r G26x => ?_
   refine reg_k ?_
   simp +decide only [Nat.reduceAdd, Nat.reduceMul, Int.reduceToNat, ak]
   by_cases c27 : (rd z86 l0 x0_1).f0 ≠ 0
   ·rw [if_pos c27] at h
    have e28 : decide ((rd z86 l0 x0_1).f0 ≠ 0) = true := decide_eq_true c27
    simp +decide only [Nat.reduceAdd, Nat.reduceMul, Int.reduceToNat, ak, e28]
    by_cases c29 : (rd z86 l0 x0_1).f0 ≠ 1
    ·rw [if_pos c29] at h
     have e30 : decide ((rd z86 l0 x0_1).f0 ≠ 1) = true := decide_eq_true c29
     simp +decide only [Nat.reduceAdd, Nat.reduceMul, Int.reduceToNat, ak, e30]
     obtain rfl := Option.some.inj h
     refine G26n _ _ (wk [13, 14, 15, 46] [pI (.arg 0) .fz] (h0 := by first | rfl | simp +decide only [ak, akF, b21, e28, e30]) (h := by first | rfl | (simp +decide only [ak, akF, b21, e28, e30]; done) | (simp +decide [ak, akF, b21, e28, e30] <;> omega))) (hJ25 _ rfl)
    ·rw [if_neg c29] at h
     have e31 : decide ((rd z86 l0 x0_1).f0 ≠ 1) = false := decide_eq_false c29
     simp +decide only [Nat.reduceAdd, Nat.reduceMul, Int.reduceToNat, ak, e31]
     by_cases c32 : (rd z86 l0 x0_1).f1 < 0
     ·rw [if_pos c32] at h
      have e33 : decide ((rd z86 l0 x0_1).f1 < 0) = true := decide_eq_true c32
      simp +decide only [Nat.reduceAdd, Nat.reduceMul, Int.reduceToNat, ak, e33]
      obtain rfl := Option.some.inj h
      refine G26n _ _ (wk [13, 14, 15, 46] [pI (.arg 0) .fz] (h0 := by first | rfl | simp +decide only [ak, akF, b21, e28, e31, e33]) (h := by first | rfl | (simp +decide only [ak, akF, b21, e28, e31, e33]; done) | (simp +decide [ak, akF, b21, e28, e31, e33] <;> omega))) (hJ25 _ rfl)
     ·rw [if_neg c32] at h
      have e34 : decide ((rd z86 l0 x0_1).f1 < 0) = false := decide_eq_false c32
      simp +decide only [Nat.reduceAdd, Nat.reduceMul, Int.reduceToNat, ak, e34]
      by_cases c35 : (rd z86 l0 x0_1).f1 > 16
      ·rw [if_pos c35] at h
       have e36 : decide ((rd z86 l0 x0_1).f1 > 16) = true := decide_eq_true c35
       simp +decide only [Nat.reduceAdd, Nat.reduceMul, Int.reduceToNat, ak, e36]
       obtain rfl := Option.some.inj h
       refine G26n _ _ (wk [13, 14, 15, 46] [pI (.arg 0) .fz] (h0 := by first | rfl | simp +decide only [ak, akF, b21, e28, e31, e34, e36]) (h := by first | rfl | (simp +decide only [ak, akF, b21, e28, e31, e34, e36]; done) | (simp +decide [ak, akF, b21, e28, e31, e34, e36] <;> omega))) (hJ25 _ rfl)
      ·rw [if_neg c35] at h
       have e37 : decide ((rd z86 l0 x0_1).f1 > 16) = false := decide_eq_false c35
       simp +decide only [Nat.reduceAdd, Nat.reduceMul, Int.reduceToNat, ak, e37]
       by_cases c38 : (rd z86 l0 x0_1).f2 < 0
       ·rw [if_pos c38] at h
        have e39 : decide ((rd z86 l0 x0_1).f2 < 0) = true := decide_eq_true c38
        simp +decide only [Nat.reduceAdd, Nat.reduceMul, Int.reduceToNat, ak, e39]
        obtain rfl := Option.some.inj h
        refine G26n _ _ (wk [13, 14, 15, 46] [pI (.arg 0) .fz] (h0 := by first | rfl | simp +decide only [ak, akF, b21, e28, e31, e34, e37, e39]) (h := by first | rfl | (simp +decide only [ak, akF, b21, e28, e31, e34, e37, e39]; done) | (simp +decide [ak, akF, b21, e28, e31, e34, e37, e39] <;> omega))) (hJ25 _ rfl)
       ·rw [if_neg c38] at h
        have e40 : decide ((rd z86 l0 x0_1).f2 < 0) = false := decide_eq_false c38
        simp +decide only [Nat.reduceAdd, Nat.reduceMul, Int.reduceToNat, ak, e40]
        obtain rfl := Option.some.inj h
        refine G26n _ _ (wk [13, 14, 15, 46] [pI (.arg 0) .fz] (h0 := by first | rfl | simp +decide only [ak, akF, b21, e28, e31, e34, e37, e40]) (h := by first | rfl | (simp +decide only [ak, akF, b21, e28, e31, e34, e37, e40]; done) | (simp +decide [ak, akF, b21, e28, e31, e34, e37, e40] <;> omega))) (hJ25 _ rfl)
   ·rw [if_neg c27] at h
    have e41 : decide ((rd z86 l0 x0_1).f0 ≠ 0) = false := decide_eq_false c27
    simp +decide only [Nat.reduceAdd, Nat.reduceMul, Int.reduceToNat, ak, e41]
    by_cases c42 : (rd z86 l0 x0_1).f1 < 0
    ·rw [if_pos c42] at h
     have e43 : decide ((rd z86 l0 x0_1).f1 < 0) = true := decide_eq_true c42
     simp +decide only [Nat.reduceAdd, Nat.reduceMul, Int.reduceToNat, ak, e43]
     obtain rfl := Option.some.inj h
     refine G26n _ _ (wk [13, 14, 15, 46] [pI (.arg 0) .fz] (h0 := by first | rfl | simp +decide only [ak, akF, b21, e41, e43]) (h := by first | rfl | (simp +decide only [ak, akF, b21, e41, e43]; done) | (simp +decide [ak, akF, b21, e41, e43] <;> omega))) (hJ25 _ rfl)
    ·rw [if_neg c42] at h
     have e44 : decide ((rd z86 l0 x0_1).f1 < 0) = false := decide_eq_false c42
     simp +decide only [Nat.reduceAdd, Nat.reduceMul, Int.reduceToNat, ak, e44]
     by_cases c45 : (rd z86 l0 x0_1).f1 > 16
     ·rw [if_pos c45] at h
      have e46 : decide ((rd z86 l0 x0_1).f1 > 16) = true := decide_eq_true c45
      simp +decide only [Nat.reduceAdd, Nat.reduceMul, Int.reduceToNat, ak, e46]
      obtain rfl := Option.some.inj h
      refine G26n _ _ (wk [13, 14, 15, 46] [pI (.arg 0) .fz] (h0 := by first | rfl | simp +decide only [ak, akF, b21, e41, e44, e46]) (h := by first | rfl | (simp +decide only [ak, akF, b21, e41, e44, e46]; done) | (simp +decide [ak, akF, b21, e41, e44, e46] <;> omega))) (hJ25 _ rfl)
     ·rw [if_neg c45] at h
      have e47 : decide ((rd z86 l0 x0_1).f1 > 16) = false := decide_eq_false c45
      simp +decide only [Nat.reduceAdd, Nat.reduceMul, Int.reduceToNat, ak, e47]
      by_cases c48 : (rd z86 l0 x0_1).f2 < 0
      ·rw [if_pos c48] at h
       have e49 : decide ((rd z86 l0 x0_1).f2 < 0) = true := decide_eq_true c48
       simp +decide only [Nat.reduceAdd, Nat.reduceMul, Int.reduceToNat, ak, e49]
       obtain rfl := Option.some.inj h
       refine G26n _ _ (wk [13, 14, 15, 46] [pI (.arg 0) .fz] (h0 := by first | rfl | simp +decide only [ak, akF, b21, e41, e44, e47, e49]) (h := by first | rfl | (simp +decide only [ak, akF, b21, e41, e44, e47, e49]; done) | (simp +decide [ak, akF, b21, e41, e44, e47, e49] <;> omega))) (hJ25 _ rfl)
      ·rw [if_neg c48] at h
       have e50 : decide ((rd z86 l0 x0_1).f2 < 0) = false := decide_eq_false c48
       simp +decide only [Nat.reduceAdd, Nat.reduceMul, Int.reduceToNat, ak, e50]
       obtain rfl := Option.some.inj h
       refine G26n _ _ (wk [13, 14, 15, 46] [pI (.arg 0) .fz] (h0 := by first | rfl | simp +decide only [ak, akF, b21, e41, e44, e47, e50]) (h := by first | rfl | (simp +decide only [ak, akF, b21, e41, e44, e47, e50]; done) | (simp +decide [ak, akF, b21, e41, e44, e47, e50] <;> omega))) (hJ25 _ rfl)
  ·replace h := hn; clear hn h24
   rintro _ rfl
   refine cond_k (b := j23) rfl (fun c51 => ?_) (fun c51 => ?_)
   ·rw [if_pos c51] at h
    refine sr_k fun J52 hJ52 => ?_
    simp +decide only [Nat.reduceAdd, Nat.reduceMul, Int.reduceToNat, ak]
    refine hJ52 _ ?_
    obtain rfl := Option.some.inj h
    refine gh_k (wk [2] [pI (.arg 0) .fz]) ?_
    refine B19r _ ?_
    refine G0r _ ?_
    exact hx1 _ rfl
   ·rw [if_neg (Bool.eq_false_iff.1 c51)] at h
    refine B19n _ ?_
    refine hJ18 _ ?_
    refine reg_k ?_
    simp +decide only [Nat.reduceAdd, Nat.reduceMul, Int.reduceToNat, ak]
    refine G0n _ _ (wk [13, 14, 15] [pI (.arg 0) .fz]) (ih _ _ h K hx0 hx1)
 ·replace c17 := of_decide_eq_false c17; rw [if_neg c17] at h
  obtain rfl := Option.some.inj h
  refine gh_k (wk [] [pI (.arg 0) .fz]) ?_
  refine G0x _ _ ?_
  exact hx0 _ rfl
theorem impl_validPaths.tri (cs0 : List Cell) (o0 : Nat) (l0 : List S86) (hv0 : Vw c86 3 cs0 o0 l0) (r : Bool) (h : impl_validPaths.f l0 = some r) : Tri Try.prog 82 [.c (.ref (.arg 0) [] o0 l0.length)] [(.arg 0, ⟨.fz, 3, cs0⟩)] (fun o => o = ⟨.c (.sc (.bool r)), [(.arg 0, ⟨.fz, 3, cs0⟩)], [], []⟩) := by
 refine tri_of_body (ac := C82) (xs := r82) Try.func82 (show Try.f82.body = some (Try.f82.body.getD .skip) from rfl) k82 q82 (Nat.le_of_ble_eq_true rfl) ?_
 refine body_of fun K hKn hKr => ?_
 unfold impl_validPaths.f at h
 unfold C82
 simp only [initT, Nat.reduceAdd]
 refine sr_k fun J1 hJ1 => ?_
 simp +decide only [Nat.reduceAdd, Nat.reduceMul, Int.reduceToNat, ak]
 refine hJ1 _ ?_
 refine seq_k fun J2 hJ2 => ?_
 obtain ⟨j3, h4, hn⟩ := of_bind h
 refine seq_j (fun st => st = ⟨[(0, .c (.ref (.arg 0) [] o0 l0.length)), (12, .c (.sc (.bool j3)))], [(.arg 0, ⟨.fz, 3, cs0⟩)], [], []⟩) (fun J5 hJ5 => ?_) ?_
 ·replace h := h4; clear hn
  refine ga_k fun G6 G6n G6r G6x => ?_
  refine reg_k ?_
  simp +decide only [Nat.reduceAdd, Nat.reduceMul, Int.reduceToNat, ak]
  by_cases c7 : (l0.length : Int) < 1
  ·rw [if_pos c7] at h
   have e8 : decide ((l0.length : Int) < 1) = true := decide_eq_true c7
   simp +decide only [Nat.reduceAdd, Nat.reduceMul, Int.reduceToNat, ak, e8]
   obtain rfl := Option.some.inj h
   refine G6n _ _ (wk [0, 12] [pI (.arg 0) .fz] (h0 := by first | rfl | simp +decide only [ak, akF, e8]) (h := by first | rfl | (simp +decide only [ak, akF, e8]; done) | (simp +decide [ak, akF, e8] <;> omega))) (hJ5 _ rfl)
  ·rw [if_neg c7] at h
   have e9 : decide ((l0.length : Int) < 1) = false := decide_eq_false c7
   simp +decide only [Nat.reduceAdd, Nat.reduceMul, Int.reduceToNat, ak, e9]
   obtain rfl := Option.some.inj h
   refine G6n _ _ (wk [0, 12] [pI (.arg 0) .fz] (h0 := by first | rfl | simp +decide only [ak, akF, e9]) (h := by first | rfl | (simp +decide only [ak, akF, e9]; done) | (simp +decide [ak, akF, e9] <;> omega))) (hJ5 _ rfl)
 ·replace h := hn; clear hn h4
  rintro _ rfl
  refine cond_k (b := j3) rfl (fun c10 => ?_) (fun c10 => ?_)
  ·rw [if_pos c10] at h
   refine sr_k fun J11 hJ11 => ?_
   simp +decide only [Nat.reduceAdd, Nat.reduceMul, Int.reduceToNat, ak]
   refine hJ11 _ ?_
   obtain rfl := Option.some.inj h
   refine hKr _ ⟨_, rfl, [], _, rfl, rfl, ?_⟩
   first | rfl | (simp only [reduceCtorEq, Nat.reduceEqDiff, ak, akF]; done) | (simp [reduceCtorEq, Nat.reduceEqDiff, ak, akF] <;> omega)
  ·rw [if_neg (Bool.eq_false_iff.1 c10)] at h
   refine hJ2 _ ?_
   refine seq_k fun J12 hJ12 => ?_
   refine sr_k fun J13 hJ13 => ?_
   simp +decide only [Nat.reduceAdd, Nat.reduceMul, Int.reduceToNat, ak]
   refine hJ13 _ ?_
   refine block_k fun B14 B14n B14x B14r B14j => ?_
   obtain ⟨y53, h54, h⟩ := of_bind h
   refine gh_k (wk [13, 14, 15] [pI (.arg 0) .fz]) ?_
   rw [e_loop]
   refine impl_validPaths.l0_walk cs0 o0 l0 hv0 (l0.length : Int) 0 _ h54 _ ?_ ?_
   ·rintro x55 rfl
    dsimp only at h
    refine B14x _ ?_
    refine hJ12 _ ?_
    refine sr_k fun J56 hJ56 => ?_
    simp +decide only [Nat.reduceAdd, Nat.reduceMul, Int.reduceToNat, ak]
    refine hJ56 _ ?_
    obtain rfl := Option.some.inj h
    refine hKr _ ⟨_, rfl, [], _, rfl, rfl, ?_⟩
    first | rfl | (simp only [reduceCtorEq, Nat.reduceEqDiff, ak, akF]; done) | (simp [reduceCtorEq, Nat.reduceEqDiff, ak, akF] <;> omega)
   ·rintro x55 rfl
    dsimp only at h
    refine B14r _ ?_
    obtain rfl := Option.some.inj h
    refine hKr _ ⟨_, rfl, [], _, rfl, rfl, ?_⟩
    first | rfl | (simp only [reduceCtorEq, Nat.reduceEqDiff, ak, akF]; done) | (simp [reduceCtorEq, Nat.reduceEqDiff, ak, akF] <;> omega)
/-! ### impl.validMaps: function 74 -/
def C74_l0 : AC := .seq (.reg [.op none (.bin 13 .lss (.tmp 12) (.tmp 11)), .keep [0, 10, 11, 12, 13]]) (.seq (.cond (.tmp 13) (.skip) (.gh (.exit 0))) (.seq (.block 1 (.seq (.reg [.op none (.mv 14 (.tmp 12)), .op none (.iaddr 15 5 (.tmp 10) (.tmp 12)), .op none (.load 16 true 5 (.tmp 15)), .op none (.alloc 4 [.int .u64 0, .int .i64 0, .int .i64 0, .int .i64 0, .int .i64 0]), .op none (.mv 3 (.tmp 14)), .op none (.store 5 (.tmp 4) (.tmp 16)), .keep [0, 3, 4, 10, 11, 12]]) (.seq (.ga (.reg [.op none (.faddr 17 2 (.tmp 4)), .op none (.load 18 false 1 (.tmp 17)), .op none (.bin 19 .eql (.tmp 18) (.const (.int .i64 0))), .op none (.mv 20 (.tmp 19)), .op (some (20, true)) (.faddr 21 1 (.tmp 4)), .op (some (20, true)) (.load 22 false 1 (.tmp 21)), .op (some (20, true)) (.bin 23 .geq (.tmp 22) (.const (.int .i64 1))), .op none (.pick 24 (.tmp 20) (.tmp 23) (.const (.bool false))), .op none (.mv 25 (.tmp 24)), .op (some (25, true)) (.faddr 26 1 (.tmp 4)), .op (some (25, true)) (.load 27 false 1 (.tmp 26)), .op (some (25, true)) (.bin 28 .leq (.tmp 27) (.const (.int .i64 32))), .op none (.pick 29 (.tmp 25) (.tmp 28) (.const (.bool false))), .op none (.mv 5 (.tmp 29)), .keep [0, 3, 4, 5, 10, 11, 12]])) (.seq (.ga (.reg [.op none (.faddr 30 2 (.tmp 4)), .op none (.load 31 false 1 (.tmp 30)), .op none (.bin 32 .eql (.tmp 31) (.const (.int .i64 1))), .op none (.mv 33 (.tmp 32)), .op (some (33, true)) (.faddr 34 1 (.tmp 4)), .op (some (33, true)) (.load 35 false 1 (.tmp 34)), .op (some (33, true)) (.bin 36 .eql (.tmp 35) (.const (.int .i64 0))), .op none (.pick 37 (.tmp 33) (.tmp 36) (.const (.bool false))), .op none (.mv 38 (.tmp 37)), .op (some (38, true)) (.mv 39 (.tmp 3)), .op (some (38, true)) (.mv 40 (.tmp 0)), .op (some (38, true)) (.len 41 (.tmp 40)), .op (some (38, true)) (.bin 42 .sub (.tmp 41) (.const (.int .i64 1))), .op (some (38, true)) (.bin 43 .eql (.tmp 39) (.tmp 42)), .op none (.pick 44 (.tmp 38) (.tmp 43) (.const (.bool false))), .op none (.mv 6 (.tmp 44)), .keep [0, 3, 4, 5, 6, 10, 11, 12]])) (.seq (.seq (.ga (.reg [.op none (.faddr 45 0 (.tmp 4)), .op none (.load 46 false 1 (.tmp 45)), .op none (.bin 47 .gtr (.tmp 46) (.const (.int .u64 4611686018427387904))), .op none (.mv 48 (.tmp 47)), .op (some (48, false)) (.mv 49 (.tmp 5)), .op (some (48, false)) (.un 50 .not (.tmp 49)), .op (some (48, false)) (.mv 51 (.tmp 50)), .op (some (51, true)) (.mv 52 (.tmp 6)), .op (some (51, true)) (.un 53 .not (.tmp 52)), .op (some (48, false)) (.pick 54 (.tmp 51) (.tmp 53) (.const (.bool false))), .op none (.pick 55 (.tmp 48) (.const (.bool true)) (.tmp 54)), .op none (.mv 56 (.tmp 55)), .op (some (56, false)) (.faddr 57 3 (.tmp 4)), .op (some (56, false)) (.load 58 false 1 (.tmp 57)), .op (some (56, false)) (.bin 59 .lss (.tmp 58) (.const (.int .i64 1))), .op none (.pick 60 (.tmp 56) (.const (.bool true)) (.tmp 59)), .op none (.mv 61 (.tmp 60)), .op (some (61, false)) (.faddr 62 3 (.tmp 4)), .op (some (61, false)) (.load 63 false 1 (.tmp 62)), .op (some (61, false)) (.bin 64 .gtr (.tmp 63) (.const (.int .i64 255))), .op none (.pick 65 (.tmp 61) (.const (.bool true)) (.tmp 64)), .op none (.mv 66 (.tmp 65)), .op (some (66, false)) (.faddr 67 4 (.tmp 4)), .op (some (66, false)) (.load 68 false 1 (.tmp 67)), .op (some (66, false)) (.bin 69 .neq (.tmp 68) (.const (.int .i64 0))), .op (some (66, false)) (.mv 70 (.tmp 69)), .op (some (70, true)) (.faddr 71 4 (.tmp 4)), .op (some (70, true)) (.load 72 false 1 (.tmp 71)), .op (some (70, true)) (.bin 73 .neq (.tmp 72) (.const (.int .i64 1))), .op (some (66, false)) (.pick 74 (.tmp 70) (.tmp 73) (.const (.bool false))), .op none (.pick 75 (.tmp 66) (.const (.bool true)) (.tmp 74)), .keep [0, 3, 4, 10, 11, 12, 75]])) (.cond (.tmp 75) (.seq (.reg [.op none (.mv 2 (.const (.bool false))), .keep [2]]) (.gh .ret)) (.skip))) (.seq (.ga (.regD (.first (.op none (.mv 76 (.tmp 3))) (.first (.op none (.bin 77 .gtr (.tmp 76) (.const (.int .i64 0)))) (.first (.op none (.mv 78 (.tmp 77))) (.first (.op (some (78, true)) (.faddr 79 0 (.tmp 4))) (.first (.op (some (78, true)) (.load 80 false 1 (.tmp 79))) (.first (.op (some (78, true)) (.mv 81 (.tmp 0))) (.first (.op (some (78, true)) (.mv 82 (.tmp 3))) (.first (.op (some (78, true)) (.bin 83 .sub (.tmp 82) (.const (.int .i64 1)))) (.first (.op (some (78, true)) (.iaddr 84 5 (.tmp 81) (.tmp 83))) (.first (.op (some (78, true)) (.faddr 85 0 (.tmp 84))) (.first (.op (some (78, true)) (.load 86 false 1 (.tmp 85))) (.first (.op (some (78, true)) (.mv 87 (.tmp 0))) (.first (.op (some (78, true)) (.mv 88 (.tmp 3))) (.first (.op (some (78, true)) (.bin 89 .sub (.tmp 88) (.const (.int .i64 1)))) (.first (.op (some (78, true)) (.iaddr 90 5 (.tmp 87) (.tmp 89))) (.first (.op (some (78, true)) (.faddr 91 1 (.tmp 90))) (.first (.op (some (78, true)) (.load 92 false 1 (.tmp 91))) (.first (.op (some (78, true)) (.conv 93 .u64 (.tmp 92))) (.first (.op (some (78, true)) (.bin 94 .add (.tmp 86) (.tmp 93))) (.first (.op (some (78, true)) (.bin 95 .lss (.tmp 80) (.tmp 94))) (.first (.op none (.pick 96 (.tmp 78) (.tmp 95) (.const (.bool false)))) (.done)))))))))))))))))))))) [0, 10, 11, 12, 96])) (.cond (.tmp 96) (.seq (.reg [.op none (.mv 2 (.const (.bool false))), .keep [2]]) (.gh .ret)) (.skip)))))))) (.reg [.op none (.bin 97 .add (.tmp 12) (.const (.int .i64 1))), .op none (.mv 12 (.tmp 97)), .keep [0, 10, 11, 12]])))
def C74 : AC := .seq (.reg [.op none (.mv 2 (.const (.bool false))), .keep [0]]) (.seq (.seq (.reg [.op none (.mv 7 (.tmp 0)), .op none (.len 8 (.tmp 7)), .op none (.bin 9 .gtr (.tmp 8) (.const (.int .i64 256))), .keep [0, 9]]) (.cond (.tmp 9) (.seq (.reg [.op none (.mv 2 (.const (.bool false))), .keep [2]]) (.ret)) (.skip))) (.seq (.seq (.reg [.op none (.mv 10 (.tmp 0)), .op none (.len 11 (.tmp 10)), .op none (.mv 12 (.const (.int .i64 0))), .keep [0, 10, 11, 12]]) (.block 0 (.gh (.loop (.ga C74_l0))))) (.seq (.reg [.op none (.mv 2 (.const (.bool true))), .keep [2]]) (.ret))))
def r74 : List RV := [.tmp 2]
theorem k74 : compC Try.prog 98 C74 (Try.f74.body.getD .skip) = some C74.erase := by kernel_rfl
theorem q74 : rvsOf Try.prog Try.f74.results.toList = some r74 := by kernel_rfl
def impl_validMaps.l0 (l0 : List S84) (x0_0 : Int) (x0_1 : Int) : Option (Lp Unit Bool) := (if x0_1 < x0_0 then (if 0 ≤ x0_1 ∧ x0_1 < (l0.length : Int) then ((if (rd z84 l0 x0_1).f2 = 0 then (if (rd z84 l0 x0_1).f1 ≥ 1 then (some (decide ((rd z84 l0 x0_1).f1 ≤ 32))) else (some false)) else (some false)) >>= fun (j17 : Bool) => ((if (rd z84 l0 x0_1).f2 = 1 then (if (rd z84 l0 x0_1).f1 = 0 then (some (decide (x0_1 = IntKind.i64.wrap ((l0.length : Int) - 1)))) else (some false)) else (some false)) >>= fun (j27 : Bool) => ((if (rd z84 l0 x0_1).f0 > 4611686018427387904 then (some true) else (if (!j17) = true then (if (!j27) = true then (some true) else (if (rd z84 l0 x0_1).f3 < 1 then (some true) else (if (rd z84 l0 x0_1).f3 > 255 then (some true) else (if (rd z84 l0 x0_1).f4 ≠ 0 then (some (decide ((rd z84 l0 x0_1).f4 ≠ 1))) else (some false))))) else (if (rd z84 l0 x0_1).f3 < 1 then (some true) else (if (rd z84 l0 x0_1).f3 > 255 then (some true) else (if (rd z84 l0 x0_1).f4 ≠ 0 then (some (decide ((rd z84 l0 x0_1).f4 ≠ 1))) else (some false)))))) >>= fun (j38 : Bool) => (if j38 = true then (some (.b false)) else ((if x0_1 > 0 then (if 0 ≤ IntKind.i64.wrap (x0_1 - 1) ∧ IntKind.i64.wrap (x0_1 - 1) < (l0.length : Int) then (some (decide ((rd z84 l0 x0_1).f0 < IntKind.u64.wrap (((rd z84 l0 (IntKind.i64.wrap (x0_1 - 1))).f0) + (IntKind.u64.wrap ((rd z84 l0 (IntKind.i64.wrap (x0_1 - 1))).f1)))))) else none) else (some false)) >>= fun (j71 : Bool) => (if j71 = true then (some (.b false)) else (impl_validMaps.l0 l0 x0_0 (IntKind.i64.wrap (x0_1 + 1))))))))) else none) else (some (.a ())))
 partial_fixpoint
def impl_validMaps.f (l0 : List S84) : Option Bool := (if (l0.length : Int) > 256 then (some false) else (impl_validMaps.l0 l0 (l0.length : Int) 0 >>= fun (y85 : Lp Unit Bool) => match y85 with | .a x87 => (some true) | .b x87 => (some x87)))
def impl_validMaps.l0_M (cs0 : List Cell) (o0 : Nat) (l0 : List S84) (hv0 : Vw c84 5 cs0 o0 l0) (x0_0 : Int) (x0_1 : Int) (y : Lp Unit Bool) : Prop := ∀ (K : AE → St → Prop), (∀ x, y = .a x → K (.exit 0) ⟨[], [(.arg 0, ⟨.fz, 5, cs0⟩)], [], []⟩) → (∀ x, y = .b x → K .ret ⟨[(2, .c (.sc (.bool x)))], [(.arg 0, ⟨.fz, 5, cs0⟩)], [], []⟩) → loopS Try.prog 98 (.ga C74_l0) K ⟨[(0, .c (.ref (.arg 0) [] o0 l0.length)), (10, .c (.ref (.arg 0) [] o0 l0.length)), (11, .c (.sc (.int .i64 x0_0))), (12, .c (.sc (.int .i64 x0_1)))], [(.arg 0, ⟨.fz, 5, cs0⟩)], [], []⟩
theorem impl_validMaps.l0_walk (cs0 : List Cell) (o0 : Nat) (l0 : List S84) (hv0 : Vw c84 5 cs0 o0 l0) (x0_0 : Int) (x0_1 : Int) (y : Lp Unit Bool) (h : impl_validMaps.l0 l0 x0_0 x0_1 = some y) : impl_validMaps.l0_M cs0 o0 l0 hv0 x0_0 x0_1 y := by
 refine impl_validMaps.l0.partial_correctness l0 x0_0 (motive := fun x0_1 y => impl_validMaps.l0_M cs0 o0 l0 hv0 x0_0 x0_1 y) ?_ x0_1 y h
 clear h
 unfold impl_validMaps.l0_M
 intro rec ih x0_1 y h K hx0 hx1
 refine loop_unroll (ga_k fun G0 G0n G0r G0x => ?_)
 unfold C74_l0
 refine sr_k fun J9 hJ9 => ?_
 simp +decide only [Nat.reduceAdd, Nat.reduceMul, Int.reduceToNat, ak]
 refine hJ9 _ ?_
 refine seq_k fun J10 hJ10 => ?_
 refine cond_k (b := decide (x0_1 < x0_0)) rfl (fun c11 => ?_) (fun c11 => ?_)
 ·replace c11 := of_decide_eq_true c11; rw [if_pos c11] at h
  refine hJ10 _ ?_
  refine seq_k fun J12 hJ12 => ?_
  refine block_k fun B13 B13n B13x B13r B13j => ?_
  refine sr_k fun J14 hJ14 => ?_
  obtain ⟨b15, h⟩ := of_guard h
  have g16 : (List.drop (o0 + x0_1.toNat * 5) (cs0)).take 5 = [.sc (.int .u64 ((rd z84 l0 x0_1).f0)), .sc (.int .i64 ((rd z84 l0 x0_1).f1)), .sc (.int .i64 ((rd z84 l0 x0_1).f2)), .sc (.int .i64 ((rd z84 l0 x0_1).f3)), .sc (.int .i64 ((rd z84 l0 x0_1).f4))] := hv0.stretch z84 b15.1 b15.2
  simp +decide only [Nat.reduceAdd, Nat.reduceMul, Int.reduceToNat, ak, b15, g16]
  refine hJ14 _ ?_
  obtain ⟨j17, h18, hn⟩ := of_bind h
  refine seq_j (fun st => st = ⟨[(0, .c (.ref (.arg 0) [] o0 l0.length)), (3, .c (.sc (.int .i64 x0_1))), (4, .c (.ptr (.tmp 4 0) [] 0)), (5, .c (.sc (.bool j17))), (10, .c (.ref (.arg 0) [] o0 l0.length)), (11, .c (.sc (.int .i64 x0_0))), (12, .c (.sc (.int .i64 x0_1)))], [(.arg 0, ⟨.fz, 5, cs0⟩), (.tmp 4 0, ⟨.box, 0, [.sc (.int .u64 ((rd z84 l0 x0_1).f0)), .sc (.int .i64 ((rd z84 l0 x0_1).f1)), .sc (.int .i64 ((rd z84 l0 x0_1).f2)), .sc (.int .i64 ((rd z84 l0 x0_1).f3)), .sc (.int .i64 ((rd z84 l0 x0_1).f4))]⟩)], [], []⟩) (fun J19 hJ19 => ?_) ?_
  ·replace h := h18; clear hn
   refine ga_k fun G20 G20n G20r G20x => ?_
   refine reg_k ?_
   simp +decide only [Nat.reduceAdd, Nat.reduceMul, Int.reduceToNat, ak]
   by_cases c21 : (rd z84 l0 x0_1).f2 = 0
   ·rw [if_pos c21] at h
    have e22 : decide ((rd z84 l0 x0_1).f2 = 0) = true := decide_eq_true c21
    simp +decide only [Nat.reduceAdd, Nat.reduceMul, Int.reduceToNat, ak, e22]
    by_cases c23 : (rd z84 l0 x0_1).f1 ≥ 1
    ·rw [if_pos c23] at h
     have e24 : decide ((rd z84 l0 x0_1).f1 ≥ 1) = true := decide_eq_true c23
     simp +decide only [Nat.reduceAdd, Nat.reduceMul, Int.reduceToNat, ak, e24]
     obtain rfl := Option.some.inj h
     refine G20n _ _ (wk [0, 3, 4, 5, 10, 11, 12] [pI (.arg 0) .fz, pI (.tmp 4 0) .box] (h0 := by first | rfl | simp +decide only [ak, akF, b15, e22, e24]) (h := by first | rfl | (simp +decide only [ak, akF, b15, e22, e24]; done) | (simp +decide [ak, akF, b15, e22, e24] <;> omega))) (hJ19 _ rfl)
    ·rw [if_neg c23] at h
     have e25 : decide ((rd z84 l0 x0_1).f1 ≥ 1) = false := decide_eq_false c23
     simp +decide only [Nat.reduceAdd, Nat.reduceMul, Int.reduceToNat, ak, e25]
     obtain rfl := Option.some.inj h
     refine G20n _ _ (wk [0, 3, 4, 5, 10, 11, 12] [pI (.arg 0) .fz, pI (.tmp 4 0) .box] (h0 := by first | rfl | simp +decide only [ak, akF, b15, e22, e25]) (h := by first | rfl | (simp +decide only [ak, akF, b15, e22, e25]; done) | (simp +decide [ak, akF, b15, e22, e25] <;> omega))) (hJ19 _ rfl)
   ·rw [if_neg c21] at h
    have e26 : decide ((rd z84 l0 x0_1).f2 = 0) = false := decide_eq_false c21
    simp +decide only [Nat.reduceAdd, Nat.reduceMul, Int.reduceToNat, ak, e26]
    obtain rfl := Option.some.inj h
    refine G20n _ _ (wk [0, 3, 4, 5, 10, 11, 12] [pI (.arg 0) .fz, pI (.tmp 4 0) .box] (h0 := by first | rfl | simp +decide only [ak, akF, b15, e26]) (h := by first | rfl | (simp +decide only [ak, akF, b15, e26]; done) | (simp +decide [ak, akF, b15, e26] <;> omega))) (hJ19 _ rfl)
  ·replace h := hn; clear hn h18
   rintro _ rfl
   obtain ⟨j27, h28, hn⟩ := of_bind h
   refine seq_j (fun st => st = ⟨[(0, .c (.ref (.arg 0) [] o0 l0.length)), (3, .c (.sc (.int .i64 x0_1))), (4, .c (.ptr (.tmp 4 0) [] 0)), (5, .c (.sc (.bool j17))), (6, .c (.sc (.bool j27))), (10, .c (.ref (.arg 0) [] o0 l0.length)), (11, .c (.sc (.int .i64 x0_0))), (12, .c (.sc (.int .i64 x0_1)))], [(.arg 0, ⟨.fz, 5, cs0⟩), (.tmp 4 0, ⟨.box, 0, [.sc (.int .u64 ((rd z84 l0 x0_1).f0)), .sc (.int .i64 ((rd z84 l0 x0_1).f1)), .sc (.int .i64 ((rd z84 l0 x0_1).f2)), .sc (.int .i64 ((rd z84 l0 x0_1).f3)), .sc (.int .i64 ((rd z84 l0 x0_1).f4))]⟩)], [], []⟩) (fun J29 hJ29 => ?_) ?_
   ·replace h := h28; clear hn
    refine ga_k fun G30 G30n G30r G30x => ?_
    refine reg_k ?_
    simp +decide only [Nat.reduceAdd, Nat.reduceMul, Int.reduceToNat, ak]
    by_cases c31 : (rd z84 l0 x0_1).f2 = 1
    ·rw [if_pos c31] at h
     have e32 : decide ((rd z84 l0 x0_1).f2 = 1) = true := decide_eq_true c31
     simp +decide only [Nat.reduceAdd, Nat.reduceMul, Int.reduceToNat, ak, e32]
     by_cases c33 : (rd z84 l0 x0_1).f1 = 0
     ·rw [if_pos c33] at h
      have e34 : decide ((rd z84 l0 x0_1).f1 = 0) = true := decide_eq_true c33
      simp +decide only [Nat.reduceAdd, Nat.reduceMul, Int.reduceToNat, ak, e34]
      obtain rfl := Option.some.inj h
      refine G30n _ _ (wk [0, 3, 4, 5, 6, 10, 11, 12] [pI (.arg 0) .fz, pI (.tmp 4 0) .box] (h0 := by first | rfl | simp +decide only [ak, akF, b15, e32, e34]) (h := by first | rfl | (simp +decide only [ak, akF, b15, e32, e34]; done) | (simp +decide [ak, akF, b15, e32, e34] <;> omega))) (hJ29 _ rfl)
     ·rw [if_neg c33] at h
      have e35 : decide ((rd z84 l0 x0_1).f1 = 0) = false := decide_eq_false c33
      simp +decide only [Nat.reduceAdd, Nat.reduceMul, Int.reduceToNat, ak, e35]
      obtain rfl := Option.some.inj h
      refine G30n _ _ (wk [0, 3, 4, 5, 6, 10, 11, 12] [pI (.arg 0) .fz, pI (.tmp 4 0) .box] (h0 := by first | rfl | simp +decide only [ak, akF, b15, e32, e35]) (h := by first | rfl | (simp +decide only [ak, akF, b15, e32, e35]; done) | (simp +decide [ak, akF, b15, e32, e35] <;> omega))) (hJ29 _ rfl)
    ·rw [if_neg c31] at h
     have e36 : decide ((rd z84 l0 x0_1).f2 = 1) = false := decide_eq_false c31
     simp +decide only [Nat.reduceAdd, Nat.reduceMul, Int.reduceToNat, ak, e36]
     obtain rfl := Option.some.inj h
     refine G30n _ _ (wk [0, 3, 4, 5, 6, 10, 11, 12] [pI (.arg 0) .fz, pI (.tmp 4 0) .box] (h0 := by first | rfl | simp +decide only [ak, akF, b15, e36]) (h := by first | rfl | (simp +decide only [ak, akF, b15, e36]; done) | (simp +decide [ak, akF, b15, e36] <;> omega))) (hJ29 _ rfl)
   ·replace h := hn; clear hn h28
    rintro _ rfl
    refine seq_k fun J37 hJ37 => ?_
    obtain ⟨j38, h39, hn⟩ := of_bind h
    refine seq_j (fun st => st = ⟨[(0, .c (.ref (.arg 0) [] o0 l0.length)), (3, .c (.sc (.int .i64 x0_1))), (4, .c (.ptr (.tmp 4 0) [] 0)), (10, .c (.ref (.arg 0) [] o0 l0.length)), (11, .c (.sc (.int .i64 x0_0))), (12, .c (.sc (.int .i64 x0_1))), (75, .c (.sc (.bool j38)))], [(.arg 0, ⟨.fz, 5, cs0⟩), (.tmp 4 0, ⟨.box, 0, [.sc (.int .u64 ((rd z84 l0 x0_1).f0)), .sc (.int .i64 ((rd z84 l0 x0_1).f1)), .sc (.int .i64 ((rd z84 l0 x0_1).f2)), .sc (.int .i64 ((rd z84 l0 x0_1).f3)), .sc (.int .i64 ((rd z84 l0 x0_1).f4))]⟩)], [], []⟩) (fun J40 hJ40 => ?_) ?_
    ·replace h := h39; clear hn
     refine ga_k fun G41 G41n G41r G41x => ?_
     refine reg_k ?_
     simp +decide only [Nat.reduceAdd, Nat.reduceMul, Int.reduceToNat, ak]
     by_cases c42 : (rd z84 l0 x0_1).f0 > 4611686018427387904
     ·rw [if_pos c42] at h
      have e43 : decide ((rd z84 l0 x0_1).f0 > 4611686018427387904) = true := decide_eq_true c42
      simp +decide only [Nat.reduceAdd, Nat.reduceMul, Int.reduceToNat, ak, e43]
      obtain rfl := Option.some.inj h
      refine G41n _ _ (wk [0, 3, 4, 10, 11, 12, 75] [pI (.arg 0) .fz, pI (.tmp 4 0) .box] (h0 := by first | rfl | simp +decide only [ak, akF, b15, e43]) (h := by first | rfl | (simp +decide only [ak, akF, b15, e43]; done) | (simp +decide [ak, akF, b15, e43] <;> omega))) (hJ40 _ rfl)
     ·rw [if_neg c42] at h
      have e44 : decide ((rd z84 l0 x0_1).f0 > 4611686018427387904) = false := decide_eq_false c42
      simp +decide only [Nat.reduceAdd, Nat.reduceMul, Int.reduceToNat, ak, e44]
      by_cases c45 : (!j17) = true
      ·rw [if_pos c45] at h
       have e46 : (!j17) = true := c45
       simp +decide only [Nat.reduceAdd, Nat.reduceMul, Int.reduceToNat, ak, e46]
       by_cases c47 : (!j27) = true
       ·rw [if_pos c47] at h
        have e48 : (!j27) = true := c47
        simp +decide only [Nat.reduceAdd, Nat.reduceMul, Int.reduceToNat, ak, e48]
        obtain rfl := Option.some.inj h
        refine G41n _ _ (wk [0, 3, 4, 10, 11, 12, 75] [pI (.arg 0) .fz, pI (.tmp 4 0) .box] (h0 := by first | rfl | simp +decide only [ak, akF, b15, e44, e46, e48]) (h := by first | rfl | (simp +decide only [ak, akF, b15, e44, e46, e48]; done) | (simp +decide [ak, akF, b15, e44, e46, e48] <;> omega))) (hJ40 _ rfl)
       ·rw [if_neg c47] at h
        have e49 : (!j27) = false := Bool.eq_false_iff.2 c47
        simp +decide only [Nat.reduceAdd, Nat.reduceMul, Int.reduceToNat, ak, e49]
        by_cases c50 : (rd z84 l0 x0_1).f3 < 1
        ·rw [if_pos c50] at h
         have e51 : decide ((rd z84 l0 x0_1).f3 < 1) = true := decide_eq_true c50
         simp +decide only [Nat.reduceAdd, Nat.reduceMul, Int.reduceToNat, ak, e51]
         obtain rfl := Option.some.inj h
         refine G41n _ _ (wk [0, 3, 4, 10, 11, 12, 75] [pI (.arg 0) .fz, pI (.tmp 4 0) .box] (h0 := by first | rfl | simp +decide only [ak, akF, b15, e44, e46, e49, e51]) (h := by first | rfl | (simp +decide only [ak, akF, b15, e44, e46, e49, e51]; done) | (simp +decide [ak, akF, b15, e44, e46, e49, e51] <;> omega))) (hJ40 _ rfl)
        ·rw [if_neg c50] at h
         have e52 : decide ((rd z84 l0 x0_1).f3 < 1) = false := decide_eq_false c50
         simp +decide only [Nat.reduceAdd, Nat.reduceMul, Int.reduceToNat, ak, e52]
         by_cases c53 : (rd z84 l0 x0_1).f3 > 255
         ·rw [if_pos c53] at h
          have e54 : decide ((rd z84 l0 x0_1).f3 > 255) = true := decide_eq_true c53
          simp +decide only [Nat.reduceAdd, Nat.reduceMul, Int.reduceToNat, ak, e54]
          obtain rfl := Option.some.inj h
          refine G41n _ _ (wk [0, 3, 4, 10, 11, 12, 75] [pI (.arg 0) .fz, pI (.tmp 4 0) .box] (h0 := by first | rfl | simp +decide only [ak, akF, b15, e44, e46, e49, e52, e54]) (h := by first | rfl | (simp +decide only [ak, akF, b15, e44, e46, e49, e52, e54]; done) | (simp +decide [ak, akF, b15, e44, e46, e49, e52, e54] <;> omega))) (hJ40 _ rfl)
         ·rw [if_neg c53] at h
          have e55 : decide ((rd z84 l0 x0_1).f3 > 255) = false := decide_eq_false c53
          simp +decide only [Nat.reduceAdd, Nat.reduceMul, Int.reduceToNat, ak, e55]
          by_cases c56 : (rd z84 l0 x0_1).f4 ≠ 0
          ·rw [if_pos c56] at h
           have e57 : decide ((rd z84 l0 x0_1).f4 ≠ 0) = true := decide_eq_true c56
           simp +decide only [Nat.reduceAdd, Nat.reduceMul, Int.reduceToNat, ak, e57]
           obtain rfl := Option.some.inj h
           refine G41n _ _ (wk [0, 3, 4, 10, 11, 12, 75] [pI (.arg 0) .fz, pI (.tmp 4 0) .box] (h0 := by first | rfl | simp +decide only [ak, akF, b15, e44, e46, e49, e52, e55, e57]) (h := by first | rfl | (simp +decide only [ak, akF, b15, e44, e46, e49, e52, e55, e57]; done) | (simp +decide [ak, akF, b15, e44, e46, e49, e52, e55, e57] <;> omega))) (hJ40 _ rfl)
          ·rw [if_neg c56] at h
           have e58 : decide ((rd z84 l0 x0_1).f4 ≠ 0) = false := decide_eq_false c56
           simp +decide only [Nat.reduceAdd, Nat.reduceMul, Int.reduceToNat, ak, e58]
           obtain rfl := Option.some.inj h
           refine G41n _ _ (wk [0, 3, 4, 10, 11, 12, 75] [pI (.arg 0) .fz, pI (.tmp 4 0) .box] (h0 := by first | rfl | simp +decide only [ak, akF, b15, e44, e46, e49, e52, e55, e58]) (h := by first | rfl | (simp +decide only [ak, akF, b15, e44, e46, e49, e52, e55, e58]; done) | (simp +decide [ak, akF, b15, e44, e46, e49, e52, e55, e58] <;> omega))) (hJ40 _ rfl)
      ·rw [if_neg c45] at h
       have e59 : (!j17) = false := Bool.eq_false_iff.2 c45
       simp +decide only [Nat.reduceAdd, Nat.reduceMul, Int.reduceToNat, ak, e59]
       by_cases c60 : (rd z84 l0 x0_1).f3 < 1
       ·rw [if_pos c60] at h
        have e61 : decide ((rd z84 l0 x0_1).f3 < 1) = true := decide_eq_true c60
        simp +decide only [Nat.reduceAdd, Nat.reduceMul, Int.reduceToNat, ak, e61]
        obtain rfl := Option.some.inj h
        refine G41n _ _ (wk [0, 3, 4, 10, 11, 12, 75] [pI (.arg 0) .fz, pI (.tmp 4 0) .box] (h0 := by first | rfl | simp +decide only [ak, akF, b15, e44, e59, e61]) (h := by first | rfl | (simp +decide only [ak, akF, b15, e44, e59, e61]; done) | (simp +decide [ak, akF, b15, e44, e59, e61] <;> omega))) (hJ40 _ rfl)
       ·rw [if_neg c60] at h
        have e62 : decide ((rd z84 l0 x0_1).f3 < 1) = false := decide_eq_false c60
        simp +decide only [Nat.reduceAdd, Nat.reduceMul, Int.reduceToNat, ak, e62]
        by_cases c63 : (rd z84 l0 x0_1).f3 > 255
        ·rw [if_pos c63] at h
         have e64 : decide ((rd z84 l0 x0_1).f3 > 255) = true := decide_eq_true c63
         simp +decide only [Nat.reduceAdd, Nat.reduceMul, Int.reduceToNat, ak, e64]
         obtain rfl := Option.some.inj h
         refine G41n _ _ (wk [0, 3, 4, 10, 11, 12, 75] [pI (.arg 0) .fz, pI (.tmp 4 0) .box] (h0 := by first | rfl | simp +decide only [ak, akF, b15, e44, e59, e62, e64]) (h := by first | rfl | (simp +decide only [ak, akF, b15, e44, e59, e62, e64]; done) | (simp +decide [ak, akF, b15, e44, e59, e62, e64] <;> omega))) (hJ40 _ rfl)
        ·rw [if_neg c63] at h
         have e65 : decide ((rd z84 l0 x0_1).f3 > 255) = false := decide_eq_false c63
         simp +decide only [Nat.reduceAdd, Nat.reduceMul, Int.reduceToNat, ak, e65]
         by_cases c66 : (rd z84 l0 x0_1).f4 ≠ 0
         ·rw [if_pos c66] at h
          have e67 : decide ((rd z84 l0 x0_1).f4 ≠ 0) = true := decide_eq_true c66
          simp +decide only [Nat.reduceAdd, Nat.reduceMul, Int.reduceToNat, ak, e67]
          obtain rfl := Option.some.inj h
          refine G41n _ _ (wk [0, 3, 4, 10, 11, 12, 75] [pI (.arg 0) .fz, pI (.tmp 4 0) .box] (h0 := by first | rfl | simp +decide only [ak, akF, b15, e44, e59, e62, e65, e67]) (h := by first | rfl | (simp +decide only [ak, akF, b15, e44, e59, e62, e65, e67]; done) | (simp +decide [ak, akF, b15, e44, e59, e62, e65, e67] <;> omega))) (hJ40 _ rfl)
         ·rw [if_neg c66] at h
          have e68 : decide ((rd z84 l0 x0_1).f4 ≠ 0) = false := decide_eq_false c66
          simp +decide only [Nat.reduceAdd, Nat.reduceMul, Int.reduceToNat, ak, e68]
          obtain rfl := Option.some.inj h
          refine G41n _ _ (wk [0, 3, 4, 10, 11, 12, 75] [pI (.arg 0) .fz, pI (.tmp 4 0) .box] (h0 := by first | rfl | simp +decide only [ak, akF, b15, e44, e59, e62, e65, e68]) (h := by first | rfl | (simp +decide only [ak, akF, b15, e44, e59, e62, e65, e68]; done) | (simp +decide [ak, akF, b15, e44, e59, e62, e65, e68] <;> omega))) (hJ40 _ rfl)
    ·replace h := hn; clear hn h39
     rintro _ rfl
     refine cond_k (b := j38) rfl (fun c69 => ?_) (fun c69 => ?_)
     ·rw [if_pos c69] at h
      refine sr_k fun J70 hJ70 => ?_
      simp +decide only [Nat.reduceAdd, Nat.reduceMul, Int.reduceToNat, ak]
      refine hJ70 _ ?_
      obtain rfl := Option.some.inj h
      refine gh_k (wk [2] [pI (.arg 0) .fz]) ?_
      refine B13r _ ?_
      refine G0r _ ?_
      exact hx1 _ rfl
     ·rw [if_neg (Bool.eq_false_iff.1 c69)] at h
      refine hJ37 _ ?_
      obtain ⟨j71, h72, hn⟩ := of_bind h
      refine seq_j (fun st => st = ⟨[(0, .c (.ref (.arg 0) [] o0 l0.length)), (10, .c (.ref (.arg 0) [] o0 l0.length)), (11, .c (.sc (.int .i64 x0_0))), (12, .c (.sc (.int .i64 x0_1))), (96, .c (.sc (.bool j71)))], [(.arg 0, ⟨.fz, 5, cs0⟩)], [], []⟩) (fun J73 hJ73 => ?_) ?_
      ·replace h := h72; clear hn
       refine ga_k fun G74 G74n G74r G74x => ?_
       refine regD_k ?_
       simp +decide only [Nat.reduceAdd, Nat.reduceMul, Int.reduceToNat, ak]
       by_cases c75 : x0_1 > 0
       ·rw [if_pos c75] at h
        have e76 : decide (x0_1 > 0) = true := decide_eq_true c75
        obtain ⟨b77, h⟩ := of_guard h
        have g78 : o0 + (IntKind.i64.wrap (x0_1 - 1)).toNat * 5 + 0 ≤ (cs0).length := (hv0.len_le b77.1 b77.2 (by decide))
        have g79 : (cs0)[o0 + (IntKind.i64.wrap (x0_1 - 1)).toNat * 5 + 0]? = some (.sc (.int .u64 ((rd z84 l0 (IntKind.i64.wrap (x0_1 - 1))).f0))) := hv0.get z84 0 b77.1 b77.2 (by decide)
        have g80 : o0 + (IntKind.i64.wrap (x0_1 - 1)).toNat * 5 + 1 ≤ (cs0).length := (hv0.len_le b77.1 b77.2 (by decide))
        have g81 : (cs0)[o0 + (IntKind.i64.wrap (x0_1 - 1)).toNat * 5 + 1]? = some (.sc (.int .i64 ((rd z84 l0 (IntKind.i64.wrap (x0_1 - 1))).f1))) := hv0.get z84 1 b77.1 b77.2 (by decide)
        simp +decide only [Nat.reduceAdd, Nat.reduceMul, Int.reduceToNat, ak, e76, b77, g78, g79, g80, g81]
        obtain rfl := Option.some.inj h
        refine G74n _ _ (wk [0, 10, 11, 12, 96] [pI (.arg 0) .fz] (h0 := by first | rfl | simp +decide only [ak, akF, b15, b77, e76]) (h := by first | rfl | (simp +decide only [ak, akF, b15, b77, e76]; done) | (simp +decide [ak, akF, b15, b77, e76] <;> omega))) (hJ73 _ rfl)
       ·rw [if_neg c75] at h
        have e82 : decide (x0_1 > 0) = false := decide_eq_false c75
        simp +decide only [Nat.reduceAdd, Nat.reduceMul, Int.reduceToNat, ak, e82]
        obtain rfl := Option.some.inj h
        refine G74n _ _ (wk [0, 10, 11, 12, 96] [pI (.arg 0) .fz] (h0 := by first | rfl | simp +decide only [ak, akF, b15, e82]) (h := by first | rfl | (simp +decide only [ak, akF, b15, e82]; done) | (simp +decide [ak, akF, b15, e82] <;> omega))) (hJ73 _ rfl)
      ·replace h := hn; clear hn h72
       rintro _ rfl
       refine cond_k (b := j71) rfl (fun c83 => ?_) (fun c83 => ?_)
       ·rw [if_pos c83] at h
        refine sr_k fun J84 hJ84 => ?_
        simp +decide only [Nat.reduceAdd, Nat.reduceMul, Int.reduceToNat, ak]
        refine hJ84 _ ?_
        obtain rfl := Option.some.inj h
        refine gh_k (wk [2] [pI (.arg 0) .fz]) ?_
        refine B13r _ ?_
        refine G0r _ ?_
        exact hx1 _ rfl
       ·rw [if_neg (Bool.eq_false_iff.1 c83)] at h
        refine B13n _ ?_
        refine hJ12 _ ?_
        refine reg_k ?_
        simp +decide only [Nat.reduceAdd, Nat.reduceMul, Int.reduceToNat, ak]
        refine G0n _ _ (wk [0, 10, 11, 12] [pI (.arg 0) .fz]) (ih _ _ h K hx0 hx1)
 ·replace c11 := of_decide_eq_false c11; rw [if_neg c11] at h
  obtain rfl := Option.some.inj h
  refine gh_k (wk [] [pI (.arg 0) .fz]) ?_
  refine G0x _ _ ?_
  exact hx0 _ rfl
theorem impl_validMaps.tri (cs0 : List Cell) (o0 : Nat) (l0 : List S84) (hv0 : Vw c84 5 cs0 o0 l0) (r : Bool) (h : impl_validMaps.f l0 = some r) : Tri Try.prog 74 [.c (.ref (.arg 0) [] o0 l0.length)] [(.arg 0, ⟨.fz, 5, cs0⟩)] (fun o => o = ⟨.c (.sc (.bool r)), [(.arg 0, ⟨.fz, 5, cs0⟩)], [], []⟩) := by
 refine tri_of_body (ac := C74) (xs := r74) Try.func74 (show Try.f74.body = some (Try.f74.body.getD .skip) from rfl) k74 q74 (Nat.le_of_ble_eq_true rfl) ?_
 refine body_of fun K hKn hKr => ?_
 unfold impl_validMaps.f at h
 unfold C74
 simp only [initT, Nat.reduceAdd]
 refine sr_k fun J1 hJ1 => ?_
 simp +decide only [Nat.reduceAdd, Nat.reduceMul, Int.reduceToNat, ak]
 refine hJ1 _ ?_
 refine seq_k fun J2 hJ2 => ?_
 refine sr_k fun J3 hJ3 => ?_
 simp +decide only [Nat.reduceAdd, Nat.reduceMul, Int.reduceToNat, ak]
 refine hJ3 _ ?_
 refine cond_k (b := decide ((l0.length : Int) > 256)) rfl (fun c4 => ?_) (fun c4 => ?_)
 ·replace c4 := of_decide_eq_true c4; rw [if_pos c4] at h
  refine sr_k fun J5 hJ5 => ?_
  simp +decide only [Nat.reduceAdd, Nat.reduceMul, Int.reduceToNat, ak]
  refine hJ5 _ ?_
  obtain rfl := Option.some.inj h
  refine hKr _ ⟨_, rfl, [], _, rfl, rfl, ?_⟩
  first | rfl | (simp only [reduceCtorEq, Nat.reduceEqDiff, ak, akF]; done) | (simp [reduceCtorEq, Nat.reduceEqDiff, ak, akF] <;> omega)
 ·replace c4 := of_decide_eq_false c4; rw [if_neg c4] at h
  refine hJ2 _ ?_
  refine seq_k fun J6 hJ6 => ?_
  refine sr_k fun J7 hJ7 => ?_
  simp +decide only [Nat.reduceAdd, Nat.reduceMul, Int.reduceToNat, ak]
  refine hJ7 _ ?_
  refine block_k fun B8 B8n B8x B8r B8j => ?_
  obtain ⟨y85, h86, h⟩ := of_bind h
  refine gh_k (wk [0, 10, 11, 12] [pI (.arg 0) .fz]) ?_
  rw [e_loop]
  refine impl_validMaps.l0_walk cs0 o0 l0 hv0 (l0.length : Int) 0 _ h86 _ ?_ ?_
  ·rintro x87 rfl
   dsimp only at h
   refine B8x _ ?_
   refine hJ6 _ ?_
   refine sr_k fun J88 hJ88 => ?_
   simp +decide only [Nat.reduceAdd, Nat.reduceMul, Int.reduceToNat, ak]
   refine hJ88 _ ?_
   obtain rfl := Option.some.inj h
   refine hKr _ ⟨_, rfl, [], _, rfl, rfl, ?_⟩
   first | rfl | (simp only [reduceCtorEq, Nat.reduceEqDiff, ak, akF]; done) | (simp [reduceCtorEq, Nat.reduceEqDiff, ak, akF] <;> omega)
  ·rintro x87 rfl
   dsimp only at h
   refine B8r _ ?_
   obtain rfl := Option.some.inj h
   refine hKr _ ⟨_, rfl, [], _, rfl, rfl, ?_⟩
   first | rfl | (simp only [reduceCtorEq, Nat.reduceEqDiff, ak, akF]; done) | (simp [reduceCtorEq, Nat.reduceEqDiff, ak, akF] <;> omega)
/-! ### impl.checkPlan: function 89 -/
def C89 : AC := .seq (.reg [.op none (.box 1 (.tmp 0)), .op none (.mv 2 (.const (.int .i64 0))), .keep [1]]) (.seq (.seq (.reg [.op none (.faddr 6 0 (.tmp 1)), .op none (.load 7 false 1 (.tmp 6)), .call none (some 8) 81 [.tmp 7], .op none (.mv 5 (.tmp 8)), .op none (.extr 9 (.tmp 5) 0), .op none (.extr 10 (.tmp 5) 1), .op none (.alloc 3 [.string .empty, .nilFunc]), .op none (.store 2 (.tmp 3) (.tmp 9)), .op none (.mv 4 (.tmp 10)), .keep [1, 4]]) (.seq (.reg [.op none (.mv 11 (.tmp 4)), .op none (.un 12 .not (.tmp 11)), .keep [1, 12]]) (.cond (.tmp 12) (.seq (.reg [.op none (.mv 2 (.const (.int .i64 17))), .keep [2]]) (.ret)) (.skip)))) (.seq (.seq (.reg [.op none (.faddr 13 3 (.tmp 1)), .op none (.load 14 false 1 (.tmp 13)), .call none (some 15) 82 [.tmp 14], .op none (.un 16 .not (.tmp 15)), .keep [1, 16]]) (.cond (.tmp 16) (.seq (.reg [.op none (.mv 2 (.const (.int .i64 6))), .keep [2]]) (.ret)) (.skip))) (.seq (.seq (.ga (.reg [.op none (.faddr 17 1 (.tmp 1)), .op none (.load 18 false 1 (.tmp 17)), .op none (.bin 19 .lss (.tmp 18) (.const (.int .i64 0))), .op none (.mv 20 (.tmp 19)), .op (some (20, false)) (.faddr 21 1 (.tmp 1)), .op (some (20, false)) (.load 22 false 1 (.tmp 21)), .op (some (20, false)) (.faddr 23 3 (.tmp 1)), .op (some (20, false)) (.load 24 false 1 (.tmp 23)), .op (some (20, false)) (.len 25 (.tmp 24)), .op (some (20, false)) (.bin 26 .geq (.tmp 22) (.tmp 25)), .op none (.pick 27 (.tmp 20) (.const (.bool true)) (.tmp 26)), .op none (.mv 28 (.tmp 27)), .op (some (28, false)) (.faddr 29 5 (.tmp 1)), .op (some (28, false)) (.load 30 false 1 (.tmp 29)), .op (some (28, false)) (.bin 31 .lss (.tmp 30) (.const (.int .i64 1))), .op none (.pick 32 (.tmp 28) (.const (.bool true)) (.tmp 31)), .op none (.mv 33 (.tmp 32)), .op (some (33, false)) (.faddr 34 5 (.tmp 1)), .op (some (33, false)) (.load 35 false 1 (.tmp 34)), .op (some (33, false)) (.bin 36 .gtr (.tmp 35) (.const (.int .i64 256))), .op none (.pick 37 (.tmp 33) (.const (.bool true)) (.tmp 36)), .op none (.mv 38 (.tmp 37)), .op (some (38, false)) (.faddr 39 11 (.tmp 1)), .op (some (38, false)) (.load 40 false 1 (.tmp 39)), .op (some (38, false)) (.bin 41 .lss (.tmp 40) (.const (.int .i64 1))), .op none (.pick 42 (.tmp 38) (.const (.bool true)) (.tmp 41)), .op none (.mv 43 (.tmp 42)), .op (some (43, false)) (.faddr 44 11 (.tmp 1)), .op (some (43, false)) (.load 45 false 1 (.tmp 44)), .op (some (43, false)) (.bin 46 .gtr (.tmp 45) (.const (.int .i64 32))), .op none (.pick 47 (.tmp 43) (.const (.bool true)) (.tmp 46)), .keep [1, 47]])) (.cond (.tmp 47) (.seq (.reg [.op none (.mv 2 (.const (.int .i64 4))), .keep [2]]) (.ret)) (.skip))) (.seq (.seq (.ga (.reg [.op none (.faddr 48 2 (.tmp 1)), .op none (.load 49 false 1 (.tmp 48)), .op none (.len 50 (.tmp 49)), .op none (.bin 51 .gtr (.tmp 50) (.const (.int .i64 1000))), .op none (.mv 52 (.tmp 51)), .op (some (52, false)) (.faddr 53 6 (.tmp 1)), .op (some (52, false)) (.load 54 false 1 (.tmp 53)), .op (some (52, false)) (.bin 55 .gtr (.tmp 54) (.const (.int .u64 4611686018427387904))), .op none (.pick 56 (.tmp 52) (.const (.bool true)) (.tmp 55)), .op none (.mv 57 (.tmp 56)), .op (some (57, false)) (.faddr 58 7 (.tmp 1)), .op (some (57, false)) (.load 59 false 1 (.tmp 58)), .op (some (57, false)) (.bin 60 .gtr (.tmp 59) (.const (.int .u64 4611686018427387904))), .op none (.pick 61 (.tmp 57) (.const (.bool true)) (.tmp 60)), .op none (.mv 62 (.tmp 61)), .op (some (62, false)) (.faddr 63 8 (.tmp 1)), .op (some (62, false)) (.load 64 false 1 (.tmp 63)), .op (some (62, false)) (.bin 65 .gtr (.tmp 64) (.const (.int .u64 4611686018427387904))), .op none (.pick 66 (.tmp 62) (.const (.bool true)) (.tmp 65)), .op none (.mv 67 (.tmp 66)), .op (some (67, false)) (.faddr 68 6 (.tmp 1)), .op (some (67, false)) (.load 69 false 1 (.tmp 68)), .op (some (67, false)) (.faddr 70 7 (.tmp 1)), .op (some (67, false)) (.load 71 false 1 (.tmp 70)), .op (some (67, false)) (.bin 72 .gtr (.tmp 69) (.tmp 71)), .op none (.pick 73 (.tmp 67) (.const (.bool true)) (.tmp 72)), .keep [1, 73]])) (.cond (.tmp 73) (.seq (.reg [.op none (.mv 2 (.const (.int .i64 4))), .keep [2]]) (.ret)) (.skip))) (.seq (.seq (.ga (.reg [.op none (.faddr 74 9 (.tmp 1)), .op none (.load 75 false 1 (.tmp 74)), .op none (.bin 76 .neq (.tmp 75) (.const (.int .i64 0))), .op none (.mv 77 (.tmp 76)), .op (some (77, true)) (.faddr 78 9 (.tmp 1)), .op (some (77, true)) (.load 79 false 1 (.tmp 78)), .op (some (77, true)) (.bin 80 .neq (.tmp 79) (.const (.int .i64 1))), .op none (.pick 81 (.tmp 77) (.tmp 80) (.const (.bool false))), .op none (.mv 82 (.tmp 81)), .op (some (82, false)) (.faddr 83 10 (.tmp 1)), .op (some (82, false)) (.load 84 false 1 (.tmp 83)), .op (some (82, false)) (.bin 85 .neq (.tmp 84) (.const (.int .i64 0))), .op (some (82, false)) (.mv 86 (.tmp 85)), .op (some (86, true)) (.faddr 87 10 (.tmp 1)), .op (some (86, true)) (.load 88 false 1 (.tmp 87)), .op (some (86, true)) (.bin 89 .neq (.tmp 88) (.const (.int .i64 1))), .op (some (82, false)) (.pick 90 (.tmp 86) (.tmp 89) (.const (.bool false))), .op none (.pick 91 (.tmp 82) (.const (.bool true)) (.tmp 90)), .keep [1, 91]])) (.cond (.tmp 91) (.seq (.reg [.op none (.mv 2 (.const (.int .i64 4))), .keep [2]]) (.ret)) (.skip))) (.seq (.seq (.ga (.reg [.op none (.faddr 92 4 (.tmp 1)), .op none (.load 93 false 1 (.tmp 92)), .call none (some 94) 74 [.tmp 93], .op none (.un 95 .not (.tmp 94)), .op none (.mv 96 (.tmp 95)), .op (some (96, false)) (.faddr 97 4 (.tmp 1)), .op (some (96, false)) (.load 98 false 1 (.tmp 97)), .op (some (96, false)) (.len 99 (.tmp 98)), .op (some (96, false)) (.faddr 100 5 (.tmp 1)), .op (some (96, false)) (.load 101 false 1 (.tmp 100)), .op (some (96, false)) (.bin 102 .gtr (.tmp 99) (.tmp 101)), .op none (.pick 103 (.tmp 96) (.const (.bool true)) (.tmp 102)), .keep [103]])) (.cond (.tmp 103) (.seq (.reg [.op none (.mv 2 (.const (.int .i64 1))), .keep [2]]) (.ret)) (.skip))) (.seq (.reg [.op none (.mv 2 (.const (.int .i64 0))), .keep [2]]) (.ret))))))))
def r89 : List RV := [.tmp 2]
theorem k89 : compC Try.prog 104 C89 (Try.f89.body.getD .skip) = some C89.erase := by kernel_rfl
theorem q89 : rvsOf Try.prog Try.f89.results.toList = some r89 := by kernel_rfl
def impl_checkPlan.f (a0_0 : Int) (a0_1 : Int) (l0_2 : List Int) (l0_3 : List S86) (l0_4 : List S84) (a0_5 : Int) (a0_6 : Int) (a0_7 : Int) (a0_8 : Int) (a0_9 : Int) (a0_10 : Int) (a0_11 : Int) : Option Int := (impl_policyOf.f a0_0 >>= fun t4 => (if (!t4.2.2) = true then (some 17) else (impl_validPaths.f l0_3 >>= fun t12 => (if (!t12) = true then (some 6) else ((if a0_1 < 0 then (some true) else (if a0_1 ≥ (l0_3.length : Int) then (some true) else (if a0_5 < 1 then (some true) else (if a0_5 > 256 then (some true) else (if a0_11 < 1 then (some true) else (some (decide (a0_11 > 32)))))))) >>= fun (j18 : Bool) => (if j18 = true then (some 4) else ((if (l0_2.length : Int) > 1000 then (some true) else (if a0_6 > 4611686018427387904 then (some true) else (if a0_7 > 4611686018427387904 then (some true) else (if a0_8 > 4611686018427387904 then (some true) else (some (decide (a0_6 > a0_7))))))) >>= fun (j40 : Bool) => (if j40 = true then (some 4) else ((if a0_9 ≠ 0 then (if a0_9 ≠ 1 then (some true) else (if a0_10 ≠ 0 then (some (decide (a0_10 ≠ 1))) else (some false))) else (if a0_10 ≠ 0 then (some (decide (a0_10 ≠ 1))) else (some false))) >>= fun (j59 : Bool) => (if j59 = true then (some 4) else ((impl_validMaps.f l0_4 >>= fun t82 => (if (!t82) = true then (some true) else (some (decide ((l0_4.length : Int) > a0_5))))) >>= fun (j78 : Bool) => (if j78 = true then (some 1) else (some 0)))))))))))))
theorem impl_checkPlan.tri (cs0 : List Cell) (o0 : Nat) (l0_2 : List Int) (hv0 : Vw c_i64 1 cs0 o0 l0_2) (cs1 : List Cell) (o1 : Nat) (l0_3 : List S86) (hv1 : Vw c86 3 cs1 o1 l0_3) (cs2 : List Cell) (o2 : Nat) (l0_4 : List S84) (hv2 : Vw c84 5 cs2 o2 l0_4) (a0_0 : Int) (a0_1 : Int) (a0_5 : Int) (a0_6 : Int) (a0_7 : Int) (a0_8 : Int) (a0_9 : Int) (a0_10 : Int) (a0_11 : Int) (r : Int) (h : impl_checkPlan.f a0_0 a0_1 l0_2 l0_3 l0_4 a0_5 a0_6 a0_7 a0_8 a0_9 a0_10 a0_11 = some r) : Tri Try.prog 89 [.g [.sc (.int .i64 a0_0), .sc (.int .i64 a0_1), .ref (.arg 0) [] o0 l0_2.length, .ref (.arg 1) [] o1 l0_3.length, .ref (.arg 2) [] o2 l0_4.length, .sc (.int .i64 a0_5), .sc (.int .u64 a0_6), .sc (.int .u64 a0_7), .sc (.int .u64 a0_8), .sc (.int .i64 a0_9), .sc (.int .i64 a0_10), .sc (.int .i64 a0_11)]] [(.arg 0, ⟨.fz, 1, cs0⟩), (.arg 1, ⟨.fz, 3, cs1⟩), (.arg 2, ⟨.fz, 5, cs2⟩)] (fun o => o = ⟨.c (.sc (.int .i64 r)), [(.arg 0, ⟨.fz, 1, cs0⟩), (.arg 1, ⟨.fz, 3, cs1⟩), (.arg 2, ⟨.fz, 5, cs2⟩)], [], []⟩) := by
 refine tri_of_body (ac := C89) (xs := r89) Try.func89 (show Try.f89.body = some (Try.f89.body.getD .skip) from rfl) k89 q89 (Nat.le_of_ble_eq_true rfl) ?_
 refine body_of fun K hKn hKr => ?_
 unfold impl_checkPlan.f at h
 unfold C89
 simp only [initT, Nat.reduceAdd]
 refine sr_k fun J1 hJ1 => ?_
 simp +decide only [Nat.reduceAdd, Nat.reduceMul, Int.reduceToNat, ak]
 refine hJ1 _ ?_
 refine seq_k fun J2 hJ2 => ?_
 refine sr_k fun J3 hJ3 => ?_
 simp +decide only [Nat.reduceAdd, Nat.reduceMul, Int.reduceToNat, ak]
 obtain ⟨t4, h5, h⟩ := of_bind h
 refine call_m [] (s0 := []) (by intro t ht; cases ht; decide) rfl rfl (by first | rfl | simp only [reduceCtorEq, Nat.reduceEqDiff, ak, akF]) (impl_policyOf.tri a0_0 _ h5) (by first | rfl | simp only [reduceCtorEq, Nat.reduceEqDiff, ak, akF]) (by simp [bkOk2, memK]) (fun hl5 => ?_)
 refine call_st (s4 := [(.arg 0, ⟨.fz, 1, cs0⟩), (.arg 1, ⟨.fz, 3, cs1⟩), (.arg 2, ⟨.fz, 5, cs2⟩), (.tmp 1 0, ⟨.box, 0, [.sc (.int .i64 a0_0), .sc (.int .i64 a0_1), .ref (.arg 0) [] o0 l0_2.length, .ref (.arg 1) [] o1 l0_3.length, .ref (.arg 2) [] o2 l0_4.length, .sc (.int .i64 a0_5), .sc (.int .u64 a0_6), .sc (.int .u64 a0_7), .sc (.int .u64 a0_8), .sc (.int .i64 a0_9), .sc (.int .i64 a0_10), .sc (.int .i64 a0_11)]⟩)]) (m1' := []) (m2' := []) (v' := .tup [(true, [.sc (.string t4.1), .sc (fnv t4.2.1)]), (false, [.sc (.bool t4.2.2)])]) (Sto.mapN_killNil _ _) (mrgL_nil' _ _ _) (by rfl) (mapT_killNil _ _) (by rfl) (by rfl) (by first | rfl | simp only [reduceCtorEq, Nat.reduceEqDiff, ak, akF, Nat.zero_add, List.append_nil]) ?_
 simp +decide only [Nat.reduceAdd, Nat.reduceMul, Int.reduceToNat, ak]
 refine hJ3 _ ?_
 refine sr_k fun J7 hJ7 => ?_
 simp +decide only [Nat.reduceAdd, Nat.reduceMul, Int.reduceToNat, ak]
 refine hJ7 _ ?_
 refine cond_k (b := !t4.2.2) rfl (fun c8 => ?_) (fun c8 => ?_)
 ·rw [if_pos c8] at h
  refine sr_k fun J9 hJ9 => ?_
  simp +decide only [Nat.reduceAdd, Nat.reduceMul, Int.reduceToNat, ak]
  refine hJ9 _ ?_
  obtain rfl := Option.some.inj h
  refine hKr _ ⟨_, rfl, [], _, rfl, rfl, ?_⟩
  first | rfl | (simp only [reduceCtorEq, Nat.reduceEqDiff, ak, akF]; done) | (simp [reduceCtorEq, Nat.reduceEqDiff, ak, akF] <;> omega)
 ·rw [if_neg (Bool.eq_false_iff.1 c8)] at h
  refine hJ2 _ ?_
  refine seq_k fun J10 hJ10 => ?_
  refine sr_k fun J11 hJ11 => ?_
  simp +decide only [Nat.reduceAdd, Nat.reduceMul, Int.reduceToNat, ak]
  obtain ⟨t12, h13, h⟩ := of_bind h
  refine call_m [(.arg 0, ⟨(.arg 1), [], none, .fz⟩)] (s0 := [(.arg 0, ⟨.fz, 3, cs1⟩)]) (by intro t ht; cases ht; decide) rfl rfl (by first | rfl | simp only [reduceCtorEq, Nat.reduceEqDiff, ak, akF]) (impl_validPaths.tri (cs1) o1 l0_3 hv1 _ h13) (by first | rfl | simp only [reduceCtorEq, Nat.reduceEqDiff, ak, akF]) (by simp [bkOk2, memK]) (fun hl13 => ?_)
  refine call_st (s4 := [(.arg 0, ⟨.fz, 1, cs0⟩), (.arg 1, ⟨.fz, 3, cs1⟩), (.arg 2, ⟨.fz, 5, cs2⟩), (.tmp 1 0, ⟨.box, 0, [.sc (.int .i64 a0_0), .sc (.int .i64 a0_1), .ref (.arg 0) [] o0 l0_2.length, .ref (.arg 1) [] o1 l0_3.length, .ref (.arg 2) [] o2 l0_4.length, .sc (.int .i64 a0_5), .sc (.int .u64 a0_6), .sc (.int .u64 a0_7), .sc (.int .u64 a0_8), .sc (.int .i64 a0_9), .sc (.int .i64 a0_10), .sc (.int .i64 a0_11)]⟩), (.tmp 3 0, ⟨.box, 0, [.sc (.string t4.1), .sc (fnv t4.2.1)]⟩)]) (m1' := []) (m2' := []) (v' := .c (.sc (.bool t12))) (Sto.mapN_killNil _ _) (mrgL_fz (mrgL_nil' _ _ _) rfl (by first | rfl | simp only [reduceCtorEq, Nat.reduceEqDiff, ak]) rfl (by intro R hR hh; cases hR; cases hh.2)) (by rfl) (mapT_killNil _ _) (by rfl) (by rfl) (by first | rfl | simp only [reduceCtorEq, Nat.reduceEqDiff, ak, akF, Nat.zero_add, List.append_nil]) ?_
  simp +decide only [Nat.reduceAdd, Nat.reduceMul, Int.reduceToNat, ak]
  refine hJ11 _ ?_
  refine cond_k (b := !t12) rfl (fun c15 => ?_) (fun c15 => ?_)
  ·rw [if_pos c15] at h
   refine sr_k fun J16 hJ16 => ?_
   simp +decide only [Nat.reduceAdd, Nat.reduceMul, Int.reduceToNat, ak]
   refine hJ16 _ ?_
   obtain rfl := Option.some.inj h
   refine hKr _ ⟨_, rfl, [], _, rfl, rfl, ?_⟩
   first | rfl | (simp only [reduceCtorEq, Nat.reduceEqDiff, ak, akF]; done) | (simp [reduceCtorEq, Nat.reduceEqDiff, ak, akF] <;> omega)
  ·rw [if_neg (Bool.eq_false_iff.1 c15)] at h
   refine hJ10 _ ?_
   refine seq_k fun J17 hJ17 => ?_
   obtain ⟨j18, h19, hn⟩ := of_bind h
   refine seq_j (fun st => st = ⟨[(1, .c (.ptr (.tmp 1 0) [] 0)), (47, .c (.sc (.bool j18)))], [(.arg 0, ⟨.fz, 1, cs0⟩), (.arg 1, ⟨.fz, 3, cs1⟩), (.arg 2, ⟨.fz, 5, cs2⟩), (.tmp 1 0, ⟨.box, 0, [.sc (.int .i64 a0_0), .sc (.int .i64 a0_1), .ref (.arg 0) [] o0 l0_2.length, .ref (.arg 1) [] o1 l0_3.length, .ref (.arg 2) [] o2 l0_4.length, .sc (.int .i64 a0_5), .sc (.int .u64 a0_6), .sc (.int .u64 a0_7), .sc (.int .u64 a0_8), .sc (.int .i64 a0_9), .sc (.int .i64 a0_10), .sc (.int .i64 a0_11)]⟩)], [], []⟩) (fun J20 hJ20 => ?_) ?_
   ·replace h := h19; clear hn
    refine ga_k fun G21 G21n G21r G21x => ?_
    refine reg_k ?_
    simp +decide only [Nat.reduceAdd, Nat.reduceMul, Int.reduceToNat, ak]
    by_cases c22 : a0_1 < 0
    ·rw [if_pos c22] at h
     have e23 : decide (a0_1 < 0) = true := decide_eq_true c22
     simp +decide only [Nat.reduceAdd, Nat.reduceMul, Int.reduceToNat, ak, e23]
     obtain rfl := Option.some.inj h
     refine G21n _ _ (wk [1, 47] [pI (.arg 0) .fz, pI (.arg 1) .fz, pI (.arg 2) .fz, pI (.tmp 1 0) .box] (h0 := by first | rfl | simp +decide only [ak, akF, e23]) (h := by first | rfl | (simp +decide only [ak, akF, e23]; done) | (simp +decide [ak, akF, e23] <;> omega))) (hJ20 _ rfl)
    ·rw [if_neg c22] at h
     have e24 : decide (a0_1 < 0) = false := decide_eq_false c22
     simp +decide only [Nat.reduceAdd, Nat.reduceMul, Int.reduceToNat, ak, e24]
     by_cases c25 : a0_1 ≥ (l0_3.length : Int)
     ·rw [if_pos c25] at h
      have e26 : decide (a0_1 ≥ (l0_3.length : Int)) = true := decide_eq_true c25
      simp +decide only [Nat.reduceAdd, Nat.reduceMul, Int.reduceToNat, ak, e26]
      obtain rfl := Option.some.inj h
      refine G21n _ _ (wk [1, 47] [pI (.arg 0) .fz, pI (.arg 1) .fz, pI (.arg 2) .fz, pI (.tmp 1 0) .box] (h0 := by first | rfl | simp +decide only [ak, akF, e24, e26]) (h := by first | rfl | (simp +decide only [ak, akF, e24, e26]; done) | (simp +decide [ak, akF, e24, e26] <;> omega))) (hJ20 _ rfl)
     ·rw [if_neg c25] at h
      have e27 : decide (a0_1 ≥ (l0_3.length : Int)) = false := decide_eq_false c25
      simp +decide only [Nat.reduceAdd, Nat.reduceMul, Int.reduceToNat, ak, e27]
      by_cases c28 : a0_5 < 1
      ·rw [if_pos c28] at h
       have e29 : decide (a0_5 < 1) = true := decide_eq_true c28
       simp +decide only [Nat.reduceAdd, Nat.reduceMul, Int.reduceToNat, ak, e29]
       obtain rfl := Option.some.inj h
       refine G21n _ _ (wk [1, 47] [pI (.arg 0) .fz, pI (.arg 1) .fz, pI (.arg 2) .fz, pI (.tmp 1 0) .box] (h0 := by first | rfl | simp +decide only [ak, akF, e24, e27, e29]) (h := by first | rfl | (simp +decide only [ak, akF, e24, e27, e29]; done) | (simp +decide [ak, akF, e24, e27, e29] <;> omega))) (hJ20 _ rfl)
      ·rw [if_neg c28] at h
       have e30 : decide (a0_5 < 1) = false := decide_eq_false c28
       simp +decide only [Nat.reduceAdd, Nat.reduceMul, Int.reduceToNat, ak, e30]
       by_cases c31 : a0_5 > 256
       ·rw [if_pos c31] at h
        have e32 : decide (a0_5 > 256) = true := decide_eq_true c31
        simp +decide only [Nat.reduceAdd, Nat.reduceMul, Int.reduceToNat, ak, e32]
        obtain rfl := Option.some.inj h
        refine G21n _ _ (wk [1, 47] [pI (.arg 0) .fz, pI (.arg 1) .fz, pI (.arg 2) .fz, pI (.tmp 1 0) .box] (h0 := by first | rfl | simp +decide only [ak, akF, e24, e27, e30, e32]) (h := by first | rfl | (simp +decide only [ak, akF, e24, e27, e30, e32]; done) | (simp +decide [ak, akF, e24, e27, e30, e32] <;> omega))) (hJ20 _ rfl)
       ·rw [if_neg c31] at h
        have e33 : decide (a0_5 > 256) = false := decide_eq_false c31
        simp +decide only [Nat.reduceAdd, Nat.reduceMul, Int.reduceToNat, ak, e33]
        by_cases c34 : a0_11 < 1
        ·rw [if_pos c34] at h
         have e35 : decide (a0_11 < 1) = true := decide_eq_true c34
         simp +decide only [Nat.reduceAdd, Nat.reduceMul, Int.reduceToNat, ak, e35]
         obtain rfl := Option.some.inj h
         refine G21n _ _ (wk [1, 47] [pI (.arg 0) .fz, pI (.arg 1) .fz, pI (.arg 2) .fz, pI (.tmp 1 0) .box] (h0 := by first | rfl | simp +decide only [ak, akF, e24, e27, e30, e33, e35]) (h := by first | rfl | (simp +decide only [ak, akF, e24, e27, e30, e33, e35]; done) | (simp +decide [ak, akF, e24, e27, e30, e33, e35] <;> omega))) (hJ20 _ rfl)
        ·rw [if_neg c34] at h
         have e36 : decide (a0_11 < 1) = false := decide_eq_false c34
         simp +decide only [Nat.reduceAdd, Nat.reduceMul, Int.reduceToNat, ak, e36]
         obtain rfl := Option.some.inj h
         refine G21n _ _ (wk [1, 47] [pI (.arg 0) .fz, pI (.arg 1) .fz, pI (.arg 2) .fz, pI (.tmp 1 0) .box] (h0 := by first | rfl | simp +decide only [ak, akF, e24, e27, e30, e33, e36]) (h := by first | rfl | (simp +decide only [ak, akF, e24, e27, e30, e33, e36]; done) | (simp +decide [ak, akF, e24, e27, e30, e33, e36] <;> omega))) (hJ20 _ rfl)
   ·replace h := hn; clear hn h19
    rintro _ rfl
    refine cond_k (b := j18) rfl (fun c37 => ?_) (fun c37 => ?_)
    ·rw [if_pos c37] at h
     refine sr_k fun J38 hJ38 => ?_
     simp +decide only [Nat.reduceAdd, Nat.reduceMul, Int.reduceToNat, ak]
     refine hJ38 _ ?_
     obtain rfl := Option.some.inj h
     refine hKr _ ⟨_, rfl, [], _, rfl, rfl, ?_⟩
     first | rfl | (simp only [reduceCtorEq, Nat.reduceEqDiff, ak, akF]; done) | (simp [reduceCtorEq, Nat.reduceEqDiff, ak, akF] <;> omega)
    ·rw [if_neg (Bool.eq_false_iff.1 c37)] at h
     refine hJ17 _ ?_
     refine seq_k fun J39 hJ39 => ?_
     obtain ⟨j40, h41, hn⟩ := of_bind h
     refine seq_j (fun st => st = ⟨[(1, .c (.ptr (.tmp 1 0) [] 0)), (73, .c (.sc (.bool j40)))], [(.arg 0, ⟨.fz, 1, cs0⟩), (.arg 1, ⟨.fz, 3, cs1⟩), (.arg 2, ⟨.fz, 5, cs2⟩), (.tmp 1 0, ⟨.box, 0, [.sc (.int .i64 a0_0), .sc (.int .i64 a0_1), .ref (.arg 0) [] o0 l0_2.length, .ref (.arg 1) [] o1 l0_3.length, .ref (.arg 2) [] o2 l0_4.length, .sc (.int .i64 a0_5), .sc (.int .u64 a0_6), .sc (.int .u64 a0_7), .sc (.int .u64 a0_8), .sc (.int .i64 a0_9), .sc (.int .i64 a0_10), .sc (.int .i64 a0_11)]⟩)], [], []⟩) (fun J42 hJ42 => ?_) ?_
     ·replace h := h41; clear hn
      refine ga_k fun G43 G43n G43r G43x => ?_
      refine reg_k ?_
      simp +decide only [Nat.reduceAdd, Nat.reduceMul, Int.reduceToNat, ak]
      by_cases c44 : (l0_2.length : Int) > 1000
      ·rw [if_pos c44] at h
       have e45 : decide ((l0_2.length : Int) > 1000) = true := decide_eq_true c44
       simp +decide only [Nat.reduceAdd, Nat.reduceMul, Int.reduceToNat, ak, e45]
       obtain rfl := Option.some.inj h
       refine G43n _ _ (wk [1, 73] [pI (.arg 0) .fz, pI (.arg 1) .fz, pI (.arg 2) .fz, pI (.tmp 1 0) .box] (h0 := by first | rfl | simp +decide only [ak, akF, e45]) (h := by first | rfl | (simp +decide only [ak, akF, e45]; done) | (simp +decide [ak, akF, e45] <;> omega))) (hJ42 _ rfl)
      ·rw [if_neg c44] at h
       have e46 : decide ((l0_2.length : Int) > 1000) = false := decide_eq_false c44
       simp +decide only [Nat.reduceAdd, Nat.reduceMul, Int.reduceToNat, ak, e46]
       by_cases c47 : a0_6 > 4611686018427387904
       ·rw [if_pos c47] at h
        have e48 : decide (a0_6 > 4611686018427387904) = true := decide_eq_true c47
        simp +decide only [Nat.reduceAdd, Nat.reduceMul, Int.reduceToNat, ak, e48]
        obtain rfl := Option.some.inj h
        refine G43n _ _ (wk [1, 73] [pI (.arg 0) .fz, pI (.arg 1) .fz, pI (.arg 2) .fz, pI (.tmp 1 0) .box] (h0 := by first | rfl | simp +decide only [ak, akF, e46, e48]) (h := by first | rfl | (simp +decide only [ak, akF, e46, e48]; done) | (simp +decide [ak, akF, e46, e48] <;> omega))) (hJ42 _ rfl)
       ·rw [if_neg c47] at h
        have e49 : decide (a0_6 > 4611686018427387904) = false := decide_eq_false c47
        simp +decide only [Nat.reduceAdd, Nat.reduceMul, Int.reduceToNat, ak, e49]
        by_cases c50 : a0_7 > 4611686018427387904
        ·rw [if_pos c50] at h
         have e51 : decide (a0_7 > 4611686018427387904) = true := decide_eq_true c50
         simp +decide only [Nat.reduceAdd, Nat.reduceMul, Int.reduceToNat, ak, e51]
         obtain rfl := Option.some.inj h
         refine G43n _ _ (wk [1, 73] [pI (.arg 0) .fz, pI (.arg 1) .fz, pI (.arg 2) .fz, pI (.tmp 1 0) .box] (h0 := by first | rfl | simp +decide only [ak, akF, e46, e49, e51]) (h := by first | rfl | (simp +decide only [ak, akF, e46, e49, e51]; done) | (simp +decide [ak, akF, e46, e49, e51] <;> omega))) (hJ42 _ rfl)
        ·rw [if_neg c50] at h
         have e52 : decide (a0_7 > 4611686018427387904) = false := decide_eq_false c50
         simp +decide only [Nat.reduceAdd, Nat.reduceMul, Int.reduceToNat, ak, e52]
         by_cases c53 : a0_8 > 4611686018427387904
         ·rw [if_pos c53] at h
          have e54 : decide (a0_8 > 4611686018427387904) = true := decide_eq_true c53
          simp +decide only [Nat.reduceAdd, Nat.reduceMul, Int.reduceToNat, ak, e54]
          obtain rfl := Option.some.inj h
          refine G43n _ _ (wk [1, 73] [pI (.arg 0) .fz, pI (.arg 1) .fz, pI (.arg 2) .fz, pI (.tmp 1 0) .box] (h0 := by first | rfl | simp +decide only [ak, akF, e46, e49, e52, e54]) (h := by first | rfl | (simp +decide only [ak, akF, e46, e49, e52, e54]; done) | (simp +decide [ak, akF, e46, e49, e52, e54] <;> omega))) (hJ42 _ rfl)
         ·rw [if_neg c53] at h
          have e55 : decide (a0_8 > 4611686018427387904) = false := decide_eq_false c53
          simp +decide only [Nat.reduceAdd, Nat.reduceMul, Int.reduceToNat, ak, e55]
          obtain rfl := Option.some.inj h
          refine G43n _ _ (wk [1, 73] [pI (.arg 0) .fz, pI (.arg 1) .fz, pI (.arg 2) .fz, pI (.tmp 1 0) .box] (h0 := by first | rfl | simp +decide only [ak, akF, e46, e49, e52, e55]) (h := by first | rfl | (simp +decide only [ak, akF, e46, e49, e52, e55]; done) | (simp +decide [ak, akF, e46, e49, e52, e55] <;> omega))) (hJ42 _ rfl)
     ·replace h := hn; clear hn h41
      rintro _ rfl
      refine cond_k (b := j40) rfl (fun c56 => ?_) (fun c56 => ?_)
      ·rw [if_pos c56] at h
       refine sr_k fun J57 hJ57 => ?_
       simp +decide only [Nat.reduceAdd, Nat.reduceMul, Int.reduceToNat, ak]
       refine hJ57 _ ?_
       obtain rfl := Option.some.inj h
       refine hKr _ ⟨_, rfl, [], _, rfl, rfl, ?_⟩
       first | rfl | (simp only [reduceCtorEq, Nat.reduceEqDiff, ak, akF]; done) | (simp [reduceCtorEq, Nat.reduceEqDiff, ak, akF] <;> omega)
      ·rw [if_neg (Bool.eq_false_iff.1 c56)] at h
       refine hJ39 _ ?_
       refine seq_k fun J58 hJ58 => ?_
       obtain ⟨j59, h60, hn⟩ := of_bind h
       refine seq_j (fun st => st = ⟨[(1, .c (.ptr (.tmp 1 0) [] 0)), (91, .c (.sc (.bool j59)))], [(.arg 0, ⟨.fz, 1, cs0⟩), (.arg 1, ⟨.fz, 3, cs1⟩), (.arg 2, ⟨.fz, 5, cs2⟩), (.tmp 1 0, ⟨.box, 0, [.sc (.int .i64 a0_0), .sc (.int .i64 a0_1), .ref (.arg 0) [] o0 l0_2.length, .ref (.arg 1) [] o1 l0_3.length, .ref (.arg 2) [] o2 l0_4.length, .sc (.int .i64 a0_5), .sc (.int .u64 a0_6), .sc (.int .u64 a0_7), .sc (.int .u64 a0_8), .sc (.int .i64 a0_9), .sc (.int .i64 a0_10), .sc (.int .i64 a0_11)]⟩)], [], []⟩) (fun J61 hJ61 => ?_) ?_
       ·replace h := h60; clear hn
        refine ga_k fun G62 G62n G62r G62x => ?_
        refine reg_k ?_
        simp +decide only [Nat.reduceAdd, Nat.reduceMul, Int.reduceToNat, ak]
        by_cases c63 : a0_9 ≠ 0
        ·rw [if_pos c63] at h
         have e64 : decide (a0_9 ≠ 0) = true := decide_eq_true c63
         simp +decide only [Nat.reduceAdd, Nat.reduceMul, Int.reduceToNat, ak, e64]
         by_cases c65 : a0_9 ≠ 1
         ·rw [if_pos c65] at h
          have e66 : decide (a0_9 ≠ 1) = true := decide_eq_true c65
          simp +decide only [Nat.reduceAdd, Nat.reduceMul, Int.reduceToNat, ak, e66]
          obtain rfl := Option.some.inj h
          refine G62n _ _ (wk [1, 91] [pI (.arg 0) .fz, pI (.arg 1) .fz, pI (.arg 2) .fz, pI (.tmp 1 0) .box] (h0 := by first | rfl | simp +decide only [ak, akF, e64, e66]) (h := by first | rfl | (simp +decide only [ak, akF, e64, e66]; done) | (simp +decide [ak, akF, e64, e66] <;> omega))) (hJ61 _ rfl)
         ·rw [if_neg c65] at h
          have e67 : decide (a0_9 ≠ 1) = false := decide_eq_false c65
          simp +decide only [Nat.reduceAdd, Nat.reduceMul, Int.reduceToNat, ak, e67]
          by_cases c68 : a0_10 ≠ 0
          ·rw [if_pos c68] at h
           have e69 : decide (a0_10 ≠ 0) = true := decide_eq_true c68
           simp +decide only [Nat.reduceAdd, Nat.reduceMul, Int.reduceToNat, ak, e69]
           obtain rfl := Option.some.inj h
           refine G62n _ _ (wk [1, 91] [pI (.arg 0) .fz, pI (.arg 1) .fz, pI (.arg 2) .fz, pI (.tmp 1 0) .box] (h0 := by first | rfl | simp +decide only [ak, akF, e64, e67, e69]) (h := by first | rfl | (simp +decide only [ak, akF, e64, e67, e69]; done) | (simp +decide [ak, akF, e64, e67, e69] <;> omega))) (hJ61 _ rfl)
          ·rw [if_neg c68] at h
           have e70 : decide (a0_10 ≠ 0) = false := decide_eq_false c68
           simp +decide only [Nat.reduceAdd, Nat.reduceMul, Int.reduceToNat, ak, e70]
           obtain rfl := Option.some.inj h
           refine G62n _ _ (wk [1, 91] [pI (.arg 0) .fz, pI (.arg 1) .fz, pI (.arg 2) .fz, pI (.tmp 1 0) .box] (h0 := by first | rfl | simp +decide only [ak, akF, e64, e67, e70]) (h := by first | rfl | (simp +decide only [ak, akF, e64, e67, e70]; done) | (simp +decide [ak, akF, e64, e67, e70] <;> omega))) (hJ61 _ rfl)
        ·rw [if_neg c63] at h
         have e71 : decide (a0_9 ≠ 0) = false := decide_eq_false c63
         simp +decide only [Nat.reduceAdd, Nat.reduceMul, Int.reduceToNat, ak, e71]
         by_cases c72 : a0_10 ≠ 0
         ·rw [if_pos c72] at h
          have e73 : decide (a0_10 ≠ 0) = true := decide_eq_true c72
          simp +decide only [Nat.reduceAdd, Nat.reduceMul, Int.reduceToNat, ak, e73]
          obtain rfl := Option.some.inj h
          refine G62n _ _ (wk [1, 91] [pI (.arg 0) .fz, pI (.arg 1) .fz, pI (.arg 2) .fz, pI (.tmp 1 0) .box] (h0 := by first | rfl | simp +decide only [ak, akF, e71, e73]) (h := by first | rfl | (simp +decide only [ak, akF, e71, e73]; done) | (simp +decide [ak, akF, e71, e73] <;> omega))) (hJ61 _ rfl)
         ·rw [if_neg c72] at h
          have e74 : decide (a0_10 ≠ 0) = false := decide_eq_false c72
          simp +decide only [Nat.reduceAdd, Nat.reduceMul, Int.reduceToNat, ak, e74]
          obtain rfl := Option.some.inj h
          refine G62n _ _ (wk [1, 91] [pI (.arg 0) .fz, pI (.arg 1) .fz, pI (.arg 2) .fz, pI (.tmp 1 0) .box] (h0 := by first | rfl | simp +decide only [ak, akF, e71, e74]) (h := by first | rfl | (simp +decide only [ak, akF, e71, e74]; done) | (simp +decide [ak, akF, e71, e74] <;> omega))) (hJ61 _ rfl)
       ·replace h := hn; clear hn h60
        rintro _ rfl
        refine cond_k (b := j59) rfl (fun c75 => ?_) (fun c75 => ?_)
        ·rw [if_pos c75] at h
         refine sr_k fun J76 hJ76 => ?_
         simp +decide only [Nat.reduceAdd, Nat.reduceMul, Int.reduceToNat, ak]
         refine hJ76 _ ?_
         obtain rfl := Option.some.inj h
         refine hKr _ ⟨_, rfl, [], _, rfl, rfl, ?_⟩
         first | rfl | (simp only [reduceCtorEq, Nat.reduceEqDiff, ak, akF]; done) | (simp [reduceCtorEq, Nat.reduceEqDiff, ak, akF] <;> omega)
        ·rw [if_neg (Bool.eq_false_iff.1 c75)] at h
         refine hJ58 _ ?_
         refine seq_k fun J77 hJ77 => ?_
         obtain ⟨j78, h79, hn⟩ := of_bind h
         refine seq_j (fun st => st = ⟨[(103, .c (.sc (.bool j78)))], [(.arg 0, ⟨.fz, 1, cs0⟩), (.arg 1, ⟨.fz, 3, cs1⟩), (.arg 2, ⟨.fz, 5, cs2⟩)], [], []⟩) (fun J80 hJ80 => ?_) ?_
         ·replace h := h79; clear hn
          refine ga_k fun G81 G81n G81r G81x => ?_
          refine reg_k ?_
          simp +decide only [Nat.reduceAdd, Nat.reduceMul, Int.reduceToNat, ak]
          obtain ⟨t82, h83, h⟩ := of_bind h
          refine call_m [(.arg 0, ⟨(.arg 2), [], none, .fz⟩)] (s0 := [(.arg 0, ⟨.fz, 5, cs2⟩)]) (by intro t ht; cases ht; decide) rfl rfl (by first | rfl | simp only [reduceCtorEq, Nat.reduceEqDiff, ak, akF]) (impl_validMaps.tri (cs2) o2 l0_4 hv2 _ h83) (by first | rfl | simp only [reduceCtorEq, Nat.reduceEqDiff, ak, akF]) (by simp [bkOk2, memK]) (fun hl83 => ?_)
          refine call_st (s4 := [(.arg 0, ⟨.fz, 1, cs0⟩), (.arg 1, ⟨.fz, 3, cs1⟩), (.arg 2, ⟨.fz, 5, cs2⟩), (.tmp 1 0, ⟨.box, 0, [.sc (.int .i64 a0_0), .sc (.int .i64 a0_1), .ref (.arg 0) [] o0 l0_2.length, .ref (.arg 1) [] o1 l0_3.length, .ref (.arg 2) [] o2 l0_4.length, .sc (.int .i64 a0_5), .sc (.int .u64 a0_6), .sc (.int .u64 a0_7), .sc (.int .u64 a0_8), .sc (.int .i64 a0_9), .sc (.int .i64 a0_10), .sc (.int .i64 a0_11)]⟩)]) (m1' := []) (m2' := []) (v' := .c (.sc (.bool t82))) (Sto.mapN_killNil _ _) (mrgL_fz (mrgL_nil' _ _ _) rfl (by first | rfl | simp only [reduceCtorEq, Nat.reduceEqDiff, ak]) rfl (by intro R hR hh; cases hR; cases hh.2)) (by rfl) (mapT_killNil _ _) (by rfl) (by rfl) (by first | rfl | simp only [reduceCtorEq, Nat.reduceEqDiff, ak, akF, Nat.zero_add, List.append_nil]) ?_
          simp +decide only [Nat.reduceAdd, Nat.reduceMul, Int.reduceToNat, ak]
          by_cases c85 : (!t82) = true
          ·rw [if_pos c85] at h
           have e86 : (!t82) = true := c85
           simp +decide only [Nat.reduceAdd, Nat.reduceMul, Int.reduceToNat, ak, e86]
           obtain rfl := Option.some.inj h
           refine G81n _ _ (wk [103] [pI (.arg 0) .fz, pI (.arg 1) .fz, pI (.arg 2) .fz] (h0 := by first | rfl | simp +decide only [ak, akF, e86]) (h := by first | rfl | (simp +decide only [ak, akF, e86]; done) | (simp +decide [ak, akF, e86] <;> omega))) (hJ80 _ rfl)
          ·rw [if_neg c85] at h
           have e87 : (!t82) = false := Bool.eq_false_iff.2 c85
           simp +decide only [Nat.reduceAdd, Nat.reduceMul, Int.reduceToNat, ak, e87]
           obtain rfl := Option.some.inj h
           refine G81n _ _ (wk [103] [pI (.arg 0) .fz, pI (.arg 1) .fz, pI (.arg 2) .fz] (h0 := by first | rfl | simp +decide only [ak, akF, e87]) (h := by first | rfl | (simp +decide only [ak, akF, e87]; done) | (simp +decide [ak, akF, e87] <;> omega))) (hJ80 _ rfl)
         ·replace h := hn; clear hn h79
          rintro _ rfl
          refine cond_k (b := j78) rfl (fun c88 => ?_) (fun c88 => ?_)
          ·rw [if_pos c88] at h
           refine sr_k fun J89 hJ89 => ?_
           simp +decide only [Nat.reduceAdd, Nat.reduceMul, Int.reduceToNat, ak]
           refine hJ89 _ ?_
           obtain rfl := Option.some.inj h
           refine hKr _ ⟨_, rfl, [], _, rfl, rfl, ?_⟩
           first | rfl | (simp only [reduceCtorEq, Nat.reduceEqDiff, ak, akF]; done) | (simp [reduceCtorEq, Nat.reduceEqDiff, ak, akF] <;> omega)
          ·rw [if_neg (Bool.eq_false_iff.1 c88)] at h
           refine hJ77 _ ?_
           refine sr_k fun J90 hJ90 => ?_
           simp +decide only [Nat.reduceAdd, Nat.reduceMul, Int.reduceToNat, ak]
           refine hJ90 _ ?_
           obtain rfl := Option.some.inj h
           refine hKr _ ⟨_, rfl, [], _, rfl, rfl, ?_⟩
           first | rfl | (simp only [reduceCtorEq, Nat.reduceEqDiff, ak, akF]; done) | (simp [reduceCtorEq, Nat.reduceEqDiff, ak, akF] <;> omega)
/-! ### impl.policyOf$1: function 113 -/
def C113 : AC := .seq (.reg [.op none (.box 6 (.tmp 1)), .op none (.mv 10 (.const (.int .i64 0))), .keep [0, 2, 3]]) (.seq (.reg [.op none (.mv 11 (.tmp 0)), .op none (.mv 12 (.tmp 3)), .op none (.bin 13 .sub (.tmp 11) (.tmp 12)), .op none (.mv 14 (.tmp 2)), .op none (.bin 15 .add (.tmp 13) (.tmp 14)), .op none (.mv 16 (.tmp 2)), .op none (.bin 17 .rem (.tmp 15) (.tmp 16)), .op none (.mv 10 (.tmp 17)), .keep [10]]) (.ret))
def r113 : List RV := [.tmp 10]
theorem k113 : compC Try.prog 18 C113 (Try.f113.body.getD .skip) = some C113.erase := by kernel_rfl
theorem q113 : rvsOf Try.prog Try.f113.results.toList = some r113 := by kernel_rfl
def impl_policyOf_1.f (a0 : Int) (a1_0 : Int) (a1_1 : Int) (a1_2 : Int) (a2 : Int) (a3 : Int) (a4 : Int) : Option Int := (if ¬ a2 = 0 then (some ((IntKind.i64.wrap ((IntKind.i64.wrap (a0 - a3)) + a2)).tmod a2)) else none)
theorem impl_policyOf_1.tri (a0 : Int) (a1_0 : Int) (a1_1 : Int) (a1_2 : Int) (a2 : Int) (a3 : Int) (a4 : Int) (r : Int) (h : impl_policyOf_1.f a0 a1_0 a1_1 a1_2 a2 a3 a4 = some r) : Tri Try.prog 113 [.c (.sc (.int .i64 a0)), .g [.sc (.int .i64 a1_0), .sc (.int .i64 a1_1), .sc (.int .i64 a1_2)], .c (.sc (.int .i64 a2)), .c (.sc (.int .i64 a3)), .c (.sc (.int .i64 a4))] [] (fun o => o = ⟨.c (.sc (.int .i64 r)), [], [], []⟩) := by
 refine tri_of_body (ac := C113) (xs := r113) Try.func113 (show Try.f113.body = some (Try.f113.body.getD .skip) from rfl) k113 q113 (Nat.le_of_ble_eq_true rfl) ?_
 refine body_of fun K hKn hKr => ?_
 unfold impl_policyOf_1.f at h
 unfold C113
 simp only [initT, Nat.reduceAdd]
 refine sr_k fun J1 hJ1 => ?_
 simp +decide only [Nat.reduceAdd, Nat.reduceMul, Int.reduceToNat, ak]
 refine hJ1 _ ?_
 refine sr_k fun J2 hJ2 => ?_
 obtain ⟨b3, h⟩ := of_guard h
 simp +decide only [Nat.reduceAdd, Nat.reduceMul, Int.reduceToNat, ak, b3]
 refine hJ2 _ ?_
 obtain rfl := Option.some.inj h
 refine hKr _ ⟨_, rfl, [], _, rfl, rfl, ?_⟩
 first | rfl | (simp only [reduceCtorEq, Nat.reduceEqDiff, ak, akF, b3]; done) | (simp [reduceCtorEq, Nat.reduceEqDiff, ak, akF, b3] <;> omega)
/-! ### impl.policyOf$2: function 114 -/
def C114 : AC := .seq (.reg [.op none (.box 6 (.tmp 1)), .op none (.mv 10 (.const (.int .i64 0))), .keep [0, 6]]) (.seq (.reg [.op none (.faddr 11 1 (.tmp 6)), .op none (.load 12 false 1 (.tmp 11)), .op none (.bin 13 .mul (.tmp 12) (.const (.int .i64 8))), .op none (.mv 14 (.tmp 0)), .op none (.bin 15 .add (.tmp 13) (.tmp 14)), .op none (.mv 10 (.tmp 15)), .keep [10]]) (.ret))
def r114 : List RV := [.tmp 10]
theorem k114 : compC Try.prog 16 C114 (Try.f114.body.getD .skip) = some C114.erase := by kernel_rfl
theorem q114 : rvsOf Try.prog Try.f114.results.toList = some r114 := by kernel_rfl
def impl_policyOf_2.f (a0 : Int) (a1_0 : Int) (a1_1 : Int) (a1_2 : Int) (a2 : Int) (a3 : Int) (a4 : Int) : Option Int := (some (IntKind.i64.wrap ((IntKind.i64.wrap (a1_1 * 8)) + a0)))
theorem impl_policyOf_2.tri (a0 : Int) (a1_0 : Int) (a1_1 : Int) (a1_2 : Int) (a2 : Int) (a3 : Int) (a4 : Int) (r : Int) (h : impl_policyOf_2.f a0 a1_0 a1_1 a1_2 a2 a3 a4 = some r) : Tri Try.prog 114 [.c (.sc (.int .i64 a0)), .g [.sc (.int .i64 a1_0), .sc (.int .i64 a1_1), .sc (.int .i64 a1_2)], .c (.sc (.int .i64 a2)), .c (.sc (.int .i64 a3)), .c (.sc (.int .i64 a4))] [] (fun o => o = ⟨.c (.sc (.int .i64 r)), [], [], []⟩) := by
 refine tri_of_body (ac := C114) (xs := r114) Try.func114 (show Try.f114.body = some (Try.f114.body.getD .skip) from rfl) k114 q114 (Nat.le_of_ble_eq_true rfl) ?_
 refine body_of fun K hKn hKr => ?_
 unfold impl_policyOf_2.f at h
 unfold C114
 simp only [initT, Nat.reduceAdd]
 refine sr_k fun J1 hJ1 => ?_
 simp +decide only [Nat.reduceAdd, Nat.reduceMul, Int.reduceToNat, ak]
 refine hJ1 _ ?_
 refine sr_k fun J2 hJ2 => ?_
 simp +decide only [Nat.reduceAdd, Nat.reduceMul, Int.reduceToNat, ak]
 refine hJ2 _ ?_
 obtain rfl := Option.some.inj h
 refine hKr _ ⟨_, rfl, [], _, rfl, rfl, ?_⟩
 first | rfl | (simp only [reduceCtorEq, Nat.reduceEqDiff, ak, akF]; done) | (simp [reduceCtorEq, Nat.reduceEqDiff, ak, akF] <;> omega)
/-! ### impl.policyOf$3: function 115 -/
def C115 : AC := .seq (.reg [.op none (.box 6 (.tmp 1)), .op none (.mv 10 (.const (.int .i64 0))), .keep []]) (.seq (.reg [.op none (.mv 10 (.const (.int .i64 0))), .keep [10]]) (.ret))
def r115 : List RV := [.tmp 10]
theorem k115 : compC Try.prog 11 C115 (Try.f115.body.getD .skip) = some C115.erase := by kernel_rfl
theorem q115 : rvsOf Try.prog Try.f115.results.toList = some r115 := by kernel_rfl
def impl_policyOf_3.f (a0 : Int) (a1_0 : Int) (a1_1 : Int) (a1_2 : Int) (a2 : Int) (a3 : Int) (a4 : Int) : Option Int := (some 0)
theorem impl_policyOf_3.tri (a0 : Int) (a1_0 : Int) (a1_1 : Int) (a1_2 : Int) (a2 : Int) (a3 : Int) (a4 : Int) (r : Int) (h : impl_policyOf_3.f a0 a1_0 a1_1 a1_2 a2 a3 a4 = some r) : Tri Try.prog 115 [.c (.sc (.int .i64 a0)), .g [.sc (.int .i64 a1_0), .sc (.int .i64 a1_1), .sc (.int .i64 a1_2)], .c (.sc (.int .i64 a2)), .c (.sc (.int .i64 a3)), .c (.sc (.int .i64 a4))] [] (fun o => o = ⟨.c (.sc (.int .i64 r)), [], [], []⟩) := by
 refine tri_of_body (ac := C115) (xs := r115) Try.func115 (show Try.f115.body = some (Try.f115.body.getD .skip) from rfl) k115 q115 (Nat.le_of_ble_eq_true rfl) ?_
 refine body_of fun K hKn hKr => ?_
 unfold impl_policyOf_3.f at h
 unfold C115
 simp only [initT, Nat.reduceAdd]
 refine sr_k fun J1 hJ1 => ?_
 simp +decide only [Nat.reduceAdd, Nat.reduceMul, Int.reduceToNat, ak]
 refine hJ1 _ ?_
 refine sr_k fun J2 hJ2 => ?_
 simp +decide only [Nat.reduceAdd, Nat.reduceMul, Int.reduceToNat, ak]
 refine hJ2 _ ?_
 obtain rfl := Option.some.inj h
 refine hKr _ ⟨_, rfl, [], _, rfl, rfl, ?_⟩
 first | rfl | (simp only [reduceCtorEq, Nat.reduceEqDiff, ak, akF]; done) | (simp [reduceCtorEq, Nat.reduceEqDiff, ak, akF] <;> omega)
/-! ### impl.policyOf$4: function 116 -/
def C116 : AC := .seq (.reg [.op none (.box 6 (.tmp 1)), .op none (.mv 10 (.const (.int .i64 0))), .keep [0, 4]]) (.seq (.seq (.reg [.op none (.mv 11 (.tmp 0)), .op none (.mv 12 (.tmp 4)), .op none (.bin 13 .eql (.tmp 11) (.tmp 12)), .keep [0, 13]]) (.cond (.tmp 13) (.seq (.reg [.op none (.mv 10 (.const (.int .i64 (-1)))), .keep [10]]) (.ret)) (.skip))) (.seq (.reg [.op none (.mv 14 (.tmp 0)), .op none (.mv 10 (.tmp 14)), .keep [10]]) (.ret)))
def r116 : List RV := [.tmp 10]
theorem k116 : compC Try.prog 15 C116 (Try.f116.body.getD .skip) = some C116.erase := by kernel_rfl
theorem q116 : rvsOf Try.prog Try.f116.results.toList = some r116 := by kernel_rfl
def impl_policyOf_4.f (a0 : Int) (a1_0 : Int) (a1_1 : Int) (a1_2 : Int) (a2 : Int) (a3 : Int) (a4 : Int) : Option Int := (if a0 = a4 then (some (-1)) else (some a0))
theorem impl_policyOf_4.tri (a0 : Int) (a1_0 : Int) (a1_1 : Int) (a1_2 : Int) (a2 : Int) (a3 : Int) (a4 : Int) (r : Int) (h : impl_policyOf_4.f a0 a1_0 a1_1 a1_2 a2 a3 a4 = some r) : Tri Try.prog 116 [.c (.sc (.int .i64 a0)), .g [.sc (.int .i64 a1_0), .sc (.int .i64 a1_1), .sc (.int .i64 a1_2)], .c (.sc (.int .i64 a2)), .c (.sc (.int .i64 a3)), .c (.sc (.int .i64 a4))] [] (fun o => o = ⟨.c (.sc (.int .i64 r)), [], [], []⟩) := by
 refine tri_of_body (ac := C116) (xs := r116) Try.func116 (show Try.f116.body = some (Try.f116.body.getD .skip) from rfl) k116 q116 (Nat.le_of_ble_eq_true rfl) ?_
 refine body_of fun K hKn hKr => ?_
 unfold impl_policyOf_4.f at h
 unfold C116
 simp only [initT, Nat.reduceAdd]
 refine sr_k fun J1 hJ1 => ?_
 simp +decide only [Nat.reduceAdd, Nat.reduceMul, Int.reduceToNat, ak]
 refine hJ1 _ ?_
 refine seq_k fun J2 hJ2 => ?_
 refine sr_k fun J3 hJ3 => ?_
 simp +decide only [Nat.reduceAdd, Nat.reduceMul, Int.reduceToNat, ak]
 refine hJ3 _ ?_
 refine cond_k (b := decide (a0 = a4)) rfl (fun c4 => ?_) (fun c4 => ?_)
 ·replace c4 := of_decide_eq_true c4; rw [if_pos c4] at h
  refine sr_k fun J5 hJ5 => ?_
  simp +decide only [Nat.reduceAdd, Nat.reduceMul, Int.reduceToNat, ak]
  refine hJ5 _ ?_
  obtain rfl := Option.some.inj h
  refine hKr _ ⟨_, rfl, [], _, rfl, rfl, ?_⟩
  first | rfl | (simp only [reduceCtorEq, Nat.reduceEqDiff, ak, akF]; done) | (simp [reduceCtorEq, Nat.reduceEqDiff, ak, akF] <;> omega)
 ·replace c4 := of_decide_eq_false c4; rw [if_neg c4] at h
  refine hJ2 _ ?_
  refine sr_k fun J6 hJ6 => ?_
  simp +decide only [Nat.reduceAdd, Nat.reduceMul, Int.reduceToNat, ak]
  refine hJ6 _ ?_
  obtain rfl := Option.some.inj h
  refine hKr _ ⟨_, rfl, [], _, rfl, rfl, ?_⟩
  first | rfl | (simp only [reduceCtorEq, Nat.reduceEqDiff, ak, akF]; done) | (simp [reduceCtorEq, Nat.reduceEqDiff, ak, akF] <;> omega)
/-! ### impl.choose: function 83 -/
def dyn_113_114_115_116 (t : Int) (x0 : Int) (x1 : Int) (x2 : Int) (x3 : Int) (x4 : Int) (x5 : Int) (x6 : Int) : Option Int := (if t = 113 then impl_policyOf_1.f x0 x1 x2 x3 x4 x5 x6 else (if t = 114 then impl_policyOf_2.f x0 x1 x2 x3 x4 x5 x6 else (if t = 115 then impl_policyOf_3.f x0 x1 x2 x3 x4 x5 x6 else (if t = 116 then impl_policyOf_4.f x0 x1 x2 x3 x4 x5 x6 else none))))
def C83_l0 : AC := .seq (.reg [.op none (.bin 24 .lss (.tmp 23) (.tmp 22)), .keep [1, 2, 3, 4, 5, 6, 14, 15, 16, 22, 23, 24]]) (.seq (.cond (.tmp 24) (.skip) (.gh (.exit 0))) (.seq (.ga (.block 1 (.seq (.reg [.op none (.mv 25 (.tmp 23)), .op none (.mv 17 (.tmp 25)), .keep [1, 2, 3, 4, 5, 6, 14, 15, 16, 17, 22, 23]]) (.seq (.reg [.op none (.mv 26 (.tmp 4)), .op none (.mv 27 (.tmp 17)), .op none (.iaddr 28 3 (.tmp 26) (.tmp 27)), .op none (.load 29 true 3 (.tmp 28)), .op none (.alloc 18 [.int .i64 0, .int .i64 0, .int .i64 0]), .op none (.store 3 (.tmp 18) (.tmp 29)), .keep [1, 2, 3, 4, 5, 6, 14, 15, 16, 17, 18, 22, 23]]) (.seq (.seq (.ga (.reg [.op none (.faddr 30 0 (.tmp 18)), .op none (.load 31 false 1 (.tmp 30)), .op none (.bin 32 .neq (.tmp 31) (.const (.int .i64 1))), .op none (.mv 33 (.tmp 32)), .op (some (33, false)) (.faddr 34 2 (.tmp 18)), .op (some (33, false)) (.load 35 false 1 (.tmp 34)), .op (some (33, false)) (.bin 36 .eql (.tmp 35) (.const (.int .i64 0))), .op none (.pick 37 (.tmp 33) (.const (.bool true)) (.tmp 36)), .op none (.mv 38 (.tmp 37)), .op (some (38, false)) (.mv 39 (.tmp 5)), .op (some (38, false)) (.mv 40 (.tmp 17)), .op (some (38, false)) (.bin 41 .shr (.tmp 39) (.tmp 40)), .op (some (38, false)) (.bin 42 .and (.tmp 41) (.const (.int .i64 1))), .op (some (38, false)) (.bin 43 .eql (.tmp 42) (.const (.int .i64 1))), .op none (.pick 44 (.tmp 38) (.const (.bool true)) (.tmp 43)), .keep [1, 2, 3, 4, 5, 6, 14, 15, 16, 17, 18, 22, 23, 44]])) (.cond (.tmp 44) (.exit 1) (.skip))) (.seq (.reg [.op none (.faddr 45 1 (.tmp 6)), .op none (.load 46 false 1 (.tmp 45)), .op none (.mv 47 (.tmp 17)), .op none (.load 48 true 3 (.tmp 18)), .op none (.mv 49 (.tmp 14)), .op none (.mv 50 (.tmp 2)), .op none (.mv 51 (.tmp 3)), .callv none (some 52) (.value (.tmp 46)) [.tmp 47, .tmp 48, .tmp 49, .tmp 50, .tmp 51], .op none (.mv 19 (.tmp 52)), .keep [1, 2, 3, 4, 5, 6, 14, 15, 16, 17, 19, 22, 23]]) (.seq (.ga (.reg [.op none (.mv 53 (.tmp 15)), .op none (.len 54 (.tmp 53)), .op none (.bin 55 .eql (.tmp 54) (.const (.int .i64 0))), .op none (.mv 56 (.tmp 55)), .op (some (56, false)) (.mv 57 (.tmp 19)), .op (some (56, false)) (.mv 58 (.tmp 16)), .op (some (56, false)) (.bin 59 .lss (.tmp 57) (.tmp 58)), .op none (.pick 60 (.tmp 56) (.const (.bool true)) (.tmp 59)), .keep [1, 2, 3, 4, 5, 6, 14, 15, 16, 17, 19, 22, 23, 60]])) (.cond (.tmp 60) (.reg [.op none (.mv 61 (.tmp 17)), .op none (.bslice 62 1 [.int .i64 0] 1 [(0, .tmp 61)]), .op none (.mv 63 (.tmp 19)), .op none (.mv 15 (.tmp 62)), .op none (.mv 16 (.tmp 63)), .keep [1, 2, 3, 4, 5, 6, 14, 15, 16, 22, 23]]) (.seq (.reg [.op none (.mv 64 (.tmp 19)), .op none (.mv 65 (.tmp 16)), .op none (.bin 66 .eql (.tmp 64) (.tmp 65)), .keep [1, 2, 3, 4, 5, 6, 14, 15, 16, 17, 22, 23, 66]]) (.cond (.tmp 66) (.reg [.op none (.mv 67 (.tmp 15)), .op none (.mv 68 (.tmp 17)), .op none (.bslice 69 1 [.int .i64 0] 1 [(0, .tmp 68)]), .op none (.app 70 1 8 true (.tmp 67) (.tmp 69)), .op none (.mv 15 (.tmp 70)), .keep [1, 2, 3, 4, 5, 6, 14, 15, 16, 22, 23]]) (.skip))))))))))) (.reg [.op none (.bin 71 .add (.tmp 23) (.const (.int .i64 1))), .op none (.mv 23 (.tmp 71)), .keep [1, 2, 3, 4, 5, 6, 14, 15, 16, 22, 23]])))
def C83 : AC := .seq (.reg [.op none (.box 6 (.tmp 0)), .op none (.mv 12 (.const (.slice none 0 0))), .gh, .op none (.mv 13 (.const (.int .i64 0))), .keep [1, 2, 3, 4, 5, 6]]) (.seq (.reg [.op none (.mv 20 (.tmp 4)), .op none (.len 21 (.tmp 20)), .op none (.mv 14 (.tmp 21)), .keep [1, 2, 3, 4, 5, 6, 14]]) (.seq (.reg [.op none (.mv 15 (.const (.slice none 0 0))), .gh, .keep [1, 2, 3, 4, 5, 6, 14, 15]]) (.seq (.reg [.op none (.mv 16 (.const (.int .i64 0))), .keep [1, 2, 3, 4, 5, 6, 14, 15, 16]]) (.seq (.seq (.reg [.op none (.mv 22 (.tmp 14)), .op none (.mv 23 (.const (.int .i64 0))), .keep [1, 2, 3, 4, 5, 6, 14, 15, 16, 22, 23]]) (.block 0 (.gh (.loop (.ga C83_l0))))) (.seq (.ga (.seq (.ga (.reg [.op none (.mv 72 (.tmp 1)), .op none (.bin 73 .eql (.tmp 72) (.const (.int .i64 1))), .op none (.mv 74 (.tmp 73)), .op (some (74, true)) (.mv 75 (.tmp 15)), .op (some (74, true)) (.len 76 (.tmp 75)), .op (some (74, true)) (.bin 77 .gtr (.tmp 76) (.const (.int .i64 0))), .op none (.pick 78 (.tmp 74) (.tmp 77) (.const (.bool false))), .keep [2, 14, 15, 78]])) (.cond (.tmp 78) (.reg [.op none (.mv 79 (.tmp 15)), .op none (.iaddr 80 1 (.tmp 79) (.const (.int .i64 0))), .op none (.load 81 false 1 (.tmp 80)), .op none (.bin 82 .add (.tmp 81) (.const (.int .i64 1))), .op none (.mv 83 (.tmp 14)), .op none (.bin 84 .rem (.tmp 82) (.tmp 83)), .op none (.mv 2 (.tmp 84)), .keep [2, 15]]) (.skip)))) (.seq (.reg [.op none (.mv 85 (.tmp 15)), .op none (.mv 86 (.tmp 2)), .op none (.mv 12 (.tmp 85)), .op none (.mv 13 (.tmp 86)), .keep [12, 13]]) (.ret)))))))
def r83 : List RV := [.tmp 12, .tmp 13]
theorem k83 : compC Try.prog 87 C83 (Try.f83.body.getD .skip) = some C83.erase := by kernel_rfl
theorem q83 : rvsOf Try.prog Try.f83.results.toList = some r83 := by kernel_rfl
def impl_choose.l0 (l4 : List S86) (x0_0 : Int) (x0_1 : Int) (x0_2 : Int) (x0_3 : Int) (x0_4 : Int) (x0_6 : Int) (x0_8 : ByteArray) (x0_9 : Int) (x0_5 : Int) (x0_7 : Int) (x0_10 : (List Int)) : Option (List Int) := (if x0_7 < x0_6 then ((if 0 ≤ x0_7 ∧ x0_7 < (l4.length : Int) then ((if (rd z86 l4 x0_7).f0 ≠ 1 then (some true) else (if (rd z86 l4 x0_7).f2 = 0 then (some true) else (if ¬ x0_7 < 0 then (some (decide (bits .and .i64 (x0_3.fdiv (2 ^ (min x0_7.toNat 64))) 1 = 1))) else none))) >>= fun (j21 : Bool) => (if j21 = true then (some (x0_5, x0_10)) else (dyn_113_114_115_116 x0_9 x0_7 ((rd z86 l4 x0_7).f0) ((rd z86 l4 x0_7).f1) ((rd z86 l4 x0_7).f2) x0_4 x0_1 x0_2 >>= fun t35 => ((if (x0_10.length : Int) = 0 then (some true) else (some (decide (t35 < x0_5)))) >>= fun (j46 : Bool) => (if j46 = true then (some (t35, ([x0_7] : List Int))) else (if t35 = x0_5 then (if (x0_10.length + 1) * 8 ≤ 140737488355328 then (some (x0_5, (x0_10 ++ ([x0_7] : List Int)))) else none) else (some (x0_5, x0_10)))))))) else none) >>= fun (j11 : Int × (List Int)) => (impl_choose.l0 l4 x0_0 x0_1 x0_2 x0_3 x0_4 x0_6 x0_8 x0_9 j11.1 (IntKind.i64.wrap (x0_7 + 1)) j11.2)) else (some x0_10))
 partial_fixpoint
def impl_choose.f (a0_0 : ByteArray) (a0_1 : Int) (a1 : Int) (a2 : Int) (a3 : Int) (l4 : List S86) (a5 : Int) : Option ((List Int) × Int) := (impl_choose.l0 l4 a1 a2 a3 a5 (l4.length : Int) (l4.length : Int) a0_0 a0_1 0 0 ([] : List Int) >>= fun (y68 : (List Int)) => (((if a1 = 1 then (some (decide ((y68.length : Int) > 0))) else (some false)) >>= fun (j74 : Bool) => (if j74 = true then (if (0 : Int) ≤ 0 ∧ 0 < (y68.length : Int) then (if ¬ (l4.length : Int) = 0 then (some ((IntKind.i64.wrap ((rd 0 y68 0) + 1)).tmod (l4.length : Int))) else none) else none) else (some a2))) >>= fun (j70 : Int) => (some (y68, j70))))
def impl_choose.l0_M (cs0 : List Cell) (o0 : Nat) (l4 : List S86) (hv0 : Vw c86 3 cs0 o0 l4) (x0_0 : Int) (x0_1 : Int) (x0_2 : Int) (x0_3 : Int) (x0_4 : Int) (x0_6 : Int) (x0_8 : ByteArray) (x0_9 : Int) (x0_5 : Int) (x0_7 : Int) (x0_10 : (List Int)) (y : (List Int)) : Prop := ∀ (K : AE → St → Prop), (K (.exit 0) ⟨[(1, .c (.sc (.int .i64 x0_0))), (2, .c (.sc (.int .i64 x0_1))), (14, .c (.sc (.int .i64 x0_4))), (15, .c (.ref (.tmp 15 20) [] 0 y.length))], [(.arg 0, ⟨.fz, 3, cs0⟩), (.tmp 15 20, ⟨.lst, 1, encL c_i64 y⟩)], [], []⟩) → loopS Try.prog 87 (.ga C83_l0) K ⟨[(1, .c (.sc (.int .i64 x0_0))), (2, .c (.sc (.int .i64 x0_1))), (3, .c (.sc (.int .i64 x0_2))), (4, .c (.ref (.arg 0) [] o0 l4.length)), (5, .c (.sc (.int .i64 x0_3))), (6, .c (.ptr (.tmp 6 0) [] 0)), (14, .c (.sc (.int .i64 x0_4))), (15, .c (.ref (.tmp 15 20) [] 0 x0_10.length)), (16, .c (.sc (.int .i64 x0_5))), (22, .c (.sc (.int .i64 x0_6))), (23, .c (.sc (.int .i64 x0_7)))], [(.arg 0, ⟨.fz, 3, cs0⟩), (.tmp 6 0, ⟨.box, 0, [.sc (.string x0_8), .sc (fnv x0_9)]⟩), (.tmp 15 20, ⟨.lst, 1, encL c_i64 x0_10⟩)], [], []⟩
theorem impl_choose.l0_walk (cs0 : List Cell) (o0 : Nat) (l4 : List S86) (hv0 : Vw c86 3 cs0 o0 l4) (x0_0 : Int) (x0_1 : Int) (x0_2 : Int) (x0_3 : Int) (x0_4 : Int) (x0_6 : Int) (x0_8 : ByteArray) (x0_9 : Int) (x0_5 : Int) (x0_7 : Int) (x0_10 : (List Int)) (y : (List Int)) (h : impl_choose.l0 l4 x0_0 x0_1 x0_2 x0_3 x0_4 x0_6 x0_8 x0_9 x0_5 x0_7 x0_10 = some y) : impl_choose.l0_M cs0 o0 l4 hv0 x0_0 x0_1 x0_2 x0_3 x0_4 x0_6 x0_8 x0_9 x0_5 x0_7 x0_10 y := by
 refine impl_choose.l0.partial_correctness l4 x0_0 x0_1 x0_2 x0_3 x0_4 x0_6 x0_8 x0_9 (motive := fun x0_5 x0_7 x0_10 y => impl_choose.l0_M cs0 o0 l4 hv0 x0_0 x0_1 x0_2 x0_3 x0_4 x0_6 x0_8 x0_9 x0_5 x0_7 x0_10 y) ?_ x0_5 x0_7 x0_10 y h
 clear h
 unfold impl_choose.l0_M
 intro rec ih x0_5 x0_7 x0_10 y h K hx0
 refine loop_unroll (ga_k fun G0 G0n G0r G0x => ?_)
 unfold C83_l0
 refine sr_k fun J8 hJ8 => ?_
 simp +decide only [Nat.reduceAdd, Nat.reduceMul, Int.reduceToNat, ak]
 refine hJ8 _ ?_
 refine seq_k fun J9 hJ9 => ?_
 refine cond_k (b := decide (x0_7 < x0_6)) rfl (fun c10 => ?_) (fun c10 => ?_)
 ·replace c10 := of_decide_eq_true c10; rw [if_pos c10] at h
  refine hJ9 _ ?_
  obtain ⟨j11, h12, hn⟩ := of_bind h
  refine seq_j (fun st => st = ⟨[(1, .c (.sc (.int .i64 x0_0))), (2, .c (.sc (.int .i64 x0_1))), (3, .c (.sc (.int .i64 x0_2))), (4, .c (.ref (.arg 0) [] o0 l4.length)), (5, .c (.sc (.int .i64 x0_3))), (6, .c (.ptr (.tmp 6 0) [] 0)), (14, .c (.sc (.int .i64 x0_4))), (15, .c (.ref (.tmp 15 20) [] 0 j11.2.length)), (16, .c (.sc (.int .i64 j11.1))), (22, .c (.sc (.int .i64 x0_6))), (23, .c (.sc (.int .i64 x0_7)))], [(.arg 0, ⟨.fz, 3, cs0⟩), (.tmp 6 0, ⟨.box, 0, [.sc (.string x0_8), .sc (fnv x0_9)]⟩), (.tmp 15 20, ⟨.lst, 1, encL c_i64 j11.2⟩)], [], []⟩) (fun J13 hJ13 => ?_) ?_
  ·replace h := h12; clear hn
   refine ga_k fun G14 G14n G14r G14x => ?_
   refine block_k fun B15 B15n B15x B15r B15j => ?_
   refine sr_k fun J16 hJ16 => ?_
   simp +decide only [Nat.reduceAdd, Nat.reduceMul, Int.reduceToNat, ak]
   refine hJ16 _ ?_
   refine sr_k fun J17 hJ17 => ?_
   obtain ⟨b18, h⟩ := of_guard h
   have g19 : (List.drop (o0 + x0_7.toNat * 3) (cs0)).take 3 = [.sc (.int .i64 ((rd z86 l4 x0_7).f0)), .sc (.int .i64 ((rd z86 l4 x0_7).f1)), .sc (.int .i64 ((rd z86 l4 x0_7).f2))] := hv0.stretch z86 b18.1 b18.2
   simp +decide only [Nat.reduceAdd, Nat.reduceMul, Int.reduceToNat, ak, b18, g19]
   refine hJ17 _ ?_
   refine seq_k fun J20 hJ20 => ?_
   obtain ⟨j21, h22, hn⟩ := of_bind h
   refine seq_j (fun st => st = ⟨[(1, .c (.sc (.int .i64 x0_0))), (2, .c (.sc (.int .i64 x0_1))), (3, .c (.sc (.int .i64 x0_2))), (4, .c (.ref (.arg 0) [] o0 l4.length)), (5, .c (.sc (.int .i64 x0_3))), (6, .c (.ptr (.tmp 6 0) [] 0)), (14, .c (.sc (.int .i64 x0_4))), (15, .c (.ref (.tmp 15 20) [] 0 x0_10.length)), (16, .c (.sc (.int .i64 x0_5))), (17, .c (.sc (.int .i64 x0_7))), (18, .c (.ptr (.tmp 18 0) [] 0)), (22, .c (.sc (.int .i64 x0_6))), (23, .c (.sc (.int .i64 x0_7))), (44, .c (.sc (.bool j21)))], [(.arg 0, ⟨.fz, 3, cs0⟩), (.tmp 6 0, ⟨.box, 0, [.sc (.string x0_8), .sc (fnv x0_9)]⟩), (.tmp 15 20, ⟨.lst, 1, encL c_i64 x0_10⟩), (.tmp 18 0, ⟨.box, 0, [.sc (.int .i64 ((rd z86 l4 x0_7).f0)), .sc (.int .i64 ((rd z86 l4 x0_7).f1)), .sc (.int .i64 ((rd z86 l4 x0_7).f2))]⟩)], [], []⟩) (fun J23 hJ23 => ?_) ?_
   ·replace h := h22; clear hn
    refine ga_k fun G24 G24n G24r G24x => ?_
    refine reg_k ?_
    simp +decide only [Nat.reduceAdd, Nat.reduceMul, Int.reduceToNat, ak]
    by_cases c25 : (rd z86 l4 x0_7).f0 ≠ 1
    ·rw [if_pos c25] at h
     have e26 : decide ((rd z86 l4 x0_7).f0 ≠ 1) = true := decide_eq_true c25
     simp +decide only [Nat.reduceAdd, Nat.reduceMul, Int.reduceToNat, ak, e26]
     obtain rfl := Option.some.inj h
     refine G24n _ _ (wk [1, 2, 3, 4, 5, 6, 14, 15, 16, 17, 18, 22, 23, 44] [pI (.arg 0) .fz, pI (.tmp 6 0) .box, pI (.tmp 15 20) .lst, pI (.tmp 18 0) .box] (h0 := by first | rfl | simp +decide only [ak, akF, b18, e26]) (h := by first | rfl | (simp +decide only [ak, akF, b18, e26]; done) | (simp +decide [ak, akF, b18, e26] <;> omega))) (hJ23 _ rfl)
    ·rw [if_neg c25] at h
     have e27 : decide ((rd z86 l4 x0_7).f0 ≠ 1) = false := decide_eq_false c25
     simp +decide only [Nat.reduceAdd, Nat.reduceMul, Int.reduceToNat, ak, e27]
     by_cases c28 : (rd z86 l4 x0_7).f2 = 0
     ·rw [if_pos c28] at h
      have e29 : decide ((rd z86 l4 x0_7).f2 = 0) = true := decide_eq_true c28
      simp +decide only [Nat.reduceAdd, Nat.reduceMul, Int.reduceToNat, ak, e29]
      obtain rfl := Option.some.inj h
      refine G24n _ _ (wk [1, 2, 3, 4, 5, 6, 14, 15, 16, 17, 18, 22, 23, 44] [pI (.arg 0) .fz, pI (.tmp 6 0) .box, pI (.tmp 15 20) .lst, pI (.tmp 18 0) .box] (h0 := by first | rfl | simp +decide only [ak, akF, b18, e27, e29]) (h := by first | rfl | (simp +decide only [ak, akF, b18, e27, e29]; done) | (simp +decide [ak, akF, b18, e27, e29] <;> omega))) (hJ23 _ rfl)
     ·rw [if_neg c28] at h
      have e30 : decide ((rd z86 l4 x0_7).f2 = 0) = false := decide_eq_false c28
      obtain ⟨b31, h⟩ := of_guard h
      have g32 : ∀ a, abin .shr (.int .i64 a) (.int .i64 x0_7) = some (.int .i64 (a.fdiv (2 ^ (min x0_7.toNat 64)))) := fun a => akShr _ _ a _ b31
      simp +decide only [Nat.reduceAdd, Nat.reduceMul, Int.reduceToNat, ak, e30, g32]
      obtain rfl := Option.some.inj h
      refine G24n _ _ (wk [1, 2, 3, 4, 5, 6, 14, 15, 16, 17, 18, 22, 23, 44] [pI (.arg 0) .fz, pI (.tmp 6 0) .box, pI (.tmp 15 20) .lst, pI (.tmp 18 0) .box] (h0 := by first | rfl | simp +decide only [ak, akF, b18, b31, e27, e30]) (h := by first | rfl | (simp +decide only [ak, akF, b18, b31, e27, e30]; done) | (simp +decide [ak, akF, b18, b31, e27, e30] <;> omega))) (hJ23 _ rfl)
   ·replace h := hn; clear hn h22
    rintro _ rfl
    refine cond_k (b := j21) rfl (fun c33 => ?_) (fun c33 => ?_)
    ·rw [if_pos c33] at h
     refine B15x _ ?_
     obtain rfl := Option.some.inj h
     refine G14n _ _ (wk [1, 2, 3, 4, 5, 6, 14, 15, 16, 22, 23] [pI (.arg 0) .fz, pI (.tmp 6 0) .box, pI (.tmp 15 20) .lst]) (hJ13 _ rfl)
    ·rw [if_neg (Bool.eq_false_iff.1 c33)] at h
     refine hJ20 _ ?_
     refine sr_k fun J34 hJ34 => ?_
     simp +decide only [Nat.reduceAdd, Nat.reduceMul, Int.reduceToNat, ak]
     obtain ⟨t35, h36, h⟩ := of_bind h
     have hd37 : ∀ K : St → Prop, K ⟨[(1, .c (.sc (.int .i64 x0_0))), (2, .c (.sc (.int .i64 x0_1))), (3, .c (.sc (.int .i64 x0_2))), (4, .c (.ref (.arg 0) [] o0 l4.length)), (5, .c (.sc (.int .i64 x0_3))), (6, .c (.ptr (.tmp 6 0) [] 0)), (14, .c (.sc (.int .i64 x0_4))), (15, .c (.ref (.tmp 15 20) [] 0 x0_10.length)), (16, .c (.sc (.int .i64 x0_5))), (17, .c (.sc (.int .i64 x0_7))), (18, .c (.ptr (.tmp 18 0) [] 0)), (22, .c (.sc (.int .i64 x0_6))), (23, .c (.sc (.int .i64 x0_7))), (44, .c (.sc (.bool j21))), (45, .c (.ptr (.tmp 6 0) [] 1)), (46, .c (.sc (fnv x0_9))), (47, .c (.sc (.int .i64 x0_7))), (48, .g [.sc (.int .i64 ((rd z86 l4 x0_7).f0)), .sc (.int .i64 ((rd z86 l4 x0_7).f1)), .sc (.int .i64 ((rd z86 l4 x0_7).f2))]), (49, .c (.sc (.int .i64 x0_4))), (50, .c (.sc (.int .i64 x0_1))), (51, .c (.sc (.int .i64 x0_2))), (52, .c (.sc (.int .i64 t35)))], [(.arg 0, ⟨.fz, 3, cs0⟩), (.tmp 6 0, ⟨.box, 0, [.sc (.string x0_8), .sc (fnv x0_9)]⟩), (.tmp 15 20, ⟨.lst, 1, encL c_i64 x0_10⟩), (.tmp 18 0, ⟨.box, 0, [.sc (.int .i64 ((rd z86 l4 x0_7).f0)), .sc (.int .i64 ((rd z86 l4 x0_7).f1)), .sc (.int .i64 ((rd z86 l4 x0_7).f2))]⟩)], [], []⟩ → callvK Try.prog 87 (some 52) (.value (.tmp 46)) [.tmp 47, .tmp 48, .tmp 49, .tmp 50, .tmp 51] K ⟨[(1, .c (.sc (.int .i64 x0_0))), (2, .c (.sc (.int .i64 x0_1))), (3, .c (.sc (.int .i64 x0_2))), (4, .c (.ref (.arg 0) [] o0 l4.length)), (5, .c (.sc (.int .i64 x0_3))), (6, .c (.ptr (.tmp 6 0) [] 0)), (14, .c (.sc (.int .i64 x0_4))), (15, .c (.ref (.tmp 15 20) [] 0 x0_10.length)), (16, .c (.sc (.int .i64 x0_5))), (17, .c (.sc (.int .i64 x0_7))), (18, .c (.ptr (.tmp 18 0) [] 0)), (22, .c (.sc (.int .i64 x0_6))), (23, .c (.sc (.int .i64 x0_7))), (44, .c (.sc (.bool j21))), (45, .c (.ptr (.tmp 6 0) [] 1)), (46, .c (.sc (fnv x0_9))), (47, .c (.sc (.int .i64 x0_7))), (48, .g [.sc (.int .i64 ((rd z86 l4 x0_7).f0)), .sc (.int .i64 ((rd z86 l4 x0_7).f1)), .sc (.int .i64 ((rd z86 l4 x0_7).f2))]), (49, .c (.sc (.int .i64 x0_4))), (50, .c (.sc (.int .i64 x0_1))), (51, .c (.sc (.int .i64 x0_2)))], [(.arg 0, ⟨.fz, 3, cs0⟩), (.tmp 6 0, ⟨.box, 0, [.sc (.string x0_8), .sc (fnv x0_9)]⟩), (.tmp 15 20, ⟨.lst, 1, encL c_i64 x0_10⟩), (.tmp 18 0, ⟨.box, 0, [.sc (.int .i64 ((rd z86 l4 x0_7).f0)), .sc (.int .i64 ((rd z86 l4 x0_7).f1)), .sc (.int .i64 ((rd z86 l4 x0_7).f2))]⟩)], [], []⟩ := by
      intro K hK; unfold dyn_113_114_115_116 at h36
      by_cases e38 : x0_9 = 113
      ·rw [if_pos e38] at h36
       have e38f : fnv x0_9 = .func (.func 113) #[] #[] := by rw [e38]; rfl
       refine callv_fn (f := 113) (fn := Try.f113) (congrArg (fun v => AV.c (Cell.sc v)) e38f) Try.func113 (by kernel_rfl) (by decide) ?_
       refine call_m [] (s0 := []) (by intro t ht; cases ht; decide) rfl rfl (by first | rfl | simp only [reduceCtorEq, Nat.reduceEqDiff, ak, akF, b18, g19]) (impl_policyOf_1.tri x0_7 ((rd z86 l4 x0_7).f0) ((rd z86 l4 x0_7).f1) ((rd z86 l4 x0_7).f2) x0_4 x0_1 x0_2 _ h36) (by first | rfl | simp only [reduceCtorEq, Nat.reduceEqDiff, ak, akF]) (by simp [bkOk2, memK]) (fun hl38 => ?_)
       refine call_st (s4 := [(.arg 0, ⟨.fz, 3, cs0⟩), (.tmp 6 0, ⟨.box, 0, [.sc (.string x0_8), .sc (fnv x0_9)]⟩), (.tmp 15 20, ⟨.lst, 1, encL c_i64 x0_10⟩), (.tmp 18 0, ⟨.box, 0, [.sc (.int .i64 ((rd z86 l4 x0_7).f0)), .sc (.int .i64 ((rd z86 l4 x0_7).f1)), .sc (.int .i64 ((rd z86 l4 x0_7).f2))]⟩)]) (m1' := []) (m2' := []) (v' := .c (.sc (.int .i64 t35))) (Sto.mapN_killNil _ _) (mrgL_nil' _ _ _) (by rfl) (mapT_killNil _ _) (by rfl) (by rfl) (by first | rfl | simp only [reduceCtorEq, Nat.reduceEqDiff, ak, akF, Nat.zero_add, List.append_nil, b18]) ?_
       first | exact hK | (simp +decide only [Nat.reduceAdd, Nat.reduceMul, Int.reduceToNat, ak]; exact hK)
      ·rw [if_neg e38] at h36
       by_cases e40 : x0_9 = 114
       ·rw [if_pos e40] at h36
        have e40f : fnv x0_9 = .func (.func 114) #[] #[] := by rw [e40]; rfl
        refine callv_fn (f := 114) (fn := Try.f114) (congrArg (fun v => AV.c (Cell.sc v)) e40f) Try.func114 (by kernel_rfl) (by decide) ?_
        refine call_m [] (s0 := []) (by intro t ht; cases ht; decide) rfl rfl (by first | rfl | simp only [reduceCtorEq, Nat.reduceEqDiff, ak, akF, b18, g19]) (impl_policyOf_2.tri x0_7 ((rd z86 l4 x0_7).f0) ((rd z86 l4 x0_7).f1) ((rd z86 l4 x0_7).f2) x0_4 x0_1 x0_2 _ h36) (by first | rfl | simp only [reduceCtorEq, Nat.reduceEqDiff, ak, akF]) (by simp [bkOk2, memK]) (fun hl40 => ?_)
        refine call_st (s4 := [(.arg 0, ⟨.fz, 3, cs0⟩), (.tmp 6 0, ⟨.box, 0, [.sc (.string x0_8), .sc (fnv x0_9)]⟩), (.tmp 15 20, ⟨.lst, 1, encL c_i64 x0_10⟩), (.tmp 18 0, ⟨.box, 0, [.sc (.int .i64 ((rd z86 l4 x0_7).f0)), .sc (.int .i64 ((rd z86 l4 x0_7).f1)), .sc (.int .i64 ((rd z86 l4 x0_7).f2))]⟩)]) (m1' := []) (m2' := []) (v' := .c (.sc (.int .i64 t35))) (Sto.mapN_killNil _ _) (mrgL_nil' _ _ _) (by rfl) (mapT_killNil _ _) (by rfl) (by rfl) (by first | rfl | simp only [reduceCtorEq, Nat.reduceEqDiff, ak, akF, Nat.zero_add, List.append_nil, b18]) ?_
        first | exact hK | (simp +decide only [Nat.reduceAdd, Nat.reduceMul, Int.reduceToNat, ak]; exact hK)
       ·rw [if_neg e40] at h36
        by_cases e42 : x0_9 = 115
        ·rw [if_pos e42] at h36
         have e42f : fnv x0_9 = .func (.func 115) #[] #[] := by rw [e42]; rfl
         refine callv_fn (f := 115) (fn := Try.f115) (congrArg (fun v => AV.c (Cell.sc v)) e42f) Try.func115 (by kernel_rfl) (by decide) ?_
         refine call_m [] (s0 := []) (by intro t ht; cases ht; decide) rfl rfl (by first | rfl | simp only [reduceCtorEq, Nat.reduceEqDiff, ak, akF, b18, g19]) (impl_policyOf_3.tri x0_7 ((rd z86 l4 x0_7).f0) ((rd z86 l4 x0_7).f1) ((rd z86 l4 x0_7).f2) x0_4 x0_1 x0_2 _ h36) (by first | rfl | simp only [reduceCtorEq, Nat.reduceEqDiff, ak, akF]) (by simp [bkOk2, memK]) (fun hl42 => ?_)
         refine call_st (s4 := [(.arg 0, ⟨.fz, 3, cs0⟩), (.tmp 6 0, ⟨.box, 0, [.sc (.string x0_8), .sc (fnv x0_9)]⟩), (.tmp 15 20, ⟨.lst, 1, encL c_i64 x0_10⟩), (.tmp 18 0, ⟨.box, 0, [.sc (.int .i64 ((rd z86 l4 x0_7).f0)), .sc (.int .i64 ((rd z86 l4 x0_7).f1)), .sc (.int .i64 ((rd z86 l4 x0_7).f2))]⟩)]) (m1' := []) (m2' := []) (v' := .c (.sc (.int .i64 t35))) (Sto.mapN_killNil _ _) (mrgL_nil' _ _ _) (by rfl) (mapT_killNil _ _) (by rfl) (by rfl) (by first | rfl | simp only [reduceCtorEq, Nat.reduceEqDiff, ak, akF, Nat.zero_add, List.append_nil, b18]) ?_
         first | exact hK | (simp +decide only [Nat.reduceAdd, Nat.reduceMul, Int.reduceToNat, ak]; exact hK)
        ·rw [if_neg e42] at h36
         by_cases e44 : x0_9 = 116
         ·rw [if_pos e44] at h36
          have e44f : fnv x0_9 = .func (.func 116) #[] #[] := by rw [e44]; rfl
          refine callv_fn (f := 116) (fn := Try.f116) (congrArg (fun v => AV.c (Cell.sc v)) e44f) Try.func116 (by kernel_rfl) (by decide) ?_
          refine call_m [] (s0 := []) (by intro t ht; cases ht; decide) rfl rfl (by first | rfl | simp only [reduceCtorEq, Nat.reduceEqDiff, ak, akF, b18, g19]) (impl_policyOf_4.tri x0_7 ((rd z86 l4 x0_7).f0) ((rd z86 l4 x0_7).f1) ((rd z86 l4 x0_7).f2) x0_4 x0_1 x0_2 _ h36) (by first | rfl | simp only [reduceCtorEq, Nat.reduceEqDiff, ak, akF]) (by simp [bkOk2, memK]) (fun hl44 => ?_)
          refine call_st (s4 := [(.arg 0, ⟨.fz, 3, cs0⟩), (.tmp 6 0, ⟨.box, 0, [.sc (.string x0_8), .sc (fnv x0_9)]⟩), (.tmp 15 20, ⟨.lst, 1, encL c_i64 x0_10⟩), (.tmp 18 0, ⟨.box, 0, [.sc (.int .i64 ((rd z86 l4 x0_7).f0)), .sc (.int .i64 ((rd z86 l4 x0_7).f1)), .sc (.int .i64 ((rd z86 l4 x0_7).f2))]⟩)]) (m1' := []) (m2' := []) (v' := .c (.sc (.int .i64 t35))) (Sto.mapN_killNil _ _) (mrgL_nil' _ _ _) (by rfl) (mapT_killNil _ _) (by rfl) (by rfl) (by first | rfl | simp only [reduceCtorEq, Nat.reduceEqDiff, ak, akF, Nat.zero_add, List.append_nil, b18]) ?_
          first | exact hK | (simp +decide only [Nat.reduceAdd, Nat.reduceMul, Int.reduceToNat, ak]; exact hK)
         ·rw [if_neg e44] at h36
          cases h36
     refine hd37 _ ?_
     simp +decide only [Nat.reduceAdd, Nat.reduceMul, Int.reduceToNat, ak]
     refine hJ34 _ ?_
     obtain ⟨j46, h47, hn⟩ := of_bind h
     refine seq_j (fun st => st = ⟨[(1, .c (.sc (.int .i64 x0_0))), (2, .c (.sc (.int .i64 x0_1))), (3, .c (.sc (.int .i64 x0_2))), (4, .c (.ref (.arg 0) [] o0 l4.length)), (5, .c (.sc (.int .i64 x0_3))), (6, .c (.ptr (.tmp 6 0) [] 0)), (14, .c (.sc (.int .i64 x0_4))), (15, .c (.ref (.tmp 15 20) [] 0 x0_10.length)), (16, .c (.sc (.int .i64 x0_5))), (17, .c (.sc (.int .i64 x0_7))), (19, .c (.sc (.int .i64 t35))), (22, .c (.sc (.int .i64 x0_6))), (23, .c (.sc (.int .i64 x0_7))), (60, .c (.sc (.bool j46)))], [(.arg 0, ⟨.fz, 3, cs0⟩), (.tmp 6 0, ⟨.box, 0, [.sc (.string x0_8), .sc (fnv x0_9)]⟩), (.tmp 15 20, ⟨.lst, 1, encL c_i64 x0_10⟩)], [], []⟩) (fun J48 hJ48 => ?_) ?_
     ·replace h := h47; clear hn
      refine ga_k fun G49 G49n G49r G49x => ?_
      refine reg_k ?_
      simp +decide only [Nat.reduceAdd, Nat.reduceMul, Int.reduceToNat, ak]
      by_cases c50 : (x0_10.length : Int) = 0
      ·rw [if_pos c50] at h
       have e51 : decide ((x0_10.length : Int) = 0) = true := decide_eq_true c50
       simp +decide only [Nat.reduceAdd, Nat.reduceMul, Int.reduceToNat, ak, e51]
       obtain rfl := Option.some.inj h
       refine G49n _ _ (wk [1, 2, 3, 4, 5, 6, 14, 15, 16, 17, 19, 22, 23, 60] [pI (.arg 0) .fz, pI (.tmp 6 0) .box, pI (.tmp 15 20) .lst] (h0 := by first | rfl | simp +decide only [ak, akF, b18, e51]) (h := by first | rfl | (simp +decide only [ak, akF, b18, e51]; done) | (simp +decide [ak, akF, b18, e51] <;> omega))) (hJ48 _ rfl)
      ·rw [if_neg c50] at h
       have e52 : decide ((x0_10.length : Int) = 0) = false := decide_eq_false c50
       simp +decide only [Nat.reduceAdd, Nat.reduceMul, Int.reduceToNat, ak, e52]
       obtain rfl := Option.some.inj h
       refine G49n _ _ (wk [1, 2, 3, 4, 5, 6, 14, 15, 16, 17, 19, 22, 23, 60] [pI (.arg 0) .fz, pI (.tmp 6 0) .box, pI (.tmp 15 20) .lst] (h0 := by first | rfl | simp +decide only [ak, akF, b18, e52]) (h := by first | rfl | (simp +decide only [ak, akF, b18, e52]; done) | (simp +decide [ak, akF, b18, e52] <;> omega))) (hJ48 _ rfl)
     ·replace h := hn; clear hn h47
      rintro _ rfl
      refine cond_k (b := j46) rfl (fun c53 => ?_) (fun c53 => ?_)
      ·rw [if_pos c53] at h
       refine reg_k ?_
       have g54 : (List.replicate 1 ([.int .i64 0] : List Value)).flatten = [.int .i64 0] := rfl
       have g55 : (⟨.lst, 1, [.sc (.int .i64 x0_7)]⟩ : Root) = ⟨.lst, 1, encL c_i64 ([x0_7] : List Int)⟩ := rfl
       have g56 : ([x0_7] : List Int).length = 1 := rfl
       simp +decide only [Nat.reduceAdd, Nat.reduceMul, Int.reduceToNat, ak, g54, g55, g56]
       refine B15n _ ?_
       obtain rfl := Option.some.inj h
       refine G14n _ _ (wk [1, 2, 3, 4, 5, 6, 14, 15, 16, 22, 23] [pI (.arg 0) .fz, pI (.tmp 6 0) .box, pN (.tmp 15 20) (.tmp 62 0) .lst] (h0 := by first | rfl | simp +decide only [ak, akF, b18]) (h := by first | rfl | (simp +decide only [ak, akF, b18]; done) | (simp +decide [ak, akF, b18] <;> omega))) (hJ13 _ rfl)
      ·rw [if_neg (Bool.eq_false_iff.1 c53)] at h
       refine sr_k fun J57 hJ57 => ?_
       simp +decide only [Nat.reduceAdd, Nat.reduceMul, Int.reduceToNat, ak]
       refine hJ57 _ ?_
       refine cond_k (b := decide (t35 = x0_5)) rfl (fun c58 => ?_) (fun c58 => ?_)
       ·replace c58 := of_decide_eq_true c58; rw [if_pos c58] at h
        refine reg_k ?_
        have g59 : (List.replicate 1 ([.int .i64 0] : List Value)).flatten = [.int .i64 0] := rfl
        have g60 : (⟨.lst, 1, [.sc (.int .i64 x0_7)]⟩ : Root) = ⟨.lst, 1, encL c_i64 ([x0_7] : List Int)⟩ := rfl
        have g61 : ([x0_7] : List Int).length = 1 := rfl
        have g62 : (encL c_i64 ([x0_7] : List Int)).length = 1 * 1 := by simp [encL_length c_i64_w]
        have g63 : (encL c_i64 ([x0_7] : List Int)).all nd = true := rfl
        obtain ⟨b64, h⟩ := of_guard h
        have g65 : appLim x0_10.length 1 8 := ⟨b64, by have := b64; omega⟩
        have g66 : (encL c_i64 x0_10).length = x0_10.length * 1 := by simp [encL_length c_i64_w]
        have g67 : encL c_i64 x0_10 ++ encL c_i64 ([x0_7] : List Int) = encL c_i64 (x0_10 ++ ([x0_7] : List Int)) := (encL_append _ _).symm
        simp +decide only [Nat.reduceAdd, Nat.reduceMul, Int.reduceToNat, ak, g59, g60, g61, g62, g63, g65, g66, g67]
        refine B15n _ ?_
        obtain rfl := Option.some.inj h
        refine G14n _ _ (wk [1, 2, 3, 4, 5, 6, 14, 15, 16, 22, 23] [pI (.arg 0) .fz, pI (.tmp 6 0) .box, pI (.tmp 15 20) .lst] (h0 := by first | rfl | simp +decide only [ak, akF, b18, b64]) (h := by first | rfl | (simp +decide only [ak, akF, b18, b64]; done) | (simp +decide [ak, akF, b18, b64] <;> omega))) (hJ13 _ rfl)
       ·replace c58 := of_decide_eq_false c58; rw [if_neg c58] at h
        refine B15n _ ?_
        obtain rfl := Option.some.inj h
        refine G14n _ _ (wk [1, 2, 3, 4, 5, 6, 14, 15, 16, 22, 23] [pI (.arg 0) .fz, pI (.tmp 6 0) .box, pI (.tmp 15 20) .lst]) (hJ13 _ rfl)
  ·replace h := hn; clear hn h12
   rintro _ rfl
   refine reg_k ?_
   simp +decide only [Nat.reduceAdd, Nat.reduceMul, Int.reduceToNat, ak]
   refine G0n _ _ (wk [1, 2, 3, 4, 5, 6, 14, 15, 16, 22, 23] [pI (.arg 0) .fz, pI (.tmp 6 0) .box, pI (.tmp 15 20) .lst]) (ih _ _ _ _ h K hx0)
 ·replace c10 := of_decide_eq_false c10; rw [if_neg c10] at h
  obtain rfl := Option.some.inj h
  refine gh_k (wk [1, 2, 14, 15] [pI (.arg 0) .fz, pI (.tmp 15 20) .lst]) ?_
  refine G0x _ _ ?_
  exact hx0
theorem impl_choose.tri (cs0 : List Cell) (o0 : Nat) (l4 : List S86) (hv0 : Vw c86 3 cs0 o0 l4) (a0_0 : ByteArray) (a0_1 : Int) (a1 : Int) (a2 : Int) (a3 : Int) (a5 : Int) (r : (List Int) × Int) (h : impl_choose.f a0_0 a0_1 a1 a2 a3 l4 a5 = some r) : Tri Try.prog 83 [.g [.sc (.string a0_0), .sc (fnv a0_1)], .c (.sc (.int .i64 a1)), .c (.sc (.int .i64 a2)), .c (.sc (.int .i64 a3)), .c (.ref (.arg 0) [] o0 l4.length), .c (.sc (.int .i64 a5))] [(.arg 0, ⟨.fz, 3, cs0⟩)] (fun o => o = ⟨.tup [(false, [.ref (.res 0) [] 0 r.1.length]), (false, [.sc (.int .i64 r.2)])], [(.arg 0, ⟨.fz, 3, cs0⟩), (.res 0, ⟨.lst, 1, encL c_i64 r.1⟩)], [], []⟩) := by
 refine tri_of_body (ac := C83) (xs := r83) Try.func83 (show Try.f83.body = some (Try.f83.body.getD .skip) from rfl) k83 q83 (Nat.le_of_ble_eq_true rfl) ?_
 refine body_of fun K hKn hKr => ?_
 unfold impl_choose.f at h
 unfold C83
 simp only [initT, Nat.reduceAdd]
 refine sr_k fun J1 hJ1 => ?_
 simp +decide only [Nat.reduceAdd, Nat.reduceMul, Int.reduceToNat, ak]
 refine gho_k (Weak.nm' 12 (.tmp 12 20) 1 (encL c_i64 ([] : List Int)) rfl rfl rfl) ?_
 simp +decide only [Nat.reduceAdd, Nat.reduceMul, Int.reduceToNat, ak]
 refine hJ1 _ ?_
 refine sr_k fun J2 hJ2 => ?_
 simp +decide only [Nat.reduceAdd, Nat.reduceMul, Int.reduceToNat, ak]
 refine hJ2 _ ?_
 refine sr_k fun J3 hJ3 => ?_
 simp +decide only [Nat.reduceAdd, Nat.reduceMul, Int.reduceToNat, ak]
 refine gho_k (Weak.nm' 15 (.tmp 15 20) 1 (encL c_i64 ([] : List Int)) rfl rfl rfl) ?_
 simp +decide only [Nat.reduceAdd, Nat.reduceMul, Int.reduceToNat, ak]
 refine hJ3 _ ?_
 refine sr_k fun J4 hJ4 => ?_
 simp +decide only [Nat.reduceAdd, Nat.reduceMul, Int.reduceToNat, ak]
 refine hJ4 _ ?_
 refine seq_k fun J5 hJ5 => ?_
 refine sr_k fun J6 hJ6 => ?_
 simp +decide only [Nat.reduceAdd, Nat.reduceMul, Int.reduceToNat, ak]
 refine hJ6 _ ?_
 refine block_k fun B7 B7n B7x B7r B7j => ?_
 obtain ⟨y68, h69, h⟩ := of_bind h
 refine gh_k (st' := ⟨[(1, .c (.sc (.int .i64 a1))), (2, .c (.sc (.int .i64 a2))), (3, .c (.sc (.int .i64 a3))), (4, .c (.ref (.arg 0) [] o0 l4.length)), (5, .c (.sc (.int .i64 a5))), (6, .c (.ptr (.tmp 6 0) [] 0)), (14, .c (.sc (.int .i64 (l4.length : Int)))), (15, .c (.ref (.tmp 15 20) [] 0 (([] : List Int).length))), (16, .c (.sc (.int .i64 0))), (22, .c (.sc (.int .i64 (l4.length : Int)))), (23, .c (.sc (.int .i64 0)))], [(.arg 0, ⟨.fz, 3, cs0⟩), (.tmp 6 0, ⟨.box, 0, [.sc (.string a0_0), .sc (fnv a0_1)]⟩), (.tmp 15 20, ⟨.lst, 1, encL c_i64 ([] : List Int)⟩)], [], []⟩) (wk [1, 2, 3, 4, 5, 6, 14, 15, 16, 22, 23] [pI (.arg 0) .fz, pI (.tmp 6 0) .box, pI (.tmp 15 20) .lst] (h := by first | rfl | (simp +decide only [ak, akF]; done) | (simp +decide [ak, akF] <;> omega))) ?_
 rw [e_loop]
 refine impl_choose.l0_walk cs0 o0 l4 hv0 a1 a2 a3 a5 (l4.length : Int) (l4.length : Int) a0_0 a0_1 0 0 ([] : List Int) _ h69 _ ?_
 refine B7x _ ?_
 refine hJ5 _ ?_
 obtain ⟨j70, h71, hn⟩ := of_bind h
 refine seq_j (fun st => st = ⟨[(2, .c (.sc (.int .i64 j70))), (15, .c (.ref (.tmp 15 20) [] 0 y68.length))], [(.arg 0, ⟨.fz, 3, cs0⟩), (.tmp 15 20, ⟨.lst, 1, encL c_i64 y68⟩)], [], []⟩) (fun J72 hJ72 => ?_) ?_
 ·replace h := h71; clear hn
  refine ga_k fun G73 G73n G73r G73x => ?_
  obtain ⟨j74, h75, hn⟩ := of_bind h
  refine seq_j (fun st => st = ⟨[(2, .c (.sc (.int .i64 a2))), (14, .c (.sc (.int .i64 (l4.length : Int)))), (15, .c (.ref (.tmp 15 20) [] 0 y68.length)), (78, .c (.sc (.bool j74)))], [(.arg 0, ⟨.fz, 3, cs0⟩), (.tmp 15 20, ⟨.lst, 1, encL c_i64 y68⟩)], [], []⟩) (fun J76 hJ76 => ?_) ?_
  ·replace h := h75; clear hn
   refine ga_k fun G77 G77n G77r G77x => ?_
   refine reg_k ?_
   simp +decide only [Nat.reduceAdd, Nat.reduceMul, Int.reduceToNat, ak]
   by_cases c78 : a1 = 1
   ·rw [if_pos c78] at h
    have e79 : decide (a1 = 1) = true := decide_eq_true c78
    simp +decide only [Nat.reduceAdd, Nat.reduceMul, Int.reduceToNat, ak, e79]
    obtain rfl := Option.some.inj h
    refine G77n _ _ (wk [2, 14, 15, 78] [pI (.arg 0) .fz, pI (.tmp 15 20) .lst] (h0 := by first | rfl | simp +decide only [ak, akF, e79]) (h := by first | rfl | (simp +decide only [ak, akF, e79]; done) | (simp +decide [ak, akF, e79] <;> omega))) (hJ76 _ rfl)
   ·rw [if_neg c78] at h
    have e80 : decide (a1 = 1) = false := decide_eq_false c78
    simp +decide only [Nat.reduceAdd, Nat.reduceMul, Int.reduceToNat, ak, e80]
    obtain rfl := Option.some.inj h
    refine G77n _ _ (wk [2, 14, 15, 78] [pI (.arg 0) .fz, pI (.tmp 15 20) .lst] (h0 := by first | rfl | simp +decide only [ak, akF, e80]) (h := by first | rfl | (simp +decide only [ak, akF, e80]; done) | (simp +decide [ak, akF, e80] <;> omega))) (hJ76 _ rfl)
  ·replace h := hn; clear hn h75
   rintro _ rfl
   refine cond_k (b := j74) rfl (fun c81 => ?_) (fun c81 => ?_)
   ·rw [if_pos c81] at h
    refine reg_k ?_
    obtain ⟨b82, h⟩ := of_guard h
    have g83 : (encL c_i64 y68)[0]? = some (.sc (.int .i64 (rd 0 y68 0))) := (by have := (Vw.whole c_i64_w y68).get 0 0 b82.1 b82.2 (by decide); first | exact this | simpa using this)
    obtain ⟨b84, h⟩ := of_guard h
    simp +decide only [Nat.reduceAdd, Nat.reduceMul, Int.reduceToNat, ak, b82, g83, b84]
    obtain rfl := Option.some.inj h
    refine G73n _ _ (wk [2, 15] [pI (.arg 0) .fz, pI (.tmp 15 20) .lst]) (hJ72 _ rfl)
   ·rw [if_neg (Bool.eq_false_iff.1 c81)] at h
    obtain rfl := Option.some.inj h
    refine G73n _ _ (wk [2, 15] [pI (.arg 0) .fz, pI (.tmp 15 20) .lst]) (hJ72 _ rfl)
 ·replace h := hn; clear hn h71
  rintro _ rfl
  refine sr_k fun J85 hJ85 => ?_
  simp +decide only [Nat.reduceAdd, Nat.reduceMul, Int.reduceToNat, ak]
  refine hJ85 _ ?_
  obtain rfl := Option.some.inj h
  refine hKr _ ⟨_, rfl, [⟨(.tmp 15 20), [], none, .lst⟩], _, rfl, rfl, ?_⟩
  first | rfl | (simp only [reduceCtorEq, Nat.reduceEqDiff, ak, akF]; done) | (simp [reduceCtorEq, Nat.reduceEqDiff, ak, akF] <;> omega)
/-! ### impl.mark: function 71 -/
def C71 : AC := .seq (.reg [.op none (.mv 2 (.const (.int .i64 0))), .keep [0]]) (.seq (.seq (.reg [.op none (.mv 3 (.tmp 0)), .keep [3]]) (.cond (.tmp 3) (.seq (.reg [.op none (.mv 2 (.const (.int .i64 1))), .keep [2]]) (.ret)) (.skip))) (.seq (.reg [.op none (.mv 2 (.const (.int .i64 0))), .keep [2]]) (.ret)))
def r71 : List RV := [.tmp 2]
theorem k71 : compC Try.prog 4 C71 (Try.f71.body.getD .skip) = some C71.erase := by kernel_rfl
theorem q71 : rvsOf Try.prog Try.f71.results.toList = some r71 := by kernel_rfl
def impl_mark.f (a0 : Bool) : Option Int := (if a0 = true then (some 1) else (some 0))
theorem impl_mark.tri (a0 : Bool) (r : Int) (h : impl_mark.f a0 = some r) : Tri Try.prog 71 [.c (.sc (.bool a0))] [] (fun o => o = ⟨.c (.sc (.int .i64 r)), [], [], []⟩) := by
 refine tri_of_body (ac := C71) (xs := r71) Try.func71 (show Try.f71.body = some (Try.f71.body.getD .skip) from rfl) k71 q71 (Nat.le_of_ble_eq_true rfl) ?_
 refine body_of fun K hKn hKr => ?_
 unfold impl_mark.f at h
 unfold C71
 simp only [initT, Nat.reduceAdd]
 refine sr_k fun J1 hJ1 => ?_
 simp +decide only [Nat.reduceAdd, Nat.reduceMul, Int.reduceToNat, ak]
 refine hJ1 _ ?_
 refine seq_k fun J2 hJ2 => ?_
 refine sr_k fun J3 hJ3 => ?_
 simp +decide only [Nat.reduceAdd, Nat.reduceMul, Int.reduceToNat, ak]
 refine hJ3 _ ?_
 refine cond_k (b := a0) rfl (fun c4 => ?_) (fun c4 => ?_)
 ·rw [if_pos c4] at h
  refine sr_k fun J5 hJ5 => ?_
  simp +decide only [Nat.reduceAdd, Nat.reduceMul, Int.reduceToNat, ak]
  refine hJ5 _ ?_
  obtain rfl := Option.some.inj h
  refine hKr _ ⟨_, rfl, [], _, rfl, rfl, ?_⟩
  first | rfl | (simp only [reduceCtorEq, Nat.reduceEqDiff, ak, akF]; done) | (simp [reduceCtorEq, Nat.reduceEqDiff, ak, akF] <;> omega)
 ·rw [if_neg (Bool.eq_false_iff.1 c4)] at h
  refine hJ2 _ ?_
  refine sr_k fun J6 hJ6 => ?_
  simp +decide only [Nat.reduceAdd, Nat.reduceMul, Int.reduceToNat, ak]
  refine hJ6 _ ?_
  obtain rfl := Option.some.inj h
  refine hKr _ ⟨_, rfl, [], _, rfl, rfl, ?_⟩
  first | rfl | (simp only [reduceCtorEq, Nat.reduceEqDiff, ak, akF]; done) | (simp [reduceCtorEq, Nat.reduceEqDiff, ak, akF] <;> omega)
/-! ### impl.PlanSend$1: function 90 -/
def C90 : AC := .seq (.reg [.op none (.box 5 (.tmp 0)), .op none (.alloc 7 [.int .i64 0, .int .i64 0, .int .u64 0, .int .i64 0, .slice none 0 0, .int .i64 0, .int .i64 0]), .gh, .op none (.mv 8 (.const (.bool false))), .keep [1, 2, 3, 4, 5, 7]]) (.seq (.reg [.op none (.load 10 true 2 (.tmp 2)), .op none (.faddr 11 0 (.tmp 3)), .op none (.load 12 false 1 (.tmp 11)), .op none (.faddr 13 1 (.tmp 3)), .op none (.load 14 false 1 (.tmp 13)), .op none (.load 15 false 1 (.tmp 4)), .op none (.faddr 16 3 (.tmp 3)), .op none (.load 17 false 1 (.tmp 16)), .op none (.mv 18 (.tmp 1)), .call none (some 19) 83 [.tmp 10, .tmp 12, .tmp 14, .tmp 15, .tmp 17, .tmp 18], .op none (.mv 9 (.tmp 19)), .op none (.extr 20 (.tmp 9) 0), .op none (.extr 21 (.tmp 9) 1), .op none (.faddr 22 4 (.tmp 5)), .op none (.store 1 (.tmp 22) (.tmp 20)), .op none (.faddr 23 5 (.tmp 5)), .op none (.store 1 (.tmp 23) (.tmp 21)), .keep [3, 5, 7]]) (.seq (.ga (.reg [.op none (.faddr 24 0 (.tmp 3)), .op none (.load 25 false 1 (.tmp 24)), .op none (.bin 26 .eql (.tmp 25) (.const (.int .i64 4))), .op none (.mv 27 (.tmp 26)), .op (some (27, true)) (.faddr 28 2 (.tmp 3)), .op (some (27, true)) (.load 29 false 1 (.tmp 28)), .op (some (27, true)) (.len 30 (.tmp 29)), .op (some (27, true)) (.bin 31 .gtr (.tmp 30) (.const (.int .i64 0))), .op none (.pick 32 (.tmp 27) (.tmp 31) (.const (.bool false))), .call none (some 33) 71 [.tmp 32], .op none (.faddr 34 6 (.tmp 5)), .op none (.store 1 (.tmp 34) (.tmp 33)), .keep [5, 7]])) (.seq (.regD (.first (.op none (.load 35 true 7 (.tmp 5))) (.first (.op none (.faddr 36 4 (.tmp 5))) (.pin [6, 4, 3] (.op none (.load 37 false 1 (.tmp 36))) (.pin [6, 4] (.op none (.len 38 (.tmp 37))) (.pin [6] (.op none (.bin 39 .gtr (.tmp 38) (.const (.int .i64 0)))) (.alt (.op none (.store 7 (.tmp 7) (.tmp 35))) none (.pin [] (.op none (.mv 8 (.tmp 39))) (.done)) (.stop))))))) [7, 8]) (.ret))))
def r90 : List RV := [.cell 7 true 7, .tmp 8]
theorem k90 : compC Try.prog 40 C90 (Try.f90.body.getD .skip) = some C90.erase := by kernel_rfl
theorem q90 : rvsOf Try.prog Try.f90.results.toList = some r90 := by kernel_rfl
def impl_PlanSend_1.f (a0_0 : Int) (a0_1 : Int) (a0_2 : Int) (a0_3 : Int) (l0_4 : List Int) (a0_5 : Int) (a0_6 : Int) (a1 : Int) (a2_0 : ByteArray) (a2_1 : Int) (a3_0 : Int) (a3_1 : Int) (l3_2 : List Int) (l3_3 : List S86) (l3_4 : List S84) (a3_5 : Int) (a3_6 : Int) (a3_7 : Int) (a3_8 : Int) (a3_9 : Int) (a3_10 : Int) (a3_11 : Int) (a4_0 : Int) : Option (Int × Int × Int × Int × (List Int) × Int × Int × Bool) := (impl_choose.f a2_0 a2_1 a3_0 a3_1 a4_0 l3_3 a1 >>= fun t3 => ((if a3_0 = 4 then (impl_mark.f (decide ((l3_2.length : Int) > 0)) >>= fun t13 => (some t13)) else (impl_mark.f false >>= fun t17 => (some t17))) >>= fun (j7 : Int) => (some (a0_0, a0_1, a0_2, a0_3, t3.1, t3.2, j7, decide ((t3.1.length : Int) > 0)))))
theorem impl_PlanSend_1.tri (cs0 : List Cell) (o0 : Nat) (l0_4 : List Int) (hv0 : Vw c_i64 1 cs0 o0 l0_4) (cs3 : List Cell) (o3 : Nat) (l3_2 : List Int) (hv3 : Vw c_i64 1 cs3 o3 l3_2) (cs4 : List Cell) (o4 : Nat) (l3_3 : List S86) (hv4 : Vw c86 3 cs4 o4 l3_3) (cs5 : List Cell) (o5 : Nat) (l3_4 : List S84) (hv5 : Vw c84 5 cs5 o5 l3_4) (a0_0 : Int) (a0_1 : Int) (a0_2 : Int) (a0_3 : Int) (a0_5 : Int) (a0_6 : Int) (a1 : Int) (a2_0 : ByteArray) (a2_1 : Int) (a3_0 : Int) (a3_1 : Int) (a3_5 : Int) (a3_6 : Int) (a3_7 : Int) (a3_8 : Int) (a3_9 : Int) (a3_10 : Int) (a3_11 : Int) (a4_0 : Int) (r : Int × Int × Int × Int × (List Int) × Int × Int × Bool) (h : impl_PlanSend_1.f a0_0 a0_1 a0_2 a0_3 l0_4 a0_5 a0_6 a1 a2_0 a2_1 a3_0 a3_1 l3_2 l3_3 l3_4 a3_5 a3_6 a3_7 a3_8 a3_9 a3_10 a3_11 a4_0 = some r) : Tri Try.prog 90 [.g [.sc (.int .i64 a0_0), .sc (.int .i64 a0_1), .sc (.int .u64 a0_2), .sc (.int .i64 a0_3), .ref (.arg 0) [] o0 l0_4.length, .sc (.int .i64 a0_5), .sc (.int .i64 a0_6)], .c (.sc (.int .i64 a1)), .c (.ptr (.arg 1) [] 0), .c (.ptr (.arg 2) [] 0), .c (.ptr (.arg 6) [] 0)] [(.arg 0, ⟨.fz, 1, cs0⟩), (.arg 1, ⟨.box, 0, [.sc (.string a2_0), .sc (fnv a2_1)]⟩), (.arg 2, ⟨.box, 0, [.sc (.int .i64 a3_0), .sc (.int .i64 a3_1), .ref (.arg 3) [] o3 l3_2.length, .ref (.arg 4) [] o4 l3_3.length, .ref (.arg 5) [] o5 l3_4.length, .sc (.int .i64 a3_5), .sc (.int .u64 a3_6), .sc (.int .u64 a3_7), .sc (.int .u64 a3_8), .sc (.int .i64 a3_9), .sc (.int .i64 a3_10), .sc (.int .i64 a3_11)]⟩), (.arg 3, ⟨.fz, 1, cs3⟩), (.arg 4, ⟨.fz, 3, cs4⟩), (.arg 5, ⟨.fz, 5, cs5⟩), (.arg 6, ⟨.box, 0, [.sc (.int .i64 a4_0)]⟩)] (fun o => o = ⟨.tup [(true, [.sc (.int .i64 r.1), .sc (.int .i64 r.2.1), .sc (.int .u64 r.2.2.1), .sc (.int .i64 r.2.2.2.1), .ref (.res 0) [] 0 r.2.2.2.2.1.length, .sc (.int .i64 r.2.2.2.2.2.1), .sc (.int .i64 r.2.2.2.2.2.2.1)]), (false, [.sc (.bool r.2.2.2.2.2.2.2)])], [(.arg 0, ⟨.fz, 1, cs0⟩), (.arg 1, ⟨.box, 0, [.sc (.string a2_0), .sc (fnv a2_1)]⟩), (.arg 2, ⟨.box, 0, [.sc (.int .i64 a3_0), .sc (.int .i64 a3_1), .ref (.arg 3) [] o3 l3_2.length, .ref (.arg 4) [] o4 l3_3.length, .ref (.arg 5) [] o5 l3_4.length, .sc (.int .i64 a3_5), .sc (.int .u64 a3_6), .sc (.int .u64 a3_7), .sc (.int .u64 a3_8), .sc (.int .i64 a3_9), .sc (.int .i64 a3_10), .sc (.int .i64 a3_11)]⟩), (.arg 3, ⟨.fz, 1, cs3⟩), (.arg 4, ⟨.fz, 3, cs4⟩), (.arg 5, ⟨.fz, 5, cs5⟩), (.arg 6, ⟨.box, 0, [.sc (.int .i64 a4_0)]⟩), (.res 0, ⟨.lst, 1, encL c_i64 r.2.2.2.2.1⟩)], [], []⟩) := by
 refine tri_of_body (ac := C90) (xs := r90) Try.func90 (show Try.f90.body = some (Try.f90.body.getD .skip) from rfl) k90 q90 (Nat.le_of_ble_eq_true rfl) ?_
 refine body_of fun K hKn hKr => ?_
 unfold impl_PlanSend_1.f at h
 unfold C90
 simp only [initT, Nat.reduceAdd]
 refine sr_k fun J1 hJ1 => ?_
 simp +decide only [Nat.reduceAdd, Nat.reduceMul, Int.reduceToNat, ak]
 refine gho_k (Weak.own (.tmp 7 0) (cs' := [.sc (.int .i64 0), .sc (.int .i64 0), .sc (.int .u64 0), .sc (.int .i64 0), .own 1 (([] : List Int).length) (encL c_i64 ([] : List Int)), .sc (.int .i64 0), .sc (.int .i64 0)]) rfl ⟨.inl rfl, .inl rfl, .inl rfl, .inl rfl, .inr ⟨rfl, _, rfl⟩, .inl rfl, .inl rfl, trivial⟩) ?_
 simp +decide only [Nat.reduceAdd, Nat.reduceMul, Int.reduceToNat, ak]
 refine hJ1 _ ?_
 refine sr_k fun J2 hJ2 => ?_
 simp +decide only [Nat.reduceAdd, Nat.reduceMul, Int.reduceToNat, ak]
 obtain ⟨t3, h4, h⟩ := of_bind h
 refine call_m [(.arg 0, ⟨(.arg 4), [], none, .fz⟩)] (s0 := [(.arg 0, ⟨.fz, 3, cs4⟩)]) (by intro t ht; cases ht; decide) rfl rfl (by first | rfl | simp only [reduceCtorEq, Nat.reduceEqDiff, ak, akF]) (impl_choose.tri (cs4) o4 l3_3 hv4 a2_0 a2_1 a3_0 a3_1 a4_0 a1 _ h4) (by first | rfl | simp only [reduceCtorEq, Nat.reduceEqDiff, ak, akF]) (by simp [bkOk2, memK]) (fun hl4 => ?_)
 refine call_st (s4 := [(.arg 0, ⟨.fz, 1, cs0⟩), (.arg 1, ⟨.box, 0, [.sc (.string a2_0), .sc (fnv a2_1)]⟩), (.arg 2, ⟨.box, 0, [.sc (.int .i64 a3_0), .sc (.int .i64 a3_1), .ref (.arg 3) [] o3 l3_2.length, .ref (.arg 4) [] o4 l3_3.length, .ref (.arg 5) [] o5 l3_4.length, .sc (.int .i64 a3_5), .sc (.int .u64 a3_6), .sc (.int .u64 a3_7), .sc (.int .u64 a3_8), .sc (.int .i64 a3_9), .sc (.int .i64 a3_10), .sc (.int .i64 a3_11)]⟩), (.arg 3, ⟨.fz, 1, cs3⟩), (.arg 4, ⟨.fz, 3, cs4⟩), (.arg 5, ⟨.fz, 5, cs5⟩), (.arg 6, ⟨.box, 0, [.sc (.int .i64 a4_0)]⟩), (.tmp 5 0, ⟨.box, 0, [.sc (.int .i64 a0_0), .sc (.int .i64 a0_1), .sc (.int .u64 a0_2), .sc (.int .i64 a0_3), .ref (.arg 0) [] o0 l0_4.length, .sc (.int .i64 a0_5), .sc (.int .i64 a0_6)]⟩), (.tmp 7 0, ⟨.box, 0, [.sc (.int .i64 0), .sc (.int .i64 0), .sc (.int .u64 0), .sc (.int .i64 0), .own 1 (([] : List Int).length) (encL c_i64 ([] : List Int)), .sc (.int .i64 0), .sc (.int .i64 0)]⟩), (.tmp 19 0, ⟨.lst, 1, encL c_i64 t3.1⟩)]) (m1' := []) (m2' := []) (v' := .tup [(false, [.ref (.tmp 19 0) [] 0 t3.1.length]), (false, [.sc (.int .i64 t3.2)])]) (Sto.mapN_killNil _ _) (mrgL_fz (mrgL_nil' _ _ _) rfl (by first | rfl | simp only [reduceCtorEq, Nat.reduceEqDiff, ak]) rfl (by intro R hR hh; cases hR; cases hh.2)) (by rfl) (mapT_killNil _ _) (by rfl) (by rfl) (by first | rfl | simp only [reduceCtorEq, Nat.reduceEqDiff, ak, akF, Nat.zero_add, List.append_nil]) ?_
 have g6 : (encL c_i64 t3.1).length = t3.1.length * 1 := by simp [encL_length c_i64_w]
 simp +decide only [Nat.reduceAdd, Nat.reduceMul, Int.reduceToNat, ak, g6]
 refine hJ2 _ ?_
 obtain ⟨j7, h8, hn⟩ := of_bind h
 refine seq_j (fun st => st = ⟨[(5, .c (.ptr (.tmp 5 0) [] 0)), (7, .c (.ptr (.tmp 7 0) [] 0))], [(.arg 0, ⟨.fz, 1, cs0⟩), (.arg 1, ⟨.box, 0, [.sc (.string a2_0), .sc (fnv a2_1)]⟩), (.arg 2, ⟨.box, 0, [.sc (.int .i64 a3_0), .sc (.int .i64 a3_1), .ref (.arg 3) [] o3 l3_2.length, .ref (.arg 4) [] o4 l3_3.length, .ref (.arg 5) [] o5 l3_4.length, .sc (.int .i64 a3_5), .sc (.int .u64 a3_6), .sc (.int .u64 a3_7), .sc (.int .u64 a3_8), .sc (.int .i64 a3_9), .sc (.int .i64 a3_10), .sc (.int .i64 a3_11)]⟩), (.arg 3, ⟨.fz, 1, cs3⟩), (.arg 4, ⟨.fz, 3, cs4⟩), (.arg 5, ⟨.fz, 5, cs5⟩), (.arg 6, ⟨.box, 0, [.sc (.int .i64 a4_0)]⟩), (.tmp 5 0, ⟨.box, 0, [.sc (.int .i64 a0_0), .sc (.int .i64 a0_1), .sc (.int .u64 a0_2), .sc (.int .i64 a0_3), .own 1 t3.1.length (encL c_i64 t3.1), .sc (.int .i64 t3.2), .sc (.int .i64 j7)]⟩), (.tmp 7 0, ⟨.box, 0, [.sc (.int .i64 0), .sc (.int .i64 0), .sc (.int .u64 0), .sc (.int .i64 0), .own 1 (([] : List Int).length) (encL c_i64 ([] : List Int)), .sc (.int .i64 0), .sc (.int .i64 0)]⟩)], [], []⟩) (fun J9 hJ9 => ?_) ?_
 ·replace h := h8; clear hn
  refine ga_k fun G10 G10n G10r G10x => ?_
  refine reg_k ?_
  simp +decide only [Nat.reduceAdd, Nat.reduceMul, Int.reduceToNat, ak]
  by_cases c11 : a3_0 = 4
  ·rw [if_pos c11] at h
   have e12 : decide (a3_0 = 4) = true := decide_eq_true c11
   simp +decide only [Nat.reduceAdd, Nat.reduceMul, Int.reduceToNat, ak, e12]
   obtain ⟨t13, h14, h⟩ := of_bind h
   refine call_m [] (s0 := []) (by intro t ht; cases ht; decide) rfl rfl (by first | rfl | simp only [reduceCtorEq, Nat.reduceEqDiff, ak, akF, e12, g6]) (impl_mark.tri (decide ((l3_2.length : Int) > 0)) _ h14) (by first | rfl | simp only [reduceCtorEq, Nat.reduceEqDiff, ak, akF]) (by simp [bkOk2, memK]) (fun hl14 => ?_)
   refine call_st (s4 := [(.arg 0, ⟨.fz, 1, cs0⟩), (.arg 1, ⟨.box, 0, [.sc (.string a2_0), .sc (fnv a2_1)]⟩), (.arg 2, ⟨.box, 0, [.sc (.int .i64 a3_0), .sc (.int .i64 a3_1), .ref (.arg 3) [] o3 l3_2.length, .ref (.arg 4) [] o4 l3_3.length, .ref (.arg 5) [] o5 l3_4.length, .sc (.int .i64 a3_5), .sc (.int .u64 a3_6), .sc (.int .u64 a3_7), .sc (.int .u64 a3_8), .sc (.int .i64 a3_9), .sc (.int .i64 a3_10), .sc (.int .i64 a3_11)]⟩), (.arg 3, ⟨.fz, 1, cs3⟩), (.arg 4, ⟨.fz, 3, cs4⟩), (.arg 5, ⟨.fz, 5, cs5⟩), (.arg 6, ⟨.box, 0, [.sc (.int .i64 a4_0)]⟩), (.tmp 5 0, ⟨.box, 0, [.sc (.int .i64 a0_0), .sc (.int .i64 a0_1), .sc (.int .u64 a0_2), .sc (.int .i64 a0_3), .own 1 t3.1.length (encL c_i64 t3.1), .sc (.int .i64 t3.2), .sc (.int .i64 a0_6)]⟩), (.tmp 7 0, ⟨.box, 0, [.sc (.int .i64 0), .sc (.int .i64 0), .sc (.int .u64 0), .sc (.int .i64 0), .own 1 (([] : List Int).length) (encL c_i64 ([] : List Int)), .sc (.int .i64 0), .sc (.int .i64 0)]⟩)]) (m1' := []) (m2' := []) (v' := .c (.sc (.int .i64 t13))) (Sto.mapN_killNil _ _) (mrgL_nil' _ _ _) (by rfl) (mapT_killNil _ _) (by rfl) (by rfl) (by first | rfl | simp only [reduceCtorEq, Nat.reduceEqDiff, ak, akF, Nat.zero_add, List.append_nil, e12]) ?_
   simp +decide only [Nat.reduceAdd, Nat.reduceMul, Int.reduceToNat, ak]
   obtain rfl := Option.some.inj h
   refine G10n _ _ (wk [5, 7] [pI (.arg 0) .fz, pI (.arg 1) .box, pI (.arg 2) .box, pI (.arg 3) .fz, pI (.arg 4) .fz, pI (.arg 5) .fz, pI (.arg 6) .box, pI (.tmp 5 0) .box, pI (.tmp 7 0) .box] (h0 := by first | rfl | simp +decide only [ak, akF, e12]) (h := by first | rfl | (simp +decide only [ak, akF, e12]; done) | (simp +decide [ak, akF, e12] <;> omega))) (hJ9 _ rfl)
  ·rw [if_neg c11] at h
   have e16 : decide (a3_0 = 4) = false := decide_eq_false c11
   simp +decide only [Nat.reduceAdd, Nat.reduceMul, Int.reduceToNat, ak, e16]
   obtain ⟨t17, h18, h⟩ := of_bind h
   refine call_m [] (s0 := []) (by intro t ht; cases ht; decide) rfl rfl (by first | rfl | simp only [reduceCtorEq, Nat.reduceEqDiff, ak, akF, e16, g6]) (impl_mark.tri false _ h18) (by first | rfl | simp only [reduceCtorEq, Nat.reduceEqDiff, ak, akF]) (by simp [bkOk2, memK]) (fun hl18 => ?_)
   refine call_st (s4 := [(.arg 0, ⟨.fz, 1, cs0⟩), (.arg 1, ⟨.box, 0, [.sc (.string a2_0), .sc (fnv a2_1)]⟩), (.arg 2, ⟨.box, 0, [.sc (.int .i64 a3_0), .sc (.int .i64 a3_1), .ref (.arg 3) [] o3 l3_2.length, .ref (.arg 4) [] o4 l3_3.length, .ref (.arg 5) [] o5 l3_4.length, .sc (.int .i64 a3_5), .sc (.int .u64 a3_6), .sc (.int .u64 a3_7), .sc (.int .u64 a3_8), .sc (.int .i64 a3_9), .sc (.int .i64 a3_10), .sc (.int .i64 a3_11)]⟩), (.arg 3, ⟨.fz, 1, cs3⟩), (.arg 4, ⟨.fz, 3, cs4⟩), (.arg 5, ⟨.fz, 5, cs5⟩), (.arg 6, ⟨.box, 0, [.sc (.int .i64 a4_0)]⟩), (.tmp 5 0, ⟨.box, 0, [.sc (.int .i64 a0_0), .sc (.int .i64 a0_1), .sc (.int .u64 a0_2), .sc (.int .i64 a0_3), .own 1 t3.1.length (encL c_i64 t3.1), .sc (.int .i64 t3.2), .sc (.int .i64 a0_6)]⟩), (.tmp 7 0, ⟨.box, 0, [.sc (.int .i64 0), .sc (.int .i64 0), .sc (.int .u64 0), .sc (.int .i64 0), .own 1 (([] : List Int).length) (encL c_i64 ([] : List Int)), .sc (.int .i64 0), .sc (.int .i64 0)]⟩)]) (m1' := []) (m2' := []) (v' := .c (.sc (.int .i64 t17))) (Sto.mapN_killNil _ _) (mrgL_nil' _ _ _) (by rfl) (mapT_killNil _ _) (by rfl) (by rfl) (by first | rfl | simp only [reduceCtorEq, Nat.reduceEqDiff, ak, akF, Nat.zero_add, List.append_nil, e16]) ?_
   simp +decide only [Nat.reduceAdd, Nat.reduceMul, Int.reduceToNat, ak]
   obtain rfl := Option.some.inj h
   refine G10n _ _ (wk [5, 7] [pI (.arg 0) .fz, pI (.arg 1) .box, pI (.arg 2) .box, pI (.arg 3) .fz, pI (.arg 4) .fz, pI (.arg 5) .fz, pI (.arg 6) .box, pI (.tmp 5 0) .box, pI (.tmp 7 0) .box] (h0 := by first | rfl | simp +decide only [ak, akF, e16]) (h := by first | rfl | (simp +decide only [ak, akF, e16]; done) | (simp +decide [ak, akF, e16] <;> omega))) (hJ9 _ rfl)
 ·replace h := hn; clear hn h8
  rintro _ rfl
  refine sd_k fun J20 hJ20 => ?_
  simp +decide only [Nat.reduceAdd, Nat.reduceMul, Int.reduceToNat, ak]
  refine alt_e ?_
  ·simp +decide only [Nat.reduceAdd, Nat.reduceMul, Int.reduceToNat, ak]
   refine hJ20 _ ?_
   obtain rfl := Option.some.inj h
   refine hKr _ ⟨_, rfl, [⟨(.tmp 5 0), [4], none, .lst⟩], _, rfl, rfl, ?_⟩
   first | rfl | (simp only [reduceCtorEq, Nat.reduceEqDiff, ak, akF]; done) | (simp [reduceCtorEq, Nat.reduceEqDiff, ak, akF] <;> omega)
end Go.AK
