-- by a program of this session (wip/ak/pw.py)
import Derived.Test.YtakeenidhkhmiaaUPlanSend1
set_option synthInstance.maxSize 20000
set_option synthInstance.maxHeartbeats 400000
set_option maxRecDepth 100000
set_option maxHeartbeats 4000000
set_option linter.unusedVariables false
set_option linter.unusedSimpArgs false
namespace Go.AK
open Go Go.Proofs
/-! ### impl.PlanSend: function 48 -/
def C48_l0 : AC := .seq (.reg [.op none (.bin 44 .lss (.tmp 43) (.tmp 42)), .keep [1, 2, 5, 6, 8, 41, 42, 43, 44]]) (.seq (.cond (.tmp 44) (.skip) (.gh (.exit 0))) (.seq (.block 1 (.seq (.reg [.op none (.mv 45 (.tmp 43)), .op none (.iaddr 46 5 (.tmp 41) (.tmp 43)), .op none (.load 47 true 5 (.tmp 46)), .op none (.alloc 10 [.int .u64 0, .int .i64 0, .int .i64 0, .int .i64 0, .int .i64 0]), .op none (.mv 9 (.tmp 45)), .op none (.store 5 (.tmp 10) (.tmp 47)), .keep [1, 2, 5, 6, 8, 9, 10, 41, 42, 43]]) (.seq (.reg [.op none (.faddr 48 4 (.tmp 10)), .op none (.load 49 false 1 (.tmp 48)), .op none (.bin 50 .eql (.tmp 49) (.const (.int .i64 1))), .keep [1, 2, 5, 6, 8, 9, 10, 41, 42, 43, 50]]) (.cond (.tmp 50) (.seq (.reg [.op none (.mv 52 (.tmp 8)), .op none (.mv 53 (.tmp 9)), .op none (.faddr 54 0 (.tmp 10)), .op none (.load 55 false 1 (.tmp 54)), .op none (.faddr 56 1 (.tmp 10)), .op none (.load 57 false 1 (.tmp 56)), .op none (.build 58 [.int .i64 0, .int .i64 0, .int .u64 0, .int .i64 0, .slice none 0 0, .int .i64 0, .int .i64 0] [(0, 1, .const (.int .i64 1)), (1, 1, .tmp 53), (2, 1, .tmp 55), (3, 1, .tmp 57)]), .gh, .op none (.faddr 59 3 (.tmp 10)), .op none (.load 60 false 1 (.tmp 59)), .callv none (some 61) (.value (.tmp 52)) [.tmp 58, .tmp 60], .op none (.mv 51 (.tmp 61)), .op none (.extr 62 (.tmp 51) 0), .op none (.extr 63 (.tmp 51) 1), .op none (.alloc 11 [.int .i64 0, .int .i64 0, .int .u64 0, .int .i64 0, .slice none 0 0, .int .i64 0, .int .i64 0]), .gh, .op none (.store 7 (.tmp 11) (.tmp 62)), .op none (.mv 12 (.tmp 63)), .keep [1, 2, 5, 6, 8, 11, 12, 41, 42, 43]]) (.seq (.reg [.op none (.mv 64 (.tmp 12)), .keep [1, 2, 5, 6, 8, 11, 41, 42, 43, 64]]) (.cond (.tmp 64) (.seq (.reg [.op none (.load 65 true 7 (.tmp 11)), .op none (.store 7 (.tmp 2) (.tmp 65)), .op none (.mv 3 (.const (.int .i64 0))), .keep [2, 3]]) (.gh .ret)) (.skip)))) (.skip))))) (.reg [.op none (.bin 66 .add (.tmp 43) (.const (.int .i64 1))), .op none (.mv 43 (.tmp 66)), .keep [1, 2, 5, 6, 8, 41, 42, 43]])))
def C48 : AC := .seq (.reg [.op none (.box 1 (.tmp 0)), .op none (.alloc 2 [.int .i64 0, .int .i64 0, .int .u64 0, .int .i64 0, .slice none 0 0, .int .i64 0, .int .i64 0]), .gh, .op none (.mv 3 (.const (.int .i64 0))), .keep [1, 2]]) (.seq (.seq (.reg [.op none (.load 19 true 12 (.tmp 1)), .call none (some 20) 89 [.tmp 19], .op none (.mv 4 (.tmp 20)), .keep [1, 2, 4]]) (.seq (.reg [.op none (.mv 21 (.tmp 4)), .op none (.bin 22 .neq (.tmp 21) (.const (.int .i64 0))), .keep [1, 2, 4, 22]]) (.cond (.tmp 22) (.seq (.reg [.op none (.build 23 [.int .i64 0, .int .i64 0, .int .u64 0, .int .i64 0, .slice none 0 0, .int .i64 0, .int .i64 0] []), .gh, .op none (.mv 24 (.tmp 4)), .op none (.store 7 (.tmp 2) (.tmp 23)), .op none (.mv 3 (.tmp 24)), .keep [2, 3]]) (.ret)) (.skip)))) (.seq (.reg [.op none (.alloc 5 [.int .i64 0]), .op none (.store 1 (.tmp 5) (.const (.int .i64 0))), .keep [1, 2, 5]]) (.seq (.ga (.seq (.reg [.op none (.faddr 25 2 (.tmp 1)), .op none (.load 26 false 1 (.tmp 25)), .op none (.len 27 (.tmp 26)), .op none (.bin 28 .gtr (.tmp 27) (.const (.int .i64 0))), .keep [1, 2, 5, 28]]) (.cond (.tmp 28) (.reg [.op none (.faddr 29 2 (.tmp 1)), .op none (.load 30 false 1 (.tmp 29)), .op none (.iaddr 31 1 (.tmp 30) (.const (.int .i64 0))), .op none (.load 32 false 1 (.tmp 31)), .op none (.store 1 (.tmp 5) (.tmp 32)), .keep [1, 2, 5]]) (.skip)))) (.seq (.reg [.op none (.faddr 34 0 (.tmp 1)), .op none (.load 35 false 1 (.tmp 34)), .call none (some 36) 81 [.tmp 35], .op none (.mv 33 (.tmp 36)), .op none (.extr 37 (.tmp 33) 0), .op none (.extr 38 (.tmp 33) 1), .op none (.alloc 6 [.string .empty, .nilFunc]), .op none (.store 2 (.tmp 6) (.tmp 37)), .op none (.mv 7 (.tmp 38)), .keep [1, 2, 5, 6]]) (.seq (.reg [.op none (.clo 39 90 [.tmp 6, .tmp 1, .tmp 5]), .op none (.mv 8 (.tmp 39)), .keep [1, 2, 5, 6, 8]]) (.seq (.seq (.reg [.op none (.faddr 40 4 (.tmp 1)), .op none (.load 41 false 1 (.tmp 40)), .op none (.len 42 (.tmp 41)), .op none (.mv 43 (.const (.int .i64 0))), .keep [1, 2, 5, 6, 8, 41, 42, 43]]) (.block 0 (.gh (.loop (.ga C48_l0))))) (.seq (.reg [.op none (.faddr 67 4 (.tmp 1)), .op none (.load 68 false 1 (.tmp 67)), .op none (.len 69 (.tmp 68)), .op none (.faddr 70 5 (.tmp 1)), .op none (.load 71 false 1 (.tmp 70)), .op none (.bin 72 .lss (.tmp 69) (.tmp 71)), .op none (.mv 13 (.tmp 72)), .keep [1, 2, 5, 6, 8, 13]]) (.seq (.seq (.ga (.reg [.op none (.faddr 73 6 (.tmp 1)), .op none (.load 74 false 1 (.tmp 73)), .op none (.faddr 75 7 (.tmp 1)), .op none (.load 76 false 1 (.tmp 75)), .op none (.bin 77 .lss (.tmp 74) (.tmp 76)), .op none (.mv 78 (.tmp 77)), .op (some (78, true)) (.faddr 79 6 (.tmp 1)), .op (some (78, true)) (.load 80 false 1 (.tmp 79)), .op (some (78, true)) (.faddr 81 8 (.tmp 1)), .op (some (78, true)) (.load 82 false 1 (.tmp 81)), .op (some (78, true)) (.bin 83 .lss (.tmp 80) (.tmp 82)), .op none (.pick 84 (.tmp 78) (.tmp 83) (.const (.bool false))), .op none (.mv 85 (.tmp 84)), .op (some (85, true)) (.mv 86 (.tmp 13)), .op none (.pick 87 (.tmp 85) (.tmp 86) (.const (.bool false))), .keep [1, 2, 5, 6, 8, 13, 87]])) (.cond (.tmp 87) (.seq (.reg [.op none (.faddr 88 11 (.tmp 1)), .op none (.load 89 false 1 (.tmp 88)), .op none (.conv 90 .u64 (.tmp 89)), .op none (.faddr 91 7 (.tmp 1)), .op none (.load 92 false 1 (.tmp 91)), .op none (.faddr 93 6 (.tmp 1)), .op none (.load 94 false 1 (.tmp 93)), .op none (.bin 95 .sub (.tmp 92) (.tmp 94)), .op none (.faddr 96 8 (.tmp 1)), .op none (.load 97 false 1 (.tmp 96)), .op none (.faddr 98 6 (.tmp 1)), .op none (.load 99 false 1 (.tmp 98)), .op none (.bin 100 .sub (.tmp 97) (.tmp 99)), .op none (.mm 101 false [.tmp 90, .tmp 95, .tmp 100]), .op none (.mv 14 (.tmp 101)), .keep [1, 2, 5, 6, 8, 13, 14]]) (.seq (.reg [.op none (.mv 103 (.tmp 8)), .op none (.faddr 104 6 (.tmp 1)), .op none (.load 105 false 1 (.tmp 104)), .op none (.mv 106 (.tmp 14)), .op none (.conv 107 .i64 (.tmp 106)), .op none (.build 108 [.int .i64 0, .int .i64 0, .int .u64 0, .int .i64 0, .slice none 0 0, .int .i64 0, .int .i64 0] [(0, 1, .const (.int .i64 2)), (2, 1, .tmp 105), (3, 1, .tmp 107)]), .gh, .callv none (some 109) (.value (.tmp 103)) [.tmp 108, .const (.int .i64 0)], .op none (.mv 102 (.tmp 109)), .op none (.extr 110 (.tmp 102) 0), .op none (.extr 111 (.tmp 102) 1), .op none (.alloc 15 [.int .i64 0, .int .i64 0, .int .u64 0, .int .i64 0, .slice none 0 0, .int .i64 0, .int .i64 0]), .gh, .op none (.store 7 (.tmp 15) (.tmp 110)), .op none (.mv 16 (.tmp 111)), .keep [1, 2, 5, 6, 8, 13, 15, 16]]) (.seq (.reg [.op none (.mv 112 (.tmp 16)), .keep [1, 2, 5, 6, 8, 13, 15, 112]]) (.cond (.tmp 112) (.seq (.reg [.op none (.load 113 true 7 (.tmp 15)), .op none (.store 7 (.tmp 2) (.tmp 113)), .op none (.mv 3 (.const (.int .i64 0))), .keep [2, 3]]) (.ret)) (.skip))))) (.skip))) (.seq (.seq (.ga (.reg [.op none (.faddr 114 9 (.tmp 1)), .op none (.load 115 false 1 (.tmp 114)), .op none (.bin 116 .eql (.tmp 115) (.const (.int .i64 1))), .op none (.mv 117 (.tmp 116)), .op (some (117, true)) (.faddr 118 10 (.tmp 1)), .op (some (117, true)) (.load 119 false 1 (.tmp 118)), .op (some (117, true)) (.bin 120 .eql (.tmp 119) (.const (.int .i64 0))), .op none (.pick 121 (.tmp 117) (.tmp 120) (.const (.bool false))), .op none (.mv 122 (.tmp 121)), .op (some (122, true)) (.faddr 123 6 (.tmp 1)), .op (some (122, true)) (.load 124 false 1 (.tmp 123)), .op (some (122, true)) (.faddr 125 7 (.tmp 1)), .op (some (122, true)) (.load 126 false 1 (.tmp 125)), .op (some (122, true)) (.bin 127 .eql (.tmp 124) (.tmp 126)), .op none (.pick 128 (.tmp 122) (.tmp 127) (.const (.bool false))), .op none (.mv 129 (.tmp 128)), .op (some (129, true)) (.mv 130 (.tmp 13)), .op none (.pick 131 (.tmp 129) (.tmp 130) (.const (.bool false))), .keep [1, 2, 5, 6, 8, 131]])) (.cond (.tmp 131) (.seq (.reg [.op none (.mv 133 (.tmp 8)), .op none (.faddr 134 7 (.tmp 1)), .op none (.load 135 false 1 (.tmp 134)), .op none (.build 136 [.int .i64 0, .int .i64 0, .int .u64 0, .int .i64 0, .slice none 0 0, .int .i64 0, .int .i64 0] [(0, 1, .const (.int .i64 3)), (2, 1, .tmp 135)]), .gh, .callv none (some 137) (.value (.tmp 133)) [.tmp 136, .const (.int .i64 0)], .op none (.mv 132 (.tmp 137)), .op none (.extr 138 (.tmp 132) 0), .op none (.extr 139 (.tmp 132) 1), .op none (.alloc 17 [.int .i64 0, .int .i64 0, .int .u64 0, .int .i64 0, .slice none 0 0, .int .i64 0, .int .i64 0]), .gh, .op none (.store 7 (.tmp 17) (.tmp 138)), .op none (.mv 18 (.tmp 139)), .keep [1, 2, 17, 18]]) (.seq (.reg [.op none (.mv 140 (.tmp 18)), .keep [1, 2, 17, 140]]) (.cond (.tmp 140) (.seq (.reg [.op none (.load 141 true 7 (.tmp 17)), .op none (.store 7 (.tmp 2) (.tmp 141)), .op none (.mv 3 (.const (.int .i64 0))), .keep [2, 3]]) (.ret)) (.skip)))) (.skip))) (.seq (.reg [.op none (.faddr 142 1 (.tmp 1)), .op none (.load 143 false 1 (.tmp 142)), .op none (.build 144 [.int .i64 0, .int .i64 0, .int .u64 0, .int .i64 0, .slice none 0 0, .int .i64 0, .int .i64 0] [(5, 1, .tmp 143)]), .gh, .op none (.store 7 (.tmp 2) (.tmp 144)), .op none (.mv 3 (.const (.int .i64 0))), .keep [2, 3]]) (.ret)))))))))))
def r48 : List RV := [.cell 2 true 7, .tmp 3]
theorem k48 : compC Try.prog 145 C48 (Try.f48.body.getD .skip) = some C48.erase := by kernel_rfl
theorem q48 : rvsOf Try.prog Try.f48.results.toList = some r48 := by kernel_rfl
def impl_PlanSend.l0 (l0_2 : List Int) (l0_3 : List S86) (l0_4 : List S84) (x0_0 : Int) (x0_2 : Int) (x0_3 : Int) (x0_4 : Int) (x0_5 : Int) (x0_6 : Int) (x0_7 : Int) (x0_8 : Int) (x0_9 : Int) (x0_10 : Int) (x0_11 : Int) (x0_12 : Int) (x0_13 : Int) (x0_14 : Int) (x0_15 : (List Int)) (x0_16 : Int) (x0_17 : Int) (x0_18 : Int) (x0_19 : ByteArray) (x0_20 : Int) (x0_1 : Int) : Option (Lp Unit (Int × Int × Int × Int × Int × Int × Int × Int × Int × Int × (List Int) × Int × Int)) := (if x0_1 < x0_0 then (if 0 ≤ x0_1 ∧ x0_1 < (l0_4.length : Int) then (if (rd z84 l0_4 x0_1).f4 = 1 then (impl_PlanSend_1.f 1 x0_1 ((rd z84 l0_4 x0_1).f0) ((rd z84 l0_4 x0_1).f1) ([] : List Int) 0 0 ((rd z84 l0_4 x0_1).f3) x0_19 x0_20 x0_2 x0_3 l0_2 l0_3 l0_4 x0_4 x0_5 x0_6 x0_7 x0_8 x0_9 x0_10 x0_18 >>= fun t39 => (if t39.2.2.2.2.2.2.2 = true then (some (.b (t39.1, t39.2.1, t39.2.2.1, t39.2.2.2.1, t39.2.2.2.2.2.1, t39.2.2.2.2.2.2.1, t39.1, t39.2.1, t39.2.2.1, t39.2.2.2.1, t39.2.2.2.2.1, t39.2.2.2.2.2.1, t39.2.2.2.2.2.2.1))) else (impl_PlanSend.l0 l0_2 l0_3 l0_4 x0_0 x0_2 x0_3 x0_4 x0_5 x0_6 x0_7 x0_8 x0_9 x0_10 x0_11 x0_12 x0_13 x0_14 x0_15 x0_16 x0_17 x0_18 x0_19 x0_20 (IntKind.i64.wrap (x0_1 + 1))))) else (impl_PlanSend.l0 l0_2 l0_3 l0_4 x0_0 x0_2 x0_3 x0_4 x0_5 x0_6 x0_7 x0_8 x0_9 x0_10 x0_11 x0_12 x0_13 x0_14 x0_15 x0_16 x0_17 x0_18 x0_19 x0_20 (IntKind.i64.wrap (x0_1 + 1)))) else none) else (some (.a ())))
 partial_fixpoint
def impl_PlanSend.f (a0_0 : Int) (a0_1 : Int) (l0_2 : List Int) (l0_3 : List S86) (l0_4 : List S84) (a0_5 : Int) (a0_6 : Int) (a0_7 : Int) (a0_8 : Int) (a0_9 : Int) (a0_10 : Int) (a0_11 : Int) : Option (Int × Int × Int × Int × (List Int) × Int × Int × Int) := (impl_checkPlan.f a0_0 a0_1 l0_2 l0_3 l0_4 a0_5 a0_6 a0_7 a0_8 a0_9 a0_10 a0_11 >>= fun t4 => (if t4 ≠ 0 then (some (0, 0, 0, 0, ([] : List Int), 0, 0, t4)) else ((if (l0_2.length : Int) > 0 then (if (0 : Int) ≤ 0 ∧ 0 < (l0_2.length : Int) then (some (rd 0 l0_2 0)) else none) else (some 0)) >>= fun (j12 : Int) => (impl_policyOf.f a0_0 >>= fun t21 => (impl_PlanSend.l0 l0_2 l0_3 l0_4 (l0_4.length : Int) a0_0 a0_1 a0_5 a0_6 a0_7 a0_8 a0_9 a0_10 a0_11 0 0 0 0 ([] : List Int) 0 0 j12 t21.1 t21.2.1 0 >>= fun (y46 : Lp Unit (Int × Int × Int × Int × Int × Int × Int × Int × Int × Int × (List Int) × Int × Int)) => match y46 with | .a x48 => ((if a0_6 < a0_7 then (if a0_6 < a0_8 then (some (decide ((l0_4.length : Int) < a0_5))) else (some false)) else (some false)) >>= fun (j51 : Bool) => (if j51 = true then (impl_PlanSend_1.f 2 0 a0_6 (IntKind.i64.wrap (if (IntKind.u64.wrap (a0_8 - a0_6)) < (if (IntKind.u64.wrap (a0_7 - a0_6)) < (IntKind.u64.wrap a0_11) then IntKind.u64.wrap (a0_7 - a0_6) else IntKind.u64.wrap a0_11) then IntKind.u64.wrap (a0_8 - a0_6) else (if (IntKind.u64.wrap (a0_7 - a0_6)) < (IntKind.u64.wrap a0_11) then IntKind.u64.wrap (a0_7 - a0_6) else IntKind.u64.wrap a0_11))) ([] : List Int) 0 0 0 t21.1 t21.2.1 a0_0 a0_1 l0_2 l0_3 l0_4 a0_5 a0_6 a0_7 a0_8 a0_9 a0_10 a0_11 j12 >>= fun t64 => (if t64.2.2.2.2.2.2.2 = true then (some (t64.1, t64.2.1, t64.2.2.1, t64.2.2.2.1, t64.2.2.2.2.1, t64.2.2.2.2.2.1, t64.2.2.2.2.2.2.1, 0)) else ((if a0_9 = 1 then (if a0_10 = 0 then (if a0_6 = a0_7 then (some (decide ((l0_4.length : Int) < a0_5))) else (some false)) else (some false)) else (some false)) >>= fun (j72 : Bool) => (if j72 = true then (impl_PlanSend_1.f 3 0 a0_7 0 ([] : List Int) 0 0 0 t21.1 t21.2.1 a0_0 a0_1 l0_2 l0_3 l0_4 a0_5 a0_6 a0_7 a0_8 a0_9 a0_10 a0_11 j12 >>= fun t87 => (if t87.2.2.2.2.2.2.2 = true then (some (t87.1, t87.2.1, t87.2.2.1, t87.2.2.2.1, t87.2.2.2.2.1, t87.2.2.2.2.2.1, t87.2.2.2.2.2.2.1, 0)) else (some (0, 0, 0, 0, ([] : List Int), a0_1, 0, 0)))) else (some (0, 0, 0, 0, ([] : List Int), a0_1, 0, 0)))))) else ((if a0_9 = 1 then (if a0_10 = 0 then (if a0_6 = a0_7 then (some (decide ((l0_4.length : Int) < a0_5))) else (some false)) else (some false)) else (some false)) >>= fun (j99 : Bool) => (if j99 = true then (impl_PlanSend_1.f 3 0 a0_7 0 ([] : List Int) 0 0 0 t21.1 t21.2.1 a0_0 a0_1 l0_2 l0_3 l0_4 a0_5 a0_6 a0_7 a0_8 a0_9 a0_10 a0_11 j12 >>= fun t114 => (if t114.2.2.2.2.2.2.2 = true then (some (t114.1, t114.2.1, t114.2.2.1, t114.2.2.2.1, t114.2.2.2.2.1, t114.2.2.2.2.2.1, t114.2.2.2.2.2.2.1, 0)) else (some (0, 0, 0, 0, ([] : List Int), a0_1, 0, 0)))) else (some (0, 0, 0, 0, ([] : List Int), a0_1, 0, 0)))))) | .b x48 => (some (x48.1, x48.2.1, x48.2.2.1, x48.2.2.2.1, x48.2.2.2.2.2.2.2.2.2.2.1, x48.2.2.2.2.1, x48.2.2.2.2.2.1, 0)))))))
def impl_PlanSend.l0_M (cs0 : List Cell) (o0 : Nat) (l0_2 : List Int) (hv0 : Vw c_i64 1 cs0 o0 l0_2) (cs1 : List Cell) (o1 : Nat) (l0_3 : List S86) (hv1 : Vw c86 3 cs1 o1 l0_3) (cs2 : List Cell) (o2 : Nat) (l0_4 : List S84) (hv2 : Vw c84 5 cs2 o2 l0_4) (x0_0 : Int) (x0_2 : Int) (x0_3 : Int) (x0_4 : Int) (x0_5 : Int) (x0_6 : Int) (x0_7 : Int) (x0_8 : Int) (x0_9 : Int) (x0_10 : Int) (x0_11 : Int) (x0_12 : Int) (x0_13 : Int) (x0_14 : Int) (x0_15 : (List Int)) (x0_16 : Int) (x0_17 : Int) (x0_18 : Int) (x0_19 : ByteArray) (x0_20 : Int) (x0_1 : Int) (y : Lp Unit (Int × Int × Int × Int × Int × Int × Int × Int × Int × Int × (List Int) × Int × Int)) : Prop := ∀ (K : AE → St → Prop), (∀ x, y = .a x → K (.exit 0) ⟨[(1, .c (.ptr (.tmp 1 0) [] 0)), (2, .c (.ptr (.tmp 2 0) [] 0)), (5, .c (.ptr (.tmp 5 0) [] 0)), (6, .c (.ptr (.tmp 6 0) [] 0)), (8, .c (.fn 90 [.ptr (.tmp 6 0) [] 0, .ptr (.tmp 1 0) [] 0, .ptr (.tmp 5 0) [] 0]))], [(.arg 0, ⟨.fz, 1, cs0⟩), (.arg 1, ⟨.fz, 3, cs1⟩), (.arg 2, ⟨.fz, 5, cs2⟩), (.tmp 1 0, ⟨.box, 0, [.sc (.int .i64 x0_2), .sc (.int .i64 x0_3), .ref (.arg 0) [] o0 l0_2.length, .ref (.arg 1) [] o1 l0_3.length, .ref (.arg 2) [] o2 l0_4.length, .sc (.int .i64 x0_4), .sc (.int .u64 x0_5), .sc (.int .u64 x0_6), .sc (.int .u64 x0_7), .sc (.int .i64 x0_8), .sc (.int .i64 x0_9), .sc (.int .i64 x0_10)]⟩), (.tmp 2 0, ⟨.box, 0, [.sc (.int .i64 x0_11), .sc (.int .i64 x0_12), .sc (.int .u64 x0_13), .sc (.int .i64 x0_14), .own 1 x0_15.length (encL c_i64 x0_15), .sc (.int .i64 x0_16), .sc (.int .i64 x0_17)]⟩), (.tmp 5 0, ⟨.box, 0, [.sc (.int .i64 x0_18)]⟩), (.tmp 6 0, ⟨.box, 0, [.sc (.string x0_19), .sc (fnv x0_20)]⟩)], [], []⟩) → (∀ x, y = .b x → K .ret ⟨[(2, .c (.ptr (.tmp 2 0) [] 0)), (3, .c (.sc (.int .i64 0)))], [(.arg 0, ⟨.fz, 1, cs0⟩), (.arg 1, ⟨.fz, 3, cs1⟩), (.arg 2, ⟨.fz, 5, cs2⟩), (.tmp 2 0, ⟨.box, 0, [.sc (.int .i64 x.1), .sc (.int .i64 x.2.1), .sc (.int .u64 x.2.2.1), .sc (.int .i64 x.2.2.2.1), .ref (.tmp 11 0) [4] 0 x.2.2.2.2.2.2.2.2.2.2.1.length, .sc (.int .i64 x.2.2.2.2.1), .sc (.int .i64 x.2.2.2.2.2.1)]⟩), (.tmp 11 0, ⟨.box, 0, [.sc (.int .i64 x.2.2.2.2.2.2.1), .sc (.int .i64 x.2.2.2.2.2.2.2.1), .sc (.int .u64 x.2.2.2.2.2.2.2.2.1), .sc (.int .i64 x.2.2.2.2.2.2.2.2.2.1), .own 1 x.2.2.2.2.2.2.2.2.2.2.1.length (encL c_i64 x.2.2.2.2.2.2.2.2.2.2.1), .sc (.int .i64 x.2.2.2.2.2.2.2.2.2.2.2.1), .sc (.int .i64 x.2.2.2.2.2.2.2.2.2.2.2.2)]⟩)], [], []⟩) → loopS Try.prog 145 (.ga C48_l0) K ⟨[(1, .c (.ptr (.tmp 1 0) [] 0)), (2, .c (.ptr (.tmp 2 0) [] 0)), (5, .c (.ptr (.tmp 5 0) [] 0)), (6, .c (.ptr (.tmp 6 0) [] 0)), (8, .c (.fn 90 [.ptr (.tmp 6 0) [] 0, .ptr (.tmp 1 0) [] 0, .ptr (.tmp 5 0) [] 0])), (41, .c (.ref (.arg 2) [] o2 l0_4.length)), (42, .c (.sc (.int .i64 x0_0))), (43, .c (.sc (.int .i64 x0_1)))], [(.arg 0, ⟨.fz, 1, cs0⟩), (.arg 1, ⟨.fz, 3, cs1⟩), (.arg 2, ⟨.fz, 5, cs2⟩), (.tmp 1 0, ⟨.box, 0, [.sc (.int .i64 x0_2), .sc (.int .i64 x0_3), .ref (.arg 0) [] o0 l0_2.length, .ref (.arg 1) [] o1 l0_3.length, .ref (.arg 2) [] o2 l0_4.length, .sc (.int .i64 x0_4), .sc (.int .u64 x0_5), .sc (.int .u64 x0_6), .sc (.int .u64 x0_7), .sc (.int .i64 x0_8), .sc (.int .i64 x0_9), .sc (.int .i64 x0_10)]⟩), (.tmp 2 0, ⟨.box, 0, [.sc (.int .i64 x0_11), .sc (.int .i64 x0_12), .sc (.int .u64 x0_13), .sc (.int .i64 x0_14), .own 1 x0_15.length (encL c_i64 x0_15), .sc (.int .i64 x0_16), .sc (.int .i64 x0_17)]⟩), (.tmp 5 0, ⟨.box, 0, [.sc (.int .i64 x0_18)]⟩), (.tmp 6 0, ⟨.box, 0, [.sc (.string x0_19), .sc (fnv x0_20)]⟩)], [], []⟩
theorem impl_PlanSend.l0_walk (cs0 : List Cell) (o0 : Nat) (l0_2 : List Int) (hv0 : Vw c_i64 1 cs0 o0 l0_2) (cs1 : List Cell) (o1 : Nat) (l0_3 : List S86) (hv1 : Vw c86 3 cs1 o1 l0_3) (cs2 : List Cell) (o2 : Nat) (l0_4 : List S84) (hv2 : Vw c84 5 cs2 o2 l0_4) (x0_0 : Int) (x0_2 : Int) (x0_3 : Int) (x0_4 : Int) (x0_5 : Int) (x0_6 : Int) (x0_7 : Int) (x0_8 : Int) (x0_9 : Int) (x0_10 : Int) (x0_11 : Int) (x0_12 : Int) (x0_13 : Int) (x0_14 : Int) (x0_15 : (List Int)) (x0_16 : Int) (x0_17 : Int) (x0_18 : Int) (x0_19 : ByteArray) (x0_20 : Int) (x0_1 : Int) (y : Lp Unit (Int × Int × Int × Int × Int × Int × Int × Int × Int × Int × (List Int) × Int × Int)) (h : impl_PlanSend.l0 l0_2 l0_3 l0_4 x0_0 x0_2 x0_3 x0_4 x0_5 x0_6 x0_7 x0_8 x0_9 x0_10 x0_11 x0_12 x0_13 x0_14 x0_15 x0_16 x0_17 x0_18 x0_19 x0_20 x0_1 = some y) : impl_PlanSend.l0_M cs0 o0 l0_2 hv0 cs1 o1 l0_3 hv1 cs2 o2 l0_4 hv2 x0_0 x0_2 x0_3 x0_4 x0_5 x0_6 x0_7 x0_8 x0_9 x0_10 x0_11 x0_12 x0_13 x0_14 x0_15 x0_16 x0_17 x0_18 x0_19 x0_20 x0_1 y := by
 refine impl_PlanSend.l0.partial_correctness l0_2 l0_3 l0_4 x0_0 x0_2 x0_3 x0_4 x0_5 x0_6 x0_7 x0_8 x0_9 x0_10 x0_11 x0_12 x0_13 x0_14 x0_15 x0_16 x0_17 x0_18 x0_19 x0_20 (motive := fun x0_1 y => impl_PlanSend.l0_M cs0 o0 l0_2 hv0 cs1 o1 l0_3 hv1 cs2 o2 l0_4 hv2 x0_0 x0_2 x0_3 x0_4 x0_5 x0_6 x0_7 x0_8 x0_9 x0_10 x0_11 x0_12 x0_13 x0_14 x0_15 x0_16 x0_17 x0_18 x0_19 x0_20 x0_1 y) ?_ x0_1 y h
 clear h
 unfold impl_PlanSend.l0_M
 intro rec ih x0_1 y h K hx0 hx1
 refine loop_unroll (ga_k fun G0 G0n G0r G0x => ?_)
 unfold C48_l0
 refine sr_k fun J28 hJ28 => ?_
 simp +decide only [Nat.reduceAdd, Nat.reduceMul, Int.reduceToNat, ak]
 refine hJ28 _ ?_
 refine seq_k fun J29 hJ29 => ?_
 refine cond_k (b := decide (x0_1 < x0_0)) rfl (fun c30 => ?_) (fun c30 => ?_)
 ·replace c30 := of_decide_eq_true c30; rw [if_pos c30] at h
  refine hJ29 _ ?_
  refine seq_k fun J31 hJ31 => ?_
  refine block_k fun B32 B32n B32x B32r B32j => ?_
  refine sr_k fun J33 hJ33 => ?_
  obtain ⟨b34, h⟩ := of_guard h
  have g35 : (List.drop (o2 + x0_1.toNat * 5) (cs2)).take 5 = [.sc (.int .u64 ((rd z84 l0_4 x0_1).f0)), .sc (.int .i64 ((rd z84 l0_4 x0_1).f1)), .sc (.int .i64 ((rd z84 l0_4 x0_1).f2)), .sc (.int .i64 ((rd z84 l0_4 x0_1).f3)), .sc (.int .i64 ((rd z84 l0_4 x0_1).f4))] := hv2.stretch z84 b34.1 b34.2
  simp +decide only [Nat.reduceAdd, Nat.reduceMul, Int.reduceToNat, ak, b34, g35]
  refine hJ33 _ ?_
  refine sr_k fun J36 hJ36 => ?_
  simp +decide only [Nat.reduceAdd, Nat.reduceMul, Int.reduceToNat, ak]
  refine hJ36 _ ?_
  refine cond_k (b := decide ((rd z84 l0_4 x0_1).f4 = 1)) rfl (fun c37 => ?_) (fun c37 => ?_)
  ·replace c37 := of_decide_eq_true c37; rw [if_pos c37] at h
   refine sr_k fun J38 hJ38 => ?_
   simp +decide only [Nat.reduceAdd, Nat.reduceMul, Int.reduceToNat, ak]
   refine gho_k (Weak.nmg' 58 4 (.tmp 58 24) 1 (encL c_i64 ([] : List Int)) rfl rfl rfl rfl) ?_
   simp +decide only [Nat.reduceAdd, Nat.reduceMul, Int.reduceToNat, ak]
   obtain ⟨t39, h40, h⟩ := of_bind h
   refine callv_clo (f := 90) (fn := Try.f90) (caps := [.ptr (.tmp 6 0) [] 0, .ptr (.tmp 1 0) [] 0, .ptr (.tmp 5 0) [] 0]) [.tmp 6, .tmp 1, .tmp 5] rfl (by first | rfl | simp only [ak]) Try.func90 (by kernel_rfl) (by decide) ?_
   refine call_m [(.arg 0, ⟨(.tmp 58 24), [], none, .fz⟩), (.arg 1, ⟨(.tmp 6 0), [], none, .box⟩), (.arg 2, ⟨(.tmp 1 0), [], none, .box⟩), (.arg 3, ⟨(.arg 0), [], none, .fz⟩), (.arg 4, ⟨(.arg 1), [], none, .fz⟩), (.arg 5, ⟨(.arg 2), [], none, .fz⟩), (.arg 6, ⟨(.tmp 5 0), [], none, .box⟩)] (s0 := [(.arg 0, ⟨.fz, 1, encL c_i64 ([] : List Int)⟩), (.arg 1, ⟨.box, 0, [.sc (.string x0_19), .sc (fnv x0_20)]⟩), (.arg 2, ⟨.box, 0, [.sc (.int .i64 x0_2), .sc (.int .i64 x0_3), .ref (.arg 3) [] o0 l0_2.length, .ref (.arg 4) [] o1 l0_3.length, .ref (.arg 5) [] o2 l0_4.length, .sc (.int .i64 x0_4), .sc (.int .u64 x0_5), .sc (.int .u64 x0_6), .sc (.int .u64 x0_7), .sc (.int .i64 x0_8), .sc (.int .i64 x0_9), .sc (.int .i64 x0_10)]⟩), (.arg 3, ⟨.fz, 1, cs0⟩), (.arg 4, ⟨.fz, 3, cs1⟩), (.arg 5, ⟨.fz, 5, cs2⟩), (.arg 6, ⟨.box, 0, [.sc (.int .i64 x0_18)]⟩)]) (by intro t ht; cases ht; decide) rfl rfl (by first | rfl | simp only [reduceCtorEq, Nat.reduceEqDiff, ak, akF, b34, g35, (show 0 = ([] : List Int).length by simp)]) (impl_PlanSend_1.tri (encL c_i64 ([] : List Int)) 0 ([] : List Int) (Vw.whole c_i64_w ([] : List Int)) (cs0) o0 l0_2 hv0 (cs1) o1 l0_3 hv1 (cs2) o2 l0_4 hv2 1 x0_1 ((rd z84 l0_4 x0_1).f0) ((rd z84 l0_4 x0_1).f1) 0 0 ((rd z84 l0_4 x0_1).f3) x0_19 x0_20 x0_2 x0_3 x0_4 x0_5 x0_6 x0_7 x0_8 x0_9 x0_10 x0_18 _ h40) (by first | rfl | simp only [reduceCtorEq, Nat.reduceEqDiff, ak, akF, (show 0 = ([] : List Int).length by simp)]) (by simp [bkOk2, memK]) (fun hl40 => ?_)
   refine call_st (s4 := [(.arg 0, ⟨.fz, 1, cs0⟩), (.arg 1, ⟨.fz, 3, cs1⟩), (.arg 2, ⟨.fz, 5, cs2⟩), (.tmp 1 0, ⟨.box, 0, [.sc (.int .i64 x0_2), .sc (.int .i64 x0_3), .ref (.arg 0) [] o0 l0_2.length, .ref (.arg 1) [] o1 l0_3.length, .ref (.arg 2) [] o2 l0_4.length, .sc (.int .i64 x0_4), .sc (.int .u64 x0_5), .sc (.int .u64 x0_6), .sc (.int .u64 x0_7), .sc (.int .i64 x0_8), .sc (.int .i64 x0_9), .sc (.int .i64 x0_10)]⟩), (.tmp 2 0, ⟨.box, 0, [.sc (.int .i64 x0_11), .sc (.int .i64 x0_12), .sc (.int .u64 x0_13), .sc (.int .i64 x0_14), .own 1 x0_15.length (encL c_i64 x0_15), .sc (.int .i64 x0_16), .sc (.int .i64 x0_17)]⟩), (.tmp 5 0, ⟨.box, 0, [.sc (.int .i64 x0_18)]⟩), (.tmp 6 0, ⟨.box, 0, [.sc (.string x0_19), .sc (fnv x0_20)]⟩), (.tmp 10 0, ⟨.box, 0, [.sc (.int .u64 ((rd z84 l0_4 x0_1).f0)), .sc (.int .i64 ((rd z84 l0_4 x0_1).f1)), .sc (.int .i64 ((rd z84 l0_4 x0_1).f2)), .sc (.int .i64 ((rd z84 l0_4 x0_1).f3)), .sc (.int .i64 ((rd z84 l0_4 x0_1).f4))]⟩), (.tmp 58 24, ⟨.lst, 1, encL c_i64 ([] : List Int)⟩), (.tmp 61 0, ⟨.lst, 1, encL c_i64 t39.2.2.2.2.1⟩)]) (m1' := []) (m2' := []) (v' := .tup [(true, [.sc (.int .i64 t39.1), .sc (.int .i64 t39.2.1), .sc (.int .u64 t39.2.2.1), .sc (.int .i64 t39.2.2.2.1), .ref (.tmp 61 0) [] 0 t39.2.2.2.2.1.length, .sc (.int .i64 t39.2.2.2.2.2.1), .sc (.int .i64 t39.2.2.2.2.2.2.1)]), (false, [.sc (.bool t39.2.2.2.2.2.2.2)])]) (Sto.mapN_killNil _ _) (mrgL_fz (mrgL_whole (new' := [.sc (.string x0_19), .sc (fnv x0_20)]) (mrgL_whole (new' := [.sc (.int .i64 x0_2), .sc (.int .i64 x0_3), .ref (.arg 0) [] o0 l0_2.length, .ref (.arg 1) [] o1 l0_3.length, .ref (.arg 2) [] o2 l0_4.length, .sc (.int .i64 x0_4), .sc (.int .u64 x0_5), .sc (.int .u64 x0_6), .sc (.int .u64 x0_7), .sc (.int .i64 x0_8), .sc (.int .i64 x0_9), .sc (.int .i64 x0_10)]) (mrgL_fz (mrgL_fz (mrgL_fz (mrgL_whole (new' := [.sc (.int .i64 x0_18)]) (mrgL_nil' _ _ _) rfl (by rfl) (.inl ⟨rfl, by first | rfl | simp only [reduceCtorEq, Nat.reduceEqDiff, ak, akF, Nat.zero_add, List.append_nil, b34]⟩)) rfl (by first | rfl | simp only [reduceCtorEq, Nat.reduceEqDiff, ak, b34, g35]) rfl (by intro R hR hh; cases hR; cases hh.2)) rfl (by first | rfl | simp only [reduceCtorEq, Nat.reduceEqDiff, ak, b34, g35]) rfl (by intro R hR hh; cases hR; cases hh.2)) rfl (by first | rfl | simp only [reduceCtorEq, Nat.reduceEqDiff, ak, b34, g35]) rfl (by intro R hR hh; cases hR; cases hh.2)) rfl (by rfl) (.inl ⟨rfl, by first | rfl | simp only [reduceCtorEq, Nat.reduceEqDiff, ak, akF, Nat.zero_add, List.append_nil, b34]⟩)) rfl (by rfl) (.inl ⟨rfl, by first | rfl | simp only [reduceCtorEq, Nat.reduceEqDiff, ak, akF, Nat.zero_add, List.append_nil, b34]⟩)) rfl (by first | rfl | simp only [reduceCtorEq, Nat.reduceEqDiff, ak, b34, g35]) rfl (by intro R hR hh; cases hR; cases hh.2)) (by rfl) (mapT_killNil _ _) (by rfl) (by rfl) (by first | rfl | simp only [reduceCtorEq, Nat.reduceEqDiff, ak, akF, Nat.zero_add, List.append_nil, b34]) ?_
   simp +decide only [Nat.reduceAdd, Nat.reduceMul, Int.reduceToNat, ak]
   refine gho_k (Weak.own (.tmp 11 0) (cs' := [.sc (.int .i64 0), .sc (.int .i64 0), .sc (.int .u64 0), .sc (.int .i64 0), .own 1 (([] : List Int).length) (encL c_i64 ([] : List Int)), .sc (.int .i64 0), .sc (.int .i64 0)]) rfl ⟨.inl rfl, .inl rfl, .inl rfl, .inl rfl, .inr ⟨rfl, _, rfl⟩, .inl rfl, .inl rfl, trivial⟩) ?_
   have g42 : (encL c_i64 t39.2.2.2.2.1).length = t39.2.2.2.2.1.length * 1 := by simp [encL_length c_i64_w]
   simp +decide only [Nat.reduceAdd, Nat.reduceMul, Int.reduceToNat, ak, g42]
   refine hJ38 _ ?_
   refine sr_k fun J43 hJ43 => ?_
   simp +decide only [Nat.reduceAdd, Nat.reduceMul, Int.reduceToNat, ak]
   refine hJ43 _ ?_
   refine cond_k (b := t39.2.2.2.2.2.2.2) rfl (fun c44 => ?_) (fun c44 => ?_)
   ·rw [if_pos c44] at h
    refine sr_k fun J45 hJ45 => ?_
    simp +decide only [Nat.reduceAdd, Nat.reduceMul, Int.reduceToNat, ak]
    refine hJ45 _ ?_
    obtain rfl := Option.some.inj h
    refine gh_k (wk [2, 3] [pI (.arg 0) .fz, pI (.arg 1) .fz, pI (.arg 2) .fz, pI (.tmp 2 0) .box, pI (.tmp 11 0) .box]) ?_
    refine B32r _ ?_
    refine G0r _ ?_
    exact hx1 _ rfl
   ·rw [if_neg (Bool.eq_false_iff.1 c44)] at h
    refine B32n _ ?_
    refine hJ31 _ ?_
    refine reg_k ?_
    simp +decide only [Nat.reduceAdd, Nat.reduceMul, Int.reduceToNat, ak]
    refine G0n _ _ (wk [1, 2, 5, 6, 8, 41, 42, 43] [pI (.arg 0) .fz, pI (.arg 1) .fz, pI (.arg 2) .fz, pI (.tmp 1 0) .box, pI (.tmp 2 0) .box, pI (.tmp 5 0) .box, pI (.tmp 6 0) .box]) (ih _ _ h K hx0 hx1)
  ·replace c37 := of_decide_eq_false c37; rw [if_neg c37] at h
   refine B32n _ ?_
   refine hJ31 _ ?_
   refine reg_k ?_
   simp +decide only [Nat.reduceAdd, Nat.reduceMul, Int.reduceToNat, ak]
   refine G0n _ _ (wk [1, 2, 5, 6, 8, 41, 42, 43] [pI (.arg 0) .fz, pI (.arg 1) .fz, pI (.arg 2) .fz, pI (.tmp 1 0) .box, pI (.tmp 2 0) .box, pI (.tmp 5 0) .box, pI (.tmp 6 0) .box]) (ih _ _ h K hx0 hx1)
 ·replace c30 := of_decide_eq_false c30; rw [if_neg c30] at h
  obtain rfl := Option.some.inj h
  refine gh_k (wk [1, 2, 5, 6, 8] [pI (.arg 0) .fz, pI (.arg 1) .fz, pI (.arg 2) .fz, pI (.tmp 1 0) .box, pI (.tmp 2 0) .box, pI (.tmp 5 0) .box, pI (.tmp 6 0) .box]) ?_
  refine G0x _ _ ?_
  exact hx0 _ rfl
theorem impl_PlanSend.tri (cs0 : List Cell) (o0 : Nat) (l0_2 : List Int) (hv0 : Vw c_i64 1 cs0 o0 l0_2) (cs1 : List Cell) (o1 : Nat) (l0_3 : List S86) (hv1 : Vw c86 3 cs1 o1 l0_3) (cs2 : List Cell) (o2 : Nat) (l0_4 : List S84) (hv2 : Vw c84 5 cs2 o2 l0_4) (a0_0 : Int) (a0_1 : Int) (a0_5 : Int) (a0_6 : Int) (a0_7 : Int) (a0_8 : Int) (a0_9 : Int) (a0_10 : Int) (a0_11 : Int) (r : Int × Int × Int × Int × (List Int) × Int × Int × Int) (h : impl_PlanSend.f a0_0 a0_1 l0_2 l0_3 l0_4 a0_5 a0_6 a0_7 a0_8 a0_9 a0_10 a0_11 = some r) : Tri Try.prog 48 [.g [.sc (.int .i64 a0_0), .sc (.int .i64 a0_1), .ref (.arg 0) [] o0 l0_2.length, .ref (.arg 1) [] o1 l0_3.length, .ref (.arg 2) [] o2 l0_4.length, .sc (.int .i64 a0_5), .sc (.int .u64 a0_6), .sc (.int .u64 a0_7), .sc (.int .u64 a0_8), .sc (.int .i64 a0_9), .sc (.int .i64 a0_10), .sc (.int .i64 a0_11)]] [(.arg 0, ⟨.fz, 1, cs0⟩), (.arg 1, ⟨.fz, 3, cs1⟩), (.arg 2, ⟨.fz, 5, cs2⟩)] (fun o => o = ⟨.tup [(true, [.sc (.int .i64 r.1), .sc (.int .i64 r.2.1), .sc (.int .u64 r.2.2.1), .sc (.int .i64 r.2.2.2.1), .ref (.res 0) [] 0 r.2.2.2.2.1.length, .sc (.int .i64 r.2.2.2.2.2.1), .sc (.int .i64 r.2.2.2.2.2.2.1)]), (false, [.sc (.int .i64 r.2.2.2.2.2.2.2)])], [(.arg 0, ⟨.fz, 1, cs0⟩), (.arg 1, ⟨.fz, 3, cs1⟩), (.arg 2, ⟨.fz, 5, cs2⟩), (.res 0, ⟨.lst, 1, encL c_i64 r.2.2.2.2.1⟩)], [], []⟩) := by
 refine tri_of_body (ac := C48) (xs := r48) Try.func48 (show Try.f48.body = some (Try.f48.body.getD .skip) from rfl) k48 q48 (Nat.le_of_ble_eq_true rfl) ?_
 refine body_of fun K hKn hKr => ?_
 unfold impl_PlanSend.f at h
 unfold C48
 simp only [initT, Nat.reduceAdd]
 refine sr_k fun J1 hJ1 => ?_
 simp +decide only [Nat.reduceAdd, Nat.reduceMul, Int.reduceToNat, ak]
 refine gho_k (Weak.own (.tmp 2 0) (cs' := [.sc (.int .i64 0), .sc (.int .i64 0), .sc (.int .u64 0), .sc (.int .i64 0), .own 1 (([] : List Int).length) (encL c_i64 ([] : List Int)), .sc (.int .i64 0), .sc (.int .i64 0)]) rfl ⟨.inl rfl, .inl rfl, .inl rfl, .inl rfl, .inr ⟨rfl, _, rfl⟩, .inl rfl, .inl rfl, trivial⟩) ?_
 simp +decide only [Nat.reduceAdd, Nat.reduceMul, Int.reduceToNat, ak]
 refine hJ1 _ ?_
 refine seq_k fun J2 hJ2 => ?_
 refine sr_k fun J3 hJ3 => ?_
 simp +decide only [Nat.reduceAdd, Nat.reduceMul, Int.reduceToNat, ak]
 obtain ⟨t4, h5, h⟩ := of_bind h
 refine call_m [(.arg 0, ⟨(.arg 0), [], none, .fz⟩), (.arg 1, ⟨(.arg 1), [], none, .fz⟩), (.arg 2, ⟨(.arg 2), [], none, .fz⟩)] (s0 := [(.arg 0, ⟨.fz, 1, cs0⟩), (.arg 1, ⟨.fz, 3, cs1⟩), (.arg 2, ⟨.fz, 5, cs2⟩)]) (by intro t ht; cases ht; decide) rfl rfl (by first | rfl | simp only [reduceCtorEq, Nat.reduceEqDiff, ak, akF]) (impl_checkPlan.tri (cs0) o0 l0_2 hv0 (cs1) o1 l0_3 hv1 (cs2) o2 l0_4 hv2 a0_0 a0_1 a0_5 a0_6 a0_7 a0_8 a0_9 a0_10 a0_11 _ h5) (by first | rfl | simp only [reduceCtorEq, Nat.reduceEqDiff, ak, akF]) (by simp [bkOk2, memK]) (fun hl5 => ?_)
 refine call_st (s4 := [(.arg 0, ⟨.fz, 1, cs0⟩), (.arg 1, ⟨.fz, 3, cs1⟩), (.arg 2, ⟨.fz, 5, cs2⟩), (.tmp 1 0, ⟨.box, 0, [.sc (.int .i64 a0_0), .sc (.int .i64 a0_1), .ref (.arg 0) [] o0 l0_2.length, .ref (.arg 1) [] o1 l0_3.length, .ref (.arg 2) [] o2 l0_4.length, .sc (.int .i64 a0_5), .sc (.int .u64 a0_6), .sc (.int .u64 a0_7), .sc (.int .u64 a0_8), .sc (.int .i64 a0_9), .sc (.int .i64 a0_10), .sc (.int .i64 a0_11)]⟩), (.tmp 2 0, ⟨.box, 0, [.sc (.int .i64 0), .sc (.int .i64 0), .sc (.int .u64 0), .sc (.int .i64 0), .own 1 (([] : List Int).length) (encL c_i64 ([] : List Int)), .sc (.int .i64 0), .sc (.int .i64 0)]⟩)]) (m1' := []) (m2' := []) (v' := .c (.sc (.int .i64 t4))) (Sto.mapN_killNil _ _) (mrgL_fz (mrgL_fz (mrgL_fz (mrgL_nil' _ _ _) rfl (by first | rfl | simp only [reduceCtorEq, Nat.reduceEqDiff, ak]) rfl (by intro R hR hh; cases hR; cases hh.2)) rfl (by first | rfl | simp only [reduceCtorEq, Nat.reduceEqDiff, ak]) rfl (by intro R hR hh; cases hR; cases hh.2)) rfl (by first | rfl | simp only [reduceCtorEq, Nat.reduceEqDiff, ak]) rfl (by intro R hR hh; cases hR; cases hh.2)) (by rfl) (mapT_killNil _ _) (by rfl) (by rfl) (by first | rfl | simp only [reduceCtorEq, Nat.reduceEqDiff, ak, akF, Nat.zero_add, List.append_nil]) ?_
 simp +decide only [Nat.reduceAdd, Nat.reduceMul, Int.reduceToNat, ak]
 refine hJ3 _ ?_
 refine sr_k fun J7 hJ7 => ?_
 simp +decide only [Nat.reduceAdd, Nat.reduceMul, Int.reduceToNat, ak]
 refine hJ7 _ ?_
 refine cond_k (b := decide (t4 ≠ 0)) rfl (fun c8 => ?_) (fun c8 => ?_)
 ·replace c8 := of_decide_eq_true c8; rw [if_pos c8] at h
  refine sr_k fun J9 hJ9 => ?_
  simp +decide only [Nat.reduceAdd, Nat.reduceMul, Int.reduceToNat, ak]
  refine gho_k (Weak.nmg' 23 4 (.tmp 23 24) 1 (encL c_i64 ([] : List Int)) rfl rfl rfl rfl) ?_
  have g10 : (encL c_i64 ([] : List Int)).length = 0 * 1 := by simp [encL_length c_i64_w]
  simp +decide only [Nat.reduceAdd, Nat.reduceMul, Int.reduceToNat, ak, g10]
  refine hJ9 _ ?_
  obtain rfl := Option.some.inj h
  refine hKr _ ⟨_, rfl, [⟨(.tmp 2 0), [4], none, .lst⟩], _, rfl, rfl, ?_⟩
  first | rfl | (simp only [reduceCtorEq, Nat.reduceEqDiff, ak, akF]; done) | (simp [reduceCtorEq, Nat.reduceEqDiff, ak, akF] <;> omega)
 ·replace c8 := of_decide_eq_false c8; rw [if_neg c8] at h
  refine hJ2 _ ?_
  refine sr_k fun J11 hJ11 => ?_
  simp +decide only [Nat.reduceAdd, Nat.reduceMul, Int.reduceToNat, ak]
  refine hJ11 _ ?_
  obtain ⟨j12, h13, hn⟩ := of_bind h
  refine seq_j (fun st => st = ⟨[(1, .c (.ptr (.tmp 1 0) [] 0)), (2, .c (.ptr (.tmp 2 0) [] 0)), (5, .c (.ptr (.tmp 5 0) [] 0))], [(.arg 0, ⟨.fz, 1, cs0⟩), (.arg 1, ⟨.fz, 3, cs1⟩), (.arg 2, ⟨.fz, 5, cs2⟩), (.tmp 1 0, ⟨.box, 0, [.sc (.int .i64 a0_0), .sc (.int .i64 a0_1), .ref (.arg 0) [] o0 l0_2.length, .ref (.arg 1) [] o1 l0_3.length, .ref (.arg 2) [] o2 l0_4.length, .sc (.int .i64 a0_5), .sc (.int .u64 a0_6), .sc (.int .u64 a0_7), .sc (.int .u64 a0_8), .sc (.int .i64 a0_9), .sc (.int .i64 a0_10), .sc (.int .i64 a0_11)]⟩), (.tmp 2 0, ⟨.box, 0, [.sc (.int .i64 0), .sc (.int .i64 0), .sc (.int .u64 0), .sc (.int .i64 0), .own 1 (([] : List Int).length) (encL c_i64 ([] : List Int)), .sc (.int .i64 0), .sc (.int .i64 0)]⟩), (.tmp 5 0, ⟨.box, 0, [.sc (.int .i64 j12)]⟩)], [], []⟩) (fun J14 hJ14 => ?_) ?_
  ·replace h := h13; clear hn
   refine ga_k fun G15 G15n G15r G15x => ?_
   refine sr_k fun J16 hJ16 => ?_
   simp +decide only [Nat.reduceAdd, Nat.reduceMul, Int.reduceToNat, ak]
   refine hJ16 _ ?_
   refine cond_k (b := decide ((l0_2.length : Int) > 0)) rfl (fun c17 => ?_) (fun c17 => ?_)
   ·replace c17 := of_decide_eq_true c17; rw [if_pos c17] at h
    refine reg_k ?_
    obtain ⟨b18, h⟩ := of_guard h
    have g19 : (cs0)[o0 + 0]? = some (.sc (.int .i64 (rd 0 l0_2 0))) := hv0.get 0 0 b18.1 b18.2 (by decide)
    simp +decide only [Nat.reduceAdd, Nat.reduceMul, Int.reduceToNat, ak, b18, g19]
    obtain rfl := Option.some.inj h
    refine G15n _ _ (wk [1, 2, 5] [pI (.arg 0) .fz, pI (.arg 1) .fz, pI (.arg 2) .fz, pI (.tmp 1 0) .box, pI (.tmp 2 0) .box, pI (.tmp 5 0) .box]) (hJ14 _ rfl)
   ·replace c17 := of_decide_eq_false c17; rw [if_neg c17] at h
    obtain rfl := Option.some.inj h
    refine G15n _ _ (wk [1, 2, 5] [pI (.arg 0) .fz, pI (.arg 1) .fz, pI (.arg 2) .fz, pI (.tmp 1 0) .box, pI (.tmp 2 0) .box, pI (.tmp 5 0) .box]) (hJ14 _ rfl)
  ·replace h := hn; clear hn h13
   rintro _ rfl
   refine sr_k fun J20 hJ20 => ?_
   simp +decide only [Nat.reduceAdd, Nat.reduceMul, Int.reduceToNat, ak]
   obtain ⟨t21, h22, h⟩ := of_bind h
   refine call_m [] (s0 := []) (by intro t ht; cases ht; decide) rfl rfl (by first | rfl | simp only [reduceCtorEq, Nat.reduceEqDiff, ak, akF]) (impl_policyOf.tri a0_0 _ h22) (by first | rfl | simp only [reduceCtorEq, Nat.reduceEqDiff, ak, akF]) (by simp [bkOk2, memK]) (fun hl22 => ?_)
   refine call_st (s4 := [(.arg 0, ⟨.fz, 1, cs0⟩), (.arg 1, ⟨.fz, 3, cs1⟩), (.arg 2, ⟨.fz, 5, cs2⟩), (.tmp 1 0, ⟨.box, 0, [.sc (.int .i64 a0_0), .sc (.int .i64 a0_1), .ref (.arg 0) [] o0 l0_2.length, .ref (.arg 1) [] o1 l0_3.length, .ref (.arg 2) [] o2 l0_4.length, .sc (.int .i64 a0_5), .sc (.int .u64 a0_6), .sc (.int .u64 a0_7), .sc (.int .u64 a0_8), .sc (.int .i64 a0_9), .sc (.int .i64 a0_10), .sc (.int .i64 a0_11)]⟩), (.tmp 2 0, ⟨.box, 0, [.sc (.int .i64 0), .sc (.int .i64 0), .sc (.int .u64 0), .sc (.int .i64 0), .own 1 (([] : List Int).length) (encL c_i64 ([] : List Int)), .sc (.int .i64 0), .sc (.int .i64 0)]⟩), (.tmp 5 0, ⟨.box, 0, [.sc (.int .i64 j12)]⟩)]) (m1' := []) (m2' := []) (v' := .tup [(true, [.sc (.string t21.1), .sc (fnv t21.2.1)]), (false, [.sc (.bool t21.2.2)])]) (Sto.mapN_killNil _ _) (mrgL_nil' _ _ _) (by rfl) (mapT_killNil _ _) (by rfl) (by rfl) (by first | rfl | simp only [reduceCtorEq, Nat.reduceEqDiff, ak, akF, Nat.zero_add, List.append_nil]) ?_
   simp +decide only [Nat.reduceAdd, Nat.reduceMul, Int.reduceToNat, ak]
   refine hJ20 _ ?_
   refine sr_k fun J24 hJ24 => ?_
   simp +decide only [Nat.reduceAdd, Nat.reduceMul, Int.reduceToNat, ak]
   refine hJ24 _ ?_
   refine seq_k fun J25 hJ25 => ?_
   refine sr_k fun J26 hJ26 => ?_
   simp +decide only [Nat.reduceAdd, Nat.reduceMul, Int.reduceToNat, ak]
   refine hJ26 _ ?_
   refine block_k fun B27 B27n B27x B27r B27j => ?_
   obtain ⟨y46, h47, h⟩ := of_bind h
   refine gh_k (wk [1, 2, 5, 6, 8, 41, 42, 43] [pI (.arg 0) .fz, pI (.arg 1) .fz, pI (.arg 2) .fz, pI (.tmp 1 0) .box, pI (.tmp 2 0) .box, pI (.tmp 5 0) .box, pI (.tmp 6 0) .box]) ?_
   rw [e_loop]
   refine impl_PlanSend.l0_walk cs0 o0 l0_2 hv0 cs1 o1 l0_3 hv1 cs2 o2 l0_4 hv2 (l0_4.length : Int) a0_0 a0_1 a0_5 a0_6 a0_7 a0_8 a0_9 a0_10 a0_11 0 0 0 0 ([] : List Int) 0 0 j12 t21.1 t21.2.1 0 _ h47 _ ?_ ?_
   ·rintro x48 rfl
    dsimp only at h
    refine B27x _ ?_
    refine hJ25 _ ?_
    refine sr_k fun J49 hJ49 => ?_
    simp +decide only [Nat.reduceAdd, Nat.reduceMul, Int.reduceToNat, ak]
    refine hJ49 _ ?_
    refine seq_k fun J50 hJ50 => ?_
    obtain ⟨j51, h52, hn⟩ := of_bind h
    refine seq_j (fun st => st = ⟨[(1, .c (.ptr (.tmp 1 0) [] 0)), (2, .c (.ptr (.tmp 2 0) [] 0)), (5, .c (.ptr (.tmp 5 0) [] 0)), (6, .c (.ptr (.tmp 6 0) [] 0)), (8, .c (.fn 90 [.ptr (.tmp 6 0) [] 0, .ptr (.tmp 1 0) [] 0, .ptr (.tmp 5 0) [] 0])), (13, .c (.sc (.bool (decide ((l0_4.length : Int) < a0_5))))), (87, .c (.sc (.bool j51)))], [(.arg 0, ⟨.fz, 1, cs0⟩), (.arg 1, ⟨.fz, 3, cs1⟩), (.arg 2, ⟨.fz, 5, cs2⟩), (.tmp 1 0, ⟨.box, 0, [.sc (.int .i64 a0_0), .sc (.int .i64 a0_1), .ref (.arg 0) [] o0 l0_2.length, .ref (.arg 1) [] o1 l0_3.length, .ref (.arg 2) [] o2 l0_4.length, .sc (.int .i64 a0_5), .sc (.int .u64 a0_6), .sc (.int .u64 a0_7), .sc (.int .u64 a0_8), .sc (.int .i64 a0_9), .sc (.int .i64 a0_10), .sc (.int .i64 a0_11)]⟩), (.tmp 2 0, ⟨.box, 0, [.sc (.int .i64 0), .sc (.int .i64 0), .sc (.int .u64 0), .sc (.int .i64 0), .own 1 (([] : List Int).length) (encL c_i64 ([] : List Int)), .sc (.int .i64 0), .sc (.int .i64 0)]⟩), (.tmp 5 0, ⟨.box, 0, [.sc (.int .i64 j12)]⟩), (.tmp 6 0, ⟨.box, 0, [.sc (.string t21.1), .sc (fnv t21.2.1)]⟩)], [], []⟩) (fun J53 hJ53 => ?_) ?_
    ·replace h := h52; clear hn
     refine ga_k fun G54 G54n G54r G54x => ?_
     refine reg_k ?_
     simp +decide only [Nat.reduceAdd, Nat.reduceMul, Int.reduceToNat, ak]
     by_cases c55 : a0_6 < a0_7
     ·rw [if_pos c55] at h
      have e56 : decide (a0_6 < a0_7) = true := decide_eq_true c55
      simp +decide only [Nat.reduceAdd, Nat.reduceMul, Int.reduceToNat, ak, e56]
      by_cases c57 : a0_6 < a0_8
      ·rw [if_pos c57] at h
       have e58 : decide (a0_6 < a0_8) = true := decide_eq_true c57
       simp +decide only [Nat.reduceAdd, Nat.reduceMul, Int.reduceToNat, ak, e58]
       obtain rfl := Option.some.inj h
       refine G54n _ _ (wk [1, 2, 5, 6, 8, 13, 87] [pI (.arg 0) .fz, pI (.arg 1) .fz, pI (.arg 2) .fz, pI (.tmp 1 0) .box, pI (.tmp 2 0) .box, pI (.tmp 5 0) .box, pI (.tmp 6 0) .box] (h0 := by first | rfl | simp +decide only [ak, akF, e56, e58]) (h := by first | rfl | (simp +decide only [ak, akF, e56, e58]; done) | (simp +decide [ak, akF, e56, e58] <;> omega))) (hJ53 _ rfl)
      ·rw [if_neg c57] at h
       have e59 : decide (a0_6 < a0_8) = false := decide_eq_false c57
       simp +decide only [Nat.reduceAdd, Nat.reduceMul, Int.reduceToNat, ak, e59]
       obtain rfl := Option.some.inj h
       refine G54n _ _ (wk [1, 2, 5, 6, 8, 13, 87] [pI (.arg 0) .fz, pI (.arg 1) .fz, pI (.arg 2) .fz, pI (.tmp 1 0) .box, pI (.tmp 2 0) .box, pI (.tmp 5 0) .box, pI (.tmp 6 0) .box] (h0 := by first | rfl | simp +decide only [ak, akF, e56, e59]) (h := by first | rfl | (simp +decide only [ak, akF, e56, e59]; done) | (simp +decide [ak, akF, e56, e59] <;> omega))) (hJ53 _ rfl)
     ·rw [if_neg c55] at h
      have e60 : decide (a0_6 < a0_7) = false := decide_eq_false c55
      simp +decide only [Nat.reduceAdd, Nat.reduceMul, Int.reduceToNat, ak, e60]
      obtain rfl := Option.some.inj h
      refine G54n _ _ (wk [1, 2, 5, 6, 8, 13, 87] [pI (.arg 0) .fz, pI (.arg 1) .fz, pI (.arg 2) .fz, pI (.tmp 1 0) .box, pI (.tmp 2 0) .box, pI (.tmp 5 0) .box, pI (.tmp 6 0) .box] (h0 := by first | rfl | simp +decide only [ak, akF, e60]) (h := by first | rfl | (simp +decide only [ak, akF, e60]; done) | (simp +decide [ak, akF, e60] <;> omega))) (hJ53 _ rfl)
    ·replace h := hn; clear hn h52
     rintro _ rfl
     refine cond_k (b := j51) rfl (fun c61 => ?_) (fun c61 => ?_)
     ·rw [if_pos c61] at h
      refine sr_k fun J62 hJ62 => ?_
      simp +decide only [Nat.reduceAdd, Nat.reduceMul, Int.reduceToNat, ak, mmF, mm2, scv, List.foldl]
      refine hJ62 _ ?_
      refine sr_k fun J63 hJ63 => ?_
      simp +decide only [Nat.reduceAdd, Nat.reduceMul, Int.reduceToNat, ak]
      refine gho_k (Weak.nmg' 108 4 (.tmp 108 24) 1 (encL c_i64 ([] : List Int)) rfl rfl rfl rfl) ?_
      simp +decide only [Nat.reduceAdd, Nat.reduceMul, Int.reduceToNat, ak]
      obtain ⟨t64, h65, h⟩ := of_bind h
      refine callv_clo (f := 90) (fn := Try.f90) (caps := [.ptr (.tmp 6 0) [] 0, .ptr (.tmp 1 0) [] 0, .ptr (.tmp 5 0) [] 0]) [.tmp 6, .tmp 1, .tmp 5] rfl (by first | rfl | simp only [ak]) Try.func90 (by kernel_rfl) (by decide) ?_
      refine call_m [(.arg 0, ⟨(.tmp 108 24), [], none, .fz⟩), (.arg 1, ⟨(.tmp 6 0), [], none, .box⟩), (.arg 2, ⟨(.tmp 1 0), [], none, .box⟩), (.arg 3, ⟨(.arg 0), [], none, .fz⟩), (.arg 4, ⟨(.arg 1), [], none, .fz⟩), (.arg 5, ⟨(.arg 2), [], none, .fz⟩), (.arg 6, ⟨(.tmp 5 0), [], none, .box⟩)] (s0 := [(.arg 0, ⟨.fz, 1, encL c_i64 ([] : List Int)⟩), (.arg 1, ⟨.box, 0, [.sc (.string t21.1), .sc (fnv t21.2.1)]⟩), (.arg 2, ⟨.box, 0, [.sc (.int .i64 a0_0), .sc (.int .i64 a0_1), .ref (.arg 3) [] o0 l0_2.length, .ref (.arg 4) [] o1 l0_3.length, .ref (.arg 5) [] o2 l0_4.length, .sc (.int .i64 a0_5), .sc (.int .u64 a0_6), .sc (.int .u64 a0_7), .sc (.int .u64 a0_8), .sc (.int .i64 a0_9), .sc (.int .i64 a0_10), .sc (.int .i64 a0_11)]⟩), (.arg 3, ⟨.fz, 1, cs0⟩), (.arg 4, ⟨.fz, 3, cs1⟩), (.arg 5, ⟨.fz, 5, cs2⟩), (.arg 6, ⟨.box, 0, [.sc (.int .i64 j12)]⟩)]) (by intro t ht; cases ht; decide) rfl rfl (by first | rfl | simp only [reduceCtorEq, Nat.reduceEqDiff, ak, akF, (show 0 = ([] : List Int).length by simp)]) (impl_PlanSend_1.tri (encL c_i64 ([] : List Int)) 0 ([] : List Int) (Vw.whole c_i64_w ([] : List Int)) (cs0) o0 l0_2 hv0 (cs1) o1 l0_3 hv1 (cs2) o2 l0_4 hv2 2 0 a0_6 (IntKind.i64.wrap (if (IntKind.u64.wrap (a0_8 - a0_6)) < (if (IntKind.u64.wrap (a0_7 - a0_6)) < (IntKind.u64.wrap a0_11) then IntKind.u64.wrap (a0_7 - a0_6) else IntKind.u64.wrap a0_11) then IntKind.u64.wrap (a0_8 - a0_6) else (if (IntKind.u64.wrap (a0_7 - a0_6)) < (IntKind.u64.wrap a0_11) then IntKind.u64.wrap (a0_7 - a0_6) else IntKind.u64.wrap a0_11))) 0 0 0 t21.1 t21.2.1 a0_0 a0_1 a0_5 a0_6 a0_7 a0_8 a0_9 a0_10 a0_11 j12 _ h65) (by first | rfl | simp only [reduceCtorEq, Nat.reduceEqDiff, ak, akF, (show 0 = ([] : List Int).length by simp)]) (by simp [bkOk2, memK]) (fun hl65 => ?_)
      refine call_st (s4 := [(.arg 0, ⟨.fz, 1, cs0⟩), (.arg 1, ⟨.fz, 3, cs1⟩), (.arg 2, ⟨.fz, 5, cs2⟩), (.tmp 1 0, ⟨.box, 0, [.sc (.int .i64 a0_0), .sc (.int .i64 a0_1), .ref (.arg 0) [] o0 l0_2.length, .ref (.arg 1) [] o1 l0_3.length, .ref (.arg 2) [] o2 l0_4.length, .sc (.int .i64 a0_5), .sc (.int .u64 a0_6), .sc (.int .u64 a0_7), .sc (.int .u64 a0_8), .sc (.int .i64 a0_9), .sc (.int .i64 a0_10), .sc (.int .i64 a0_11)]⟩), (.tmp 2 0, ⟨.box, 0, [.sc (.int .i64 0), .sc (.int .i64 0), .sc (.int .u64 0), .sc (.int .i64 0), .own 1 (([] : List Int).length) (encL c_i64 ([] : List Int)), .sc (.int .i64 0), .sc (.int .i64 0)]⟩), (.tmp 5 0, ⟨.box, 0, [.sc (.int .i64 j12)]⟩), (.tmp 6 0, ⟨.box, 0, [.sc (.string t21.1), .sc (fnv t21.2.1)]⟩), (.tmp 108 24, ⟨.lst, 1, encL c_i64 ([] : List Int)⟩), (.tmp 109 0, ⟨.lst, 1, encL c_i64 t64.2.2.2.2.1⟩)]) (m1' := []) (m2' := []) (v' := .tup [(true, [.sc (.int .i64 t64.1), .sc (.int .i64 t64.2.1), .sc (.int .u64 t64.2.2.1), .sc (.int .i64 t64.2.2.2.1), .ref (.tmp 109 0) [] 0 t64.2.2.2.2.1.length, .sc (.int .i64 t64.2.2.2.2.2.1), .sc (.int .i64 t64.2.2.2.2.2.2.1)]), (false, [.sc (.bool t64.2.2.2.2.2.2.2)])]) (Sto.mapN_killNil _ _) (mrgL_fz (mrgL_whole (new' := [.sc (.string t21.1), .sc (fnv t21.2.1)]) (mrgL_whole (new' := [.sc (.int .i64 a0_0), .sc (.int .i64 a0_1), .ref (.arg 0) [] o0 l0_2.length, .ref (.arg 1) [] o1 l0_3.length, .ref (.arg 2) [] o2 l0_4.length, .sc (.int .i64 a0_5), .sc (.int .u64 a0_6), .sc (.int .u64 a0_7), .sc (.int .u64 a0_8), .sc (.int .i64 a0_9), .sc (.int .i64 a0_10), .sc (.int .i64 a0_11)]) (mrgL_fz (mrgL_fz (mrgL_fz (mrgL_whole (new' := [.sc (.int .i64 j12)]) (mrgL_nil' _ _ _) rfl (by rfl) (.inl ⟨rfl, by first | rfl | simp only [reduceCtorEq, Nat.reduceEqDiff, ak, akF, Nat.zero_add, List.append_nil]⟩)) rfl (by first | rfl | simp only [reduceCtorEq, Nat.reduceEqDiff, ak]) rfl (by intro R hR hh; cases hR; cases hh.2)) rfl (by first | rfl | simp only [reduceCtorEq, Nat.reduceEqDiff, ak]) rfl (by intro R hR hh; cases hR; cases hh.2)) rfl (by first | rfl | simp only [reduceCtorEq, Nat.reduceEqDiff, ak]) rfl (by intro R hR hh; cases hR; cases hh.2)) rfl (by rfl) (.inl ⟨rfl, by first | rfl | simp only [reduceCtorEq, Nat.reduceEqDiff, ak, akF, Nat.zero_add, List.append_nil]⟩)) rfl (by rfl) (.inl ⟨rfl, by first | rfl | simp only [reduceCtorEq, Nat.reduceEqDiff, ak, akF, Nat.zero_add, List.append_nil]⟩)) rfl (by first | rfl | simp only [reduceCtorEq, Nat.reduceEqDiff, ak]) rfl (by intro R hR hh; cases hR; cases hh.2)) (by rfl) (mapT_killNil _ _) (by rfl) (by rfl) (by first | rfl | simp only [reduceCtorEq, Nat.reduceEqDiff, ak, akF, Nat.zero_add, List.append_nil]) ?_
      simp +decide only [Nat.reduceAdd, Nat.reduceMul, Int.reduceToNat, ak]
      refine gho_k (Weak.own (.tmp 15 0) (cs' := [.sc (.int .i64 0), .sc (.int .i64 0), .sc (.int .u64 0), .sc (.int .i64 0), .own 1 (([] : List Int).length) (encL c_i64 ([] : List Int)), .sc (.int .i64 0), .sc (.int .i64 0)]) rfl ⟨.inl rfl, .inl rfl, .inl rfl, .inl rfl, .inr ⟨rfl, _, rfl⟩, .inl rfl, .inl rfl, trivial⟩) ?_
      have g67 : (encL c_i64 t64.2.2.2.2.1).length = t64.2.2.2.2.1.length * 1 := by simp [encL_length c_i64_w]
      simp +decide only [Nat.reduceAdd, Nat.reduceMul, Int.reduceToNat, ak, g67]
      refine hJ63 _ ?_
      refine sr_k fun J68 hJ68 => ?_
      simp +decide only [Nat.reduceAdd, Nat.reduceMul, Int.reduceToNat, ak]
      refine hJ68 _ ?_
      refine cond_k (b := t64.2.2.2.2.2.2.2) rfl (fun c69 => ?_) (fun c69 => ?_)
      ·rw [if_pos c69] at h
       refine sr_k fun J70 hJ70 => ?_
       simp +decide only [Nat.reduceAdd, Nat.reduceMul, Int.reduceToNat, ak]
       refine hJ70 _ ?_
       obtain rfl := Option.some.inj h
       refine hKr _ ⟨_, rfl, [⟨(.tmp 15 0), [4], none, .lst⟩], _, rfl, rfl, ?_⟩
       first | rfl | (simp only [reduceCtorEq, Nat.reduceEqDiff, ak, akF]; done) | (simp [reduceCtorEq, Nat.reduceEqDiff, ak, akF] <;> omega)
      ·rw [if_neg (Bool.eq_false_iff.1 c69)] at h
       refine hJ50 _ ?_
       refine seq_k fun J71 hJ71 => ?_
       obtain ⟨j72, h73, hn⟩ := of_bind h
       refine seq_j (fun st => st = ⟨[(1, .c (.ptr (.tmp 1 0) [] 0)), (2, .c (.ptr (.tmp 2 0) [] 0)), (5, .c (.ptr (.tmp 5 0) [] 0)), (6, .c (.ptr (.tmp 6 0) [] 0)), (8, .c (.fn 90 [.ptr (.tmp 6 0) [] 0, .ptr (.tmp 1 0) [] 0, .ptr (.tmp 5 0) [] 0])), (131, .c (.sc (.bool j72)))], [(.arg 0, ⟨.fz, 1, cs0⟩), (.arg 1, ⟨.fz, 3, cs1⟩), (.arg 2, ⟨.fz, 5, cs2⟩), (.tmp 1 0, ⟨.box, 0, [.sc (.int .i64 a0_0), .sc (.int .i64 a0_1), .ref (.arg 0) [] o0 l0_2.length, .ref (.arg 1) [] o1 l0_3.length, .ref (.arg 2) [] o2 l0_4.length, .sc (.int .i64 a0_5), .sc (.int .u64 a0_6), .sc (.int .u64 a0_7), .sc (.int .u64 a0_8), .sc (.int .i64 a0_9), .sc (.int .i64 a0_10), .sc (.int .i64 a0_11)]⟩), (.tmp 2 0, ⟨.box, 0, [.sc (.int .i64 0), .sc (.int .i64 0), .sc (.int .u64 0), .sc (.int .i64 0), .own 1 (([] : List Int).length) (encL c_i64 ([] : List Int)), .sc (.int .i64 0), .sc (.int .i64 0)]⟩), (.tmp 5 0, ⟨.box, 0, [.sc (.int .i64 j12)]⟩), (.tmp 6 0, ⟨.box, 0, [.sc (.string t21.1), .sc (fnv t21.2.1)]⟩)], [], []⟩) (fun J74 hJ74 => ?_) ?_
       ·replace h := h73; clear hn
        refine ga_k fun G75 G75n G75r G75x => ?_
        refine reg_k ?_
        simp +decide only [Nat.reduceAdd, Nat.reduceMul, Int.reduceToNat, ak]
        by_cases c76 : a0_9 = 1
        ·rw [if_pos c76] at h
         have e77 : decide (a0_9 = 1) = true := decide_eq_true c76
         simp +decide only [Nat.reduceAdd, Nat.reduceMul, Int.reduceToNat, ak, e77]
         by_cases c78 : a0_10 = 0
         ·rw [if_pos c78] at h
          have e79 : decide (a0_10 = 0) = true := decide_eq_true c78
          simp +decide only [Nat.reduceAdd, Nat.reduceMul, Int.reduceToNat, ak, e79]
          by_cases c80 : a0_6 = a0_7
          ·rw [if_pos c80] at h
           have e81 : decide (a0_6 = a0_7) = true := decide_eq_true c80
           simp +decide only [Nat.reduceAdd, Nat.reduceMul, Int.reduceToNat, ak, e81]
           obtain rfl := Option.some.inj h
           refine G75n _ _ (wk [1, 2, 5, 6, 8, 131] [pI (.arg 0) .fz, pI (.arg 1) .fz, pI (.arg 2) .fz, pI (.tmp 1 0) .box, pI (.tmp 2 0) .box, pI (.tmp 5 0) .box, pI (.tmp 6 0) .box] (h0 := by first | rfl | simp +decide only [ak, akF, e77, e79, e81]) (h := by first | rfl | (simp +decide only [ak, akF, e77, e79, e81]; done) | (simp +decide [ak, akF, e77, e79, e81] <;> omega))) (hJ74 _ rfl)
          ·rw [if_neg c80] at h
           have e82 : decide (a0_6 = a0_7) = false := decide_eq_false c80
           simp +decide only [Nat.reduceAdd, Nat.reduceMul, Int.reduceToNat, ak, e82]
           obtain rfl := Option.some.inj h
           refine G75n _ _ (wk [1, 2, 5, 6, 8, 131] [pI (.arg 0) .fz, pI (.arg 1) .fz, pI (.arg 2) .fz, pI (.tmp 1 0) .box, pI (.tmp 2 0) .box, pI (.tmp 5 0) .box, pI (.tmp 6 0) .box] (h0 := by first | rfl | simp +decide only [ak, akF, e77, e79, e82]) (h := by first | rfl | (simp +decide only [ak, akF, e77, e79, e82]; done) | (simp +decide [ak, akF, e77, e79, e82] <;> omega))) (hJ74 _ rfl)
         ·rw [if_neg c78] at h
          have e83 : decide (a0_10 = 0) = false := decide_eq_false c78
          simp +decide only [Nat.reduceAdd, Nat.reduceMul, Int.reduceToNat, ak, e83]
          obtain rfl := Option.some.inj h
          refine G75n _ _ (wk [1, 2, 5, 6, 8, 131] [pI (.arg 0) .fz, pI (.arg 1) .fz, pI (.arg 2) .fz, pI (.tmp 1 0) .box, pI (.tmp 2 0) .box, pI (.tmp 5 0) .box, pI (.tmp 6 0) .box] (h0 := by first | rfl | simp +decide only [ak, akF, e77, e83]) (h := by first | rfl | (simp +decide only [ak, akF, e77, e83]; done) | (simp +decide [ak, akF, e77, e83] <;> omega))) (hJ74 _ rfl)
        ·rw [if_neg c76] at h
         have e84 : decide (a0_9 = 1) = false := decide_eq_false c76
         simp +decide only [Nat.reduceAdd, Nat.reduceMul, Int.reduceToNat, ak, e84]
         obtain rfl := Option.some.inj h
         refine G75n _ _ (wk [1, 2, 5, 6, 8, 131] [pI (.arg 0) .fz, pI (.arg 1) .fz, pI (.arg 2) .fz, pI (.tmp 1 0) .box, pI (.tmp 2 0) .box, pI (.tmp 5 0) .box, pI (.tmp 6 0) .box] (h0 := by first | rfl | simp +decide only [ak, akF, e84]) (h := by first | rfl | (simp +decide only [ak, akF, e84]; done) | (simp +decide [ak, akF, e84] <;> omega))) (hJ74 _ rfl)
       ·replace h := hn; clear hn h73
        rintro _ rfl
        refine cond_k (b := j72) rfl (fun c85 => ?_) (fun c85 => ?_)
        ·rw [if_pos c85] at h
         refine sr_k fun J86 hJ86 => ?_
         simp +decide only [Nat.reduceAdd, Nat.reduceMul, Int.reduceToNat, ak]
         refine gho_k (Weak.nmg' 136 4 (.tmp 136 24) 1 (encL c_i64 ([] : List Int)) rfl rfl rfl rfl) ?_
         simp +decide only [Nat.reduceAdd, Nat.reduceMul, Int.reduceToNat, ak]
         obtain ⟨t87, h88, h⟩ := of_bind h
         refine callv_clo (f := 90) (fn := Try.f90) (caps := [.ptr (.tmp 6 0) [] 0, .ptr (.tmp 1 0) [] 0, .ptr (.tmp 5 0) [] 0]) [.tmp 6, .tmp 1, .tmp 5] rfl (by first | rfl | simp only [ak]) Try.func90 (by kernel_rfl) (by decide) ?_
         refine call_m [(.arg 0, ⟨(.tmp 136 24), [], none, .fz⟩), (.arg 1, ⟨(.tmp 6 0), [], none, .box⟩), (.arg 2, ⟨(.tmp 1 0), [], none, .box⟩), (.arg 3, ⟨(.arg 0), [], none, .fz⟩), (.arg 4, ⟨(.arg 1), [], none, .fz⟩), (.arg 5, ⟨(.arg 2), [], none, .fz⟩), (.arg 6, ⟨(.tmp 5 0), [], none, .box⟩)] (s0 := [(.arg 0, ⟨.fz, 1, encL c_i64 ([] : List Int)⟩), (.arg 1, ⟨.box, 0, [.sc (.string t21.1), .sc (fnv t21.2.1)]⟩), (.arg 2, ⟨.box, 0, [.sc (.int .i64 a0_0), .sc (.int .i64 a0_1), .ref (.arg 3) [] o0 l0_2.length, .ref (.arg 4) [] o1 l0_3.length, .ref (.arg 5) [] o2 l0_4.length, .sc (.int .i64 a0_5), .sc (.int .u64 a0_6), .sc (.int .u64 a0_7), .sc (.int .u64 a0_8), .sc (.int .i64 a0_9), .sc (.int .i64 a0_10), .sc (.int .i64 a0_11)]⟩), (.arg 3, ⟨.fz, 1, cs0⟩), (.arg 4, ⟨.fz, 3, cs1⟩), (.arg 5, ⟨.fz, 5, cs2⟩), (.arg 6, ⟨.box, 0, [.sc (.int .i64 j12)]⟩)]) (by intro t ht; cases ht; decide) rfl rfl (by first | rfl | simp only [reduceCtorEq, Nat.reduceEqDiff, ak, akF, g67, (show 0 = ([] : List Int).length by simp)]) (impl_PlanSend_1.tri (encL c_i64 ([] : List Int)) 0 ([] : List Int) (Vw.whole c_i64_w ([] : List Int)) (cs0) o0 l0_2 hv0 (cs1) o1 l0_3 hv1 (cs2) o2 l0_4 hv2 3 0 a0_7 0 0 0 0 t21.1 t21.2.1 a0_0 a0_1 a0_5 a0_6 a0_7 a0_8 a0_9 a0_10 a0_11 j12 _ h88) (by first | rfl | simp only [reduceCtorEq, Nat.reduceEqDiff, ak, akF, (show 0 = ([] : List Int).length by simp)]) (by simp [bkOk2, memK]) (fun hl88 => ?_)
         refine call_st (s4 := [(.arg 0, ⟨.fz, 1, cs0⟩), (.arg 1, ⟨.fz, 3, cs1⟩), (.arg 2, ⟨.fz, 5, cs2⟩), (.tmp 1 0, ⟨.box, 0, [.sc (.int .i64 a0_0), .sc (.int .i64 a0_1), .ref (.arg 0) [] o0 l0_2.length, .ref (.arg 1) [] o1 l0_3.length, .ref (.arg 2) [] o2 l0_4.length, .sc (.int .i64 a0_5), .sc (.int .u64 a0_6), .sc (.int .u64 a0_7), .sc (.int .u64 a0_8), .sc (.int .i64 a0_9), .sc (.int .i64 a0_10), .sc (.int .i64 a0_11)]⟩), (.tmp 2 0, ⟨.box, 0, [.sc (.int .i64 0), .sc (.int .i64 0), .sc (.int .u64 0), .sc (.int .i64 0), .own 1 (([] : List Int).length) (encL c_i64 ([] : List Int)), .sc (.int .i64 0), .sc (.int .i64 0)]⟩), (.tmp 5 0, ⟨.box, 0, [.sc (.int .i64 j12)]⟩), (.tmp 6 0, ⟨.box, 0, [.sc (.string t21.1), .sc (fnv t21.2.1)]⟩), (.tmp 136 24, ⟨.lst, 1, encL c_i64 ([] : List Int)⟩), (.tmp 137 0, ⟨.lst, 1, encL c_i64 t87.2.2.2.2.1⟩)]) (m1' := []) (m2' := []) (v' := .tup [(true, [.sc (.int .i64 t87.1), .sc (.int .i64 t87.2.1), .sc (.int .u64 t87.2.2.1), .sc (.int .i64 t87.2.2.2.1), .ref (.tmp 137 0) [] 0 t87.2.2.2.2.1.length, .sc (.int .i64 t87.2.2.2.2.2.1), .sc (.int .i64 t87.2.2.2.2.2.2.1)]), (false, [.sc (.bool t87.2.2.2.2.2.2.2)])]) (Sto.mapN_killNil _ _) (mrgL_fz (mrgL_whole (new' := [.sc (.string t21.1), .sc (fnv t21.2.1)]) (mrgL_whole (new' := [.sc (.int .i64 a0_0), .sc (.int .i64 a0_1), .ref (.arg 0) [] o0 l0_2.length, .ref (.arg 1) [] o1 l0_3.length, .ref (.arg 2) [] o2 l0_4.length, .sc (.int .i64 a0_5), .sc (.int .u64 a0_6), .sc (.int .u64 a0_7), .sc (.int .u64 a0_8), .sc (.int .i64 a0_9), .sc (.int .i64 a0_10), .sc (.int .i64 a0_11)]) (mrgL_fz (mrgL_fz (mrgL_fz (mrgL_whole (new' := [.sc (.int .i64 j12)]) (mrgL_nil' _ _ _) rfl (by rfl) (.inl ⟨rfl, by first | rfl | simp only [reduceCtorEq, Nat.reduceEqDiff, ak, akF, Nat.zero_add, List.append_nil]⟩)) rfl (by first | rfl | simp only [reduceCtorEq, Nat.reduceEqDiff, ak, g67]) rfl (by intro R hR hh; cases hR; cases hh.2)) rfl (by first | rfl | simp only [reduceCtorEq, Nat.reduceEqDiff, ak, g67]) rfl (by intro R hR hh; cases hR; cases hh.2)) rfl (by first | rfl | simp only [reduceCtorEq, Nat.reduceEqDiff, ak, g67]) rfl (by intro R hR hh; cases hR; cases hh.2)) rfl (by rfl) (.inl ⟨rfl, by first | rfl | simp only [reduceCtorEq, Nat.reduceEqDiff, ak, akF, Nat.zero_add, List.append_nil]⟩)) rfl (by rfl) (.inl ⟨rfl, by first | rfl | simp only [reduceCtorEq, Nat.reduceEqDiff, ak, akF, Nat.zero_add, List.append_nil]⟩)) rfl (by first | rfl | simp only [reduceCtorEq, Nat.reduceEqDiff, ak, g67]) rfl (by intro R hR hh; cases hR; cases hh.2)) (by rfl) (mapT_killNil _ _) (by rfl) (by rfl) (by first | rfl | simp only [reduceCtorEq, Nat.reduceEqDiff, ak, akF, Nat.zero_add, List.append_nil]) ?_
         simp +decide only [Nat.reduceAdd, Nat.reduceMul, Int.reduceToNat, ak]
         refine gho_k (Weak.own (.tmp 17 0) (cs' := [.sc (.int .i64 0), .sc (.int .i64 0), .sc (.int .u64 0), .sc (.int .i64 0), .own 1 (([] : List Int).length) (encL c_i64 ([] : List Int)), .sc (.int .i64 0), .sc (.int .i64 0)]) rfl ⟨.inl rfl, .inl rfl, .inl rfl, .inl rfl, .inr ⟨rfl, _, rfl⟩, .inl rfl, .inl rfl, trivial⟩) ?_
         have g90 : (encL c_i64 t87.2.2.2.2.1).length = t87.2.2.2.2.1.length * 1 := by simp [encL_length c_i64_w]
         simp +decide only [Nat.reduceAdd, Nat.reduceMul, Int.reduceToNat, ak, g90]
         refine hJ86 _ ?_
         refine sr_k fun J91 hJ91 => ?_
         simp +decide only [Nat.reduceAdd, Nat.reduceMul, Int.reduceToNat, ak]
         refine hJ91 _ ?_
         refine cond_k (b := t87.2.2.2.2.2.2.2) rfl (fun c92 => ?_) (fun c92 => ?_)
         ·rw [if_pos c92] at h
          refine sr_k fun J93 hJ93 => ?_
          simp +decide only [Nat.reduceAdd, Nat.reduceMul, Int.reduceToNat, ak]
          refine hJ93 _ ?_
          obtain rfl := Option.some.inj h
          refine hKr _ ⟨_, rfl, [⟨(.tmp 17 0), [4], none, .lst⟩], _, rfl, rfl, ?_⟩
          first | rfl | (simp only [reduceCtorEq, Nat.reduceEqDiff, ak, akF]; done) | (simp [reduceCtorEq, Nat.reduceEqDiff, ak, akF] <;> omega)
         ·rw [if_neg (Bool.eq_false_iff.1 c92)] at h
          refine hJ71 _ ?_
          refine sr_k fun J94 hJ94 => ?_
          simp +decide only [Nat.reduceAdd, Nat.reduceMul, Int.reduceToNat, ak]
          refine gho_k (Weak.nmg' 144 4 (.tmp 144 24) 1 (encL c_i64 ([] : List Int)) rfl rfl rfl rfl) ?_
          have g95 : (encL c_i64 ([] : List Int)).length = 0 * 1 := by simp [encL_length c_i64_w]
          simp +decide only [Nat.reduceAdd, Nat.reduceMul, Int.reduceToNat, ak, g95]
          refine hJ94 _ ?_
          obtain rfl := Option.some.inj h
          refine hKr _ ⟨_, rfl, [⟨(.tmp 2 0), [4], none, .lst⟩], _, rfl, rfl, ?_⟩
          first | rfl | (simp only [reduceCtorEq, Nat.reduceEqDiff, ak, akF]; done) | (simp [reduceCtorEq, Nat.reduceEqDiff, ak, akF] <;> omega)
        ·rw [if_neg (Bool.eq_false_iff.1 c85)] at h
         refine hJ71 _ ?_
         refine sr_k fun J96 hJ96 => ?_
         simp +decide only [Nat.reduceAdd, Nat.reduceMul, Int.reduceToNat, ak]
         refine gho_k (Weak.nmg' 144 4 (.tmp 144 24) 1 (encL c_i64 ([] : List Int)) rfl rfl rfl rfl) ?_
         have g97 : (encL c_i64 ([] : List Int)).length = 0 * 1 := by simp [encL_length c_i64_w]
         simp +decide only [Nat.reduceAdd, Nat.reduceMul, Int.reduceToNat, ak, g97]
         refine hJ96 _ ?_
         obtain rfl := Option.some.inj h
         refine hKr _ ⟨_, rfl, [⟨(.tmp 2 0), [4], none, .lst⟩], _, rfl, rfl, ?_⟩
         first | rfl | (simp only [reduceCtorEq, Nat.reduceEqDiff, ak, akF]; done) | (simp [reduceCtorEq, Nat.reduceEqDiff, ak, akF] <;> omega)
     ·rw [if_neg (Bool.eq_false_iff.1 c61)] at h
      refine hJ50 _ ?_
      refine seq_k fun J98 hJ98 => ?_
      obtain ⟨j99, h100, hn⟩ := of_bind h
      refine seq_j (fun st => st = ⟨[(1, .c (.ptr (.tmp 1 0) [] 0)), (2, .c (.ptr (.tmp 2 0) [] 0)), (5, .c (.ptr (.tmp 5 0) [] 0)), (6, .c (.ptr (.tmp 6 0) [] 0)), (8, .c (.fn 90 [.ptr (.tmp 6 0) [] 0, .ptr (.tmp 1 0) [] 0, .ptr (.tmp 5 0) [] 0])), (131, .c (.sc (.bool j99)))], [(.arg 0, ⟨.fz, 1, cs0⟩), (.arg 1, ⟨.fz, 3, cs1⟩), (.arg 2, ⟨.fz, 5, cs2⟩), (.tmp 1 0, ⟨.box, 0, [.sc (.int .i64 a0_0), .sc (.int .i64 a0_1), .ref (.arg 0) [] o0 l0_2.length, .ref (.arg 1) [] o1 l0_3.length, .ref (.arg 2) [] o2 l0_4.length, .sc (.int .i64 a0_5), .sc (.int .u64 a0_6), .sc (.int .u64 a0_7), .sc (.int .u64 a0_8), .sc (.int .i64 a0_9), .sc (.int .i64 a0_10), .sc (.int .i64 a0_11)]⟩), (.tmp 2 0, ⟨.box, 0, [.sc (.int .i64 0), .sc (.int .i64 0), .sc (.int .u64 0), .sc (.int .i64 0), .own 1 (([] : List Int).length) (encL c_i64 ([] : List Int)), .sc (.int .i64 0), .sc (.int .i64 0)]⟩), (.tmp 5 0, ⟨.box, 0, [.sc (.int .i64 j12)]⟩), (.tmp 6 0, ⟨.box, 0, [.sc (.string t21.1), .sc (fnv t21.2.1)]⟩)], [], []⟩) (fun J101 hJ101 => ?_) ?_
      ·replace h := h100; clear hn
       refine ga_k fun G102 G102n G102r G102x => ?_
       refine reg_k ?_
       simp +decide only [Nat.reduceAdd, Nat.reduceMul, Int.reduceToNat, ak]
       by_cases c103 : a0_9 = 1
       ·rw [if_pos c103] at h
        have e104 : decide (a0_9 = 1) = true := decide_eq_true c103
        simp +decide only [Nat.reduceAdd, Nat.reduceMul, Int.reduceToNat, ak, e104]
        by_cases c105 : a0_10 = 0
        ·rw [if_pos c105] at h
         have e106 : decide (a0_10 = 0) = true := decide_eq_true c105
         simp +decide only [Nat.reduceAdd, Nat.reduceMul, Int.reduceToNat, ak, e106]
         by_cases c107 : a0_6 = a0_7
         ·rw [if_pos c107] at h
          have e108 : decide (a0_6 = a0_7) = true := decide_eq_true c107
          simp +decide only [Nat.reduceAdd, Nat.reduceMul, Int.reduceToNat, ak, e108]
          obtain rfl := Option.some.inj h
          refine G102n _ _ (wk [1, 2, 5, 6, 8, 131] [pI (.arg 0) .fz, pI (.arg 1) .fz, pI (.arg 2) .fz, pI (.tmp 1 0) .box, pI (.tmp 2 0) .box, pI (.tmp 5 0) .box, pI (.tmp 6 0) .box] (h0 := by first | rfl | simp +decide only [ak, akF, e104, e106, e108]) (h := by first | rfl | (simp +decide only [ak, akF, e104, e106, e108]; done) | (simp +decide [ak, akF, e104, e106, e108] <;> omega))) (hJ101 _ rfl)
         ·rw [if_neg c107] at h
          have e109 : decide (a0_6 = a0_7) = false := decide_eq_false c107
          simp +decide only [Nat.reduceAdd, Nat.reduceMul, Int.reduceToNat, ak, e109]
          obtain rfl := Option.some.inj h
          refine G102n _ _ (wk [1, 2, 5, 6, 8, 131] [pI (.arg 0) .fz, pI (.arg 1) .fz, pI (.arg 2) .fz, pI (.tmp 1 0) .box, pI (.tmp 2 0) .box, pI (.tmp 5 0) .box, pI (.tmp 6 0) .box] (h0 := by first | rfl | simp +decide only [ak, akF, e104, e106, e109]) (h := by first | rfl | (simp +decide only [ak, akF, e104, e106, e109]; done) | (simp +decide [ak, akF, e104, e106, e109] <;> omega))) (hJ101 _ rfl)
        ·rw [if_neg c105] at h
         have e110 : decide (a0_10 = 0) = false := decide_eq_false c105
         simp +decide only [Nat.reduceAdd, Nat.reduceMul, Int.reduceToNat, ak, e110]
         obtain rfl := Option.some.inj h
         refine G102n _ _ (wk [1, 2, 5, 6, 8, 131] [pI (.arg 0) .fz, pI (.arg 1) .fz, pI (.arg 2) .fz, pI (.tmp 1 0) .box, pI (.tmp 2 0) .box, pI (.tmp 5 0) .box, pI (.tmp 6 0) .box] (h0 := by first | rfl | simp +decide only [ak, akF, e104, e110]) (h := by first | rfl | (simp +decide only [ak, akF, e104, e110]; done) | (simp +decide [ak, akF, e104, e110] <;> omega))) (hJ101 _ rfl)
       ·rw [if_neg c103] at h
        have e111 : decide (a0_9 = 1) = false := decide_eq_false c103
        simp +decide only [Nat.reduceAdd, Nat.reduceMul, Int.reduceToNat, ak, e111]
        obtain rfl := Option.some.inj h
        refine G102n _ _ (wk [1, 2, 5, 6, 8, 131] [pI (.arg 0) .fz, pI (.arg 1) .fz, pI (.arg 2) .fz, pI (.tmp 1 0) .box, pI (.tmp 2 0) .box, pI (.tmp 5 0) .box, pI (.tmp 6 0) .box] (h0 := by first | rfl | simp +decide only [ak, akF, e111]) (h := by first | rfl | (simp +decide only [ak, akF, e111]; done) | (simp +decide [ak, akF, e111] <;> omega))) (hJ101 _ rfl)
      ·replace h := hn; clear hn h100
       rintro _ rfl
       refine cond_k (b := j99) rfl (fun c112 => ?_) (fun c112 => ?_)
       ·rw [if_pos c112] at h
        refine sr_k fun J113 hJ113 => ?_
        simp +decide only [Nat.reduceAdd, Nat.reduceMul, Int.reduceToNat, ak]
        refine gho_k (Weak.nmg' 136 4 (.tmp 136 24) 1 (encL c_i64 ([] : List Int)) rfl rfl rfl rfl) ?_
        simp +decide only [Nat.reduceAdd, Nat.reduceMul, Int.reduceToNat, ak]
        obtain ⟨t114, h115, h⟩ := of_bind h
        refine callv_clo (f := 90) (fn := Try.f90) (caps := [.ptr (.tmp 6 0) [] 0, .ptr (.tmp 1 0) [] 0, .ptr (.tmp 5 0) [] 0]) [.tmp 6, .tmp 1, .tmp 5] rfl (by first | rfl | simp only [ak]) Try.func90 (by kernel_rfl) (by decide) ?_
        refine call_m [(.arg 0, ⟨(.tmp 136 24), [], none, .fz⟩), (.arg 1, ⟨(.tmp 6 0), [], none, .box⟩), (.arg 2, ⟨(.tmp 1 0), [], none, .box⟩), (.arg 3, ⟨(.arg 0), [], none, .fz⟩), (.arg 4, ⟨(.arg 1), [], none, .fz⟩), (.arg 5, ⟨(.arg 2), [], none, .fz⟩), (.arg 6, ⟨(.tmp 5 0), [], none, .box⟩)] (s0 := [(.arg 0, ⟨.fz, 1, encL c_i64 ([] : List Int)⟩), (.arg 1, ⟨.box, 0, [.sc (.string t21.1), .sc (fnv t21.2.1)]⟩), (.arg 2, ⟨.box, 0, [.sc (.int .i64 a0_0), .sc (.int .i64 a0_1), .ref (.arg 3) [] o0 l0_2.length, .ref (.arg 4) [] o1 l0_3.length, .ref (.arg 5) [] o2 l0_4.length, .sc (.int .i64 a0_5), .sc (.int .u64 a0_6), .sc (.int .u64 a0_7), .sc (.int .u64 a0_8), .sc (.int .i64 a0_9), .sc (.int .i64 a0_10), .sc (.int .i64 a0_11)]⟩), (.arg 3, ⟨.fz, 1, cs0⟩), (.arg 4, ⟨.fz, 3, cs1⟩), (.arg 5, ⟨.fz, 5, cs2⟩), (.arg 6, ⟨.box, 0, [.sc (.int .i64 j12)]⟩)]) (by intro t ht; cases ht; decide) rfl rfl (by first | rfl | simp only [reduceCtorEq, Nat.reduceEqDiff, ak, akF, (show 0 = ([] : List Int).length by simp)]) (impl_PlanSend_1.tri (encL c_i64 ([] : List Int)) 0 ([] : List Int) (Vw.whole c_i64_w ([] : List Int)) (cs0) o0 l0_2 hv0 (cs1) o1 l0_3 hv1 (cs2) o2 l0_4 hv2 3 0 a0_7 0 0 0 0 t21.1 t21.2.1 a0_0 a0_1 a0_5 a0_6 a0_7 a0_8 a0_9 a0_10 a0_11 j12 _ h115) (by first | rfl | simp only [reduceCtorEq, Nat.reduceEqDiff, ak, akF, (show 0 = ([] : List Int).length by simp)]) (by simp [bkOk2, memK]) (fun hl115 => ?_)
        refine call_st (s4 := [(.arg 0, ⟨.fz, 1, cs0⟩), (.arg 1, ⟨.fz, 3, cs1⟩), (.arg 2, ⟨.fz, 5, cs2⟩), (.tmp 1 0, ⟨.box, 0, [.sc (.int .i64 a0_0), .sc (.int .i64 a0_1), .ref (.arg 0) [] o0 l0_2.length, .ref (.arg 1) [] o1 l0_3.length, .ref (.arg 2) [] o2 l0_4.length, .sc (.int .i64 a0_5), .sc (.int .u64 a0_6), .sc (.int .u64 a0_7), .sc (.int .u64 a0_8), .sc (.int .i64 a0_9), .sc (.int .i64 a0_10), .sc (.int .i64 a0_11)]⟩), (.tmp 2 0, ⟨.box, 0, [.sc (.int .i64 0), .sc (.int .i64 0), .sc (.int .u64 0), .sc (.int .i64 0), .own 1 (([] : List Int).length) (encL c_i64 ([] : List Int)), .sc (.int .i64 0), .sc (.int .i64 0)]⟩), (.tmp 5 0, ⟨.box, 0, [.sc (.int .i64 j12)]⟩), (.tmp 6 0, ⟨.box, 0, [.sc (.string t21.1), .sc (fnv t21.2.1)]⟩), (.tmp 136 24, ⟨.lst, 1, encL c_i64 ([] : List Int)⟩), (.tmp 137 0, ⟨.lst, 1, encL c_i64 t114.2.2.2.2.1⟩)]) (m1' := []) (m2' := []) (v' := .tup [(true, [.sc (.int .i64 t114.1), .sc (.int .i64 t114.2.1), .sc (.int .u64 t114.2.2.1), .sc (.int .i64 t114.2.2.2.1), .ref (.tmp 137 0) [] 0 t114.2.2.2.2.1.length, .sc (.int .i64 t114.2.2.2.2.2.1), .sc (.int .i64 t114.2.2.2.2.2.2.1)]), (false, [.sc (.bool t114.2.2.2.2.2.2.2)])]) (Sto.mapN_killNil _ _) (mrgL_fz (mrgL_whole (new' := [.sc (.string t21.1), .sc (fnv t21.2.1)]) (mrgL_whole (new' := [.sc (.int .i64 a0_0), .sc (.int .i64 a0_1), .ref (.arg 0) [] o0 l0_2.length, .ref (.arg 1) [] o1 l0_3.length, .ref (.arg 2) [] o2 l0_4.length, .sc (.int .i64 a0_5), .sc (.int .u64 a0_6), .sc (.int .u64 a0_7), .sc (.int .u64 a0_8), .sc (.int .i64 a0_9), .sc (.int .i64 a0_10), .sc (.int .i64 a0_11)]) (mrgL_fz (mrgL_fz (mrgL_fz (mrgL_whole (new' := [.sc (.int .i64 j12)]) (mrgL_nil' _ _ _) rfl (by rfl) (.inl ⟨rfl, by first | rfl | simp only [reduceCtorEq, Nat.reduceEqDiff, ak, akF, Nat.zero_add, List.append_nil]⟩)) rfl (by first | rfl | simp only [reduceCtorEq, Nat.reduceEqDiff, ak]) rfl (by intro R hR hh; cases hR; cases hh.2)) rfl (by first | rfl | simp only [reduceCtorEq, Nat.reduceEqDiff, ak]) rfl (by intro R hR hh; cases hR; cases hh.2)) rfl (by first | rfl | simp only [reduceCtorEq, Nat.reduceEqDiff, ak]) rfl (by intro R hR hh; cases hR; cases hh.2)) rfl (by rfl) (.inl ⟨rfl, by first | rfl | simp only [reduceCtorEq, Nat.reduceEqDiff, ak, akF, Nat.zero_add, List.append_nil]⟩)) rfl (by rfl) (.inl ⟨rfl, by first | rfl | simp only [reduceCtorEq, Nat.reduceEqDiff, ak, akF, Nat.zero_add, List.append_nil]⟩)) rfl (by first | rfl | simp only [reduceCtorEq, Nat.reduceEqDiff, ak]) rfl (by intro R hR hh; cases hR; cases hh.2)) (by rfl) (mapT_killNil _ _) (by rfl) (by rfl) (by first | rfl | simp only [reduceCtorEq, Nat.reduceEqDiff, ak, akF, Nat.zero_add, List.append_nil]) ?_
        simp +decide only [Nat.reduceAdd, Nat.reduceMul, Int.reduceToNat, ak]
        refine gho_k (Weak.own (.tmp 17 0) (cs' := [.sc (.int .i64 0), .sc (.int .i64 0), .sc (.int .u64 0), .sc (.int .i64 0), .own 1 (([] : List Int).length) (encL c_i64 ([] : List Int)), .sc (.int .i64 0), .sc (.int .i64 0)]) rfl ⟨.inl rfl, .inl rfl, .inl rfl, .inl rfl, .inr ⟨rfl, _, rfl⟩, .inl rfl, .inl rfl, trivial⟩) ?_
        have g117 : (encL c_i64 t114.2.2.2.2.1).length = t114.2.2.2.2.1.length * 1 := by simp [encL_length c_i64_w]
        simp +decide only [Nat.reduceAdd, Nat.reduceMul, Int.reduceToNat, ak, g117]
        refine hJ113 _ ?_
        refine sr_k fun J118 hJ118 => ?_
        simp +decide only [Nat.reduceAdd, Nat.reduceMul, Int.reduceToNat, ak]
        refine hJ118 _ ?_
        refine cond_k (b := t114.2.2.2.2.2.2.2) rfl (fun c119 => ?_) (fun c119 => ?_)
        ·rw [if_pos c119] at h
         refine sr_k fun J120 hJ120 => ?_
         simp +decide only [Nat.reduceAdd, Nat.reduceMul, Int.reduceToNat, ak]
         refine hJ120 _ ?_
         obtain rfl := Option.some.inj h
         refine hKr _ ⟨_, rfl, [⟨(.tmp 17 0), [4], none, .lst⟩], _, rfl, rfl, ?_⟩
         first | rfl | (simp only [reduceCtorEq, Nat.reduceEqDiff, ak, akF]; done) | (simp [reduceCtorEq, Nat.reduceEqDiff, ak, akF] <;> omega)
        ·rw [if_neg (Bool.eq_false_iff.1 c119)] at h
         refine hJ98 _ ?_
         refine sr_k fun J121 hJ121 => ?_
         simp +decide only [Nat.reduceAdd, Nat.reduceMul, Int.reduceToNat, ak]
         refine gho_k (Weak.nmg' 144 4 (.tmp 144 24) 1 (encL c_i64 ([] : List Int)) rfl rfl rfl rfl) ?_
         have g122 : (encL c_i64 ([] : List Int)).length = 0 * 1 := by simp [encL_length c_i64_w]
         simp +decide only [Nat.reduceAdd, Nat.reduceMul, Int.reduceToNat, ak, g122]
         refine hJ121 _ ?_
         obtain rfl := Option.some.inj h
         refine hKr _ ⟨_, rfl, [⟨(.tmp 2 0), [4], none, .lst⟩], _, rfl, rfl, ?_⟩
         first | rfl | (simp only [reduceCtorEq, Nat.reduceEqDiff, ak, akF]; done) | (simp [reduceCtorEq, Nat.reduceEqDiff, ak, akF] <;> omega)
       ·rw [if_neg (Bool.eq_false_iff.1 c112)] at h
        refine hJ98 _ ?_
        refine sr_k fun J123 hJ123 => ?_
        simp +decide only [Nat.reduceAdd, Nat.reduceMul, Int.reduceToNat, ak]
        refine gho_k (Weak.nmg' 144 4 (.tmp 144 24) 1 (encL c_i64 ([] : List Int)) rfl rfl rfl rfl) ?_
        have g124 : (encL c_i64 ([] : List Int)).length = 0 * 1 := by simp [encL_length c_i64_w]
        simp +decide only [Nat.reduceAdd, Nat.reduceMul, Int.reduceToNat, ak, g124]
        refine hJ123 _ ?_
        obtain rfl := Option.some.inj h
        refine hKr _ ⟨_, rfl, [⟨(.tmp 2 0), [4], none, .lst⟩], _, rfl, rfl, ?_⟩
        first | rfl | (simp only [reduceCtorEq, Nat.reduceEqDiff, ak, akF]; done) | (simp [reduceCtorEq, Nat.reduceEqDiff, ak, akF] <;> omega)
   ·rintro x48 rfl
    dsimp only at h
    refine B27r _ ?_
    obtain rfl := Option.some.inj h
    refine hKr _ ⟨_, rfl, [⟨(.tmp 11 0), [4], none, .lst⟩], _, rfl, rfl, ?_⟩
    first | rfl | (simp only [reduceCtorEq, Nat.reduceEqDiff, ak, akF]; done) | (simp [reduceCtorEq, Nat.reduceEqDiff, ak, akF] <;> omega)
/-! ### laws.eqInt64S: function 40 -/
def C40_l0 : AC := .seq (.seq (.reg [.op none (.mv 11 (.tmp 5)), .op none (.mv 12 (.tmp 0)), .op none (.len 13 (.tmp 12)), .op none (.bin 14 .lss (.tmp 11) (.tmp 13)), .keep [0, 1, 5, 14]]) (.cond (.tmp 14) (.skip) (.gh (.exit 0)))) (.seq (.block 1 (.seq (.regD (.first (.op none (.mv 17 (.tmp 0))) (.first (.op none (.mv 18 (.tmp 5))) (.first (.op none (.iaddr 19 1 (.tmp 17) (.tmp 18))) (.first (.op none (.load 20 false 1 (.tmp 19))) (.first (.op none (.mv 21 (.tmp 1))) (.first (.op none (.mv 22 (.tmp 5))) (.first (.op none (.iaddr 23 1 (.tmp 21) (.tmp 22))) (.first (.op none (.load 24 false 1 (.tmp 23))) (.first (.op none (.bin 25 .neq (.tmp 20) (.tmp 24))) (.done)))))))))) [0, 1, 5, 25]) (.cond (.tmp 25) (.seq (.reg [.op none (.mv 4 (.const (.bool false))), .keep [4]]) (.gh .ret)) (.skip)))) (.reg [.op none (.mv 15 (.tmp 5)), .op none (.bin 16 .add (.tmp 15) (.const (.int .i64 1))), .op none (.mv 5 (.tmp 16)), .keep [0, 1, 5]]))
def C40 : AC := .seq (.reg [.op none (.mv 4 (.const (.bool false))), .keep [0, 1]]) (.seq (.seq (.reg [.op none (.mv 6 (.tmp 0)), .op none (.len 7 (.tmp 6)), .op none (.mv 8 (.tmp 1)), .op none (.len 9 (.tmp 8)), .op none (.bin 10 .neq (.tmp 7) (.tmp 9)), .keep [0, 1, 10]]) (.cond (.tmp 10) (.seq (.reg [.op none (.mv 4 (.const (.bool false))), .keep [4]]) (.ret)) (.skip))) (.seq (.seq (.reg [.op none (.mv 5 (.const (.int .i64 0))), .keep [0, 1, 5]]) (.block 0 (.gh (.loop (.ga C40_l0))))) (.seq (.reg [.op none (.mv 4 (.const (.bool true))), .keep [4]]) (.ret))))
def r40 : List RV := [.tmp 4]
theorem k40 : compC Try.prog 26 C40 (Try.f40.body.getD .skip) = some C40.erase := by kernel_rfl
theorem q40 : rvsOf Try.prog Try.f40.results.toList = some r40 := by kernel_rfl
def laws_eqInt64S.l0 (l0 : List Int) (l1 : List Int) (x0_0 : Int) : Option (Lp Unit Bool) := (if x0_0 < (l0.length : Int) then (if 0 ≤ x0_0 ∧ x0_0 < (l0.length : Int) then (if 0 ≤ x0_0 ∧ x0_0 < (l1.length : Int) then (if (rd 0 l0 x0_0) ≠ (rd 0 l1 x0_0) then (some (.b false)) else (laws_eqInt64S.l0 l0 l1 (IntKind.i64.wrap (x0_0 + 1)))) else none) else none) else (some (.a ())))
 partial_fixpoint
def laws_eqInt64S.f (l0 : List Int) (l1 : List Int) : Option Bool := (if (l0.length : Int) ≠ (l1.length : Int) then (some false) else (laws_eqInt64S.l0 l0 l1 0 >>= fun (y21 : Lp Unit Bool) => match y21 with | .a x23 => (some true) | .b x23 => (some x23)))
def laws_eqInt64S.l0_M (cs0 : List Cell) (o0 : Nat) (l0 : List Int) (hv0 : Vw c_i64 1 cs0 o0 l0) (cs1 : List Cell) (o1 : Nat) (l1 : List Int) (hv1 : Vw c_i64 1 cs1 o1 l1) (x0_0 : Int) (y : Lp Unit Bool) : Prop := ∀ (K : AE → St → Prop), (∀ x, y = .a x → K (.exit 0) ⟨[], [(.arg 0, ⟨.fz, 1, cs0⟩), (.arg 1, ⟨.fz, 1, cs1⟩)], [], []⟩) → (∀ x, y = .b x → K .ret ⟨[(4, .c (.sc (.bool x)))], [(.arg 0, ⟨.fz, 1, cs0⟩), (.arg 1, ⟨.fz, 1, cs1⟩)], [], []⟩) → loopS Try.prog 26 (.ga C40_l0) K ⟨[(0, .c (.ref (.arg 0) [] o0 l0.length)), (1, .c (.ref (.arg 1) [] o1 l1.length)), (5, .c (.sc (.int .i64 x0_0)))], [(.arg 0, ⟨.fz, 1, cs0⟩), (.arg 1, ⟨.fz, 1, cs1⟩)], [], []⟩
theorem laws_eqInt64S.l0_walk (cs0 : List Cell) (o0 : Nat) (l0 : List Int) (hv0 : Vw c_i64 1 cs0 o0 l0) (cs1 : List Cell) (o1 : Nat) (l1 : List Int) (hv1 : Vw c_i64 1 cs1 o1 l1) (x0_0 : Int) (y : Lp Unit Bool) (h : laws_eqInt64S.l0 l0 l1 x0_0 = some y) : laws_eqInt64S.l0_M cs0 o0 l0 hv0 cs1 o1 l1 hv1 x0_0 y := by
 refine laws_eqInt64S.l0.partial_correctness l0 l1 (motive := fun x0_0 y => laws_eqInt64S.l0_M cs0 o0 l0 hv0 cs1 o1 l1 hv1 x0_0 y) ?_ x0_0 y h
 clear h
 unfold laws_eqInt64S.l0_M
 intro rec ih x0_0 y h K hx0 hx1
 refine loop_unroll (ga_k fun G0 G0n G0r G0x => ?_)
 unfold C40_l0
 refine seq_k fun J9 hJ9 => ?_
 refine sr_k fun J10 hJ10 => ?_
 simp +decide only [Nat.reduceAdd, Nat.reduceMul, Int.reduceToNat, ak]
 refine hJ10 _ ?_
 refine cond_k (b := decide (x0_0 < (l0.length : Int))) rfl (fun c11 => ?_) (fun c11 => ?_)
 ·replace c11 := of_decide_eq_true c11; rw [if_pos c11] at h
  refine hJ9 _ ?_
  refine seq_k fun J12 hJ12 => ?_
  refine block_k fun B13 B13n B13x B13r B13j => ?_
  refine sd_k fun J14 hJ14 => ?_
  obtain ⟨b15, h⟩ := of_guard h
  have g16 : (cs0)[o0 + x0_0.toNat * 1]? = some (.sc (.int .i64 (rd 0 l0 x0_0))) := hv0.get 0 0 b15.1 b15.2 (by decide)
  obtain ⟨b17, h⟩ := of_guard h
  have g18 : (cs1)[o1 + x0_0.toNat * 1]? = some (.sc (.int .i64 (rd 0 l1 x0_0))) := hv1.get 0 0 b17.1 b17.2 (by decide)
  simp +decide only [Nat.reduceAdd, Nat.reduceMul, Int.reduceToNat, ak, b15, g16, b17, g18]
  refine hJ14 _ ?_
  refine cond_k (b := decide ((rd 0 l0 x0_0) ≠ (rd 0 l1 x0_0))) rfl (fun c19 => ?_) (fun c19 => ?_)
  ·replace c19 := of_decide_eq_true c19; rw [if_pos c19] at h
   refine sr_k fun J20 hJ20 => ?_
   simp +decide only [Nat.reduceAdd, Nat.reduceMul, Int.reduceToNat, ak]
   refine hJ20 _ ?_
   obtain rfl := Option.some.inj h
   refine gh_k (wk [4] [pI (.arg 0) .fz, pI (.arg 1) .fz]) ?_
   refine B13r _ ?_
   refine G0r _ ?_
   exact hx1 _ rfl
  ·replace c19 := of_decide_eq_false c19; rw [if_neg c19] at h
   refine B13n _ ?_
   refine hJ12 _ ?_
   refine reg_k ?_
   simp +decide only [Nat.reduceAdd, Nat.reduceMul, Int.reduceToNat, ak]
   refine G0n _ _ (wk [0, 1, 5] [pI (.arg 0) .fz, pI (.arg 1) .fz]) (ih _ _ h K hx0 hx1)
 ·replace c11 := of_decide_eq_false c11; rw [if_neg c11] at h
  obtain rfl := Option.some.inj h
  refine gh_k (wk [] [pI (.arg 0) .fz, pI (.arg 1) .fz]) ?_
  refine G0x _ _ ?_
  exact hx0 _ rfl
theorem laws_eqInt64S.tri (cs0 : List Cell) (o0 : Nat) (l0 : List Int) (hv0 : Vw c_i64 1 cs0 o0 l0) (cs1 : List Cell) (o1 : Nat) (l1 : List Int) (hv1 : Vw c_i64 1 cs1 o1 l1) (r : Bool) (h : laws_eqInt64S.f l0 l1 = some r) : Tri Try.prog 40 [.c (.ref (.arg 0) [] o0 l0.length), .c (.ref (.arg 1) [] o1 l1.length)] [(.arg 0, ⟨.fz, 1, cs0⟩), (.arg 1, ⟨.fz, 1, cs1⟩)] (fun o => o = ⟨.c (.sc (.bool r)), [(.arg 0, ⟨.fz, 1, cs0⟩), (.arg 1, ⟨.fz, 1, cs1⟩)], [], []⟩) := by
 refine tri_of_body (ac := C40) (xs := r40) Try.func40 (show Try.f40.body = some (Try.f40.body.getD .skip) from rfl) k40 q40 (Nat.le_of_ble_eq_true rfl) ?_
 refine body_of fun K hKn hKr => ?_
 unfold laws_eqInt64S.f at h
 unfold C40
 simp only [initT, Nat.reduceAdd]
 refine sr_k fun J1 hJ1 => ?_
 simp +decide only [Nat.reduceAdd, Nat.reduceMul, Int.reduceToNat, ak]
 refine hJ1 _ ?_
 refine seq_k fun J2 hJ2 => ?_
 refine sr_k fun J3 hJ3 => ?_
 simp +decide only [Nat.reduceAdd, Nat.reduceMul, Int.reduceToNat, ak]
 refine hJ3 _ ?_
 refine cond_k (b := decide ((l0.length : Int) ≠ (l1.length : Int))) rfl (fun c4 => ?_) (fun c4 => ?_)
 ·replace c4 := of_decide_eq_true c4; rw [if_pos c4] at h
  refine sr_k fun J5 hJ5 => ?_
  simp +decide only [Nat.reduceAdd, Nat.reduceMul, Int.reduceToNat, ak]
  refine hJ5 _ ?_
  obtain rfl := Option.some.inj h
  refine hKr _ ⟨_, rfl, [], _, rfl, rfl, ?_⟩
  first | rfl | (simp only [reduceCtorEq, Nat.reduceEqDiff, ak, akF]; done) | (simp [reduceCtorEq, Nat.reduceEqDiff, ak, akF] <;> omega)
 ·replace c4 := of_decide_eq_false c4; rw [if_neg c4] at h
  refine hJ2 _ ?_
  refine seq_k fun J6 hJ6 => ?_
  refine sr_k fun J7 hJ7 => ?_
  simp +decide only [Nat.reduceAdd, Nat.reduceMul, Int.reduceToNat, ak]
  refine hJ7 _ ?_
  refine block_k fun B8 B8n B8x B8r B8j => ?_
  obtain ⟨y21, h22, h⟩ := of_bind h
  refine gh_k (wk [0, 1, 5] [pI (.arg 0) .fz, pI (.arg 1) .fz]) ?_
  rw [e_loop]
  refine laws_eqInt64S.l0_walk cs0 o0 l0 hv0 cs1 o1 l1 hv1 0 _ h22 _ ?_ ?_
  ·rintro x23 rfl
   dsimp only at h
   refine B8x _ ?_
   refine hJ6 _ ?_
   refine sr_k fun J24 hJ24 => ?_
   simp +decide only [Nat.reduceAdd, Nat.reduceMul, Int.reduceToNat, ak]
   refine hJ24 _ ?_
   obtain rfl := Option.some.inj h
   refine hKr _ ⟨_, rfl, [], _, rfl, rfl, ?_⟩
   first | rfl | (simp only [reduceCtorEq, Nat.reduceEqDiff, ak, akF]; done) | (simp [reduceCtorEq, Nat.reduceEqDiff, ak, akF] <;> omega)
  ·rintro x23 rfl
   dsimp only at h
   refine B8r _ ?_
   obtain rfl := Option.some.inj h
   refine hKr _ ⟨_, rfl, [], _, rfl, rfl, ?_⟩
   first | rfl | (simp only [reduceCtorEq, Nat.reduceEqDiff, ak, akF]; done) | (simp [reduceCtorEq, Nat.reduceEqDiff, ak, akF] <;> omega)
/-! ### laws.eqPlan: function 49 -/
def C49 : AC := .seq (.reg [.op none (.box 2 (.tmp 0)), .op none (.box 3 (.tmp 1)), .op none (.mv 4 (.const (.bool false))), .keep [2, 3]]) (.seq (.seq (.reg [.op none (.faddr 5 0 (.tmp 2)), .op none (.load 6 false 1 (.tmp 5)), .op none (.faddr 7 0 (.tmp 3)), .op none (.load 8 false 1 (.tmp 7)), .op none (.bin 9 .neq (.tmp 6) (.tmp 8)), .keep [2, 3, 9]]) (.cond (.tmp 9) (.seq (.reg [.op none (.mv 4 (.const (.bool false))), .keep [4]]) (.ret)) (.skip))) (.seq (.seq (.reg [.op none (.faddr 10 1 (.tmp 2)), .op none (.load 11 false 1 (.tmp 10)), .op none (.faddr 12 1 (.tmp 3)), .op none (.load 13 false 1 (.tmp 12)), .op none (.bin 14 .neq (.tmp 11) (.tmp 13)), .keep [2, 3, 14]]) (.cond (.tmp 14) (.seq (.reg [.op none (.mv 4 (.const (.bool false))), .keep [4]]) (.ret)) (.skip))) (.seq (.seq (.reg [.op none (.faddr 15 2 (.tmp 2)), .op none (.load 16 false 1 (.tmp 15)), .op none (.faddr 17 2 (.tmp 3)), .op none (.load 18 false 1 (.tmp 17)), .op none (.bin 19 .neq (.tmp 16) (.tmp 18)), .keep [2, 3, 19]]) (.cond (.tmp 19) (.seq (.reg [.op none (.mv 4 (.const (.bool false))), .keep [4]]) (.ret)) (.skip))) (.seq (.seq (.reg [.op none (.faddr 20 3 (.tmp 2)), .op none (.load 21 false 1 (.tmp 20)), .op none (.faddr 22 3 (.tmp 3)), .op none (.load 23 false 1 (.tmp 22)), .op none (.bin 24 .neq (.tmp 21) (.tmp 23)), .keep [2, 3, 24]]) (.cond (.tmp 24) (.seq (.reg [.op none (.mv 4 (.const (.bool false))), .keep [4]]) (.ret)) (.skip))) (.seq (.seq (.reg [.op none (.faddr 25 4 (.tmp 2)), .op none (.load 26 false 1 (.tmp 25)), .op none (.faddr 27 4 (.tmp 3)), .op none (.load 28 false 1 (.tmp 27)), .call none (some 29) 40 [.tmp 26, .tmp 28], .op none (.un 30 .not (.tmp 29)), .keep [2, 3, 30]]) (.cond (.tmp 30) (.seq (.reg [.op none (.mv 4 (.const (.bool false))), .keep [4]]) (.ret)) (.skip))) (.seq (.seq (.reg [.op none (.faddr 31 5 (.tmp 2)), .op none (.load 32 false 1 (.tmp 31)), .op none (.faddr 33 5 (.tmp 3)), .op none (.load 34 false 1 (.tmp 33)), .op none (.bin 35 .neq (.tmp 32) (.tmp 34)), .keep [2, 3, 35]]) (.cond (.tmp 35) (.seq (.reg [.op none (.mv 4 (.const (.bool false))), .keep [4]]) (.ret)) (.skip))) (.seq (.seq (.reg [.op none (.faddr 36 6 (.tmp 2)), .op none (.load 37 false 1 (.tmp 36)), .op none (.faddr 38 6 (.tmp 3)), .op none (.load 39 false 1 (.tmp 38)), .op none (.bin 40 .neq (.tmp 37) (.tmp 39)), .keep [40]]) (.cond (.tmp 40) (.seq (.reg [.op none (.mv 4 (.const (.bool false))), .keep [4]]) (.ret)) (.skip))) (.seq (.reg [.op none (.mv 4 (.const (.bool true))), .keep [4]]) (.ret)))))))))
def r49 : List RV := [.tmp 4]
theorem k49 : compC Try.prog 41 C49 (Try.f49.body.getD .skip) = some C49.erase := by kernel_rfl
theorem q49 : rvsOf Try.prog Try.f49.results.toList = some r49 := by kernel_rfl
def laws_eqPlan.f (a0_0 : Int) (a0_1 : Int) (a0_2 : Int) (a0_3 : Int) (l0_4 : List Int) (a0_5 : Int) (a0_6 : Int) (a1_0 : Int) (a1_1 : Int) (a1_2 : Int) (a1_3 : Int) (l1_4 : List Int) (a1_5 : Int) (a1_6 : Int) : Option Bool := (if a0_0 ≠ a1_0 then (some false) else (if a0_1 ≠ a1_1 then (some false) else (if a0_2 ≠ a1_2 then (some false) else (if a0_3 ≠ a1_3 then (some false) else (laws_eqInt64S.f l0_4 l1_4 >>= fun t20 => (if (!t20) = true then (some false) else (if a0_5 ≠ a1_5 then (some false) else (if a0_6 ≠ a1_6 then (some false) else (some true)))))))))
theorem laws_eqPlan.tri (cs0 : List Cell) (o0 : Nat) (l0_4 : List Int) (hv0 : Vw c_i64 1 cs0 o0 l0_4) (cs1 : List Cell) (o1 : Nat) (l1_4 : List Int) (hv1 : Vw c_i64 1 cs1 o1 l1_4) (a0_0 : Int) (a0_1 : Int) (a0_2 : Int) (a0_3 : Int) (a0_5 : Int) (a0_6 : Int) (a1_0 : Int) (a1_1 : Int) (a1_2 : Int) (a1_3 : Int) (a1_5 : Int) (a1_6 : Int) (r : Bool) (h : laws_eqPlan.f a0_0 a0_1 a0_2 a0_3 l0_4 a0_5 a0_6 a1_0 a1_1 a1_2 a1_3 l1_4 a1_5 a1_6 = some r) : Tri Try.prog 49 [.g [.sc (.int .i64 a0_0), .sc (.int .i64 a0_1), .sc (.int .u64 a0_2), .sc (.int .i64 a0_3), .ref (.arg 0) [] o0 l0_4.length, .sc (.int .i64 a0_5), .sc (.int .i64 a0_6)], .g [.sc (.int .i64 a1_0), .sc (.int .i64 a1_1), .sc (.int .u64 a1_2), .sc (.int .i64 a1_3), .ref (.arg 1) [] o1 l1_4.length, .sc (.int .i64 a1_5), .sc (.int .i64 a1_6)]] [(.arg 0, ⟨.fz, 1, cs0⟩), (.arg 1, ⟨.fz, 1, cs1⟩)] (fun o => o = ⟨.c (.sc (.bool r)), [(.arg 0, ⟨.fz, 1, cs0⟩), (.arg 1, ⟨.fz, 1, cs1⟩)], [], []⟩) := by
 refine tri_of_body (ac := C49) (xs := r49) Try.func49 (show Try.f49.body = some (Try.f49.body.getD .skip) from rfl) k49 q49 (Nat.le_of_ble_eq_true rfl) ?_
 refine body_of fun K hKn hKr => ?_
 unfold laws_eqPlan.f at h
 unfold C49
 simp only [initT, Nat.reduceAdd]
 refine sr_k fun J1 hJ1 => ?_
 simp +decide only [Nat.reduceAdd, Nat.reduceMul, Int.reduceToNat, ak]
 refine hJ1 _ ?_
 refine seq_k fun J2 hJ2 => ?_
 refine sr_k fun J3 hJ3 => ?_
 simp +decide only [Nat.reduceAdd, Nat.reduceMul, Int.reduceToNat, ak]
 refine hJ3 _ ?_
 refine cond_k (b := decide (a0_0 ≠ a1_0)) rfl (fun c4 => ?_) (fun c4 => ?_)
 ·replace c4 := of_decide_eq_true c4; rw [if_pos c4] at h
  refine sr_k fun J5 hJ5 => ?_
  simp +decide only [Nat.reduceAdd, Nat.reduceMul, Int.reduceToNat, ak]
  refine hJ5 _ ?_
  obtain rfl := Option.some.inj h
  refine hKr _ ⟨_, rfl, [], _, rfl, rfl, ?_⟩
  first | rfl | (simp only [reduceCtorEq, Nat.reduceEqDiff, ak, akF]; done) | (simp [reduceCtorEq, Nat.reduceEqDiff, ak, akF] <;> omega)
 ·replace c4 := of_decide_eq_false c4; rw [if_neg c4] at h
  refine hJ2 _ ?_
  refine seq_k fun J6 hJ6 => ?_
  refine sr_k fun J7 hJ7 => ?_
  simp +decide only [Nat.reduceAdd, Nat.reduceMul, Int.reduceToNat, ak]
  refine hJ7 _ ?_
  refine cond_k (b := decide (a0_1 ≠ a1_1)) rfl (fun c8 => ?_) (fun c8 => ?_)
  ·replace c8 := of_decide_eq_true c8; rw [if_pos c8] at h
   refine sr_k fun J9 hJ9 => ?_
   simp +decide only [Nat.reduceAdd, Nat.reduceMul, Int.reduceToNat, ak]
   refine hJ9 _ ?_
   obtain rfl := Option.some.inj h
   refine hKr _ ⟨_, rfl, [], _, rfl, rfl, ?_⟩
   first | rfl | (simp only [reduceCtorEq, Nat.reduceEqDiff, ak, akF]; done) | (simp [reduceCtorEq, Nat.reduceEqDiff, ak, akF] <;> omega)
  ·replace c8 := of_decide_eq_false c8; rw [if_neg c8] at h
   refine hJ6 _ ?_
   refine seq_k fun J10 hJ10 => ?_
   refine sr_k fun J11 hJ11 => ?_
   simp +decide only [Nat.reduceAdd, Nat.reduceMul, Int.reduceToNat, ak]
   refine hJ11 _ ?_
   refine cond_k (b := decide (a0_2 ≠ a1_2)) rfl (fun c12 => ?_) (fun c12 => ?_)
   ·replace c12 := of_decide_eq_true c12; rw [if_pos c12] at h
    refine sr_k fun J13 hJ13 => ?_
    simp +decide only [Nat.reduceAdd, Nat.reduceMul, Int.reduceToNat, ak]
    refine hJ13 _ ?_
    obtain rfl := Option.some.inj h
    refine hKr _ ⟨_, rfl, [], _, rfl, rfl, ?_⟩
    first | rfl | (simp only [reduceCtorEq, Nat.reduceEqDiff, ak, akF]; done) | (simp [reduceCtorEq, Nat.reduceEqDiff, ak, akF] <;> omega)
   ·replace c12 := of_decide_eq_false c12; rw [if_neg c12] at h
    refine hJ10 _ ?_
    refine seq_k fun J14 hJ14 => ?_
    refine sr_k fun J15 hJ15 => ?_
    simp +decide only [Nat.reduceAdd, Nat.reduceMul, Int.reduceToNat, ak]
    refine hJ15 _ ?_
    refine cond_k (b := decide (a0_3 ≠ a1_3)) rfl (fun c16 => ?_) (fun c16 => ?_)
    ·replace c16 := of_decide_eq_true c16; rw [if_pos c16] at h
     refine sr_k fun J17 hJ17 => ?_
     simp +decide only [Nat.reduceAdd, Nat.reduceMul, Int.reduceToNat, ak]
     refine hJ17 _ ?_
     obtain rfl := Option.some.inj h
     refine hKr _ ⟨_, rfl, [], _, rfl, rfl, ?_⟩
     first | rfl | (simp only [reduceCtorEq, Nat.reduceEqDiff, ak, akF]; done) | (simp [reduceCtorEq, Nat.reduceEqDiff, ak, akF] <;> omega)
    ·replace c16 := of_decide_eq_false c16; rw [if_neg c16] at h
     refine hJ14 _ ?_
     refine seq_k fun J18 hJ18 => ?_
     refine sr_k fun J19 hJ19 => ?_
     simp +decide only [Nat.reduceAdd, Nat.reduceMul, Int.reduceToNat, ak]
     obtain ⟨t20, h21, h⟩ := of_bind h
     refine call_m [(.arg 0, ⟨(.arg 0), [], none, .fz⟩), (.arg 1, ⟨(.arg 1), [], none, .fz⟩)] (s0 := [(.arg 0, ⟨.fz, 1, cs0⟩), (.arg 1, ⟨.fz, 1, cs1⟩)]) (by intro t ht; cases ht; decide) rfl rfl (by first | rfl | simp only [reduceCtorEq, Nat.reduceEqDiff, ak, akF]) (laws_eqInt64S.tri (cs0) o0 l0_4 hv0 (cs1) o1 l1_4 hv1 _ h21) (by first | rfl | simp only [reduceCtorEq, Nat.reduceEqDiff, ak, akF]) (by simp [bkOk2, memK]) (fun hl21 => ?_)
     refine call_st (s4 := [(.arg 0, ⟨.fz, 1, cs0⟩), (.arg 1, ⟨.fz, 1, cs1⟩), (.tmp 2 0, ⟨.box, 0, [.sc (.int .i64 a0_0), .sc (.int .i64 a0_1), .sc (.int .u64 a0_2), .sc (.int .i64 a0_3), .ref (.arg 0) [] o0 l0_4.length, .sc (.int .i64 a0_5), .sc (.int .i64 a0_6)]⟩), (.tmp 3 0, ⟨.box, 0, [.sc (.int .i64 a1_0), .sc (.int .i64 a1_1), .sc (.int .u64 a1_2), .sc (.int .i64 a1_3), .ref (.arg 1) [] o1 l1_4.length, .sc (.int .i64 a1_5), .sc (.int .i64 a1_6)]⟩)]) (m1' := []) (m2' := []) (v' := .c (.sc (.bool t20))) (Sto.mapN_killNil _ _) (mrgL_fz (mrgL_fz (mrgL_nil' _ _ _) rfl (by first | rfl | simp only [reduceCtorEq, Nat.reduceEqDiff, ak]) rfl (by intro R hR hh; cases hR; cases hh.2)) rfl (by first | rfl | simp only [reduceCtorEq, Nat.reduceEqDiff, ak]) rfl (by intro R hR hh; cases hR; cases hh.2)) (by rfl) (mapT_killNil _ _) (by rfl) (by rfl) (by first | rfl | simp only [reduceCtorEq, Nat.reduceEqDiff, ak, akF, Nat.zero_add, List.append_nil]) ?_
     simp +decide only [Nat.reduceAdd, Nat.reduceMul, Int.reduceToNat, ak]
     refine hJ19 _ ?_
     refine cond_k (b := !t20) rfl (fun c23 => ?_) (fun c23 => ?_)
     ·rw [if_pos c23] at h
      refine sr_k fun J24 hJ24 => ?_
      simp +decide only [Nat.reduceAdd, Nat.reduceMul, Int.reduceToNat, ak]
      refine hJ24 _ ?_
      obtain rfl := Option.some.inj h
      refine hKr _ ⟨_, rfl, [], _, rfl, rfl, ?_⟩
      first | rfl | (simp only [reduceCtorEq, Nat.reduceEqDiff, ak, akF]; done) | (simp [reduceCtorEq, Nat.reduceEqDiff, ak, akF] <;> omega)
     ·rw [if_neg (Bool.eq_false_iff.1 c23)] at h
      refine hJ18 _ ?_
      refine seq_k fun J25 hJ25 => ?_
      refine sr_k fun J26 hJ26 => ?_
      simp +decide only [Nat.reduceAdd, Nat.reduceMul, Int.reduceToNat, ak]
      refine hJ26 _ ?_
      refine cond_k (b := decide (a0_5 ≠ a1_5)) rfl (fun c27 => ?_) (fun c27 => ?_)
      ·replace c27 := of_decide_eq_true c27; rw [if_pos c27] at h
       refine sr_k fun J28 hJ28 => ?_
       simp +decide only [Nat.reduceAdd, Nat.reduceMul, Int.reduceToNat, ak]
       refine hJ28 _ ?_
       obtain rfl := Option.some.inj h
       refine hKr _ ⟨_, rfl, [], _, rfl, rfl, ?_⟩
       first | rfl | (simp only [reduceCtorEq, Nat.reduceEqDiff, ak, akF]; done) | (simp [reduceCtorEq, Nat.reduceEqDiff, ak, akF] <;> omega)
      ·replace c27 := of_decide_eq_false c27; rw [if_neg c27] at h
       refine hJ25 _ ?_
       refine seq_k fun J29 hJ29 => ?_
       refine sr_k fun J30 hJ30 => ?_
       simp +decide only [Nat.reduceAdd, Nat.reduceMul, Int.reduceToNat, ak]
       refine hJ30 _ ?_
       refine cond_k (b := decide (a0_6 ≠ a1_6)) rfl (fun c31 => ?_) (fun c31 => ?_)
       ·replace c31 := of_decide_eq_true c31; rw [if_pos c31] at h
        refine sr_k fun J32 hJ32 => ?_
        simp +decide only [Nat.reduceAdd, Nat.reduceMul, Int.reduceToNat, ak]
        refine hJ32 _ ?_
        obtain rfl := Option.some.inj h
        refine hKr _ ⟨_, rfl, [], _, rfl, rfl, ?_⟩
        first | rfl | (simp only [reduceCtorEq, Nat.reduceEqDiff, ak, akF]; done) | (simp [reduceCtorEq, Nat.reduceEqDiff, ak, akF] <;> omega)
       ·replace c31 := of_decide_eq_false c31; rw [if_neg c31] at h
        refine hJ29 _ ?_
        refine sr_k fun J33 hJ33 => ?_
        simp +decide only [Nat.reduceAdd, Nat.reduceMul, Int.reduceToNat, ak]
        refine hJ33 _ ?_
        obtain rfl := Option.some.inj h
        refine hKr _ ⟨_, rfl, [], _, rfl, rfl, ?_⟩
        first | rfl | (simp only [reduceCtorEq, Nat.reduceEqDiff, ak, akF]; done) | (simp [reduceCtorEq, Nat.reduceEqDiff, ak, akF] <;> omega)
/-! ### laws.eqPathView: function 84 -/
def C84 : AC := .seq (.reg [.op none (.box 2 (.tmp 0)), .op none (.box 3 (.tmp 1)), .op none (.mv 4 (.const (.bool false))), .keep [2, 3]]) (.seq (.seq (.reg [.op none (.faddr 5 0 (.tmp 2)), .op none (.load 6 false 1 (.tmp 5)), .op none (.faddr 7 0 (.tmp 3)), .op none (.load 8 false 1 (.tmp 7)), .op none (.bin 9 .neq (.tmp 6) (.tmp 8)), .keep [2, 3, 9]]) (.cond (.tmp 9) (.seq (.reg [.op none (.mv 4 (.const (.bool false))), .keep [4]]) (.ret)) (.skip))) (.seq (.seq (.reg [.op none (.faddr 10 1 (.tmp 2)), .op none (.load 11 false 1 (.tmp 10)), .op none (.faddr 12 1 (.tmp 3)), .op none (.load 13 false 1 (.tmp 12)), .op none (.bin 14 .neq (.tmp 11) (.tmp 13)), .keep [2, 3, 14]]) (.cond (.tmp 14) (.seq (.reg [.op none (.mv 4 (.const (.bool false))), .keep [4]]) (.ret)) (.skip))) (.seq (.seq (.reg [.op none (.faddr 15 2 (.tmp 2)), .op none (.load 16 false 1 (.tmp 15)), .op none (.faddr 17 2 (.tmp 3)), .op none (.load 18 false 1 (.tmp 17)), .op none (.bin 19 .neq (.tmp 16) (.tmp 18)), .keep [19]]) (.cond (.tmp 19) (.seq (.reg [.op none (.mv 4 (.const (.bool false))), .keep [4]]) (.ret)) (.skip))) (.seq (.reg [.op none (.mv 4 (.const (.bool true))), .keep [4]]) (.ret)))))
def r84 : List RV := [.tmp 4]
theorem k84 : compC Try.prog 20 C84 (Try.f84.body.getD .skip) = some C84.erase := by kernel_rfl
theorem q84 : rvsOf Try.prog Try.f84.results.toList = some r84 := by kernel_rfl
def laws_eqPathView.f (a0_0 : Int) (a0_1 : Int) (a0_2 : Int) (a1_0 : Int) (a1_1 : Int) (a1_2 : Int) : Option Bool := (if a0_0 ≠ a1_0 then (some false) else (if a0_1 ≠ a1_1 then (some false) else (if a0_2 ≠ a1_2 then (some false) else (some true))))
theorem laws_eqPathView.tri (a0_0 : Int) (a0_1 : Int) (a0_2 : Int) (a1_0 : Int) (a1_1 : Int) (a1_2 : Int) (r : Bool) (h : laws_eqPathView.f a0_0 a0_1 a0_2 a1_0 a1_1 a1_2 = some r) : Tri Try.prog 84 [.g [.sc (.int .i64 a0_0), .sc (.int .i64 a0_1), .sc (.int .i64 a0_2)], .g [.sc (.int .i64 a1_0), .sc (.int .i64 a1_1), .sc (.int .i64 a1_2)]] [] (fun o => o = ⟨.c (.sc (.bool r)), [], [], []⟩) := by
 refine tri_of_body (ac := C84) (xs := r84) Try.func84 (show Try.f84.body = some (Try.f84.body.getD .skip) from rfl) k84 q84 (Nat.le_of_ble_eq_true rfl) ?_
 refine body_of fun K hKn hKr => ?_
 unfold laws_eqPathView.f at h
 unfold C84
 simp only [initT, Nat.reduceAdd]
 refine sr_k fun J1 hJ1 => ?_
 simp +decide only [Nat.reduceAdd, Nat.reduceMul, Int.reduceToNat, ak]
 refine hJ1 _ ?_
 refine seq_k fun J2 hJ2 => ?_
 refine sr_k fun J3 hJ3 => ?_
 simp +decide only [Nat.reduceAdd, Nat.reduceMul, Int.reduceToNat, ak]
 refine hJ3 _ ?_
 refine cond_k (b := decide (a0_0 ≠ a1_0)) rfl (fun c4 => ?_) (fun c4 => ?_)
 ·replace c4 := of_decide_eq_true c4; rw [if_pos c4] at h
  refine sr_k fun J5 hJ5 => ?_
  simp +decide only [Nat.reduceAdd, Nat.reduceMul, Int.reduceToNat, ak]
  refine hJ5 _ ?_
  obtain rfl := Option.some.inj h
  refine hKr _ ⟨_, rfl, [], _, rfl, rfl, ?_⟩
  first | rfl | (simp only [reduceCtorEq, Nat.reduceEqDiff, ak, akF]; done) | (simp [reduceCtorEq, Nat.reduceEqDiff, ak, akF] <;> omega)
 ·replace c4 := of_decide_eq_false c4; rw [if_neg c4] at h
  refine hJ2 _ ?_
  refine seq_k fun J6 hJ6 => ?_
  refine sr_k fun J7 hJ7 => ?_
  simp +decide only [Nat.reduceAdd, Nat.reduceMul, Int.reduceToNat, ak]
  refine hJ7 _ ?_
  refine cond_k (b := decide (a0_1 ≠ a1_1)) rfl (fun c8 => ?_) (fun c8 => ?_)
  ·replace c8 := of_decide_eq_true c8; rw [if_pos c8] at h
   refine sr_k fun J9 hJ9 => ?_
   simp +decide only [Nat.reduceAdd, Nat.reduceMul, Int.reduceToNat, ak]
   refine hJ9 _ ?_
   obtain rfl := Option.some.inj h
   refine hKr _ ⟨_, rfl, [], _, rfl, rfl, ?_⟩
   first | rfl | (simp only [reduceCtorEq, Nat.reduceEqDiff, ak, akF]; done) | (simp [reduceCtorEq, Nat.reduceEqDiff, ak, akF] <;> omega)
  ·replace c8 := of_decide_eq_false c8; rw [if_neg c8] at h
   refine hJ6 _ ?_
   refine seq_k fun J10 hJ10 => ?_
   refine sr_k fun J11 hJ11 => ?_
   simp +decide only [Nat.reduceAdd, Nat.reduceMul, Int.reduceToNat, ak]
   refine hJ11 _ ?_
   refine cond_k (b := decide (a0_2 ≠ a1_2)) rfl (fun c12 => ?_) (fun c12 => ?_)
   ·replace c12 := of_decide_eq_true c12; rw [if_pos c12] at h
    refine sr_k fun J13 hJ13 => ?_
    simp +decide only [Nat.reduceAdd, Nat.reduceMul, Int.reduceToNat, ak]
    refine hJ13 _ ?_
    obtain rfl := Option.some.inj h
    refine hKr _ ⟨_, rfl, [], _, rfl, rfl, ?_⟩
    first | rfl | (simp only [reduceCtorEq, Nat.reduceEqDiff, ak, akF]; done) | (simp [reduceCtorEq, Nat.reduceEqDiff, ak, akF] <;> omega)
   ·replace c12 := of_decide_eq_false c12; rw [if_neg c12] at h
    refine hJ10 _ ?_
    refine sr_k fun J14 hJ14 => ?_
    simp +decide only [Nat.reduceAdd, Nat.reduceMul, Int.reduceToNat, ak]
    refine hJ14 _ ?_
    obtain rfl := Option.some.inj h
    refine hKr _ ⟨_, rfl, [], _, rfl, rfl, ?_⟩
    first | rfl | (simp only [reduceCtorEq, Nat.reduceEqDiff, ak, akF]; done) | (simp [reduceCtorEq, Nat.reduceEqDiff, ak, akF] <;> omega)
/-! ### laws.eqPathViewS: function 41 -/
def C41_l0 : AC := .seq (.seq (.reg [.op none (.mv 11 (.tmp 5)), .op none (.mv 12 (.tmp 0)), .op none (.len 13 (.tmp 12)), .op none (.bin 14 .lss (.tmp 11) (.tmp 13)), .keep [0, 1, 5, 14]]) (.cond (.tmp 14) (.skip) (.gh (.exit 0)))) (.seq (.block 1 (.seq (.regD (.first (.op none (.mv 17 (.tmp 0))) (.first (.op none (.mv 18 (.tmp 5))) (.first (.op none (.iaddr 19 3 (.tmp 17) (.tmp 18))) (.first (.op none (.load 20 true 3 (.tmp 19))) (.first (.op none (.mv 21 (.tmp 1))) (.first (.op none (.mv 22 (.tmp 5))) (.first (.op none (.iaddr 23 3 (.tmp 21) (.tmp 22))) (.first (.op none (.load 24 true 3 (.tmp 23))) (.alt (.call none (some 25) 84 [.tmp 20, .tmp 24]) none (.first (.op none (.un 26 .not (.tmp 25))) (.done)) (.stop)))))))))) [0, 1, 5, 26]) (.cond (.tmp 26) (.seq (.reg [.op none (.mv 4 (.const (.bool false))), .keep [4]]) (.gh .ret)) (.skip)))) (.reg [.op none (.mv 15 (.tmp 5)), .op none (.bin 16 .add (.tmp 15) (.const (.int .i64 1))), .op none (.mv 5 (.tmp 16)), .keep [0, 1, 5]]))
def C41 : AC := .seq (.reg [.op none (.mv 4 (.const (.bool false))), .keep [0, 1]]) (.seq (.seq (.reg [.op none (.mv 6 (.tmp 0)), .op none (.len 7 (.tmp 6)), .op none (.mv 8 (.tmp 1)), .op none (.len 9 (.tmp 8)), .op none (.bin 10 .neq (.tmp 7) (.tmp 9)), .keep [0, 1, 10]]) (.cond (.tmp 10) (.seq (.reg [.op none (.mv 4 (.const (.bool false))), .keep [4]]) (.ret)) (.skip))) (.seq (.seq (.reg [.op none (.mv 5 (.const (.int .i64 0))), .keep [0, 1, 5]]) (.block 0 (.gh (.loop (.ga C41_l0))))) (.seq (.reg [.op none (.mv 4 (.const (.bool true))), .keep [4]]) (.ret))))
def r41 : List RV := [.tmp 4]
theorem k41 : compC Try.prog 27 C41 (Try.f41.body.getD .skip) = some C41.erase := by kernel_rfl
theorem q41 : rvsOf Try.prog Try.f41.results.toList = some r41 := by kernel_rfl
def laws_eqPathViewS.l0 (l0 : List S86) (l1 : List S86) (x0_0 : Int) : Option (Lp Unit Bool) := (if x0_0 < (l0.length : Int) then (if 0 ≤ x0_0 ∧ x0_0 < (l0.length : Int) then (if 0 ≤ x0_0 ∧ x0_0 < (l1.length : Int) then (laws_eqPathView.f ((rd z86 l0 x0_0).f0) ((rd z86 l0 x0_0).f1) ((rd z86 l0 x0_0).f2) ((rd z86 l1 x0_0).f0) ((rd z86 l1 x0_0).f1) ((rd z86 l1 x0_0).f2) >>= fun t19 => (if (!t19) = true then (some (.b false)) else (laws_eqPathViewS.l0 l0 l1 (IntKind.i64.wrap (x0_0 + 1))))) else none) else none) else (some (.a ())))
 partial_fixpoint
def laws_eqPathViewS.f (l0 : List S86) (l1 : List S86) : Option Bool := (if (l0.length : Int) ≠ (l1.length : Int) then (some false) else (laws_eqPathViewS.l0 l0 l1 0 >>= fun (y25 : Lp Unit Bool) => match y25 with | .a x27 => (some true) | .b x27 => (some x27)))
def laws_eqPathViewS.l0_M (cs0 : List Cell) (o0 : Nat) (l0 : List S86) (hv0 : Vw c86 3 cs0 o0 l0) (cs1 : List Cell) (o1 : Nat) (l1 : List S86) (hv1 : Vw c86 3 cs1 o1 l1) (x0_0 : Int) (y : Lp Unit Bool) : Prop := ∀ (K : AE → St → Prop), (∀ x, y = .a x → K (.exit 0) ⟨[], [(.arg 0, ⟨.fz, 3, cs0⟩), (.arg 1, ⟨.fz, 3, cs1⟩)], [], []⟩) → (∀ x, y = .b x → K .ret ⟨[(4, .c (.sc (.bool x)))], [(.arg 0, ⟨.fz, 3, cs0⟩), (.arg 1, ⟨.fz, 3, cs1⟩)], [], []⟩) → loopS Try.prog 27 (.ga C41_l0) K ⟨[(0, .c (.ref (.arg 0) [] o0 l0.length)), (1, .c (.ref (.arg 1) [] o1 l1.length)), (5, .c (.sc (.int .i64 x0_0)))], [(.arg 0, ⟨.fz, 3, cs0⟩), (.arg 1, ⟨.fz, 3, cs1⟩)], [], []⟩
theorem laws_eqPathViewS.l0_walk (cs0 : List Cell) (o0 : Nat) (l0 : List S86) (hv0 : Vw c86 3 cs0 o0 l0) (cs1 : List Cell) (o1 : Nat) (l1 : List S86) (hv1 : Vw c86 3 cs1 o1 l1) (x0_0 : Int) (y : Lp Unit Bool) (h : laws_eqPathViewS.l0 l0 l1 x0_0 = some y) : laws_eqPathViewS.l0_M cs0 o0 l0 hv0 cs1 o1 l1 hv1 x0_0 y := by
 refine laws_eqPathViewS.l0.partial_correctness l0 l1 (motive := fun x0_0 y => laws_eqPathViewS.l0_M cs0 o0 l0 hv0 cs1 o1 l1 hv1 x0_0 y) ?_ x0_0 y h
 clear h
 unfold laws_eqPathViewS.l0_M
 intro rec ih x0_0 y h K hx0 hx1
 refine loop_unroll (ga_k fun G0 G0n G0r G0x => ?_)
 unfold C41_l0
 refine seq_k fun J9 hJ9 => ?_
 refine sr_k fun J10 hJ10 => ?_
 simp +decide only [Nat.reduceAdd, Nat.reduceMul, Int.reduceToNat, ak]
 refine hJ10 _ ?_
 refine cond_k (b := decide (x0_0 < (l0.length : Int))) rfl (fun c11 => ?_) (fun c11 => ?_)
 ·replace c11 := of_decide_eq_true c11; rw [if_pos c11] at h
  refine hJ9 _ ?_
  refine seq_k fun J12 hJ12 => ?_
  refine block_k fun B13 B13n B13x B13r B13j => ?_
  refine sd_k fun J14 hJ14 => ?_
  obtain ⟨b15, h⟩ := of_guard h
  have g16 : (List.drop (o0 + x0_0.toNat * 3) (cs0)).take 3 = [.sc (.int .i64 ((rd z86 l0 x0_0).f0)), .sc (.int .i64 ((rd z86 l0 x0_0).f1)), .sc (.int .i64 ((rd z86 l0 x0_0).f2))] := hv0.stretch z86 b15.1 b15.2
  obtain ⟨b17, h⟩ := of_guard h
  have g18 : (List.drop (o1 + x0_0.toNat * 3) (cs1)).take 3 = [.sc (.int .i64 ((rd z86 l1 x0_0).f0)), .sc (.int .i64 ((rd z86 l1 x0_0).f1)), .sc (.int .i64 ((rd z86 l1 x0_0).f2))] := hv1.stretch z86 b17.1 b17.2
  simp +decide only [Nat.reduceAdd, Nat.reduceMul, Int.reduceToNat, ak, b15, g16, b17, g18]
  obtain ⟨t19, h20, h⟩ := of_bind h
  refine alt_e ?_
  ·simp +decide only [Nat.reduceAdd, Nat.reduceMul, Int.reduceToNat, ak]
   refine call_m [] (s0 := []) (by intro t ht; cases ht; decide) rfl rfl (by first | rfl | simp only [reduceCtorEq, Nat.reduceEqDiff, ak, akF, b15, b17, g16, g18]) (laws_eqPathView.tri ((rd z86 l0 x0_0).f0) ((rd z86 l0 x0_0).f1) ((rd z86 l0 x0_0).f2) ((rd z86 l1 x0_0).f0) ((rd z86 l1 x0_0).f1) ((rd z86 l1 x0_0).f2) _ h20) (by first | rfl | simp only [reduceCtorEq, Nat.reduceEqDiff, ak, akF]) (by simp [bkOk2, memK]) (fun hl21 => ?_)
   refine call_st (s4 := [(.arg 0, ⟨.fz, 3, cs0⟩), (.arg 1, ⟨.fz, 3, cs1⟩)]) (m1' := []) (m2' := []) (v' := .c (.sc (.bool t19))) (Sto.mapN_killNil _ _) (mrgL_nil' _ _ _) (by rfl) (mapT_killNil _ _) (by rfl) (by rfl) (by first | rfl | simp only [reduceCtorEq, Nat.reduceEqDiff, ak, akF, Nat.zero_add, List.append_nil, b15, b17]) ?_
   simp +decide only [Nat.reduceAdd, Nat.reduceMul, Int.reduceToNat, ak]
   refine hJ14 _ ?_
   refine cond_k (b := !t19) rfl (fun c23 => ?_) (fun c23 => ?_)
   ·rw [if_pos c23] at h
    refine sr_k fun J24 hJ24 => ?_
    simp +decide only [Nat.reduceAdd, Nat.reduceMul, Int.reduceToNat, ak]
    refine hJ24 _ ?_
    obtain rfl := Option.some.inj h
    refine gh_k (wk [4] [pI (.arg 0) .fz, pI (.arg 1) .fz]) ?_
    refine B13r _ ?_
    refine G0r _ ?_
    exact hx1 _ rfl
   ·rw [if_neg (Bool.eq_false_iff.1 c23)] at h
    refine B13n _ ?_
    refine hJ12 _ ?_
    refine reg_k ?_
    simp +decide only [Nat.reduceAdd, Nat.reduceMul, Int.reduceToNat, ak]
    refine G0n _ _ (wk [0, 1, 5] [pI (.arg 0) .fz, pI (.arg 1) .fz]) (ih _ _ h K hx0 hx1)
 ·replace c11 := of_decide_eq_false c11; rw [if_neg c11] at h
  obtain rfl := Option.some.inj h
  refine gh_k (wk [] [pI (.arg 0) .fz, pI (.arg 1) .fz]) ?_
  refine G0x _ _ ?_
  exact hx0 _ rfl
theorem laws_eqPathViewS.tri (cs0 : List Cell) (o0 : Nat) (l0 : List S86) (hv0 : Vw c86 3 cs0 o0 l0) (cs1 : List Cell) (o1 : Nat) (l1 : List S86) (hv1 : Vw c86 3 cs1 o1 l1) (r : Bool) (h : laws_eqPathViewS.f l0 l1 = some r) : Tri Try.prog 41 [.c (.ref (.arg 0) [] o0 l0.length), .c (.ref (.arg 1) [] o1 l1.length)] [(.arg 0, ⟨.fz, 3, cs0⟩), (.arg 1, ⟨.fz, 3, cs1⟩)] (fun o => o = ⟨.c (.sc (.bool r)), [(.arg 0, ⟨.fz, 3, cs0⟩), (.arg 1, ⟨.fz, 3, cs1⟩)], [], []⟩) := by
 refine tri_of_body (ac := C41) (xs := r41) Try.func41 (show Try.f41.body = some (Try.f41.body.getD .skip) from rfl) k41 q41 (Nat.le_of_ble_eq_true rfl) ?_
 refine body_of fun K hKn hKr => ?_
 unfold laws_eqPathViewS.f at h
 unfold C41
 simp only [initT, Nat.reduceAdd]
 refine sr_k fun J1 hJ1 => ?_
 simp +decide only [Nat.reduceAdd, Nat.reduceMul, Int.reduceToNat, ak]
 refine hJ1 _ ?_
 refine seq_k fun J2 hJ2 => ?_
 refine sr_k fun J3 hJ3 => ?_
 simp +decide only [Nat.reduceAdd, Nat.reduceMul, Int.reduceToNat, ak]
 refine hJ3 _ ?_
 refine cond_k (b := decide ((l0.length : Int) ≠ (l1.length : Int))) rfl (fun c4 => ?_) (fun c4 => ?_)
 ·replace c4 := of_decide_eq_true c4; rw [if_pos c4] at h
  refine sr_k fun J5 hJ5 => ?_
  simp +decide only [Nat.reduceAdd, Nat.reduceMul, Int.reduceToNat, ak]
  refine hJ5 _ ?_
  obtain rfl := Option.some.inj h
  refine hKr _ ⟨_, rfl, [], _, rfl, rfl, ?_⟩
  first | rfl | (simp only [reduceCtorEq, Nat.reduceEqDiff, ak, akF]; done) | (simp [reduceCtorEq, Nat.reduceEqDiff, ak, akF] <;> omega)
 ·replace c4 := of_decide_eq_false c4; rw [if_neg c4] at h
  refine hJ2 _ ?_
  refine seq_k fun J6 hJ6 => ?_
  refine sr_k fun J7 hJ7 => ?_
  simp +decide only [Nat.reduceAdd, Nat.reduceMul, Int.reduceToNat, ak]
  refine hJ7 _ ?_
  refine block_k fun B8 B8n B8x B8r B8j => ?_
  obtain ⟨y25, h26, h⟩ := of_bind h
  refine gh_k (wk [0, 1, 5] [pI (.arg 0) .fz, pI (.arg 1) .fz]) ?_
  rw [e_loop]
  refine laws_eqPathViewS.l0_walk cs0 o0 l0 hv0 cs1 o1 l1 hv1 0 _ h26 _ ?_ ?_
  ·rintro x27 rfl
   dsimp only at h
   refine B8x _ ?_
   refine hJ6 _ ?_
   refine sr_k fun J28 hJ28 => ?_
   simp +decide only [Nat.reduceAdd, Nat.reduceMul, Int.reduceToNat, ak]
   refine hJ28 _ ?_
   obtain rfl := Option.some.inj h
   refine hKr _ ⟨_, rfl, [], _, rfl, rfl, ?_⟩
   first | rfl | (simp only [reduceCtorEq, Nat.reduceEqDiff, ak, akF]; done) | (simp [reduceCtorEq, Nat.reduceEqDiff, ak, akF] <;> omega)
  ·rintro x27 rfl
   dsimp only at h
   refine B8r _ ?_
   obtain rfl := Option.some.inj h
   refine hKr _ ⟨_, rfl, [], _, rfl, rfl, ?_⟩
   first | rfl | (simp only [reduceCtorEq, Nat.reduceEqDiff, ak, akF]; done) | (simp [reduceCtorEq, Nat.reduceEqDiff, ak, akF] <;> omega)
/-! ### laws.eqMapping: function 76 -/
def C76 : AC := .seq (.reg [.op none (.box 2 (.tmp 0)), .op none (.box 3 (.tmp 1)), .op none (.mv 4 (.const (.bool false))), .keep [2, 3]]) (.seq (.seq (.reg [.op none (.faddr 5 0 (.tmp 2)), .op none (.load 6 false 1 (.tmp 5)), .op none (.faddr 7 0 (.tmp 3)), .op none (.load 8 false 1 (.tmp 7)), .op none (.bin 9 .neq (.tmp 6) (.tmp 8)), .keep [2, 3, 9]]) (.cond (.tmp 9) (.seq (.reg [.op none (.mv 4 (.const (.bool false))), .keep [4]]) (.ret)) (.skip))) (.seq (.seq (.reg [.op none (.faddr 10 1 (.tmp 2)), .op none (.load 11 false 1 (.tmp 10)), .op none (.faddr 12 1 (.tmp 3)), .op none (.load 13 false 1 (.tmp 12)), .op none (.bin 14 .neq (.tmp 11) (.tmp 13)), .keep [2, 3, 14]]) (.cond (.tmp 14) (.seq (.reg [.op none (.mv 4 (.const (.bool false))), .keep [4]]) (.ret)) (.skip))) (.seq (.seq (.reg [.op none (.faddr 15 2 (.tmp 2)), .op none (.load 16 false 1 (.tmp 15)), .op none (.faddr 17 2 (.tmp 3)), .op none (.load 18 false 1 (.tmp 17)), .op none (.bin 19 .neq (.tmp 16) (.tmp 18)), .keep [2, 3, 19]]) (.cond (.tmp 19) (.seq (.reg [.op none (.mv 4 (.const (.bool false))), .keep [4]]) (.ret)) (.skip))) (.seq (.seq (.reg [.op none (.faddr 20 3 (.tmp 2)), .op none (.load 21 false 1 (.tmp 20)), .op none (.faddr 22 3 (.tmp 3)), .op none (.load 23 false 1 (.tmp 22)), .op none (.bin 24 .neq (.tmp 21) (.tmp 23)), .keep [2, 3, 24]]) (.cond (.tmp 24) (.seq (.reg [.op none (.mv 4 (.const (.bool false))), .keep [4]]) (.ret)) (.skip))) (.seq (.seq (.reg [.op none (.faddr 25 4 (.tmp 2)), .op none (.load 26 false 1 (.tmp 25)), .op none (.faddr 27 4 (.tmp 3)), .op none (.load 28 false 1 (.tmp 27)), .op none (.bin 29 .neq (.tmp 26) (.tmp 28)), .keep [29]]) (.cond (.tmp 29) (.seq (.reg [.op none (.mv 4 (.const (.bool false))), .keep [4]]) (.ret)) (.skip))) (.seq (.reg [.op none (.mv 4 (.const (.bool true))), .keep [4]]) (.ret)))))))
def r76 : List RV := [.tmp 4]
theorem k76 : compC Try.prog 30 C76 (Try.f76.body.getD .skip) = some C76.erase := by kernel_rfl
theorem q76 : rvsOf Try.prog Try.f76.results.toList = some r76 := by kernel_rfl
def laws_eqMapping.f (a0_0 : Int) (a0_1 : Int) (a0_2 : Int) (a0_3 : Int) (a0_4 : Int) (a1_0 : Int) (a1_1 : Int) (a1_2 : Int) (a1_3 : Int) (a1_4 : Int) : Option Bool := (if a0_0 ≠ a1_0 then (some false) else (if a0_1 ≠ a1_1 then (some false) else (if a0_2 ≠ a1_2 then (some false) else (if a0_3 ≠ a1_3 then (some false) else (if a0_4 ≠ a1_4 then (some false) else (some true))))))
theorem laws_eqMapping.tri (a0_0 : Int) (a0_1 : Int) (a0_2 : Int) (a0_3 : Int) (a0_4 : Int) (a1_0 : Int) (a1_1 : Int) (a1_2 : Int) (a1_3 : Int) (a1_4 : Int) (r : Bool) (h : laws_eqMapping.f a0_0 a0_1 a0_2 a0_3 a0_4 a1_0 a1_1 a1_2 a1_3 a1_4 = some r) : Tri Try.prog 76 [.g [.sc (.int .u64 a0_0), .sc (.int .i64 a0_1), .sc (.int .i64 a0_2), .sc (.int .i64 a0_3), .sc (.int .i64 a0_4)], .g [.sc (.int .u64 a1_0), .sc (.int .i64 a1_1), .sc (.int .i64 a1_2), .sc (.int .i64 a1_3), .sc (.int .i64 a1_4)]] [] (fun o => o = ⟨.c (.sc (.bool r)), [], [], []⟩) := by
 refine tri_of_body (ac := C76) (xs := r76) Try.func76 (show Try.f76.body = some (Try.f76.body.getD .skip) from rfl) k76 q76 (Nat.le_of_ble_eq_true rfl) ?_
 refine body_of fun K hKn hKr => ?_
 unfold laws_eqMapping.f at h
 unfold C76
 simp only [initT, Nat.reduceAdd]
 refine sr_k fun J1 hJ1 => ?_
 simp +decide only [Nat.reduceAdd, Nat.reduceMul, Int.reduceToNat, ak]
 refine hJ1 _ ?_
 refine seq_k fun J2 hJ2 => ?_
 refine sr_k fun J3 hJ3 => ?_
 simp +decide only [Nat.reduceAdd, Nat.reduceMul, Int.reduceToNat, ak]
 refine hJ3 _ ?_
 refine cond_k (b := decide (a0_0 ≠ a1_0)) rfl (fun c4 => ?_) (fun c4 => ?_)
 ·replace c4 := of_decide_eq_true c4; rw [if_pos c4] at h
  refine sr_k fun J5 hJ5 => ?_
  simp +decide only [Nat.reduceAdd, Nat.reduceMul, Int.reduceToNat, ak]
  refine hJ5 _ ?_
  obtain rfl := Option.some.inj h
  refine hKr _ ⟨_, rfl, [], _, rfl, rfl, ?_⟩
  first | rfl | (simp only [reduceCtorEq, Nat.reduceEqDiff, ak, akF]; done) | (simp [reduceCtorEq, Nat.reduceEqDiff, ak, akF] <;> omega)
 ·replace c4 := of_decide_eq_false c4; rw [if_neg c4] at h
  refine hJ2 _ ?_
  refine seq_k fun J6 hJ6 => ?_
  refine sr_k fun J7 hJ7 => ?_
  simp +decide only [Nat.reduceAdd, Nat.reduceMul, Int.reduceToNat, ak]
  refine hJ7 _ ?_
  refine cond_k (b := decide (a0_1 ≠ a1_1)) rfl (fun c8 => ?_) (fun c8 => ?_)
  ·replace c8 := of_decide_eq_true c8; rw [if_pos c8] at h
   refine sr_k fun J9 hJ9 => ?_
   simp +decide only [Nat.reduceAdd, Nat.reduceMul, Int.reduceToNat, ak]
   refine hJ9 _ ?_
   obtain rfl := Option.some.inj h
   refine hKr _ ⟨_, rfl, [], _, rfl, rfl, ?_⟩
   first | rfl | (simp only [reduceCtorEq, Nat.reduceEqDiff, ak, akF]; done) | (simp [reduceCtorEq, Nat.reduceEqDiff, ak, akF] <;> omega)
  ·replace c8 := of_decide_eq_false c8; rw [if_neg c8] at h
   refine hJ6 _ ?_
   refine seq_k fun J10 hJ10 => ?_
   refine sr_k fun J11 hJ11 => ?_
   simp +decide only [Nat.reduceAdd, Nat.reduceMul, Int.reduceToNat, ak]
   refine hJ11 _ ?_
   refine cond_k (b := decide (a0_2 ≠ a1_2)) rfl (fun c12 => ?_) (fun c12 => ?_)
   ·replace c12 := of_decide_eq_true c12; rw [if_pos c12] at h
    refine sr_k fun J13 hJ13 => ?_
    simp +decide only [Nat.reduceAdd, Nat.reduceMul, Int.reduceToNat, ak]
    refine hJ13 _ ?_
    obtain rfl := Option.some.inj h
    refine hKr _ ⟨_, rfl, [], _, rfl, rfl, ?_⟩
    first | rfl | (simp only [reduceCtorEq, Nat.reduceEqDiff, ak, akF]; done) | (simp [reduceCtorEq, Nat.reduceEqDiff, ak, akF] <;> omega)
   ·replace c12 := of_decide_eq_false c12; rw [if_neg c12] at h
    refine hJ10 _ ?_
    refine seq_k fun J14 hJ14 => ?_
    refine sr_k fun J15 hJ15 => ?_
    simp +decide only [Nat.reduceAdd, Nat.reduceMul, Int.reduceToNat, ak]
    refine hJ15 _ ?_
    refine cond_k (b := decide (a0_3 ≠ a1_3)) rfl (fun c16 => ?_) (fun c16 => ?_)
    ·replace c16 := of_decide_eq_true c16; rw [if_pos c16] at h
     refine sr_k fun J17 hJ17 => ?_
     simp +decide only [Nat.reduceAdd, Nat.reduceMul, Int.reduceToNat, ak]
     refine hJ17 _ ?_
     obtain rfl := Option.some.inj h
     refine hKr _ ⟨_, rfl, [], _, rfl, rfl, ?_⟩
     first | rfl | (simp only [reduceCtorEq, Nat.reduceEqDiff, ak, akF]; done) | (simp [reduceCtorEq, Nat.reduceEqDiff, ak, akF] <;> omega)
    ·replace c16 := of_decide_eq_false c16; rw [if_neg c16] at h
     refine hJ14 _ ?_
     refine seq_k fun J18 hJ18 => ?_
     refine sr_k fun J19 hJ19 => ?_
     simp +decide only [Nat.reduceAdd, Nat.reduceMul, Int.reduceToNat, ak]
     refine hJ19 _ ?_
     refine cond_k (b := decide (a0_4 ≠ a1_4)) rfl (fun c20 => ?_) (fun c20 => ?_)
     ·replace c20 := of_decide_eq_true c20; rw [if_pos c20] at h
      refine sr_k fun J21 hJ21 => ?_
      simp +decide only [Nat.reduceAdd, Nat.reduceMul, Int.reduceToNat, ak]
      refine hJ21 _ ?_
      obtain rfl := Option.some.inj h
      refine hKr _ ⟨_, rfl, [], _, rfl, rfl, ?_⟩
      first | rfl | (simp only [reduceCtorEq, Nat.reduceEqDiff, ak, akF]; done) | (simp [reduceCtorEq, Nat.reduceEqDiff, ak, akF] <;> omega)
     ·replace c20 := of_decide_eq_false c20; rw [if_neg c20] at h
      refine hJ18 _ ?_
      refine sr_k fun J22 hJ22 => ?_
      simp +decide only [Nat.reduceAdd, Nat.reduceMul, Int.reduceToNat, ak]
      refine hJ22 _ ?_
      obtain rfl := Option.some.inj h
      refine hKr _ ⟨_, rfl, [], _, rfl, rfl, ?_⟩
      first | rfl | (simp only [reduceCtorEq, Nat.reduceEqDiff, ak, akF]; done) | (simp [reduceCtorEq, Nat.reduceEqDiff, ak, akF] <;> omega)
/-! ### laws.eqMappingS: function 31 -/
def C31_l0 : AC := .seq (.seq (.reg [.op none (.mv 11 (.tmp 5)), .op none (.mv 12 (.tmp 0)), .op none (.len 13 (.tmp 12)), .op none (.bin 14 .lss (.tmp 11) (.tmp 13)), .keep [0, 1, 5, 14]]) (.cond (.tmp 14) (.skip) (.gh (.exit 0)))) (.seq (.block 1 (.seq (.regD (.first (.op none (.mv 17 (.tmp 0))) (.first (.op none (.mv 18 (.tmp 5))) (.first (.op none (.iaddr 19 5 (.tmp 17) (.tmp 18))) (.first (.op none (.load 20 true 5 (.tmp 19))) (.first (.op none (.mv 21 (.tmp 1))) (.first (.op none (.mv 22 (.tmp 5))) (.first (.op none (.iaddr 23 5 (.tmp 21) (.tmp 22))) (.first (.op none (.load 24 true 5 (.tmp 23))) (.alt (.call none (some 25) 76 [.tmp 20, .tmp 24]) none (.first (.op none (.un 26 .not (.tmp 25))) (.done)) (.stop)))))))))) [0, 1, 5, 26]) (.cond (.tmp 26) (.seq (.reg [.op none (.mv 4 (.const (.bool false))), .keep [4]]) (.gh .ret)) (.skip)))) (.reg [.op none (.mv 15 (.tmp 5)), .op none (.bin 16 .add (.tmp 15) (.const (.int .i64 1))), .op none (.mv 5 (.tmp 16)), .keep [0, 1, 5]]))
def C31 : AC := .seq (.reg [.op none (.mv 4 (.const (.bool false))), .keep [0, 1]]) (.seq (.seq (.reg [.op none (.mv 6 (.tmp 0)), .op none (.len 7 (.tmp 6)), .op none (.mv 8 (.tmp 1)), .op none (.len 9 (.tmp 8)), .op none (.bin 10 .neq (.tmp 7) (.tmp 9)), .keep [0, 1, 10]]) (.cond (.tmp 10) (.seq (.reg [.op none (.mv 4 (.const (.bool false))), .keep [4]]) (.ret)) (.skip))) (.seq (.seq (.reg [.op none (.mv 5 (.const (.int .i64 0))), .keep [0, 1, 5]]) (.block 0 (.gh (.loop (.ga C31_l0))))) (.seq (.reg [.op none (.mv 4 (.const (.bool true))), .keep [4]]) (.ret))))
def r31 : List RV := [.tmp 4]
theorem k31 : compC Try.prog 27 C31 (Try.f31.body.getD .skip) = some C31.erase := by kernel_rfl
theorem q31 : rvsOf Try.prog Try.f31.results.toList = some r31 := by kernel_rfl
def laws_eqMappingS.l0 (l0 : List S84) (l1 : List S84) (x0_0 : Int) : Option (Lp Unit Bool) := (if x0_0 < (l0.length : Int) then (if 0 ≤ x0_0 ∧ x0_0 < (l0.length : Int) then (if 0 ≤ x0_0 ∧ x0_0 < (l1.length : Int) then (laws_eqMapping.f ((rd z84 l0 x0_0).f0) ((rd z84 l0 x0_0).f1) ((rd z84 l0 x0_0).f2) ((rd z84 l0 x0_0).f3) ((rd z84 l0 x0_0).f4) ((rd z84 l1 x0_0).f0) ((rd z84 l1 x0_0).f1) ((rd z84 l1 x0_0).f2) ((rd z84 l1 x0_0).f3) ((rd z84 l1 x0_0).f4) >>= fun t19 => (if (!t19) = true then (some (.b false)) else (laws_eqMappingS.l0 l0 l1 (IntKind.i64.wrap (x0_0 + 1))))) else none) else none) else (some (.a ())))
 partial_fixpoint
def laws_eqMappingS.f (l0 : List S84) (l1 : List S84) : Option Bool := (if (l0.length : Int) ≠ (l1.length : Int) then (some false) else (laws_eqMappingS.l0 l0 l1 0 >>= fun (y25 : Lp Unit Bool) => match y25 with | .a x27 => (some true) | .b x27 => (some x27)))
def laws_eqMappingS.l0_M (cs0 : List Cell) (o0 : Nat) (l0 : List S84) (hv0 : Vw c84 5 cs0 o0 l0) (cs1 : List Cell) (o1 : Nat) (l1 : List S84) (hv1 : Vw c84 5 cs1 o1 l1) (x0_0 : Int) (y : Lp Unit Bool) : Prop := ∀ (K : AE → St → Prop), (∀ x, y = .a x → K (.exit 0) ⟨[], [(.arg 0, ⟨.fz, 5, cs0⟩), (.arg 1, ⟨.fz, 5, cs1⟩)], [], []⟩) → (∀ x, y = .b x → K .ret ⟨[(4, .c (.sc (.bool x)))], [(.arg 0, ⟨.fz, 5, cs0⟩), (.arg 1, ⟨.fz, 5, cs1⟩)], [], []⟩) → loopS Try.prog 27 (.ga C31_l0) K ⟨[(0, .c (.ref (.arg 0) [] o0 l0.length)), (1, .c (.ref (.arg 1) [] o1 l1.length)), (5, .c (.sc (.int .i64 x0_0)))], [(.arg 0, ⟨.fz, 5, cs0⟩), (.arg 1, ⟨.fz, 5, cs1⟩)], [], []⟩
theorem laws_eqMappingS.l0_walk (cs0 : List Cell) (o0 : Nat) (l0 : List S84) (hv0 : Vw c84 5 cs0 o0 l0) (cs1 : List Cell) (o1 : Nat) (l1 : List S84) (hv1 : Vw c84 5 cs1 o1 l1) (x0_0 : Int) (y : Lp Unit Bool) (h : laws_eqMappingS.l0 l0 l1 x0_0 = some y) : laws_eqMappingS.l0_M cs0 o0 l0 hv0 cs1 o1 l1 hv1 x0_0 y := by
 refine laws_eqMappingS.l0.partial_correctness l0 l1 (motive := fun x0_0 y => laws_eqMappingS.l0_M cs0 o0 l0 hv0 cs1 o1 l1 hv1 x0_0 y) ?_ x0_0 y h
 clear h
 unfold laws_eqMappingS.l0_M
 intro rec ih x0_0 y h K hx0 hx1
 refine loop_unroll (ga_k fun G0 G0n G0r G0x => ?_)
 unfold C31_l0
 refine seq_k fun J9 hJ9 => ?_
 refine sr_k fun J10 hJ10 => ?_
 simp +decide only [Nat.reduceAdd, Nat.reduceMul, Int.reduceToNat, ak]
 refine hJ10 _ ?_
 refine cond_k (b := decide (x0_0 < (l0.length : Int))) rfl (fun c11 => ?_) (fun c11 => ?_)
 ·replace c11 := of_decide_eq_true c11; rw [if_pos c11] at h
  refine hJ9 _ ?_
  refine seq_k fun J12 hJ12 => ?_
  refine block_k fun B13 B13n B13x B13r B13j => ?_
  refine sd_k fun J14 hJ14 => ?_
  obtain ⟨b15, h⟩ := of_guard h
  have g16 : (List.drop (o0 + x0_0.toNat * 5) (cs0)).take 5 = [.sc (.int .u64 ((rd z84 l0 x0_0).f0)), .sc (.int .i64 ((rd z84 l0 x0_0).f1)), .sc (.int .i64 ((rd z84 l0 x0_0).f2)), .sc (.int .i64 ((rd z84 l0 x0_0).f3)), .sc (.int .i64 ((rd z84 l0 x0_0).f4))] := hv0.stretch z84 b15.1 b15.2
  obtain ⟨b17, h⟩ := of_guard h
  have g18 : (List.drop (o1 + x0_0.toNat * 5) (cs1)).take 5 = [.sc (.int .u64 ((rd z84 l1 x0_0).f0)), .sc (.int .i64 ((rd z84 l1 x0_0).f1)), .sc (.int .i64 ((rd z84 l1 x0_0).f2)), .sc (.int .i64 ((rd z84 l1 x0_0).f3)), .sc (.int .i64 ((rd z84 l1 x0_0).f4))] := hv1.stretch z84 b17.1 b17.2
  simp +decide only [Nat.reduceAdd, Nat.reduceMul, Int.reduceToNat, ak, b15, g16, b17, g18]
  obtain ⟨t19, h20, h⟩ := of_bind h
  refine alt_e ?_
  ·simp +decide only [Nat.reduceAdd, Nat.reduceMul, Int.reduceToNat, ak]
   refine call_m [] (s0 := []) (by intro t ht; cases ht; decide) rfl rfl (by first | rfl | simp only [reduceCtorEq, Nat.reduceEqDiff, ak, akF, b15, b17, g16, g18]) (laws_eqMapping.tri ((rd z84 l0 x0_0).f0) ((rd z84 l0 x0_0).f1) ((rd z84 l0 x0_0).f2) ((rd z84 l0 x0_0).f3) ((rd z84 l0 x0_0).f4) ((rd z84 l1 x0_0).f0) ((rd z84 l1 x0_0).f1) ((rd z84 l1 x0_0).f2) ((rd z84 l1 x0_0).f3) ((rd z84 l1 x0_0).f4) _ h20) (by first | rfl | simp only [reduceCtorEq, Nat.reduceEqDiff, ak, akF]) (by simp [bkOk2, memK]) (fun hl21 => ?_)
   refine call_st (s4 := [(.arg 0, ⟨.fz, 5, cs0⟩), (.arg 1, ⟨.fz, 5, cs1⟩)]) (m1' := []) (m2' := []) (v' := .c (.sc (.bool t19))) (Sto.mapN_killNil _ _) (mrgL_nil' _ _ _) (by rfl) (mapT_killNil _ _) (by rfl) (by rfl) (by first | rfl | simp only [reduceCtorEq, Nat.reduceEqDiff, ak, akF, Nat.zero_add, List.append_nil, b15, b17]) ?_
   simp +decide only [Nat.reduceAdd, Nat.reduceMul, Int.reduceToNat, ak]
   refine hJ14 _ ?_
   refine cond_k (b := !t19) rfl (fun c23 => ?_) (fun c23 => ?_)
   ·rw [if_pos c23] at h
    refine sr_k fun J24 hJ24 => ?_
    simp +decide only [Nat.reduceAdd, Nat.reduceMul, Int.reduceToNat, ak]
    refine hJ24 _ ?_
    obtain rfl := Option.some.inj h
    refine gh_k (wk [4] [pI (.arg 0) .fz, pI (.arg 1) .fz]) ?_
    refine B13r _ ?_
    refine G0r _ ?_
    exact hx1 _ rfl
   ·rw [if_neg (Bool.eq_false_iff.1 c23)] at h
    refine B13n _ ?_
    refine hJ12 _ ?_
    refine reg_k ?_
    simp +decide only [Nat.reduceAdd, Nat.reduceMul, Int.reduceToNat, ak]
    refine G0n _ _ (wk [0, 1, 5] [pI (.arg 0) .fz, pI (.arg 1) .fz]) (ih _ _ h K hx0 hx1)
 ·replace c11 := of_decide_eq_false c11; rw [if_neg c11] at h
  obtain rfl := Option.some.inj h
  refine gh_k (wk [] [pI (.arg 0) .fz, pI (.arg 1) .fz]) ?_
  refine G0x _ _ ?_
  exact hx0 _ rfl
theorem laws_eqMappingS.tri (cs0 : List Cell) (o0 : Nat) (l0 : List S84) (hv0 : Vw c84 5 cs0 o0 l0) (cs1 : List Cell) (o1 : Nat) (l1 : List S84) (hv1 : Vw c84 5 cs1 o1 l1) (r : Bool) (h : laws_eqMappingS.f l0 l1 = some r) : Tri Try.prog 31 [.c (.ref (.arg 0) [] o0 l0.length), .c (.ref (.arg 1) [] o1 l1.length)] [(.arg 0, ⟨.fz, 5, cs0⟩), (.arg 1, ⟨.fz, 5, cs1⟩)] (fun o => o = ⟨.c (.sc (.bool r)), [(.arg 0, ⟨.fz, 5, cs0⟩), (.arg 1, ⟨.fz, 5, cs1⟩)], [], []⟩) := by
 refine tri_of_body (ac := C31) (xs := r31) Try.func31 (show Try.f31.body = some (Try.f31.body.getD .skip) from rfl) k31 q31 (Nat.le_of_ble_eq_true rfl) ?_
 refine body_of fun K hKn hKr => ?_
 unfold laws_eqMappingS.f at h
 unfold C31
 simp only [initT, Nat.reduceAdd]
 refine sr_k fun J1 hJ1 => ?_
 simp +decide only [Nat.reduceAdd, Nat.reduceMul, Int.reduceToNat, ak]
 refine hJ1 _ ?_
 refine seq_k fun J2 hJ2 => ?_
 refine sr_k fun J3 hJ3 => ?_
 simp +decide only [Nat.reduceAdd, Nat.reduceMul, Int.reduceToNat, ak]
 refine hJ3 _ ?_
 refine cond_k (b := decide ((l0.length : Int) ≠ (l1.length : Int))) rfl (fun c4 => ?_) (fun c4 => ?_)
 ·replace c4 := of_decide_eq_true c4; rw [if_pos c4] at h
  refine sr_k fun J5 hJ5 => ?_
  simp +decide only [Nat.reduceAdd, Nat.reduceMul, Int.reduceToNat, ak]
  refine hJ5 _ ?_
  obtain rfl := Option.some.inj h
  refine hKr _ ⟨_, rfl, [], _, rfl, rfl, ?_⟩
  first | rfl | (simp only [reduceCtorEq, Nat.reduceEqDiff, ak, akF]; done) | (simp [reduceCtorEq, Nat.reduceEqDiff, ak, akF] <;> omega)
 ·replace c4 := of_decide_eq_false c4; rw [if_neg c4] at h
  refine hJ2 _ ?_
  refine seq_k fun J6 hJ6 => ?_
  refine sr_k fun J7 hJ7 => ?_
  simp +decide only [Nat.reduceAdd, Nat.reduceMul, Int.reduceToNat, ak]
  refine hJ7 _ ?_
  refine block_k fun B8 B8n B8x B8r B8j => ?_
  obtain ⟨y25, h26, h⟩ := of_bind h
  refine gh_k (wk [0, 1, 5] [pI (.arg 0) .fz, pI (.arg 1) .fz]) ?_
  rw [e_loop]
  refine laws_eqMappingS.l0_walk cs0 o0 l0 hv0 cs1 o1 l1 hv1 0 _ h26 _ ?_ ?_
  ·rintro x27 rfl
   dsimp only at h
   refine B8x _ ?_
   refine hJ6 _ ?_
   refine sr_k fun J28 hJ28 => ?_
   simp +decide only [Nat.reduceAdd, Nat.reduceMul, Int.reduceToNat, ak]
   refine hJ28 _ ?_
   obtain rfl := Option.some.inj h
   refine hKr _ ⟨_, rfl, [], _, rfl, rfl, ?_⟩
   first | rfl | (simp only [reduceCtorEq, Nat.reduceEqDiff, ak, akF]; done) | (simp [reduceCtorEq, Nat.reduceEqDiff, ak, akF] <;> omega)
  ·rintro x27 rfl
   dsimp only at h
   refine B8r _ ?_
   obtain rfl := Option.some.inj h
   refine hKr _ ⟨_, rfl, [], _, rfl, rfl, ?_⟩
   first | rfl | (simp only [reduceCtorEq, Nat.reduceEqDiff, ak, akF]; done) | (simp [reduceCtorEq, Nat.reduceEqDiff, ak, akF] <;> omega)
/-! ### laws.eqSchedInput: function 50 -/
def C50 : AC := .seq (.reg [.op none (.box 2 (.tmp 0)), .op none (.box 3 (.tmp 1)), .op none (.mv 4 (.const (.bool false))), .keep [2, 3]]) (.seq (.seq (.reg [.op none (.faddr 5 0 (.tmp 2)), .op none (.load 6 false 1 (.tmp 5)), .op none (.faddr 7 0 (.tmp 3)), .op none (.load 8 false 1 (.tmp 7)), .op none (.bin 9 .neq (.tmp 6) (.tmp 8)), .keep [2, 3, 9]]) (.cond (.tmp 9) (.seq (.reg [.op none (.mv 4 (.const (.bool false))), .keep [4]]) (.ret)) (.skip))) (.seq (.seq (.reg [.op none (.faddr 10 1 (.tmp 2)), .op none (.load 11 false 1 (.tmp 10)), .op none (.faddr 12 1 (.tmp 3)), .op none (.load 13 false 1 (.tmp 12)), .op none (.bin 14 .neq (.tmp 11) (.tmp 13)), .keep [2, 3, 14]]) (.cond (.tmp 14) (.seq (.reg [.op none (.mv 4 (.const (.bool false))), .keep [4]]) (.ret)) (.skip))) (.seq (.seq (.reg [.op none (.faddr 15 2 (.tmp 2)), .op none (.load 16 false 1 (.tmp 15)), .op none (.faddr 17 2 (.tmp 3)), .op none (.load 18 false 1 (.tmp 17)), .call none (some 19) 40 [.tmp 16, .tmp 18], .op none (.un 20 .not (.tmp 19)), .keep [2, 3, 20]]) (.cond (.tmp 20) (.seq (.reg [.op none (.mv 4 (.const (.bool false))), .keep [4]]) (.ret)) (.skip))) (.seq (.seq (.reg [.op none (.faddr 21 3 (.tmp 2)), .op none (.load 22 false 1 (.tmp 21)), .op none (.faddr 23 3 (.tmp 3)), .op none (.load 24 false 1 (.tmp 23)), .call none (some 25) 41 [.tmp 22, .tmp 24], .op none (.un 26 .not (.tmp 25)), .keep [2, 3, 26]]) (.cond (.tmp 26) (.seq (.reg [.op none (.mv 4 (.const (.bool false))), .keep [4]]) (.ret)) (.skip))) (.seq (.seq (.reg [.op none (.faddr 27 4 (.tmp 2)), .op none (.load 28 false 1 (.tmp 27)), .op none (.faddr 29 4 (.tmp 3)), .op none (.load 30 false 1 (.tmp 29)), .call none (some 31) 31 [.tmp 28, .tmp 30], .op none (.un 32 .not (.tmp 31)), .keep [2, 3, 32]]) (.cond (.tmp 32) (.seq (.reg [.op none (.mv 4 (.const (.bool false))), .keep [4]]) (.ret)) (.skip))) (.seq (.seq (.reg [.op none (.faddr 33 5 (.tmp 2)), .op none (.load 34 false 1 (.tmp 33)), .op none (.faddr 35 5 (.tmp 3)), .op none (.load 36 false 1 (.tmp 35)), .op none (.bin 37 .neq (.tmp 34) (.tmp 36)), .keep [2, 3, 37]]) (.cond (.tmp 37) (.seq (.reg [.op none (.mv 4 (.const (.bool false))), .keep [4]]) (.ret)) (.skip))) (.seq (.seq (.reg [.op none (.faddr 38 6 (.tmp 2)), .op none (.load 39 false 1 (.tmp 38)), .op none (.faddr 40 6 (.tmp 3)), .op none (.load 41 false 1 (.tmp 40)), .op none (.bin 42 .neq (.tmp 39) (.tmp 41)), .keep [2, 3, 42]]) (.cond (.tmp 42) (.seq (.reg [.op none (.mv 4 (.const (.bool false))), .keep [4]]) (.ret)) (.skip))) (.seq (.seq (.reg [.op none (.faddr 43 7 (.tmp 2)), .op none (.load 44 false 1 (.tmp 43)), .op none (.faddr 45 7 (.tmp 3)), .op none (.load 46 false 1 (.tmp 45)), .op none (.bin 47 .neq (.tmp 44) (.tmp 46)), .keep [2, 3, 47]]) (.cond (.tmp 47) (.seq (.reg [.op none (.mv 4 (.const (.bool false))), .keep [4]]) (.ret)) (.skip))) (.seq (.seq (.reg [.op none (.faddr 48 8 (.tmp 2)), .op none (.load 49 false 1 (.tmp 48)), .op none (.faddr 50 8 (.tmp 3)), .op none (.load 51 false 1 (.tmp 50)), .op none (.bin 52 .neq (.tmp 49) (.tmp 51)), .keep [2, 3, 52]]) (.cond (.tmp 52) (.seq (.reg [.op none (.mv 4 (.const (.bool false))), .keep [4]]) (.ret)) (.skip))) (.seq (.seq (.reg [.op none (.faddr 53 9 (.tmp 2)), .op none (.load 54 false 1 (.tmp 53)), .op none (.faddr 55 9 (.tmp 3)), .op none (.load 56 false 1 (.tmp 55)), .op none (.bin 57 .neq (.tmp 54) (.tmp 56)), .keep [2, 3, 57]]) (.cond (.tmp 57) (.seq (.reg [.op none (.mv 4 (.const (.bool false))), .keep [4]]) (.ret)) (.skip))) (.seq (.seq (.reg [.op none (.faddr 58 10 (.tmp 2)), .op none (.load 59 false 1 (.tmp 58)), .op none (.faddr 60 10 (.tmp 3)), .op none (.load 61 false 1 (.tmp 60)), .op none (.bin 62 .neq (.tmp 59) (.tmp 61)), .keep [2, 3, 62]]) (.cond (.tmp 62) (.seq (.reg [.op none (.mv 4 (.const (.bool false))), .keep [4]]) (.ret)) (.skip))) (.seq (.seq (.reg [.op none (.faddr 63 11 (.tmp 2)), .op none (.load 64 false 1 (.tmp 63)), .op none (.faddr 65 11 (.tmp 3)), .op none (.load 66 false 1 (.tmp 65)), .op none (.bin 67 .neq (.tmp 64) (.tmp 66)), .keep [67]]) (.cond (.tmp 67) (.seq (.reg [.op none (.mv 4 (.const (.bool false))), .keep [4]]) (.ret)) (.skip))) (.seq (.reg [.op none (.mv 4 (.const (.bool true))), .keep [4]]) (.ret))))))))))))))
def r50 : List RV := [.tmp 4]
theorem k50 : compC Try.prog 68 C50 (Try.f50.body.getD .skip) = some C50.erase := by kernel_rfl
theorem q50 : rvsOf Try.prog Try.f50.results.toList = some r50 := by kernel_rfl
def laws_eqSchedInput.f (a0_0 : Int) (a0_1 : Int) (l0_2 : List Int) (l0_3 : List S86) (l0_4 : List S84) (a0_5 : Int) (a0_6 : Int) (a0_7 : Int) (a0_8 : Int) (a0_9 : Int) (a0_10 : Int) (a0_11 : Int) (a1_0 : Int) (a1_1 : Int) (l1_2 : List Int) (l1_3 : List S86) (l1_4 : List S84) (a1_5 : Int) (a1_6 : Int) (a1_7 : Int) (a1_8 : Int) (a1_9 : Int) (a1_10 : Int) (a1_11 : Int) : Option Bool := (if a0_0 ≠ a1_0 then (some false) else (if a0_1 ≠ a1_1 then (some false) else (laws_eqInt64S.f l0_2 l1_2 >>= fun t12 => (if (!t12) = true then (some false) else (laws_eqPathViewS.f l0_3 l1_3 >>= fun t19 => (if (!t19) = true then (some false) else (laws_eqMappingS.f l0_4 l1_4 >>= fun t26 => (if (!t26) = true then (some false) else (if a0_5 ≠ a1_5 then (some false) else (if a0_6 ≠ a1_6 then (some false) else (if a0_7 ≠ a1_7 then (some false) else (if a0_8 ≠ a1_8 then (some false) else (if a0_9 ≠ a1_9 then (some false) else (if a0_10 ≠ a1_10 then (some false) else (if a0_11 ≠ a1_11 then (some false) else (some true))))))))))))))))
theorem laws_eqSchedInput.tri (cs0 : List Cell) (o0 : Nat) (l0_2 : List Int) (hv0 : Vw c_i64 1 cs0 o0 l0_2) (cs1 : List Cell) (o1 : Nat) (l0_3 : List S86) (hv1 : Vw c86 3 cs1 o1 l0_3) (cs2 : List Cell) (o2 : Nat) (l0_4 : List S84) (hv2 : Vw c84 5 cs2 o2 l0_4) (cs3 : List Cell) (o3 : Nat) (l1_2 : List Int) (hv3 : Vw c_i64 1 cs3 o3 l1_2) (cs4 : List Cell) (o4 : Nat) (l1_3 : List S86) (hv4 : Vw c86 3 cs4 o4 l1_3) (cs5 : List Cell) (o5 : Nat) (l1_4 : List S84) (hv5 : Vw c84 5 cs5 o5 l1_4) (a0_0 : Int) (a0_1 : Int) (a0_5 : Int) (a0_6 : Int) (a0_7 : Int) (a0_8 : Int) (a0_9 : Int) (a0_10 : Int) (a0_11 : Int) (a1_0 : Int) (a1_1 : Int) (a1_5 : Int) (a1_6 : Int) (a1_7 : Int) (a1_8 : Int) (a1_9 : Int) (a1_10 : Int) (a1_11 : Int) (r : Bool) (h : laws_eqSchedInput.f a0_0 a0_1 l0_2 l0_3 l0_4 a0_5 a0_6 a0_7 a0_8 a0_9 a0_10 a0_11 a1_0 a1_1 l1_2 l1_3 l1_4 a1_5 a1_6 a1_7 a1_8 a1_9 a1_10 a1_11 = some r) : Tri Try.prog 50 [.g [.sc (.int .i64 a0_0), .sc (.int .i64 a0_1), .ref (.arg 0) [] o0 l0_2.length, .ref (.arg 1) [] o1 l0_3.length, .ref (.arg 2) [] o2 l0_4.length, .sc (.int .i64 a0_5), .sc (.int .u64 a0_6), .sc (.int .u64 a0_7), .sc (.int .u64 a0_8), .sc (.int .i64 a0_9), .sc (.int .i64 a0_10), .sc (.int .i64 a0_11)], .g [.sc (.int .i64 a1_0), .sc (.int .i64 a1_1), .ref (.arg 3) [] o3 l1_2.length, .ref (.arg 4) [] o4 l1_3.length, .ref (.arg 5) [] o5 l1_4.length, .sc (.int .i64 a1_5), .sc (.int .u64 a1_6), .sc (.int .u64 a1_7), .sc (.int .u64 a1_8), .sc (.int .i64 a1_9), .sc (.int .i64 a1_10), .sc (.int .i64 a1_11)]] [(.arg 0, ⟨.fz, 1, cs0⟩), (.arg 1, ⟨.fz, 3, cs1⟩), (.arg 2, ⟨.fz, 5, cs2⟩), (.arg 3, ⟨.fz, 1, cs3⟩), (.arg 4, ⟨.fz, 3, cs4⟩), (.arg 5, ⟨.fz, 5, cs5⟩)] (fun o => o = ⟨.c (.sc (.bool r)), [(.arg 0, ⟨.fz, 1, cs0⟩), (.arg 1, ⟨.fz, 3, cs1⟩), (.arg 2, ⟨.fz, 5, cs2⟩), (.arg 3, ⟨.fz, 1, cs3⟩), (.arg 4, ⟨.fz, 3, cs4⟩), (.arg 5, ⟨.fz, 5, cs5⟩)], [], []⟩) := by
 refine tri_of_body (ac := C50) (xs := r50) Try.func50 (show Try.f50.body = some (Try.f50.body.getD .skip) from rfl) k50 q50 (Nat.le_of_ble_eq_true rfl) ?_
 refine body_of fun K hKn hKr => ?_
 unfold laws_eqSchedInput.f at h
 unfold C50
 simp only [initT, Nat.reduceAdd]
 refine sr_k fun J1 hJ1 => ?_
 simp +decide only [Nat.reduceAdd, Nat.reduceMul, Int.reduceToNat, ak]
 refine hJ1 _ ?_
 refine seq_k fun J2 hJ2 => ?_
 refine sr_k fun J3 hJ3 => ?_
 simp +decide only [Nat.reduceAdd, Nat.reduceMul, Int.reduceToNat, ak]
 refine hJ3 _ ?_
 refine cond_k (b := decide (a0_0 ≠ a1_0)) rfl (fun c4 => ?_) (fun c4 => ?_)
 ·replace c4 := of_decide_eq_true c4; rw [if_pos c4] at h
  refine sr_k fun J5 hJ5 => ?_
  simp +decide only [Nat.reduceAdd, Nat.reduceMul, Int.reduceToNat, ak]
  refine hJ5 _ ?_
  obtain rfl := Option.some.inj h
  refine hKr _ ⟨_, rfl, [], _, rfl, rfl, ?_⟩
  first | rfl | (simp only [reduceCtorEq, Nat.reduceEqDiff, ak, akF]; done) | (simp [reduceCtorEq, Nat.reduceEqDiff, ak, akF] <;> omega)
 ·replace c4 := of_decide_eq_false c4; rw [if_neg c4] at h
  refine hJ2 _ ?_
  refine seq_k fun J6 hJ6 => ?_
  refine sr_k fun J7 hJ7 => ?_
  simp +decide only [Nat.reduceAdd, Nat.reduceMul, Int.reduceToNat, ak]
  refine hJ7 _ ?_
  refine cond_k (b := decide (a0_1 ≠ a1_1)) rfl (fun c8 => ?_) (fun c8 => ?_)
  ·replace c8 := of_decide_eq_true c8; rw [if_pos c8] at h
   refine sr_k fun J9 hJ9 => ?_
   simp +decide only [Nat.reduceAdd, Nat.reduceMul, Int.reduceToNat, ak]
   refine hJ9 _ ?_
   obtain rfl := Option.some.inj h
   refine hKr _ ⟨_, rfl, [], _, rfl, rfl, ?_⟩
   first | rfl | (simp only [reduceCtorEq, Nat.reduceEqDiff, ak, akF]; done) | (simp [reduceCtorEq, Nat.reduceEqDiff, ak, akF] <;> omega)
  ·replace c8 := of_decide_eq_false c8; rw [if_neg c8] at h
   refine hJ6 _ ?_
   refine seq_k fun J10 hJ10 => ?_
   refine sr_k fun J11 hJ11 => ?_
   simp +decide only [Nat.reduceAdd, Nat.reduceMul, Int.reduceToNat, ak]
   obtain ⟨t12, h13, h⟩ := of_bind h
   refine call_m [(.arg 0, ⟨(.arg 0), [], none, .fz⟩), (.arg 1, ⟨(.arg 3), [], none, .fz⟩)] (s0 := [(.arg 0, ⟨.fz, 1, cs0⟩), (.arg 1, ⟨.fz, 1, cs3⟩)]) (by intro t ht; cases ht; decide) rfl rfl (by first | rfl | simp only [reduceCtorEq, Nat.reduceEqDiff, ak, akF]) (laws_eqInt64S.tri (cs0) o0 l0_2 hv0 (cs3) o3 l1_2 hv3 _ h13) (by first | rfl | simp only [reduceCtorEq, Nat.reduceEqDiff, ak, akF]) (by simp [bkOk2, memK]) (fun hl13 => ?_)
   refine call_st (s4 := [(.arg 0, ⟨.fz, 1, cs0⟩), (.arg 1, ⟨.fz, 3, cs1⟩), (.arg 2, ⟨.fz, 5, cs2⟩), (.arg 3, ⟨.fz, 1, cs3⟩), (.arg 4, ⟨.fz, 3, cs4⟩), (.arg 5, ⟨.fz, 5, cs5⟩), (.tmp 2 0, ⟨.box, 0, [.sc (.int .i64 a0_0), .sc (.int .i64 a0_1), .ref (.arg 0) [] o0 l0_2.length, .ref (.arg 1) [] o1 l0_3.length, .ref (.arg 2) [] o2 l0_4.length, .sc (.int .i64 a0_5), .sc (.int .u64 a0_6), .sc (.int .u64 a0_7), .sc (.int .u64 a0_8), .sc (.int .i64 a0_9), .sc (.int .i64 a0_10), .sc (.int .i64 a0_11)]⟩), (.tmp 3 0, ⟨.box, 0, [.sc (.int .i64 a1_0), .sc (.int .i64 a1_1), .ref (.arg 3) [] o3 l1_2.length, .ref (.arg 4) [] o4 l1_3.length, .ref (.arg 5) [] o5 l1_4.length, .sc (.int .i64 a1_5), .sc (.int .u64 a1_6), .sc (.int .u64 a1_7), .sc (.int .u64 a1_8), .sc (.int .i64 a1_9), .sc (.int .i64 a1_10), .sc (.int .i64 a1_11)]⟩)]) (m1' := []) (m2' := []) (v' := .c (.sc (.bool t12))) (Sto.mapN_killNil _ _) (mrgL_fz (mrgL_fz (mrgL_nil' _ _ _) rfl (by first | rfl | simp only [reduceCtorEq, Nat.reduceEqDiff, ak]) rfl (by intro R hR hh; cases hR; cases hh.2)) rfl (by first | rfl | simp only [reduceCtorEq, Nat.reduceEqDiff, ak]) rfl (by intro R hR hh; cases hR; cases hh.2)) (by rfl) (mapT_killNil _ _) (by rfl) (by rfl) (by first | rfl | simp only [reduceCtorEq, Nat.reduceEqDiff, ak, akF, Nat.zero_add, List.append_nil]) ?_
   simp +decide only [Nat.reduceAdd, Nat.reduceMul, Int.reduceToNat, ak]
   refine hJ11 _ ?_
   refine cond_k (b := !t12) rfl (fun c15 => ?_) (fun c15 => ?_)
   ·rw [if_pos c15] at h
    refine sr_k fun J16 hJ16 => ?_
    simp +decide only [Nat.reduceAdd, Nat.reduceMul, Int.reduceToNat, ak]
    refine hJ16 _ ?_
    obtain rfl := Option.some.inj h
    refine hKr _ ⟨_, rfl, [], _, rfl, rfl, ?_⟩
    first | rfl | (simp only [reduceCtorEq, Nat.reduceEqDiff, ak, akF]; done) | (simp [reduceCtorEq, Nat.reduceEqDiff, ak, akF] <;> omega)
   ·rw [if_neg (Bool.eq_false_iff.1 c15)] at h
    refine hJ10 _ ?_
    refine seq_k fun J17 hJ17 => ?_
    refine sr_k fun J18 hJ18 => ?_
    simp +decide only [Nat.reduceAdd, Nat.reduceMul, Int.reduceToNat, ak]
    obtain ⟨t19, h20, h⟩ := of_bind h
    refine call_m [(.arg 0, ⟨(.arg 1), [], none, .fz⟩), (.arg 1, ⟨(.arg 4), [], none, .fz⟩)] (s0 := [(.arg 0, ⟨.fz, 3, cs1⟩), (.arg 1, ⟨.fz, 3, cs4⟩)]) (by intro t ht; cases ht; decide) rfl rfl (by first | rfl | simp only [reduceCtorEq, Nat.reduceEqDiff, ak, akF]) (laws_eqPathViewS.tri (cs1) o1 l0_3 hv1 (cs4) o4 l1_3 hv4 _ h20) (by first | rfl | simp only [reduceCtorEq, Nat.reduceEqDiff, ak, akF]) (by simp [bkOk2, memK]) (fun hl20 => ?_)
    refine call_st (s4 := [(.arg 0, ⟨.fz, 1, cs0⟩), (.arg 1, ⟨.fz, 3, cs1⟩), (.arg 2, ⟨.fz, 5, cs2⟩), (.arg 3, ⟨.fz, 1, cs3⟩), (.arg 4, ⟨.fz, 3, cs4⟩), (.arg 5, ⟨.fz, 5, cs5⟩), (.tmp 2 0, ⟨.box, 0, [.sc (.int .i64 a0_0), .sc (.int .i64 a0_1), .ref (.arg 0) [] o0 l0_2.length, .ref (.arg 1) [] o1 l0_3.length, .ref (.arg 2) [] o2 l0_4.length, .sc (.int .i64 a0_5), .sc (.int .u64 a0_6), .sc (.int .u64 a0_7), .sc (.int .u64 a0_8), .sc (.int .i64 a0_9), .sc (.int .i64 a0_10), .sc (.int .i64 a0_11)]⟩), (.tmp 3 0, ⟨.box, 0, [.sc (.int .i64 a1_0), .sc (.int .i64 a1_1), .ref (.arg 3) [] o3 l1_2.length, .ref (.arg 4) [] o4 l1_3.length, .ref (.arg 5) [] o5 l1_4.length, .sc (.int .i64 a1_5), .sc (.int .u64 a1_6), .sc (.int .u64 a1_7), .sc (.int .u64 a1_8), .sc (.int .i64 a1_9), .sc (.int .i64 a1_10), .sc (.int .i64 a1_11)]⟩)]) (m1' := []) (m2' := []) (v' := .c (.sc (.bool t19))) (Sto.mapN_killNil _ _) (mrgL_fz (mrgL_fz (mrgL_nil' _ _ _) rfl (by first | rfl | simp only [reduceCtorEq, Nat.reduceEqDiff, ak]) rfl (by intro R hR hh; cases hR; cases hh.2)) rfl (by first | rfl | simp only [reduceCtorEq, Nat.reduceEqDiff, ak]) rfl (by intro R hR hh; cases hR; cases hh.2)) (by rfl) (mapT_killNil _ _) (by rfl) (by rfl) (by first | rfl | simp only [reduceCtorEq, Nat.reduceEqDiff, ak, akF, Nat.zero_add, List.append_nil]) ?_
    simp +decide only [Nat.reduceAdd, Nat.reduceMul, Int.reduceToNat, ak]
    refine hJ18 _ ?_
    refine cond_k (b := !t19) rfl (fun c22 => ?_) (fun c22 => ?_)
    ·rw [if_pos c22] at h
     refine sr_k fun J23 hJ23 => ?_
     simp +decide only [Nat.reduceAdd, Nat.reduceMul, Int.reduceToNat, ak]
     refine hJ23 _ ?_
     obtain rfl := Option.some.inj h
     refine hKr _ ⟨_, rfl, [], _, rfl, rfl, ?_⟩
     first | rfl | (simp only [reduceCtorEq, Nat.reduceEqDiff, ak, akF]; done) | (simp [reduceCtorEq, Nat.reduceEqDiff, ak, akF] <;> omega)
    ·rw [if_neg (Bool.eq_false_iff.1 c22)] at h
     refine hJ17 _ ?_
     refine seq_k fun J24 hJ24 => ?_
     refine sr_k fun J25 hJ25 => ?_
     simp +decide only [Nat.reduceAdd, Nat.reduceMul, Int.reduceToNat, ak]
     obtain ⟨t26, h27, h⟩ := of_bind h
     refine call_m [(.arg 0, ⟨(.arg 2), [], none, .fz⟩), (.arg 1, ⟨(.arg 5), [], none, .fz⟩)] (s0 := [(.arg 0, ⟨.fz, 5, cs2⟩), (.arg 1, ⟨.fz, 5, cs5⟩)]) (by intro t ht; cases ht; decide) rfl rfl (by first | rfl | simp only [reduceCtorEq, Nat.reduceEqDiff, ak, akF]) (laws_eqMappingS.tri (cs2) o2 l0_4 hv2 (cs5) o5 l1_4 hv5 _ h27) (by first | rfl | simp only [reduceCtorEq, Nat.reduceEqDiff, ak, akF]) (by simp [bkOk2, memK]) (fun hl27 => ?_)
     refine call_st (s4 := [(.arg 0, ⟨.fz, 1, cs0⟩), (.arg 1, ⟨.fz, 3, cs1⟩), (.arg 2, ⟨.fz, 5, cs2⟩), (.arg 3, ⟨.fz, 1, cs3⟩), (.arg 4, ⟨.fz, 3, cs4⟩), (.arg 5, ⟨.fz, 5, cs5⟩), (.tmp 2 0, ⟨.box, 0, [.sc (.int .i64 a0_0), .sc (.int .i64 a0_1), .ref (.arg 0) [] o0 l0_2.length, .ref (.arg 1) [] o1 l0_3.length, .ref (.arg 2) [] o2 l0_4.length, .sc (.int .i64 a0_5), .sc (.int .u64 a0_6), .sc (.int .u64 a0_7), .sc (.int .u64 a0_8), .sc (.int .i64 a0_9), .sc (.int .i64 a0_10), .sc (.int .i64 a0_11)]⟩), (.tmp 3 0, ⟨.box, 0, [.sc (.int .i64 a1_0), .sc (.int .i64 a1_1), .ref (.arg 3) [] o3 l1_2.length, .ref (.arg 4) [] o4 l1_3.length, .ref (.arg 5) [] o5 l1_4.length, .sc (.int .i64 a1_5), .sc (.int .u64 a1_6), .sc (.int .u64 a1_7), .sc (.int .u64 a1_8), .sc (.int .i64 a1_9), .sc (.int .i64 a1_10), .sc (.int .i64 a1_11)]⟩)]) (m1' := []) (m2' := []) (v' := .c (.sc (.bool t26))) (Sto.mapN_killNil _ _) (mrgL_fz (mrgL_fz (mrgL_nil' _ _ _) rfl (by first | rfl | simp only [reduceCtorEq, Nat.reduceEqDiff, ak]) rfl (by intro R hR hh; cases hR; cases hh.2)) rfl (by first | rfl | simp only [reduceCtorEq, Nat.reduceEqDiff, ak]) rfl (by intro R hR hh; cases hR; cases hh.2)) (by rfl) (mapT_killNil _ _) (by rfl) (by rfl) (by first | rfl | simp only [reduceCtorEq, Nat.reduceEqDiff, ak, akF, Nat.zero_add, List.append_nil]) ?_
     simp +decide only [Nat.reduceAdd, Nat.reduceMul, Int.reduceToNat, ak]
     refine hJ25 _ ?_
     refine cond_k (b := !t26) rfl (fun c29 => ?_) (fun c29 => ?_)
     ·rw [if_pos c29] at h
      refine sr_k fun J30 hJ30 => ?_
      simp +decide only [Nat.reduceAdd, Nat.reduceMul, Int.reduceToNat, ak]
      refine hJ30 _ ?_
      obtain rfl := Option.some.inj h
      refine hKr _ ⟨_, rfl, [], _, rfl, rfl, ?_⟩
      first | rfl | (simp only [reduceCtorEq, Nat.reduceEqDiff, ak, akF]; done) | (simp [reduceCtorEq, Nat.reduceEqDiff, ak, akF] <;> omega)
     ·rw [if_neg (Bool.eq_false_iff.1 c29)] at h
      refine hJ24 _ ?_
      refine seq_k fun J31 hJ31 => ?_
      refine sr_k fun J32 hJ32 => ?_
      simp +decide only [Nat.reduceAdd, Nat.reduceMul, Int.reduceToNat, ak]
      refine hJ32 _ ?_
      refine cond_k (b := decide (a0_5 ≠ a1_5)) rfl (fun c33 => ?_) (fun c33 => ?_)
      ·replace c33 := of_decide_eq_true c33; rw [if_pos c33] at h
       refine sr_k fun J34 hJ34 => ?_
       simp +decide only [Nat.reduceAdd, Nat.reduceMul, Int.reduceToNat, ak]
       refine hJ34 _ ?_
       obtain rfl := Option.some.inj h
       refine hKr _ ⟨_, rfl, [], _, rfl, rfl, ?_⟩
       first | rfl | (simp only [reduceCtorEq, Nat.reduceEqDiff, ak, akF]; done) | (simp [reduceCtorEq, Nat.reduceEqDiff, ak, akF] <;> omega)
      ·replace c33 := of_decide_eq_false c33; rw [if_neg c33] at h
       refine hJ31 _ ?_
       refine seq_k fun J35 hJ35 => ?_
       refine sr_k fun J36 hJ36 => ?_
       simp +decide only [Nat.reduceAdd, Nat.reduceMul, Int.reduceToNat, ak]
       refine hJ36 _ ?_
       refine cond_k (b := decide (a0_6 ≠ a1_6)) rfl (fun c37 => ?_) (fun c37 => ?_)
       ·replace c37 := of_decide_eq_true c37; rw [if_pos c37] at h
        refine sr_k fun J38 hJ38 => ?_
        simp +decide only [Nat.reduceAdd, Nat.reduceMul, Int.reduceToNat, ak]
        refine hJ38 _ ?_
        obtain rfl := Option.some.inj h
        refine hKr _ ⟨_, rfl, [], _, rfl, rfl, ?_⟩
        first | rfl | (simp only [reduceCtorEq, Nat.reduceEqDiff, ak, akF]; done) | (simp [reduceCtorEq, Nat.reduceEqDiff, ak, akF] <;> omega)
       ·replace c37 := of_decide_eq_false c37; rw [if_neg c37] at h
        refine hJ35 _ ?_
        refine seq_k fun J39 hJ39 => ?_
        refine sr_k fun J40 hJ40 => ?_
        simp +decide only [Nat.reduceAdd, Nat.reduceMul, Int.reduceToNat, ak]
        refine hJ40 _ ?_
        refine cond_k (b := decide (a0_7 ≠ a1_7)) rfl (fun c41 => ?_) (fun c41 => ?_)
        ·replace c41 := of_decide_eq_true c41; rw [if_pos c41] at h
         refine sr_k fun J42 hJ42 => ?_
         simp +decide only [Nat.reduceAdd, Nat.reduceMul, Int.reduceToNat, ak]
         refine hJ42 _ ?_
         obtain rfl := Option.some.inj h
         refine hKr _ ⟨_, rfl, [], _, rfl, rfl, ?_⟩
         first | rfl | (simp only [reduceCtorEq, Nat.reduceEqDiff, ak, akF]; done) | (simp [reduceCtorEq, Nat.reduceEqDiff, ak, akF] <;> omega)
        ·replace c41 := of_decide_eq_false c41; rw [if_neg c41] at h
         refine hJ39 _ ?_
         refine seq_k fun J43 hJ43 => ?_
         refine sr_k fun J44 hJ44 => ?_
         simp +decide only [Nat.reduceAdd, Nat.reduceMul, Int.reduceToNat, ak]
         refine hJ44 _ ?_
         refine cond_k (b := decide (a0_8 ≠ a1_8)) rfl (fun c45 => ?_) (fun c45 => ?_)
         ·replace c45 := of_decide_eq_true c45; rw [if_pos c45] at h
          refine sr_k fun J46 hJ46 => ?_
          simp +decide only [Nat.reduceAdd, Nat.reduceMul, Int.reduceToNat, ak]
          refine hJ46 _ ?_
          obtain rfl := Option.some.inj h
          refine hKr _ ⟨_, rfl, [], _, rfl, rfl, ?_⟩
          first | rfl | (simp only [reduceCtorEq, Nat.reduceEqDiff, ak, akF]; done) | (simp [reduceCtorEq, Nat.reduceEqDiff, ak, akF] <;> omega)
         ·replace c45 := of_decide_eq_false c45; rw [if_neg c45] at h
          refine hJ43 _ ?_
          refine seq_k fun J47 hJ47 => ?_
          refine sr_k fun J48 hJ48 => ?_
          simp +decide only [Nat.reduceAdd, Nat.reduceMul, Int.reduceToNat, ak]
          refine hJ48 _ ?_
          refine cond_k (b := decide (a0_9 ≠ a1_9)) rfl (fun c49 => ?_) (fun c49 => ?_)
          ·replace c49 := of_decide_eq_true c49; rw [if_pos c49] at h
           refine sr_k fun J50 hJ50 => ?_
           simp +decide only [Nat.reduceAdd, Nat.reduceMul, Int.reduceToNat, ak]
           refine hJ50 _ ?_
           obtain rfl := Option.some.inj h
           refine hKr _ ⟨_, rfl, [], _, rfl, rfl, ?_⟩
           first | rfl | (simp only [reduceCtorEq, Nat.reduceEqDiff, ak, akF]; done) | (simp [reduceCtorEq, Nat.reduceEqDiff, ak, akF] <;> omega)
          ·replace c49 := of_decide_eq_false c49; rw [if_neg c49] at h
           refine hJ47 _ ?_
           refine seq_k fun J51 hJ51 => ?_
           refine sr_k fun J52 hJ52 => ?_
           simp +decide only [Nat.reduceAdd, Nat.reduceMul, Int.reduceToNat, ak]
           refine hJ52 _ ?_
           refine cond_k (b := decide (a0_10 ≠ a1_10)) rfl (fun c53 => ?_) (fun c53 => ?_)
           ·replace c53 := of_decide_eq_true c53; rw [if_pos c53] at h
            refine sr_k fun J54 hJ54 => ?_
            simp +decide only [Nat.reduceAdd, Nat.reduceMul, Int.reduceToNat, ak]
            refine hJ54 _ ?_
            obtain rfl := Option.some.inj h
            refine hKr _ ⟨_, rfl, [], _, rfl, rfl, ?_⟩
            first | rfl | (simp only [reduceCtorEq, Nat.reduceEqDiff, ak, akF]; done) | (simp [reduceCtorEq, Nat.reduceEqDiff, ak, akF] <;> omega)
           ·replace c53 := of_decide_eq_false c53; rw [if_neg c53] at h
            refine hJ51 _ ?_
            refine seq_k fun J55 hJ55 => ?_
            refine sr_k fun J56 hJ56 => ?_
            simp +decide only [Nat.reduceAdd, Nat.reduceMul, Int.reduceToNat, ak]
            refine hJ56 _ ?_
            refine cond_k (b := decide (a0_11 ≠ a1_11)) rfl (fun c57 => ?_) (fun c57 => ?_)
            ·replace c57 := of_decide_eq_true c57; rw [if_pos c57] at h
             refine sr_k fun J58 hJ58 => ?_
             simp +decide only [Nat.reduceAdd, Nat.reduceMul, Int.reduceToNat, ak]
             refine hJ58 _ ?_
             obtain rfl := Option.some.inj h
             refine hKr _ ⟨_, rfl, [], _, rfl, rfl, ?_⟩
             first | rfl | (simp only [reduceCtorEq, Nat.reduceEqDiff, ak, akF]; done) | (simp [reduceCtorEq, Nat.reduceEqDiff, ak, akF] <;> omega)
            ·replace c57 := of_decide_eq_false c57; rw [if_neg c57] at h
             refine hJ55 _ ?_
             refine sr_k fun J59 hJ59 => ?_
             simp +decide only [Nat.reduceAdd, Nat.reduceMul, Int.reduceToNat, ak]
             refine hJ59 _ ?_
             obtain rfl := Option.some.inj h
             refine hKr _ ⟨_, rfl, [], _, rfl, rfl, ?_⟩
             first | rfl | (simp only [reduceCtorEq, Nat.reduceEqDiff, ak, akF]; done) | (simp [reduceCtorEq, Nat.reduceEqDiff, ak, akF] <;> omega)
/-! ### laws.markInt64S: function 43 -/
def C43_l0 : AC := .seq (.seq (.reg [.op none (.mv 6 (.tmp 5)), .op none (.mv 7 (.tmp 0)), .op none (.len 8 (.tmp 7)), .op none (.bin 9 .lss (.tmp 6) (.tmp 8)), .keep [0, 1, 5, 9]]) (.cond (.tmp 9) (.skip) (.gh (.exit 0)))) (.seq (.block 1 (.seq (.reg [.op none (.mv 12 (.tmp 0)), .op none (.mv 13 (.tmp 5)), .op none (.mv 14 (.tmp 1)), .op none (.iaddr 15 1 (.tmp 12) (.tmp 13)), .op none (.store 1 (.tmp 15) (.tmp 14)), .keep [0, 1, 5]]) (.reg [.op none (.mv 16 (.tmp 1)), .op none (.bin 17 .add (.tmp 16) (.const (.int .i64 1))), .op none (.mv 1 (.tmp 17)), .keep [0, 1, 5]]))) (.reg [.op none (.mv 10 (.tmp 5)), .op none (.bin 11 .add (.tmp 10) (.const (.int .i64 1))), .op none (.mv 5 (.tmp 11)), .keep [0, 1, 5]]))
def C43 : AC := .seq (.reg [.op none (.mv 4 (.const (.int .i64 0))), .keep [0, 1]]) (.seq (.seq (.reg [.op none (.mv 5 (.const (.int .i64 0))), .keep [0, 1, 5]]) (.block 0 (.gh (.loop (.ga C43_l0))))) (.seq (.reg [.op none (.mv 18 (.tmp 1)), .op none (.mv 4 (.tmp 18)), .keep [4]]) (.ret)))
def r43 : List RV := [.tmp 4]
theorem k43 : compC Try.prog 19 C43 (Try.f43.body.getD .skip) = some C43.erase := by kernel_rfl
theorem q43 : rvsOf Try.prog Try.f43.results.toList = some r43 := by kernel_rfl
def laws_markInt64S.l0 (x0_0 : Int) (x0_1 : Int) (x0_2 : (List Int)) : Option (Int × (List Int)) := (if x0_1 < (x0_2.length : Int) then (if 0 ≤ x0_1 ∧ x0_1 < (x0_2.length : Int) then (laws_markInt64S.l0 (IntKind.i64.wrap (x0_0 + 1)) (IntKind.i64.wrap (x0_1 + 1)) (x0_2.set x0_1.toNat x0_0)) else none) else (some (x0_0, x0_2)))
 partial_fixpoint
def laws_markInt64S.f (l0 : List Int) (a1 : Int) : Option (Int × (List Int)) := (laws_markInt64S.l0 a1 0 l0 >>= fun (y16 : (Int × (List Int))) => (some (y16.1, y16.2)))
def laws_markInt64S.l0_M (x0_0 : Int) (x0_1 : Int) (x0_2 : (List Int)) (y : (Int × (List Int))) : Prop := ∀ (K : AE → St → Prop), (K (.exit 0) ⟨[(1, .c (.sc (.int .i64 y.1)))], [(.arg 0, ⟨.lst, 1, encL c_i64 y.2⟩)], [], []⟩) → loopS Try.prog 19 (.ga C43_l0) K ⟨[(0, .c (.ref (.arg 0) [] 0 x0_2.length)), (1, .c (.sc (.int .i64 x0_0))), (5, .c (.sc (.int .i64 x0_1)))], [(.arg 0, ⟨.lst, 1, encL c_i64 x0_2⟩)], [], []⟩
theorem laws_markInt64S.l0_walk (x0_0 : Int) (x0_1 : Int) (x0_2 : (List Int)) (y : (Int × (List Int))) (h : laws_markInt64S.l0  x0_0 x0_1 x0_2 = some y) : laws_markInt64S.l0_M x0_0 x0_1 x0_2 y := by
 refine laws_markInt64S.l0.partial_correctness  (motive := fun x0_0 x0_1 x0_2 y => laws_markInt64S.l0_M x0_0 x0_1 x0_2 y) ?_ x0_0 x0_1 x0_2 y h
 clear h
 unfold laws_markInt64S.l0_M
 intro rec ih x0_0 x0_1 x0_2 y h K hx0
 refine loop_unroll (ga_k fun G0 G0n G0r G0x => ?_)
 unfold C43_l0
 refine seq_k fun J5 hJ5 => ?_
 refine sr_k fun J6 hJ6 => ?_
 simp +decide only [Nat.reduceAdd, Nat.reduceMul, Int.reduceToNat, ak]
 refine hJ6 _ ?_
 refine cond_k (b := decide (x0_1 < (x0_2.length : Int))) rfl (fun c7 => ?_) (fun c7 => ?_)
 ·replace c7 := of_decide_eq_true c7; rw [if_pos c7] at h
  refine hJ5 _ ?_
  refine seq_k fun J8 hJ8 => ?_
  refine block_k fun B9 B9n B9x B9r B9j => ?_
  refine sr_k fun J10 hJ10 => ?_
  obtain ⟨b11, h⟩ := of_guard h
  have g12 : 0 + x0_1.toNat * 1 + 1 ≤ (encL c_i64 x0_2).length := (Vw.whole c_i64_w x0_2).le b11.1 b11.2 (j := 0) (q := 1) (by decide)
  have g13 : 0 + x0_1.toNat * 1 < (encL c_i64 x0_2).length := (Vw.whole c_i64_w x0_2).lt b11.1 b11.2 (j := 0) (by decide)
  have g14 : (encL c_i64 x0_2)[0 + x0_1.toNat * 1]? = some (.sc (.int .i64 (rd 0 x0_2 x0_1))) := (Vw.whole c_i64_w x0_2).get 0 0 b11.1 b11.2 (by decide)
  have g15 : (encL c_i64 x0_2).set (0 + x0_1.toNat * 1) (.sc (.int .i64 x0_0)) = encL c_i64 (x0_2.set x0_1.toNat x0_0) := encL_put c_i64_w 0 b11.1 b11.2 (j := 0) (by decide) rfl
  simp +decide only [Nat.reduceAdd, Nat.reduceMul, Int.reduceToNat, ak, b11, g12, g13, g14, g15]
  refine hJ10 _ ?_
  refine reg_k ?_
  simp +decide only [Nat.reduceAdd, Nat.reduceMul, Int.reduceToNat, ak]
  refine B9n _ ?_
  refine hJ8 _ ?_
  refine reg_k ?_
  simp +decide only [Nat.reduceAdd, Nat.reduceMul, Int.reduceToNat, ak]
  refine G0n _ _ (wk [0, 1, 5] [pI (.arg 0) .lst] (h0 := by first | rfl | simp +decide only [ak, akF, b11]) (h := by first | rfl | (simp +decide only [ak, akF, b11]; done) | (simp +decide [ak, akF, b11] <;> omega))) (ih _ _ _ _ h K hx0)
 ·replace c7 := of_decide_eq_false c7; rw [if_neg c7] at h
  obtain rfl := Option.some.inj h
  refine gh_k (wk [1] [pI (.arg 0) .lst]) ?_
  refine G0x _ _ ?_
  exact hx0
theorem laws_markInt64S.tri (l0 : List Int) (a1 : Int) (r : Int × (List Int)) (h : laws_markInt64S.f l0 a1 = some r) : Tri Try.prog 43 [.c (.ref (.arg 0) [] 0 l0.length), .c (.sc (.int .i64 a1))] [(.arg 0, ⟨.lst, 1, encL c_i64 l0⟩)] (fun o => o = ⟨.c (.sc (.int .i64 r.1)), [(.arg 0, ⟨.lst, 1, encL c_i64 r.2⟩)], [], []⟩) := by
 refine tri_of_body (ac := C43) (xs := r43) Try.func43 (show Try.f43.body = some (Try.f43.body.getD .skip) from rfl) k43 q43 (Nat.le_of_ble_eq_true rfl) ?_
 refine body_of fun K hKn hKr => ?_
 unfold laws_markInt64S.f at h
 unfold C43
 simp only [initT, Nat.reduceAdd]
 refine sr_k fun J1 hJ1 => ?_
 simp +decide only [Nat.reduceAdd, Nat.reduceMul, Int.reduceToNat, ak]
 refine hJ1 _ ?_
 refine seq_k fun J2 hJ2 => ?_
 refine sr_k fun J3 hJ3 => ?_
 simp +decide only [Nat.reduceAdd, Nat.reduceMul, Int.reduceToNat, ak]
 refine hJ3 _ ?_
 refine block_k fun B4 B4n B4x B4r B4j => ?_
 obtain ⟨y16, h17, h⟩ := of_bind h
 refine gh_k (wk [0, 1, 5] [pI (.arg 0) .lst]) ?_
 rw [e_loop]
 refine laws_markInt64S.l0_walk a1 0 l0 _ h17 _ ?_
 refine B4x _ ?_
 refine hJ2 _ ?_
 refine sr_k fun J18 hJ18 => ?_
 simp +decide only [Nat.reduceAdd, Nat.reduceMul, Int.reduceToNat, ak]
 refine hJ18 _ ?_
 obtain rfl := Option.some.inj h
 refine hKr _ ⟨_, rfl, [], _, rfl, rfl, ?_⟩
 first | rfl | (simp only [reduceCtorEq, Nat.reduceEqDiff, ak, akF]; done) | (simp [reduceCtorEq, Nat.reduceEqDiff, ak, akF] <;> omega)
/-! ### laws.markPathViewS: function 42 -/
def C42_l0 : AC := .seq (.seq (.reg [.op none (.mv 6 (.tmp 5)), .op none (.mv 7 (.tmp 0)), .op none (.len 8 (.tmp 7)), .op none (.bin 9 .lss (.tmp 6) (.tmp 8)), .keep [0, 1, 5, 9]]) (.cond (.tmp 9) (.skip) (.gh (.exit 0)))) (.seq (.block 1 (.seq (.reg [.op none (.mv 12 (.tmp 0)), .op none (.mv 13 (.tmp 5)), .op none (.mv 14 (.tmp 1)), .op none (.iaddr 15 3 (.tmp 12) (.tmp 13)), .op none (.faddr 16 0 (.tmp 15)), .op none (.store 1 (.tmp 16) (.tmp 14)), .keep [0, 1, 5]]) (.seq (.reg [.op none (.mv 17 (.tmp 1)), .op none (.bin 18 .add (.tmp 17) (.const (.int .i64 1))), .op none (.mv 1 (.tmp 18)), .keep [0, 1, 5]]) (.seq (.reg [.op none (.mv 19 (.tmp 0)), .op none (.mv 20 (.tmp 5)), .op none (.mv 21 (.tmp 1)), .op none (.iaddr 22 3 (.tmp 19) (.tmp 20)), .op none (.faddr 23 1 (.tmp 22)), .op none (.store 1 (.tmp 23) (.tmp 21)), .keep [0, 1, 5]]) (.seq (.reg [.op none (.mv 24 (.tmp 1)), .op none (.bin 25 .add (.tmp 24) (.const (.int .i64 1))), .op none (.mv 1 (.tmp 25)), .keep [0, 1, 5]]) (.seq (.reg [.op none (.mv 26 (.tmp 0)), .op none (.mv 27 (.tmp 5)), .op none (.mv 28 (.tmp 1)), .op none (.iaddr 29 3 (.tmp 26) (.tmp 27)), .op none (.faddr 30 2 (.tmp 29)), .op none (.store 1 (.tmp 30) (.tmp 28)), .keep [0, 1, 5]]) (.reg [.op none (.mv 31 (.tmp 1)), .op none (.bin 32 .add (.tmp 31) (.const (.int .i64 1))), .op none (.mv 1 (.tmp 32)), .keep [0, 1, 5]]))))))) (.reg [.op none (.mv 10 (.tmp 5)), .op none (.bin 11 .add (.tmp 10) (.const (.int .i64 1))), .op none (.mv 5 (.tmp 11)), .keep [0, 1, 5]]))
def C42 : AC := .seq (.reg [.op none (.mv 4 (.const (.int .i64 0))), .keep [0, 1]]) (.seq (.seq (.reg [.op none (.mv 5 (.const (.int .i64 0))), .keep [0, 1, 5]]) (.block 0 (.gh (.loop (.ga C42_l0))))) (.seq (.reg [.op none (.mv 33 (.tmp 1)), .op none (.mv 4 (.tmp 33)), .keep [4]]) (.ret)))
def r42 : List RV := [.tmp 4]
theorem k42 : compC Try.prog 34 C42 (Try.f42.body.getD .skip) = some C42.erase := by kernel_rfl
theorem q42 : rvsOf Try.prog Try.f42.results.toList = some r42 := by kernel_rfl
def laws_markPathViewS.l0 (x0_0 : Int) (x0_1 : Int) (x0_2 : (List S86)) : Option (Int × (List S86)) := (if x0_1 < (x0_2.length : Int) then (if 0 ≤ x0_1 ∧ x0_1 < (x0_2.length : Int) then (laws_markPathViewS.l0 (IntKind.i64.wrap ((IntKind.i64.wrap ((IntKind.i64.wrap (x0_0 + 1)) + 1)) + 1)) (IntKind.i64.wrap (x0_1 + 1)) (x0_2.set x0_1.toNat (⟨x0_0, IntKind.i64.wrap (x0_0 + 1), IntKind.i64.wrap ((IntKind.i64.wrap (x0_0 + 1)) + 1)⟩ : S86))) else none) else (some (x0_0, x0_2)))
 partial_fixpoint
def laws_markPathViewS.f (l0 : List S86) (a1 : Int) : Option (Int × (List S86)) := (laws_markPathViewS.l0 a1 0 l0 >>= fun (y31 : (Int × (List S86))) => (some (y31.1, y31.2)))
def laws_markPathViewS.l0_M (x0_0 : Int) (x0_1 : Int) (x0_2 : (List S86)) (y : (Int × (List S86))) : Prop := ∀ (K : AE → St → Prop), (K (.exit 0) ⟨[(1, .c (.sc (.int .i64 y.1)))], [(.arg 0, ⟨.lst, 3, encL c86 y.2⟩)], [], []⟩) → loopS Try.prog 34 (.ga C42_l0) K ⟨[(0, .c (.ref (.arg 0) [] 0 x0_2.length)), (1, .c (.sc (.int .i64 x0_0))), (5, .c (.sc (.int .i64 x0_1)))], [(.arg 0, ⟨.lst, 3, encL c86 x0_2⟩)], [], []⟩
theorem laws_markPathViewS.l0_walk (x0_0 : Int) (x0_1 : Int) (x0_2 : (List S86)) (y : (Int × (List S86))) (h : laws_markPathViewS.l0  x0_0 x0_1 x0_2 = some y) : laws_markPathViewS.l0_M x0_0 x0_1 x0_2 y := by
 refine laws_markPathViewS.l0.partial_correctness  (motive := fun x0_0 x0_1 x0_2 y => laws_markPathViewS.l0_M x0_0 x0_1 x0_2 y) ?_ x0_0 x0_1 x0_2 y h
 clear h
 unfold laws_markPathViewS.l0_M
 intro rec ih x0_0 x0_1 x0_2 y h K hx0
 refine loop_unroll (ga_k fun G0 G0n G0r G0x => ?_)
 unfold C42_l0
 refine seq_k fun J5 hJ5 => ?_
 refine sr_k fun J6 hJ6 => ?_
 simp +decide only [Nat.reduceAdd, Nat.reduceMul, Int.reduceToNat, ak]
 refine hJ6 _ ?_
 refine cond_k (b := decide (x0_1 < (x0_2.length : Int))) rfl (fun c7 => ?_) (fun c7 => ?_)
 ·replace c7 := of_decide_eq_true c7; rw [if_pos c7] at h
  refine hJ5 _ ?_
  refine seq_k fun J8 hJ8 => ?_
  refine block_k fun B9 B9n B9x B9r B9j => ?_
  refine sr_k fun J10 hJ10 => ?_
  obtain ⟨b11, h⟩ := of_guard h
  have g12 : 0 + x0_1.toNat * 3 + 0 ≤ (encL c86 x0_2).length := ((Vw.whole c86_w x0_2).len_le b11.1 b11.2 (by decide))
  have g13 : 0 + x0_1.toNat * 3 + 0 + 1 ≤ (encL c86 x0_2).length := (Vw.whole c86_w x0_2).le b11.1 b11.2 (j := 0) (q := 1) (by decide)
  have g14 : 0 + x0_1.toNat * 3 + 0 < (encL c86 x0_2).length := (Vw.whole c86_w x0_2).lt b11.1 b11.2 (j := 0) (by decide)
  have g15 : (encL c86 x0_2)[0 + x0_1.toNat * 3 + 0]? = some (.sc (.int .i64 ((rd z86 x0_2 x0_1).f0))) := (Vw.whole c86_w x0_2).get z86 0 b11.1 b11.2 (by decide)
  have g16 : (encL c86 x0_2).set (0 + x0_1.toNat * 3 + 0) (.sc (.int .i64 x0_0)) = encL c86 (x0_2.set x0_1.toNat (⟨x0_0, (rd z86 x0_2 x0_1).f1, (rd z86 x0_2 x0_1).f2⟩ : S86)) := encL_put c86_w z86 b11.1 b11.2 (j := 0) (by decide) rfl
  simp +decide only [Nat.reduceAdd, Nat.reduceMul, Int.reduceToNat, ak, b11, g12, g13, g14, g15, g16]
  refine hJ10 _ ?_
  refine sr_k fun J17 hJ17 => ?_
  simp +decide only [Nat.reduceAdd, Nat.reduceMul, Int.reduceToNat, ak]
  refine hJ17 _ ?_
  refine sr_k fun J18 hJ18 => ?_
  have g19 : 0 + x0_1.toNat * 3 + 1 ≤ (encL c86 (x0_2.set x0_1.toNat (⟨x0_0, (rd z86 x0_2 x0_1).f1, (rd z86 x0_2 x0_1).f2⟩ : S86))).length := ((Vw.whole c86_w (x0_2.set x0_1.toNat (⟨x0_0, (rd z86 x0_2 x0_1).f1, (rd z86 x0_2 x0_1).f2⟩ : S86))).len_le b11.1 (lt_len b11.2 (by simp)) (by decide))
  have g20 : 0 + x0_1.toNat * 3 + 1 + 1 ≤ (encL c86 (x0_2.set x0_1.toNat (⟨x0_0, (rd z86 x0_2 x0_1).f1, (rd z86 x0_2 x0_1).f2⟩ : S86))).length := (Vw.whole c86_w (x0_2.set x0_1.toNat (⟨x0_0, (rd z86 x0_2 x0_1).f1, (rd z86 x0_2 x0_1).f2⟩ : S86))).le b11.1 (lt_len b11.2 (by simp)) (j := 1) (q := 1) (by decide)
  have g21 : 0 + x0_1.toNat * 3 + 1 < (encL c86 (x0_2.set x0_1.toNat (⟨x0_0, (rd z86 x0_2 x0_1).f1, (rd z86 x0_2 x0_1).f2⟩ : S86))).length := encL_put_lt c86_w (⟨x0_0, (rd z86 x0_2 x0_1).f1, (rd z86 x0_2 x0_1).f2⟩ : S86) b11.1 b11.2 (j := 1) (by decide)
  have g22 : (encL c86 (x0_2.set x0_1.toNat (⟨x0_0, (rd z86 x0_2 x0_1).f1, (rd z86 x0_2 x0_1).f2⟩ : S86)))[0 + x0_1.toNat * 3 + 1]? = some (.sc (.int .i64 ((rd z86 x0_2 x0_1).f1))) := encL_put_get c86_w (⟨x0_0, (rd z86 x0_2 x0_1).f1, (rd z86 x0_2 x0_1).f2⟩ : S86) b11.1 b11.2 (j := 1) (by decide)
  have g23 : (encL c86 (x0_2.set x0_1.toNat (⟨x0_0, (rd z86 x0_2 x0_1).f1, (rd z86 x0_2 x0_1).f2⟩ : S86))).set (0 + x0_1.toNat * 3 + 1) (.sc (.int .i64 (IntKind.i64.wrap (x0_0 + 1)))) = encL c86 (x0_2.set x0_1.toNat (⟨x0_0, IntKind.i64.wrap (x0_0 + 1), (rd z86 x0_2 x0_1).f2⟩ : S86)) := encL_put2 c86_w b11.1 b11.2 (j := 1) (by decide) rfl
  simp +decide only [Nat.reduceAdd, Nat.reduceMul, Int.reduceToNat, ak, b11, g19, g20, g21, g22, g23]
  refine hJ18 _ ?_
  refine sr_k fun J24 hJ24 => ?_
  simp +decide only [Nat.reduceAdd, Nat.reduceMul, Int.reduceToNat, ak]
  refine hJ24 _ ?_
  refine sr_k fun J25 hJ25 => ?_
  have g26 : 0 + x0_1.toNat * 3 + 2 ≤ (encL c86 (x0_2.set x0_1.toNat (⟨x0_0, IntKind.i64.wrap (x0_0 + 1), (rd z86 x0_2 x0_1).f2⟩ : S86))).length := ((Vw.whole c86_w (x0_2.set x0_1.toNat (⟨x0_0, IntKind.i64.wrap (x0_0 + 1), (rd z86 x0_2 x0_1).f2⟩ : S86))).len_le b11.1 (lt_len b11.2 (by simp)) (by decide))
  have g27 : 0 + x0_1.toNat * 3 + 2 + 1 ≤ (encL c86 (x0_2.set x0_1.toNat (⟨x0_0, IntKind.i64.wrap (x0_0 + 1), (rd z86 x0_2 x0_1).f2⟩ : S86))).length := (Vw.whole c86_w (x0_2.set x0_1.toNat (⟨x0_0, IntKind.i64.wrap (x0_0 + 1), (rd z86 x0_2 x0_1).f2⟩ : S86))).le b11.1 (lt_len b11.2 (by simp)) (j := 2) (q := 1) (by decide)
  have g28 : 0 + x0_1.toNat * 3 + 2 < (encL c86 (x0_2.set x0_1.toNat (⟨x0_0, IntKind.i64.wrap (x0_0 + 1), (rd z86 x0_2 x0_1).f2⟩ : S86))).length := encL_put_lt c86_w (⟨x0_0, IntKind.i64.wrap (x0_0 + 1), (rd z86 x0_2 x0_1).f2⟩ : S86) b11.1 b11.2 (j := 2) (by decide)
  have g29 : (encL c86 (x0_2.set x0_1.toNat (⟨x0_0, IntKind.i64.wrap (x0_0 + 1), (rd z86 x0_2 x0_1).f2⟩ : S86)))[0 + x0_1.toNat * 3 + 2]? = some (.sc (.int .i64 ((rd z86 x0_2 x0_1).f2))) := encL_put_get c86_w (⟨x0_0, IntKind.i64.wrap (x0_0 + 1), (rd z86 x0_2 x0_1).f2⟩ : S86) b11.1 b11.2 (j := 2) (by decide)
  have g30 : (encL c86 (x0_2.set x0_1.toNat (⟨x0_0, IntKind.i64.wrap (x0_0 + 1), (rd z86 x0_2 x0_1).f2⟩ : S86))).set (0 + x0_1.toNat * 3 + 2) (.sc (.int .i64 (IntKind.i64.wrap ((IntKind.i64.wrap (x0_0 + 1)) + 1)))) = encL c86 (x0_2.set x0_1.toNat (⟨x0_0, IntKind.i64.wrap (x0_0 + 1), IntKind.i64.wrap ((IntKind.i64.wrap (x0_0 + 1)) + 1)⟩ : S86)) := encL_put2 c86_w b11.1 b11.2 (j := 2) (by decide) rfl
  simp +decide only [Nat.reduceAdd, Nat.reduceMul, Int.reduceToNat, ak, b11, g26, g27, g28, g29, g30]
  refine hJ25 _ ?_
  refine reg_k ?_
  simp +decide only [Nat.reduceAdd, Nat.reduceMul, Int.reduceToNat, ak]
  refine B9n _ ?_
  refine hJ8 _ ?_
  refine reg_k ?_
  simp +decide only [Nat.reduceAdd, Nat.reduceMul, Int.reduceToNat, ak]
  refine G0n _ _ (wk [0, 1, 5] [pI (.arg 0) .lst] (h0 := by first | rfl | simp +decide only [ak, akF, b11]) (h := by first | rfl | (simp +decide only [ak, akF, b11]; done) | (simp +decide [ak, akF, b11] <;> omega))) (ih _ _ _ _ h K hx0)
 ·replace c7 := of_decide_eq_false c7; rw [if_neg c7] at h
  obtain rfl := Option.some.inj h
  refine gh_k (wk [1] [pI (.arg 0) .lst]) ?_
  refine G0x _ _ ?_
  exact hx0
theorem laws_markPathViewS.tri (l0 : List S86) (a1 : Int) (r : Int × (List S86)) (h : laws_markPathViewS.f l0 a1 = some r) : Tri Try.prog 42 [.c (.ref (.arg 0) [] 0 l0.length), .c (.sc (.int .i64 a1))] [(.arg 0, ⟨.lst, 3, encL c86 l0⟩)] (fun o => o = ⟨.c (.sc (.int .i64 r.1)), [(.arg 0, ⟨.lst, 3, encL c86 r.2⟩)], [], []⟩) := by
 refine tri_of_body (ac := C42) (xs := r42) Try.func42 (show Try.f42.body = some (Try.f42.body.getD .skip) from rfl) k42 q42 (Nat.le_of_ble_eq_true rfl) ?_
 refine body_of fun K hKn hKr => ?_
 unfold laws_markPathViewS.f at h
 unfold C42
 simp only [initT, Nat.reduceAdd]
 refine sr_k fun J1 hJ1 => ?_
 simp +decide only [Nat.reduceAdd, Nat.reduceMul, Int.reduceToNat, ak]
 refine hJ1 _ ?_
 refine seq_k fun J2 hJ2 => ?_
 refine sr_k fun J3 hJ3 => ?_
 simp +decide only [Nat.reduceAdd, Nat.reduceMul, Int.reduceToNat, ak]
 refine hJ3 _ ?_
 refine block_k fun B4 B4n B4x B4r B4j => ?_
 obtain ⟨y31, h32, h⟩ := of_bind h
 refine gh_k (wk [0, 1, 5] [pI (.arg 0) .lst]) ?_
 rw [e_loop]
 refine laws_markPathViewS.l0_walk a1 0 l0 _ h32 _ ?_
 refine B4x _ ?_
 refine hJ2 _ ?_
 refine sr_k fun J33 hJ33 => ?_
 simp +decide only [Nat.reduceAdd, Nat.reduceMul, Int.reduceToNat, ak]
 refine hJ33 _ ?_
 obtain rfl := Option.some.inj h
 refine hKr _ ⟨_, rfl, [], _, rfl, rfl, ?_⟩
 first | rfl | (simp only [reduceCtorEq, Nat.reduceEqDiff, ak, akF]; done) | (simp [reduceCtorEq, Nat.reduceEqDiff, ak, akF] <;> omega)
/-! ### laws.markMappingS: function 32 -/
def C32_l0 : AC := .seq (.seq (.reg [.op none (.mv 6 (.tmp 5)), .op none (.mv 7 (.tmp 0)), .op none (.len 8 (.tmp 7)), .op none (.bin 9 .lss (.tmp 6) (.tmp 8)), .keep [0, 1, 5, 9]]) (.cond (.tmp 9) (.skip) (.gh (.exit 0)))) (.seq (.block 1 (.seq (.reg [.op none (.mv 12 (.tmp 0)), .op none (.mv 13 (.tmp 5)), .op none (.mv 14 (.tmp 1)), .op none (.conv 15 .u64 (.tmp 14)), .op none (.iaddr 16 5 (.tmp 12) (.tmp 13)), .op none (.faddr 17 0 (.tmp 16)), .op none (.store 1 (.tmp 17) (.tmp 15)), .keep [0, 1, 5]]) (.seq (.reg [.op none (.mv 18 (.tmp 1)), .op none (.bin 19 .add (.tmp 18) (.const (.int .i64 1))), .op none (.mv 1 (.tmp 19)), .keep [0, 1, 5]]) (.seq (.reg [.op none (.mv 20 (.tmp 0)), .op none (.mv 21 (.tmp 5)), .op none (.mv 22 (.tmp 1)), .op none (.iaddr 23 5 (.tmp 20) (.tmp 21)), .op none (.faddr 24 1 (.tmp 23)), .op none (.store 1 (.tmp 24) (.tmp 22)), .keep [0, 1, 5]]) (.seq (.reg [.op none (.mv 25 (.tmp 1)), .op none (.bin 26 .add (.tmp 25) (.const (.int .i64 1))), .op none (.mv 1 (.tmp 26)), .keep [0, 1, 5]]) (.seq (.reg [.op none (.mv 27 (.tmp 0)), .op none (.mv 28 (.tmp 5)), .op none (.mv 29 (.tmp 1)), .op none (.iaddr 30 5 (.tmp 27) (.tmp 28)), .op none (.faddr 31 2 (.tmp 30)), .op none (.store 1 (.tmp 31) (.tmp 29)), .keep [0, 1, 5]]) (.seq (.reg [.op none (.mv 32 (.tmp 1)), .op none (.bin 33 .add (.tmp 32) (.const (.int .i64 1))), .op none (.mv 1 (.tmp 33)), .keep [0, 1, 5]]) (.seq (.reg [.op none (.mv 34 (.tmp 0)), .op none (.mv 35 (.tmp 5)), .op none (.mv 36 (.tmp 1)), .op none (.iaddr 37 5 (.tmp 34) (.tmp 35)), .op none (.faddr 38 3 (.tmp 37)), .op none (.store 1 (.tmp 38) (.tmp 36)), .keep [0, 1, 5]]) (.seq (.reg [.op none (.mv 39 (.tmp 1)), .op none (.bin 40 .add (.tmp 39) (.const (.int .i64 1))), .op none (.mv 1 (.tmp 40)), .keep [0, 1, 5]]) (.seq (.reg [.op none (.mv 41 (.tmp 0)), .op none (.mv 42 (.tmp 5)), .op none (.mv 43 (.tmp 1)), .op none (.iaddr 44 5 (.tmp 41) (.tmp 42)), .op none (.faddr 45 4 (.tmp 44)), .op none (.store 1 (.tmp 45) (.tmp 43)), .keep [0, 1, 5]]) (.reg [.op none (.mv 46 (.tmp 1)), .op none (.bin 47 .add (.tmp 46) (.const (.int .i64 1))), .op none (.mv 1 (.tmp 47)), .keep [0, 1, 5]]))))))))))) (.reg [.op none (.mv 10 (.tmp 5)), .op none (.bin 11 .add (.tmp 10) (.const (.int .i64 1))), .op none (.mv 5 (.tmp 11)), .keep [0, 1, 5]]))
def C32 : AC := .seq (.reg [.op none (.mv 4 (.const (.int .i64 0))), .keep [0, 1]]) (.seq (.seq (.reg [.op none (.mv 5 (.const (.int .i64 0))), .keep [0, 1, 5]]) (.block 0 (.gh (.loop (.ga C32_l0))))) (.seq (.reg [.op none (.mv 48 (.tmp 1)), .op none (.mv 4 (.tmp 48)), .keep [4]]) (.ret)))
def r32 : List RV := [.tmp 4]
theorem k32 : compC Try.prog 49 C32 (Try.f32.body.getD .skip) = some C32.erase := by kernel_rfl
theorem q32 : rvsOf Try.prog Try.f32.results.toList = some r32 := by kernel_rfl
def laws_markMappingS.l0 (x0_0 : Int) (x0_1 : Int) (x0_2 : (List S84)) : Option (Int × (List S84)) := (if x0_1 < (x0_2.length : Int) then (if 0 ≤ x0_1 ∧ x0_1 < (x0_2.length : Int) then (laws_markMappingS.l0 (IntKind.i64.wrap ((IntKind.i64.wrap ((IntKind.i64.wrap ((IntKind.i64.wrap ((IntKind.i64.wrap (x0_0 + 1)) + 1)) + 1)) + 1)) + 1)) (IntKind.i64.wrap (x0_1 + 1)) (x0_2.set x0_1.toNat (⟨IntKind.u64.wrap x0_0, IntKind.i64.wrap (x0_0 + 1), IntKind.i64.wrap ((IntKind.i64.wrap (x0_0 + 1)) + 1), IntKind.i64.wrap ((IntKind.i64.wrap ((IntKind.i64.wrap (x0_0 + 1)) + 1)) + 1), IntKind.i64.wrap ((IntKind.i64.wrap ((IntKind.i64.wrap ((IntKind.i64.wrap (x0_0 + 1)) + 1)) + 1)) + 1)⟩ : S84))) else none) else (some (x0_0, x0_2)))
 partial_fixpoint
def laws_markMappingS.f (l0 : List S84) (a1 : Int) : Option (Int × (List S84)) := (laws_markMappingS.l0 a1 0 l0 >>= fun (y45 : (Int × (List S84))) => (some (y45.1, y45.2)))
def laws_markMappingS.l0_M (x0_0 : Int) (x0_1 : Int) (x0_2 : (List S84)) (y : (Int × (List S84))) : Prop := ∀ (K : AE → St → Prop), (K (.exit 0) ⟨[(1, .c (.sc (.int .i64 y.1)))], [(.arg 0, ⟨.lst, 5, encL c84 y.2⟩)], [], []⟩) → loopS Try.prog 49 (.ga C32_l0) K ⟨[(0, .c (.ref (.arg 0) [] 0 x0_2.length)), (1, .c (.sc (.int .i64 x0_0))), (5, .c (.sc (.int .i64 x0_1)))], [(.arg 0, ⟨.lst, 5, encL c84 x0_2⟩)], [], []⟩
theorem laws_markMappingS.l0_walk (x0_0 : Int) (x0_1 : Int) (x0_2 : (List S84)) (y : (Int × (List S84))) (h : laws_markMappingS.l0  x0_0 x0_1 x0_2 = some y) : laws_markMappingS.l0_M x0_0 x0_1 x0_2 y := by
 refine laws_markMappingS.l0.partial_correctness  (motive := fun x0_0 x0_1 x0_2 y => laws_markMappingS.l0_M x0_0 x0_1 x0_2 y) ?_ x0_0 x0_1 x0_2 y h
 clear h
 unfold laws_markMappingS.l0_M
 intro rec ih x0_0 x0_1 x0_2 y h K hx0
 refine loop_unroll (ga_k fun G0 G0n G0r G0x => ?_)
 unfold C32_l0
 refine seq_k fun J5 hJ5 => ?_
 refine sr_k fun J6 hJ6 => ?_
 simp +decide only [Nat.reduceAdd, Nat.reduceMul, Int.reduceToNat, ak]
 refine hJ6 _ ?_
 refine cond_k (b := decide (x0_1 < (x0_2.length : Int))) rfl (fun c7 => ?_) (fun c7 => ?_)
 ·replace c7 := of_decide_eq_true c7; rw [if_pos c7] at h
  refine hJ5 _ ?_
  refine seq_k fun J8 hJ8 => ?_
  refine block_k fun B9 B9n B9x B9r B9j => ?_
  refine sr_k fun J10 hJ10 => ?_
  obtain ⟨b11, h⟩ := of_guard h
  have g12 : 0 + x0_1.toNat * 5 + 0 ≤ (encL c84 x0_2).length := ((Vw.whole c84_w x0_2).len_le b11.1 b11.2 (by decide))
  have g13 : 0 + x0_1.toNat * 5 + 0 + 1 ≤ (encL c84 x0_2).length := (Vw.whole c84_w x0_2).le b11.1 b11.2 (j := 0) (q := 1) (by decide)
  have g14 : 0 + x0_1.toNat * 5 + 0 < (encL c84 x0_2).length := (Vw.whole c84_w x0_2).lt b11.1 b11.2 (j := 0) (by decide)
  have g15 : (encL c84 x0_2)[0 + x0_1.toNat * 5 + 0]? = some (.sc (.int .u64 ((rd z84 x0_2 x0_1).f0))) := (Vw.whole c84_w x0_2).get z84 0 b11.1 b11.2 (by decide)
  have g16 : (encL c84 x0_2).set (0 + x0_1.toNat * 5 + 0) (.sc (.int .u64 (IntKind.u64.wrap x0_0))) = encL c84 (x0_2.set x0_1.toNat (⟨IntKind.u64.wrap x0_0, (rd z84 x0_2 x0_1).f1, (rd z84 x0_2 x0_1).f2, (rd z84 x0_2 x0_1).f3, (rd z84 x0_2 x0_1).f4⟩ : S84)) := encL_put c84_w z84 b11.1 b11.2 (j := 0) (by decide) rfl
  simp +decide only [Nat.reduceAdd, Nat.reduceMul, Int.reduceToNat, ak, b11, g12, g13, g14, g15, g16]
  refine hJ10 _ ?_
  refine sr_k fun J17 hJ17 => ?_
  simp +decide only [Nat.reduceAdd, Nat.reduceMul, Int.reduceToNat, ak]
  refine hJ17 _ ?_
  refine sr_k fun J18 hJ18 => ?_
  have g19 : 0 + x0_1.toNat * 5 + 1 ≤ (encL c84 (x0_2.set x0_1.toNat (⟨IntKind.u64.wrap x0_0, (rd z84 x0_2 x0_1).f1, (rd z84 x0_2 x0_1).f2, (rd z84 x0_2 x0_1).f3, (rd z84 x0_2 x0_1).f4⟩ : S84))).length := ((Vw.whole c84_w (x0_2.set x0_1.toNat (⟨IntKind.u64.wrap x0_0, (rd z84 x0_2 x0_1).f1, (rd z84 x0_2 x0_1).f2, (rd z84 x0_2 x0_1).f3, (rd z84 x0_2 x0_1).f4⟩ : S84))).len_le b11.1 (lt_len b11.2 (by simp)) (by decide))
  have g20 : 0 + x0_1.toNat * 5 + 1 + 1 ≤ (encL c84 (x0_2.set x0_1.toNat (⟨IntKind.u64.wrap x0_0, (rd z84 x0_2 x0_1).f1, (rd z84 x0_2 x0_1).f2, (rd z84 x0_2 x0_1).f3, (rd z84 x0_2 x0_1).f4⟩ : S84))).length := (Vw.whole c84_w (x0_2.set x0_1.toNat (⟨IntKind.u64.wrap x0_0, (rd z84 x0_2 x0_1).f1, (rd z84 x0_2 x0_1).f2, (rd z84 x0_2 x0_1).f3, (rd z84 x0_2 x0_1).f4⟩ : S84))).le b11.1 (lt_len b11.2 (by simp)) (j := 1) (q := 1) (by decide)
  have g21 : 0 + x0_1.toNat * 5 + 1 < (encL c84 (x0_2.set x0_1.toNat (⟨IntKind.u64.wrap x0_0, (rd z84 x0_2 x0_1).f1, (rd z84 x0_2 x0_1).f2, (rd z84 x0_2 x0_1).f3, (rd z84 x0_2 x0_1).f4⟩ : S84))).length := encL_put_lt c84_w (⟨IntKind.u64.wrap x0_0, (rd z84 x0_2 x0_1).f1, (rd z84 x0_2 x0_1).f2, (rd z84 x0_2 x0_1).f3, (rd z84 x0_2 x0_1).f4⟩ : S84) b11.1 b11.2 (j := 1) (by decide)
  have g22 : (encL c84 (x0_2.set x0_1.toNat (⟨IntKind.u64.wrap x0_0, (rd z84 x0_2 x0_1).f1, (rd z84 x0_2 x0_1).f2, (rd z84 x0_2 x0_1).f3, (rd z84 x0_2 x0_1).f4⟩ : S84)))[0 + x0_1.toNat * 5 + 1]? = some (.sc (.int .i64 ((rd z84 x0_2 x0_1).f1))) := encL_put_get c84_w (⟨IntKind.u64.wrap x0_0, (rd z84 x0_2 x0_1).f1, (rd z84 x0_2 x0_1).f2, (rd z84 x0_2 x0_1).f3, (rd z84 x0_2 x0_1).f4⟩ : S84) b11.1 b11.2 (j := 1) (by decide)
  have g23 : (encL c84 (x0_2.set x0_1.toNat (⟨IntKind.u64.wrap x0_0, (rd z84 x0_2 x0_1).f1, (rd z84 x0_2 x0_1).f2, (rd z84 x0_2 x0_1).f3, (rd z84 x0_2 x0_1).f4⟩ : S84))).set (0 + x0_1.toNat * 5 + 1) (.sc (.int .i64 (IntKind.i64.wrap (x0_0 + 1)))) = encL c84 (x0_2.set x0_1.toNat (⟨IntKind.u64.wrap x0_0, IntKind.i64.wrap (x0_0 + 1), (rd z84 x0_2 x0_1).f2, (rd z84 x0_2 x0_1).f3, (rd z84 x0_2 x0_1).f4⟩ : S84)) := encL_put2 c84_w b11.1 b11.2 (j := 1) (by decide) rfl
  simp +decide only [Nat.reduceAdd, Nat.reduceMul, Int.reduceToNat, ak, b11, g19, g20, g21, g22, g23]
  refine hJ18 _ ?_
  refine sr_k fun J24 hJ24 => ?_
  simp +decide only [Nat.reduceAdd, Nat.reduceMul, Int.reduceToNat, ak]
  refine hJ24 _ ?_
  refine sr_k fun J25 hJ25 => ?_
  have g26 : 0 + x0_1.toNat * 5 + 2 ≤ (encL c84 (x0_2.set x0_1.toNat (⟨IntKind.u64.wrap x0_0, IntKind.i64.wrap (x0_0 + 1), (rd z84 x0_2 x0_1).f2, (rd z84 x0_2 x0_1).f3, (rd z84 x0_2 x0_1).f4⟩ : S84))).length := ((Vw.whole c84_w (x0_2.set x0_1.toNat (⟨IntKind.u64.wrap x0_0, IntKind.i64.wrap (x0_0 + 1), (rd z84 x0_2 x0_1).f2, (rd z84 x0_2 x0_1).f3, (rd z84 x0_2 x0_1).f4⟩ : S84))).len_le b11.1 (lt_len b11.2 (by simp)) (by decide))
  have g27 : 0 + x0_1.toNat * 5 + 2 + 1 ≤ (encL c84 (x0_2.set x0_1.toNat (⟨IntKind.u64.wrap x0_0, IntKind.i64.wrap (x0_0 + 1), (rd z84 x0_2 x0_1).f2, (rd z84 x0_2 x0_1).f3, (rd z84 x0_2 x0_1).f4⟩ : S84))).length := (Vw.whole c84_w (x0_2.set x0_1.toNat (⟨IntKind.u64.wrap x0_0, IntKind.i64.wrap (x0_0 + 1), (rd z84 x0_2 x0_1).f2, (rd z84 x0_2 x0_1).f3, (rd z84 x0_2 x0_1).f4⟩ : S84))).le b11.1 (lt_len b11.2 (by simp)) (j := 2) (q := 1) (by decide)
  have g28 : 0 + x0_1.toNat * 5 + 2 < (encL c84 (x0_2.set x0_1.toNat (⟨IntKind.u64.wrap x0_0, IntKind.i64.wrap (x0_0 + 1), (rd z84 x0_2 x0_1).f2, (rd z84 x0_2 x0_1).f3, (rd z84 x0_2 x0_1).f4⟩ : S84))).length := encL_put_lt c84_w (⟨IntKind.u64.wrap x0_0, IntKind.i64.wrap (x0_0 + 1), (rd z84 x0_2 x0_1).f2, (rd z84 x0_2 x0_1).f3, (rd z84 x0_2 x0_1).f4⟩ : S84) b11.1 b11.2 (j := 2) (by decide)
  have g29 : (encL c84 (x0_2.set x0_1.toNat (⟨IntKind.u64.wrap x0_0, IntKind.i64.wrap (x0_0 + 1), (rd z84 x0_2 x0_1).f2, (rd z84 x0_2 x0_1).f3, (rd z84 x0_2 x0_1).f4⟩ : S84)))[0 + x0_1.toNat * 5 + 2]? = some (.sc (.int .i64 ((rd z84 x0_2 x0_1).f2))) := encL_put_get c84_w (⟨IntKind.u64.wrap x0_0, IntKind.i64.wrap (x0_0 + 1), (rd z84 x0_2 x0_1).f2, (rd z84 x0_2 x0_1).f3, (rd z84 x0_2 x0_1).f4⟩ : S84) b11.1 b11.2 (j := 2) (by decide)
  have g30 : (encL c84 (x0_2.set x0_1.toNat (⟨IntKind.u64.wrap x0_0, IntKind.i64.wrap (x0_0 + 1), (rd z84 x0_2 x0_1).f2, (rd z84 x0_2 x0_1).f3, (rd z84 x0_2 x0_1).f4⟩ : S84))).set (0 + x0_1.toNat * 5 + 2) (.sc (.int .i64 (IntKind.i64.wrap ((IntKind.i64.wrap (x0_0 + 1)) + 1)))) = encL c84 (x0_2.set x0_1.toNat (⟨IntKind.u64.wrap x0_0, IntKind.i64.wrap (x0_0 + 1), IntKind.i64.wrap ((IntKind.i64.wrap (x0_0 + 1)) + 1), (rd z84 x0_2 x0_1).f3, (rd z84 x0_2 x0_1).f4⟩ : S84)) := encL_put2 c84_w b11.1 b11.2 (j := 2) (by decide) rfl
  simp +decide only [Nat.reduceAdd, Nat.reduceMul, Int.reduceToNat, ak, b11, g26, g27, g28, g29, g30]
  refine hJ25 _ ?_
  refine sr_k fun J31 hJ31 => ?_
  simp +decide only [Nat.reduceAdd, Nat.reduceMul, Int.reduceToNat, ak]
  refine hJ31 _ ?_
  refine sr_k fun J32 hJ32 => ?_
  have g33 : 0 + x0_1.toNat * 5 + 3 ≤ (encL c84 (x0_2.set x0_1.toNat (⟨IntKind.u64.wrap x0_0, IntKind.i64.wrap (x0_0 + 1), IntKind.i64.wrap ((IntKind.i64.wrap (x0_0 + 1)) + 1), (rd z84 x0_2 x0_1).f3, (rd z84 x0_2 x0_1).f4⟩ : S84))).length := ((Vw.whole c84_w (x0_2.set x0_1.toNat (⟨IntKind.u64.wrap x0_0, IntKind.i64.wrap (x0_0 + 1), IntKind.i64.wrap ((IntKind.i64.wrap (x0_0 + 1)) + 1), (rd z84 x0_2 x0_1).f3, (rd z84 x0_2 x0_1).f4⟩ : S84))).len_le b11.1 (lt_len b11.2 (by simp)) (by decide))
  have g34 : 0 + x0_1.toNat * 5 + 3 + 1 ≤ (encL c84 (x0_2.set x0_1.toNat (⟨IntKind.u64.wrap x0_0, IntKind.i64.wrap (x0_0 + 1), IntKind.i64.wrap ((IntKind.i64.wrap (x0_0 + 1)) + 1), (rd z84 x0_2 x0_1).f3, (rd z84 x0_2 x0_1).f4⟩ : S84))).length := (Vw.whole c84_w (x0_2.set x0_1.toNat (⟨IntKind.u64.wrap x0_0, IntKind.i64.wrap (x0_0 + 1), IntKind.i64.wrap ((IntKind.i64.wrap (x0_0 + 1)) + 1), (rd z84 x0_2 x0_1).f3, (rd z84 x0_2 x0_1).f4⟩ : S84))).le b11.1 (lt_len b11.2 (by simp)) (j := 3) (q := 1) (by decide)
  have g35 : 0 + x0_1.toNat * 5 + 3 < (encL c84 (x0_2.set x0_1.toNat (⟨IntKind.u64.wrap x0_0, IntKind.i64.wrap (x0_0 + 1), IntKind.i64.wrap ((IntKind.i64.wrap (x0_0 + 1)) + 1), (rd z84 x0_2 x0_1).f3, (rd z84 x0_2 x0_1).f4⟩ : S84))).length := encL_put_lt c84_w (⟨IntKind.u64.wrap x0_0, IntKind.i64.wrap (x0_0 + 1), IntKind.i64.wrap ((IntKind.i64.wrap (x0_0 + 1)) + 1), (rd z84 x0_2 x0_1).f3, (rd z84 x0_2 x0_1).f4⟩ : S84) b11.1 b11.2 (j := 3) (by decide)
  have g36 : (encL c84 (x0_2.set x0_1.toNat (⟨IntKind.u64.wrap x0_0, IntKind.i64.wrap (x0_0 + 1), IntKind.i64.wrap ((IntKind.i64.wrap (x0_0 + 1)) + 1), (rd z84 x0_2 x0_1).f3, (rd z84 x0_2 x0_1).f4⟩ : S84)))[0 + x0_1.toNat * 5 + 3]? = some (.sc (.int .i64 ((rd z84 x0_2 x0_1).f3))) := encL_put_get c84_w (⟨IntKind.u64.wrap x0_0, IntKind.i64.wrap (x0_0 + 1), IntKind.i64.wrap ((IntKind.i64.wrap (x0_0 + 1)) + 1), (rd z84 x0_2 x0_1).f3, (rd z84 x0_2 x0_1).f4⟩ : S84) b11.1 b11.2 (j := 3) (by decide)
  have g37 : (encL c84 (x0_2.set x0_1.toNat (⟨IntKind.u64.wrap x0_0, IntKind.i64.wrap (x0_0 + 1), IntKind.i64.wrap ((IntKind.i64.wrap (x0_0 + 1)) + 1), (rd z84 x0_2 x0_1).f3, (rd z84 x0_2 x0_1).f4⟩ : S84))).set (0 + x0_1.toNat * 5 + 3) (.sc (.int .i64 (IntKind.i64.wrap ((IntKind.i64.wrap ((IntKind.i64.wrap (x0_0 + 1)) + 1)) + 1)))) = encL c84 (x0_2.set x0_1.toNat (⟨IntKind.u64.wrap x0_0, IntKind.i64.wrap (x0_0 + 1), IntKind.i64.wrap ((IntKind.i64.wrap (x0_0 + 1)) + 1), IntKind.i64.wrap ((IntKind.i64.wrap ((IntKind.i64.wrap (x0_0 + 1)) + 1)) + 1), (rd z84 x0_2 x0_1).f4⟩ : S84)) := encL_put2 c84_w b11.1 b11.2 (j := 3) (by decide) rfl
  simp +decide only [Nat.reduceAdd, Nat.reduceMul, Int.reduceToNat, ak, b11, g33, g34, g35, g36, g37]
  refine hJ32 _ ?_
  refine sr_k fun J38 hJ38 => ?_
  simp +decide only [Nat.reduceAdd, Nat.reduceMul, Int.reduceToNat, ak]
  refine hJ38 _ ?_
  refine sr_k fun J39 hJ39 => ?_
  have g40 : 0 + x0_1.toNat * 5 + 4 ≤ (encL c84 (x0_2.set x0_1.toNat (⟨IntKind.u64.wrap x0_0, IntKind.i64.wrap (x0_0 + 1), IntKind.i64.wrap ((IntKind.i64.wrap (x0_0 + 1)) + 1), IntKind.i64.wrap ((IntKind.i64.wrap ((IntKind.i64.wrap (x0_0 + 1)) + 1)) + 1), (rd z84 x0_2 x0_1).f4⟩ : S84))).length := ((Vw.whole c84_w (x0_2.set x0_1.toNat (⟨IntKind.u64.wrap x0_0, IntKind.i64.wrap (x0_0 + 1), IntKind.i64.wrap ((IntKind.i64.wrap (x0_0 + 1)) + 1), IntKind.i64.wrap ((IntKind.i64.wrap ((IntKind.i64.wrap (x0_0 + 1)) + 1)) + 1), (rd z84 x0_2 x0_1).f4⟩ : S84))).len_le b11.1 (lt_len b11.2 (by simp)) (by decide))
  have g41 : 0 + x0_1.toNat * 5 + 4 + 1 ≤ (encL c84 (x0_2.set x0_1.toNat (⟨IntKind.u64.wrap x0_0, IntKind.i64.wrap (x0_0 + 1), IntKind.i64.wrap ((IntKind.i64.wrap (x0_0 + 1)) + 1), IntKind.i64.wrap ((IntKind.i64.wrap ((IntKind.i64.wrap (x0_0 + 1)) + 1)) + 1), (rd z84 x0_2 x0_1).f4⟩ : S84))).length := (Vw.whole c84_w (x0_2.set x0_1.toNat (⟨IntKind.u64.wrap x0_0, IntKind.i64.wrap (x0_0 + 1), IntKind.i64.wrap ((IntKind.i64.wrap (x0_0 + 1)) + 1), IntKind.i64.wrap ((IntKind.i64.wrap ((IntKind.i64.wrap (x0_0 + 1)) + 1)) + 1), (rd z84 x0_2 x0_1).f4⟩ : S84))).le b11.1 (lt_len b11.2 (by simp)) (j := 4) (q := 1) (by decide)
  have g42 : 0 + x0_1.toNat * 5 + 4 < (encL c84 (x0_2.set x0_1.toNat (⟨IntKind.u64.wrap x0_0, IntKind.i64.wrap (x0_0 + 1), IntKind.i64.wrap ((IntKind.i64.wrap (x0_0 + 1)) + 1), IntKind.i64.wrap ((IntKind.i64.wrap ((IntKind.i64.wrap (x0_0 + 1)) + 1)) + 1), (rd z84 x0_2 x0_1).f4⟩ : S84))).length := encL_put_lt c84_w (⟨IntKind.u64.wrap x0_0, IntKind.i64.wrap (x0_0 + 1), IntKind.i64.wrap ((IntKind.i64.wrap (x0_0 + 1)) + 1), IntKind.i64.wrap ((IntKind.i64.wrap ((IntKind.i64.wrap (x0_0 + 1)) + 1)) + 1), (rd z84 x0_2 x0_1).f4⟩ : S84) b11.1 b11.2 (j := 4) (by decide)
  have g43 : (encL c84 (x0_2.set x0_1.toNat (⟨IntKind.u64.wrap x0_0, IntKind.i64.wrap (x0_0 + 1), IntKind.i64.wrap ((IntKind.i64.wrap (x0_0 + 1)) + 1), IntKind.i64.wrap ((IntKind.i64.wrap ((IntKind.i64.wrap (x0_0 + 1)) + 1)) + 1), (rd z84 x0_2 x0_1).f4⟩ : S84)))[0 + x0_1.toNat * 5 + 4]? = some (.sc (.int .i64 ((rd z84 x0_2 x0_1).f4))) := encL_put_get c84_w (⟨IntKind.u64.wrap x0_0, IntKind.i64.wrap (x0_0 + 1), IntKind.i64.wrap ((IntKind.i64.wrap (x0_0 + 1)) + 1), IntKind.i64.wrap ((IntKind.i64.wrap ((IntKind.i64.wrap (x0_0 + 1)) + 1)) + 1), (rd z84 x0_2 x0_1).f4⟩ : S84) b11.1 b11.2 (j := 4) (by decide)
  have g44 : (encL c84 (x0_2.set x0_1.toNat (⟨IntKind.u64.wrap x0_0, IntKind.i64.wrap (x0_0 + 1), IntKind.i64.wrap ((IntKind.i64.wrap (x0_0 + 1)) + 1), IntKind.i64.wrap ((IntKind.i64.wrap ((IntKind.i64.wrap (x0_0 + 1)) + 1)) + 1), (rd z84 x0_2 x0_1).f4⟩ : S84))).set (0 + x0_1.toNat * 5 + 4) (.sc (.int .i64 (IntKind.i64.wrap ((IntKind.i64.wrap ((IntKind.i64.wrap ((IntKind.i64.wrap (x0_0 + 1)) + 1)) + 1)) + 1)))) = encL c84 (x0_2.set x0_1.toNat (⟨IntKind.u64.wrap x0_0, IntKind.i64.wrap (x0_0 + 1), IntKind.i64.wrap ((IntKind.i64.wrap (x0_0 + 1)) + 1), IntKind.i64.wrap ((IntKind.i64.wrap ((IntKind.i64.wrap (x0_0 + 1)) + 1)) + 1), IntKind.i64.wrap ((IntKind.i64.wrap ((IntKind.i64.wrap ((IntKind.i64.wrap (x0_0 + 1)) + 1)) + 1)) + 1)⟩ : S84)) := encL_put2 c84_w b11.1 b11.2 (j := 4) (by decide) rfl
  simp +decide only [Nat.reduceAdd, Nat.reduceMul, Int.reduceToNat, ak, b11, g40, g41, g42, g43, g44]
  refine hJ39 _ ?_
  refine reg_k ?_
  simp +decide only [Nat.reduceAdd, Nat.reduceMul, Int.reduceToNat, ak]
  refine B9n _ ?_
  refine hJ8 _ ?_
  refine reg_k ?_
  simp +decide only [Nat.reduceAdd, Nat.reduceMul, Int.reduceToNat, ak]
  refine G0n _ _ (wk [0, 1, 5] [pI (.arg 0) .lst] (h0 := by first | rfl | simp +decide only [ak, akF, b11]) (h := by first | rfl | (simp +decide only [ak, akF, b11]; done) | (simp +decide [ak, akF, b11] <;> omega))) (ih _ _ _ _ h K hx0)
 ·replace c7 := of_decide_eq_false c7; rw [if_neg c7] at h
  obtain rfl := Option.some.inj h
  refine gh_k (wk [1] [pI (.arg 0) .lst]) ?_
  refine G0x _ _ ?_
  exact hx0
theorem laws_markMappingS.tri (l0 : List S84) (a1 : Int) (r : Int × (List S84)) (h : laws_markMappingS.f l0 a1 = some r) : Tri Try.prog 32 [.c (.ref (.arg 0) [] 0 l0.length), .c (.sc (.int .i64 a1))] [(.arg 0, ⟨.lst, 5, encL c84 l0⟩)] (fun o => o = ⟨.c (.sc (.int .i64 r.1)), [(.arg 0, ⟨.lst, 5, encL c84 r.2⟩)], [], []⟩) := by
 refine tri_of_body (ac := C32) (xs := r32) Try.func32 (show Try.f32.body = some (Try.f32.body.getD .skip) from rfl) k32 q32 (Nat.le_of_ble_eq_true rfl) ?_
 refine body_of fun K hKn hKr => ?_
 unfold laws_markMappingS.f at h
 unfold C32
 simp only [initT, Nat.reduceAdd]
 refine sr_k fun J1 hJ1 => ?_
 simp +decide only [Nat.reduceAdd, Nat.reduceMul, Int.reduceToNat, ak]
 refine hJ1 _ ?_
 refine seq_k fun J2 hJ2 => ?_
 refine sr_k fun J3 hJ3 => ?_
 simp +decide only [Nat.reduceAdd, Nat.reduceMul, Int.reduceToNat, ak]
 refine hJ3 _ ?_
 refine block_k fun B4 B4n B4x B4r B4j => ?_
 obtain ⟨y45, h46, h⟩ := of_bind h
 refine gh_k (wk [0, 1, 5] [pI (.arg 0) .lst]) ?_
 rw [e_loop]
 refine laws_markMappingS.l0_walk a1 0 l0 _ h46 _ ?_
 refine B4x _ ?_
 refine hJ2 _ ?_
 refine sr_k fun J47 hJ47 => ?_
 simp +decide only [Nat.reduceAdd, Nat.reduceMul, Int.reduceToNat, ak]
 refine hJ47 _ ?_
 obtain rfl := Option.some.inj h
 refine hKr _ ⟨_, rfl, [], _, rfl, rfl, ?_⟩
 first | rfl | (simp only [reduceCtorEq, Nat.reduceEqDiff, ak, akF]; done) | (simp [reduceCtorEq, Nat.reduceEqDiff, ak, akF] <;> omega)
/-! ### laws.markSchedInput: function 51 -/
def C51 : AC := .seq (.reg [.op none (.box 2 (.tmp 0)), .op none (.mv 4 (.const (.int .i64 0))), .keep [1, 2]]) (.seq (.reg [.op none (.faddr 5 2 (.tmp 2)), .op none (.load 6 false 1 (.tmp 5)), .op none (.mv 7 (.tmp 1)), .call none (some 8) 43 [.tmp 6, .tmp 7], .op none (.mv 1 (.tmp 8)), .keep [1, 2]]) (.seq (.reg [.op none (.faddr 9 3 (.tmp 2)), .op none (.load 10 false 1 (.tmp 9)), .op none (.mv 11 (.tmp 1)), .call none (some 12) 42 [.tmp 10, .tmp 11], .op none (.mv 1 (.tmp 12)), .keep [1, 2]]) (.seq (.reg [.op none (.faddr 13 4 (.tmp 2)), .op none (.load 14 false 1 (.tmp 13)), .op none (.mv 15 (.tmp 1)), .call none (some 16) 32 [.tmp 14, .tmp 15], .op none (.mv 1 (.tmp 16)), .keep [1]]) (.seq (.reg [.op none (.mv 17 (.tmp 1)), .op none (.mv 4 (.tmp 17)), .keep [4]]) (.ret)))))
def r51 : List RV := [.tmp 4]
theorem k51 : compC Try.prog 18 C51 (Try.f51.body.getD .skip) = some C51.erase := by kernel_rfl
theorem q51 : rvsOf Try.prog Try.f51.results.toList = some r51 := by kernel_rfl
def laws_markSchedInput.f (a0_0 : Int) (a0_1 : Int) (l0_2 : List Int) (l0_3 : List S86) (l0_4 : List S84) (a0_5 : Int) (a0_6 : Int) (a0_7 : Int) (a0_8 : Int) (a0_9 : Int) (a0_10 : Int) (a0_11 : Int) (a1 : Int) : Option (Int × (List Int) × (List S86) × (List S84)) := (laws_markInt64S.f l0_2 a1 >>= fun t3 => (laws_markPathViewS.f l0_3 t3.1 >>= fun t8 => (laws_markMappingS.f l0_4 t8.1 >>= fun t13 => (some (t13.1, t3.2, t8.2, t13.2)))))
theorem laws_markSchedInput.tri (a0_0 : Int) (a0_1 : Int) (l0_2 : List Int) (l0_3 : List S86) (l0_4 : List S84) (a0_5 : Int) (a0_6 : Int) (a0_7 : Int) (a0_8 : Int) (a0_9 : Int) (a0_10 : Int) (a0_11 : Int) (a1 : Int) (r : Int × (List Int) × (List S86) × (List S84)) (h : laws_markSchedInput.f a0_0 a0_1 l0_2 l0_3 l0_4 a0_5 a0_6 a0_7 a0_8 a0_9 a0_10 a0_11 a1 = some r) : Tri Try.prog 51 [.g [.sc (.int .i64 a0_0), .sc (.int .i64 a0_1), .ref (.arg 0) [] 0 l0_2.length, .ref (.arg 1) [] 0 l0_3.length, .ref (.arg 2) [] 0 l0_4.length, .sc (.int .i64 a0_5), .sc (.int .u64 a0_6), .sc (.int .u64 a0_7), .sc (.int .u64 a0_8), .sc (.int .i64 a0_9), .sc (.int .i64 a0_10), .sc (.int .i64 a0_11)], .c (.sc (.int .i64 a1))] [(.arg 0, ⟨.lst, 1, encL c_i64 l0_2⟩), (.arg 1, ⟨.lst, 3, encL c86 l0_3⟩), (.arg 2, ⟨.lst, 5, encL c84 l0_4⟩)] (fun o => o = ⟨.c (.sc (.int .i64 r.1)), [(.arg 0, ⟨.lst, 1, encL c_i64 r.2.1⟩), (.arg 1, ⟨.lst, 3, encL c86 r.2.2.1⟩), (.arg 2, ⟨.lst, 5, encL c84 r.2.2.2⟩)], [], []⟩) := by
 refine tri_of_body (ac := C51) (xs := r51) Try.func51 (show Try.f51.body = some (Try.f51.body.getD .skip) from rfl) k51 q51 (Nat.le_of_ble_eq_true rfl) ?_
 refine body_of fun K hKn hKr => ?_
 unfold laws_markSchedInput.f at h
 unfold C51
 simp only [initT, Nat.reduceAdd]
 refine sr_k fun J1 hJ1 => ?_
 simp +decide only [Nat.reduceAdd, Nat.reduceMul, Int.reduceToNat, ak]
 refine hJ1 _ ?_
 refine sr_k fun J2 hJ2 => ?_
 simp +decide only [Nat.reduceAdd, Nat.reduceMul, Int.reduceToNat, ak]
 obtain ⟨t3, h4, h⟩ := of_bind h
 refine call_m [(.arg 0, ⟨(.arg 0), [], none, .lst⟩)] (s0 := [(.arg 0, ⟨.lst, 1, encL c_i64 l0_2⟩)]) (by intro t ht; cases ht; decide) rfl rfl (by first | rfl | simp only [reduceCtorEq, Nat.reduceEqDiff, ak, akF]) (laws_markInt64S.tri l0_2 a1 _ h4) (by first | rfl | simp only [reduceCtorEq, Nat.reduceEqDiff, ak, akF]) (by simp [bkOk2, memK]) (fun hl4 => ?_)
 have g6 : t3.2.length = l0_2.length := encL_len_inj c_i64_w (by decide) (hl4 0 (by decide) _ _ rfl rfl)
 refine call_st (s4 := [(.arg 0, ⟨.lst, 1, encL c_i64 t3.2⟩), (.arg 1, ⟨.lst, 3, encL c86 l0_3⟩), (.arg 2, ⟨.lst, 5, encL c84 l0_4⟩), (.tmp 2 0, ⟨.box, 0, [.sc (.int .i64 a0_0), .sc (.int .i64 a0_1), .ref (.arg 0) [] 0 l0_2.length, .ref (.arg 1) [] 0 l0_3.length, .ref (.arg 2) [] 0 l0_4.length, .sc (.int .i64 a0_5), .sc (.int .u64 a0_6), .sc (.int .u64 a0_7), .sc (.int .u64 a0_8), .sc (.int .i64 a0_9), .sc (.int .i64 a0_10), .sc (.int .i64 a0_11)]⟩)]) (m1' := []) (m2' := []) (v' := .c (.sc (.int .i64 t3.1))) (Sto.mapN_killNil _ _) (mrgL_whole (mrgL_nil' _ _ _) rfl (by rfl) (.inr ⟨by decide, by decide, rfl⟩)) (by rfl) (mapT_killNil _ _) (by rfl) (by rfl) (by first | rfl | simp only [reduceCtorEq, Nat.reduceEqDiff, ak, akF, Nat.zero_add, List.append_nil, g6]) ?_
 simp +decide only [Nat.reduceAdd, Nat.reduceMul, Int.reduceToNat, ak]
 refine hJ2 _ ?_
 refine sr_k fun J7 hJ7 => ?_
 simp +decide only [Nat.reduceAdd, Nat.reduceMul, Int.reduceToNat, ak]
 obtain ⟨t8, h9, h⟩ := of_bind h
 refine call_m [(.arg 0, ⟨(.arg 1), [], none, .lst⟩)] (s0 := [(.arg 0, ⟨.lst, 3, encL c86 l0_3⟩)]) (by intro t ht; cases ht; decide) rfl rfl (by first | rfl | simp only [reduceCtorEq, Nat.reduceEqDiff, ak, akF]) (laws_markPathViewS.tri l0_3 t3.1 _ h9) (by first | rfl | simp only [reduceCtorEq, Nat.reduceEqDiff, ak, akF]) (by simp [bkOk2, memK]) (fun hl9 => ?_)
 have g11 : t8.2.length = l0_3.length := encL_len_inj c86_w (by decide) (hl9 0 (by decide) _ _ rfl rfl)
 refine call_st (s4 := [(.arg 0, ⟨.lst, 1, encL c_i64 t3.2⟩), (.arg 1, ⟨.lst, 3, encL c86 t8.2⟩), (.arg 2, ⟨.lst, 5, encL c84 l0_4⟩), (.tmp 2 0, ⟨.box, 0, [.sc (.int .i64 a0_0), .sc (.int .i64 a0_1), .ref (.arg 0) [] 0 l0_2.length, .ref (.arg 1) [] 0 l0_3.length, .ref (.arg 2) [] 0 l0_4.length, .sc (.int .i64 a0_5), .sc (.int .u64 a0_6), .sc (.int .u64 a0_7), .sc (.int .u64 a0_8), .sc (.int .i64 a0_9), .sc (.int .i64 a0_10), .sc (.int .i64 a0_11)]⟩)]) (m1' := []) (m2' := []) (v' := .c (.sc (.int .i64 t8.1))) (Sto.mapN_killNil _ _) (mrgL_whole (mrgL_nil' _ _ _) rfl (by rfl) (.inr ⟨by decide, by decide, rfl⟩)) (by rfl) (mapT_killNil _ _) (by rfl) (by rfl) (by first | rfl | simp only [reduceCtorEq, Nat.reduceEqDiff, ak, akF, Nat.zero_add, List.append_nil, g6, g11]) ?_
 simp +decide only [Nat.reduceAdd, Nat.reduceMul, Int.reduceToNat, ak]
 refine hJ7 _ ?_
 refine sr_k fun J12 hJ12 => ?_
 simp +decide only [Nat.reduceAdd, Nat.reduceMul, Int.reduceToNat, ak]
 obtain ⟨t13, h14, h⟩ := of_bind h
 refine call_m [(.arg 0, ⟨(.arg 2), [], none, .lst⟩)] (s0 := [(.arg 0, ⟨.lst, 5, encL c84 l0_4⟩)]) (by intro t ht; cases ht; decide) rfl rfl (by first | rfl | simp only [reduceCtorEq, Nat.reduceEqDiff, ak, akF]) (laws_markMappingS.tri l0_4 t8.1 _ h14) (by first | rfl | simp only [reduceCtorEq, Nat.reduceEqDiff, ak, akF]) (by simp [bkOk2, memK]) (fun hl14 => ?_)
 have g16 : t13.2.length = l0_4.length := encL_len_inj c84_w (by decide) (hl14 0 (by decide) _ _ rfl rfl)
 refine call_st (s4 := [(.arg 0, ⟨.lst, 1, encL c_i64 t3.2⟩), (.arg 1, ⟨.lst, 3, encL c86 t8.2⟩), (.arg 2, ⟨.lst, 5, encL c84 t13.2⟩), (.tmp 2 0, ⟨.box, 0, [.sc (.int .i64 a0_0), .sc (.int .i64 a0_1), .ref (.arg 0) [] 0 l0_2.length, .ref (.arg 1) [] 0 l0_3.length, .ref (.arg 2) [] 0 l0_4.length, .sc (.int .i64 a0_5), .sc (.int .u64 a0_6), .sc (.int .u64 a0_7), .sc (.int .u64 a0_8), .sc (.int .i64 a0_9), .sc (.int .i64 a0_10), .sc (.int .i64 a0_11)]⟩)]) (m1' := []) (m2' := []) (v' := .c (.sc (.int .i64 t13.1))) (Sto.mapN_killNil _ _) (mrgL_whole (mrgL_nil' _ _ _) rfl (by rfl) (.inr ⟨by decide, by decide, rfl⟩)) (by rfl) (mapT_killNil _ _) (by rfl) (by rfl) (by first | rfl | simp only [reduceCtorEq, Nat.reduceEqDiff, ak, akF, Nat.zero_add, List.append_nil, g6, g11, g16]) ?_
 simp +decide only [Nat.reduceAdd, Nat.reduceMul, Int.reduceToNat, ak]
 refine hJ12 _ ?_
 refine sr_k fun J17 hJ17 => ?_
 simp +decide only [Nat.reduceAdd, Nat.reduceMul, Int.reduceToNat, ak]
 refine hJ17 _ ?_
 obtain rfl := Option.some.inj h
 refine hKr _ ⟨_, rfl, [], _, rfl, rfl, ?_⟩
 first | rfl | (simp only [reduceCtorEq, Nat.reduceEqDiff, ak, akF, g6, g11, g16]; done) | (simp [reduceCtorEq, Nat.reduceEqDiff, ak, akF, g6, g11, g16] <;> omega)
/-! ### laws.markPlan: function 52 -/
def C52 : AC := .seq (.reg [.op none (.box 2 (.tmp 0)), .op none (.mv 4 (.const (.int .i64 0))), .keep [1, 2]]) (.seq (.reg [.op none (.faddr 5 4 (.tmp 2)), .op none (.load 6 false 1 (.tmp 5)), .op none (.mv 7 (.tmp 1)), .call none (some 8) 43 [.tmp 6, .tmp 7], .op none (.mv 1 (.tmp 8)), .keep [1]]) (.seq (.reg [.op none (.mv 9 (.tmp 1)), .op none (.mv 4 (.tmp 9)), .keep [4]]) (.ret)))
def r52 : List RV := [.tmp 4]
theorem k52 : compC Try.prog 10 C52 (Try.f52.body.getD .skip) = some C52.erase := by kernel_rfl
theorem q52 : rvsOf Try.prog Try.f52.results.toList = some r52 := by kernel_rfl
def laws_markPlan.f (a0_0 : Int) (a0_1 : Int) (a0_2 : Int) (a0_3 : Int) (l0_4 : List Int) (a0_5 : Int) (a0_6 : Int) (a1 : Int) : Option (Int × (List Int)) := (laws_markInt64S.f l0_4 a1 >>= fun t3 => (some (t3.1, t3.2)))
theorem laws_markPlan.tri (a0_0 : Int) (a0_1 : Int) (a0_2 : Int) (a0_3 : Int) (l0_4 : List Int) (a0_5 : Int) (a0_6 : Int) (a1 : Int) (r : Int × (List Int)) (h : laws_markPlan.f a0_0 a0_1 a0_2 a0_3 l0_4 a0_5 a0_6 a1 = some r) : Tri Try.prog 52 [.g [.sc (.int .i64 a0_0), .sc (.int .i64 a0_1), .sc (.int .u64 a0_2), .sc (.int .i64 a0_3), .ref (.arg 0) [] 0 l0_4.length, .sc (.int .i64 a0_5), .sc (.int .i64 a0_6)], .c (.sc (.int .i64 a1))] [(.arg 0, ⟨.lst, 1, encL c_i64 l0_4⟩)] (fun o => o = ⟨.c (.sc (.int .i64 r.1)), [(.arg 0, ⟨.lst, 1, encL c_i64 r.2⟩)], [], []⟩) := by
 refine tri_of_body (ac := C52) (xs := r52) Try.func52 (show Try.f52.body = some (Try.f52.body.getD .skip) from rfl) k52 q52 (Nat.le_of_ble_eq_true rfl) ?_
 refine body_of fun K hKn hKr => ?_
 unfold laws_markPlan.f at h
 unfold C52
 simp only [initT, Nat.reduceAdd]
 refine sr_k fun J1 hJ1 => ?_
 simp +decide only [Nat.reduceAdd, Nat.reduceMul, Int.reduceToNat, ak]
 refine hJ1 _ ?_
 refine sr_k fun J2 hJ2 => ?_
 simp +decide only [Nat.reduceAdd, Nat.reduceMul, Int.reduceToNat, ak]
 obtain ⟨t3, h4, h⟩ := of_bind h
 refine call_m [(.arg 0, ⟨(.arg 0), [], none, .lst⟩)] (s0 := [(.arg 0, ⟨.lst, 1, encL c_i64 l0_4⟩)]) (by intro t ht; cases ht; decide) rfl rfl (by first | rfl | simp only [reduceCtorEq, Nat.reduceEqDiff, ak, akF]) (laws_markInt64S.tri l0_4 a1 _ h4) (by first | rfl | simp only [reduceCtorEq, Nat.reduceEqDiff, ak, akF]) (by simp [bkOk2, memK]) (fun hl4 => ?_)
 have g6 : t3.2.length = l0_4.length := encL_len_inj c_i64_w (by decide) (hl4 0 (by decide) _ _ rfl rfl)
 refine call_st (s4 := [(.arg 0, ⟨.lst, 1, encL c_i64 t3.2⟩), (.tmp 2 0, ⟨.box, 0, [.sc (.int .i64 a0_0), .sc (.int .i64 a0_1), .sc (.int .u64 a0_2), .sc (.int .i64 a0_3), .ref (.arg 0) [] 0 l0_4.length, .sc (.int .i64 a0_5), .sc (.int .i64 a0_6)]⟩)]) (m1' := []) (m2' := []) (v' := .c (.sc (.int .i64 t3.1))) (Sto.mapN_killNil _ _) (mrgL_whole (mrgL_nil' _ _ _) rfl (by rfl) (.inr ⟨by decide, by decide, rfl⟩)) (by rfl) (mapT_killNil _ _) (by rfl) (by rfl) (by first | rfl | simp only [reduceCtorEq, Nat.reduceEqDiff, ak, akF, Nat.zero_add, List.append_nil, g6]) ?_
 simp +decide only [Nat.reduceAdd, Nat.reduceMul, Int.reduceToNat, ak]
 refine hJ2 _ ?_
 refine sr_k fun J7 hJ7 => ?_
 simp +decide only [Nat.reduceAdd, Nat.reduceMul, Int.reduceToNat, ak]
 refine hJ7 _ ?_
 obtain rfl := Option.some.inj h
 refine hKr _ ⟨_, rfl, [], _, rfl, rfl, ?_⟩
 first | rfl | (simp only [reduceCtorEq, Nat.reduceEqDiff, ak, akF, g6]; done) | (simp [reduceCtorEq, Nat.reduceEqDiff, ak, akF, g6] <;> omega)
/-! ### laws.heldInt64S: function 44 -/
def C44_l0 : AC := .seq (.seq (.reg [.op none (.mv 6 (.tmp 5)), .op none (.mv 7 (.tmp 0)), .op none (.len 8 (.tmp 7)), .op none (.bin 9 .lss (.tmp 6) (.tmp 8)), .keep [0, 1, 5, 9]]) (.cond (.tmp 9) (.skip) (.gh (.exit 0)))) (.seq (.block 1 (.seq (.seq (.reg [.op none (.mv 12 (.tmp 0)), .op none (.mv 13 (.tmp 5)), .op none (.iaddr 14 1 (.tmp 12) (.tmp 13)), .op none (.load 15 false 1 (.tmp 14)), .op none (.mv 16 (.tmp 1)), .op none (.bin 17 .neq (.tmp 15) (.tmp 16)), .keep [0, 1, 5, 17]]) (.cond (.tmp 17) (.seq (.reg [.op none (.mv 4 (.const (.int .i64 (-1)))), .keep [4]]) (.gh .ret)) (.skip))) (.reg [.op none (.mv 18 (.tmp 1)), .op none (.bin 19 .add (.tmp 18) (.const (.int .i64 1))), .op none (.mv 1 (.tmp 19)), .keep [0, 1, 5]]))) (.reg [.op none (.mv 10 (.tmp 5)), .op none (.bin 11 .add (.tmp 10) (.const (.int .i64 1))), .op none (.mv 5 (.tmp 11)), .keep [0, 1, 5]]))
def C44 : AC := .seq (.reg [.op none (.mv 4 (.const (.int .i64 0))), .keep [0, 1]]) (.seq (.seq (.reg [.op none (.mv 5 (.const (.int .i64 0))), .keep [0, 1, 5]]) (.block 0 (.gh (.loop (.ga C44_l0))))) (.seq (.reg [.op none (.mv 20 (.tmp 1)), .op none (.mv 4 (.tmp 20)), .keep [4]]) (.ret)))
def r44 : List RV := [.tmp 4]
theorem k44 : compC Try.prog 21 C44 (Try.f44.body.getD .skip) = some C44.erase := by kernel_rfl
theorem q44 : rvsOf Try.prog Try.f44.results.toList = some r44 := by kernel_rfl
def laws_heldInt64S.l0 (l0 : List Int) (x0_0 : Int) (x0_1 : Int) : Option (Lp Int Unit) := (if x0_1 < (l0.length : Int) then (if 0 ≤ x0_1 ∧ x0_1 < (l0.length : Int) then (if (rd 0 l0 x0_1) ≠ x0_0 then (some (.b ())) else (laws_heldInt64S.l0 l0 (IntKind.i64.wrap (x0_0 + 1)) (IntKind.i64.wrap (x0_1 + 1)))) else none) else (some (.a x0_0)))
 partial_fixpoint
def laws_heldInt64S.f (l0 : List Int) (a1 : Int) : Option Int := (laws_heldInt64S.l0 l0 a1 0 >>= fun (y16 : Lp Int Unit) => match y16 with | .a x18 => (some x18) | .b x18 => (some (-1)))
def laws_heldInt64S.l0_M (cs0 : List Cell) (o0 : Nat) (l0 : List Int) (hv0 : Vw c_i64 1 cs0 o0 l0) (x0_0 : Int) (x0_1 : Int) (y : Lp Int Unit) : Prop := ∀ (K : AE → St → Prop), (∀ x, y = .a x → K (.exit 0) ⟨[(1, .c (.sc (.int .i64 x)))], [(.arg 0, ⟨.fz, 1, cs0⟩)], [], []⟩) → (∀ x, y = .b x → K .ret ⟨[(4, .c (.sc (.int .i64 (-1))))], [(.arg 0, ⟨.fz, 1, cs0⟩)], [], []⟩) → loopS Try.prog 21 (.ga C44_l0) K ⟨[(0, .c (.ref (.arg 0) [] o0 l0.length)), (1, .c (.sc (.int .i64 x0_0))), (5, .c (.sc (.int .i64 x0_1)))], [(.arg 0, ⟨.fz, 1, cs0⟩)], [], []⟩
theorem laws_heldInt64S.l0_walk (cs0 : List Cell) (o0 : Nat) (l0 : List Int) (hv0 : Vw c_i64 1 cs0 o0 l0) (x0_0 : Int) (x0_1 : Int) (y : Lp Int Unit) (h : laws_heldInt64S.l0 l0 x0_0 x0_1 = some y) : laws_heldInt64S.l0_M cs0 o0 l0 hv0 x0_0 x0_1 y := by
 refine laws_heldInt64S.l0.partial_correctness l0 (motive := fun x0_0 x0_1 y => laws_heldInt64S.l0_M cs0 o0 l0 hv0 x0_0 x0_1 y) ?_ x0_0 x0_1 y h
 clear h
 unfold laws_heldInt64S.l0_M
 intro rec ih x0_0 x0_1 y h K hx0 hx1
 refine loop_unroll (ga_k fun G0 G0n G0r G0x => ?_)
 unfold C44_l0
 refine seq_k fun J5 hJ5 => ?_
 refine sr_k fun J6 hJ6 => ?_
 simp +decide only [Nat.reduceAdd, Nat.reduceMul, Int.reduceToNat, ak]
 refine hJ6 _ ?_
 refine cond_k (b := decide (x0_1 < (l0.length : Int))) rfl (fun c7 => ?_) (fun c7 => ?_)
 ·replace c7 := of_decide_eq_true c7; rw [if_pos c7] at h
  refine hJ5 _ ?_
  refine seq_k fun J8 hJ8 => ?_
  refine block_k fun B9 B9n B9x B9r B9j => ?_
  refine seq_k fun J10 hJ10 => ?_
  refine sr_k fun J11 hJ11 => ?_
  obtain ⟨b12, h⟩ := of_guard h
  have g13 : (cs0)[o0 + x0_1.toNat * 1]? = some (.sc (.int .i64 (rd 0 l0 x0_1))) := hv0.get 0 0 b12.1 b12.2 (by decide)
  simp +decide only [Nat.reduceAdd, Nat.reduceMul, Int.reduceToNat, ak, b12, g13]
  refine hJ11 _ ?_
  refine cond_k (b := decide ((rd 0 l0 x0_1) ≠ x0_0)) rfl (fun c14 => ?_) (fun c14 => ?_)
  ·replace c14 := of_decide_eq_true c14; rw [if_pos c14] at h
   refine sr_k fun J15 hJ15 => ?_
   simp +decide only [Nat.reduceAdd, Nat.reduceMul, Int.reduceToNat, ak]
   refine hJ15 _ ?_
   obtain rfl := Option.some.inj h
   refine gh_k (wk [4] [pI (.arg 0) .fz]) ?_
   refine B9r _ ?_
   refine G0r _ ?_
   exact hx1 _ rfl
  ·replace c14 := of_decide_eq_false c14; rw [if_neg c14] at h
   refine hJ10 _ ?_
   refine reg_k ?_
   simp +decide only [Nat.reduceAdd, Nat.reduceMul, Int.reduceToNat, ak]
   refine B9n _ ?_
   refine hJ8 _ ?_
   refine reg_k ?_
   simp +decide only [Nat.reduceAdd, Nat.reduceMul, Int.reduceToNat, ak]
   refine G0n _ _ (wk [0, 1, 5] [pI (.arg 0) .fz]) (ih _ _ _ h K hx0 hx1)
 ·replace c7 := of_decide_eq_false c7; rw [if_neg c7] at h
  obtain rfl := Option.some.inj h
  refine gh_k (wk [1] [pI (.arg 0) .fz]) ?_
  refine G0x _ _ ?_
  exact hx0 _ rfl
theorem laws_heldInt64S.tri (cs0 : List Cell) (o0 : Nat) (l0 : List Int) (hv0 : Vw c_i64 1 cs0 o0 l0) (a1 : Int) (r : Int) (h : laws_heldInt64S.f l0 a1 = some r) : Tri Try.prog 44 [.c (.ref (.arg 0) [] o0 l0.length), .c (.sc (.int .i64 a1))] [(.arg 0, ⟨.fz, 1, cs0⟩)] (fun o => o = ⟨.c (.sc (.int .i64 r)), [(.arg 0, ⟨.fz, 1, cs0⟩)], [], []⟩) := by
 refine tri_of_body (ac := C44) (xs := r44) Try.func44 (show Try.f44.body = some (Try.f44.body.getD .skip) from rfl) k44 q44 (Nat.le_of_ble_eq_true rfl) ?_
 refine body_of fun K hKn hKr => ?_
 unfold laws_heldInt64S.f at h
 unfold C44
 simp only [initT, Nat.reduceAdd]
 refine sr_k fun J1 hJ1 => ?_
 simp +decide only [Nat.reduceAdd, Nat.reduceMul, Int.reduceToNat, ak]
 refine hJ1 _ ?_
 refine seq_k fun J2 hJ2 => ?_
 refine sr_k fun J3 hJ3 => ?_
 simp +decide only [Nat.reduceAdd, Nat.reduceMul, Int.reduceToNat, ak]
 refine hJ3 _ ?_
 refine block_k fun B4 B4n B4x B4r B4j => ?_
 obtain ⟨y16, h17, h⟩ := of_bind h
 refine gh_k (wk [0, 1, 5] [pI (.arg 0) .fz]) ?_
 rw [e_loop]
 refine laws_heldInt64S.l0_walk cs0 o0 l0 hv0 a1 0 _ h17 _ ?_ ?_
 ·rintro x18 rfl
  dsimp only at h
  refine B4x _ ?_
  refine hJ2 _ ?_
  refine sr_k fun J19 hJ19 => ?_
  simp +decide only [Nat.reduceAdd, Nat.reduceMul, Int.reduceToNat, ak]
  refine hJ19 _ ?_
  obtain rfl := Option.some.inj h
  refine hKr _ ⟨_, rfl, [], _, rfl, rfl, ?_⟩
  first | rfl | (simp only [reduceCtorEq, Nat.reduceEqDiff, ak, akF]; done) | (simp [reduceCtorEq, Nat.reduceEqDiff, ak, akF] <;> omega)
 ·rintro x18 rfl
  dsimp only at h
  refine B4r _ ?_
  obtain rfl := Option.some.inj h
  refine hKr _ ⟨_, rfl, [], _, rfl, rfl, ?_⟩
  first | rfl | (simp only [reduceCtorEq, Nat.reduceEqDiff, ak, akF]; done) | (simp [reduceCtorEq, Nat.reduceEqDiff, ak, akF] <;> omega)
/-! ### laws.heldPlan: function 53 -/
def C53 : AC := .seq (.reg [.op none (.box 2 (.tmp 0)), .op none (.mv 4 (.const (.int .i64 0))), .keep [1, 2]]) (.seq (.reg [.op none (.faddr 5 4 (.tmp 2)), .op none (.load 6 false 1 (.tmp 5)), .op none (.mv 7 (.tmp 1)), .call none (some 8) 44 [.tmp 6, .tmp 7], .op none (.mv 1 (.tmp 8)), .keep [1]]) (.seq (.seq (.reg [.op none (.mv 9 (.tmp 1)), .op none (.bin 10 .lss (.tmp 9) (.const (.int .i64 0))), .keep [1, 10]]) (.cond (.tmp 10) (.seq (.reg [.op none (.mv 4 (.const (.int .i64 (-1)))), .keep [4]]) (.ret)) (.skip))) (.seq (.reg [.op none (.mv 11 (.tmp 1)), .op none (.mv 4 (.tmp 11)), .keep [4]]) (.ret))))
def r53 : List RV := [.tmp 4]
theorem k53 : compC Try.prog 12 C53 (Try.f53.body.getD .skip) = some C53.erase := by kernel_rfl
theorem q53 : rvsOf Try.prog Try.f53.results.toList = some r53 := by kernel_rfl
def laws_heldPlan.f (a0_0 : Int) (a0_1 : Int) (a0_2 : Int) (a0_3 : Int) (l0_4 : List Int) (a0_5 : Int) (a0_6 : Int) (a1 : Int) : Option Int := (laws_heldInt64S.f l0_4 a1 >>= fun t3 => (if t3 < 0 then (some (-1)) else (some t3)))
theorem laws_heldPlan.tri (cs0 : List Cell) (o0 : Nat) (l0_4 : List Int) (hv0 : Vw c_i64 1 cs0 o0 l0_4) (a0_0 : Int) (a0_1 : Int) (a0_2 : Int) (a0_3 : Int) (a0_5 : Int) (a0_6 : Int) (a1 : Int) (r : Int) (h : laws_heldPlan.f a0_0 a0_1 a0_2 a0_3 l0_4 a0_5 a0_6 a1 = some r) : Tri Try.prog 53 [.g [.sc (.int .i64 a0_0), .sc (.int .i64 a0_1), .sc (.int .u64 a0_2), .sc (.int .i64 a0_3), .ref (.arg 0) [] o0 l0_4.length, .sc (.int .i64 a0_5), .sc (.int .i64 a0_6)], .c (.sc (.int .i64 a1))] [(.arg 0, ⟨.fz, 1, cs0⟩)] (fun o => o = ⟨.c (.sc (.int .i64 r)), [(.arg 0, ⟨.fz, 1, cs0⟩)], [], []⟩) := by
 refine tri_of_body (ac := C53) (xs := r53) Try.func53 (show Try.f53.body = some (Try.f53.body.getD .skip) from rfl) k53 q53 (Nat.le_of_ble_eq_true rfl) ?_
 refine body_of fun K hKn hKr => ?_
 unfold laws_heldPlan.f at h
 unfold C53
 simp only [initT, Nat.reduceAdd]
 refine sr_k fun J1 hJ1 => ?_
 simp +decide only [Nat.reduceAdd, Nat.reduceMul, Int.reduceToNat, ak]
 refine hJ1 _ ?_
 refine sr_k fun J2 hJ2 => ?_
 simp +decide only [Nat.reduceAdd, Nat.reduceMul, Int.reduceToNat, ak]
 obtain ⟨t3, h4, h⟩ := of_bind h
 refine call_m [(.arg 0, ⟨(.arg 0), [], none, .fz⟩)] (s0 := [(.arg 0, ⟨.fz, 1, cs0⟩)]) (by intro t ht; cases ht; decide) rfl rfl (by first | rfl | simp only [reduceCtorEq, Nat.reduceEqDiff, ak, akF]) (laws_heldInt64S.tri (cs0) o0 l0_4 hv0 a1 _ h4) (by first | rfl | simp only [reduceCtorEq, Nat.reduceEqDiff, ak, akF]) (by simp [bkOk2, memK]) (fun hl4 => ?_)
 refine call_st (s4 := [(.arg 0, ⟨.fz, 1, cs0⟩), (.tmp 2 0, ⟨.box, 0, [.sc (.int .i64 a0_0), .sc (.int .i64 a0_1), .sc (.int .u64 a0_2), .sc (.int .i64 a0_3), .ref (.arg 0) [] o0 l0_4.length, .sc (.int .i64 a0_5), .sc (.int .i64 a0_6)]⟩)]) (m1' := []) (m2' := []) (v' := .c (.sc (.int .i64 t3))) (Sto.mapN_killNil _ _) (mrgL_fz (mrgL_nil' _ _ _) rfl (by first | rfl | simp only [reduceCtorEq, Nat.reduceEqDiff, ak]) rfl (by intro R hR hh; cases hR; cases hh.2)) (by rfl) (mapT_killNil _ _) (by rfl) (by rfl) (by first | rfl | simp only [reduceCtorEq, Nat.reduceEqDiff, ak, akF, Nat.zero_add, List.append_nil]) ?_
 simp +decide only [Nat.reduceAdd, Nat.reduceMul, Int.reduceToNat, ak]
 refine hJ2 _ ?_
 refine seq_k fun J6 hJ6 => ?_
 refine sr_k fun J7 hJ7 => ?_
 simp +decide only [Nat.reduceAdd, Nat.reduceMul, Int.reduceToNat, ak]
 refine hJ7 _ ?_
 refine cond_k (b := decide (t3 < 0)) rfl (fun c8 => ?_) (fun c8 => ?_)
 ·replace c8 := of_decide_eq_true c8; rw [if_pos c8] at h
  refine sr_k fun J9 hJ9 => ?_
  simp +decide only [Nat.reduceAdd, Nat.reduceMul, Int.reduceToNat, ak]
  refine hJ9 _ ?_
  obtain rfl := Option.some.inj h
  refine hKr _ ⟨_, rfl, [], _, rfl, rfl, ?_⟩
  first | rfl | (simp only [reduceCtorEq, Nat.reduceEqDiff, ak, akF]; done) | (simp [reduceCtorEq, Nat.reduceEqDiff, ak, akF] <;> omega)
 ·replace c8 := of_decide_eq_false c8; rw [if_neg c8] at h
  refine hJ6 _ ?_
  refine sr_k fun J10 hJ10 => ?_
  simp +decide only [Nat.reduceAdd, Nat.reduceMul, Int.reduceToNat, ak]
  refine hJ10 _ ?_
  obtain rfl := Option.some.inj h
  refine hKr _ ⟨_, rfl, [], _, rfl, rfl, ?_⟩
  first | rfl | (simp only [reduceCtorEq, Nat.reduceEqDiff, ak, akF]; done) | (simp [reduceCtorEq, Nat.reduceEqDiff, ak, akF] <;> omega)
end Go.AK
