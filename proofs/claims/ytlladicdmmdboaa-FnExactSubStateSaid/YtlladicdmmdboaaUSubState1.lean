-- by a program of this session (wip/ak/pw.py)
import Derived.Test.YtlladicdmmdboaaUSubState0
set_option synthInstance.maxSize 2000
set_option linter.unusedVariables false
set_option linter.unusedSimpArgs false
namespace Go.AK
open Go Go.Proofs
/-! ### spec.l4Run: function 86 -/
def c86_l0 : AC := .seq (.seq (.reg [.op none (.mv 21 (.tmp 9)), .op none (.mv 22 (.tmp 1)), .op none (.len 23 (.tmp 22)), .op none (.bin 24 .lss (.tmp 21) (.tmp 23)), .keep [1, 4, 7, 8, 9, 24]]) (.cond (.tmp 24) (.skip) (.gh (.exit 0)))) (.seq (.block 1 (.reg [.op none (.mv 27 (.tmp 8)), .op none (.mv 28 (.tmp 1)), .op none (.mv 29 (.tmp 9)), .op none (.iaddr 30 3 (.tmp 28) (.tmp 29)), .op none (.load 31 true 3 (.tmp 30)), .call none (some 32) 129 [.tmp 7, .tmp 31], .op none (.bslice 33 5 [.int .i64 0, .slice none 0 0, .slice none 0 0, .int .i64 0, .int .i64 0] 1 [(0, .tmp 32)]), .gh, .op none (.app 34 5 72 true (.tmp 27) (.tmp 33)), .op none (.mv 8 (.tmp 34)), .keep [1, 4, 7, 8, 9]])) (.reg [.op none (.mv 25 (.tmp 9)), .op none (.bin 26 .add (.tmp 25) (.const (.int .i64 1))), .op none (.mv 9 (.tmp 26)), .keep [1, 4, 7, 8, 9]]))
def c86 : AC := .seq (.reg [.op none (.box 2 (.tmp 0)), .op none (.alloc 4 [.int .u32 0, .int .i64 0, .int .i64 0, .int .i64 0, .int .i64 0, .int .i64 0, .slice none 0 0, .int .i64 0, .int .i64 0, .int .i64 0, .int .i64 0, .int .i64 0, .bool false]), .gh, .op none (.mv 5 (.const (.slice none 0 0))), .gh, .op none (.mv 6 (.const (.int .i64 0))), .keep [1, 2, 4]]) (.seq (.seq (.reg [.op none (.load 10 true 6 (.tmp 2)), .call none (some 11) 130 [.tmp 10], .op none (.un 12 .not (.tmp 11)), .keep [1, 2, 4, 12]]) (.cond (.tmp 12) (.seq (.reg [.op none (.build 13 [.int .u32 0, .int .i64 0, .int .i64 0, .int .i64 0, .int .i64 0, .int .i64 0, .slice none 0 0, .int .i64 0, .int .i64 0, .int .i64 0, .int .i64 0, .int .i64 0, .bool false] []), .gh, .op none (.store 13 (.tmp 4) (.tmp 13)), .op none (.mv 5 (.const (.slice none 0 0))), .gh, .op none (.mv 6 (.const (.int .i64 17))), .keep [4, 5, 6]]) (.ret)) (.skip))) (.seq (.seq (.reg [.op none (.mv 14 (.tmp 1)), .op none (.len 15 (.tmp 14)), .op none (.bin 16 .gtr (.tmp 15) (.const (.int .i64 4000))), .keep [1, 2, 4, 16]]) (.cond (.tmp 16) (.seq (.reg [.op none (.build 17 [.int .u32 0, .int .i64 0, .int .i64 0, .int .i64 0, .int .i64 0, .int .i64 0, .slice none 0 0, .int .i64 0, .int .i64 0, .int .i64 0, .int .i64 0, .int .i64 0, .bool false] []), .gh, .op none (.store 13 (.tmp 4) (.tmp 17)), .op none (.mv 5 (.const (.slice none 0 0))), .gh, .op none (.mv 6 (.const (.int .i64 5))), .keep [4, 5, 6]]) (.ret)) (.skip))) (.seq (.reg [.op none (.load 18 true 6 (.tmp 2)), .call none (some 19) 127 [.tmp 18], .op none (.alloc 7 [.int .u32 0, .int .i64 0, .int .i64 0, .int .i64 0, .int .i64 0, .int .i64 0, .slice none 0 0, .int .i64 0, .int .i64 0, .int .i64 0, .int .i64 0, .int .i64 0, .bool false]), .gh, .op none (.store 13 (.tmp 7) (.tmp 19)), .keep [1, 4, 7]]) (.seq (.reg [.op none (.bslice 20 5 [.int .i64 0, .slice none 0 0, .slice none 0 0, .int .i64 0, .int .i64 0] 0 []), .gh, .op none (.mv 8 (.tmp 20)), .keep [1, 4, 7, 8]]) (.seq (.seq (.reg [.op none (.mv 9 (.const (.int .i64 0))), .keep [1, 4, 7, 8, 9]]) (.block 0 (.gh (.loop (.ga c86_l0))))) (.seq (.reg [.op none (.load 35 true 13 (.tmp 7)), .op none (.mv 36 (.tmp 8)), .op none (.store 13 (.tmp 4) (.tmp 35)), .op none (.mv 5 (.tmp 36)), .op none (.mv 6 (.const (.int .i64 0))), .keep [4, 5, 6]]) (.ret)))))))
def r86 : List RV := [.cell 4 true 13, .tmp 5, .tmp 6]
theorem k86 : compC Try.prog 37 c86 (Try.f86.body.getD .skip) = some c86.erase := by kernel_rfl
theorem q86 : rvsOf Try.prog Try.f86.results.toList = some r86 := by kernel_rfl
def spec_l4Run.l0 (l1 : List S63) (x0_1 : Int) (x0_2 : Int) (x0_3 : Int) (x0_4 : Int) (x0_5 : Int) (x0_6 : Int) (x0_7 : (List Int)) (x0_8 : Int) (x0_9 : Int) (x0_10 : Int) (x0_11 : Int) (x0_12 : Int) (x0_13 : Bool) (x0_14 : Int) (x0_15 : Int) (x0_16 : Int) (x0_17 : Int) (x0_18 : Int) (x0_19 : Int) (x0_0 : Int) (x0_20 : (List Int)) (x0_21 : Int) (x0_22 : Int) (x0_23 : Int) (x0_24 : Int) (x0_25 : Int) (x0_26 : Bool) (x0_27 : (List S66)) : Option ((List Int) × Int × Int × Int × Int × Int × Bool × (List S66)) := (if x0_0 < (l1.length : Int) then (if 0 ≤ x0_0 ∧ x0_0 < (l1.length : Int) then (spec_l4Step.f x0_14 x0_15 x0_16 x0_17 x0_18 x0_19 x0_20 x0_21 x0_22 x0_23 x0_24 x0_25 x0_26 ((rd z63 l1 x0_0).f0) ((rd z63 l1 x0_0).f1) ((rd z63 l1 x0_0).f2) >>= fun t34 => (if (x0_27.length + 1) * 72 ≤ 140737488355328 then (spec_l4Run.l0 l1 x0_1 x0_2 x0_3 x0_4 x0_5 x0_6 x0_7 x0_8 x0_9 x0_10 x0_11 x0_12 x0_13 x0_14 x0_15 x0_16 x0_17 x0_18 x0_19 (IntKind.i64.wrap (x0_0 + 1)) t34.2.2.2.2.2.1 t34.2.2.2.2.2.2.1 t34.2.2.2.2.2.2.2.1 t34.2.2.2.2.2.2.2.2.1 t34.2.2.2.2.2.2.2.2.2.1 t34.2.2.2.2.2.2.2.2.2.2.1 t34.2.2.2.2.2.2.2.2.2.2.2 (x0_27 ++ ([(⟨t34.1, t34.2.1, t34.2.2.1, t34.2.2.2.1, t34.2.2.2.2.1⟩ : S66)] : List S66))) else none)) else none) else (some (x0_20, x0_21, x0_22, x0_23, x0_24, x0_25, x0_26, x0_27)))
  partial_fixpoint
def spec_l4Run.f (a0_0 : Int) (a0_1 : Int) (a0_2 : Int) (a0_3 : Int) (a0_4 : Int) (a0_5 : Int) (l1 : List S63) : Option (Int × Int × Int × Int × Int × Int × (List Int) × Int × Int × Int × Int × Int × Bool × (List S66) × Int) := (spec_l4ConfigOK.f a0_0 a0_1 a0_2 a0_3 a0_4 a0_5 >>= fun t4 => (if (!t4) = true then (some (0, 0, 0, 0, 0, 0, ([] : List Int), 0, 0, 0, 0, 0, false, ([] : List S66), 17)) else (if (l1.length : Int) > 4000 then (some (0, 0, 0, 0, 0, 0, ([] : List Int), 0, 0, 0, 0, 0, false, ([] : List S66), 5)) else (spec_l4Begin.f a0_0 a0_1 a0_2 a0_3 a0_4 a0_5 >>= fun t16 => (spec_l4Run.l0 l1 0 0 0 0 0 0 ([] : List Int) 0 0 0 0 0 false t16.1 t16.2.1 t16.2.2.1 t16.2.2.2.1 t16.2.2.2.2.1 t16.2.2.2.2.2.1 0 t16.2.2.2.2.2.2.1 t16.2.2.2.2.2.2.2.1 t16.2.2.2.2.2.2.2.2.1 t16.2.2.2.2.2.2.2.2.2.1 t16.2.2.2.2.2.2.2.2.2.2.1 t16.2.2.2.2.2.2.2.2.2.2.2.1 t16.2.2.2.2.2.2.2.2.2.2.2.2 ([] : List S66) >>= fun (y48 : ((List Int) × Int × Int × Int × Int × Int × Bool × (List S66))) => (some (t16.1, t16.2.1, t16.2.2.1, t16.2.2.2.1, t16.2.2.2.2.1, t16.2.2.2.2.2.1, y48.1, y48.2.1, y48.2.2.1, y48.2.2.2.1, y48.2.2.2.2.1, y48.2.2.2.2.2.1, y48.2.2.2.2.2.2.1, y48.2.2.2.2.2.2.2, 0)))))))
set_option maxRecDepth 100000 in
set_option maxHeartbeats 4000000 in
theorem spec_l4Run.l0_walk (cs0 : List Cell) (o0 : Nat) (l1 : List S63) (hv0 : Vw c63 3 cs0 o0 l1) (x0_1 : Int) (x0_2 : Int) (x0_3 : Int) (x0_4 : Int) (x0_5 : Int) (x0_6 : Int) (x0_7 : (List Int)) (x0_8 : Int) (x0_9 : Int) (x0_10 : Int) (x0_11 : Int) (x0_12 : Int) (x0_13 : Bool) (x0_14 : Int) (x0_15 : Int) (x0_16 : Int) (x0_17 : Int) (x0_18 : Int) (x0_19 : Int) (x0_0 : Int) (x0_20 : (List Int)) (x0_21 : Int) (x0_22 : Int) (x0_23 : Int) (x0_24 : Int) (x0_25 : Int) (x0_26 : Bool) (x0_27 : (List S66)) (y : ((List Int) × Int × Int × Int × Int × Int × Bool × (List S66))) (h : spec_l4Run.l0 l1 x0_1 x0_2 x0_3 x0_4 x0_5 x0_6 x0_7 x0_8 x0_9 x0_10 x0_11 x0_12 x0_13 x0_14 x0_15 x0_16 x0_17 x0_18 x0_19 x0_0 x0_20 x0_21 x0_22 x0_23 x0_24 x0_25 x0_26 x0_27 = some y) (K : AE → St → Prop) (hx0 : K (.exit 0) ⟨[(4, .c (.ptr (.tmp 4 0) [] 0)), (7, .c (.ptr (.tmp 7 0) [] 0)), (8, .c (.ref (.tmp 20 0) [] 0 y.2.2.2.2.2.2.2.length))], [(.arg 0, ⟨.fz, 3, cs0⟩), (.tmp 4 0, ⟨.box, 0, [.sc (.int .u32 x0_1), .sc (.int .i64 x0_2), .sc (.int .i64 x0_3), .sc (.int .i64 x0_4), .sc (.int .i64 x0_5), .sc (.int .i64 x0_6), .own 1 x0_7.length (encL c_i64 x0_7), .sc (.int .i64 x0_8), .sc (.int .i64 x0_9), .sc (.int .i64 x0_10), .sc (.int .i64 x0_11), .sc (.int .i64 x0_12), .sc (.bool x0_13)]⟩), (.tmp 7 0, ⟨.box, 0, [.sc (.int .u32 x0_14), .sc (.int .i64 x0_15), .sc (.int .i64 x0_16), .sc (.int .i64 x0_17), .sc (.int .i64 x0_18), .sc (.int .i64 x0_19), .own 1 y.1.length (encL c_i64 y.1), .sc (.int .i64 y.2.1), .sc (.int .i64 y.2.2.1), .sc (.int .i64 y.2.2.2.1), .sc (.int .i64 y.2.2.2.2.1), .sc (.int .i64 y.2.2.2.2.2.1), .sc (.bool y.2.2.2.2.2.2.1)]⟩), (.tmp 20 0, ⟨.lst, 5, encL c66 y.2.2.2.2.2.2.2⟩)], [], []⟩) : loopS Try.prog 37 (.ga c86_l0) K ⟨[(1, .c (.ref (.arg 0) [] o0 l1.length)), (4, .c (.ptr (.tmp 4 0) [] 0)), (7, .c (.ptr (.tmp 7 0) [] 0)), (8, .c (.ref (.tmp 20 0) [] 0 x0_27.length)), (9, .c (.sc (.int .i64 x0_0)))], [(.arg 0, ⟨.fz, 3, cs0⟩), (.tmp 4 0, ⟨.box, 0, [.sc (.int .u32 x0_1), .sc (.int .i64 x0_2), .sc (.int .i64 x0_3), .sc (.int .i64 x0_4), .sc (.int .i64 x0_5), .sc (.int .i64 x0_6), .own 1 x0_7.length (encL c_i64 x0_7), .sc (.int .i64 x0_8), .sc (.int .i64 x0_9), .sc (.int .i64 x0_10), .sc (.int .i64 x0_11), .sc (.int .i64 x0_12), .sc (.bool x0_13)]⟩), (.tmp 7 0, ⟨.box, 0, [.sc (.int .u32 x0_14), .sc (.int .i64 x0_15), .sc (.int .i64 x0_16), .sc (.int .i64 x0_17), .sc (.int .i64 x0_18), .sc (.int .i64 x0_19), .own 1 x0_20.length (encL c_i64 x0_20), .sc (.int .i64 x0_21), .sc (.int .i64 x0_22), .sc (.int .i64 x0_23), .sc (.int .i64 x0_24), .sc (.int .i64 x0_25), .sc (.bool x0_26)]⟩), (.tmp 20 0, ⟨.lst, 5, encL c66 x0_27⟩)], [], []⟩ := by
  refine spec_l4Run.l0.partial_correctness l1 x0_1 x0_2 x0_3 x0_4 x0_5 x0_6 x0_7 x0_8 x0_9 x0_10 x0_11 x0_12 x0_13 x0_14 x0_15 x0_16 x0_17 x0_18 x0_19 (motive := fun x0_0 x0_20 x0_21 x0_22 x0_23 x0_24 x0_25 x0_26 x0_27 y => ∀ (K : AE → St → Prop), (K (.exit 0) ⟨[(4, .c (.ptr (.tmp 4 0) [] 0)), (7, .c (.ptr (.tmp 7 0) [] 0)), (8, .c (.ref (.tmp 20 0) [] 0 y.2.2.2.2.2.2.2.length))], [(.arg 0, ⟨.fz, 3, cs0⟩), (.tmp 4 0, ⟨.box, 0, [.sc (.int .u32 x0_1), .sc (.int .i64 x0_2), .sc (.int .i64 x0_3), .sc (.int .i64 x0_4), .sc (.int .i64 x0_5), .sc (.int .i64 x0_6), .own 1 x0_7.length (encL c_i64 x0_7), .sc (.int .i64 x0_8), .sc (.int .i64 x0_9), .sc (.int .i64 x0_10), .sc (.int .i64 x0_11), .sc (.int .i64 x0_12), .sc (.bool x0_13)]⟩), (.tmp 7 0, ⟨.box, 0, [.sc (.int .u32 x0_14), .sc (.int .i64 x0_15), .sc (.int .i64 x0_16), .sc (.int .i64 x0_17), .sc (.int .i64 x0_18), .sc (.int .i64 x0_19), .own 1 y.1.length (encL c_i64 y.1), .sc (.int .i64 y.2.1), .sc (.int .i64 y.2.2.1), .sc (.int .i64 y.2.2.2.1), .sc (.int .i64 y.2.2.2.2.1), .sc (.int .i64 y.2.2.2.2.2.1), .sc (.bool y.2.2.2.2.2.2.1)]⟩), (.tmp 20 0, ⟨.lst, 5, encL c66 y.2.2.2.2.2.2.2⟩)], [], []⟩) → loopS Try.prog 37 (.ga c86_l0) K ⟨[(1, .c (.ref (.arg 0) [] o0 l1.length)), (4, .c (.ptr (.tmp 4 0) [] 0)), (7, .c (.ptr (.tmp 7 0) [] 0)), (8, .c (.ref (.tmp 20 0) [] 0 x0_27.length)), (9, .c (.sc (.int .i64 x0_0)))], [(.arg 0, ⟨.fz, 3, cs0⟩), (.tmp 4 0, ⟨.box, 0, [.sc (.int .u32 x0_1), .sc (.int .i64 x0_2), .sc (.int .i64 x0_3), .sc (.int .i64 x0_4), .sc (.int .i64 x0_5), .sc (.int .i64 x0_6), .own 1 x0_7.length (encL c_i64 x0_7), .sc (.int .i64 x0_8), .sc (.int .i64 x0_9), .sc (.int .i64 x0_10), .sc (.int .i64 x0_11), .sc (.int .i64 x0_12), .sc (.bool x0_13)]⟩), (.tmp 7 0, ⟨.box, 0, [.sc (.int .u32 x0_14), .sc (.int .i64 x0_15), .sc (.int .i64 x0_16), .sc (.int .i64 x0_17), .sc (.int .i64 x0_18), .sc (.int .i64 x0_19), .own 1 x0_20.length (encL c_i64 x0_20), .sc (.int .i64 x0_21), .sc (.int .i64 x0_22), .sc (.int .i64 x0_23), .sc (.int .i64 x0_24), .sc (.int .i64 x0_25), .sc (.bool x0_26)]⟩), (.tmp 20 0, ⟨.lst, 5, encL c66 x0_27⟩)], [], []⟩) ?_ x0_0 x0_20 x0_21 x0_22 x0_23 x0_24 x0_25 x0_26 x0_27 y h K hx0
  clear h hx0
  intro rec ih x0_0 x0_20 x0_21 x0_22 x0_23 x0_24 x0_25 x0_26 x0_27 y h K hx0
  refine loop_unroll (ga_k fun G0 G0n G0r G0x => ?_)
  unfold c86_l0
  refine seq_k fun J27 hJ27 => ?_
  refine seq_k fun J28 hJ28 => ?_
  refine reg_k ?_
  simp only [Nat.reduceEqDiff, Nat.reduceAdd, Nat.reduceMul, Nat.reduceLeDiff, Nat.reduceLT, Int.reduceLE, Int.reduceLT, Int.reduceGT, Int.reduceGE, Int.reduceEq, Int.reduceNe, Int.reduceToNat, reduceCtorEq, ak]
  refine hJ28 _ ?_
  refine cond_k (b := decide (x0_0 < (l1.length : Int))) rfl (fun c29 => ?_) (fun c29 => ?_)
  · replace c29 := of_decide_eq_true c29; rw [if_pos c29] at h
    refine hJ27 _ ?_
    refine seq_k fun J30 hJ30 => ?_
    refine block_k fun B31 B31n B31x B31r B31j => ?_
    refine reg_k ?_
    obtain ⟨b32, h⟩ := of_guard h
    have g33 : (List.drop (o0 + x0_0.toNat * 3) (cs0)).take 3 = [.sc (.int .i64 ((rd z63 l1 x0_0).f0)), .sc (.int .i64 ((rd z63 l1 x0_0).f1)), .sc (.int .u32 ((rd z63 l1 x0_0).f2))] := hv0.stretch z63 b32.1 b32.2
    simp only [Nat.reduceEqDiff, Nat.reduceAdd, Nat.reduceMul, Nat.reduceLeDiff, Nat.reduceLT, Int.reduceLE, Int.reduceLT, Int.reduceGT, Int.reduceGE, Int.reduceEq, Int.reduceNe, Int.reduceToNat, reduceCtorEq, ak, b32, g33]
    obtain ⟨t34, h35, h⟩ := of_bind h
    refine call_m [(.arg 0, ⟨(.tmp 7 0), [], none, .box⟩)] (s0 := [(.arg 0, ⟨.box, 0, [.sc (.int .u32 x0_14), .sc (.int .i64 x0_15), .sc (.int .i64 x0_16), .sc (.int .i64 x0_17), .sc (.int .i64 x0_18), .sc (.int .i64 x0_19), .own 1 x0_20.length (encL c_i64 x0_20), .sc (.int .i64 x0_21), .sc (.int .i64 x0_22), .sc (.int .i64 x0_23), .sc (.int .i64 x0_24), .sc (.int .i64 x0_25), .sc (.bool x0_26)]⟩)]) (by intro t ht; cases ht; decide) rfl rfl (by first | rfl | simp only [reduceCtorEq, Nat.reduceEqDiff, ak, akF, b32, g33]) (spec_l4Step.tri x0_14 x0_15 x0_16 x0_17 x0_18 x0_19 x0_20 x0_21 x0_22 x0_23 x0_24 x0_25 x0_26 ((rd z63 l1 x0_0).f0) ((rd z63 l1 x0_0).f1) ((rd z63 l1 x0_0).f2) _ h35) (by first | rfl | simp only [reduceCtorEq, Nat.reduceEqDiff, ak, akF]) (by simp [bkOk2, memK]) (fun hl35 => ?_)
    refine call_st (s2 := [(.arg 0, ⟨.fz, 3, cs0⟩), (.tmp 4 0, ⟨.box, 0, [.sc (.int .u32 x0_1), .sc (.int .i64 x0_2), .sc (.int .i64 x0_3), .sc (.int .i64 x0_4), .sc (.int .i64 x0_5), .sc (.int .i64 x0_6), .own 1 x0_7.length (encL c_i64 x0_7), .sc (.int .i64 x0_8), .sc (.int .i64 x0_9), .sc (.int .i64 x0_10), .sc (.int .i64 x0_11), .sc (.int .i64 x0_12), .sc (.bool x0_13)]⟩), (.tmp 7 0, ⟨.box, 0, [.sc (.int .u32 x0_14), .sc (.int .i64 x0_15), .sc (.int .i64 x0_16), .sc (.int .i64 x0_17), .sc (.int .i64 x0_18), .sc (.int .i64 x0_19), .own 1 x0_20.length (encL c_i64 x0_20), .sc (.int .i64 x0_21), .sc (.int .i64 x0_22), .sc (.int .i64 x0_23), .sc (.int .i64 x0_24), .sc (.int .i64 x0_25), .sc (.bool x0_26)]⟩), (.tmp 20 0, ⟨.lst, 5, encL c66 x0_27⟩)]) (s4 := [(.arg 0, ⟨.fz, 3, cs0⟩), (.tmp 4 0, ⟨.box, 0, [.sc (.int .u32 x0_1), .sc (.int .i64 x0_2), .sc (.int .i64 x0_3), .sc (.int .i64 x0_4), .sc (.int .i64 x0_5), .sc (.int .i64 x0_6), .own 1 x0_7.length (encL c_i64 x0_7), .sc (.int .i64 x0_8), .sc (.int .i64 x0_9), .sc (.int .i64 x0_10), .sc (.int .i64 x0_11), .sc (.int .i64 x0_12), .sc (.bool x0_13)]⟩), (.tmp 7 0, ⟨.box, 0, [.sc (.int .u32 x0_14), .sc (.int .i64 x0_15), .sc (.int .i64 x0_16), .sc (.int .i64 x0_17), .sc (.int .i64 x0_18), .sc (.int .i64 x0_19), .own 1 t34.2.2.2.2.2.1.length (encL c_i64 t34.2.2.2.2.2.1), .sc (.int .i64 t34.2.2.2.2.2.2.1), .sc (.int .i64 t34.2.2.2.2.2.2.2.1), .sc (.int .i64 t34.2.2.2.2.2.2.2.2.1), .sc (.int .i64 t34.2.2.2.2.2.2.2.2.2.1), .sc (.int .i64 t34.2.2.2.2.2.2.2.2.2.2.1), .sc (.bool t34.2.2.2.2.2.2.2.2.2.2.2)]⟩), (.tmp 20 0, ⟨.lst, 5, encL c66 x0_27⟩), (.tmp 32 1, ⟨.lst, 1, encL c_i64 t34.2.2.1⟩), (.tmp 32 0, ⟨.lst, 3, encL c68 t34.2.1⟩)]) (t' := [(1, .c (.ref (.arg 0) [] o0 l1.length)), (4, .c (.ptr (.tmp 4 0) [] 0)), (7, .c (.ptr (.tmp 7 0) [] 0)), (8, .c (.ref (.tmp 20 0) [] 0 x0_27.length)), (9, .c (.sc (.int .i64 x0_0))), (24, .c (.sc (.bool (decide (x0_0 < (l1.length : Int)))))), (27, .c (.ref (.tmp 20 0) [] 0 x0_27.length)), (28, .c (.ref (.arg 0) [] o0 l1.length)), (29, .c (.sc (.int .i64 x0_0))), (30, .c (.ptr (.arg 0) [] (o0 + x0_0.toNat * 3))), (31, .g [.sc (.int .i64 ((rd z63 l1 x0_0).f0)), .sc (.int .i64 ((rd z63 l1 x0_0).f1)), .sc (.int .u32 ((rd z63 l1 x0_0).f2))])]) (m1' := []) (m2' := []) (v' := .g [.sc (.int .i64 t34.1), .ref (.tmp 32 0) [] 0 t34.2.1.length, .ref (.tmp 32 1) [] 0 t34.2.2.1.length, .sc (.int .i64 t34.2.2.2.1), .sc (.int .i64 t34.2.2.2.2.1)]) (by first | rfl | simp only [reduceCtorEq, Nat.reduceEqDiff, ak, akF, List.contains_nil, List.contains_cons, Nat.reduceBEq, b32]) (mrgL_whole (new' := [.sc (.int .u32 x0_14), .sc (.int .i64 x0_15), .sc (.int .i64 x0_16), .sc (.int .i64 x0_17), .sc (.int .i64 x0_18), .sc (.int .i64 x0_19), .own 1 t34.2.2.2.2.2.1.length (encL c_i64 t34.2.2.2.2.2.1), .sc (.int .i64 t34.2.2.2.2.2.2.1), .sc (.int .i64 t34.2.2.2.2.2.2.2.1), .sc (.int .i64 t34.2.2.2.2.2.2.2.2.1), .sc (.int .i64 t34.2.2.2.2.2.2.2.2.2.1), .sc (.int .i64 t34.2.2.2.2.2.2.2.2.2.2.1), .sc (.bool t34.2.2.2.2.2.2.2.2.2.2.2)]) (mrgL_nil' _ _ _) rfl (by rfl) (.inl ⟨rfl, by first | rfl | simp only [reduceCtorEq, Nat.reduceEqDiff, ak, akF, Nat.zero_add, List.append_nil, b32]⟩)) (by rfl) (by first | rfl | simp only [reduceCtorEq, Nat.reduceEqDiff, ak, akF, List.contains_nil, List.contains_cons, Nat.reduceBEq, b32]) (by rfl) (by rfl) (by first | rfl | simp only [reduceCtorEq, Nat.reduceEqDiff, ak, akF, Nat.zero_add, List.append_nil, b32]) ?_
    have g37 : (List.replicate 1 ([.int .i64 0, .slice none 0 0, .slice none 0 0, .int .i64 0, .int .i64 0] : List Value)).flatten = [.int .i64 0, .slice none 0 0, .slice none 0 0, .int .i64 0, .int .i64 0] := rfl
    have g38 : (encL c68 t34.2.1).length = t34.2.1.length * 3 := by simp [encL_length c68_w]
    have g39 : (encL c_i64 t34.2.2.1).length = t34.2.2.1.length * 1 := by simp [encL_length c_i64_w]
    have g40 : (⟨.lst, 5, [.sc (.int .i64 t34.1), .own 3 t34.2.1.length (encL c68 t34.2.1), .own 1 t34.2.2.1.length (encL c_i64 t34.2.2.1), .sc (.int .i64 t34.2.2.2.1), .sc (.int .i64 t34.2.2.2.2.1)]⟩ : Root) = ⟨.lst, 5, encL c66 ([(⟨t34.1, t34.2.1, t34.2.2.1, t34.2.2.2.1, t34.2.2.2.2.1⟩ : S66)] : List S66)⟩ := rfl
    have g41 : ([(⟨t34.1, t34.2.1, t34.2.2.1, t34.2.2.2.1, t34.2.2.2.2.1⟩ : S66)] : List S66).length = 1 := rfl
    simp only [Nat.reduceEqDiff, Nat.reduceAdd, Nat.reduceMul, Nat.reduceLeDiff, Nat.reduceLT, Int.reduceLE, Int.reduceLT, Int.reduceGT, Int.reduceGE, Int.reduceEq, Int.reduceNe, Int.reduceToNat, reduceCtorEq, ak, g37, g38, g39, g40, g41]
    refine gho_k (Weak.refl _ _) ?_
    have g42 : (encL c66 ([(⟨t34.1, t34.2.1, t34.2.2.1, t34.2.2.2.1, t34.2.2.2.2.1⟩ : S66)] : List S66)).length = 1 * 5 := by simp [encL_length c66_w]
    have g43 : (encL c66 ([(⟨t34.1, t34.2.1, t34.2.2.1, t34.2.2.2.1, t34.2.2.2.2.1⟩ : S66)] : List S66)).all nd = true := rfl
    obtain ⟨b44, h⟩ := of_guard h
    have g45 : appLim x0_27.length 1 72 := ⟨b44, by have := b44; omega⟩
    have g46 : (encL c66 x0_27).length = x0_27.length * 5 := by simp [encL_length c66_w]
    have g47 : encL c66 x0_27 ++ encL c66 ([(⟨t34.1, t34.2.1, t34.2.2.1, t34.2.2.2.1, t34.2.2.2.2.1⟩ : S66)] : List S66) = encL c66 (x0_27 ++ ([(⟨t34.1, t34.2.1, t34.2.2.1, t34.2.2.2.1, t34.2.2.2.2.1⟩ : S66)] : List S66)) := (encL_append _ _).symm
    simp only [Nat.reduceEqDiff, Nat.reduceAdd, Nat.reduceMul, Nat.reduceLeDiff, Nat.reduceLT, Int.reduceLE, Int.reduceLT, Int.reduceGT, Int.reduceGE, Int.reduceEq, Int.reduceNe, Int.reduceToNat, reduceCtorEq, ak, g42, g43, g45, g46, g47]
    refine B31n _ ?_
    refine hJ30 _ ?_
    refine reg_k ?_
    simp only [Nat.reduceEqDiff, Nat.reduceAdd, Nat.reduceMul, Nat.reduceLeDiff, Nat.reduceLT, Int.reduceLE, Int.reduceLT, Int.reduceGT, Int.reduceGE, Int.reduceEq, Int.reduceNe, Int.reduceToNat, reduceCtorEq, ak]
    refine G0n _ (⟨[(1, .c (.ref (.arg 0) [] o0 l1.length)), (4, .c (.ptr (.tmp 4 0) [] 0)), (7, .c (.ptr (.tmp 7 0) [] 0)), (8, .c (.ref (.tmp 20 0) [] 0 ((x0_27 ++ ([(⟨t34.1, t34.2.1, t34.2.2.1, t34.2.2.2.1, t34.2.2.2.2.1⟩ : S66)] : List S66)).length))), (9, .c (.sc (.int .i64 (IntKind.i64.wrap (x0_0 + 1)))))], [(.arg 0, ⟨.fz, 3, cs0⟩), (.tmp 4 0, ⟨.box, 0, [.sc (.int .u32 x0_1), .sc (.int .i64 x0_2), .sc (.int .i64 x0_3), .sc (.int .i64 x0_4), .sc (.int .i64 x0_5), .sc (.int .i64 x0_6), .own 1 x0_7.length (encL c_i64 x0_7), .sc (.int .i64 x0_8), .sc (.int .i64 x0_9), .sc (.int .i64 x0_10), .sc (.int .i64 x0_11), .sc (.int .i64 x0_12), .sc (.bool x0_13)]⟩), (.tmp 7 0, ⟨.box, 0, [.sc (.int .u32 x0_14), .sc (.int .i64 x0_15), .sc (.int .i64 x0_16), .sc (.int .i64 x0_17), .sc (.int .i64 x0_18), .sc (.int .i64 x0_19), .own 1 t34.2.2.2.2.2.1.length (encL c_i64 t34.2.2.2.2.2.1), .sc (.int .i64 t34.2.2.2.2.2.2.1), .sc (.int .i64 t34.2.2.2.2.2.2.2.1), .sc (.int .i64 t34.2.2.2.2.2.2.2.2.1), .sc (.int .i64 t34.2.2.2.2.2.2.2.2.2.1), .sc (.int .i64 t34.2.2.2.2.2.2.2.2.2.2.1), .sc (.bool t34.2.2.2.2.2.2.2.2.2.2.2)]⟩), (.tmp 20 0, ⟨.lst, 5, encL c66 (x0_27 ++ ([(⟨t34.1, t34.2.1, t34.2.2.1, t34.2.2.2.1, t34.2.2.2.2.1⟩ : S66)] : List S66))⟩)], [], []⟩) (((Weak.keep [1, 4, 7, 8, 9]).trans ((Weak.foc [(.arg 0, ⟨(.arg 0), [], none, .fz⟩), (.tmp 4 0, ⟨(.tmp 4 0), [], none, .box⟩), (.tmp 7 0, ⟨(.tmp 7 0), [], none, .box⟩), (.tmp 20 0, ⟨(.tmp 20 0), [], none, .lst⟩)] rfl (by first | rfl | simp only [reduceCtorEq, Nat.reduceEqDiff, ak, akF, b32, b44]) (by simp [argK, akG, ak])).trans (Weak.of_eq (by first | rfl | (simp only [reduceCtorEq, Nat.reduceEqDiff, ak, akF, b32, b44]; done) | (simp [reduceCtorEq, Nat.reduceEqDiff, ak, akF, b32, b44]; done)))))) (ih _ _ _ _ _ _ _ _ _ _ h K hx0)
  · replace c29 := of_decide_eq_false c29; rw [if_neg c29] at h
    obtain rfl := Option.some.inj h
    refine gh_k (st' := ⟨[(4, .c (.ptr (.tmp 4 0) [] 0)), (7, .c (.ptr (.tmp 7 0) [] 0)), (8, .c (.ref (.tmp 20 0) [] 0 x0_27.length))], [(.arg 0, ⟨.fz, 3, cs0⟩), (.tmp 4 0, ⟨.box, 0, [.sc (.int .u32 x0_1), .sc (.int .i64 x0_2), .sc (.int .i64 x0_3), .sc (.int .i64 x0_4), .sc (.int .i64 x0_5), .sc (.int .i64 x0_6), .own 1 x0_7.length (encL c_i64 x0_7), .sc (.int .i64 x0_8), .sc (.int .i64 x0_9), .sc (.int .i64 x0_10), .sc (.int .i64 x0_11), .sc (.int .i64 x0_12), .sc (.bool x0_13)]⟩), (.tmp 7 0, ⟨.box, 0, [.sc (.int .u32 x0_14), .sc (.int .i64 x0_15), .sc (.int .i64 x0_16), .sc (.int .i64 x0_17), .sc (.int .i64 x0_18), .sc (.int .i64 x0_19), .own 1 x0_20.length (encL c_i64 x0_20), .sc (.int .i64 x0_21), .sc (.int .i64 x0_22), .sc (.int .i64 x0_23), .sc (.int .i64 x0_24), .sc (.int .i64 x0_25), .sc (.bool x0_26)]⟩), (.tmp 20 0, ⟨.lst, 5, encL c66 x0_27⟩)], [], []⟩) (((Weak.keep [4, 7, 8]).trans ((Weak.foc [(.arg 0, ⟨(.arg 0), [], none, .fz⟩), (.tmp 4 0, ⟨(.tmp 4 0), [], none, .box⟩), (.tmp 7 0, ⟨(.tmp 7 0), [], none, .box⟩), (.tmp 20 0, ⟨(.tmp 20 0), [], none, .lst⟩)] rfl (by first | rfl | simp only [reduceCtorEq, Nat.reduceEqDiff, ak, akF]) (by simp [argK, akG, ak])).trans (Weak.of_eq (by first | rfl | (simp only [reduceCtorEq, Nat.reduceEqDiff, ak, akF]; done) | (simp [reduceCtorEq, Nat.reduceEqDiff, ak, akF]; done)))))) ?_
    refine G0x _ _ ?_
    exact hx0
set_option maxRecDepth 100000 in
set_option maxHeartbeats 4000000 in
theorem spec_l4Run.tri (cs0 : List Cell) (o0 : Nat) (l1 : List S63) (hv0 : Vw c63 3 cs0 o0 l1) (a0_0 : Int) (a0_1 : Int) (a0_2 : Int) (a0_3 : Int) (a0_4 : Int) (a0_5 : Int) (r : Int × Int × Int × Int × Int × Int × (List Int) × Int × Int × Int × Int × Int × Bool × (List S66) × Int) (h : spec_l4Run.f a0_0 a0_1 a0_2 a0_3 a0_4 a0_5 l1 = some r) : Tri Try.prog 86 [.g [.sc (.int .u32 a0_0), .sc (.int .i64 a0_1), .sc (.int .i64 a0_2), .sc (.int .i64 a0_3), .sc (.int .i64 a0_4), .sc (.int .i64 a0_5)], .c (.ref (.arg 0) [] o0 l1.length)] [(.arg 0, ⟨.fz, 3, cs0⟩)] (fun o => o = ⟨.tup [(true, [.sc (.int .u32 r.1), .sc (.int .i64 r.2.1), .sc (.int .i64 r.2.2.1), .sc (.int .i64 r.2.2.2.1), .sc (.int .i64 r.2.2.2.2.1), .sc (.int .i64 r.2.2.2.2.2.1), .ref (.res 0) [] 0 r.2.2.2.2.2.2.1.length, .sc (.int .i64 r.2.2.2.2.2.2.2.1), .sc (.int .i64 r.2.2.2.2.2.2.2.2.1), .sc (.int .i64 r.2.2.2.2.2.2.2.2.2.1), .sc (.int .i64 r.2.2.2.2.2.2.2.2.2.2.1), .sc (.int .i64 r.2.2.2.2.2.2.2.2.2.2.2.1), .sc (.bool r.2.2.2.2.2.2.2.2.2.2.2.2.1)]), (false, [.ref (.res 1) [] 0 r.2.2.2.2.2.2.2.2.2.2.2.2.2.1.length]), (false, [.sc (.int .i64 r.2.2.2.2.2.2.2.2.2.2.2.2.2.2)])], [(.arg 0, ⟨.fz, 3, cs0⟩), (.res 0, ⟨.lst, 1, encL c_i64 r.2.2.2.2.2.2.1⟩), (.res 1, ⟨.lst, 5, encL c66 r.2.2.2.2.2.2.2.2.2.2.2.2.2.1⟩)], [], []⟩) := by
  refine tri_of_body (ac := c86) (xs := r86) Try.func86 (show Try.f86.body = some (Try.f86.body.getD .skip) from rfl) k86 q86 (Nat.le_of_ble_eq_true rfl) ?_
  refine body_of fun K hKn hKr => ?_
  unfold spec_l4Run.f at h
  unfold c86
  simp only [initT, Nat.reduceAdd]
  refine seq_k fun J1 hJ1 => ?_
  refine reg_k ?_
  simp only [Nat.reduceEqDiff, Nat.reduceAdd, Nat.reduceMul, Nat.reduceLeDiff, Nat.reduceLT, Int.reduceLE, Int.reduceLT, Int.reduceGT, Int.reduceGE, Int.reduceEq, Int.reduceNe, Int.reduceToNat, reduceCtorEq, ak]
  refine gho_k (Weak.own (.tmp 4 0) (cs' := [.sc (.int .u32 0), .sc (.int .i64 0), .sc (.int .i64 0), .sc (.int .i64 0), .sc (.int .i64 0), .sc (.int .i64 0), .own 1 (([] : List Int).length) (encL c_i64 ([] : List Int)), .sc (.int .i64 0), .sc (.int .i64 0), .sc (.int .i64 0), .sc (.int .i64 0), .sc (.int .i64 0), .sc (.bool false)]) rfl ⟨.inl rfl, .inl rfl, .inl rfl, .inl rfl, .inl rfl, .inl rfl, .inr ⟨rfl, _, rfl⟩, .inl rfl, .inl rfl, .inl rfl, .inl rfl, .inl rfl, .inl rfl, trivial⟩) ?_
  simp only [Nat.reduceEqDiff, Nat.reduceAdd, Nat.reduceMul, Nat.reduceLeDiff, Nat.reduceLT, Int.reduceLE, Int.reduceLT, Int.reduceGT, Int.reduceGE, Int.reduceEq, Int.reduceNe, Int.reduceToNat, reduceCtorEq, ak]
  refine gho_k (Weak.nm' 5 (.tmp 5 20) 5 (encL c66 ([] : List S66)) rfl rfl rfl) ?_
  simp only [Nat.reduceEqDiff, Nat.reduceAdd, Nat.reduceMul, Nat.reduceLeDiff, Nat.reduceLT, Int.reduceLE, Int.reduceLT, Int.reduceGT, Int.reduceGE, Int.reduceEq, Int.reduceNe, Int.reduceToNat, reduceCtorEq, ak]
  refine hJ1 _ ?_
  refine seq_k fun J2 hJ2 => ?_
  refine seq_k fun J3 hJ3 => ?_
  refine reg_k ?_
  simp only [Nat.reduceEqDiff, Nat.reduceAdd, Nat.reduceMul, Nat.reduceLeDiff, Nat.reduceLT, Int.reduceLE, Int.reduceLT, Int.reduceGT, Int.reduceGE, Int.reduceEq, Int.reduceNe, Int.reduceToNat, reduceCtorEq, ak]
  obtain ⟨t4, h5, h⟩ := of_bind h
  refine call_m [] (s0 := []) (by intro t ht; cases ht; decide) rfl rfl (by first | rfl | simp only [reduceCtorEq, Nat.reduceEqDiff, ak, akF]) (spec_l4ConfigOK.tri a0_0 a0_1 a0_2 a0_3 a0_4 a0_5 _ h5) (by first | rfl | simp only [reduceCtorEq, Nat.reduceEqDiff, ak, akF]) (by simp [bkOk2, memK]) (fun hl5 => ?_)
  refine call_st (s4 := [(.arg 0, ⟨.fz, 3, cs0⟩), (.tmp 2 0, ⟨.box, 0, [.sc (.int .u32 a0_0), .sc (.int .i64 a0_1), .sc (.int .i64 a0_2), .sc (.int .i64 a0_3), .sc (.int .i64 a0_4), .sc (.int .i64 a0_5)]⟩), (.tmp 4 0, ⟨.box, 0, [.sc (.int .u32 0), .sc (.int .i64 0), .sc (.int .i64 0), .sc (.int .i64 0), .sc (.int .i64 0), .sc (.int .i64 0), .own 1 (([] : List Int).length) (encL c_i64 ([] : List Int)), .sc (.int .i64 0), .sc (.int .i64 0), .sc (.int .i64 0), .sc (.int .i64 0), .sc (.int .i64 0), .sc (.bool false)]⟩), (.tmp 5 20, ⟨.lst, 5, encL c66 ([] : List S66)⟩)]) (m1' := []) (m2' := []) (v' := .c (.sc (.bool t4))) (Sto.mapN_killNil _ _) (mrgL_nil' _ _ _) (by rfl) (mapT_killNil _ _) (by rfl) (by rfl) (by first | rfl | simp only [reduceCtorEq, Nat.reduceEqDiff, ak, akF, Nat.zero_add, List.append_nil]) ?_
  simp only [Nat.reduceEqDiff, Nat.reduceAdd, Nat.reduceMul, Nat.reduceLeDiff, Nat.reduceLT, Int.reduceLE, Int.reduceLT, Int.reduceGT, Int.reduceGE, Int.reduceEq, Int.reduceNe, Int.reduceToNat, reduceCtorEq, ak]
  refine hJ3 _ ?_
  refine cond_k (b := !t4) rfl (fun c7 => ?_) (fun c7 => ?_)
  · rw [if_pos c7] at h
    refine seq_k fun J8 hJ8 => ?_
    refine reg_k ?_
    simp only [Nat.reduceEqDiff, Nat.reduceAdd, Nat.reduceMul, Nat.reduceLeDiff, Nat.reduceLT, Int.reduceLE, Int.reduceLT, Int.reduceGT, Int.reduceGE, Int.reduceEq, Int.reduceNe, Int.reduceToNat, reduceCtorEq, ak]
    refine gho_k (Weak.nmg' 13 6 (.tmp 13 26) 1 (encL c_i64 ([] : List Int)) rfl rfl rfl rfl) ?_
    have g9 : (encL c_i64 ([] : List Int)).length = 0 * 1 := by simp [encL_length c_i64_w]
    simp only [Nat.reduceEqDiff, Nat.reduceAdd, Nat.reduceMul, Nat.reduceLeDiff, Nat.reduceLT, Int.reduceLE, Int.reduceLT, Int.reduceGT, Int.reduceGE, Int.reduceEq, Int.reduceNe, Int.reduceToNat, reduceCtorEq, ak, g9]
    refine gho_k ((Weak.drop [.tmp 5 20]).trans (Weak.nm' 5 (.tmp 5 20) 5 (encL c66 ([] : List S66)) rfl rfl rfl)) ?_
    simp only [Nat.reduceEqDiff, Nat.reduceAdd, Nat.reduceMul, Nat.reduceLeDiff, Nat.reduceLT, Int.reduceLE, Int.reduceLT, Int.reduceGT, Int.reduceGE, Int.reduceEq, Int.reduceNe, Int.reduceToNat, reduceCtorEq, ak]
    refine hJ8 _ ?_
    obtain rfl := Option.some.inj h
    refine hKr _ ⟨_, rfl, [⟨(.tmp 4 0), [6], none, .lst⟩, ⟨(.tmp 5 20), [], none, .lst⟩], _, rfl, rfl, ?_⟩
    first | rfl | (simp only [reduceCtorEq, Nat.reduceEqDiff, ak, akF]; done) | (simp [reduceCtorEq, Nat.reduceEqDiff, ak, akF]; done)
  · rw [if_neg (Bool.eq_false_iff.1 c7)] at h
    refine hJ2 _ ?_
    refine seq_k fun J10 hJ10 => ?_
    refine seq_k fun J11 hJ11 => ?_
    refine reg_k ?_
    simp only [Nat.reduceEqDiff, Nat.reduceAdd, Nat.reduceMul, Nat.reduceLeDiff, Nat.reduceLT, Int.reduceLE, Int.reduceLT, Int.reduceGT, Int.reduceGE, Int.reduceEq, Int.reduceNe, Int.reduceToNat, reduceCtorEq, ak]
    refine hJ11 _ ?_
    refine cond_k (b := decide ((l1.length : Int) > 4000)) rfl (fun c12 => ?_) (fun c12 => ?_)
    · replace c12 := of_decide_eq_true c12; rw [if_pos c12] at h
      refine seq_k fun J13 hJ13 => ?_
      refine reg_k ?_
      simp only [Nat.reduceEqDiff, Nat.reduceAdd, Nat.reduceMul, Nat.reduceLeDiff, Nat.reduceLT, Int.reduceLE, Int.reduceLT, Int.reduceGT, Int.reduceGE, Int.reduceEq, Int.reduceNe, Int.reduceToNat, reduceCtorEq, ak]
      refine gho_k (Weak.nmg' 17 6 (.tmp 17 26) 1 (encL c_i64 ([] : List Int)) rfl rfl rfl rfl) ?_
      have g14 : (encL c_i64 ([] : List Int)).length = 0 * 1 := by simp [encL_length c_i64_w]
      simp only [Nat.reduceEqDiff, Nat.reduceAdd, Nat.reduceMul, Nat.reduceLeDiff, Nat.reduceLT, Int.reduceLE, Int.reduceLT, Int.reduceGT, Int.reduceGE, Int.reduceEq, Int.reduceNe, Int.reduceToNat, reduceCtorEq, ak, g14]
      refine gho_k ((Weak.drop [.tmp 5 20]).trans (Weak.nm' 5 (.tmp 5 20) 5 (encL c66 ([] : List S66)) rfl rfl rfl)) ?_
      simp only [Nat.reduceEqDiff, Nat.reduceAdd, Nat.reduceMul, Nat.reduceLeDiff, Nat.reduceLT, Int.reduceLE, Int.reduceLT, Int.reduceGT, Int.reduceGE, Int.reduceEq, Int.reduceNe, Int.reduceToNat, reduceCtorEq, ak]
      refine hJ13 _ ?_
      obtain rfl := Option.some.inj h
      refine hKr _ ⟨_, rfl, [⟨(.tmp 4 0), [6], none, .lst⟩, ⟨(.tmp 5 20), [], none, .lst⟩], _, rfl, rfl, ?_⟩
      first | rfl | (simp only [reduceCtorEq, Nat.reduceEqDiff, ak, akF]; done) | (simp [reduceCtorEq, Nat.reduceEqDiff, ak, akF]; done)
    · replace c12 := of_decide_eq_false c12; rw [if_neg c12] at h
      refine hJ10 _ ?_
      refine seq_k fun J15 hJ15 => ?_
      refine reg_k ?_
      simp only [Nat.reduceEqDiff, Nat.reduceAdd, Nat.reduceMul, Nat.reduceLeDiff, Nat.reduceLT, Int.reduceLE, Int.reduceLT, Int.reduceGT, Int.reduceGE, Int.reduceEq, Int.reduceNe, Int.reduceToNat, reduceCtorEq, ak]
      obtain ⟨t16, h17, h⟩ := of_bind h
      refine call_m [] (s0 := []) (by intro t ht; cases ht; decide) rfl rfl (by first | rfl | simp only [reduceCtorEq, Nat.reduceEqDiff, ak, akF]) (spec_l4Begin.tri a0_0 a0_1 a0_2 a0_3 a0_4 a0_5 _ h17) (by first | rfl | simp only [reduceCtorEq, Nat.reduceEqDiff, ak, akF]) (by simp [bkOk2, memK]) (fun hl17 => ?_)
      refine call_st (s4 := [(.arg 0, ⟨.fz, 3, cs0⟩), (.tmp 2 0, ⟨.box, 0, [.sc (.int .u32 a0_0), .sc (.int .i64 a0_1), .sc (.int .i64 a0_2), .sc (.int .i64 a0_3), .sc (.int .i64 a0_4), .sc (.int .i64 a0_5)]⟩), (.tmp 4 0, ⟨.box, 0, [.sc (.int .u32 0), .sc (.int .i64 0), .sc (.int .i64 0), .sc (.int .i64 0), .sc (.int .i64 0), .sc (.int .i64 0), .own 1 (([] : List Int).length) (encL c_i64 ([] : List Int)), .sc (.int .i64 0), .sc (.int .i64 0), .sc (.int .i64 0), .sc (.int .i64 0), .sc (.int .i64 0), .sc (.bool false)]⟩), (.tmp 5 20, ⟨.lst, 5, encL c66 ([] : List S66)⟩), (.tmp 19 0, ⟨.lst, 1, encL c_i64 t16.2.2.2.2.2.2.1⟩)]) (m1' := []) (m2' := []) (v' := .g [.sc (.int .u32 t16.1), .sc (.int .i64 t16.2.1), .sc (.int .i64 t16.2.2.1), .sc (.int .i64 t16.2.2.2.1), .sc (.int .i64 t16.2.2.2.2.1), .sc (.int .i64 t16.2.2.2.2.2.1), .ref (.tmp 19 0) [] 0 t16.2.2.2.2.2.2.1.length, .sc (.int .i64 t16.2.2.2.2.2.2.2.1), .sc (.int .i64 t16.2.2.2.2.2.2.2.2.1), .sc (.int .i64 t16.2.2.2.2.2.2.2.2.2.1), .sc (.int .i64 t16.2.2.2.2.2.2.2.2.2.2.1), .sc (.int .i64 t16.2.2.2.2.2.2.2.2.2.2.2.1), .sc (.bool t16.2.2.2.2.2.2.2.2.2.2.2.2)]) (Sto.mapN_killNil _ _) (mrgL_nil' _ _ _) (by rfl) (mapT_killNil _ _) (by rfl) (by rfl) (by first | rfl | simp only [reduceCtorEq, Nat.reduceEqDiff, ak, akF, Nat.zero_add, List.append_nil]) ?_
      simp only [Nat.reduceEqDiff, Nat.reduceAdd, Nat.reduceMul, Nat.reduceLeDiff, Nat.reduceLT, Int.reduceLE, Int.reduceLT, Int.reduceGT, Int.reduceGE, Int.reduceEq, Int.reduceNe, Int.reduceToNat, reduceCtorEq, ak]
      refine gho_k (Weak.own (.tmp 7 0) (cs' := [.sc (.int .u32 0), .sc (.int .i64 0), .sc (.int .i64 0), .sc (.int .i64 0), .sc (.int .i64 0), .sc (.int .i64 0), .own 1 (([] : List Int).length) (encL c_i64 ([] : List Int)), .sc (.int .i64 0), .sc (.int .i64 0), .sc (.int .i64 0), .sc (.int .i64 0), .sc (.int .i64 0), .sc (.bool false)]) rfl ⟨.inl rfl, .inl rfl, .inl rfl, .inl rfl, .inl rfl, .inl rfl, .inr ⟨rfl, _, rfl⟩, .inl rfl, .inl rfl, .inl rfl, .inl rfl, .inl rfl, .inl rfl, trivial⟩) ?_
      have g19 : (encL c_i64 t16.2.2.2.2.2.2.1).length = t16.2.2.2.2.2.2.1.length * 1 := by simp [encL_length c_i64_w]
      simp only [Nat.reduceEqDiff, Nat.reduceAdd, Nat.reduceMul, Nat.reduceLeDiff, Nat.reduceLT, Int.reduceLE, Int.reduceLT, Int.reduceGT, Int.reduceGE, Int.reduceEq, Int.reduceNe, Int.reduceToNat, reduceCtorEq, ak, g19]
      refine hJ15 _ ?_
      refine seq_k fun J20 hJ20 => ?_
      refine reg_k ?_
      have g21 : (List.replicate 0 ([.int .i64 0, .slice none 0 0, .slice none 0 0, .int .i64 0, .int .i64 0] : List Value)).flatten = [] := rfl
      have g22 : (⟨.lst, 5, []⟩ : Root) = ⟨.lst, 5, encL c66 ([] : List S66)⟩ := rfl
      have g23 : ([] : List S66).length = 0 := rfl
      simp only [Nat.reduceEqDiff, Nat.reduceAdd, Nat.reduceMul, Nat.reduceLeDiff, Nat.reduceLT, Int.reduceLE, Int.reduceLT, Int.reduceGT, Int.reduceGE, Int.reduceEq, Int.reduceNe, Int.reduceToNat, reduceCtorEq, ak, g21, g22, g23]
      refine gho_k (Weak.refl _ _) ?_
      simp only [Nat.reduceEqDiff, Nat.reduceAdd, Nat.reduceMul, Nat.reduceLeDiff, Nat.reduceLT, Int.reduceLE, Int.reduceLT, Int.reduceGT, Int.reduceGE, Int.reduceEq, Int.reduceNe, Int.reduceToNat, reduceCtorEq, ak]
      refine hJ20 _ ?_
      refine seq_k fun J24 hJ24 => ?_
      refine seq_k fun J25 hJ25 => ?_
      refine reg_k ?_
      simp only [Nat.reduceEqDiff, Nat.reduceAdd, Nat.reduceMul, Nat.reduceLeDiff, Nat.reduceLT, Int.reduceLE, Int.reduceLT, Int.reduceGT, Int.reduceGE, Int.reduceEq, Int.reduceNe, Int.reduceToNat, reduceCtorEq, ak]
      refine hJ25 _ ?_
      refine block_k fun B26 B26n B26x B26r B26j => ?_
      obtain ⟨y48, h49, h⟩ := of_bind h
      refine gh_k (st' := ⟨[(1, .c (.ref (.arg 0) [] o0 l1.length)), (4, .c (.ptr (.tmp 4 0) [] 0)), (7, .c (.ptr (.tmp 7 0) [] 0)), (8, .c (.ref (.tmp 20 0) [] 0 (([] : List S66).length))), (9, .c (.sc (.int .i64 0)))], [(.arg 0, ⟨.fz, 3, cs0⟩), (.tmp 4 0, ⟨.box, 0, [.sc (.int .u32 0), .sc (.int .i64 0), .sc (.int .i64 0), .sc (.int .i64 0), .sc (.int .i64 0), .sc (.int .i64 0), .own 1 (([] : List Int).length) (encL c_i64 ([] : List Int)), .sc (.int .i64 0), .sc (.int .i64 0), .sc (.int .i64 0), .sc (.int .i64 0), .sc (.int .i64 0), .sc (.bool false)]⟩), (.tmp 7 0, ⟨.box, 0, [.sc (.int .u32 t16.1), .sc (.int .i64 t16.2.1), .sc (.int .i64 t16.2.2.1), .sc (.int .i64 t16.2.2.2.1), .sc (.int .i64 t16.2.2.2.2.1), .sc (.int .i64 t16.2.2.2.2.2.1), .own 1 t16.2.2.2.2.2.2.1.length (encL c_i64 t16.2.2.2.2.2.2.1), .sc (.int .i64 t16.2.2.2.2.2.2.2.1), .sc (.int .i64 t16.2.2.2.2.2.2.2.2.1), .sc (.int .i64 t16.2.2.2.2.2.2.2.2.2.1), .sc (.int .i64 t16.2.2.2.2.2.2.2.2.2.2.1), .sc (.int .i64 t16.2.2.2.2.2.2.2.2.2.2.2.1), .sc (.bool t16.2.2.2.2.2.2.2.2.2.2.2.2)]⟩), (.tmp 20 0, ⟨.lst, 5, encL c66 ([] : List S66)⟩)], [], []⟩) (((Weak.keep [1, 4, 7, 8, 9]).trans ((Weak.foc [(.arg 0, ⟨(.arg 0), [], none, .fz⟩), (.tmp 4 0, ⟨(.tmp 4 0), [], none, .box⟩), (.tmp 7 0, ⟨(.tmp 7 0), [], none, .box⟩), (.tmp 20 0, ⟨(.tmp 20 0), [], none, .lst⟩)] rfl (by first | rfl | simp only [reduceCtorEq, Nat.reduceEqDiff, ak, akF]) (by simp [argK, akG, ak])).trans (Weak.of_eq (by first | rfl | (simp only [reduceCtorEq, Nat.reduceEqDiff, ak, akF]; done) | (simp [reduceCtorEq, Nat.reduceEqDiff, ak, akF]; done)))))) ?_
      rw [e_loop]
      refine spec_l4Run.l0_walk cs0 o0 l1 hv0 0 0 0 0 0 0 ([] : List Int) 0 0 0 0 0 false t16.1 t16.2.1 t16.2.2.1 t16.2.2.2.1 t16.2.2.2.2.1 t16.2.2.2.2.2.1 0 t16.2.2.2.2.2.2.1 t16.2.2.2.2.2.2.2.1 t16.2.2.2.2.2.2.2.2.1 t16.2.2.2.2.2.2.2.2.2.1 t16.2.2.2.2.2.2.2.2.2.2.1 t16.2.2.2.2.2.2.2.2.2.2.2.1 t16.2.2.2.2.2.2.2.2.2.2.2.2 ([] : List S66) _ h49 _ ?_
      refine B26x _ ?_
      refine hJ24 _ ?_
      refine seq_k fun J50 hJ50 => ?_
      refine reg_k ?_
      simp only [Nat.reduceEqDiff, Nat.reduceAdd, Nat.reduceMul, Nat.reduceLeDiff, Nat.reduceLT, Int.reduceLE, Int.reduceLT, Int.reduceGT, Int.reduceGE, Int.reduceEq, Int.reduceNe, Int.reduceToNat, reduceCtorEq, ak]
      refine hJ50 _ ?_
      obtain rfl := Option.some.inj h
      refine hKr _ ⟨_, rfl, [⟨(.tmp 7 0), [6], none, .lst⟩, ⟨(.tmp 20 0), [], none, .lst⟩], _, rfl, rfl, ?_⟩
      first | rfl | (simp only [reduceCtorEq, Nat.reduceEqDiff, ak, akF]; done) | (simp [reduceCtorEq, Nat.reduceEqDiff, ak, akF]; done)
/-! ### spec.l4View: function 97 -/
def c97_l0 : AC := .seq (.seq (.reg [.op none (.mv 49 (.tmp 4)), .op none (.mv 50 (.tmp 0)), .op none (.nilc 51 (.tmp 50)), .op none (.faddr 52 6 (.tmp 51)), .op none (.load 53 false 1 (.tmp 52)), .op none (.len 54 (.tmp 53)), .op none (.bin 55 .lss (.tmp 49) (.tmp 54)), .keep [0, 2, 3, 4, 55]]) (.cond (.tmp 55) (.skip) (.gh (.exit 0)))) (.seq (.block 1 (.regD (.first (.op none (.faddr 58 2 (.tmp 3))) (.first (.op none (.load 59 false 1 (.tmp 58))) (.first (.op none (.mv 60 (.tmp 0))) (.first (.op none (.nilc 61 (.tmp 60))) (.first (.op none (.faddr 62 6 (.tmp 61))) (.first (.op none (.load 63 false 1 (.tmp 62))) (.first (.op none (.mv 64 (.tmp 4))) (.first (.op none (.iaddr 65 1 (.tmp 63) (.tmp 64))) (.first (.op none (.load 66 false 1 (.tmp 65))) (.alt (.op none (.bslice 67 1 [.int .i64 0] 1 [(0, .tmp 66)])) none (.alt (.op none (.app 68 1 8 false (.tmp 59) (.tmp 67))) none (.first (.op none (.faddr 69 2 (.tmp 3))) (.alt (.op none (.store 1 (.tmp 69) (.tmp 68))) none (.done) (.stop))) (.stop)) (.stop))))))))))) [0, 2, 3, 4])) (.reg [.op none (.mv 56 (.tmp 4)), .op none (.bin 57 .add (.tmp 56) (.const (.int .i64 1))), .op none (.mv 4 (.tmp 57)), .keep [0, 2, 3, 4]]))
def c97 : AC := .seq (.reg [.op none (.alloc 2 [.int .u32 0, .int .u32 0, .slice none 0 0, .int .i64 0, .int .i64 0, .int .i64 0, .int .i64 0, .int .i64 0]), .gh, .keep [0, 2]]) (.seq (.regD (.first (.op none (.mv 5 (.tmp 0))) (.first (.op none (.nilc 6 (.tmp 5))) (.first (.op none (.faddr 7 0 (.tmp 6))) (.first (.op none (.faddr 8 0 (.tmp 7))) (.first (.op none (.load 9 false 1 (.tmp 8))) (.first (.op none (.mv 10 (.tmp 0))) (.first (.op none (.nilc 11 (.tmp 10))) (.first (.op none (.faddr 12 7 (.tmp 11))) (.first (.op none (.load 13 false 1 (.tmp 12))) (.first (.op none (.conv 14 .u32 (.tmp 13))) (.first (.op none (.bin 15 .add (.tmp 9) (.tmp 14))) (.first (.op none (.mv 16 (.tmp 0))) (.first (.op none (.nilc 17 (.tmp 16))) (.first (.op none (.faddr 18 0 (.tmp 17))) (.first (.op none (.faddr 19 0 (.tmp 18))) (.first (.op none (.load 20 false 1 (.tmp 19))) (.first (.op none (.mv 21 (.tmp 0))) (.first (.op none (.nilc 22 (.tmp 21))) (.first (.op none (.faddr 23 6 (.tmp 22))) (.first (.op none (.load 24 false 1 (.tmp 23))) (.first (.op none (.len 25 (.tmp 24))) (.first (.op none (.conv 26 .u32 (.tmp 25))) (.first (.op none (.bin 27 .add (.tmp 20) (.tmp 26))) (.first (.op none (.mv 28 (.tmp 0))) (.first (.op none (.nilc 29 (.tmp 28))) (.first (.op none (.faddr 30 8 (.tmp 29))) (.first (.op none (.load 31 false 1 (.tmp 30))) (.first (.op none (.mv 32 (.tmp 0))) (.first (.op none (.nilc 33 (.tmp 32))) (.first (.op none (.faddr 34 9 (.tmp 33))) (.first (.op none (.load 35 false 1 (.tmp 34))) (.first (.op none (.mv 36 (.tmp 0))) (.first (.op none (.nilc 37 (.tmp 36))) (.first (.op none (.faddr 38 10 (.tmp 37))) (.first (.op none (.load 39 false 1 (.tmp 38))) (.first (.op none (.mv 40 (.tmp 0))) (.first (.op none (.nilc 41 (.tmp 40))) (.first (.op none (.faddr 42 11 (.tmp 41))) (.first (.op none (.load 43 false 1 (.tmp 42))) (.first (.op none (.build 44 [.int .u32 0, .int .u32 0, .slice none 0 0, .int .i64 0, .int .i64 0, .int .i64 0, .int .i64 0, .int .i64 0] [(0, 1, .tmp 15), (1, 1, .tmp 27), (3, 1, .tmp 31), (4, 1, .tmp 35), (5, 1, .tmp 39), (6, 1, .tmp 43)])) (.gh (.alt (.op none (.alloc 3 [.int .u32 0, .int .u32 0, .slice none 0 0, .int .i64 0, .int .i64 0, .int .i64 0, .int .i64 0, .int .i64 0])) none (.gh (.alt (.op none (.store 8 (.tmp 3) (.tmp 44))) none (.done) (.stop))) (.stop))))))))))))))))))))))))))))))))))))))))))) [0, 2, 3]) (.seq (.seq (.reg [.op none (.mv 45 (.tmp 0)), .op none (.nilc 46 (.tmp 45)), .op none (.faddr 47 7 (.tmp 46)), .op none (.load 48 false 1 (.tmp 47)), .op none (.mv 4 (.tmp 48)), .keep [0, 2, 3, 4]]) (.block 0 (.gh (.loop (.ga c97_l0))))) (.seq (.ga (.seq (.reg [.op none (.mv 70 (.tmp 0)), .op none (.nilc 71 (.tmp 70)), .op none (.faddr 72 12 (.tmp 71)), .op none (.load 73 false 1 (.tmp 72)), .keep [2, 3, 73]]) (.cond (.tmp 73) (.reg [.op none (.faddr 74 7 (.tmp 3)), .op none (.store 1 (.tmp 74) (.const (.int .i64 1))), .keep [2, 3]]) (.skip)))) (.seq (.reg [.op none (.load 75 true 8 (.tmp 3)), .op none (.store 8 (.tmp 2) (.tmp 75)), .keep [2]]) (.ret)))))
def r97 : List RV := [.cell 2 true 8]
theorem k97 : compC Try.prog 76 c97 (Try.f97.body.getD .skip) = some c97.erase := by kernel_rfl
theorem q97 : rvsOf Try.prog Try.f97.results.toList = some r97 := by kernel_rfl
def spec_l4View.l0 (x0_1 : Int) (x0_2 : Int) (x0_3 : Int) (x0_4 : Int) (x0_5 : Int) (x0_6 : Int) (x0_7 : (List Int)) (x0_8 : Int) (x0_9 : Int) (x0_10 : Int) (x0_11 : Int) (x0_12 : Int) (x0_13 : Bool) (x0_14 : Int) (x0_15 : Int) (x0_16 : (List Int)) (x0_17 : Int) (x0_18 : Int) (x0_19 : Int) (x0_20 : Int) (x0_21 : Int) (x0_22 : Int) (x0_23 : Int) (x0_25 : Int) (x0_26 : Int) (x0_27 : Int) (x0_28 : Int) (x0_29 : Int) (x0_0 : Int) (x0_24 : (List Int)) : Option (List Int) := (if x0_0 < (x0_7.length : Int) then (if 0 ≤ x0_0 ∧ x0_0 < (x0_7.length : Int) then (if (x0_24.length + 1) * 8 ≤ 140737488355328 then (spec_l4View.l0 x0_1 x0_2 x0_3 x0_4 x0_5 x0_6 x0_7 x0_8 x0_9 x0_10 x0_11 x0_12 x0_13 x0_14 x0_15 x0_16 x0_17 x0_18 x0_19 x0_20 x0_21 x0_22 x0_23 x0_25 x0_26 x0_27 x0_28 x0_29 (IntKind.i64.wrap (x0_0 + 1)) (x0_24 ++ ([(rd 0 x0_7 x0_0)] : List Int))) else none) else none) else (some x0_24))
  partial_fixpoint
def spec_l4View.f (a0_0 : Int) (a0_1 : Int) (a0_2 : Int) (a0_3 : Int) (a0_4 : Int) (a0_5 : Int) (l0_6 : List Int) (a0_7 : Int) (a0_8 : Int) (a0_9 : Int) (a0_10 : Int) (a0_11 : Int) (a0_12 : Bool) : Option (Int × Int × (List Int) × Int × Int × Int × Int × Int) := (spec_l4View.l0 a0_0 a0_1 a0_2 a0_3 a0_4 a0_5 l0_6 a0_7 a0_8 a0_9 a0_10 a0_11 a0_12 0 0 ([] : List Int) 0 0 0 0 0 (IntKind.u32.wrap (a0_0 + (IntKind.u32.wrap a0_7))) (IntKind.u32.wrap (a0_0 + (IntKind.u32.wrap (l0_6.length : Int)))) a0_8 a0_9 a0_10 a0_11 0 a0_7 ([] : List Int) >>= fun (y52 : (List Int)) => ((if a0_12 = true then (some 1) else (some 0)) >>= fun (j54 : Int) => (some (IntKind.u32.wrap (a0_0 + (IntKind.u32.wrap a0_7)), IntKind.u32.wrap (a0_0 + (IntKind.u32.wrap (l0_6.length : Int))), y52, a0_8, a0_9, a0_10, a0_11, j54))))
set_option maxRecDepth 100000 in
set_option maxHeartbeats 4000000 in
theorem spec_l4View.l0_walk (x0_1 : Int) (x0_2 : Int) (x0_3 : Int) (x0_4 : Int) (x0_5 : Int) (x0_6 : Int) (x0_7 : (List Int)) (x0_8 : Int) (x0_9 : Int) (x0_10 : Int) (x0_11 : Int) (x0_12 : Int) (x0_13 : Bool) (x0_14 : Int) (x0_15 : Int) (x0_16 : (List Int)) (x0_17 : Int) (x0_18 : Int) (x0_19 : Int) (x0_20 : Int) (x0_21 : Int) (x0_22 : Int) (x0_23 : Int) (x0_25 : Int) (x0_26 : Int) (x0_27 : Int) (x0_28 : Int) (x0_29 : Int) (x0_0 : Int) (x0_24 : (List Int)) (y : (List Int)) (h : spec_l4View.l0 x0_1 x0_2 x0_3 x0_4 x0_5 x0_6 x0_7 x0_8 x0_9 x0_10 x0_11 x0_12 x0_13 x0_14 x0_15 x0_16 x0_17 x0_18 x0_19 x0_20 x0_21 x0_22 x0_23 x0_25 x0_26 x0_27 x0_28 x0_29 x0_0 x0_24 = some y) (K : AE → St → Prop) (hx0 : K (.exit 0) ⟨[(0, .c (.ptr (.arg 0) [] 0)), (2, .c (.ptr (.tmp 2 0) [] 0)), (3, .c (.ptr (.tmp 3 0) [] 0))], [(.arg 0, ⟨.box, 0, [.sc (.int .u32 x0_1), .sc (.int .i64 x0_2), .sc (.int .i64 x0_3), .sc (.int .i64 x0_4), .sc (.int .i64 x0_5), .sc (.int .i64 x0_6), .own 1 x0_7.length (encL c_i64 x0_7), .sc (.int .i64 x0_8), .sc (.int .i64 x0_9), .sc (.int .i64 x0_10), .sc (.int .i64 x0_11), .sc (.int .i64 x0_12), .sc (.bool x0_13)]⟩), (.tmp 2 0, ⟨.box, 0, [.sc (.int .u32 x0_14), .sc (.int .u32 x0_15), .own 1 x0_16.length (encL c_i64 x0_16), .sc (.int .i64 x0_17), .sc (.int .i64 x0_18), .sc (.int .i64 x0_19), .sc (.int .i64 x0_20), .sc (.int .i64 x0_21)]⟩), (.tmp 3 0, ⟨.box, 0, [.sc (.int .u32 x0_22), .sc (.int .u32 x0_23), .own 1 y.length (encL c_i64 y), .sc (.int .i64 x0_25), .sc (.int .i64 x0_26), .sc (.int .i64 x0_27), .sc (.int .i64 x0_28), .sc (.int .i64 x0_29)]⟩)], [], []⟩) : loopS Try.prog 76 (.ga c97_l0) K ⟨[(0, .c (.ptr (.arg 0) [] 0)), (2, .c (.ptr (.tmp 2 0) [] 0)), (3, .c (.ptr (.tmp 3 0) [] 0)), (4, .c (.sc (.int .i64 x0_0)))], [(.arg 0, ⟨.box, 0, [.sc (.int .u32 x0_1), .sc (.int .i64 x0_2), .sc (.int .i64 x0_3), .sc (.int .i64 x0_4), .sc (.int .i64 x0_5), .sc (.int .i64 x0_6), .own 1 x0_7.length (encL c_i64 x0_7), .sc (.int .i64 x0_8), .sc (.int .i64 x0_9), .sc (.int .i64 x0_10), .sc (.int .i64 x0_11), .sc (.int .i64 x0_12), .sc (.bool x0_13)]⟩), (.tmp 2 0, ⟨.box, 0, [.sc (.int .u32 x0_14), .sc (.int .u32 x0_15), .own 1 x0_16.length (encL c_i64 x0_16), .sc (.int .i64 x0_17), .sc (.int .i64 x0_18), .sc (.int .i64 x0_19), .sc (.int .i64 x0_20), .sc (.int .i64 x0_21)]⟩), (.tmp 3 0, ⟨.box, 0, [.sc (.int .u32 x0_22), .sc (.int .u32 x0_23), .own 1 x0_24.length (encL c_i64 x0_24), .sc (.int .i64 x0_25), .sc (.int .i64 x0_26), .sc (.int .i64 x0_27), .sc (.int .i64 x0_28), .sc (.int .i64 x0_29)]⟩)], [], []⟩ := by
  refine spec_l4View.l0.partial_correctness x0_1 x0_2 x0_3 x0_4 x0_5 x0_6 x0_7 x0_8 x0_9 x0_10 x0_11 x0_12 x0_13 x0_14 x0_15 x0_16 x0_17 x0_18 x0_19 x0_20 x0_21 x0_22 x0_23 x0_25 x0_26 x0_27 x0_28 x0_29 (motive := fun x0_0 x0_24 y => ∀ (K : AE → St → Prop), (K (.exit 0) ⟨[(0, .c (.ptr (.arg 0) [] 0)), (2, .c (.ptr (.tmp 2 0) [] 0)), (3, .c (.ptr (.tmp 3 0) [] 0))], [(.arg 0, ⟨.box, 0, [.sc (.int .u32 x0_1), .sc (.int .i64 x0_2), .sc (.int .i64 x0_3), .sc (.int .i64 x0_4), .sc (.int .i64 x0_5), .sc (.int .i64 x0_6), .own 1 x0_7.length (encL c_i64 x0_7), .sc (.int .i64 x0_8), .sc (.int .i64 x0_9), .sc (.int .i64 x0_10), .sc (.int .i64 x0_11), .sc (.int .i64 x0_12), .sc (.bool x0_13)]⟩), (.tmp 2 0, ⟨.box, 0, [.sc (.int .u32 x0_14), .sc (.int .u32 x0_15), .own 1 x0_16.length (encL c_i64 x0_16), .sc (.int .i64 x0_17), .sc (.int .i64 x0_18), .sc (.int .i64 x0_19), .sc (.int .i64 x0_20), .sc (.int .i64 x0_21)]⟩), (.tmp 3 0, ⟨.box, 0, [.sc (.int .u32 x0_22), .sc (.int .u32 x0_23), .own 1 y.length (encL c_i64 y), .sc (.int .i64 x0_25), .sc (.int .i64 x0_26), .sc (.int .i64 x0_27), .sc (.int .i64 x0_28), .sc (.int .i64 x0_29)]⟩)], [], []⟩) → loopS Try.prog 76 (.ga c97_l0) K ⟨[(0, .c (.ptr (.arg 0) [] 0)), (2, .c (.ptr (.tmp 2 0) [] 0)), (3, .c (.ptr (.tmp 3 0) [] 0)), (4, .c (.sc (.int .i64 x0_0)))], [(.arg 0, ⟨.box, 0, [.sc (.int .u32 x0_1), .sc (.int .i64 x0_2), .sc (.int .i64 x0_3), .sc (.int .i64 x0_4), .sc (.int .i64 x0_5), .sc (.int .i64 x0_6), .own 1 x0_7.length (encL c_i64 x0_7), .sc (.int .i64 x0_8), .sc (.int .i64 x0_9), .sc (.int .i64 x0_10), .sc (.int .i64 x0_11), .sc (.int .i64 x0_12), .sc (.bool x0_13)]⟩), (.tmp 2 0, ⟨.box, 0, [.sc (.int .u32 x0_14), .sc (.int .u32 x0_15), .own 1 x0_16.length (encL c_i64 x0_16), .sc (.int .i64 x0_17), .sc (.int .i64 x0_18), .sc (.int .i64 x0_19), .sc (.int .i64 x0_20), .sc (.int .i64 x0_21)]⟩), (.tmp 3 0, ⟨.box, 0, [.sc (.int .u32 x0_22), .sc (.int .u32 x0_23), .own 1 x0_24.length (encL c_i64 x0_24), .sc (.int .i64 x0_25), .sc (.int .i64 x0_26), .sc (.int .i64 x0_27), .sc (.int .i64 x0_28), .sc (.int .i64 x0_29)]⟩)], [], []⟩) ?_ x0_0 x0_24 y h K hx0
  clear h hx0
  intro rec ih x0_0 x0_24 y h K hx0
  refine loop_unroll (ga_k fun G0 G0n G0r G0x => ?_)
  unfold c97_l0
  refine seq_k fun J10 hJ10 => ?_
  refine seq_k fun J11 hJ11 => ?_
  refine reg_k ?_
  simp only [Nat.reduceEqDiff, Nat.reduceAdd, Nat.reduceMul, Nat.reduceLeDiff, Nat.reduceLT, Int.reduceLE, Int.reduceLT, Int.reduceGT, Int.reduceGE, Int.reduceEq, Int.reduceNe, Int.reduceToNat, reduceCtorEq, ak]
  refine hJ11 _ ?_
  refine cond_k (b := decide (x0_0 < (x0_7.length : Int))) rfl (fun c12 => ?_) (fun c12 => ?_)
  · replace c12 := of_decide_eq_true c12; rw [if_pos c12] at h
    refine hJ10 _ ?_
    refine seq_k fun J13 hJ13 => ?_
    refine block_k fun B14 B14n B14x B14r B14j => ?_
    refine regD_k ?_
    obtain ⟨b15, h⟩ := of_guard h
    have g16 : (encL c_i64 x0_7)[0 + x0_0.toNat * 1]? = some (.sc (.int .i64 (rd 0 x0_7 x0_0))) := (Vw.whole c_i64_w x0_7).get 0 0 b15.1 b15.2 (by decide)
    simp only [Nat.reduceBEq, Nat.reduceEqDiff, Nat.reduceAdd, Nat.reduceMul, Nat.reduceLeDiff, Nat.reduceLT, Int.reduceLE, Int.reduceLT, Int.reduceGT, Int.reduceGE, Int.reduceEq, Int.reduceNe, Int.reduceToNat, reduceCtorEq, ak, b15, g16]
    obtain ⟨b22, h⟩ := of_guard h
    refine alt_e ?_
    · have g35 : (List.replicate 1 ([.int .i64 0] : List Value)).flatten = [.int .i64 0] := rfl
      have g36 : (⟨.lst, 1, [.sc (.int .i64 (rd 0 x0_7 x0_0))]⟩ : Root) = ⟨.lst, 1, encL c_i64 ([(rd 0 x0_7 x0_0)] : List Int)⟩ := rfl
      have g37 : ([(rd 0 x0_7 x0_0)] : List Int).length = 1 := rfl
      simp only [Nat.reduceBEq, Nat.reduceEqDiff, Nat.reduceAdd, Nat.reduceMul, Nat.reduceLeDiff, Nat.reduceLT, Int.reduceLE, Int.reduceLT, Int.reduceGT, Int.reduceGE, Int.reduceEq, Int.reduceNe, Int.reduceToNat, reduceCtorEq, ak, g35, g36, g37]
      refine alt_e ?_
      · have g45 : (encL c_i64 ([(rd 0 x0_7 x0_0)] : List Int)).take 1 = encL c_i64 ([(rd 0 x0_7 x0_0)] : List Int) := by simpa using (Vw.whole c_i64_w ([(rd 0 x0_7 x0_0)] : List Int)).all
        have g46 : (encL c_i64 ([(rd 0 x0_7 x0_0)] : List Int)).all isSc = true := encL_all (fun _ => rfl) _
        have g47 : appLim x0_24.length 1 8 := ⟨b22, by have := b22; omega⟩
        have g48 : (encL c_i64 x0_24).length = x0_24.length * 1 := by simp [encL_length c_i64_w]
        have g49 : encL c_i64 x0_24 ++ encL c_i64 ([(rd 0 x0_7 x0_0)] : List Int) = encL c_i64 (x0_24 ++ ([(rd 0 x0_7 x0_0)] : List Int)) := (encL_append _ _).symm
        simp only [Nat.reduceBEq, Nat.reduceEqDiff, Nat.reduceAdd, Nat.reduceMul, Nat.reduceLeDiff, Nat.reduceLT, Int.reduceLE, Int.reduceLT, Int.reduceGT, Int.reduceGE, Int.reduceEq, Int.reduceNe, Int.reduceToNat, reduceCtorEq, ak, g45, g46, g47, g48, g49]
        refine alt_e ?_
        · have g51 : (encL c_i64 (x0_24 ++ ([(rd 0 x0_7 x0_0)] : List Int))).length = (x0_24.length + 1) * 1 := by simp [encL_length c_i64_w]
          simp only [Nat.reduceBEq, Nat.reduceEqDiff, Nat.reduceAdd, Nat.reduceMul, Nat.reduceLeDiff, Nat.reduceLT, Int.reduceLE, Int.reduceLT, Int.reduceGT, Int.reduceGE, Int.reduceEq, Int.reduceNe, Int.reduceToNat, reduceCtorEq, ak, g51]
          refine B14n _ ?_
          refine hJ13 _ ?_
          refine reg_k ?_
          simp only [Nat.reduceEqDiff, Nat.reduceAdd, Nat.reduceMul, Nat.reduceLeDiff, Nat.reduceLT, Int.reduceLE, Int.reduceLT, Int.reduceGT, Int.reduceGE, Int.reduceEq, Int.reduceNe, Int.reduceToNat, reduceCtorEq, ak]
          refine G0n _ (⟨[(0, .c (.ptr (.arg 0) [] 0)), (2, .c (.ptr (.tmp 2 0) [] 0)), (3, .c (.ptr (.tmp 3 0) [] 0)), (4, .c (.sc (.int .i64 (IntKind.i64.wrap (x0_0 + 1)))))], [(.arg 0, ⟨.box, 0, [.sc (.int .u32 x0_1), .sc (.int .i64 x0_2), .sc (.int .i64 x0_3), .sc (.int .i64 x0_4), .sc (.int .i64 x0_5), .sc (.int .i64 x0_6), .own 1 x0_7.length (encL c_i64 x0_7), .sc (.int .i64 x0_8), .sc (.int .i64 x0_9), .sc (.int .i64 x0_10), .sc (.int .i64 x0_11), .sc (.int .i64 x0_12), .sc (.bool x0_13)]⟩), (.tmp 2 0, ⟨.box, 0, [.sc (.int .u32 x0_14), .sc (.int .u32 x0_15), .own 1 x0_16.length (encL c_i64 x0_16), .sc (.int .i64 x0_17), .sc (.int .i64 x0_18), .sc (.int .i64 x0_19), .sc (.int .i64 x0_20), .sc (.int .i64 x0_21)]⟩), (.tmp 3 0, ⟨.box, 0, [.sc (.int .u32 x0_22), .sc (.int .u32 x0_23), .own 1 ((x0_24 ++ ([(rd 0 x0_7 x0_0)] : List Int)).length) (encL c_i64 (x0_24 ++ ([(rd 0 x0_7 x0_0)] : List Int))), .sc (.int .i64 x0_25), .sc (.int .i64 x0_26), .sc (.int .i64 x0_27), .sc (.int .i64 x0_28), .sc (.int .i64 x0_29)]⟩)], [], []⟩) (((Weak.keep [0, 2, 3, 4]).trans ((Weak.foc [(.arg 0, ⟨(.arg 0), [], none, .box⟩), (.tmp 2 0, ⟨(.tmp 2 0), [], none, .box⟩), (.tmp 3 0, ⟨(.tmp 3 0), [], none, .box⟩)] rfl (by first | rfl | simp only [reduceCtorEq, Nat.reduceEqDiff, ak, akF, b15, b22]) (by simp [argK, akG, ak])).trans (Weak.of_eq (by first | rfl | (simp only [reduceCtorEq, Nat.reduceEqDiff, ak, akF, b15, b22]; done) | (simp [reduceCtorEq, Nat.reduceEqDiff, ak, akF, b15, b22]; done)))))) (ih _ _ _ h K hx0)
  · replace c12 := of_decide_eq_false c12; rw [if_neg c12] at h
    obtain rfl := Option.some.inj h
    refine gh_k (st' := ⟨[(0, .c (.ptr (.arg 0) [] 0)), (2, .c (.ptr (.tmp 2 0) [] 0)), (3, .c (.ptr (.tmp 3 0) [] 0))], [(.arg 0, ⟨.box, 0, [.sc (.int .u32 x0_1), .sc (.int .i64 x0_2), .sc (.int .i64 x0_3), .sc (.int .i64 x0_4), .sc (.int .i64 x0_5), .sc (.int .i64 x0_6), .own 1 x0_7.length (encL c_i64 x0_7), .sc (.int .i64 x0_8), .sc (.int .i64 x0_9), .sc (.int .i64 x0_10), .sc (.int .i64 x0_11), .sc (.int .i64 x0_12), .sc (.bool x0_13)]⟩), (.tmp 2 0, ⟨.box, 0, [.sc (.int .u32 x0_14), .sc (.int .u32 x0_15), .own 1 x0_16.length (encL c_i64 x0_16), .sc (.int .i64 x0_17), .sc (.int .i64 x0_18), .sc (.int .i64 x0_19), .sc (.int .i64 x0_20), .sc (.int .i64 x0_21)]⟩), (.tmp 3 0, ⟨.box, 0, [.sc (.int .u32 x0_22), .sc (.int .u32 x0_23), .own 1 x0_24.length (encL c_i64 x0_24), .sc (.int .i64 x0_25), .sc (.int .i64 x0_26), .sc (.int .i64 x0_27), .sc (.int .i64 x0_28), .sc (.int .i64 x0_29)]⟩)], [], []⟩) (((Weak.keep [0, 2, 3]).trans ((Weak.foc [(.arg 0, ⟨(.arg 0), [], none, .box⟩), (.tmp 2 0, ⟨(.tmp 2 0), [], none, .box⟩), (.tmp 3 0, ⟨(.tmp 3 0), [], none, .box⟩)] rfl (by first | rfl | simp only [reduceCtorEq, Nat.reduceEqDiff, ak, akF]) (by simp [argK, akG, ak])).trans (Weak.of_eq (by first | rfl | (simp only [reduceCtorEq, Nat.reduceEqDiff, ak, akF]; done) | (simp [reduceCtorEq, Nat.reduceEqDiff, ak, akF]; done)))))) ?_
    refine G0x _ _ ?_
    exact hx0
set_option maxRecDepth 100000 in
set_option maxHeartbeats 4000000 in
theorem spec_l4View.tri (a0_0 : Int) (a0_1 : Int) (a0_2 : Int) (a0_3 : Int) (a0_4 : Int) (a0_5 : Int) (l0_6 : List Int) (a0_7 : Int) (a0_8 : Int) (a0_9 : Int) (a0_10 : Int) (a0_11 : Int) (a0_12 : Bool) (r : Int × Int × (List Int) × Int × Int × Int × Int × Int) (h : spec_l4View.f a0_0 a0_1 a0_2 a0_3 a0_4 a0_5 l0_6 a0_7 a0_8 a0_9 a0_10 a0_11 a0_12 = some r) : Tri Try.prog 97 [.c (.ptr (.arg 0) [] 0)] [(.arg 0, ⟨.box, 0, [.sc (.int .u32 a0_0), .sc (.int .i64 a0_1), .sc (.int .i64 a0_2), .sc (.int .i64 a0_3), .sc (.int .i64 a0_4), .sc (.int .i64 a0_5), .own 1 l0_6.length (encL c_i64 l0_6), .sc (.int .i64 a0_7), .sc (.int .i64 a0_8), .sc (.int .i64 a0_9), .sc (.int .i64 a0_10), .sc (.int .i64 a0_11), .sc (.bool a0_12)]⟩)] (fun o => o = ⟨.g [.sc (.int .u32 r.1), .sc (.int .u32 r.2.1), .ref (.res 0) [] 0 r.2.2.1.length, .sc (.int .i64 r.2.2.2.1), .sc (.int .i64 r.2.2.2.2.1), .sc (.int .i64 r.2.2.2.2.2.1), .sc (.int .i64 r.2.2.2.2.2.2.1), .sc (.int .i64 r.2.2.2.2.2.2.2)], [(.arg 0, ⟨.box, 0, [.sc (.int .u32 a0_0), .sc (.int .i64 a0_1), .sc (.int .i64 a0_2), .sc (.int .i64 a0_3), .sc (.int .i64 a0_4), .sc (.int .i64 a0_5), .own 1 l0_6.length (encL c_i64 l0_6), .sc (.int .i64 a0_7), .sc (.int .i64 a0_8), .sc (.int .i64 a0_9), .sc (.int .i64 a0_10), .sc (.int .i64 a0_11), .sc (.bool a0_12)]⟩), (.res 0, ⟨.lst, 1, encL c_i64 r.2.2.1⟩)], [], []⟩) := by
  refine tri_of_body (ac := c97) (xs := r97) Try.func97 (show Try.f97.body = some (Try.f97.body.getD .skip) from rfl) k97 q97 (Nat.le_of_ble_eq_true rfl) ?_
  refine body_of fun K hKn hKr => ?_
  unfold spec_l4View.f at h
  unfold c97
  simp only [initT, Nat.reduceAdd]
  refine seq_k fun J1 hJ1 => ?_
  refine reg_k ?_
  simp only [Nat.reduceEqDiff, Nat.reduceAdd, Nat.reduceMul, Nat.reduceLeDiff, Nat.reduceLT, Int.reduceLE, Int.reduceLT, Int.reduceGT, Int.reduceGE, Int.reduceEq, Int.reduceNe, Int.reduceToNat, reduceCtorEq, ak]
  refine gho_k (Weak.own (.tmp 2 0) (cs' := [.sc (.int .u32 0), .sc (.int .u32 0), .own 1 (([] : List Int).length) (encL c_i64 ([] : List Int)), .sc (.int .i64 0), .sc (.int .i64 0), .sc (.int .i64 0), .sc (.int .i64 0), .sc (.int .i64 0)]) rfl ⟨.inl rfl, .inl rfl, .inr ⟨rfl, _, rfl⟩, .inl rfl, .inl rfl, .inl rfl, .inl rfl, .inl rfl, trivial⟩) ?_
  simp only [Nat.reduceEqDiff, Nat.reduceAdd, Nat.reduceMul, Nat.reduceLeDiff, Nat.reduceLT, Int.reduceLE, Int.reduceLT, Int.reduceGT, Int.reduceGE, Int.reduceEq, Int.reduceNe, Int.reduceToNat, reduceCtorEq, ak]
  refine hJ1 _ ?_
  refine seq_k fun J2 hJ2 => ?_
  refine regD_k ?_
  simp only [Nat.reduceBEq, Nat.reduceEqDiff, Nat.reduceAdd, Nat.reduceMul, Nat.reduceLeDiff, Nat.reduceLT, Int.reduceLE, Int.reduceLT, Int.reduceGT, Int.reduceGE, Int.reduceEq, Int.reduceNe, Int.reduceToNat, reduceCtorEq, ak]
  refine ghp_k (Weak.nmg' 44 2 (.tmp 44 22) 1 (encL c_i64 ([] : List Int)) rfl rfl rfl rfl) ?_
  try simp only [Nat.reduceBEq, Nat.reduceEqDiff, Nat.reduceAdd, Nat.reduceMul, Nat.reduceLeDiff, Nat.reduceLT, Int.reduceLE, Int.reduceLT, Int.reduceGT, Int.reduceGE, Int.reduceEq, Int.reduceNe, Int.reduceToNat, reduceCtorEq, ak]
  refine alt_e ?_
  · simp only [Nat.reduceBEq, Nat.reduceEqDiff, Nat.reduceAdd, Nat.reduceMul, Nat.reduceLeDiff, Nat.reduceLT, Int.reduceLE, Int.reduceLT, Int.reduceGT, Int.reduceGE, Int.reduceEq, Int.reduceNe, Int.reduceToNat, reduceCtorEq, ak]
    refine ghp_k (Weak.own (.tmp 3 0) (cs' := [.sc (.int .u32 0), .sc (.int .u32 0), .own 1 (([] : List Int).length) (encL c_i64 ([] : List Int)), .sc (.int .i64 0), .sc (.int .i64 0), .sc (.int .i64 0), .sc (.int .i64 0), .sc (.int .i64 0)]) rfl ⟨.inl rfl, .inl rfl, .inr ⟨rfl, _, rfl⟩, .inl rfl, .inl rfl, .inl rfl, .inl rfl, .inl rfl, trivial⟩) ?_
    try simp only [Nat.reduceBEq, Nat.reduceEqDiff, Nat.reduceAdd, Nat.reduceMul, Nat.reduceLeDiff, Nat.reduceLT, Int.reduceLE, Int.reduceLT, Int.reduceGT, Int.reduceGE, Int.reduceEq, Int.reduceNe, Int.reduceToNat, reduceCtorEq, ak]
    refine alt_e ?_
    · have g6 : (encL c_i64 ([] : List Int)).length = 0 * 1 := by simp [encL_length c_i64_w]
      simp only [Nat.reduceBEq, Nat.reduceEqDiff, Nat.reduceAdd, Nat.reduceMul, Nat.reduceLeDiff, Nat.reduceLT, Int.reduceLE, Int.reduceLT, Int.reduceGT, Int.reduceGE, Int.reduceEq, Int.reduceNe, Int.reduceToNat, reduceCtorEq, ak, g6]
      refine hJ2 _ ?_
      refine seq_k fun J7 hJ7 => ?_
      refine seq_k fun J8 hJ8 => ?_
      refine reg_k ?_
      simp only [Nat.reduceEqDiff, Nat.reduceAdd, Nat.reduceMul, Nat.reduceLeDiff, Nat.reduceLT, Int.reduceLE, Int.reduceLT, Int.reduceGT, Int.reduceGE, Int.reduceEq, Int.reduceNe, Int.reduceToNat, reduceCtorEq, ak]
      refine hJ8 _ ?_
      refine block_k fun B9 B9n B9x B9r B9j => ?_
      obtain ⟨y52, h53, h⟩ := of_bind h
      refine gh_k (st' := ⟨[(0, .c (.ptr (.arg 0) [] 0)), (2, .c (.ptr (.tmp 2 0) [] 0)), (3, .c (.ptr (.tmp 3 0) [] 0)), (4, .c (.sc (.int .i64 a0_7)))], [(.arg 0, ⟨.box, 0, [.sc (.int .u32 a0_0), .sc (.int .i64 a0_1), .sc (.int .i64 a0_2), .sc (.int .i64 a0_3), .sc (.int .i64 a0_4), .sc (.int .i64 a0_5), .own 1 l0_6.length (encL c_i64 l0_6), .sc (.int .i64 a0_7), .sc (.int .i64 a0_8), .sc (.int .i64 a0_9), .sc (.int .i64 a0_10), .sc (.int .i64 a0_11), .sc (.bool a0_12)]⟩), (.tmp 2 0, ⟨.box, 0, [.sc (.int .u32 0), .sc (.int .u32 0), .own 1 (([] : List Int).length) (encL c_i64 ([] : List Int)), .sc (.int .i64 0), .sc (.int .i64 0), .sc (.int .i64 0), .sc (.int .i64 0), .sc (.int .i64 0)]⟩), (.tmp 3 0, ⟨.box, 0, [.sc (.int .u32 (IntKind.u32.wrap (a0_0 + (IntKind.u32.wrap a0_7)))), .sc (.int .u32 (IntKind.u32.wrap (a0_0 + (IntKind.u32.wrap (l0_6.length : Int))))), .own 1 (([] : List Int).length) (encL c_i64 ([] : List Int)), .sc (.int .i64 a0_8), .sc (.int .i64 a0_9), .sc (.int .i64 a0_10), .sc (.int .i64 a0_11), .sc (.int .i64 0)]⟩)], [], []⟩) (((Weak.keep [0, 2, 3, 4]).trans ((Weak.foc [(.arg 0, ⟨(.arg 0), [], none, .box⟩), (.tmp 2 0, ⟨(.tmp 2 0), [], none, .box⟩), (.tmp 3 0, ⟨(.tmp 3 0), [], none, .box⟩)] rfl (by first | rfl | simp only [reduceCtorEq, Nat.reduceEqDiff, ak, akF]) (by simp [argK, akG, ak])).trans (Weak.of_eq (by first | rfl | (simp only [reduceCtorEq, Nat.reduceEqDiff, ak, akF]; done) | (simp [reduceCtorEq, Nat.reduceEqDiff, ak, akF]; done)))))) ?_
      rw [e_loop]
      refine spec_l4View.l0_walk a0_0 a0_1 a0_2 a0_3 a0_4 a0_5 l0_6 a0_7 a0_8 a0_9 a0_10 a0_11 a0_12 0 0 ([] : List Int) 0 0 0 0 0 (IntKind.u32.wrap (a0_0 + (IntKind.u32.wrap a0_7))) (IntKind.u32.wrap (a0_0 + (IntKind.u32.wrap (l0_6.length : Int)))) a0_8 a0_9 a0_10 a0_11 0 a0_7 ([] : List Int) _ h53 _ ?_
      refine B9x _ ?_
      refine hJ7 _ ?_
      obtain ⟨j54, h55, hn⟩ := of_bind h
      refine seq_j (fun st => st = ⟨[(2, .c (.ptr (.tmp 2 0) [] 0)), (3, .c (.ptr (.tmp 3 0) [] 0))], [(.arg 0, ⟨.box, 0, [.sc (.int .u32 a0_0), .sc (.int .i64 a0_1), .sc (.int .i64 a0_2), .sc (.int .i64 a0_3), .sc (.int .i64 a0_4), .sc (.int .i64 a0_5), .own 1 l0_6.length (encL c_i64 l0_6), .sc (.int .i64 a0_7), .sc (.int .i64 a0_8), .sc (.int .i64 a0_9), .sc (.int .i64 a0_10), .sc (.int .i64 a0_11), .sc (.bool a0_12)]⟩), (.tmp 2 0, ⟨.box, 0, [.sc (.int .u32 0), .sc (.int .u32 0), .own 1 (([] : List Int).length) (encL c_i64 ([] : List Int)), .sc (.int .i64 0), .sc (.int .i64 0), .sc (.int .i64 0), .sc (.int .i64 0), .sc (.int .i64 0)]⟩), (.tmp 3 0, ⟨.box, 0, [.sc (.int .u32 (IntKind.u32.wrap (a0_0 + (IntKind.u32.wrap a0_7)))), .sc (.int .u32 (IntKind.u32.wrap (a0_0 + (IntKind.u32.wrap (l0_6.length : Int))))), .own 1 y52.length (encL c_i64 y52), .sc (.int .i64 a0_8), .sc (.int .i64 a0_9), .sc (.int .i64 a0_10), .sc (.int .i64 a0_11), .sc (.int .i64 j54)]⟩)], [], []⟩) (fun J56 hJ56 => ?_) ?_
      · replace h := h55; clear hn
        refine ga_k fun G57 G57n G57r G57x => ?_
        refine seq_k fun J58 hJ58 => ?_
        refine reg_k ?_
        simp only [Nat.reduceEqDiff, Nat.reduceAdd, Nat.reduceMul, Nat.reduceLeDiff, Nat.reduceLT, Int.reduceLE, Int.reduceLT, Int.reduceGT, Int.reduceGE, Int.reduceEq, Int.reduceNe, Int.reduceToNat, reduceCtorEq, ak]
        refine hJ58 _ ?_
        refine cond_k (b := a0_12) rfl (fun c59 => ?_) (fun c59 => ?_)
        · rw [if_pos c59] at h
          refine reg_k ?_
          simp only [Nat.reduceEqDiff, Nat.reduceAdd, Nat.reduceMul, Nat.reduceLeDiff, Nat.reduceLT, Int.reduceLE, Int.reduceLT, Int.reduceGT, Int.reduceGE, Int.reduceEq, Int.reduceNe, Int.reduceToNat, reduceCtorEq, ak]
          obtain rfl := Option.some.inj h
          refine G57n _ _ (((Weak.keep [2, 3]).trans ((Weak.foc [(.arg 0, ⟨(.arg 0), [], none, .box⟩), (.tmp 2 0, ⟨(.tmp 2 0), [], none, .box⟩), (.tmp 3 0, ⟨(.tmp 3 0), [], none, .box⟩)] rfl (by first | rfl | simp only [reduceCtorEq, Nat.reduceEqDiff, ak, akF]) (by simp [argK, akG, ak])).trans (Weak.of_eq (by first | rfl | (simp only [reduceCtorEq, Nat.reduceEqDiff, ak, akF]; done) | (simp [reduceCtorEq, Nat.reduceEqDiff, ak, akF]; done)))))) (hJ56 _ rfl)
        · rw [if_neg (Bool.eq_false_iff.1 c59)] at h
          obtain rfl := Option.some.inj h
          refine G57n _ _ (((Weak.keep [2, 3]).trans ((Weak.foc [(.arg 0, ⟨(.arg 0), [], none, .box⟩), (.tmp 2 0, ⟨(.tmp 2 0), [], none, .box⟩), (.tmp 3 0, ⟨(.tmp 3 0), [], none, .box⟩)] rfl (by first | rfl | simp only [reduceCtorEq, Nat.reduceEqDiff, ak, akF]) (by simp [argK, akG, ak])).trans (Weak.of_eq (by first | rfl | (simp only [reduceCtorEq, Nat.reduceEqDiff, ak, akF]; done) | (simp [reduceCtorEq, Nat.reduceEqDiff, ak, akF]; done)))))) (hJ56 _ rfl)
      · replace h := hn; clear hn h55
        rintro _ rfl
        refine seq_k fun J60 hJ60 => ?_
        refine reg_k ?_
        simp only [Nat.reduceEqDiff, Nat.reduceAdd, Nat.reduceMul, Nat.reduceLeDiff, Nat.reduceLT, Int.reduceLE, Int.reduceLT, Int.reduceGT, Int.reduceGE, Int.reduceEq, Int.reduceNe, Int.reduceToNat, reduceCtorEq, ak]
        refine hJ60 _ ?_
        obtain rfl := Option.some.inj h
        refine hKr _ ⟨_, rfl, [⟨(.tmp 3 0), [2], none, .lst⟩], _, rfl, rfl, ?_⟩
        first | rfl | (simp only [reduceCtorEq, Nat.reduceEqDiff, ak, akF]; done) | (simp [reduceCtorEq, Nat.reduceEqDiff, ak, akF]; done)
/-! ### spec.SubState: function 43 -/
def c43 : AC := .seq (.reg [.op none (.box 2 (.tmp 0)), .op none (.alloc 4 [.int .u32 0, .int .u32 0, .slice none 0 0, .int .i64 0, .int .i64 0, .int .i64 0, .int .i64 0, .int .i64 0]), .gh, .op none (.mv 5 (.const (.int .i64 0))), .keep [1, 2, 4]]) (.seq (.reg [.op none (.load 10 true 6 (.tmp 2)), .op none (.mv 11 (.tmp 1)), .call none (some 12) 86 [.tmp 10, .tmp 11], .op none (.mv 9 (.tmp 12)), .op none (.extr 13 (.tmp 9) 0), .op none (.extr 14 (.tmp 9) 1), .op none (.extr 15 (.tmp 9) 2), .op none (.alloc 6 [.int .u32 0, .int .i64 0, .int .i64 0, .int .i64 0, .int .i64 0, .int .i64 0, .slice none 0 0, .int .i64 0, .int .i64 0, .int .i64 0, .int .i64 0, .int .i64 0, .bool false]), .gh, .op none (.store 13 (.tmp 6) (.tmp 13)), .op none (.mv 7 (.tmp 14)), .op none (.mv 8 (.tmp 15)), .keep [4, 6, 8]]) (.seq (.seq (.reg [.op none (.mv 16 (.tmp 8)), .op none (.bin 17 .neq (.tmp 16) (.const (.int .i64 0))), .keep [4, 6, 8, 17]]) (.cond (.tmp 17) (.seq (.reg [.op none (.build 18 [.int .u32 0, .int .u32 0, .slice none 0 0, .int .i64 0, .int .i64 0, .int .i64 0, .int .i64 0, .int .i64 0] []), .gh, .op none (.mv 19 (.tmp 8)), .op none (.store 8 (.tmp 4) (.tmp 18)), .op none (.mv 5 (.tmp 19)), .keep [4, 5]]) (.ret)) (.skip))) (.seq (.reg [.call none (some 20) 97 [.tmp 6], .op none (.store 8 (.tmp 4) (.tmp 20)), .op none (.mv 5 (.const (.int .i64 0))), .keep [4, 5]]) (.ret))))
def r43 : List RV := [.cell 4 true 8, .tmp 5]
theorem k43 : compC Try.prog 21 c43 (Try.f43.body.getD .skip) = some c43.erase := by kernel_rfl
theorem q43 : rvsOf Try.prog Try.f43.results.toList = some r43 := by kernel_rfl
def spec_SubState.f (a0_0 : Int) (a0_1 : Int) (a0_2 : Int) (a0_3 : Int) (a0_4 : Int) (a0_5 : Int) (l1 : List S63) : Option (Int × Int × (List Int) × Int × Int × Int × Int × Int × Int) := (spec_l4Run.f a0_0 a0_1 a0_2 a0_3 a0_4 a0_5 l1 >>= fun t3 => (if t3.2.2.2.2.2.2.2.2.2.2.2.2.2.2 ≠ 0 then (some (0, 0, ([] : List Int), 0, 0, 0, 0, 0, t3.2.2.2.2.2.2.2.2.2.2.2.2.2.2)) else (spec_l4View.f t3.1 t3.2.1 t3.2.2.1 t3.2.2.2.1 t3.2.2.2.2.1 t3.2.2.2.2.2.1 t3.2.2.2.2.2.2.1 t3.2.2.2.2.2.2.2.1 t3.2.2.2.2.2.2.2.2.1 t3.2.2.2.2.2.2.2.2.2.1 t3.2.2.2.2.2.2.2.2.2.2.1 t3.2.2.2.2.2.2.2.2.2.2.2.1 t3.2.2.2.2.2.2.2.2.2.2.2.2.1 >>= fun t13 => (some (t13.1, t13.2.1, t13.2.2.1, t13.2.2.2.1, t13.2.2.2.2.1, t13.2.2.2.2.2.1, t13.2.2.2.2.2.2.1, t13.2.2.2.2.2.2.2, 0)))))
set_option maxRecDepth 100000 in
set_option maxHeartbeats 4000000 in
theorem spec_SubState.tri (cs0 : List Cell) (o0 : Nat) (l1 : List S63) (hv0 : Vw c63 3 cs0 o0 l1) (a0_0 : Int) (a0_1 : Int) (a0_2 : Int) (a0_3 : Int) (a0_4 : Int) (a0_5 : Int) (r : Int × Int × (List Int) × Int × Int × Int × Int × Int × Int) (h : spec_SubState.f a0_0 a0_1 a0_2 a0_3 a0_4 a0_5 l1 = some r) : Tri Try.prog 43 [.g [.sc (.int .u32 a0_0), .sc (.int .i64 a0_1), .sc (.int .i64 a0_2), .sc (.int .i64 a0_3), .sc (.int .i64 a0_4), .sc (.int .i64 a0_5)], .c (.ref (.arg 0) [] o0 l1.length)] [(.arg 0, ⟨.fz, 3, cs0⟩)] (fun o => o = ⟨.tup [(true, [.sc (.int .u32 r.1), .sc (.int .u32 r.2.1), .ref (.res 0) [] 0 r.2.2.1.length, .sc (.int .i64 r.2.2.2.1), .sc (.int .i64 r.2.2.2.2.1), .sc (.int .i64 r.2.2.2.2.2.1), .sc (.int .i64 r.2.2.2.2.2.2.1), .sc (.int .i64 r.2.2.2.2.2.2.2.1)]), (false, [.sc (.int .i64 r.2.2.2.2.2.2.2.2)])], [(.arg 0, ⟨.fz, 3, cs0⟩), (.res 0, ⟨.lst, 1, encL c_i64 r.2.2.1⟩)], [], []⟩) := by
  refine tri_of_body (ac := c43) (xs := r43) Try.func43 (show Try.f43.body = some (Try.f43.body.getD .skip) from rfl) k43 q43 (Nat.le_of_ble_eq_true rfl) ?_
  refine body_of fun K hKn hKr => ?_
  unfold spec_SubState.f at h
  unfold c43
  simp only [initT, Nat.reduceAdd]
  refine seq_k fun J1 hJ1 => ?_
  refine reg_k ?_
  simp only [Nat.reduceEqDiff, Nat.reduceAdd, Nat.reduceMul, Nat.reduceLeDiff, Nat.reduceLT, Int.reduceLE, Int.reduceLT, Int.reduceGT, Int.reduceGE, Int.reduceEq, Int.reduceNe, Int.reduceToNat, reduceCtorEq, ak]
  refine gho_k (Weak.own (.tmp 4 0) (cs' := [.sc (.int .u32 0), .sc (.int .u32 0), .own 1 (([] : List Int).length) (encL c_i64 ([] : List Int)), .sc (.int .i64 0), .sc (.int .i64 0), .sc (.int .i64 0), .sc (.int .i64 0), .sc (.int .i64 0)]) rfl ⟨.inl rfl, .inl rfl, .inr ⟨rfl, _, rfl⟩, .inl rfl, .inl rfl, .inl rfl, .inl rfl, .inl rfl, trivial⟩) ?_
  simp only [Nat.reduceEqDiff, Nat.reduceAdd, Nat.reduceMul, Nat.reduceLeDiff, Nat.reduceLT, Int.reduceLE, Int.reduceLT, Int.reduceGT, Int.reduceGE, Int.reduceEq, Int.reduceNe, Int.reduceToNat, reduceCtorEq, ak]
  refine hJ1 _ ?_
  refine seq_k fun J2 hJ2 => ?_
  refine reg_k ?_
  simp only [Nat.reduceEqDiff, Nat.reduceAdd, Nat.reduceMul, Nat.reduceLeDiff, Nat.reduceLT, Int.reduceLE, Int.reduceLT, Int.reduceGT, Int.reduceGE, Int.reduceEq, Int.reduceNe, Int.reduceToNat, reduceCtorEq, ak]
  obtain ⟨t3, h4, h⟩ := of_bind h
  refine call_m [(.arg 0, ⟨(.arg 0), [], none, .fz⟩)] (s0 := [(.arg 0, ⟨.fz, 3, cs0⟩)]) (by intro t ht; cases ht; decide) rfl rfl (by first | rfl | simp only [reduceCtorEq, Nat.reduceEqDiff, ak, akF]) (spec_l4Run.tri (cs0) o0 l1 hv0 a0_0 a0_1 a0_2 a0_3 a0_4 a0_5 _ h4) (by first | rfl | simp only [reduceCtorEq, Nat.reduceEqDiff, ak, akF]) (by simp [bkOk2, memK]) (fun hl4 => ?_)
  refine call_st (s4 := [(.arg 0, ⟨.fz, 3, cs0⟩), (.tmp 2 0, ⟨.box, 0, [.sc (.int .u32 a0_0), .sc (.int .i64 a0_1), .sc (.int .i64 a0_2), .sc (.int .i64 a0_3), .sc (.int .i64 a0_4), .sc (.int .i64 a0_5)]⟩), (.tmp 4 0, ⟨.box, 0, [.sc (.int .u32 0), .sc (.int .u32 0), .own 1 (([] : List Int).length) (encL c_i64 ([] : List Int)), .sc (.int .i64 0), .sc (.int .i64 0), .sc (.int .i64 0), .sc (.int .i64 0), .sc (.int .i64 0)]⟩), (.tmp 12 1, ⟨.lst, 5, encL c66 t3.2.2.2.2.2.2.2.2.2.2.2.2.2.1⟩), (.tmp 12 0, ⟨.lst, 1, encL c_i64 t3.2.2.2.2.2.2.1⟩)]) (m1' := []) (m2' := []) (v' := .tup [(true, [.sc (.int .u32 t3.1), .sc (.int .i64 t3.2.1), .sc (.int .i64 t3.2.2.1), .sc (.int .i64 t3.2.2.2.1), .sc (.int .i64 t3.2.2.2.2.1), .sc (.int .i64 t3.2.2.2.2.2.1), .ref (.tmp 12 0) [] 0 t3.2.2.2.2.2.2.1.length, .sc (.int .i64 t3.2.2.2.2.2.2.2.1), .sc (.int .i64 t3.2.2.2.2.2.2.2.2.1), .sc (.int .i64 t3.2.2.2.2.2.2.2.2.2.1), .sc (.int .i64 t3.2.2.2.2.2.2.2.2.2.2.1), .sc (.int .i64 t3.2.2.2.2.2.2.2.2.2.2.2.1), .sc (.bool t3.2.2.2.2.2.2.2.2.2.2.2.2.1)]), (false, [.ref (.tmp 12 1) [] 0 t3.2.2.2.2.2.2.2.2.2.2.2.2.2.1.length]), (false, [.sc (.int .i64 t3.2.2.2.2.2.2.2.2.2.2.2.2.2.2)])]) (Sto.mapN_killNil _ _) (mrgL_fz (mrgL_nil' _ _ _) rfl (by first | rfl | simp only [reduceCtorEq, Nat.reduceEqDiff, ak]) rfl (by intro R hR hh; cases hR; cases hh.2)) (by rfl) (mapT_killNil _ _) (by rfl) (by rfl) (by first | rfl | simp only [reduceCtorEq, Nat.reduceEqDiff, ak, akF, Nat.zero_add, List.append_nil]) ?_
  simp only [Nat.reduceEqDiff, Nat.reduceAdd, Nat.reduceMul, Nat.reduceLeDiff, Nat.reduceLT, Int.reduceLE, Int.reduceLT, Int.reduceGT, Int.reduceGE, Int.reduceEq, Int.reduceNe, Int.reduceToNat, reduceCtorEq, ak]
  refine gho_k (Weak.own (.tmp 6 0) (cs' := [.sc (.int .u32 0), .sc (.int .i64 0), .sc (.int .i64 0), .sc (.int .i64 0), .sc (.int .i64 0), .sc (.int .i64 0), .own 1 (([] : List Int).length) (encL c_i64 ([] : List Int)), .sc (.int .i64 0), .sc (.int .i64 0), .sc (.int .i64 0), .sc (.int .i64 0), .sc (.int .i64 0), .sc (.bool false)]) rfl ⟨.inl rfl, .inl rfl, .inl rfl, .inl rfl, .inl rfl, .inl rfl, .inr ⟨rfl, _, rfl⟩, .inl rfl, .inl rfl, .inl rfl, .inl rfl, .inl rfl, .inl rfl, trivial⟩) ?_
  have g6 : (encL c_i64 t3.2.2.2.2.2.2.1).length = t3.2.2.2.2.2.2.1.length * 1 := by simp [encL_length c_i64_w]
  simp only [Nat.reduceEqDiff, Nat.reduceAdd, Nat.reduceMul, Nat.reduceLeDiff, Nat.reduceLT, Int.reduceLE, Int.reduceLT, Int.reduceGT, Int.reduceGE, Int.reduceEq, Int.reduceNe, Int.reduceToNat, reduceCtorEq, ak, g6]
  refine hJ2 _ ?_
  refine seq_k fun J7 hJ7 => ?_
  refine seq_k fun J8 hJ8 => ?_
  refine reg_k ?_
  simp only [Nat.reduceEqDiff, Nat.reduceAdd, Nat.reduceMul, Nat.reduceLeDiff, Nat.reduceLT, Int.reduceLE, Int.reduceLT, Int.reduceGT, Int.reduceGE, Int.reduceEq, Int.reduceNe, Int.reduceToNat, reduceCtorEq, ak]
  refine hJ8 _ ?_
  refine cond_k (b := decide (t3.2.2.2.2.2.2.2.2.2.2.2.2.2.2 ≠ 0)) rfl (fun c9 => ?_) (fun c9 => ?_)
  · replace c9 := of_decide_eq_true c9; rw [if_pos c9] at h
    refine seq_k fun J10 hJ10 => ?_
    refine reg_k ?_
    simp only [Nat.reduceEqDiff, Nat.reduceAdd, Nat.reduceMul, Nat.reduceLeDiff, Nat.reduceLT, Int.reduceLE, Int.reduceLT, Int.reduceGT, Int.reduceGE, Int.reduceEq, Int.reduceNe, Int.reduceToNat, reduceCtorEq, ak]
    refine gho_k (Weak.nmg' 18 2 (.tmp 18 22) 1 (encL c_i64 ([] : List Int)) rfl rfl rfl rfl) ?_
    have g11 : (encL c_i64 ([] : List Int)).length = 0 * 1 := by simp [encL_length c_i64_w]
    simp only [Nat.reduceEqDiff, Nat.reduceAdd, Nat.reduceMul, Nat.reduceLeDiff, Nat.reduceLT, Int.reduceLE, Int.reduceLT, Int.reduceGT, Int.reduceGE, Int.reduceEq, Int.reduceNe, Int.reduceToNat, reduceCtorEq, ak, g11]
    refine hJ10 _ ?_
    obtain rfl := Option.some.inj h
    refine hKr _ ⟨_, rfl, [⟨(.tmp 4 0), [2], none, .lst⟩], _, rfl, rfl, ?_⟩
    first | rfl | (simp only [reduceCtorEq, Nat.reduceEqDiff, ak, akF]; done) | (simp [reduceCtorEq, Nat.reduceEqDiff, ak, akF]; done)
  · replace c9 := of_decide_eq_false c9; rw [if_neg c9] at h
    refine hJ7 _ ?_
    refine seq_k fun J12 hJ12 => ?_
    refine reg_k ?_
    simp only [Nat.reduceEqDiff, Nat.reduceAdd, Nat.reduceMul, Nat.reduceLeDiff, Nat.reduceLT, Int.reduceLE, Int.reduceLT, Int.reduceGT, Int.reduceGE, Int.reduceEq, Int.reduceNe, Int.reduceToNat, reduceCtorEq, ak]
    obtain ⟨t13, h14, h⟩ := of_bind h
    refine call_m [(.arg 0, ⟨(.tmp 6 0), [], none, .box⟩)] (s0 := [(.arg 0, ⟨.box, 0, [.sc (.int .u32 t3.1), .sc (.int .i64 t3.2.1), .sc (.int .i64 t3.2.2.1), .sc (.int .i64 t3.2.2.2.1), .sc (.int .i64 t3.2.2.2.2.1), .sc (.int .i64 t3.2.2.2.2.2.1), .own 1 t3.2.2.2.2.2.2.1.length (encL c_i64 t3.2.2.2.2.2.2.1), .sc (.int .i64 t3.2.2.2.2.2.2.2.1), .sc (.int .i64 t3.2.2.2.2.2.2.2.2.1), .sc (.int .i64 t3.2.2.2.2.2.2.2.2.2.1), .sc (.int .i64 t3.2.2.2.2.2.2.2.2.2.2.1), .sc (.int .i64 t3.2.2.2.2.2.2.2.2.2.2.2.1), .sc (.bool t3.2.2.2.2.2.2.2.2.2.2.2.2.1)]⟩)]) (by intro t ht; cases ht; decide) rfl rfl (by first | rfl | simp only [reduceCtorEq, Nat.reduceEqDiff, ak, akF, g6]) (spec_l4View.tri t3.1 t3.2.1 t3.2.2.1 t3.2.2.2.1 t3.2.2.2.2.1 t3.2.2.2.2.2.1 t3.2.2.2.2.2.2.1 t3.2.2.2.2.2.2.2.1 t3.2.2.2.2.2.2.2.2.1 t3.2.2.2.2.2.2.2.2.2.1 t3.2.2.2.2.2.2.2.2.2.2.1 t3.2.2.2.2.2.2.2.2.2.2.2.1 t3.2.2.2.2.2.2.2.2.2.2.2.2.1 _ h14) (by first | rfl | simp only [reduceCtorEq, Nat.reduceEqDiff, ak, akF]) (by simp [bkOk2, memK]) (fun hl14 => ?_)
    refine call_st (s4 := [(.arg 0, ⟨.fz, 3, cs0⟩), (.tmp 2 0, ⟨.box, 0, [.sc (.int .u32 a0_0), .sc (.int .i64 a0_1), .sc (.int .i64 a0_2), .sc (.int .i64 a0_3), .sc (.int .i64 a0_4), .sc (.int .i64 a0_5)]⟩), (.tmp 4 0, ⟨.box, 0, [.sc (.int .u32 0), .sc (.int .u32 0), .own 1 (([] : List Int).length) (encL c_i64 ([] : List Int)), .sc (.int .i64 0), .sc (.int .i64 0), .sc (.int .i64 0), .sc (.int .i64 0), .sc (.int .i64 0)]⟩), (.tmp 12 1, ⟨.lst, 5, encL c66 t3.2.2.2.2.2.2.2.2.2.2.2.2.2.1⟩), (.tmp 6 0, ⟨.box, 0, [.sc (.int .u32 t3.1), .sc (.int .i64 t3.2.1), .sc (.int .i64 t3.2.2.1), .sc (.int .i64 t3.2.2.2.1), .sc (.int .i64 t3.2.2.2.2.1), .sc (.int .i64 t3.2.2.2.2.2.1), .own 1 t3.2.2.2.2.2.2.1.length (encL c_i64 t3.2.2.2.2.2.2.1), .sc (.int .i64 t3.2.2.2.2.2.2.2.1), .sc (.int .i64 t3.2.2.2.2.2.2.2.2.1), .sc (.int .i64 t3.2.2.2.2.2.2.2.2.2.1), .sc (.int .i64 t3.2.2.2.2.2.2.2.2.2.2.1), .sc (.int .i64 t3.2.2.2.2.2.2.2.2.2.2.2.1), .sc (.bool t3.2.2.2.2.2.2.2.2.2.2.2.2.1)]⟩), (.tmp 20 0, ⟨.lst, 1, encL c_i64 t13.2.2.1⟩)]) (m1' := []) (m2' := []) (v' := .g [.sc (.int .u32 t13.1), .sc (.int .u32 t13.2.1), .ref (.tmp 20 0) [] 0 t13.2.2.1.length, .sc (.int .i64 t13.2.2.2.1), .sc (.int .i64 t13.2.2.2.2.1), .sc (.int .i64 t13.2.2.2.2.2.1), .sc (.int .i64 t13.2.2.2.2.2.2.1), .sc (.int .i64 t13.2.2.2.2.2.2.2)]) (Sto.mapN_killNil _ _) (mrgL_whole (new' := [.sc (.int .u32 t3.1), .sc (.int .i64 t3.2.1), .sc (.int .i64 t3.2.2.1), .sc (.int .i64 t3.2.2.2.1), .sc (.int .i64 t3.2.2.2.2.1), .sc (.int .i64 t3.2.2.2.2.2.1), .own 1 t3.2.2.2.2.2.2.1.length (encL c_i64 t3.2.2.2.2.2.2.1), .sc (.int .i64 t3.2.2.2.2.2.2.2.1), .sc (.int .i64 t3.2.2.2.2.2.2.2.2.1), .sc (.int .i64 t3.2.2.2.2.2.2.2.2.2.1), .sc (.int .i64 t3.2.2.2.2.2.2.2.2.2.2.1), .sc (.int .i64 t3.2.2.2.2.2.2.2.2.2.2.2.1), .sc (.bool t3.2.2.2.2.2.2.2.2.2.2.2.2.1)]) (mrgL_nil' _ _ _) rfl (by rfl) (.inl ⟨rfl, by first | rfl | simp only [reduceCtorEq, Nat.reduceEqDiff, ak, akF, Nat.zero_add, List.append_nil]⟩)) (by rfl) (mapT_killNil _ _) (by rfl) (by rfl) (by first | rfl | simp only [reduceCtorEq, Nat.reduceEqDiff, ak, akF, Nat.zero_add, List.append_nil]) ?_
    have g16 : (encL c_i64 t13.2.2.1).length = t13.2.2.1.length * 1 := by simp [encL_length c_i64_w]
    simp only [Nat.reduceEqDiff, Nat.reduceAdd, Nat.reduceMul, Nat.reduceLeDiff, Nat.reduceLT, Int.reduceLE, Int.reduceLT, Int.reduceGT, Int.reduceGE, Int.reduceEq, Int.reduceNe, Int.reduceToNat, reduceCtorEq, ak, g16]
    refine hJ12 _ ?_
    obtain rfl := Option.some.inj h
    refine hKr _ ⟨_, rfl, [⟨(.tmp 4 0), [2], none, .lst⟩], _, rfl, rfl, ?_⟩
    first | rfl | (simp only [reduceCtorEq, Nat.reduceEqDiff, ak, akF]; done) | (simp [reduceCtorEq, Nat.reduceEqDiff, ak, akF]; done)
/-! ### impl.validSub: function 131 -/
def c131 : AC := .seq (.reg [.op none (.box 1 (.tmp 0)), .op none (.mv 2 (.const (.bool false))), .keep [1]]) (.seq (.reg [.op none (.faddr 3 1 (.tmp 1)), .op none (.load 4 false 1 (.tmp 3)), .op none (.bin 5 .geq (.tmp 4) (.const (.int .i64 1))), .op none (.mv 6 (.tmp 5)), .op (some (6, true)) (.faddr 7 1 (.tmp 1)), .op (some (6, true)) (.load 8 false 1 (.tmp 7)), .op (some (6, true)) (.bin 9 .leq (.tmp 8) (.const (.int .i64 16))), .op none (.pick 10 (.tmp 6) (.tmp 9) (.const (.bool false))), .op none (.mv 11 (.tmp 10)), .op (some (11, true)) (.faddr 12 2 (.tmp 1)), .op (some (11, true)) (.load 13 false 1 (.tmp 12)), .op (some (11, true)) (.bin 14 .geq (.tmp 13) (.const (.int .i64 1))), .op none (.pick 15 (.tmp 11) (.tmp 14) (.const (.bool false))), .op none (.mv 16 (.tmp 15)), .op (some (16, true)) (.faddr 17 2 (.tmp 1)), .op (some (16, true)) (.load 18 false 1 (.tmp 17)), .op (some (16, true)) (.bin 19 .leq (.tmp 18) (.const (.int .i64 50))), .op none (.pick 20 (.tmp 16) (.tmp 19) (.const (.bool false))), .op none (.mv 21 (.tmp 20)), .op (some (21, true)) (.faddr 22 3 (.tmp 1)), .op (some (21, true)) (.load 23 false 1 (.tmp 22)), .op (some (21, true)) (.faddr 24 2 (.tmp 1)), .op (some (21, true)) (.load 25 false 1 (.tmp 24)), .op (some (21, true)) (.bin 26 .geq (.tmp 23) (.tmp 25)), .op none (.pick 27 (.tmp 21) (.tmp 26) (.const (.bool false))), .op none (.mv 28 (.tmp 27)), .op (some (28, true)) (.faddr 29 3 (.tmp 1)), .op (some (28, true)) (.load 30 false 1 (.tmp 29)), .op (some (28, true)) (.bin 31 .leq (.tmp 30) (.const (.int .i64 400))), .op none (.pick 32 (.tmp 28) (.tmp 31) (.const (.bool false))), .op none (.mv 33 (.tmp 32)), .op (some (33, true)) (.faddr 34 4 (.tmp 1)), .op (some (33, true)) (.load 35 false 1 (.tmp 34)), .op (some (33, true)) (.bin 36 .geq (.tmp 35) (.const (.int .i64 1))), .op none (.pick 37 (.tmp 33) (.tmp 36) (.const (.bool false))), .op none (.mv 38 (.tmp 37)), .op (some (38, true)) (.faddr 39 4 (.tmp 1)), .op (some (38, true)) (.load 40 false 1 (.tmp 39)), .op (some (38, true)) (.bin 41 .leq (.tmp 40) (.const (.int .i64 8))), .op none (.pick 42 (.tmp 38) (.tmp 41) (.const (.bool false))), .op none (.mv 43 (.tmp 42)), .op (some (43, true)) (.faddr 44 5 (.tmp 1)), .op (some (43, true)) (.load 45 false 1 (.tmp 44)), .op (some (43, true)) (.bin 46 .geq (.tmp 45) (.const (.int .i64 1))), .op none (.pick 47 (.tmp 43) (.tmp 46) (.const (.bool false))), .op none (.mv 48 (.tmp 47)), .op (some (48, true)) (.faddr 49 5 (.tmp 1)), .op (some (48, true)) (.load 50 false 1 (.tmp 49)), .op (some (48, true)) (.bin 51 .leq (.tmp 50) (.const (.int .i64 50))), .op none (.pick 52 (.tmp 48) (.tmp 51) (.const (.bool false))), .op none (.mv 2 (.tmp 52)), .keep [2]]) (.ret))
def r131 : List RV := [.tmp 2]
theorem k131 : compC Try.prog 53 c131 (Try.f131.body.getD .skip) = some c131.erase := by kernel_rfl
theorem q131 : rvsOf Try.prog Try.f131.results.toList = some r131 := by kernel_rfl
def impl_validSub.f (a0_0 : Int) (a0_1 : Int) (a0_2 : Int) (a0_3 : Int) (a0_4 : Int) (a0_5 : Int) : Option Bool := (if a0_1 ≥ 1 then (if a0_1 ≤ 16 then (if a0_2 ≥ 1 then (if a0_2 ≤ 50 then (if a0_3 ≥ a0_2 then (if a0_3 ≤ 400 then (if a0_4 ≥ 1 then (if a0_4 ≤ 8 then (if a0_5 ≥ 1 then (some (decide (a0_5 ≤ 50))) else (some false)) else (some false)) else (some false)) else (some false)) else (some false)) else (some false)) else (some false)) else (some false)) else (some false))
set_option maxRecDepth 100000 in
set_option maxHeartbeats 4000000 in
theorem impl_validSub.tri (a0_0 : Int) (a0_1 : Int) (a0_2 : Int) (a0_3 : Int) (a0_4 : Int) (a0_5 : Int) (r : Bool) (h : impl_validSub.f a0_0 a0_1 a0_2 a0_3 a0_4 a0_5 = some r) : Tri Try.prog 131 [.g [.sc (.int .u32 a0_0), .sc (.int .i64 a0_1), .sc (.int .i64 a0_2), .sc (.int .i64 a0_3), .sc (.int .i64 a0_4), .sc (.int .i64 a0_5)]] [] (fun o => o = ⟨.c (.sc (.bool r)), [], [], []⟩) := by
  refine tri_of_body (ac := c131) (xs := r131) Try.func131 (show Try.f131.body = some (Try.f131.body.getD .skip) from rfl) k131 q131 (Nat.le_of_ble_eq_true rfl) ?_
  refine body_of fun K hKn hKr => ?_
  unfold impl_validSub.f at h
  unfold c131
  simp only [initT, Nat.reduceAdd]
  refine seq_k fun J1 hJ1 => ?_
  refine reg_k ?_
  simp only [Nat.reduceEqDiff, Nat.reduceAdd, Nat.reduceMul, Nat.reduceLeDiff, Nat.reduceLT, Int.reduceLE, Int.reduceLT, Int.reduceGT, Int.reduceGE, Int.reduceEq, Int.reduceNe, Int.reduceToNat, reduceCtorEq, ak]
  refine hJ1 _ ?_
  refine seq_k fun J2 hJ2 => ?_
  refine reg_k ?_
  simp only [Nat.reduceEqDiff, Nat.reduceAdd, Nat.reduceMul, Nat.reduceLeDiff, Nat.reduceLT, Int.reduceLE, Int.reduceLT, Int.reduceGT, Int.reduceGE, Int.reduceEq, Int.reduceNe, Int.reduceToNat, reduceCtorEq, ak]
  by_cases c3 : a0_1 ≥ 1
  · rw [if_pos c3] at h
    have e4 : decide (a0_1 ≥ 1) = true := decide_eq_true c3
    simp only [Nat.reduceEqDiff, Nat.reduceAdd, Nat.reduceMul, Nat.reduceLeDiff, Nat.reduceLT, Int.reduceLE, Int.reduceLT, Int.reduceGT, Int.reduceGE, Int.reduceEq, Int.reduceNe, Int.reduceToNat, reduceCtorEq, ak, e4]
    by_cases c5 : a0_1 ≤ 16
    · rw [if_pos c5] at h
      have e6 : decide (a0_1 ≤ 16) = true := decide_eq_true c5
      simp only [Nat.reduceEqDiff, Nat.reduceAdd, Nat.reduceMul, Nat.reduceLeDiff, Nat.reduceLT, Int.reduceLE, Int.reduceLT, Int.reduceGT, Int.reduceGE, Int.reduceEq, Int.reduceNe, Int.reduceToNat, reduceCtorEq, ak, e6]
      by_cases c7 : a0_2 ≥ 1
      · rw [if_pos c7] at h
        have e8 : decide (a0_2 ≥ 1) = true := decide_eq_true c7
        simp only [Nat.reduceEqDiff, Nat.reduceAdd, Nat.reduceMul, Nat.reduceLeDiff, Nat.reduceLT, Int.reduceLE, Int.reduceLT, Int.reduceGT, Int.reduceGE, Int.reduceEq, Int.reduceNe, Int.reduceToNat, reduceCtorEq, ak, e8]
        by_cases c9 : a0_2 ≤ 50
        · rw [if_pos c9] at h
          have e10 : decide (a0_2 ≤ 50) = true := decide_eq_true c9
          simp only [Nat.reduceEqDiff, Nat.reduceAdd, Nat.reduceMul, Nat.reduceLeDiff, Nat.reduceLT, Int.reduceLE, Int.reduceLT, Int.reduceGT, Int.reduceGE, Int.reduceEq, Int.reduceNe, Int.reduceToNat, reduceCtorEq, ak, e10]
          by_cases c11 : a0_3 ≥ a0_2
          · rw [if_pos c11] at h
            have e12 : decide (a0_3 ≥ a0_2) = true := decide_eq_true c11
            simp only [Nat.reduceEqDiff, Nat.reduceAdd, Nat.reduceMul, Nat.reduceLeDiff, Nat.reduceLT, Int.reduceLE, Int.reduceLT, Int.reduceGT, Int.reduceGE, Int.reduceEq, Int.reduceNe, Int.reduceToNat, reduceCtorEq, ak, e12]
            by_cases c13 : a0_3 ≤ 400
            · rw [if_pos c13] at h
              have e14 : decide (a0_3 ≤ 400) = true := decide_eq_true c13
              simp only [Nat.reduceEqDiff, Nat.reduceAdd, Nat.reduceMul, Nat.reduceLeDiff, Nat.reduceLT, Int.reduceLE, Int.reduceLT, Int.reduceGT, Int.reduceGE, Int.reduceEq, Int.reduceNe, Int.reduceToNat, reduceCtorEq, ak, e14]
              by_cases c15 : a0_4 ≥ 1
              · rw [if_pos c15] at h
                have e16 : decide (a0_4 ≥ 1) = true := decide_eq_true c15
                simp only [Nat.reduceEqDiff, Nat.reduceAdd, Nat.reduceMul, Nat.reduceLeDiff, Nat.reduceLT, Int.reduceLE, Int.reduceLT, Int.reduceGT, Int.reduceGE, Int.reduceEq, Int.reduceNe, Int.reduceToNat, reduceCtorEq, ak, e16]
                by_cases c17 : a0_4 ≤ 8
                · rw [if_pos c17] at h
                  have e18 : decide (a0_4 ≤ 8) = true := decide_eq_true c17
                  simp only [Nat.reduceEqDiff, Nat.reduceAdd, Nat.reduceMul, Nat.reduceLeDiff, Nat.reduceLT, Int.reduceLE, Int.reduceLT, Int.reduceGT, Int.reduceGE, Int.reduceEq, Int.reduceNe, Int.reduceToNat, reduceCtorEq, ak, e18]
                  by_cases c19 : a0_5 ≥ 1
                  · rw [if_pos c19] at h
                    have e20 : decide (a0_5 ≥ 1) = true := decide_eq_true c19
                    simp only [Nat.reduceEqDiff, Nat.reduceAdd, Nat.reduceMul, Nat.reduceLeDiff, Nat.reduceLT, Int.reduceLE, Int.reduceLT, Int.reduceGT, Int.reduceGE, Int.reduceEq, Int.reduceNe, Int.reduceToNat, reduceCtorEq, ak, e20]
                    refine hJ2 _ ?_
                    obtain rfl := Option.some.inj h
                    refine hKr _ ⟨_, rfl, [], _, rfl, rfl, ?_⟩
                    first | rfl | (simp only [reduceCtorEq, Nat.reduceEqDiff, ak, akF, e4, e6, e8, e10, e12, e14, e16, e18, e20]; done) | (simp [reduceCtorEq, Nat.reduceEqDiff, ak, akF, e4, e6, e8, e10, e12, e14, e16, e18, e20]; done)
                  · rw [if_neg c19] at h
                    have e21 : decide (a0_5 ≥ 1) = false := decide_eq_false c19
                    simp only [Nat.reduceEqDiff, Nat.reduceAdd, Nat.reduceMul, Nat.reduceLeDiff, Nat.reduceLT, Int.reduceLE, Int.reduceLT, Int.reduceGT, Int.reduceGE, Int.reduceEq, Int.reduceNe, Int.reduceToNat, reduceCtorEq, ak, e21]
                    refine hJ2 _ ?_
                    obtain rfl := Option.some.inj h
                    refine hKr _ ⟨_, rfl, [], _, rfl, rfl, ?_⟩
                    first | rfl | (simp only [reduceCtorEq, Nat.reduceEqDiff, ak, akF, e4, e6, e8, e10, e12, e14, e16, e18, e21]; done) | (simp [reduceCtorEq, Nat.reduceEqDiff, ak, akF, e4, e6, e8, e10, e12, e14, e16, e18, e21]; done)
                · rw [if_neg c17] at h
                  have e22 : decide (a0_4 ≤ 8) = false := decide_eq_false c17
                  simp only [Nat.reduceEqDiff, Nat.reduceAdd, Nat.reduceMul, Nat.reduceLeDiff, Nat.reduceLT, Int.reduceLE, Int.reduceLT, Int.reduceGT, Int.reduceGE, Int.reduceEq, Int.reduceNe, Int.reduceToNat, reduceCtorEq, ak, e22]
                  refine hJ2 _ ?_
                  obtain rfl := Option.some.inj h
                  refine hKr _ ⟨_, rfl, [], _, rfl, rfl, ?_⟩
                  first | rfl | (simp only [reduceCtorEq, Nat.reduceEqDiff, ak, akF, e4, e6, e8, e10, e12, e14, e16, e22]; done) | (simp [reduceCtorEq, Nat.reduceEqDiff, ak, akF, e4, e6, e8, e10, e12, e14, e16, e22]; done)
              · rw [if_neg c15] at h
                have e23 : decide (a0_4 ≥ 1) = false := decide_eq_false c15
                simp only [Nat.reduceEqDiff, Nat.reduceAdd, Nat.reduceMul, Nat.reduceLeDiff, Nat.reduceLT, Int.reduceLE, Int.reduceLT, Int.reduceGT, Int.reduceGE, Int.reduceEq, Int.reduceNe, Int.reduceToNat, reduceCtorEq, ak, e23]
                refine hJ2 _ ?_
                obtain rfl := Option.some.inj h
                refine hKr _ ⟨_, rfl, [], _, rfl, rfl, ?_⟩
                first | rfl | (simp only [reduceCtorEq, Nat.reduceEqDiff, ak, akF, e4, e6, e8, e10, e12, e14, e23]; done) | (simp [reduceCtorEq, Nat.reduceEqDiff, ak, akF, e4, e6, e8, e10, e12, e14, e23]; done)
            · rw [if_neg c13] at h
              have e24 : decide (a0_3 ≤ 400) = false := decide_eq_false c13
              simp only [Nat.reduceEqDiff, Nat.reduceAdd, Nat.reduceMul, Nat.reduceLeDiff, Nat.reduceLT, Int.reduceLE, Int.reduceLT, Int.reduceGT, Int.reduceGE, Int.reduceEq, Int.reduceNe, Int.reduceToNat, reduceCtorEq, ak, e24]
              refine hJ2 _ ?_
              obtain rfl := Option.some.inj h
              refine hKr _ ⟨_, rfl, [], _, rfl, rfl, ?_⟩
              first | rfl | (simp only [reduceCtorEq, Nat.reduceEqDiff, ak, akF, e4, e6, e8, e10, e12, e24]; done) | (simp [reduceCtorEq, Nat.reduceEqDiff, ak, akF, e4, e6, e8, e10, e12, e24]; done)
          · rw [if_neg c11] at h
            have e25 : decide (a0_3 ≥ a0_2) = false := decide_eq_false c11
            simp only [Nat.reduceEqDiff, Nat.reduceAdd, Nat.reduceMul, Nat.reduceLeDiff, Nat.reduceLT, Int.reduceLE, Int.reduceLT, Int.reduceGT, Int.reduceGE, Int.reduceEq, Int.reduceNe, Int.reduceToNat, reduceCtorEq, ak, e25]
            refine hJ2 _ ?_
            obtain rfl := Option.some.inj h
            refine hKr _ ⟨_, rfl, [], _, rfl, rfl, ?_⟩
            first | rfl | (simp only [reduceCtorEq, Nat.reduceEqDiff, ak, akF, e4, e6, e8, e10, e25]; done) | (simp [reduceCtorEq, Nat.reduceEqDiff, ak, akF, e4, e6, e8, e10, e25]; done)
        · rw [if_neg c9] at h
          have e26 : decide (a0_2 ≤ 50) = false := decide_eq_false c9
          simp only [Nat.reduceEqDiff, Nat.reduceAdd, Nat.reduceMul, Nat.reduceLeDiff, Nat.reduceLT, Int.reduceLE, Int.reduceLT, Int.reduceGT, Int.reduceGE, Int.reduceEq, Int.reduceNe, Int.reduceToNat, reduceCtorEq, ak, e26]
          refine hJ2 _ ?_
          obtain rfl := Option.some.inj h
          refine hKr _ ⟨_, rfl, [], _, rfl, rfl, ?_⟩
          first | rfl | (simp only [reduceCtorEq, Nat.reduceEqDiff, ak, akF, e4, e6, e8, e26]; done) | (simp [reduceCtorEq, Nat.reduceEqDiff, ak, akF, e4, e6, e8, e26]; done)
      · rw [if_neg c7] at h
        have e27 : decide (a0_2 ≥ 1) = false := decide_eq_false c7
        simp only [Nat.reduceEqDiff, Nat.reduceAdd, Nat.reduceMul, Nat.reduceLeDiff, Nat.reduceLT, Int.reduceLE, Int.reduceLT, Int.reduceGT, Int.reduceGE, Int.reduceEq, Int.reduceNe, Int.reduceToNat, reduceCtorEq, ak, e27]
        refine hJ2 _ ?_
        obtain rfl := Option.some.inj h
        refine hKr _ ⟨_, rfl, [], _, rfl, rfl, ?_⟩
        first | rfl | (simp only [reduceCtorEq, Nat.reduceEqDiff, ak, akF, e4, e6, e27]; done) | (simp [reduceCtorEq, Nat.reduceEqDiff, ak, akF, e4, e6, e27]; done)
    · rw [if_neg c5] at h
      have e28 : decide (a0_1 ≤ 16) = false := decide_eq_false c5
      simp only [Nat.reduceEqDiff, Nat.reduceAdd, Nat.reduceMul, Nat.reduceLeDiff, Nat.reduceLT, Int.reduceLE, Int.reduceLT, Int.reduceGT, Int.reduceGE, Int.reduceEq, Int.reduceNe, Int.reduceToNat, reduceCtorEq, ak, e28]
      refine hJ2 _ ?_
      obtain rfl := Option.some.inj h
      refine hKr _ ⟨_, rfl, [], _, rfl, rfl, ?_⟩
      first | rfl | (simp only [reduceCtorEq, Nat.reduceEqDiff, ak, akF, e4, e28]; done) | (simp [reduceCtorEq, Nat.reduceEqDiff, ak, akF, e4, e28]; done)
  · rw [if_neg c3] at h
    have e29 : decide (a0_1 ≥ 1) = false := decide_eq_false c3
    simp only [Nat.reduceEqDiff, Nat.reduceAdd, Nat.reduceMul, Nat.reduceLeDiff, Nat.reduceLT, Int.reduceLE, Int.reduceLT, Int.reduceGT, Int.reduceGE, Int.reduceEq, Int.reduceNe, Int.reduceToNat, reduceCtorEq, ak, e29]
    refine hJ2 _ ?_
    obtain rfl := Option.some.inj h
    refine hKr _ ⟨_, rfl, [], _, rfl, rfl, ?_⟩
    first | rfl | (simp only [reduceCtorEq, Nat.reduceEqDiff, ak, akF, e29]; done) | (simp [reduceCtorEq, Nat.reduceEqDiff, ak, akF, e29]; done)
/-! ### impl.newSender: function 132 -/
def c132 : AC := .seq (.reg [.op none (.box 1 (.tmp 0)), .op none (.mv 2 (.const (.pointer none))), .keep [1]]) (.seq (.reg [.op none (.load 3 true 6 (.tmp 1)), .op none (.faddr 4 0 (.tmp 1)), .op none (.load 5 false 1 (.tmp 4)), .op none (.faddr 6 2 (.tmp 1)), .op none (.load 7 false 1 (.tmp 6)), .op none (.build 8 [.int .u32 0, .int .i64 0, .int .i64 0, .int .i64 0, .int .i64 0, .int .i64 0, .int .u32 0, .slice none 0 0, .int .i64 0, .int .i64 0, .int .i64 0, .int .i64 0, .bool false] [(0, 6, .tmp 3), (6, 1, .tmp 5), (9, 1, .tmp 7)]), .gh, .op none (.box 9 (.tmp 8)), .op none (.mv 2 (.tmp 9)), .keep [2]]) (.ret))
def r132 : List RV := [.tmp 2]
theorem k132 : compC Try.prog 10 c132 (Try.f132.body.getD .skip) = some c132.erase := by kernel_rfl
theorem q132 : rvsOf Try.prog Try.f132.results.toList = some r132 := by kernel_rfl
def impl_newSender.f (a0_0 : Int) (a0_1 : Int) (a0_2 : Int) (a0_3 : Int) (a0_4 : Int) (a0_5 : Int) : Option (Int × Int × Int × Int × Int × Int × Int × (List Int) × Int × Int × Int × Int × Bool) := (some (a0_0, a0_1, a0_2, a0_3, a0_4, a0_5, a0_0, ([] : List Int), 0, a0_2, 0, 0, false))
set_option maxRecDepth 100000 in
set_option maxHeartbeats 4000000 in
theorem impl_newSender.tri (a0_0 : Int) (a0_1 : Int) (a0_2 : Int) (a0_3 : Int) (a0_4 : Int) (a0_5 : Int) (r : (Int × Int × Int × Int × Int × Int × Int × (List Int) × Int × Int × Int × Int × Bool)) (h : impl_newSender.f a0_0 a0_1 a0_2 a0_3 a0_4 a0_5 = some r) : Tri Try.prog 132 [.g [.sc (.int .u32 a0_0), .sc (.int .i64 a0_1), .sc (.int .i64 a0_2), .sc (.int .i64 a0_3), .sc (.int .i64 a0_4), .sc (.int .i64 a0_5)]] [] (fun o => o = ⟨.c (.ptr (.res 0) [] 0), [(.res 0, ⟨.box, 0, [.sc (.int .u32 r.1), .sc (.int .i64 r.2.1), .sc (.int .i64 r.2.2.1), .sc (.int .i64 r.2.2.2.1), .sc (.int .i64 r.2.2.2.2.1), .sc (.int .i64 r.2.2.2.2.2.1), .sc (.int .u32 r.2.2.2.2.2.2.1), .own 1 r.2.2.2.2.2.2.2.1.length (encL c_i64 r.2.2.2.2.2.2.2.1), .sc (.int .i64 r.2.2.2.2.2.2.2.2.1), .sc (.int .i64 r.2.2.2.2.2.2.2.2.2.1), .sc (.int .i64 r.2.2.2.2.2.2.2.2.2.2.1), .sc (.int .i64 r.2.2.2.2.2.2.2.2.2.2.2.1), .sc (.bool r.2.2.2.2.2.2.2.2.2.2.2.2)]⟩)], [], []⟩) := by
  refine tri_of_body (ac := c132) (xs := r132) Try.func132 (show Try.f132.body = some (Try.f132.body.getD .skip) from rfl) k132 q132 (Nat.le_of_ble_eq_true rfl) ?_
  refine body_of fun K hKn hKr => ?_
  unfold impl_newSender.f at h
  unfold c132
  simp only [initT, Nat.reduceAdd]
  refine seq_k fun J1 hJ1 => ?_
  refine reg_k ?_
  simp only [Nat.reduceEqDiff, Nat.reduceAdd, Nat.reduceMul, Nat.reduceLeDiff, Nat.reduceLT, Int.reduceLE, Int.reduceLT, Int.reduceGT, Int.reduceGE, Int.reduceEq, Int.reduceNe, Int.reduceToNat, reduceCtorEq, ak]
  refine hJ1 _ ?_
  refine seq_k fun J2 hJ2 => ?_
  refine reg_k ?_
  simp only [Nat.reduceEqDiff, Nat.reduceAdd, Nat.reduceMul, Nat.reduceLeDiff, Nat.reduceLT, Int.reduceLE, Int.reduceLT, Int.reduceGT, Int.reduceGE, Int.reduceEq, Int.reduceNe, Int.reduceToNat, reduceCtorEq, ak]
  refine gho_k (Weak.nmg' 8 7 (.tmp 8 27) 1 (encL c_i64 ([] : List Int)) rfl rfl rfl rfl) ?_
  have g3 : (encL c_i64 ([] : List Int)).length = 0 * 1 := by simp [encL_length c_i64_w]
  simp only [Nat.reduceEqDiff, Nat.reduceAdd, Nat.reduceMul, Nat.reduceLeDiff, Nat.reduceLT, Int.reduceLE, Int.reduceLT, Int.reduceGT, Int.reduceGE, Int.reduceEq, Int.reduceNe, Int.reduceToNat, reduceCtorEq, ak, g3]
  refine hJ2 _ ?_
  obtain rfl := Option.some.inj h
  refine hKr _ ⟨_, rfl, [⟨(.tmp 9 0), [], none, .box⟩], _, rfl, rfl, ?_⟩
  first | rfl | (simp only [reduceCtorEq, Nat.reduceEqDiff, ak, akF]; done) | (simp [reduceCtorEq, Nat.reduceEqDiff, ak, akF]; done)
/-! ### (*impl.sender).next: function 134 -/
def c134 : AC := .seq (.reg [.op none (.mv 2 (.const (.int .u32 0))), .keep [0]]) (.seq (.regD (.first (.op none (.mv 3 (.tmp 0))) (.first (.op none (.nilc 4 (.tmp 3))) (.first (.op none (.faddr 5 6 (.tmp 4))) (.first (.op none (.load 6 false 1 (.tmp 5))) (.first (.op none (.mv 7 (.tmp 0))) (.first (.op none (.nilc 8 (.tmp 7))) (.first (.op none (.faddr 9 7 (.tmp 8))) (.first (.op none (.load 10 false 1 (.tmp 9))) (.first (.op none (.len 11 (.tmp 10))) (.first (.op none (.conv 12 .u32 (.tmp 11))) (.first (.op none (.bin 13 .add (.tmp 6) (.tmp 12))) (.first (.op none (.mv 2 (.tmp 13))) (.done))))))))))))) [2]) (.ret))
def r134 : List RV := [.tmp 2]
theorem k134 : compC Try.prog 14 c134 (Try.f134.body.getD .skip) = some c134.erase := by kernel_rfl
theorem q134 : rvsOf Try.prog Try.f134.results.toList = some r134 := by kernel_rfl
def impl_sender_next.f (a0_0 : Int) (a0_1 : Int) (a0_2 : Int) (a0_3 : Int) (a0_4 : Int) (a0_5 : Int) (a0_6 : Int) (l0_7 : List Int) (a0_8 : Int) (a0_9 : Int) (a0_10 : Int) (a0_11 : Int) (a0_12 : Bool) : Option Int := (some (IntKind.u32.wrap (a0_6 + (IntKind.u32.wrap (l0_7.length : Int)))))
set_option maxRecDepth 100000 in
set_option maxHeartbeats 4000000 in
theorem impl_sender_next.tri (a0_0 : Int) (a0_1 : Int) (a0_2 : Int) (a0_3 : Int) (a0_4 : Int) (a0_5 : Int) (a0_6 : Int) (l0_7 : List Int) (a0_8 : Int) (a0_9 : Int) (a0_10 : Int) (a0_11 : Int) (a0_12 : Bool) (r : Int) (h : impl_sender_next.f a0_0 a0_1 a0_2 a0_3 a0_4 a0_5 a0_6 l0_7 a0_8 a0_9 a0_10 a0_11 a0_12 = some r) : Tri Try.prog 134 [.c (.ptr (.arg 0) [] 0)] [(.arg 0, ⟨.box, 0, [.sc (.int .u32 a0_0), .sc (.int .i64 a0_1), .sc (.int .i64 a0_2), .sc (.int .i64 a0_3), .sc (.int .i64 a0_4), .sc (.int .i64 a0_5), .sc (.int .u32 a0_6), .own 1 l0_7.length (encL c_i64 l0_7), .sc (.int .i64 a0_8), .sc (.int .i64 a0_9), .sc (.int .i64 a0_10), .sc (.int .i64 a0_11), .sc (.bool a0_12)]⟩)] (fun o => o = ⟨.c (.sc (.int .u32 r)), [(.arg 0, ⟨.box, 0, [.sc (.int .u32 a0_0), .sc (.int .i64 a0_1), .sc (.int .i64 a0_2), .sc (.int .i64 a0_3), .sc (.int .i64 a0_4), .sc (.int .i64 a0_5), .sc (.int .u32 a0_6), .own 1 l0_7.length (encL c_i64 l0_7), .sc (.int .i64 a0_8), .sc (.int .i64 a0_9), .sc (.int .i64 a0_10), .sc (.int .i64 a0_11), .sc (.bool a0_12)]⟩)], [], []⟩) := by
  refine tri_of_body (ac := c134) (xs := r134) Try.func134 (show Try.f134.body = some (Try.f134.body.getD .skip) from rfl) k134 q134 (Nat.le_of_ble_eq_true rfl) ?_
  refine body_of fun K hKn hKr => ?_
  unfold impl_sender_next.f at h
  unfold c134
  simp only [initT, Nat.reduceAdd]
  refine seq_k fun J1 hJ1 => ?_
  refine reg_k ?_
  simp only [Nat.reduceEqDiff, Nat.reduceAdd, Nat.reduceMul, Nat.reduceLeDiff, Nat.reduceLT, Int.reduceLE, Int.reduceLT, Int.reduceGT, Int.reduceGE, Int.reduceEq, Int.reduceNe, Int.reduceToNat, reduceCtorEq, ak]
  refine hJ1 _ ?_
  refine seq_k fun J2 hJ2 => ?_
  refine regD_k ?_
  simp only [Nat.reduceBEq, Nat.reduceEqDiff, Nat.reduceAdd, Nat.reduceMul, Nat.reduceLeDiff, Nat.reduceLT, Int.reduceLE, Int.reduceLT, Int.reduceGT, Int.reduceGE, Int.reduceEq, Int.reduceNe, Int.reduceToNat, reduceCtorEq, ak]
  refine hJ2 _ ?_
  obtain rfl := Option.some.inj h
  refine hKr _ ⟨_, rfl, [], _, rfl, rfl, ?_⟩
  first | rfl | (simp only [reduceCtorEq, Nat.reduceEqDiff, ak, akF]; done) | (simp [reduceCtorEq, Nat.reduceEqDiff, ak, akF]; done)
/-! ### (impl.sendTag).happen: function 180 -/
def c180 : AC := .seq (.reg [.op none (.box 2 (.tmp 0)), .op none (.alloc 4 [.int .i64 0, .slice none 0 0, .slice none 0 0, .int .i64 0, .int .i64 0]), .gh, .keep [1, 2, 4]]) (.seq (.seq (.reg [.op none (.mv 6 (.tmp 1)), .op none (.nilc 7 (.tmp 6)), .op none (.faddr 8 12 (.tmp 7)), .op none (.load 9 false 1 (.tmp 8)), .keep [1, 2, 4, 9]]) (.cond (.tmp 9) (.seq (.reg [.op none (.build 10 [.int .i64 0, .slice none 0 0, .slice none 0 0, .int .i64 0, .int .i64 0] [(0, 1, .const (.int .i64 10))]), .gh, .op none (.store 5 (.tmp 4) (.tmp 10)), .keep [4]]) (.gh .ret)) (.skip))) (.seq (.seq (.regD (.first (.op none (.mv 11 (.tmp 1))) (.first (.op none (.nilc 12 (.tmp 11))) (.first (.op none (.faddr 13 7 (.tmp 12))) (.first (.op none (.load 14 false 1 (.tmp 13))) (.first (.op none (.len 15 (.tmp 14))) (.first (.op none (.mv 16 (.tmp 1))) (.first (.op none (.nilc 17 (.tmp 16))) (.first (.op none (.faddr 18 0 (.tmp 17))) (.first (.op none (.faddr 19 1 (.tmp 18))) (.first (.op none (.load 20 false 1 (.tmp 19))) (.first (.op none (.bin 21 .geq (.tmp 15) (.tmp 20))) (.done)))))))))))) [1, 2, 4, 21]) (.cond (.tmp 21) (.seq (.reg [.op none (.build 22 [.int .i64 0, .slice none 0 0, .slice none 0 0, .int .i64 0, .int .i64 0] [(0, 1, .const (.int .i64 9))]), .gh, .op none (.store 5 (.tmp 4) (.tmp 22)), .keep [4]]) (.gh .ret)) (.skip))) (.seq (.ga (.regD (.first (.op none (.mv 23 (.tmp 1))) (.first (.op none (.faddr 25 0 (.tmp 2))) (.pin [6, 4] (.op none (.load 26 false 1 (.tmp 25))) (.alt (.call none (some 24) 134 [.tmp 23]) none (.pin [6] (.op none (.build 27 [.int .i64 0, .int .u32 0, .int .i64 0] [(0, 1, .const (.int .i64 1)), (1, 1, .tmp 24), (2, 1, .tmp 26)])) (.alt (.op none (.alloc 5 [.int .i64 0, .int .u32 0, .int .i64 0])) none (.alt (.op none (.store 3 (.tmp 5) (.tmp 27))) (some 6) (.done) (.stop)) (.stop))) (.alt (.op none (.alloc 5 [.int .i64 0, .int .u32 0, .int .i64 0])) none (.alt (.call none (some 24) 134 [.tmp 23]) none (.pin [6] (.op none (.build 27 [.int .i64 0, .int .u32 0, .int .i64 0] [(0, 1, .const (.int .i64 1)), (1, 1, .tmp 24), (2, 1, .tmp 26)])) (.alt (.op none (.store 3 (.tmp 5) (.tmp 27))) (some 6) (.done) (.stop))) (.stop)) (.stop)))))) [1, 2, 4, 5])) (.seq (.regD (.first (.op none (.mv 28 (.tmp 1))) (.first (.op none (.mv 29 (.tmp 1))) (.first (.op none (.nilc 30 (.tmp 29))) (.first (.op none (.faddr 31 7 (.tmp 30))) (.first (.op none (.load 32 false 1 (.tmp 31))) (.first (.op none (.faddr 33 0 (.tmp 2))) (.first (.op none (.load 34 false 1 (.tmp 33))) (.alt (.op none (.bslice 35 1 [.int .i64 0] 1 [(0, .tmp 34)])) none (.alt (.op none (.app 36 1 8 false (.tmp 32) (.tmp 35))) none (.first (.op none (.nilc 37 (.tmp 28))) (.first (.op none (.faddr 38 7 (.tmp 37))) (.alt (.op none (.store 1 (.tmp 38) (.tmp 36))) none (.done) (.stop)))) (.stop)) (.stop))))))))) [1, 4, 5]) (.seq (.ga (.seq (.reg [.op none (.mv 39 (.tmp 1)), .op none (.nilc 40 (.tmp 39)), .op none (.faddr 41 8 (.tmp 40)), .op none (.load 42 false 1 (.tmp 41)), .op none (.bin 43 .eql (.tmp 42) (.const (.int .i64 0))), .keep [1, 4, 5, 43]]) (.cond (.tmp 43) (.reg [.op none (.mv 44 (.tmp 1)), .op none (.mv 45 (.tmp 1)), .op none (.nilc 46 (.tmp 45)), .op none (.faddr 47 9 (.tmp 46)), .op none (.load 48 false 1 (.tmp 47)), .op none (.nilc 49 (.tmp 44)), .op none (.faddr 50 8 (.tmp 49)), .op none (.store 1 (.tmp 50) (.tmp 48)), .keep [4, 5]]) (.skip)))) (.seq (.reg [.op none (.load 51 true 3 (.tmp 5)), .op none (.bslice 52 3 [.int .i64 0, .int .u32 0, .int .i64 0] 1 [(0, .tmp 51)]), .op none (.build 53 [.int .i64 0, .slice none 0 0, .slice none 0 0, .int .i64 0, .int .i64 0] [(1, 1, .tmp 52)]), .gh, .op none (.store 5 (.tmp 4) (.tmp 53)), .keep [4]]) (.gh .ret)))))))
def r180 : List RV := [.cell 4 true 5]
theorem k180 : compC Try.prog 54 c180 (Try.f180.body.getD .skip) = some c180.erase := by kernel_rfl
theorem q180 : rvsOf Try.prog Try.f180.results.toList = some r180 := by kernel_rfl
def impl_sendTag_happen.f (a0_0 : Int) (a1_0 : Int) (a1_1 : Int) (a1_2 : Int) (a1_3 : Int) (a1_4 : Int) (a1_5 : Int) (a1_6 : Int) (l1_7 : List Int) (a1_8 : Int) (a1_9 : Int) (a1_10 : Int) (a1_11 : Int) (a1_12 : Bool) : Option (Int × (List S68) × (List Int) × Int × Int × (List Int) × Int) := (if a1_12 = true then (some (10, ([] : List S68), ([] : List Int), 0, 0, l1_7, a1_8)) else (if (l1_7.length : Int) ≥ a1_1 then (some (9, ([] : List S68), ([] : List Int), 0, 0, l1_7, a1_8)) else ((impl_sender_next.f a1_0 a1_1 a1_2 a1_3 a1_4 a1_5 a1_6 l1_7 a1_8 a1_9 a1_10 a1_11 a1_12 >>= fun t18 => (some t18)) >>= fun (j14 : Int) => (if (l1_7.length + 1) * 8 ≤ 140737488355328 then ((if a1_8 = 0 then (some a1_9) else (some a1_8)) >>= fun (j60 : Int) => (some (0, ([(⟨1, j14, a0_0⟩ : S68)] : List S68), ([] : List Int), 0, 0, (l1_7 ++ ([a0_0] : List Int)), j60))) else none))))
set_option maxRecDepth 100000 in
set_option maxHeartbeats 4000000 in
theorem impl_sendTag_happen.tri (a0_0 : Int) (a1_0 : Int) (a1_1 : Int) (a1_2 : Int) (a1_3 : Int) (a1_4 : Int) (a1_5 : Int) (a1_6 : Int) (l1_7 : List Int) (a1_8 : Int) (a1_9 : Int) (a1_10 : Int) (a1_11 : Int) (a1_12 : Bool) (r : Int × (List S68) × (List Int) × Int × Int × (List Int) × Int) (h : impl_sendTag_happen.f a0_0 a1_0 a1_1 a1_2 a1_3 a1_4 a1_5 a1_6 l1_7 a1_8 a1_9 a1_10 a1_11 a1_12 = some r) : Tri Try.prog 180 [.g [.sc (.int .i64 a0_0)], .c (.ptr (.arg 0) [] 0)] [(.arg 0, ⟨.box, 0, [.sc (.int .u32 a1_0), .sc (.int .i64 a1_1), .sc (.int .i64 a1_2), .sc (.int .i64 a1_3), .sc (.int .i64 a1_4), .sc (.int .i64 a1_5), .sc (.int .u32 a1_6), .own 1 l1_7.length (encL c_i64 l1_7), .sc (.int .i64 a1_8), .sc (.int .i64 a1_9), .sc (.int .i64 a1_10), .sc (.int .i64 a1_11), .sc (.bool a1_12)]⟩)] (fun o => o = ⟨.g [.sc (.int .i64 r.1), .ref (.res 0) [] 0 r.2.1.length, .ref (.res 1) [] 0 r.2.2.1.length, .sc (.int .i64 r.2.2.2.1), .sc (.int .i64 r.2.2.2.2.1)], [(.arg 0, ⟨.box, 0, [.sc (.int .u32 a1_0), .sc (.int .i64 a1_1), .sc (.int .i64 a1_2), .sc (.int .i64 a1_3), .sc (.int .i64 a1_4), .sc (.int .i64 a1_5), .sc (.int .u32 a1_6), .own 1 r.2.2.2.2.2.1.length (encL c_i64 r.2.2.2.2.2.1), .sc (.int .i64 r.2.2.2.2.2.2), .sc (.int .i64 a1_9), .sc (.int .i64 a1_10), .sc (.int .i64 a1_11), .sc (.bool a1_12)]⟩), (.res 0, ⟨.lst, 3, encL c68 r.2.1⟩), (.res 1, ⟨.lst, 1, encL c_i64 r.2.2.1⟩)], [0], []⟩) := by
  refine tri_of_body (ac := c180) (xs := r180) Try.func180 (show Try.f180.body = some (Try.f180.body.getD .skip) from rfl) k180 q180 (Nat.le_of_ble_eq_true rfl) ?_
  refine body_of fun K hKn hKr => ?_
  unfold impl_sendTag_happen.f at h
  unfold c180
  simp only [initT, Nat.reduceAdd]
  refine seq_k fun J1 hJ1 => ?_
  refine reg_k ?_
  simp only [Nat.reduceEqDiff, Nat.reduceAdd, Nat.reduceMul, Nat.reduceLeDiff, Nat.reduceLT, Int.reduceLE, Int.reduceLT, Int.reduceGT, Int.reduceGE, Int.reduceEq, Int.reduceNe, Int.reduceToNat, reduceCtorEq, ak]
  refine gho_k (Weak.own (.tmp 4 0) (cs' := [.sc (.int .i64 0), .own 3 (([] : List S68).length) (encL c68 ([] : List S68)), .own 1 (([] : List Int).length) (encL c_i64 ([] : List Int)), .sc (.int .i64 0), .sc (.int .i64 0)]) rfl ⟨.inl rfl, .inr ⟨rfl, _, rfl⟩, .inr ⟨rfl, _, rfl⟩, .inl rfl, .inl rfl, trivial⟩) ?_
  simp only [Nat.reduceEqDiff, Nat.reduceAdd, Nat.reduceMul, Nat.reduceLeDiff, Nat.reduceLT, Int.reduceLE, Int.reduceLT, Int.reduceGT, Int.reduceGE, Int.reduceEq, Int.reduceNe, Int.reduceToNat, reduceCtorEq, ak]
  refine hJ1 _ ?_
  refine seq_k fun J2 hJ2 => ?_
  refine seq_k fun J3 hJ3 => ?_
  refine reg_k ?_
  simp only [Nat.reduceEqDiff, Nat.reduceAdd, Nat.reduceMul, Nat.reduceLeDiff, Nat.reduceLT, Int.reduceLE, Int.reduceLT, Int.reduceGT, Int.reduceGE, Int.reduceEq, Int.reduceNe, Int.reduceToNat, reduceCtorEq, ak]
  refine hJ3 _ ?_
  refine cond_k (b := a1_12) rfl (fun c4 => ?_) (fun c4 => ?_)
  · rw [if_pos c4] at h
    refine seq_k fun J5 hJ5 => ?_
    refine reg_k ?_
    simp only [Nat.reduceEqDiff, Nat.reduceAdd, Nat.reduceMul, Nat.reduceLeDiff, Nat.reduceLT, Int.reduceLE, Int.reduceLT, Int.reduceGT, Int.reduceGE, Int.reduceEq, Int.reduceNe, Int.reduceToNat, reduceCtorEq, ak]
    refine gho_k ((Weak.nmg' 10 1 (.tmp 10 21) 3 (encL c68 ([] : List S68)) rfl rfl rfl rfl).trans (Weak.nmg' 10 2 (.tmp 10 22) 1 (encL c_i64 ([] : List Int)) rfl rfl rfl rfl)) ?_
    have g6 : (encL c68 ([] : List S68)).length = 0 * 3 := by simp [encL_length c68_w]
    have g7 : (encL c_i64 ([] : List Int)).length = 0 * 1 := by simp [encL_length c_i64_w]
    simp only [Nat.reduceEqDiff, Nat.reduceAdd, Nat.reduceMul, Nat.reduceLeDiff, Nat.reduceLT, Int.reduceLE, Int.reduceLT, Int.reduceGT, Int.reduceGE, Int.reduceEq, Int.reduceNe, Int.reduceToNat, reduceCtorEq, ak, g6, g7]
    refine hJ5 _ ?_
    refine gh_k (Weak.mark [0] [] (by simp) (by simp)) ?_
    obtain rfl := Option.some.inj h
    refine hKr _ ⟨_, rfl, [⟨(.tmp 4 0), [1], none, .lst⟩, ⟨(.tmp 4 0), [2], none, .lst⟩], _, rfl, rfl, ?_⟩
    first | rfl | (simp only [reduceCtorEq, Nat.reduceEqDiff, ak, akF]; done) | (simp [reduceCtorEq, Nat.reduceEqDiff, ak, akF]; done)
  · rw [if_neg (Bool.eq_false_iff.1 c4)] at h
    refine hJ2 _ ?_
    refine seq_k fun J8 hJ8 => ?_
    refine seq_k fun J9 hJ9 => ?_
    refine regD_k ?_
    simp only [Nat.reduceBEq, Nat.reduceEqDiff, Nat.reduceAdd, Nat.reduceMul, Nat.reduceLeDiff, Nat.reduceLT, Int.reduceLE, Int.reduceLT, Int.reduceGT, Int.reduceGE, Int.reduceEq, Int.reduceNe, Int.reduceToNat, reduceCtorEq, ak]
    refine hJ9 _ ?_
    refine cond_k (b := decide ((l1_7.length : Int) ≥ a1_1)) rfl (fun c10 => ?_) (fun c10 => ?_)
    · replace c10 := of_decide_eq_true c10; rw [if_pos c10] at h
      refine seq_k fun J11 hJ11 => ?_
      refine reg_k ?_
      simp only [Nat.reduceEqDiff, Nat.reduceAdd, Nat.reduceMul, Nat.reduceLeDiff, Nat.reduceLT, Int.reduceLE, Int.reduceLT, Int.reduceGT, Int.reduceGE, Int.reduceEq, Int.reduceNe, Int.reduceToNat, reduceCtorEq, ak]
      refine gho_k ((Weak.nmg' 22 1 (.tmp 22 21) 3 (encL c68 ([] : List S68)) rfl rfl rfl rfl).trans (Weak.nmg' 22 2 (.tmp 22 22) 1 (encL c_i64 ([] : List Int)) rfl rfl rfl rfl)) ?_
      have g12 : (encL c68 ([] : List S68)).length = 0 * 3 := by simp [encL_length c68_w]
      have g13 : (encL c_i64 ([] : List Int)).length = 0 * 1 := by simp [encL_length c_i64_w]
      simp only [Nat.reduceEqDiff, Nat.reduceAdd, Nat.reduceMul, Nat.reduceLeDiff, Nat.reduceLT, Int.reduceLE, Int.reduceLT, Int.reduceGT, Int.reduceGE, Int.reduceEq, Int.reduceNe, Int.reduceToNat, reduceCtorEq, ak, g12, g13]
      refine hJ11 _ ?_
      refine gh_k (Weak.mark [0] [] (by simp) (by simp)) ?_
      obtain rfl := Option.some.inj h
      refine hKr _ ⟨_, rfl, [⟨(.tmp 4 0), [1], none, .lst⟩, ⟨(.tmp 4 0), [2], none, .lst⟩], _, rfl, rfl, ?_⟩
      first | rfl | (simp only [reduceCtorEq, Nat.reduceEqDiff, ak, akF]; done) | (simp [reduceCtorEq, Nat.reduceEqDiff, ak, akF]; done)
    · replace c10 := of_decide_eq_false c10; rw [if_neg c10] at h
      refine hJ8 _ ?_
      obtain ⟨j14, h15, hn⟩ := of_bind h
      refine seq_j (fun st => st = ⟨[(1, .c (.ptr (.arg 0) [] 0)), (2, .c (.ptr (.tmp 2 0) [] 0)), (4, .c (.ptr (.tmp 4 0) [] 0)), (5, .c (.ptr (.tmp 5 0) [] 0))], [(.arg 0, ⟨.box, 0, [.sc (.int .u32 a1_0), .sc (.int .i64 a1_1), .sc (.int .i64 a1_2), .sc (.int .i64 a1_3), .sc (.int .i64 a1_4), .sc (.int .i64 a1_5), .sc (.int .u32 a1_6), .own 1 l1_7.length (encL c_i64 l1_7), .sc (.int .i64 a1_8), .sc (.int .i64 a1_9), .sc (.int .i64 a1_10), .sc (.int .i64 a1_11), .sc (.bool a1_12)]⟩), (.tmp 2 0, ⟨.box, 0, [.sc (.int .i64 a0_0)]⟩), (.tmp 4 0, ⟨.box, 0, [.sc (.int .i64 0), .own 3 (([] : List S68).length) (encL c68 ([] : List S68)), .own 1 (([] : List Int).length) (encL c_i64 ([] : List Int)), .sc (.int .i64 0), .sc (.int .i64 0)]⟩), (.tmp 5 0, ⟨.box, 0, [.sc (.int .i64 1), .sc (.int .u32 j14), .sc (.int .i64 a0_0)]⟩)], [], []⟩) (fun J16 hJ16 => ?_) ?_
      · replace h := h15; clear hn
        refine ga_k fun G17 G17n G17r G17x => ?_
        refine regD_k ?_
        simp only [Nat.reduceBEq, Nat.reduceEqDiff, Nat.reduceAdd, Nat.reduceMul, Nat.reduceLeDiff, Nat.reduceLT, Int.reduceLE, Int.reduceLT, Int.reduceGT, Int.reduceGE, Int.reduceEq, Int.reduceNe, Int.reduceToNat, reduceCtorEq, ak]
        obtain ⟨t18, h19, h⟩ := of_bind h
        refine alt_k ?_ (alt_e ?_)
        · simp only [Nat.reduceBEq, Nat.reduceEqDiff, Nat.reduceAdd, Nat.reduceMul, Nat.reduceLeDiff, Nat.reduceLT, Int.reduceLE, Int.reduceLT, Int.reduceGT, Int.reduceGE, Int.reduceEq, Int.reduceNe, Int.reduceToNat, reduceCtorEq, ak]
          refine call_m [(.arg 0, ⟨(.arg 0), [], none, .box⟩)] (s0 := [(.arg 0, ⟨.box, 0, [.sc (.int .u32 a1_0), .sc (.int .i64 a1_1), .sc (.int .i64 a1_2), .sc (.int .i64 a1_3), .sc (.int .i64 a1_4), .sc (.int .i64 a1_5), .sc (.int .u32 a1_6), .own 1 l1_7.length (encL c_i64 l1_7), .sc (.int .i64 a1_8), .sc (.int .i64 a1_9), .sc (.int .i64 a1_10), .sc (.int .i64 a1_11), .sc (.bool a1_12)]⟩)]) (by intro t ht; cases ht; decide) rfl rfl (by first | rfl | simp only [reduceCtorEq, Nat.reduceEqDiff, ak, akF]) (impl_sender_next.tri a1_0 a1_1 a1_2 a1_3 a1_4 a1_5 a1_6 l1_7 a1_8 a1_9 a1_10 a1_11 a1_12 _ h19) (by first | rfl | simp only [reduceCtorEq, Nat.reduceEqDiff, ak, akF]) (by simp [bkOk2, memK]) (fun hl20 => ?_)
          refine call_st (s4 := [(.arg 0, ⟨.box, 0, [.sc (.int .u32 a1_0), .sc (.int .i64 a1_1), .sc (.int .i64 a1_2), .sc (.int .i64 a1_3), .sc (.int .i64 a1_4), .sc (.int .i64 a1_5), .sc (.int .u32 a1_6), .own 1 l1_7.length (encL c_i64 l1_7), .sc (.int .i64 a1_8), .sc (.int .i64 a1_9), .sc (.int .i64 a1_10), .sc (.int .i64 a1_11), .sc (.bool a1_12)]⟩), (.tmp 2 0, ⟨.box, 0, [.sc (.int .i64 a0_0)]⟩), (.tmp 4 0, ⟨.box, 0, [.sc (.int .i64 0), .own 3 (([] : List S68).length) (encL c68 ([] : List S68)), .own 1 (([] : List Int).length) (encL c_i64 ([] : List Int)), .sc (.int .i64 0), .sc (.int .i64 0)]⟩)]) (m1' := []) (m2' := []) (v' := .c (.sc (.int .u32 t18))) (Sto.mapN_killNil _ _) (mrgL_whole (new' := [.sc (.int .u32 a1_0), .sc (.int .i64 a1_1), .sc (.int .i64 a1_2), .sc (.int .i64 a1_3), .sc (.int .i64 a1_4), .sc (.int .i64 a1_5), .sc (.int .u32 a1_6), .own 1 l1_7.length (encL c_i64 l1_7), .sc (.int .i64 a1_8), .sc (.int .i64 a1_9), .sc (.int .i64 a1_10), .sc (.int .i64 a1_11), .sc (.bool a1_12)]) (mrgL_nil' _ _ _) rfl (by rfl) (.inl ⟨rfl, by first | rfl | simp only [reduceCtorEq, Nat.reduceEqDiff, ak, akF, Nat.zero_add, List.append_nil]⟩)) (by rfl) (mapT_killNil _ _) (by rfl) (by rfl) (by first | rfl | simp only [reduceCtorEq, Nat.reduceEqDiff, ak, akF, Nat.zero_add, List.append_nil]) ?_
          simp only [Nat.reduceBEq, Nat.reduceEqDiff, Nat.reduceAdd, Nat.reduceMul, Nat.reduceLeDiff, Nat.reduceLT, Int.reduceLE, Int.reduceLT, Int.reduceGT, Int.reduceGE, Int.reduceEq, Int.reduceNe, Int.reduceToNat, reduceCtorEq, ak]
          refine alt_e ?_
          · simp only [Nat.reduceBEq, Nat.reduceEqDiff, Nat.reduceAdd, Nat.reduceMul, Nat.reduceLeDiff, Nat.reduceLT, Int.reduceLE, Int.reduceLT, Int.reduceGT, Int.reduceGE, Int.reduceEq, Int.reduceNe, Int.reduceToNat, reduceCtorEq, ak]
            refine alt_e ?_
            · simp only [Nat.reduceBEq, Nat.reduceEqDiff, Nat.reduceAdd, Nat.reduceMul, Nat.reduceLeDiff, Nat.reduceLT, Int.reduceLE, Int.reduceLT, Int.reduceGT, Int.reduceGE, Int.reduceEq, Int.reduceNe, Int.reduceToNat, reduceCtorEq, ak]
              obtain rfl := Option.some.inj h
              refine G17n _ _ (((Weak.keep [1, 2, 4, 5]).trans ((Weak.foc [(.arg 0, ⟨(.arg 0), [], none, .box⟩), (.tmp 2 0, ⟨(.tmp 2 0), [], none, .box⟩), (.tmp 4 0, ⟨(.tmp 4 0), [], none, .box⟩), (.tmp 5 0, ⟨(.tmp 5 0), [], none, .box⟩)] rfl (by first | rfl | simp only [reduceCtorEq, Nat.reduceEqDiff, ak, akF]) (by simp [argK, akG, ak])).trans (Weak.of_eq (by first | rfl | (simp only [reduceCtorEq, Nat.reduceEqDiff, ak, akF]; done) | (simp [reduceCtorEq, Nat.reduceEqDiff, ak, akF]; done)))))) (hJ16 _ rfl)
        · simp only [Nat.reduceBEq, Nat.reduceEqDiff, Nat.reduceAdd, Nat.reduceMul, Nat.reduceLeDiff, Nat.reduceLT, Int.reduceLE, Int.reduceLT, Int.reduceGT, Int.reduceGE, Int.reduceEq, Int.reduceNe, Int.reduceToNat, reduceCtorEq, ak]
          refine alt_e ?_
          · simp only [Nat.reduceBEq, Nat.reduceEqDiff, Nat.reduceAdd, Nat.reduceMul, Nat.reduceLeDiff, Nat.reduceLT, Int.reduceLE, Int.reduceLT, Int.reduceGT, Int.reduceGE, Int.reduceEq, Int.reduceNe, Int.reduceToNat, reduceCtorEq, ak]
            refine call_m [(.arg 0, ⟨(.arg 0), [], none, .box⟩)] (s0 := [(.arg 0, ⟨.box, 0, [.sc (.int .u32 a1_0), .sc (.int .i64 a1_1), .sc (.int .i64 a1_2), .sc (.int .i64 a1_3), .sc (.int .i64 a1_4), .sc (.int .i64 a1_5), .sc (.int .u32 a1_6), .own 1 l1_7.length (encL c_i64 l1_7), .sc (.int .i64 a1_8), .sc (.int .i64 a1_9), .sc (.int .i64 a1_10), .sc (.int .i64 a1_11), .sc (.bool a1_12)]⟩)]) (by intro t ht; cases ht; decide) rfl rfl (by first | rfl | simp only [reduceCtorEq, Nat.reduceEqDiff, ak, akF]) (impl_sender_next.tri a1_0 a1_1 a1_2 a1_3 a1_4 a1_5 a1_6 l1_7 a1_8 a1_9 a1_10 a1_11 a1_12 _ h19) (by first | rfl | simp only [reduceCtorEq, Nat.reduceEqDiff, ak, akF]) (by simp [bkOk2, memK]) (fun hl22 => ?_)
            refine call_st (s4 := [(.arg 0, ⟨.box, 0, [.sc (.int .u32 a1_0), .sc (.int .i64 a1_1), .sc (.int .i64 a1_2), .sc (.int .i64 a1_3), .sc (.int .i64 a1_4), .sc (.int .i64 a1_5), .sc (.int .u32 a1_6), .own 1 l1_7.length (encL c_i64 l1_7), .sc (.int .i64 a1_8), .sc (.int .i64 a1_9), .sc (.int .i64 a1_10), .sc (.int .i64 a1_11), .sc (.bool a1_12)]⟩), (.tmp 2 0, ⟨.box, 0, [.sc (.int .i64 a0_0)]⟩), (.tmp 4 0, ⟨.box, 0, [.sc (.int .i64 0), .own 3 (([] : List S68).length) (encL c68 ([] : List S68)), .own 1 (([] : List Int).length) (encL c_i64 ([] : List Int)), .sc (.int .i64 0), .sc (.int .i64 0)]⟩), (.tmp 5 0, ⟨.box, 0, [.sc (.int .i64 0), .sc (.int .u32 0), .sc (.int .i64 0)]⟩)]) (m1' := []) (m2' := []) (v' := .c (.sc (.int .u32 t18))) (Sto.mapN_killNil _ _) (mrgL_whole (new' := [.sc (.int .u32 a1_0), .sc (.int .i64 a1_1), .sc (.int .i64 a1_2), .sc (.int .i64 a1_3), .sc (.int .i64 a1_4), .sc (.int .i64 a1_5), .sc (.int .u32 a1_6), .own 1 l1_7.length (encL c_i64 l1_7), .sc (.int .i64 a1_8), .sc (.int .i64 a1_9), .sc (.int .i64 a1_10), .sc (.int .i64 a1_11), .sc (.bool a1_12)]) (mrgL_nil' _ _ _) rfl (by rfl) (.inl ⟨rfl, by first | rfl | simp only [reduceCtorEq, Nat.reduceEqDiff, ak, akF, Nat.zero_add, List.append_nil]⟩)) (by rfl) (mapT_killNil _ _) (by rfl) (by rfl) (by first | rfl | simp only [reduceCtorEq, Nat.reduceEqDiff, ak, akF, Nat.zero_add, List.append_nil]) ?_
            simp only [Nat.reduceBEq, Nat.reduceEqDiff, Nat.reduceAdd, Nat.reduceMul, Nat.reduceLeDiff, Nat.reduceLT, Int.reduceLE, Int.reduceLT, Int.reduceGT, Int.reduceGE, Int.reduceEq, Int.reduceNe, Int.reduceToNat, reduceCtorEq, ak]
            refine alt_e ?_
            · simp only [Nat.reduceBEq, Nat.reduceEqDiff, Nat.reduceAdd, Nat.reduceMul, Nat.reduceLeDiff, Nat.reduceLT, Int.reduceLE, Int.reduceLT, Int.reduceGT, Int.reduceGE, Int.reduceEq, Int.reduceNe, Int.reduceToNat, reduceCtorEq, ak]
              obtain rfl := Option.some.inj h
              refine G17n _ _ (((Weak.keep [1, 2, 4, 5]).trans ((Weak.foc [(.arg 0, ⟨(.arg 0), [], none, .box⟩), (.tmp 2 0, ⟨(.tmp 2 0), [], none, .box⟩), (.tmp 4 0, ⟨(.tmp 4 0), [], none, .box⟩), (.tmp 5 0, ⟨(.tmp 5 0), [], none, .box⟩)] rfl (by first | rfl | simp only [reduceCtorEq, Nat.reduceEqDiff, ak, akF]) (by simp [argK, akG, ak])).trans (Weak.of_eq (by first | rfl | (simp only [reduceCtorEq, Nat.reduceEqDiff, ak, akF]; done) | (simp [reduceCtorEq, Nat.reduceEqDiff, ak, akF]; done)))))) (hJ16 _ rfl)
      · replace h := hn; clear hn h15
        rintro _ rfl
        refine seq_k fun J24 hJ24 => ?_
        refine regD_k ?_
        simp only [Nat.reduceBEq, Nat.reduceEqDiff, Nat.reduceAdd, Nat.reduceMul, Nat.reduceLeDiff, Nat.reduceLT, Int.reduceLE, Int.reduceLT, Int.reduceGT, Int.reduceGE, Int.reduceEq, Int.reduceNe, Int.reduceToNat, reduceCtorEq, ak]
        obtain ⟨b30, h⟩ := of_guard h
        refine alt_e ?_
        · have g43 : (List.replicate 1 ([.int .i64 0] : List Value)).flatten = [.int .i64 0] := rfl
          have g44 : (⟨.lst, 1, [.sc (.int .i64 a0_0)]⟩ : Root) = ⟨.lst, 1, encL c_i64 ([a0_0] : List Int)⟩ := rfl
          have g45 : ([a0_0] : List Int).length = 1 := rfl
          simp only [Nat.reduceBEq, Nat.reduceEqDiff, Nat.reduceAdd, Nat.reduceMul, Nat.reduceLeDiff, Nat.reduceLT, Int.reduceLE, Int.reduceLT, Int.reduceGT, Int.reduceGE, Int.reduceEq, Int.reduceNe, Int.reduceToNat, reduceCtorEq, ak, g43, g44, g45]
          refine alt_e ?_
          · have g53 : (encL c_i64 ([a0_0] : List Int)).take 1 = encL c_i64 ([a0_0] : List Int) := by simpa using (Vw.whole c_i64_w ([a0_0] : List Int)).all
            have g54 : (encL c_i64 ([a0_0] : List Int)).all isSc = true := encL_all (fun _ => rfl) _
            have g55 : appLim l1_7.length 1 8 := ⟨b30, by have := b30; omega⟩
            have g56 : (encL c_i64 l1_7).length = l1_7.length * 1 := by simp [encL_length c_i64_w]
            have g57 : encL c_i64 l1_7 ++ encL c_i64 ([a0_0] : List Int) = encL c_i64 (l1_7 ++ ([a0_0] : List Int)) := (encL_append _ _).symm
            simp only [Nat.reduceBEq, Nat.reduceEqDiff, Nat.reduceAdd, Nat.reduceMul, Nat.reduceLeDiff, Nat.reduceLT, Int.reduceLE, Int.reduceLT, Int.reduceGT, Int.reduceGE, Int.reduceEq, Int.reduceNe, Int.reduceToNat, reduceCtorEq, ak, g53, g54, g55, g56, g57]
            refine alt_e ?_
            · have g59 : (encL c_i64 (l1_7 ++ ([a0_0] : List Int))).length = (l1_7.length + 1) * 1 := by simp [encL_length c_i64_w]
              simp only [Nat.reduceBEq, Nat.reduceEqDiff, Nat.reduceAdd, Nat.reduceMul, Nat.reduceLeDiff, Nat.reduceLT, Int.reduceLE, Int.reduceLT, Int.reduceGT, Int.reduceGE, Int.reduceEq, Int.reduceNe, Int.reduceToNat, reduceCtorEq, ak, g59]
              refine hJ24 _ ?_
              obtain ⟨j60, h61, hn⟩ := of_bind h
              refine seq_j (fun st => st = ⟨[(4, .c (.ptr (.tmp 4 0) [] 0)), (5, .c (.ptr (.tmp 5 0) [] 0))], [(.arg 0, ⟨.box, 0, [.sc (.int .u32 a1_0), .sc (.int .i64 a1_1), .sc (.int .i64 a1_2), .sc (.int .i64 a1_3), .sc (.int .i64 a1_4), .sc (.int .i64 a1_5), .sc (.int .u32 a1_6), .own 1 (l1_7.length + 1) (encL c_i64 (l1_7 ++ ([a0_0] : List Int))), .sc (.int .i64 j60), .sc (.int .i64 a1_9), .sc (.int .i64 a1_10), .sc (.int .i64 a1_11), .sc (.bool a1_12)]⟩), (.tmp 4 0, ⟨.box, 0, [.sc (.int .i64 0), .own 3 (([] : List S68).length) (encL c68 ([] : List S68)), .own 1 (([] : List Int).length) (encL c_i64 ([] : List Int)), .sc (.int .i64 0), .sc (.int .i64 0)]⟩), (.tmp 5 0, ⟨.box, 0, [.sc (.int .i64 1), .sc (.int .u32 j14), .sc (.int .i64 a0_0)]⟩)], [0], []⟩) (fun J62 hJ62 => ?_) ?_
              · replace h := h61; clear hn
                refine ga_k fun G63 G63n G63r G63x => ?_
                refine seq_k fun J64 hJ64 => ?_
                refine reg_k ?_
                simp only [Nat.reduceEqDiff, Nat.reduceAdd, Nat.reduceMul, Nat.reduceLeDiff, Nat.reduceLT, Int.reduceLE, Int.reduceLT, Int.reduceGT, Int.reduceGE, Int.reduceEq, Int.reduceNe, Int.reduceToNat, reduceCtorEq, ak]
                refine hJ64 _ ?_
                refine cond_k (b := decide (a1_8 = 0)) rfl (fun c65 => ?_) (fun c65 => ?_)
                · replace c65 := of_decide_eq_true c65; rw [if_pos c65] at h
                  refine reg_k ?_
                  simp only [Nat.reduceEqDiff, Nat.reduceAdd, Nat.reduceMul, Nat.reduceLeDiff, Nat.reduceLT, Int.reduceLE, Int.reduceLT, Int.reduceGT, Int.reduceGE, Int.reduceEq, Int.reduceNe, Int.reduceToNat, reduceCtorEq, ak]
                  obtain rfl := Option.some.inj h
                  refine G63n _ _ ((Weak.mark [0] [] (by simp) (by simp)).trans ((Weak.keep [4, 5]).trans ((Weak.foc [(.arg 0, ⟨(.arg 0), [], none, .box⟩), (.tmp 4 0, ⟨(.tmp 4 0), [], none, .box⟩), (.tmp 5 0, ⟨(.tmp 5 0), [], none, .box⟩)] rfl (by first | rfl | simp only [reduceCtorEq, Nat.reduceEqDiff, ak, akF, b30]) (by simp [argK, akG, ak])).trans (Weak.of_eq (by first | rfl | (simp only [reduceCtorEq, Nat.reduceEqDiff, ak, akF, b30]; done) | (simp [reduceCtorEq, Nat.reduceEqDiff, ak, akF, b30]; done)))))) (hJ62 _ rfl)
                · replace c65 := of_decide_eq_false c65; rw [if_neg c65] at h
                  obtain rfl := Option.some.inj h
                  refine G63n _ _ ((Weak.mark [0] [] (by simp) (by simp)).trans ((Weak.keep [4, 5]).trans ((Weak.foc [(.arg 0, ⟨(.arg 0), [], none, .box⟩), (.tmp 4 0, ⟨(.tmp 4 0), [], none, .box⟩), (.tmp 5 0, ⟨(.tmp 5 0), [], none, .box⟩)] rfl (by first | rfl | simp only [reduceCtorEq, Nat.reduceEqDiff, ak, akF, b30]) (by simp [argK, akG, ak])).trans (Weak.of_eq (by first | rfl | (simp only [reduceCtorEq, Nat.reduceEqDiff, ak, akF, b30]; done) | (simp [reduceCtorEq, Nat.reduceEqDiff, ak, akF, b30]; done)))))) (hJ62 _ rfl)
              · replace h := hn; clear hn h61
                rintro _ rfl
                refine seq_k fun J66 hJ66 => ?_
                refine reg_k ?_
                have g67 : (List.replicate 1 ([.int .i64 0, .int .u32 0, .int .i64 0] : List Value)).flatten = [.int .i64 0, .int .u32 0, .int .i64 0] := rfl
                have g68 : (⟨.lst, 3, [.sc (.int .i64 1), .sc (.int .u32 j14), .sc (.int .i64 a0_0)]⟩ : Root) = ⟨.lst, 3, encL c68 ([(⟨1, j14, a0_0⟩ : S68)] : List S68)⟩ := rfl
                have g69 : ([(⟨1, j14, a0_0⟩ : S68)] : List S68).length = 1 := rfl
                simp only [Nat.reduceEqDiff, Nat.reduceAdd, Nat.reduceMul, Nat.reduceLeDiff, Nat.reduceLT, Int.reduceLE, Int.reduceLT, Int.reduceGT, Int.reduceGE, Int.reduceEq, Int.reduceNe, Int.reduceToNat, reduceCtorEq, ak, g67, g68, g69]
                refine gho_k (Weak.nmg' 53 2 (.tmp 53 22) 1 (encL c_i64 ([] : List Int)) rfl rfl rfl rfl) ?_
                have g70 : (encL c68 ([(⟨1, j14, a0_0⟩ : S68)] : List S68)).length = 1 * 3 := by simp [encL_length c68_w]
                have g71 : (encL c_i64 ([] : List Int)).length = 0 * 1 := by simp [encL_length c_i64_w]
                simp only [Nat.reduceEqDiff, Nat.reduceAdd, Nat.reduceMul, Nat.reduceLeDiff, Nat.reduceLT, Int.reduceLE, Int.reduceLT, Int.reduceGT, Int.reduceGE, Int.reduceEq, Int.reduceNe, Int.reduceToNat, reduceCtorEq, ak, g70, g71]
                refine hJ66 _ ?_
                refine gh_k (Weak.mark [0] [] (by simp) (by simp)) ?_
                obtain rfl := Option.some.inj h
                refine hKr _ ⟨_, rfl, [⟨(.tmp 4 0), [1], none, .lst⟩, ⟨(.tmp 4 0), [2], none, .lst⟩], _, rfl, rfl, ?_⟩
                first | rfl | (simp only [reduceCtorEq, Nat.reduceEqDiff, ak, akF, b30]; done) | (simp [reduceCtorEq, Nat.reduceEqDiff, ak, akF, b30]; done)
/-! ### (*impl.sender).act: function 133 -/
def c133v1i219 : AC := .seq (.reg [.op none (.alloc 4 [.int .i64 0, .slice none 0 0, .slice none 0 0, .int .i64 0, .int .i64 0]), .gh, .keep [0, 1, 4]]) (.seq (.reg [.op none (.mv 5 (.tmp 1)), .op none (.mv 6 (.tmp 0)), .callv none (some 7) (.invoke (.tmp 5) "loop.example/s03010/impl.happen") [.tmp 6], .op none (.store 5 (.tmp 4) (.tmp 7)), .keep [4]]) (.gh .ret))
def r133v1i219 : List RV := [.cell 4 true 5]
theorem k133v1i219 : compC Try.prog 8 c133v1i219 (Try.f133.body.getD .skip) = some c133v1i219.erase := by kernel_rfl
theorem q133v1i219 : rvsOf Try.prog Try.f133.results.toList = some r133v1i219 := by kernel_rfl
def impl_sender_act_v1i219.f (a0_0 : Int) (a0_1 : Int) (a0_2 : Int) (a0_3 : Int) (a0_4 : Int) (a0_5 : Int) (a0_6 : Int) (l0_7 : List Int) (a0_8 : Int) (a0_9 : Int) (a0_10 : Int) (a0_11 : Int) (a0_12 : Bool) (a1_0 : Int) : Option (Int × (List S68) × (List Int) × Int × Int × (List Int) × Int) := (impl_sendTag_happen.f a1_0 a0_0 a0_1 a0_2 a0_3 a0_4 a0_5 a0_6 l0_7 a0_8 a0_9 a0_10 a0_11 a0_12 >>= fun t3 => (some (t3.1, t3.2.1, t3.2.2.1, t3.2.2.2.1, t3.2.2.2.2.1, t3.2.2.2.2.2.1, t3.2.2.2.2.2.2)))
set_option maxRecDepth 100000 in
set_option maxHeartbeats 4000000 in
theorem impl_sender_act_v1i219.tri (a0_0 : Int) (a0_1 : Int) (a0_2 : Int) (a0_3 : Int) (a0_4 : Int) (a0_5 : Int) (a0_6 : Int) (l0_7 : List Int) (a0_8 : Int) (a0_9 : Int) (a0_10 : Int) (a0_11 : Int) (a0_12 : Bool) (a1_0 : Int) (r : Int × (List S68) × (List Int) × Int × Int × (List Int) × Int) (h : impl_sender_act_v1i219.f a0_0 a0_1 a0_2 a0_3 a0_4 a0_5 a0_6 l0_7 a0_8 a0_9 a0_10 a0_11 a0_12 a1_0 = some r) : Tri Try.prog 133 [.c (.ptr (.arg 0) [] 0), .c (.sc (.iface 219 (.agg #[.int .i64 a1_0])))] [(.arg 0, ⟨.box, 0, [.sc (.int .u32 a0_0), .sc (.int .i64 a0_1), .sc (.int .i64 a0_2), .sc (.int .i64 a0_3), .sc (.int .i64 a0_4), .sc (.int .i64 a0_5), .sc (.int .u32 a0_6), .own 1 l0_7.length (encL c_i64 l0_7), .sc (.int .i64 a0_8), .sc (.int .i64 a0_9), .sc (.int .i64 a0_10), .sc (.int .i64 a0_11), .sc (.bool a0_12)]⟩)] (fun o => o = ⟨.g [.sc (.int .i64 r.1), .ref (.res 0) [] 0 r.2.1.length, .ref (.res 1) [] 0 r.2.2.1.length, .sc (.int .i64 r.2.2.2.1), .sc (.int .i64 r.2.2.2.2.1)], [(.arg 0, ⟨.box, 0, [.sc (.int .u32 a0_0), .sc (.int .i64 a0_1), .sc (.int .i64 a0_2), .sc (.int .i64 a0_3), .sc (.int .i64 a0_4), .sc (.int .i64 a0_5), .sc (.int .u32 a0_6), .own 1 r.2.2.2.2.2.1.length (encL c_i64 r.2.2.2.2.2.1), .sc (.int .i64 r.2.2.2.2.2.2), .sc (.int .i64 a0_9), .sc (.int .i64 a0_10), .sc (.int .i64 a0_11), .sc (.bool a0_12)]⟩), (.res 0, ⟨.lst, 3, encL c68 r.2.1⟩), (.res 1, ⟨.lst, 1, encL c_i64 r.2.2.1⟩)], [0], []⟩) := by
  refine tri_of_body (ac := c133v1i219) (xs := r133v1i219) Try.func133 (show Try.f133.body = some (Try.f133.body.getD .skip) from rfl) k133v1i219 q133v1i219 (Nat.le_of_ble_eq_true rfl) ?_
  refine body_of fun K hKn hKr => ?_
  unfold impl_sender_act_v1i219.f at h
  unfold c133v1i219
  simp only [initT, Nat.reduceAdd]
  refine seq_k fun J1 hJ1 => ?_
  refine reg_k ?_
  simp only [Nat.reduceEqDiff, Nat.reduceAdd, Nat.reduceMul, Nat.reduceLeDiff, Nat.reduceLT, Int.reduceLE, Int.reduceLT, Int.reduceGT, Int.reduceGE, Int.reduceEq, Int.reduceNe, Int.reduceToNat, reduceCtorEq, ak]
  refine gho_k (Weak.own (.tmp 4 0) (cs' := [.sc (.int .i64 0), .own 3 (([] : List S68).length) (encL c68 ([] : List S68)), .own 1 (([] : List Int).length) (encL c_i64 ([] : List Int)), .sc (.int .i64 0), .sc (.int .i64 0)]) rfl ⟨.inl rfl, .inr ⟨rfl, _, rfl⟩, .inr ⟨rfl, _, rfl⟩, .inl rfl, .inl rfl, trivial⟩) ?_
  simp only [Nat.reduceEqDiff, Nat.reduceAdd, Nat.reduceMul, Nat.reduceLeDiff, Nat.reduceLT, Int.reduceLE, Int.reduceLT, Int.reduceGT, Int.reduceGE, Int.reduceEq, Int.reduceNe, Int.reduceToNat, reduceCtorEq, ak]
  refine hJ1 _ ?_
  refine seq_k fun J2 hJ2 => ?_
  refine reg_k ?_
  simp only [Nat.reduceEqDiff, Nat.reduceAdd, Nat.reduceMul, Nat.reduceLeDiff, Nat.reduceLT, Int.reduceLE, Int.reduceLT, Int.reduceGT, Int.reduceGE, Int.reduceEq, Int.reduceNe, Int.reduceToNat, reduceCtorEq, ak]
  obtain ⟨t3, h4, h⟩ := of_bind h
  refine callv_iface (f := 180) (fn := Try.f180) (t := 219) (v := (.agg #[.int .i64 a1_0])) (recv := (.agg #[.int .i64 a1_0])) rfl (fun w => by kernel_rfl) Try.func180 (by kernel_rfl) (by decide) ?_
  refine call_m [(.arg 0, ⟨(.arg 0), [], none, .box⟩)] (s0 := [(.arg 0, ⟨.box, 0, [.sc (.int .u32 a0_0), .sc (.int .i64 a0_1), .sc (.int .i64 a0_2), .sc (.int .i64 a0_3), .sc (.int .i64 a0_4), .sc (.int .i64 a0_5), .sc (.int .u32 a0_6), .own 1 l0_7.length (encL c_i64 l0_7), .sc (.int .i64 a0_8), .sc (.int .i64 a0_9), .sc (.int .i64 a0_10), .sc (.int .i64 a0_11), .sc (.bool a0_12)]⟩)]) (by intro t ht; cases ht; decide) rfl rfl (by first | rfl | simp only [reduceCtorEq, Nat.reduceEqDiff, ak, akF]) (impl_sendTag_happen.tri a1_0 a0_0 a0_1 a0_2 a0_3 a0_4 a0_5 a0_6 l0_7 a0_8 a0_9 a0_10 a0_11 a0_12 _ h4) (by first | rfl | simp only [reduceCtorEq, Nat.reduceEqDiff, ak, akF]) (by simp [bkOk2, memK]) (fun hl4 => ?_)
  refine call_st (s2 := [(.arg 0, ⟨.box, 0, [.sc (.int .u32 a0_0), .sc (.int .i64 a0_1), .sc (.int .i64 a0_2), .sc (.int .i64 a0_3), .sc (.int .i64 a0_4), .sc (.int .i64 a0_5), .sc (.int .u32 a0_6), .own 1 l0_7.length (encL c_i64 l0_7), .sc (.int .i64 a0_8), .sc (.int .i64 a0_9), .sc (.int .i64 a0_10), .sc (.int .i64 a0_11), .sc (.bool a0_12)]⟩), (.tmp 4 0, ⟨.box, 0, [.sc (.int .i64 0), .own 3 (([] : List S68).length) (encL c68 ([] : List S68)), .own 1 (([] : List Int).length) (encL c_i64 ([] : List Int)), .sc (.int .i64 0), .sc (.int .i64 0)]⟩)]) (s4 := [(.arg 0, ⟨.box, 0, [.sc (.int .u32 a0_0), .sc (.int .i64 a0_1), .sc (.int .i64 a0_2), .sc (.int .i64 a0_3), .sc (.int .i64 a0_4), .sc (.int .i64 a0_5), .sc (.int .u32 a0_6), .own 1 t3.2.2.2.2.2.1.length (encL c_i64 t3.2.2.2.2.2.1), .sc (.int .i64 t3.2.2.2.2.2.2), .sc (.int .i64 a0_9), .sc (.int .i64 a0_10), .sc (.int .i64 a0_11), .sc (.bool a0_12)]⟩), (.tmp 4 0, ⟨.box, 0, [.sc (.int .i64 0), .own 3 (([] : List S68).length) (encL c68 ([] : List S68)), .own 1 (([] : List Int).length) (encL c_i64 ([] : List Int)), .sc (.int .i64 0), .sc (.int .i64 0)]⟩), (.tmp 7 1, ⟨.lst, 1, encL c_i64 t3.2.2.1⟩), (.tmp 7 0, ⟨.lst, 3, encL c68 t3.2.1⟩)]) (t' := [(0, .c (.ptr (.arg 0) [] 0)), (1, .c (.sc (.iface 219 (.agg #[.int .i64 a1_0])))), (4, .c (.ptr (.tmp 4 0) [] 0)), (5, .c (.sc (.iface 219 (.agg #[.int .i64 a1_0])))), (6, .c (.ptr (.arg 0) [] 0))]) (m1' := [0]) (m2' := []) (v' := .g [.sc (.int .i64 t3.1), .ref (.tmp 7 0) [] 0 t3.2.1.length, .ref (.tmp 7 1) [] 0 t3.2.2.1.length, .sc (.int .i64 t3.2.2.2.1), .sc (.int .i64 t3.2.2.2.2.1)]) (by first | rfl | simp only [reduceCtorEq, Nat.reduceEqDiff, ak, akF, List.contains_nil, List.contains_cons, Nat.reduceBEq]) (mrgL_whole (new' := [.sc (.int .u32 a0_0), .sc (.int .i64 a0_1), .sc (.int .i64 a0_2), .sc (.int .i64 a0_3), .sc (.int .i64 a0_4), .sc (.int .i64 a0_5), .sc (.int .u32 a0_6), .own 1 t3.2.2.2.2.2.1.length (encL c_i64 t3.2.2.2.2.2.1), .sc (.int .i64 t3.2.2.2.2.2.2), .sc (.int .i64 a0_9), .sc (.int .i64 a0_10), .sc (.int .i64 a0_11), .sc (.bool a0_12)]) (mrgL_nil' _ _ _) rfl (by rfl) (.inl ⟨rfl, by first | rfl | simp only [reduceCtorEq, Nat.reduceEqDiff, ak, akF, Nat.zero_add, List.append_nil]⟩)) (by rfl) (by first | rfl | simp only [reduceCtorEq, Nat.reduceEqDiff, ak, akF, List.contains_nil, List.contains_cons, Nat.reduceBEq]) (by rfl) (by rfl) (by first | rfl | simp only [reduceCtorEq, Nat.reduceEqDiff, ak, akF, Nat.zero_add, List.append_nil]) ?_
  have g6 : (encL c68 t3.2.1).length = t3.2.1.length * 3 := by simp [encL_length c68_w]
  have g7 : (encL c_i64 t3.2.2.1).length = t3.2.2.1.length * 1 := by simp [encL_length c_i64_w]
  simp only [Nat.reduceEqDiff, Nat.reduceAdd, Nat.reduceMul, Nat.reduceLeDiff, Nat.reduceLT, Int.reduceLE, Int.reduceLT, Int.reduceGT, Int.reduceGE, Int.reduceEq, Int.reduceNe, Int.reduceToNat, reduceCtorEq, ak, g6, g7]
  refine hJ2 _ ?_
  refine gh_k (Weak.mark [0] [] (by simp) (by simp)) ?_
  obtain rfl := Option.some.inj h
  refine hKr _ ⟨_, rfl, [⟨(.tmp 4 0), [1], none, .lst⟩, ⟨(.tmp 4 0), [2], none, .lst⟩], _, rfl, rfl, ?_⟩
  first | rfl | (simp only [reduceCtorEq, Nat.reduceEqDiff, ak, akF]; done) | (simp [reduceCtorEq, Nat.reduceEqDiff, ak, akF]; done)
/-! ### (*impl.sender).calm: function 179 -/
def c179 : AC := .seq (.reg [.op none (.mv 2 (.tmp 0)), .op none (.mv 3 (.tmp 0)), .op none (.nilc 4 (.tmp 3)), .op none (.faddr 5 0 (.tmp 4)), .op none (.faddr 6 2 (.tmp 5)), .op none (.load 7 false 1 (.tmp 6)), .op none (.nilc 8 (.tmp 2)), .op none (.faddr 9 9 (.tmp 8)), .op none (.store 1 (.tmp 9) (.tmp 7)), .keep [0]]) (.seq (.reg [.op none (.mv 10 (.tmp 0)), .op none (.nilc 11 (.tmp 10)), .op none (.faddr 12 10 (.tmp 11)), .op none (.store 1 (.tmp 12) (.const (.int .i64 0))), .keep [0]]) (.seq (.reg [.op none (.mv 13 (.tmp 0)), .op none (.nilc 14 (.tmp 13)), .op none (.faddr 15 8 (.tmp 14)), .op none (.store 1 (.tmp 15) (.const (.int .i64 0))), .keep [0]]) (.seq (.reg [.op none (.mv 16 (.tmp 0)), .op none (.nilc 17 (.tmp 16)), .op none (.faddr 18 7 (.tmp 17)), .op none (.load 19 false 1 (.tmp 18)), .op none (.len 20 (.tmp 19)), .op none (.bin 21 .gtr (.tmp 20) (.const (.int .i64 0))), .keep [0, 21]]) (.cond (.tmp 21) (.reg [.op none (.mv 22 (.tmp 0)), .op none (.mv 23 (.tmp 0)), .op none (.nilc 24 (.tmp 23)), .op none (.faddr 25 9 (.tmp 24)), .op none (.load 26 false 1 (.tmp 25)), .op none (.nilc 27 (.tmp 22)), .op none (.faddr 28 8 (.tmp 27)), .op none (.store 1 (.tmp 28) (.tmp 26)), .keep []]) (.skip)))))
def r179 : List RV := []
theorem k179 : compC Try.prog 29 c179 (Try.f179.body.getD .skip) = some c179.erase := by kernel_rfl
theorem q179 : rvsOf Try.prog Try.f179.results.toList = some r179 := by kernel_rfl
def impl_sender_calm.f (a0_0 : Int) (a0_1 : Int) (a0_2 : Int) (a0_3 : Int) (a0_4 : Int) (a0_5 : Int) (a0_6 : Int) (l0_7 : List Int) (a0_8 : Int) (a0_9 : Int) (a0_10 : Int) (a0_11 : Int) (a0_12 : Bool) : Option (Int × Int × Int) := (if (l0_7.length : Int) > 0 then (some (a0_2, a0_2, 0)) else (some (0, a0_2, 0)))
set_option maxRecDepth 100000 in
set_option maxHeartbeats 4000000 in
theorem impl_sender_calm.tri (a0_0 : Int) (a0_1 : Int) (a0_2 : Int) (a0_3 : Int) (a0_4 : Int) (a0_5 : Int) (a0_6 : Int) (l0_7 : List Int) (a0_8 : Int) (a0_9 : Int) (a0_10 : Int) (a0_11 : Int) (a0_12 : Bool) (r : Int × Int × Int) (h : impl_sender_calm.f a0_0 a0_1 a0_2 a0_3 a0_4 a0_5 a0_6 l0_7 a0_8 a0_9 a0_10 a0_11 a0_12 = some r) : Tri Try.prog 179 [.c (.ptr (.arg 0) [] 0)] [(.arg 0, ⟨.box, 0, [.sc (.int .u32 a0_0), .sc (.int .i64 a0_1), .sc (.int .i64 a0_2), .sc (.int .i64 a0_3), .sc (.int .i64 a0_4), .sc (.int .i64 a0_5), .sc (.int .u32 a0_6), .own 1 l0_7.length (encL c_i64 l0_7), .sc (.int .i64 a0_8), .sc (.int .i64 a0_9), .sc (.int .i64 a0_10), .sc (.int .i64 a0_11), .sc (.bool a0_12)]⟩)] (fun o => o = ⟨.tup [], [(.arg 0, ⟨.box, 0, [.sc (.int .u32 a0_0), .sc (.int .i64 a0_1), .sc (.int .i64 a0_2), .sc (.int .i64 a0_3), .sc (.int .i64 a0_4), .sc (.int .i64 a0_5), .sc (.int .u32 a0_6), .own 1 l0_7.length (encL c_i64 l0_7), .sc (.int .i64 r.1), .sc (.int .i64 r.2.1), .sc (.int .i64 r.2.2), .sc (.int .i64 a0_11), .sc (.bool a0_12)]⟩)], [], []⟩) := by
  refine tri_of_body (ac := c179) (xs := r179) Try.func179 (show Try.f179.body = some (Try.f179.body.getD .skip) from rfl) k179 q179 (Nat.le_of_ble_eq_true rfl) ?_
  refine body_of fun K hKn hKr => ?_
  unfold impl_sender_calm.f at h
  unfold c179
  simp only [initT, Nat.reduceAdd]
  refine seq_k fun J1 hJ1 => ?_
  refine reg_k ?_
  simp only [Nat.reduceEqDiff, Nat.reduceAdd, Nat.reduceMul, Nat.reduceLeDiff, Nat.reduceLT, Int.reduceLE, Int.reduceLT, Int.reduceGT, Int.reduceGE, Int.reduceEq, Int.reduceNe, Int.reduceToNat, reduceCtorEq, ak]
  refine hJ1 _ ?_
  refine seq_k fun J2 hJ2 => ?_
  refine reg_k ?_
  simp only [Nat.reduceEqDiff, Nat.reduceAdd, Nat.reduceMul, Nat.reduceLeDiff, Nat.reduceLT, Int.reduceLE, Int.reduceLT, Int.reduceGT, Int.reduceGE, Int.reduceEq, Int.reduceNe, Int.reduceToNat, reduceCtorEq, ak]
  refine hJ2 _ ?_
  refine seq_k fun J3 hJ3 => ?_
  refine reg_k ?_
  simp only [Nat.reduceEqDiff, Nat.reduceAdd, Nat.reduceMul, Nat.reduceLeDiff, Nat.reduceLT, Int.reduceLE, Int.reduceLT, Int.reduceGT, Int.reduceGE, Int.reduceEq, Int.reduceNe, Int.reduceToNat, reduceCtorEq, ak]
  refine hJ3 _ ?_
  refine seq_k fun J4 hJ4 => ?_
  refine reg_k ?_
  simp only [Nat.reduceEqDiff, Nat.reduceAdd, Nat.reduceMul, Nat.reduceLeDiff, Nat.reduceLT, Int.reduceLE, Int.reduceLT, Int.reduceGT, Int.reduceGE, Int.reduceEq, Int.reduceNe, Int.reduceToNat, reduceCtorEq, ak]
  refine hJ4 _ ?_
  refine cond_k (b := decide ((l0_7.length : Int) > 0)) rfl (fun c5 => ?_) (fun c5 => ?_)
  · replace c5 := of_decide_eq_true c5; rw [if_pos c5] at h
    refine reg_k ?_
    simp only [Nat.reduceEqDiff, Nat.reduceAdd, Nat.reduceMul, Nat.reduceLeDiff, Nat.reduceLT, Int.reduceLE, Int.reduceLT, Int.reduceGT, Int.reduceGE, Int.reduceEq, Int.reduceNe, Int.reduceToNat, reduceCtorEq, ak]
    obtain rfl := Option.some.inj h
    refine hKn _ ⟨_, rfl, [], _, rfl, rfl, ?_⟩
    first | rfl | (simp only [reduceCtorEq, Nat.reduceEqDiff, ak, akF]; done) | (simp [reduceCtorEq, Nat.reduceEqDiff, ak, akF]; done)
  · replace c5 := of_decide_eq_false c5; rw [if_neg c5] at h
    obtain rfl := Option.some.inj h
    refine hKn _ ⟨_, rfl, [], _, rfl, rfl, ?_⟩
    first | rfl | (simp only [reduceCtorEq, Nat.reduceEqDiff, ak, akF]; done) | (simp [reduceCtorEq, Nat.reduceEqDiff, ak, akF]; done)
/-! ### (*impl.sender).again: function 182 -/
def c182_l0 : AC := .seq (.reg [.op none (.bin 12 .lss (.tmp 11) (.tmp 10)), .keep [0, 3, 9, 10, 11, 12]]) (.seq (.cond (.tmp 12) (.skip) (.gh (.exit 0))) (.seq (.block 1 (.seq (.reg [.op none (.mv 13 (.tmp 11)), .op none (.iaddr 14 1 (.tmp 9) (.tmp 11)), .op none (.load 15 false 1 (.tmp 14)), .op none (.mv 4 (.tmp 13)), .op none (.mv 5 (.tmp 15)), .keep [0, 3, 4, 5, 9, 10, 11]]) (.reg [.op none (.mv 16 (.tmp 3)), .op none (.mv 17 (.tmp 0)), .op none (.nilc 18 (.tmp 17)), .op none (.faddr 19 6 (.tmp 18)), .op none (.load 20 false 1 (.tmp 19)), .op none (.mv 21 (.tmp 4)), .op none (.conv 22 .u32 (.tmp 21)), .op none (.bin 23 .add (.tmp 20) (.tmp 22)), .op none (.mv 24 (.tmp 5)), .op none (.build 25 [.int .i64 0, .int .u32 0, .int .i64 0] [(0, 1, .const (.int .i64 2)), (1, 1, .tmp 23), (2, 1, .tmp 24)]), .op none (.bslice 26 3 [.int .i64 0, .int .u32 0, .int .i64 0] 1 [(0, .tmp 25)]), .op none (.app 27 3 24 true (.tmp 16) (.tmp 26)), .op none (.mv 3 (.tmp 27)), .keep [0, 3, 9, 10, 11]]))) (.reg [.op none (.bin 28 .add (.tmp 11) (.const (.int .i64 1))), .op none (.mv 11 (.tmp 28)), .keep [0, 3, 9, 10, 11]])))
def c182 : AC := .seq (.reg [.op none (.mv 2 (.const (.slice none 0 0))), .gh, .keep [0]]) (.seq (.reg [.op none (.mv 3 (.const (.slice none 0 0))), .gh, .keep [0, 3]]) (.seq (.seq (.reg [.op none (.mv 6 (.tmp 0)), .op none (.nilc 7 (.tmp 6)), .op none (.faddr 8 7 (.tmp 7)), .op none (.load 9 false 1 (.tmp 8)), .op none (.len 10 (.tmp 9)), .op none (.mv 11 (.const (.int .i64 0))), .keep [0, 3, 9, 10, 11]]) (.block 0 (.gh (.loop (.ga c182_l0))))) (.seq (.reg [.op none (.mv 29 (.tmp 3)), .op none (.mv 2 (.tmp 29)), .keep [2]]) (.ret))))
def r182 : List RV := [.tmp 2]
theorem k182 : compC Try.prog 30 c182 (Try.f182.body.getD .skip) = some c182.erase := by kernel_rfl
theorem q182 : rvsOf Try.prog Try.f182.results.toList = some r182 := by kernel_rfl
def impl_sender_again.l0 (x0_0 : Int) (x0_2 : Int) (x0_3 : Int) (x0_4 : Int) (x0_5 : Int) (x0_6 : Int) (x0_7 : Int) (x0_8 : Int) (x0_9 : (List Int)) (x0_10 : Int) (x0_11 : Int) (x0_12 : Int) (x0_13 : Int) (x0_14 : Bool) (x0_1 : Int) (x0_15 : (List S68)) : Option (List S68) := (if x0_1 < x0_0 then (if 0 ≤ x0_1 ∧ x0_1 < (x0_9.length : Int) then (if (x0_15.length + 1) * 24 ≤ 140737488355328 then (impl_sender_again.l0 x0_0 x0_2 x0_3 x0_4 x0_5 x0_6 x0_7 x0_8 x0_9 x0_10 x0_11 x0_12 x0_13 x0_14 (IntKind.i64.wrap (x0_1 + 1)) (x0_15 ++ ([(⟨2, IntKind.u32.wrap (x0_8 + (IntKind.u32.wrap x0_1)), (rd 0 x0_9 x0_1)⟩ : S68)] : List S68))) else none) else none) else (some x0_15))
  partial_fixpoint
def impl_sender_again.f (a0_0 : Int) (a0_1 : Int) (a0_2 : Int) (a0_3 : Int) (a0_4 : Int) (a0_5 : Int) (a0_6 : Int) (l0_7 : List Int) (a0_8 : Int) (a0_9 : Int) (a0_10 : Int) (a0_11 : Int) (a0_12 : Bool) : Option (List S68) := (impl_sender_again.l0 (l0_7.length : Int) a0_0 a0_1 a0_2 a0_3 a0_4 a0_5 a0_6 l0_7 a0_8 a0_9 a0_10 a0_11 a0_12 0 ([] : List S68) >>= fun (y23 : (List S68)) => (some y23))
set_option maxRecDepth 100000 in
set_option maxHeartbeats 4000000 in
theorem impl_sender_again.l0_walk (x0_0 : Int) (x0_2 : Int) (x0_3 : Int) (x0_4 : Int) (x0_5 : Int) (x0_6 : Int) (x0_7 : Int) (x0_8 : Int) (x0_9 : (List Int)) (x0_10 : Int) (x0_11 : Int) (x0_12 : Int) (x0_13 : Int) (x0_14 : Bool) (x0_1 : Int) (x0_15 : (List S68)) (y : (List S68)) (h : impl_sender_again.l0 x0_0 x0_2 x0_3 x0_4 x0_5 x0_6 x0_7 x0_8 x0_9 x0_10 x0_11 x0_12 x0_13 x0_14 x0_1 x0_15 = some y) (K : AE → St → Prop) (hx0 : K (.exit 0) ⟨[(3, .c (.ref (.tmp 3 20) [] 0 y.length))], [(.arg 0, ⟨.box, 0, [.sc (.int .u32 x0_2), .sc (.int .i64 x0_3), .sc (.int .i64 x0_4), .sc (.int .i64 x0_5), .sc (.int .i64 x0_6), .sc (.int .i64 x0_7), .sc (.int .u32 x0_8), .own 1 x0_9.length (encL c_i64 x0_9), .sc (.int .i64 x0_10), .sc (.int .i64 x0_11), .sc (.int .i64 x0_12), .sc (.int .i64 x0_13), .sc (.bool x0_14)]⟩), (.tmp 3 20, ⟨.lst, 3, encL c68 y⟩)], [], []⟩) : loopS Try.prog 30 (.ga c182_l0) K ⟨[(0, .c (.ptr (.arg 0) [] 0)), (3, .c (.ref (.tmp 3 20) [] 0 x0_15.length)), (9, .c (.ref (.arg 0) [7] 0 x0_9.length)), (10, .c (.sc (.int .i64 x0_0))), (11, .c (.sc (.int .i64 x0_1)))], [(.arg 0, ⟨.box, 0, [.sc (.int .u32 x0_2), .sc (.int .i64 x0_3), .sc (.int .i64 x0_4), .sc (.int .i64 x0_5), .sc (.int .i64 x0_6), .sc (.int .i64 x0_7), .sc (.int .u32 x0_8), .own 1 x0_9.length (encL c_i64 x0_9), .sc (.int .i64 x0_10), .sc (.int .i64 x0_11), .sc (.int .i64 x0_12), .sc (.int .i64 x0_13), .sc (.bool x0_14)]⟩), (.tmp 3 20, ⟨.lst, 3, encL c68 x0_15⟩)], [], []⟩ := by
  refine impl_sender_again.l0.partial_correctness x0_0 x0_2 x0_3 x0_4 x0_5 x0_6 x0_7 x0_8 x0_9 x0_10 x0_11 x0_12 x0_13 x0_14 (motive := fun x0_1 x0_15 y => ∀ (K : AE → St → Prop), (K (.exit 0) ⟨[(3, .c (.ref (.tmp 3 20) [] 0 y.length))], [(.arg 0, ⟨.box, 0, [.sc (.int .u32 x0_2), .sc (.int .i64 x0_3), .sc (.int .i64 x0_4), .sc (.int .i64 x0_5), .sc (.int .i64 x0_6), .sc (.int .i64 x0_7), .sc (.int .u32 x0_8), .own 1 x0_9.length (encL c_i64 x0_9), .sc (.int .i64 x0_10), .sc (.int .i64 x0_11), .sc (.int .i64 x0_12), .sc (.int .i64 x0_13), .sc (.bool x0_14)]⟩), (.tmp 3 20, ⟨.lst, 3, encL c68 y⟩)], [], []⟩) → loopS Try.prog 30 (.ga c182_l0) K ⟨[(0, .c (.ptr (.arg 0) [] 0)), (3, .c (.ref (.tmp 3 20) [] 0 x0_15.length)), (9, .c (.ref (.arg 0) [7] 0 x0_9.length)), (10, .c (.sc (.int .i64 x0_0))), (11, .c (.sc (.int .i64 x0_1)))], [(.arg 0, ⟨.box, 0, [.sc (.int .u32 x0_2), .sc (.int .i64 x0_3), .sc (.int .i64 x0_4), .sc (.int .i64 x0_5), .sc (.int .i64 x0_6), .sc (.int .i64 x0_7), .sc (.int .u32 x0_8), .own 1 x0_9.length (encL c_i64 x0_9), .sc (.int .i64 x0_10), .sc (.int .i64 x0_11), .sc (.int .i64 x0_12), .sc (.int .i64 x0_13), .sc (.bool x0_14)]⟩), (.tmp 3 20, ⟨.lst, 3, encL c68 x0_15⟩)], [], []⟩) ?_ x0_1 x0_15 y h K hx0
  clear h hx0
  intro rec ih x0_1 x0_15 y h K hx0
  refine loop_unroll (ga_k fun G0 G0n G0r G0x => ?_)
  unfold c182_l0
  refine seq_k fun J6 hJ6 => ?_
  refine reg_k ?_
  simp only [Nat.reduceEqDiff, Nat.reduceAdd, Nat.reduceMul, Nat.reduceLeDiff, Nat.reduceLT, Int.reduceLE, Int.reduceLT, Int.reduceGT, Int.reduceGE, Int.reduceEq, Int.reduceNe, Int.reduceToNat, reduceCtorEq, ak]
  refine hJ6 _ ?_
  refine seq_k fun J7 hJ7 => ?_
  refine cond_k (b := decide (x0_1 < x0_0)) rfl (fun c8 => ?_) (fun c8 => ?_)
  · replace c8 := of_decide_eq_true c8; rw [if_pos c8] at h
    refine hJ7 _ ?_
    refine seq_k fun J9 hJ9 => ?_
    refine block_k fun B10 B10n B10x B10r B10j => ?_
    refine seq_k fun J11 hJ11 => ?_
    refine reg_k ?_
    obtain ⟨b12, h⟩ := of_guard h
    have g13 : (encL c_i64 x0_9)[0 + x0_1.toNat * 1]? = some (.sc (.int .i64 (rd 0 x0_9 x0_1))) := (Vw.whole c_i64_w x0_9).get 0 0 b12.1 b12.2 (by decide)
    simp only [Nat.reduceEqDiff, Nat.reduceAdd, Nat.reduceMul, Nat.reduceLeDiff, Nat.reduceLT, Int.reduceLE, Int.reduceLT, Int.reduceGT, Int.reduceGE, Int.reduceEq, Int.reduceNe, Int.reduceToNat, reduceCtorEq, ak, b12, g13]
    refine hJ11 _ ?_
    refine reg_k ?_
    have g14 : (List.replicate 1 ([.int .i64 0, .int .u32 0, .int .i64 0] : List Value)).flatten = [.int .i64 0, .int .u32 0, .int .i64 0] := rfl
    have g15 : (⟨.lst, 3, [.sc (.int .i64 2), .sc (.int .u32 (IntKind.u32.wrap (x0_8 + (IntKind.u32.wrap x0_1)))), .sc (.int .i64 (rd 0 x0_9 x0_1))]⟩ : Root) = ⟨.lst, 3, encL c68 ([(⟨2, IntKind.u32.wrap (x0_8 + (IntKind.u32.wrap x0_1)), (rd 0 x0_9 x0_1)⟩ : S68)] : List S68)⟩ := rfl
    have g16 : ([(⟨2, IntKind.u32.wrap (x0_8 + (IntKind.u32.wrap x0_1)), (rd 0 x0_9 x0_1)⟩ : S68)] : List S68).length = 1 := rfl
    have g17 : (encL c68 ([(⟨2, IntKind.u32.wrap (x0_8 + (IntKind.u32.wrap x0_1)), (rd 0 x0_9 x0_1)⟩ : S68)] : List S68)).length = 1 * 3 := by simp [encL_length c68_w]
    have g18 : (encL c68 ([(⟨2, IntKind.u32.wrap (x0_8 + (IntKind.u32.wrap x0_1)), (rd 0 x0_9 x0_1)⟩ : S68)] : List S68)).all nd = true := rfl
    obtain ⟨b19, h⟩ := of_guard h
    have g20 : appLim x0_15.length 1 24 := ⟨b19, by have := b19; omega⟩
    have g21 : (encL c68 x0_15).length = x0_15.length * 3 := by simp [encL_length c68_w]
    have g22 : encL c68 x0_15 ++ encL c68 ([(⟨2, IntKind.u32.wrap (x0_8 + (IntKind.u32.wrap x0_1)), (rd 0 x0_9 x0_1)⟩ : S68)] : List S68) = encL c68 (x0_15 ++ ([(⟨2, IntKind.u32.wrap (x0_8 + (IntKind.u32.wrap x0_1)), (rd 0 x0_9 x0_1)⟩ : S68)] : List S68)) := (encL_append _ _).symm
    simp only [Nat.reduceEqDiff, Nat.reduceAdd, Nat.reduceMul, Nat.reduceLeDiff, Nat.reduceLT, Int.reduceLE, Int.reduceLT, Int.reduceGT, Int.reduceGE, Int.reduceEq, Int.reduceNe, Int.reduceToNat, reduceCtorEq, ak, g14, g15, g16, g17, g18, g20, g21, g22]
    refine B10n _ ?_
    refine hJ9 _ ?_
    refine reg_k ?_
    simp only [Nat.reduceEqDiff, Nat.reduceAdd, Nat.reduceMul, Nat.reduceLeDiff, Nat.reduceLT, Int.reduceLE, Int.reduceLT, Int.reduceGT, Int.reduceGE, Int.reduceEq, Int.reduceNe, Int.reduceToNat, reduceCtorEq, ak]
    refine G0n _ (⟨[(0, .c (.ptr (.arg 0) [] 0)), (3, .c (.ref (.tmp 3 20) [] 0 ((x0_15 ++ ([(⟨2, IntKind.u32.wrap (x0_8 + (IntKind.u32.wrap x0_1)), (rd 0 x0_9 x0_1)⟩ : S68)] : List S68)).length))), (9, .c (.ref (.arg 0) [7] 0 x0_9.length)), (10, .c (.sc (.int .i64 x0_0))), (11, .c (.sc (.int .i64 (IntKind.i64.wrap (x0_1 + 1)))))], [(.arg 0, ⟨.box, 0, [.sc (.int .u32 x0_2), .sc (.int .i64 x0_3), .sc (.int .i64 x0_4), .sc (.int .i64 x0_5), .sc (.int .i64 x0_6), .sc (.int .i64 x0_7), .sc (.int .u32 x0_8), .own 1 x0_9.length (encL c_i64 x0_9), .sc (.int .i64 x0_10), .sc (.int .i64 x0_11), .sc (.int .i64 x0_12), .sc (.int .i64 x0_13), .sc (.bool x0_14)]⟩), (.tmp 3 20, ⟨.lst, 3, encL c68 (x0_15 ++ ([(⟨2, IntKind.u32.wrap (x0_8 + (IntKind.u32.wrap x0_1)), (rd 0 x0_9 x0_1)⟩ : S68)] : List S68))⟩)], [], []⟩) (((Weak.keep [0, 3, 9, 10, 11]).trans ((Weak.foc [(.arg 0, ⟨(.arg 0), [], none, .box⟩), (.tmp 3 20, ⟨(.tmp 3 20), [], none, .lst⟩)] rfl (by first | rfl | simp only [reduceCtorEq, Nat.reduceEqDiff, ak, akF, b12, b19]) (by simp [argK, akG, ak])).trans (Weak.of_eq (by first | rfl | (simp only [reduceCtorEq, Nat.reduceEqDiff, ak, akF, b12, b19]; done) | (simp [reduceCtorEq, Nat.reduceEqDiff, ak, akF, b12, b19]; done)))))) (ih _ _ _ h K hx0)
  · replace c8 := of_decide_eq_false c8; rw [if_neg c8] at h
    obtain rfl := Option.some.inj h
    refine gh_k (st' := ⟨[(3, .c (.ref (.tmp 3 20) [] 0 x0_15.length))], [(.arg 0, ⟨.box, 0, [.sc (.int .u32 x0_2), .sc (.int .i64 x0_3), .sc (.int .i64 x0_4), .sc (.int .i64 x0_5), .sc (.int .i64 x0_6), .sc (.int .i64 x0_7), .sc (.int .u32 x0_8), .own 1 x0_9.length (encL c_i64 x0_9), .sc (.int .i64 x0_10), .sc (.int .i64 x0_11), .sc (.int .i64 x0_12), .sc (.int .i64 x0_13), .sc (.bool x0_14)]⟩), (.tmp 3 20, ⟨.lst, 3, encL c68 x0_15⟩)], [], []⟩) (((Weak.keep [3]).trans ((Weak.foc [(.arg 0, ⟨(.arg 0), [], none, .box⟩), (.tmp 3 20, ⟨(.tmp 3 20), [], none, .lst⟩)] rfl (by first | rfl | simp only [reduceCtorEq, Nat.reduceEqDiff, ak, akF]) (by simp [argK, akG, ak])).trans (Weak.of_eq (by first | rfl | (simp only [reduceCtorEq, Nat.reduceEqDiff, ak, akF]; done) | (simp [reduceCtorEq, Nat.reduceEqDiff, ak, akF]; done)))))) ?_
    refine G0x _ _ ?_
    exact hx0
set_option maxRecDepth 100000 in
set_option maxHeartbeats 4000000 in
theorem impl_sender_again.tri (a0_0 : Int) (a0_1 : Int) (a0_2 : Int) (a0_3 : Int) (a0_4 : Int) (a0_5 : Int) (a0_6 : Int) (l0_7 : List Int) (a0_8 : Int) (a0_9 : Int) (a0_10 : Int) (a0_11 : Int) (a0_12 : Bool) (r : (List S68)) (h : impl_sender_again.f a0_0 a0_1 a0_2 a0_3 a0_4 a0_5 a0_6 l0_7 a0_8 a0_9 a0_10 a0_11 a0_12 = some r) : Tri Try.prog 182 [.c (.ptr (.arg 0) [] 0)] [(.arg 0, ⟨.box, 0, [.sc (.int .u32 a0_0), .sc (.int .i64 a0_1), .sc (.int .i64 a0_2), .sc (.int .i64 a0_3), .sc (.int .i64 a0_4), .sc (.int .i64 a0_5), .sc (.int .u32 a0_6), .own 1 l0_7.length (encL c_i64 l0_7), .sc (.int .i64 a0_8), .sc (.int .i64 a0_9), .sc (.int .i64 a0_10), .sc (.int .i64 a0_11), .sc (.bool a0_12)]⟩)] (fun o => o = ⟨.c (.ref (.res 0) [] 0 r.length), [(.arg 0, ⟨.box, 0, [.sc (.int .u32 a0_0), .sc (.int .i64 a0_1), .sc (.int .i64 a0_2), .sc (.int .i64 a0_3), .sc (.int .i64 a0_4), .sc (.int .i64 a0_5), .sc (.int .u32 a0_6), .own 1 l0_7.length (encL c_i64 l0_7), .sc (.int .i64 a0_8), .sc (.int .i64 a0_9), .sc (.int .i64 a0_10), .sc (.int .i64 a0_11), .sc (.bool a0_12)]⟩), (.res 0, ⟨.lst, 3, encL c68 r⟩)], [], []⟩) := by
  refine tri_of_body (ac := c182) (xs := r182) Try.func182 (show Try.f182.body = some (Try.f182.body.getD .skip) from rfl) k182 q182 (Nat.le_of_ble_eq_true rfl) ?_
  refine body_of fun K hKn hKr => ?_
  unfold impl_sender_again.f at h
  unfold c182
  simp only [initT, Nat.reduceAdd]
  refine seq_k fun J1 hJ1 => ?_
  refine reg_k ?_
  simp only [Nat.reduceEqDiff, Nat.reduceAdd, Nat.reduceMul, Nat.reduceLeDiff, Nat.reduceLT, Int.reduceLE, Int.reduceLT, Int.reduceGT, Int.reduceGE, Int.reduceEq, Int.reduceNe, Int.reduceToNat, reduceCtorEq, ak]
  refine gho_k (Weak.nm' 2 (.tmp 2 20) 3 (encL c68 ([] : List S68)) rfl rfl rfl) ?_
  simp only [Nat.reduceEqDiff, Nat.reduceAdd, Nat.reduceMul, Nat.reduceLeDiff, Nat.reduceLT, Int.reduceLE, Int.reduceLT, Int.reduceGT, Int.reduceGE, Int.reduceEq, Int.reduceNe, Int.reduceToNat, reduceCtorEq, ak]
  refine hJ1 _ ?_
  refine seq_k fun J2 hJ2 => ?_
  refine reg_k ?_
  simp only [Nat.reduceEqDiff, Nat.reduceAdd, Nat.reduceMul, Nat.reduceLeDiff, Nat.reduceLT, Int.reduceLE, Int.reduceLT, Int.reduceGT, Int.reduceGE, Int.reduceEq, Int.reduceNe, Int.reduceToNat, reduceCtorEq, ak]
  refine gho_k (Weak.nm' 3 (.tmp 3 20) 3 (encL c68 ([] : List S68)) rfl rfl rfl) ?_
  simp only [Nat.reduceEqDiff, Nat.reduceAdd, Nat.reduceMul, Nat.reduceLeDiff, Nat.reduceLT, Int.reduceLE, Int.reduceLT, Int.reduceGT, Int.reduceGE, Int.reduceEq, Int.reduceNe, Int.reduceToNat, reduceCtorEq, ak]
  refine hJ2 _ ?_
  refine seq_k fun J3 hJ3 => ?_
  refine seq_k fun J4 hJ4 => ?_
  refine reg_k ?_
  simp only [Nat.reduceEqDiff, Nat.reduceAdd, Nat.reduceMul, Nat.reduceLeDiff, Nat.reduceLT, Int.reduceLE, Int.reduceLT, Int.reduceGT, Int.reduceGE, Int.reduceEq, Int.reduceNe, Int.reduceToNat, reduceCtorEq, ak]
  refine hJ4 _ ?_
  refine block_k fun B5 B5n B5x B5r B5j => ?_
  obtain ⟨y23, h24, h⟩ := of_bind h
  refine gh_k (st' := ⟨[(0, .c (.ptr (.arg 0) [] 0)), (3, .c (.ref (.tmp 3 20) [] 0 (([] : List S68).length))), (9, .c (.ref (.arg 0) [7] 0 l0_7.length)), (10, .c (.sc (.int .i64 (l0_7.length : Int)))), (11, .c (.sc (.int .i64 0)))], [(.arg 0, ⟨.box, 0, [.sc (.int .u32 a0_0), .sc (.int .i64 a0_1), .sc (.int .i64 a0_2), .sc (.int .i64 a0_3), .sc (.int .i64 a0_4), .sc (.int .i64 a0_5), .sc (.int .u32 a0_6), .own 1 l0_7.length (encL c_i64 l0_7), .sc (.int .i64 a0_8), .sc (.int .i64 a0_9), .sc (.int .i64 a0_10), .sc (.int .i64 a0_11), .sc (.bool a0_12)]⟩), (.tmp 3 20, ⟨.lst, 3, encL c68 ([] : List S68)⟩)], [], []⟩) (((Weak.keep [0, 3, 9, 10, 11]).trans ((Weak.foc [(.arg 0, ⟨(.arg 0), [], none, .box⟩), (.tmp 3 20, ⟨(.tmp 3 20), [], none, .lst⟩)] rfl (by first | rfl | simp only [reduceCtorEq, Nat.reduceEqDiff, ak, akF]) (by simp [argK, akG, ak])).trans (Weak.of_eq (by first | rfl | (simp only [reduceCtorEq, Nat.reduceEqDiff, ak, akF]; done) | (simp [reduceCtorEq, Nat.reduceEqDiff, ak, akF]; done)))))) ?_
  rw [e_loop]
  refine impl_sender_again.l0_walk (l0_7.length : Int) a0_0 a0_1 a0_2 a0_3 a0_4 a0_5 a0_6 l0_7 a0_8 a0_9 a0_10 a0_11 a0_12 0 ([] : List S68) _ h24 _ ?_
  refine B5x _ ?_
  refine hJ3 _ ?_
  refine seq_k fun J25 hJ25 => ?_
  refine reg_k ?_
  simp only [Nat.reduceEqDiff, Nat.reduceAdd, Nat.reduceMul, Nat.reduceLeDiff, Nat.reduceLT, Int.reduceLE, Int.reduceLT, Int.reduceGT, Int.reduceGE, Int.reduceEq, Int.reduceNe, Int.reduceToNat, reduceCtorEq, ak]
  refine hJ25 _ ?_
  obtain rfl := Option.some.inj h
  refine hKr _ ⟨_, rfl, [⟨(.tmp 3 20), [], none, .lst⟩], _, rfl, rfl, ?_⟩
  first | rfl | (simp only [reduceCtorEq, Nat.reduceEqDiff, ak, akF]; done) | (simp [reduceCtorEq, Nat.reduceEqDiff, ak, akF]; done)
/-! ### (impl.ackSeq).happen: function 181 -/
def c181 : AC := .seq (.reg [.op none (.box 2 (.tmp 0)), .op none (.alloc 4 [.int .i64 0, .slice none 0 0, .slice none 0 0, .int .i64 0, .int .i64 0]), .gh, .keep [1, 2, 4]]) (.seq (.regD (.first (.op none (.faddr 7 0 (.tmp 2))) (.first (.op none (.load 8 false 1 (.tmp 7))) (.first (.op none (.mv 9 (.tmp 1))) (.first (.op none (.nilc 10 (.tmp 9))) (.first (.op none (.faddr 11 6 (.tmp 10))) (.first (.op none (.load 12 false 1 (.tmp 11))) (.first (.op none (.bin 13 .sub (.tmp 8) (.tmp 12))) (.first (.op none (.mv 5 (.tmp 13))) (.done))))))))) [1, 2, 4, 5]) (.seq (.seq (.reg [.op none (.mv 14 (.tmp 5)), .op none (.conv 15 .u64 (.tmp 14)), .op none (.mv 16 (.tmp 1)), .op none (.nilc 17 (.tmp 16)), .op none (.faddr 18 7 (.tmp 17)), .op none (.load 19 false 1 (.tmp 18)), .op none (.len 20 (.tmp 19)), .op none (.conv 21 .u64 (.tmp 20)), .op none (.bin 22 .gtr (.tmp 15) (.tmp 21)), .keep [1, 2, 4, 5, 22]]) (.cond (.tmp 22) (.seq (.reg [.op none (.build 23 [.int .i64 0, .slice none 0 0, .slice none 0 0, .int .i64 0, .int .i64 0] [(0, 1, .const (.int .i64 11))]), .gh, .op none (.store 5 (.tmp 4) (.tmp 23)), .keep [4]]) (.gh .ret)) (.skip))) (.seq (.reg [.op none (.mv 24 (.tmp 1)), .op none (.nilc 25 (.tmp 24)), .op none (.faddr 26 7 (.tmp 25)), .op none (.load 27 false 1 (.tmp 26)), .op none (.mv 28 (.tmp 5)), .op none (.slice 29 1 (.tmp 27) none (some (.tmp 28))), .op none (.app 30 1 8 false (.const (.slice none 0 0)) (.tmp 29)), .op none (.build 31 [.int .i64 0, .slice none 0 0, .slice none 0 0, .int .i64 0, .int .i64 0] [(2, 1, .tmp 30)]), .gh, .op none (.alloc 6 [.int .i64 0, .slice none 0 0, .slice none 0 0, .int .i64 0, .int .i64 0]), .gh, .op none (.store 5 (.tmp 6) (.tmp 31)), .keep [1, 2, 4, 5, 6]]) (.seq (.reg [.op none (.mv 32 (.tmp 1)), .op none (.mv 33 (.tmp 1)), .op none (.nilc 34 (.tmp 33)), .op none (.faddr 35 7 (.tmp 34)), .op none (.load 36 false 1 (.tmp 35)), .op none (.mv 37 (.tmp 5)), .op none (.slice 38 1 (.tmp 36) (some (.tmp 37)) none), .op none (.app 39 1 8 false (.const (.slice none 0 0)) (.tmp 38)), .op none (.nilc 40 (.tmp 32)), .op none (.faddr 41 7 (.tmp 40)), .op none (.store 1 (.tmp 41) (.tmp 39)), .keep [1, 2, 4, 5, 6]]) (.seq (.reg [.op none (.mv 42 (.tmp 1)), .op none (.faddr 43 0 (.tmp 2)), .op none (.load 44 false 1 (.tmp 43)), .op none (.nilc 45 (.tmp 42)), .op none (.faddr 46 6 (.tmp 45)), .op none (.store 1 (.tmp 46) (.tmp 44)), .keep [1, 4, 5, 6]]) (.seq (.ga (.seq (.reg [.op none (.mv 47 (.tmp 1)), .op none (.nilc 48 (.tmp 47)), .op none (.faddr 49 12 (.tmp 48)), .op none (.load 50 false 1 (.tmp 49)), .keep [1, 4, 5, 6, 50]]) (.cond (.tmp 50) (.seq (.reg [.op none (.mv 51 (.tmp 1)), .op none (.nilc 52 (.tmp 51)), .op none (.faddr 53 12 (.tmp 52)), .op none (.store 1 (.tmp 53) (.const (.bool false))), .keep [1, 4, 6]]) (.seq (.reg [.op none (.mv 54 (.tmp 1)), .op none (.nilc 55 (.tmp 54)), .op none (.faddr 56 11 (.tmp 55)), .op none (.store 1 (.tmp 56) (.const (.int .i64 0))), .keep [1, 4, 6]]) (.seq (.reg [.op none (.mv 57 (.tmp 1)), .call none (some 58) 179 [.tmp 57], .keep [1, 4, 6]]) (.seq (.reg [.op none (.faddr 59 4 (.tmp 6)), .op none (.store 1 (.tmp 59) (.const (.int .i64 1))), .keep [1, 4, 6]]) (.reg [.op none (.mv 60 (.tmp 1)), .call none (some 61) 182 [.tmp 60], .op none (.faddr 62 1 (.tmp 6)), .op none (.store 1 (.tmp 62) (.tmp 61)), .keep [4, 6]]))))) (.seq (.reg [.op none (.mv 63 (.tmp 5)), .op none (.bin 64 .gtr (.tmp 63) (.const (.int .u32 0))), .keep [1, 4, 6, 64]]) (.cond (.tmp 64) (.reg [.op none (.mv 65 (.tmp 1)), .call none (some 66) 179 [.tmp 65], .keep [4, 6]]) (.skip)))))) (.seq (.reg [.op none (.load 67 true 5 (.tmp 6)), .op none (.store 5 (.tmp 4) (.tmp 67)), .keep [4]]) (.gh .ret))))))))
def r181 : List RV := [.cell 4 true 5]
theorem k181 : compC Try.prog 68 c181 (Try.f181.body.getD .skip) = some c181.erase := by kernel_rfl
theorem q181 : rvsOf Try.prog Try.f181.results.toList = some r181 := by kernel_rfl
def impl_ackSeq_happen.f (a0_0 : Int) (a1_0 : Int) (a1_1 : Int) (a1_2 : Int) (a1_3 : Int) (a1_4 : Int) (a1_5 : Int) (a1_6 : Int) (l1_7 : List Int) (a1_8 : Int) (a1_9 : Int) (a1_10 : Int) (a1_11 : Int) (a1_12 : Bool) : Option (Int × (List S68) × (List Int) × Int × Int × Int × (List Int) × Int × Int × Int × Int × Bool) := (if IntKind.u64.wrap (IntKind.u32.wrap (a0_0 - a1_6)) > IntKind.u64.wrap (l1_7.length : Int) then (some (11, ([] : List S68), ([] : List Int), 0, 0, a1_6, l1_7, a1_8, a1_9, a1_10, a1_11, a1_12)) else (if 0 ≤ IntKind.u32.wrap (a0_0 - a1_6) ∧ IntKind.u32.wrap (a0_0 - a1_6) ≤ (l1_7.length : Int) then (if (0 + ((IntKind.u32.wrap (a0_0 - a1_6)).toNat - 0)) * 8 ≤ 140737488355328 then (if (0 + (l1_7.length - (IntKind.u32.wrap (a0_0 - a1_6)).toNat)) * 8 ≤ 140737488355328 then ((if a1_12 = true then (impl_sender_calm.f a1_0 a1_1 a1_2 a1_3 a1_4 a1_5 a0_0 (List.drop (IntKind.u32.wrap (a0_0 - a1_6)).toNat l1_7) a1_8 a1_9 a1_10 0 false >>= fun t38 => (impl_sender_again.f a1_0 a1_1 a1_2 a1_3 a1_4 a1_5 a0_0 (List.drop (IntKind.u32.wrap (a0_0 - a1_6)).toNat l1_7) t38.1 t38.2.1 t38.2.2 0 false >>= fun t42 => (some (t38.1, t38.2.1, t38.2.2, 0, false, t42, 1)))) else (if IntKind.u32.wrap (a0_0 - a1_6) > 0 then (impl_sender_calm.f a1_0 a1_1 a1_2 a1_3 a1_4 a1_5 a0_0 (List.drop (IntKind.u32.wrap (a0_0 - a1_6)).toNat l1_7) a1_8 a1_9 a1_10 a1_11 a1_12 >>= fun t48 => (some (t48.1, t48.2.1, t48.2.2, a1_11, a1_12, ([] : List S68), 0))) else (some (a1_8, a1_9, a1_10, a1_11, a1_12, ([] : List S68), 0)))) >>= fun (j29 : Int × Int × Int × Int × Bool × (List S68) × Int) => (some (0, j29.2.2.2.2.2.1, (List.take (IntKind.u32.wrap (a0_0 - a1_6)).toNat l1_7), 0, j29.2.2.2.2.2.2, a0_0, (List.drop (IntKind.u32.wrap (a0_0 - a1_6)).toNat l1_7), j29.1, j29.2.1, j29.2.2.1, j29.2.2.2.1, j29.2.2.2.2.1))) else none) else none) else none))
set_option maxRecDepth 100000 in
set_option maxHeartbeats 4000000 in
theorem impl_ackSeq_happen.tri (a0_0 : Int) (a1_0 : Int) (a1_1 : Int) (a1_2 : Int) (a1_3 : Int) (a1_4 : Int) (a1_5 : Int) (a1_6 : Int) (l1_7 : List Int) (a1_8 : Int) (a1_9 : Int) (a1_10 : Int) (a1_11 : Int) (a1_12 : Bool) (r : Int × (List S68) × (List Int) × Int × Int × Int × (List Int) × Int × Int × Int × Int × Bool) (h : impl_ackSeq_happen.f a0_0 a1_0 a1_1 a1_2 a1_3 a1_4 a1_5 a1_6 l1_7 a1_8 a1_9 a1_10 a1_11 a1_12 = some r) : Tri Try.prog 181 [.g [.sc (.int .u32 a0_0)], .c (.ptr (.arg 0) [] 0)] [(.arg 0, ⟨.box, 0, [.sc (.int .u32 a1_0), .sc (.int .i64 a1_1), .sc (.int .i64 a1_2), .sc (.int .i64 a1_3), .sc (.int .i64 a1_4), .sc (.int .i64 a1_5), .sc (.int .u32 a1_6), .own 1 l1_7.length (encL c_i64 l1_7), .sc (.int .i64 a1_8), .sc (.int .i64 a1_9), .sc (.int .i64 a1_10), .sc (.int .i64 a1_11), .sc (.bool a1_12)]⟩)] (fun o => o = ⟨.g [.sc (.int .i64 r.1), .ref (.res 0) [] 0 r.2.1.length, .ref (.res 1) [] 0 r.2.2.1.length, .sc (.int .i64 r.2.2.2.1), .sc (.int .i64 r.2.2.2.2.1)], [(.arg 0, ⟨.box, 0, [.sc (.int .u32 a1_0), .sc (.int .i64 a1_1), .sc (.int .i64 a1_2), .sc (.int .i64 a1_3), .sc (.int .i64 a1_4), .sc (.int .i64 a1_5), .sc (.int .u32 r.2.2.2.2.2.1), .own 1 r.2.2.2.2.2.2.1.length (encL c_i64 r.2.2.2.2.2.2.1), .sc (.int .i64 r.2.2.2.2.2.2.2.1), .sc (.int .i64 r.2.2.2.2.2.2.2.2.1), .sc (.int .i64 r.2.2.2.2.2.2.2.2.2.1), .sc (.int .i64 r.2.2.2.2.2.2.2.2.2.2.1), .sc (.bool r.2.2.2.2.2.2.2.2.2.2.2)]⟩), (.res 0, ⟨.lst, 3, encL c68 r.2.1⟩), (.res 1, ⟨.lst, 1, encL c_i64 r.2.2.1⟩)], [0], []⟩) := by
  refine tri_of_body (ac := c181) (xs := r181) Try.func181 (show Try.f181.body = some (Try.f181.body.getD .skip) from rfl) k181 q181 (Nat.le_of_ble_eq_true rfl) ?_
  refine body_of fun K hKn hKr => ?_
  unfold impl_ackSeq_happen.f at h
  unfold c181
  simp only [initT, Nat.reduceAdd]
  refine seq_k fun J1 hJ1 => ?_
  refine reg_k ?_
  simp only [Nat.reduceEqDiff, Nat.reduceAdd, Nat.reduceMul, Nat.reduceLeDiff, Nat.reduceLT, Int.reduceLE, Int.reduceLT, Int.reduceGT, Int.reduceGE, Int.reduceEq, Int.reduceNe, Int.reduceToNat, reduceCtorEq, ak]
  refine gho_k (Weak.own (.tmp 4 0) (cs' := [.sc (.int .i64 0), .own 3 (([] : List S68).length) (encL c68 ([] : List S68)), .own 1 (([] : List Int).length) (encL c_i64 ([] : List Int)), .sc (.int .i64 0), .sc (.int .i64 0)]) rfl ⟨.inl rfl, .inr ⟨rfl, _, rfl⟩, .inr ⟨rfl, _, rfl⟩, .inl rfl, .inl rfl, trivial⟩) ?_
  simp only [Nat.reduceEqDiff, Nat.reduceAdd, Nat.reduceMul, Nat.reduceLeDiff, Nat.reduceLT, Int.reduceLE, Int.reduceLT, Int.reduceGT, Int.reduceGE, Int.reduceEq, Int.reduceNe, Int.reduceToNat, reduceCtorEq, ak]
  refine hJ1 _ ?_
  refine seq_k fun J2 hJ2 => ?_
  refine regD_k ?_
  simp only [Nat.reduceBEq, Nat.reduceEqDiff, Nat.reduceAdd, Nat.reduceMul, Nat.reduceLeDiff, Nat.reduceLT, Int.reduceLE, Int.reduceLT, Int.reduceGT, Int.reduceGE, Int.reduceEq, Int.reduceNe, Int.reduceToNat, reduceCtorEq, ak]
  refine hJ2 _ ?_
  refine seq_k fun J3 hJ3 => ?_
  refine seq_k fun J4 hJ4 => ?_
  refine reg_k ?_
  simp only [Nat.reduceEqDiff, Nat.reduceAdd, Nat.reduceMul, Nat.reduceLeDiff, Nat.reduceLT, Int.reduceLE, Int.reduceLT, Int.reduceGT, Int.reduceGE, Int.reduceEq, Int.reduceNe, Int.reduceToNat, reduceCtorEq, ak]
  refine hJ4 _ ?_
  refine cond_k (b := decide (IntKind.u64.wrap (IntKind.u32.wrap (a0_0 - a1_6)) > IntKind.u64.wrap (l1_7.length : Int))) rfl (fun c5 => ?_) (fun c5 => ?_)
  · replace c5 := of_decide_eq_true c5; rw [if_pos c5] at h
    refine seq_k fun J6 hJ6 => ?_
    refine reg_k ?_
    simp only [Nat.reduceEqDiff, Nat.reduceAdd, Nat.reduceMul, Nat.reduceLeDiff, Nat.reduceLT, Int.reduceLE, Int.reduceLT, Int.reduceGT, Int.reduceGE, Int.reduceEq, Int.reduceNe, Int.reduceToNat, reduceCtorEq, ak]
    refine gho_k ((Weak.nmg' 23 1 (.tmp 23 21) 3 (encL c68 ([] : List S68)) rfl rfl rfl rfl).trans (Weak.nmg' 23 2 (.tmp 23 22) 1 (encL c_i64 ([] : List Int)) rfl rfl rfl rfl)) ?_
    have g7 : (encL c68 ([] : List S68)).length = 0 * 3 := by simp [encL_length c68_w]
    have g8 : (encL c_i64 ([] : List Int)).length = 0 * 1 := by simp [encL_length c_i64_w]
    simp only [Nat.reduceEqDiff, Nat.reduceAdd, Nat.reduceMul, Nat.reduceLeDiff, Nat.reduceLT, Int.reduceLE, Int.reduceLT, Int.reduceGT, Int.reduceGE, Int.reduceEq, Int.reduceNe, Int.reduceToNat, reduceCtorEq, ak, g7, g8]
    refine hJ6 _ ?_
    refine gh_k (Weak.mark [0] [] (by simp) (by simp)) ?_
    obtain rfl := Option.some.inj h
    refine hKr _ ⟨_, rfl, [⟨(.tmp 4 0), [1], none, .lst⟩, ⟨(.tmp 4 0), [2], none, .lst⟩], _, rfl, rfl, ?_⟩
    first | rfl | (simp only [reduceCtorEq, Nat.reduceEqDiff, ak, akF]; done) | (simp [reduceCtorEq, Nat.reduceEqDiff, ak, akF]; done)
  · replace c5 := of_decide_eq_false c5; rw [if_neg c5] at h
    refine hJ3 _ ?_
    refine seq_k fun J9 hJ9 => ?_
    refine reg_k ?_
    obtain ⟨b10, h⟩ := of_guard h
    have g11 : 0 ≤ IntKind.u32.wrap (a0_0 - a1_6) := (by have := b10; omega)
    have g12 : 0 ≤ (IntKind.u32.wrap (a0_0 - a1_6)).toNat := (by have := b10; omega)
    have g13 : (IntKind.u32.wrap (a0_0 - a1_6)).toNat ≤ l1_7.length := (by have := b10; omega)
    have g14 : (List.take (IntKind.u32.wrap (a0_0 - a1_6)).toNat l1_7).length = (IntKind.u32.wrap (a0_0 - a1_6)).toNat - 0 := by have := b10; have h0 : l1_7.length = l1_7.length := (by simp); simp only [List.length_drop, List.length_take] <;> omega
    have g15 : (encL c_i64 l1_7).take (((IntKind.u32.wrap (a0_0 - a1_6)).toNat - 0) * 1) = encL c_i64 (List.take (IntKind.u32.wrap (a0_0 - a1_6)).toNat l1_7) := by simpa [g14] using ((Vw.whole c_i64_w l1_7).upto (b := (IntKind.u32.wrap (a0_0 - a1_6)).toNat) (by have := b10; omega)).all
    have g16 : (encL c_i64 (List.take (IntKind.u32.wrap (a0_0 - a1_6)).toNat l1_7)).all isSc = true := encL_all (fun _ => rfl) _
    obtain ⟨b17, h⟩ := of_guard h
    have g18 : appLim 0 ((IntKind.u32.wrap (a0_0 - a1_6)).toNat - 0) 8 := ⟨b17, by have := b17; omega⟩
    simp only [Nat.reduceEqDiff, Nat.reduceAdd, Nat.reduceMul, Nat.reduceLeDiff, Nat.reduceLT, Int.reduceLE, Int.reduceLT, Int.reduceGT, Int.reduceGE, Int.reduceEq, Int.reduceNe, Int.reduceToNat, reduceCtorEq, ak, g11, g12, g13, g15, g16, g18]
    refine gho_k (Weak.nmg' 31 1 (.tmp 31 21) 3 (encL c68 ([] : List S68)) rfl rfl rfl rfl) ?_
    simp only [Nat.reduceEqDiff, Nat.reduceAdd, Nat.reduceMul, Nat.reduceLeDiff, Nat.reduceLT, Int.reduceLE, Int.reduceLT, Int.reduceGT, Int.reduceGE, Int.reduceEq, Int.reduceNe, Int.reduceToNat, reduceCtorEq, ak]
    refine gho_k (Weak.own (.tmp 6 0) (cs' := [.sc (.int .i64 0), .own 3 (([] : List S68).length) (encL c68 ([] : List S68)), .own 1 (([] : List Int).length) (encL c_i64 ([] : List Int)), .sc (.int .i64 0), .sc (.int .i64 0)]) rfl ⟨.inl rfl, .inr ⟨rfl, _, rfl⟩, .inr ⟨rfl, _, rfl⟩, .inl rfl, .inl rfl, trivial⟩) ?_
    have g19 : (encL c68 ([] : List S68)).length = 0 * 3 := by simp [encL_length c68_w, g14]
    have g20 : (encL c_i64 (List.take (IntKind.u32.wrap (a0_0 - a1_6)).toNat l1_7)).length = (0 + ((IntKind.u32.wrap (a0_0 - a1_6)).toNat - 0)) * 1 := by simp [encL_length c_i64_w, g14]
    simp only [Nat.reduceEqDiff, Nat.reduceAdd, Nat.reduceMul, Nat.reduceLeDiff, Nat.reduceLT, Int.reduceLE, Int.reduceLT, Int.reduceGT, Int.reduceGE, Int.reduceEq, Int.reduceNe, Int.reduceToNat, reduceCtorEq, ak, g19, g20]
    refine hJ9 _ ?_
    refine seq_k fun J21 hJ21 => ?_
    refine reg_k ?_
    have g22 : (List.drop (IntKind.u32.wrap (a0_0 - a1_6)).toNat l1_7).length = l1_7.length - (IntKind.u32.wrap (a0_0 - a1_6)).toNat := by have := b10; have h0 : l1_7.length = l1_7.length := (by simp [g14]); simp only [List.length_drop, List.length_take] <;> omega
    have g23 : (List.drop (0 + (IntKind.u32.wrap (a0_0 - a1_6)).toNat * 1) (encL c_i64 l1_7)).take ((l1_7.length - (IntKind.u32.wrap (a0_0 - a1_6)).toNat) * 1) = encL c_i64 (List.drop (IntKind.u32.wrap (a0_0 - a1_6)).toNat l1_7) := by simpa [g14, g22] using ((Vw.whole c_i64_w l1_7).from (a := (IntKind.u32.wrap (a0_0 - a1_6)).toNat) (by have := b10; omega)).all
    have g24 : (encL c_i64 (List.drop (IntKind.u32.wrap (a0_0 - a1_6)).toNat l1_7)).all isSc = true := encL_all (fun _ => rfl) _
    obtain ⟨b25, h⟩ := of_guard h
    have g26 : appLim 0 (l1_7.length - (IntKind.u32.wrap (a0_0 - a1_6)).toNat) 8 := ⟨b25, by have := b25; omega⟩
    have g27 : (encL c_i64 (List.drop (IntKind.u32.wrap (a0_0 - a1_6)).toNat l1_7)).length = (0 + (l1_7.length - (IntKind.u32.wrap (a0_0 - a1_6)).toNat)) * 1 := by simp [encL_length c_i64_w, g14, g22]
    simp only [Nat.reduceEqDiff, Nat.reduceAdd, Nat.reduceMul, Nat.reduceLeDiff, Nat.reduceLT, Int.reduceLE, Int.reduceLT, Int.reduceGT, Int.reduceGE, Int.reduceEq, Int.reduceNe, Int.reduceToNat, reduceCtorEq, ak, g11, g13, Nat.le_refl, g23, g24, g26, g27]
    refine hJ21 _ ?_
    refine seq_k fun J28 hJ28 => ?_
    refine reg_k ?_
    simp only [Nat.reduceEqDiff, Nat.reduceAdd, Nat.reduceMul, Nat.reduceLeDiff, Nat.reduceLT, Int.reduceLE, Int.reduceLT, Int.reduceGT, Int.reduceGE, Int.reduceEq, Int.reduceNe, Int.reduceToNat, reduceCtorEq, ak]
    refine hJ28 _ ?_
    obtain ⟨j29, h30, hn⟩ := of_bind h
    refine seq_j (fun st => st = ⟨[(4, .c (.ptr (.tmp 4 0) [] 0)), (6, .c (.ptr (.tmp 6 0) [] 0))], [(.arg 0, ⟨.box, 0, [.sc (.int .u32 a1_0), .sc (.int .i64 a1_1), .sc (.int .i64 a1_2), .sc (.int .i64 a1_3), .sc (.int .i64 a1_4), .sc (.int .i64 a1_5), .sc (.int .u32 a0_0), .own 1 (0 + (l1_7.length - (IntKind.u32.wrap (a0_0 - a1_6)).toNat)) (encL c_i64 (List.drop (IntKind.u32.wrap (a0_0 - a1_6)).toNat l1_7)), .sc (.int .i64 j29.1), .sc (.int .i64 j29.2.1), .sc (.int .i64 j29.2.2.1), .sc (.int .i64 j29.2.2.2.1), .sc (.bool j29.2.2.2.2.1)]⟩), (.tmp 4 0, ⟨.box, 0, [.sc (.int .i64 0), .own 3 (([] : List S68).length) (encL c68 ([] : List S68)), .own 1 (([] : List Int).length) (encL c_i64 ([] : List Int)), .sc (.int .i64 0), .sc (.int .i64 0)]⟩), (.tmp 6 0, ⟨.box, 0, [.sc (.int .i64 0), .own 3 j29.2.2.2.2.2.1.length (encL c68 j29.2.2.2.2.2.1), .own 1 (0 + ((IntKind.u32.wrap (a0_0 - a1_6)).toNat - 0)) (encL c_i64 (List.take (IntKind.u32.wrap (a0_0 - a1_6)).toNat l1_7)), .sc (.int .i64 0), .sc (.int .i64 j29.2.2.2.2.2.2)]⟩)], [0], []⟩) (fun J31 hJ31 => ?_) ?_
    · replace h := h30; clear hn
      refine ga_k fun G32 G32n G32r G32x => ?_
      refine seq_k fun J33 hJ33 => ?_
      refine reg_k ?_
      simp only [Nat.reduceEqDiff, Nat.reduceAdd, Nat.reduceMul, Nat.reduceLeDiff, Nat.reduceLT, Int.reduceLE, Int.reduceLT, Int.reduceGT, Int.reduceGE, Int.reduceEq, Int.reduceNe, Int.reduceToNat, reduceCtorEq, ak]
      refine hJ33 _ ?_
      refine cond_k (b := a1_12) rfl (fun c34 => ?_) (fun c34 => ?_)
      · rw [if_pos c34] at h
        refine seq_k fun J35 hJ35 => ?_
        refine reg_k ?_
        simp only [Nat.reduceEqDiff, Nat.reduceAdd, Nat.reduceMul, Nat.reduceLeDiff, Nat.reduceLT, Int.reduceLE, Int.reduceLT, Int.reduceGT, Int.reduceGE, Int.reduceEq, Int.reduceNe, Int.reduceToNat, reduceCtorEq, ak]
        refine hJ35 _ ?_
        refine seq_k fun J36 hJ36 => ?_
        refine reg_k ?_
        simp only [Nat.reduceEqDiff, Nat.reduceAdd, Nat.reduceMul, Nat.reduceLeDiff, Nat.reduceLT, Int.reduceLE, Int.reduceLT, Int.reduceGT, Int.reduceGE, Int.reduceEq, Int.reduceNe, Int.reduceToNat, reduceCtorEq, ak]
        refine hJ36 _ ?_
        refine seq_k fun J37 hJ37 => ?_
        refine reg_k ?_
        simp only [Nat.reduceEqDiff, Nat.reduceAdd, Nat.reduceMul, Nat.reduceLeDiff, Nat.reduceLT, Int.reduceLE, Int.reduceLT, Int.reduceGT, Int.reduceGE, Int.reduceEq, Int.reduceNe, Int.reduceToNat, reduceCtorEq, ak]
        obtain ⟨t38, h39, h⟩ := of_bind h
        refine call_m [(.arg 0, ⟨(.arg 0), [], none, .box⟩)] (s0 := [(.arg 0, ⟨.box, 0, [.sc (.int .u32 a1_0), .sc (.int .i64 a1_1), .sc (.int .i64 a1_2), .sc (.int .i64 a1_3), .sc (.int .i64 a1_4), .sc (.int .i64 a1_5), .sc (.int .u32 a0_0), .own 1 ((List.drop (IntKind.u32.wrap (a0_0 - a1_6)).toNat l1_7).length) (encL c_i64 (List.drop (IntKind.u32.wrap (a0_0 - a1_6)).toNat l1_7)), .sc (.int .i64 a1_8), .sc (.int .i64 a1_9), .sc (.int .i64 a1_10), .sc (.int .i64 0), .sc (.bool false)]⟩)]) (by intro t ht; cases ht; decide) rfl rfl (by first | rfl | simp only [reduceCtorEq, Nat.reduceEqDiff, ak, akF, b10, b17, b25, g11, g12, g13, g14, g15, g16, g18, g19, g20, g22, g23, g24, g26, g27, (show 0 + (l1_7.length - (IntKind.u32.wrap (a0_0 - a1_6)).toNat) = (List.drop (IntKind.u32.wrap (a0_0 - a1_6)).toNat l1_7).length by simp [g14, g22])]) (impl_sender_calm.tri a1_0 a1_1 a1_2 a1_3 a1_4 a1_5 a0_0 (List.drop (IntKind.u32.wrap (a0_0 - a1_6)).toNat l1_7) a1_8 a1_9 a1_10 0 false _ h39) (by first | rfl | simp only [reduceCtorEq, Nat.reduceEqDiff, ak, akF, (show 0 + (l1_7.length - (IntKind.u32.wrap (a0_0 - a1_6)).toNat) = (List.drop (IntKind.u32.wrap (a0_0 - a1_6)).toNat l1_7).length by simp [g14, g22])]) (by simp [bkOk2, memK]) (fun hl39 => ?_)
        refine call_st (s4 := [(.arg 0, ⟨.box, 0, [.sc (.int .u32 a1_0), .sc (.int .i64 a1_1), .sc (.int .i64 a1_2), .sc (.int .i64 a1_3), .sc (.int .i64 a1_4), .sc (.int .i64 a1_5), .sc (.int .u32 a0_0), .own 1 (0 + (l1_7.length - (IntKind.u32.wrap (a0_0 - a1_6)).toNat)) (encL c_i64 (List.drop (IntKind.u32.wrap (a0_0 - a1_6)).toNat l1_7)), .sc (.int .i64 t38.1), .sc (.int .i64 t38.2.1), .sc (.int .i64 t38.2.2), .sc (.int .i64 0), .sc (.bool false)]⟩), (.tmp 2 0, ⟨.box, 0, [.sc (.int .u32 a0_0)]⟩), (.tmp 4 0, ⟨.box, 0, [.sc (.int .i64 0), .own 3 (([] : List S68).length) (encL c68 ([] : List S68)), .own 1 (([] : List Int).length) (encL c_i64 ([] : List Int)), .sc (.int .i64 0), .sc (.int .i64 0)]⟩), (.tmp 6 0, ⟨.box, 0, [.sc (.int .i64 0), .own 3 0 (encL c68 ([] : List S68)), .own 1 (0 + ((IntKind.u32.wrap (a0_0 - a1_6)).toNat - 0)) (encL c_i64 (List.take (IntKind.u32.wrap (a0_0 - a1_6)).toNat l1_7)), .sc (.int .i64 0), .sc (.int .i64 0)]⟩)]) (m1' := [0]) (m2' := []) (v' := .tup []) (Sto.mapN_killNil _ _) (mrgL_whole (new' := [.sc (.int .u32 a1_0), .sc (.int .i64 a1_1), .sc (.int .i64 a1_2), .sc (.int .i64 a1_3), .sc (.int .i64 a1_4), .sc (.int .i64 a1_5), .sc (.int .u32 a0_0), .own 1 (0 + (l1_7.length - (IntKind.u32.wrap (a0_0 - a1_6)).toNat)) (encL c_i64 (List.drop (IntKind.u32.wrap (a0_0 - a1_6)).toNat l1_7)), .sc (.int .i64 t38.1), .sc (.int .i64 t38.2.1), .sc (.int .i64 t38.2.2), .sc (.int .i64 0), .sc (.bool false)]) (mrgL_nil' _ _ _) rfl (by rfl) (.inl ⟨rfl, by first | rfl | simp only [reduceCtorEq, Nat.reduceEqDiff, ak, akF, Nat.zero_add, List.append_nil, b10, b17, b25, g14, g22]⟩)) (by rfl) (mapT_killNil _ _) (by rfl) (by rfl) (by first | rfl | simp only [reduceCtorEq, Nat.reduceEqDiff, ak, akF, Nat.zero_add, List.append_nil, b10, b17, b25, g14, g22]) ?_
        simp only [Nat.reduceEqDiff, Nat.reduceAdd, Nat.reduceMul, Nat.reduceLeDiff, Nat.reduceLT, Int.reduceLE, Int.reduceLT, Int.reduceGT, Int.reduceGE, Int.reduceEq, Int.reduceNe, Int.reduceToNat, reduceCtorEq, ak]
        refine hJ37 _ ?_
        refine seq_k fun J41 hJ41 => ?_
        refine reg_k ?_
        simp only [Nat.reduceEqDiff, Nat.reduceAdd, Nat.reduceMul, Nat.reduceLeDiff, Nat.reduceLT, Int.reduceLE, Int.reduceLT, Int.reduceGT, Int.reduceGE, Int.reduceEq, Int.reduceNe, Int.reduceToNat, reduceCtorEq, ak]
        refine hJ41 _ ?_
        refine reg_k ?_
        simp only [Nat.reduceEqDiff, Nat.reduceAdd, Nat.reduceMul, Nat.reduceLeDiff, Nat.reduceLT, Int.reduceLE, Int.reduceLT, Int.reduceGT, Int.reduceGE, Int.reduceEq, Int.reduceNe, Int.reduceToNat, reduceCtorEq, ak]
        obtain ⟨t42, h43, h⟩ := of_bind h
        refine call_m [(.arg 0, ⟨(.arg 0), [], none, .box⟩)] (s0 := [(.arg 0, ⟨.box, 0, [.sc (.int .u32 a1_0), .sc (.int .i64 a1_1), .sc (.int .i64 a1_2), .sc (.int .i64 a1_3), .sc (.int .i64 a1_4), .sc (.int .i64 a1_5), .sc (.int .u32 a0_0), .own 1 ((List.drop (IntKind.u32.wrap (a0_0 - a1_6)).toNat l1_7).length) (encL c_i64 (List.drop (IntKind.u32.wrap (a0_0 - a1_6)).toNat l1_7)), .sc (.int .i64 t38.1), .sc (.int .i64 t38.2.1), .sc (.int .i64 t38.2.2), .sc (.int .i64 0), .sc (.bool false)]⟩)]) (by intro t ht; cases ht; decide) rfl rfl (by first | rfl | simp only [reduceCtorEq, Nat.reduceEqDiff, ak, akF, b10, b17, b25, g11, g12, g13, g14, g15, g16, g18, g19, g20, g22, g23, g24, g26, g27, (show 0 + (l1_7.length - (IntKind.u32.wrap (a0_0 - a1_6)).toNat) = (List.drop (IntKind.u32.wrap (a0_0 - a1_6)).toNat l1_7).length by simp [g14, g22])]) (impl_sender_again.tri a1_0 a1_1 a1_2 a1_3 a1_4 a1_5 a0_0 (List.drop (IntKind.u32.wrap (a0_0 - a1_6)).toNat l1_7) t38.1 t38.2.1 t38.2.2 0 false _ h43) (by first | rfl | simp only [reduceCtorEq, Nat.reduceEqDiff, ak, akF, (show 0 + (l1_7.length - (IntKind.u32.wrap (a0_0 - a1_6)).toNat) = (List.drop (IntKind.u32.wrap (a0_0 - a1_6)).toNat l1_7).length by simp [g14, g22])]) (by simp [bkOk2, memK]) (fun hl43 => ?_)
        refine call_st (s4 := [(.arg 0, ⟨.box, 0, [.sc (.int .u32 a1_0), .sc (.int .i64 a1_1), .sc (.int .i64 a1_2), .sc (.int .i64 a1_3), .sc (.int .i64 a1_4), .sc (.int .i64 a1_5), .sc (.int .u32 a0_0), .own 1 (0 + (l1_7.length - (IntKind.u32.wrap (a0_0 - a1_6)).toNat)) (encL c_i64 (List.drop (IntKind.u32.wrap (a0_0 - a1_6)).toNat l1_7)), .sc (.int .i64 t38.1), .sc (.int .i64 t38.2.1), .sc (.int .i64 t38.2.2), .sc (.int .i64 0), .sc (.bool false)]⟩), (.tmp 2 0, ⟨.box, 0, [.sc (.int .u32 a0_0)]⟩), (.tmp 4 0, ⟨.box, 0, [.sc (.int .i64 0), .own 3 (([] : List S68).length) (encL c68 ([] : List S68)), .own 1 (([] : List Int).length) (encL c_i64 ([] : List Int)), .sc (.int .i64 0), .sc (.int .i64 0)]⟩), (.tmp 6 0, ⟨.box, 0, [.sc (.int .i64 0), .own 3 0 (encL c68 ([] : List S68)), .own 1 (0 + ((IntKind.u32.wrap (a0_0 - a1_6)).toNat - 0)) (encL c_i64 (List.take (IntKind.u32.wrap (a0_0 - a1_6)).toNat l1_7)), .sc (.int .i64 0), .sc (.int .i64 1)]⟩), (.tmp 61 0, ⟨.lst, 3, encL c68 t42⟩)]) (m1' := [0]) (m2' := []) (v' := .c (.ref (.tmp 61 0) [] 0 t42.length)) (Sto.mapN_killNil _ _) (mrgL_whole (new' := [.sc (.int .u32 a1_0), .sc (.int .i64 a1_1), .sc (.int .i64 a1_2), .sc (.int .i64 a1_3), .sc (.int .i64 a1_4), .sc (.int .i64 a1_5), .sc (.int .u32 a0_0), .own 1 (0 + (l1_7.length - (IntKind.u32.wrap (a0_0 - a1_6)).toNat)) (encL c_i64 (List.drop (IntKind.u32.wrap (a0_0 - a1_6)).toNat l1_7)), .sc (.int .i64 t38.1), .sc (.int .i64 t38.2.1), .sc (.int .i64 t38.2.2), .sc (.int .i64 0), .sc (.bool false)]) (mrgL_nil' _ _ _) rfl (by rfl) (.inl ⟨rfl, by first | rfl | simp only [reduceCtorEq, Nat.reduceEqDiff, ak, akF, Nat.zero_add, List.append_nil, b10, b17, b25, g14, g22]⟩)) (by rfl) (mapT_killNil _ _) (by rfl) (by rfl) (by first | rfl | simp only [reduceCtorEq, Nat.reduceEqDiff, ak, akF, Nat.zero_add, List.append_nil, b10, b17, b25, g14, g22]) ?_
        have g45 : (encL c68 t42).length = t42.length * 3 := by simp [encL_length c68_w, g14, g22]
        simp only [Nat.reduceEqDiff, Nat.reduceAdd, Nat.reduceMul, Nat.reduceLeDiff, Nat.reduceLT, Int.reduceLE, Int.reduceLT, Int.reduceGT, Int.reduceGE, Int.reduceEq, Int.reduceNe, Int.reduceToNat, reduceCtorEq, ak, g45]
        obtain rfl := Option.some.inj h
        refine G32n _ _ ((Weak.mark [0] [] (by simp) (by simp)).trans ((Weak.keep [4, 6]).trans ((Weak.foc [(.arg 0, ⟨(.arg 0), [], none, .box⟩), (.tmp 4 0, ⟨(.tmp 4 0), [], none, .box⟩), (.tmp 6 0, ⟨(.tmp 6 0), [], none, .box⟩)] rfl (by first | rfl | simp only [reduceCtorEq, Nat.reduceEqDiff, ak, akF, b10, b17, b25, g14, g22]) (by simp [argK, akG, ak])).trans (Weak.of_eq (by first | rfl | (simp only [reduceCtorEq, Nat.reduceEqDiff, ak, akF, b10, b17, b25, g14, g22]; done) | (simp [reduceCtorEq, Nat.reduceEqDiff, ak, akF, b10, b17, b25, g14, g22]; done)))))) (hJ31 _ rfl)
      · rw [if_neg (Bool.eq_false_iff.1 c34)] at h
        refine seq_k fun J46 hJ46 => ?_
        refine reg_k ?_
        simp only [Nat.reduceEqDiff, Nat.reduceAdd, Nat.reduceMul, Nat.reduceLeDiff, Nat.reduceLT, Int.reduceLE, Int.reduceLT, Int.reduceGT, Int.reduceGE, Int.reduceEq, Int.reduceNe, Int.reduceToNat, reduceCtorEq, ak]
        refine hJ46 _ ?_
        refine cond_k (b := decide (IntKind.u32.wrap (a0_0 - a1_6) > 0)) rfl (fun c47 => ?_) (fun c47 => ?_)
        · replace c47 := of_decide_eq_true c47; rw [if_pos c47] at h
          refine reg_k ?_
          simp only [Nat.reduceEqDiff, Nat.reduceAdd, Nat.reduceMul, Nat.reduceLeDiff, Nat.reduceLT, Int.reduceLE, Int.reduceLT, Int.reduceGT, Int.reduceGE, Int.reduceEq, Int.reduceNe, Int.reduceToNat, reduceCtorEq, ak]
          obtain ⟨t48, h49, h⟩ := of_bind h
          refine call_m [(.arg 0, ⟨(.arg 0), [], none, .box⟩)] (s0 := [(.arg 0, ⟨.box, 0, [.sc (.int .u32 a1_0), .sc (.int .i64 a1_1), .sc (.int .i64 a1_2), .sc (.int .i64 a1_3), .sc (.int .i64 a1_4), .sc (.int .i64 a1_5), .sc (.int .u32 a0_0), .own 1 ((List.drop (IntKind.u32.wrap (a0_0 - a1_6)).toNat l1_7).length) (encL c_i64 (List.drop (IntKind.u32.wrap (a0_0 - a1_6)).toNat l1_7)), .sc (.int .i64 a1_8), .sc (.int .i64 a1_9), .sc (.int .i64 a1_10), .sc (.int .i64 a1_11), .sc (.bool a1_12)]⟩)]) (by intro t ht; cases ht; decide) rfl rfl (by first | rfl | simp only [reduceCtorEq, Nat.reduceEqDiff, ak, akF, b10, b17, b25, g11, g12, g13, g14, g15, g16, g18, g19, g20, g22, g23, g24, g26, g27, (show 0 + (l1_7.length - (IntKind.u32.wrap (a0_0 - a1_6)).toNat) = (List.drop (IntKind.u32.wrap (a0_0 - a1_6)).toNat l1_7).length by simp [g14, g22])]) (impl_sender_calm.tri a1_0 a1_1 a1_2 a1_3 a1_4 a1_5 a0_0 (List.drop (IntKind.u32.wrap (a0_0 - a1_6)).toNat l1_7) a1_8 a1_9 a1_10 a1_11 a1_12 _ h49) (by first | rfl | simp only [reduceCtorEq, Nat.reduceEqDiff, ak, akF, (show 0 + (l1_7.length - (IntKind.u32.wrap (a0_0 - a1_6)).toNat) = (List.drop (IntKind.u32.wrap (a0_0 - a1_6)).toNat l1_7).length by simp [g14, g22])]) (by simp [bkOk2, memK]) (fun hl49 => ?_)
          refine call_st (s4 := [(.arg 0, ⟨.box, 0, [.sc (.int .u32 a1_0), .sc (.int .i64 a1_1), .sc (.int .i64 a1_2), .sc (.int .i64 a1_3), .sc (.int .i64 a1_4), .sc (.int .i64 a1_5), .sc (.int .u32 a0_0), .own 1 (0 + (l1_7.length - (IntKind.u32.wrap (a0_0 - a1_6)).toNat)) (encL c_i64 (List.drop (IntKind.u32.wrap (a0_0 - a1_6)).toNat l1_7)), .sc (.int .i64 t48.1), .sc (.int .i64 t48.2.1), .sc (.int .i64 t48.2.2), .sc (.int .i64 a1_11), .sc (.bool a1_12)]⟩), (.tmp 2 0, ⟨.box, 0, [.sc (.int .u32 a0_0)]⟩), (.tmp 4 0, ⟨.box, 0, [.sc (.int .i64 0), .own 3 (([] : List S68).length) (encL c68 ([] : List S68)), .own 1 (([] : List Int).length) (encL c_i64 ([] : List Int)), .sc (.int .i64 0), .sc (.int .i64 0)]⟩), (.tmp 6 0, ⟨.box, 0, [.sc (.int .i64 0), .own 3 0 (encL c68 ([] : List S68)), .own 1 (0 + ((IntKind.u32.wrap (a0_0 - a1_6)).toNat - 0)) (encL c_i64 (List.take (IntKind.u32.wrap (a0_0 - a1_6)).toNat l1_7)), .sc (.int .i64 0), .sc (.int .i64 0)]⟩)]) (m1' := [0]) (m2' := []) (v' := .tup []) (Sto.mapN_killNil _ _) (mrgL_whole (new' := [.sc (.int .u32 a1_0), .sc (.int .i64 a1_1), .sc (.int .i64 a1_2), .sc (.int .i64 a1_3), .sc (.int .i64 a1_4), .sc (.int .i64 a1_5), .sc (.int .u32 a0_0), .own 1 (0 + (l1_7.length - (IntKind.u32.wrap (a0_0 - a1_6)).toNat)) (encL c_i64 (List.drop (IntKind.u32.wrap (a0_0 - a1_6)).toNat l1_7)), .sc (.int .i64 t48.1), .sc (.int .i64 t48.2.1), .sc (.int .i64 t48.2.2), .sc (.int .i64 a1_11), .sc (.bool a1_12)]) (mrgL_nil' _ _ _) rfl (by rfl) (.inl ⟨rfl, by first | rfl | simp only [reduceCtorEq, Nat.reduceEqDiff, ak, akF, Nat.zero_add, List.append_nil, b10, b17, b25, g14, g22]⟩)) (by rfl) (mapT_killNil _ _) (by rfl) (by rfl) (by first | rfl | simp only [reduceCtorEq, Nat.reduceEqDiff, ak, akF, Nat.zero_add, List.append_nil, b10, b17, b25, g14, g22]) ?_
          simp only [Nat.reduceEqDiff, Nat.reduceAdd, Nat.reduceMul, Nat.reduceLeDiff, Nat.reduceLT, Int.reduceLE, Int.reduceLT, Int.reduceGT, Int.reduceGE, Int.reduceEq, Int.reduceNe, Int.reduceToNat, reduceCtorEq, ak]
          obtain rfl := Option.some.inj h
          refine G32n _ _ ((Weak.mark [0] [] (by simp) (by simp)).trans ((Weak.keep [4, 6]).trans ((Weak.foc [(.arg 0, ⟨(.arg 0), [], none, .box⟩), (.tmp 4 0, ⟨(.tmp 4 0), [], none, .box⟩), (.tmp 6 0, ⟨(.tmp 6 0), [], none, .box⟩)] rfl (by first | rfl | simp only [reduceCtorEq, Nat.reduceEqDiff, ak, akF, b10, b17, b25, g14, g22]) (by simp [argK, akG, ak])).trans (Weak.of_eq (by first | rfl | (simp only [reduceCtorEq, Nat.reduceEqDiff, ak, akF, b10, b17, b25, g14, g22]; done) | (simp [reduceCtorEq, Nat.reduceEqDiff, ak, akF, b10, b17, b25, g14, g22]; done)))))) (hJ31 _ rfl)
        · replace c47 := of_decide_eq_false c47; rw [if_neg c47] at h
          obtain rfl := Option.some.inj h
          refine G32n _ _ ((Weak.mark [0] [] (by simp) (by simp)).trans ((Weak.keep [4, 6]).trans ((Weak.foc [(.arg 0, ⟨(.arg 0), [], none, .box⟩), (.tmp 4 0, ⟨(.tmp 4 0), [], none, .box⟩), (.tmp 6 0, ⟨(.tmp 6 0), [], none, .box⟩)] rfl (by first | rfl | simp only [reduceCtorEq, Nat.reduceEqDiff, ak, akF, b10, b17, b25, g14, g22]) (by simp [argK, akG, ak])).trans (Weak.of_eq (by first | rfl | (simp only [reduceCtorEq, Nat.reduceEqDiff, ak, akF, b10, b17, b25, g14, g22]; done) | (simp [reduceCtorEq, Nat.reduceEqDiff, ak, akF, b10, b17, b25, g14, g22]; done)))))) (hJ31 _ rfl)
    · replace h := hn; clear hn h30
      rintro _ rfl
      refine seq_k fun J51 hJ51 => ?_
      refine reg_k ?_
      simp only [Nat.reduceEqDiff, Nat.reduceAdd, Nat.reduceMul, Nat.reduceLeDiff, Nat.reduceLT, Int.reduceLE, Int.reduceLT, Int.reduceGT, Int.reduceGE, Int.reduceEq, Int.reduceNe, Int.reduceToNat, reduceCtorEq, ak]
      refine hJ51 _ ?_
      refine gh_k (Weak.mark [0] [] (by simp) (by simp)) ?_
      obtain rfl := Option.some.inj h
      refine hKr _ ⟨_, rfl, [⟨(.tmp 6 0), [1], none, .lst⟩, ⟨(.tmp 6 0), [2], none, .lst⟩], _, rfl, rfl, ?_⟩
      first | rfl | (simp only [reduceCtorEq, Nat.reduceEqDiff, ak, akF, b10, b17, b25, g14, g22]; done) | (simp [reduceCtorEq, Nat.reduceEqDiff, ak, akF, b10, b17, b25, g14, g22]; done)
/-! ### (*impl.sender).act: function 133 -/
def c133v1i221 : AC := .seq (.reg [.op none (.alloc 4 [.int .i64 0, .slice none 0 0, .slice none 0 0, .int .i64 0, .int .i64 0]), .gh, .keep [0, 1, 4]]) (.seq (.reg [.op none (.mv 5 (.tmp 1)), .op none (.mv 6 (.tmp 0)), .callv none (some 7) (.invoke (.tmp 5) "loop.example/s03010/impl.happen") [.tmp 6], .op none (.store 5 (.tmp 4) (.tmp 7)), .keep [4]]) (.gh .ret))
def r133v1i221 : List RV := [.cell 4 true 5]
theorem k133v1i221 : compC Try.prog 8 c133v1i221 (Try.f133.body.getD .skip) = some c133v1i221.erase := by kernel_rfl
theorem q133v1i221 : rvsOf Try.prog Try.f133.results.toList = some r133v1i221 := by kernel_rfl
def impl_sender_act_v1i221.f (a0_0 : Int) (a0_1 : Int) (a0_2 : Int) (a0_3 : Int) (a0_4 : Int) (a0_5 : Int) (a0_6 : Int) (l0_7 : List Int) (a0_8 : Int) (a0_9 : Int) (a0_10 : Int) (a0_11 : Int) (a0_12 : Bool) (a1_0 : Int) : Option (Int × (List S68) × (List Int) × Int × Int × Int × (List Int) × Int × Int × Int × Int × Bool) := (impl_ackSeq_happen.f a1_0 a0_0 a0_1 a0_2 a0_3 a0_4 a0_5 a0_6 l0_7 a0_8 a0_9 a0_10 a0_11 a0_12 >>= fun t3 => (some (t3.1, t3.2.1, t3.2.2.1, t3.2.2.2.1, t3.2.2.2.2.1, t3.2.2.2.2.2.1, t3.2.2.2.2.2.2.1, t3.2.2.2.2.2.2.2.1, t3.2.2.2.2.2.2.2.2.1, t3.2.2.2.2.2.2.2.2.2.1, t3.2.2.2.2.2.2.2.2.2.2.1, t3.2.2.2.2.2.2.2.2.2.2.2)))
set_option maxRecDepth 100000 in
set_option maxHeartbeats 4000000 in
theorem impl_sender_act_v1i221.tri (a0_0 : Int) (a0_1 : Int) (a0_2 : Int) (a0_3 : Int) (a0_4 : Int) (a0_5 : Int) (a0_6 : Int) (l0_7 : List Int) (a0_8 : Int) (a0_9 : Int) (a0_10 : Int) (a0_11 : Int) (a0_12 : Bool) (a1_0 : Int) (r : Int × (List S68) × (List Int) × Int × Int × Int × (List Int) × Int × Int × Int × Int × Bool) (h : impl_sender_act_v1i221.f a0_0 a0_1 a0_2 a0_3 a0_4 a0_5 a0_6 l0_7 a0_8 a0_9 a0_10 a0_11 a0_12 a1_0 = some r) : Tri Try.prog 133 [.c (.ptr (.arg 0) [] 0), .c (.sc (.iface 221 (.agg #[.int .u32 a1_0])))] [(.arg 0, ⟨.box, 0, [.sc (.int .u32 a0_0), .sc (.int .i64 a0_1), .sc (.int .i64 a0_2), .sc (.int .i64 a0_3), .sc (.int .i64 a0_4), .sc (.int .i64 a0_5), .sc (.int .u32 a0_6), .own 1 l0_7.length (encL c_i64 l0_7), .sc (.int .i64 a0_8), .sc (.int .i64 a0_9), .sc (.int .i64 a0_10), .sc (.int .i64 a0_11), .sc (.bool a0_12)]⟩)] (fun o => o = ⟨.g [.sc (.int .i64 r.1), .ref (.res 0) [] 0 r.2.1.length, .ref (.res 1) [] 0 r.2.2.1.length, .sc (.int .i64 r.2.2.2.1), .sc (.int .i64 r.2.2.2.2.1)], [(.arg 0, ⟨.box, 0, [.sc (.int .u32 a0_0), .sc (.int .i64 a0_1), .sc (.int .i64 a0_2), .sc (.int .i64 a0_3), .sc (.int .i64 a0_4), .sc (.int .i64 a0_5), .sc (.int .u32 r.2.2.2.2.2.1), .own 1 r.2.2.2.2.2.2.1.length (encL c_i64 r.2.2.2.2.2.2.1), .sc (.int .i64 r.2.2.2.2.2.2.2.1), .sc (.int .i64 r.2.2.2.2.2.2.2.2.1), .sc (.int .i64 r.2.2.2.2.2.2.2.2.2.1), .sc (.int .i64 r.2.2.2.2.2.2.2.2.2.2.1), .sc (.bool r.2.2.2.2.2.2.2.2.2.2.2)]⟩), (.res 0, ⟨.lst, 3, encL c68 r.2.1⟩), (.res 1, ⟨.lst, 1, encL c_i64 r.2.2.1⟩)], [0], []⟩) := by
  refine tri_of_body (ac := c133v1i221) (xs := r133v1i221) Try.func133 (show Try.f133.body = some (Try.f133.body.getD .skip) from rfl) k133v1i221 q133v1i221 (Nat.le_of_ble_eq_true rfl) ?_
  refine body_of fun K hKn hKr => ?_
  unfold impl_sender_act_v1i221.f at h
  unfold c133v1i221
  simp only [initT, Nat.reduceAdd]
  refine seq_k fun J1 hJ1 => ?_
  refine reg_k ?_
  simp only [Nat.reduceEqDiff, Nat.reduceAdd, Nat.reduceMul, Nat.reduceLeDiff, Nat.reduceLT, Int.reduceLE, Int.reduceLT, Int.reduceGT, Int.reduceGE, Int.reduceEq, Int.reduceNe, Int.reduceToNat, reduceCtorEq, ak]
  refine gho_k (Weak.own (.tmp 4 0) (cs' := [.sc (.int .i64 0), .own 3 (([] : List S68).length) (encL c68 ([] : List S68)), .own 1 (([] : List Int).length) (encL c_i64 ([] : List Int)), .sc (.int .i64 0), .sc (.int .i64 0)]) rfl ⟨.inl rfl, .inr ⟨rfl, _, rfl⟩, .inr ⟨rfl, _, rfl⟩, .inl rfl, .inl rfl, trivial⟩) ?_
  simp only [Nat.reduceEqDiff, Nat.reduceAdd, Nat.reduceMul, Nat.reduceLeDiff, Nat.reduceLT, Int.reduceLE, Int.reduceLT, Int.reduceGT, Int.reduceGE, Int.reduceEq, Int.reduceNe, Int.reduceToNat, reduceCtorEq, ak]
  refine hJ1 _ ?_
  refine seq_k fun J2 hJ2 => ?_
  refine reg_k ?_
  simp only [Nat.reduceEqDiff, Nat.reduceAdd, Nat.reduceMul, Nat.reduceLeDiff, Nat.reduceLT, Int.reduceLE, Int.reduceLT, Int.reduceGT, Int.reduceGE, Int.reduceEq, Int.reduceNe, Int.reduceToNat, reduceCtorEq, ak]
  obtain ⟨t3, h4, h⟩ := of_bind h
  refine callv_iface (f := 181) (fn := Try.f181) (t := 221) (v := (.agg #[.int .u32 a1_0])) (recv := (.agg #[.int .u32 a1_0])) rfl (fun w => by kernel_rfl) Try.func181 (by kernel_rfl) (by decide) ?_
  refine call_m [(.arg 0, ⟨(.arg 0), [], none, .box⟩)] (s0 := [(.arg 0, ⟨.box, 0, [.sc (.int .u32 a0_0), .sc (.int .i64 a0_1), .sc (.int .i64 a0_2), .sc (.int .i64 a0_3), .sc (.int .i64 a0_4), .sc (.int .i64 a0_5), .sc (.int .u32 a0_6), .own 1 l0_7.length (encL c_i64 l0_7), .sc (.int .i64 a0_8), .sc (.int .i64 a0_9), .sc (.int .i64 a0_10), .sc (.int .i64 a0_11), .sc (.bool a0_12)]⟩)]) (by intro t ht; cases ht; decide) rfl rfl (by first | rfl | simp only [reduceCtorEq, Nat.reduceEqDiff, ak, akF]) (impl_ackSeq_happen.tri a1_0 a0_0 a0_1 a0_2 a0_3 a0_4 a0_5 a0_6 l0_7 a0_8 a0_9 a0_10 a0_11 a0_12 _ h4) (by first | rfl | simp only [reduceCtorEq, Nat.reduceEqDiff, ak, akF]) (by simp [bkOk2, memK]) (fun hl4 => ?_)
  refine call_st (s2 := [(.arg 0, ⟨.box, 0, [.sc (.int .u32 a0_0), .sc (.int .i64 a0_1), .sc (.int .i64 a0_2), .sc (.int .i64 a0_3), .sc (.int .i64 a0_4), .sc (.int .i64 a0_5), .sc (.int .u32 a0_6), .own 1 l0_7.length (encL c_i64 l0_7), .sc (.int .i64 a0_8), .sc (.int .i64 a0_9), .sc (.int .i64 a0_10), .sc (.int .i64 a0_11), .sc (.bool a0_12)]⟩), (.tmp 4 0, ⟨.box, 0, [.sc (.int .i64 0), .own 3 (([] : List S68).length) (encL c68 ([] : List S68)), .own 1 (([] : List Int).length) (encL c_i64 ([] : List Int)), .sc (.int .i64 0), .sc (.int .i64 0)]⟩)]) (s4 := [(.arg 0, ⟨.box, 0, [.sc (.int .u32 a0_0), .sc (.int .i64 a0_1), .sc (.int .i64 a0_2), .sc (.int .i64 a0_3), .sc (.int .i64 a0_4), .sc (.int .i64 a0_5), .sc (.int .u32 t3.2.2.2.2.2.1), .own 1 t3.2.2.2.2.2.2.1.length (encL c_i64 t3.2.2.2.2.2.2.1), .sc (.int .i64 t3.2.2.2.2.2.2.2.1), .sc (.int .i64 t3.2.2.2.2.2.2.2.2.1), .sc (.int .i64 t3.2.2.2.2.2.2.2.2.2.1), .sc (.int .i64 t3.2.2.2.2.2.2.2.2.2.2.1), .sc (.bool t3.2.2.2.2.2.2.2.2.2.2.2)]⟩), (.tmp 4 0, ⟨.box, 0, [.sc (.int .i64 0), .own 3 (([] : List S68).length) (encL c68 ([] : List S68)), .own 1 (([] : List Int).length) (encL c_i64 ([] : List Int)), .sc (.int .i64 0), .sc (.int .i64 0)]⟩), (.tmp 7 1, ⟨.lst, 1, encL c_i64 t3.2.2.1⟩), (.tmp 7 0, ⟨.lst, 3, encL c68 t3.2.1⟩)]) (t' := [(0, .c (.ptr (.arg 0) [] 0)), (1, .c (.sc (.iface 221 (.agg #[.int .u32 a1_0])))), (4, .c (.ptr (.tmp 4 0) [] 0)), (5, .c (.sc (.iface 221 (.agg #[.int .u32 a1_0])))), (6, .c (.ptr (.arg 0) [] 0))]) (m1' := [0]) (m2' := []) (v' := .g [.sc (.int .i64 t3.1), .ref (.tmp 7 0) [] 0 t3.2.1.length, .ref (.tmp 7 1) [] 0 t3.2.2.1.length, .sc (.int .i64 t3.2.2.2.1), .sc (.int .i64 t3.2.2.2.2.1)]) (by first | rfl | simp only [reduceCtorEq, Nat.reduceEqDiff, ak, akF, List.contains_nil, List.contains_cons, Nat.reduceBEq]) (mrgL_whole (new' := [.sc (.int .u32 a0_0), .sc (.int .i64 a0_1), .sc (.int .i64 a0_2), .sc (.int .i64 a0_3), .sc (.int .i64 a0_4), .sc (.int .i64 a0_5), .sc (.int .u32 t3.2.2.2.2.2.1), .own 1 t3.2.2.2.2.2.2.1.length (encL c_i64 t3.2.2.2.2.2.2.1), .sc (.int .i64 t3.2.2.2.2.2.2.2.1), .sc (.int .i64 t3.2.2.2.2.2.2.2.2.1), .sc (.int .i64 t3.2.2.2.2.2.2.2.2.2.1), .sc (.int .i64 t3.2.2.2.2.2.2.2.2.2.2.1), .sc (.bool t3.2.2.2.2.2.2.2.2.2.2.2)]) (mrgL_nil' _ _ _) rfl (by rfl) (.inl ⟨rfl, by first | rfl | simp only [reduceCtorEq, Nat.reduceEqDiff, ak, akF, Nat.zero_add, List.append_nil]⟩)) (by rfl) (by first | rfl | simp only [reduceCtorEq, Nat.reduceEqDiff, ak, akF, List.contains_nil, List.contains_cons, Nat.reduceBEq]) (by rfl) (by rfl) (by first | rfl | simp only [reduceCtorEq, Nat.reduceEqDiff, ak, akF, Nat.zero_add, List.append_nil]) ?_
  have g6 : (encL c68 t3.2.1).length = t3.2.1.length * 3 := by simp [encL_length c68_w]
  have g7 : (encL c_i64 t3.2.2.1).length = t3.2.2.1.length * 1 := by simp [encL_length c_i64_w]
  simp only [Nat.reduceEqDiff, Nat.reduceAdd, Nat.reduceMul, Nat.reduceLeDiff, Nat.reduceLT, Int.reduceLE, Int.reduceLT, Int.reduceGT, Int.reduceGE, Int.reduceEq, Int.reduceNe, Int.reduceToNat, reduceCtorEq, ak, g6, g7]
  refine hJ2 _ ?_
  refine gh_k (Weak.mark [0] [] (by simp) (by simp)) ?_
  obtain rfl := Option.some.inj h
  refine hKr _ ⟨_, rfl, [⟨(.tmp 4 0), [1], none, .lst⟩, ⟨(.tmp 4 0), [2], none, .lst⟩], _, rfl, rfl, ?_⟩
  first | rfl | (simp only [reduceCtorEq, Nat.reduceEqDiff, ak, akF]; done) | (simp [reduceCtorEq, Nat.reduceEqDiff, ak, akF]; done)
/-! ### (impl.tick).happen: function 183 -/
def c183 : AC := .seq (.reg [.op none (.box 2 (.tmp 0)), .op none (.alloc 4 [.int .i64 0, .slice none 0 0, .slice none 0 0, .int .i64 0, .int .i64 0]), .gh, .keep [1, 4]]) (.seq (.seq (.reg [.op none (.mv 5 (.tmp 1)), .op none (.nilc 6 (.tmp 5)), .op none (.faddr 7 12 (.tmp 6)), .op none (.load 8 false 1 (.tmp 7)), .keep [1, 4, 8]]) (.cond (.tmp 8) (.seq (.reg [.op none (.mv 9 (.tmp 1)), .op none (.nilc 10 (.tmp 9)), .op none (.faddr 11 11 (.tmp 10)), .op none (.load 12 false 1 (.tmp 11)), .op none (.bin 13 .sub (.tmp 12) (.const (.int .i64 1))), .op none (.nilc 14 (.tmp 9)), .op none (.faddr 15 11 (.tmp 14)), .op none (.store 1 (.tmp 15) (.tmp 13)), .keep [1, 4]]) (.seq (.seq (.reg [.op none (.mv 16 (.tmp 1)), .op none (.nilc 17 (.tmp 16)), .op none (.faddr 18 11 (.tmp 17)), .op none (.load 19 false 1 (.tmp 18)), .op none (.bin 20 .gtr (.tmp 19) (.const (.int .i64 0))), .keep [1, 4, 20]]) (.cond (.tmp 20) (.seq (.reg [.op none (.build 21 [.int .i64 0, .slice none 0 0, .slice none 0 0, .int .i64 0, .int .i64 0] []), .gh, .op none (.store 5 (.tmp 4) (.tmp 21)), .keep [4]]) (.ret)) (.skip))) (.seq (.reg [.op none (.mv 22 (.tmp 1)), .op none (.mv 23 (.tmp 1)), .op none (.nilc 24 (.tmp 23)), .op none (.faddr 25 0 (.tmp 24)), .op none (.faddr 26 5 (.tmp 25)), .op none (.load 27 false 1 (.tmp 26)), .op none (.nilc 28 (.tmp 22)), .op none (.faddr 29 11 (.tmp 28)), .op none (.store 1 (.tmp 29) (.tmp 27)), .keep [1, 4]]) (.seq (.reg [.op none (.mv 30 (.tmp 1)), .op none (.nilc 31 (.tmp 30)), .op none (.faddr 32 6 (.tmp 31)), .op none (.load 33 false 1 (.tmp 32)), .op none (.build 34 [.int .i64 0, .int .u32 0, .int .i64 0] [(0, 1, .const (.int .i64 3)), (1, 1, .tmp 33), (2, 1, .const (.int .i64 0))]), .op none (.bslice 35 3 [.int .i64 0, .int .u32 0, .int .i64 0] 1 [(0, .tmp 34)]), .op none (.build 36 [.int .i64 0, .slice none 0 0, .slice none 0 0, .int .i64 0, .int .i64 0] [(1, 1, .tmp 35)]), .gh, .op none (.store 5 (.tmp 4) (.tmp 36)), .keep [4]]) (.ret))))) (.skip))) (.seq (.seq (.reg [.op none (.mv 37 (.tmp 1)), .op none (.nilc 38 (.tmp 37)), .op none (.faddr 39 8 (.tmp 38)), .op none (.load 40 false 1 (.tmp 39)), .op none (.bin 41 .eql (.tmp 40) (.const (.int .i64 0))), .keep [1, 4, 41]]) (.cond (.tmp 41) (.seq (.reg [.op none (.build 42 [.int .i64 0, .slice none 0 0, .slice none 0 0, .int .i64 0, .int .i64 0] []), .gh, .op none (.store 5 (.tmp 4) (.tmp 42)), .keep [4]]) (.ret)) (.skip))) (.seq (.reg [.op none (.mv 43 (.tmp 1)), .op none (.nilc 44 (.tmp 43)), .op none (.faddr 45 8 (.tmp 44)), .op none (.load 46 false 1 (.tmp 45)), .op none (.bin 47 .sub (.tmp 46) (.const (.int .i64 1))), .op none (.nilc 48 (.tmp 43)), .op none (.faddr 49 8 (.tmp 48)), .op none (.store 1 (.tmp 49) (.tmp 47)), .keep [1, 4]]) (.seq (.seq (.reg [.op none (.mv 50 (.tmp 1)), .op none (.nilc 51 (.tmp 50)), .op none (.faddr 52 8 (.tmp 51)), .op none (.load 53 false 1 (.tmp 52)), .op none (.bin 54 .gtr (.tmp 53) (.const (.int .i64 0))), .keep [1, 4, 54]]) (.cond (.tmp 54) (.seq (.reg [.op none (.build 55 [.int .i64 0, .slice none 0 0, .slice none 0 0, .int .i64 0, .int .i64 0] []), .gh, .op none (.store 5 (.tmp 4) (.tmp 55)), .keep [4]]) (.ret)) (.skip))) (.seq (.reg [.op none (.mv 56 (.tmp 1)), .op none (.nilc 57 (.tmp 56)), .op none (.faddr 58 10 (.tmp 57)), .op none (.load 59 false 1 (.tmp 58)), .op none (.bin 60 .add (.tmp 59) (.const (.int .i64 1))), .op none (.nilc 61 (.tmp 56)), .op none (.faddr 62 10 (.tmp 61)), .op none (.store 1 (.tmp 62) (.tmp 60)), .keep [1, 4]]) (.seq (.seq (.regD (.first (.op none (.mv 63 (.tmp 1))) (.first (.op none (.nilc 64 (.tmp 63))) (.first (.op none (.faddr 65 10 (.tmp 64))) (.first (.op none (.load 66 false 1 (.tmp 65))) (.first (.op none (.mv 67 (.tmp 1))) (.first (.op none (.nilc 68 (.tmp 67))) (.first (.op none (.faddr 69 0 (.tmp 68))) (.first (.op none (.faddr 70 4 (.tmp 69))) (.first (.op none (.load 71 false 1 (.tmp 70))) (.first (.op none (.bin 72 .eql (.tmp 66) (.tmp 71))) (.done))))))))))) [1, 4, 72]) (.cond (.tmp 72) (.seq (.reg [.op none (.mv 73 (.tmp 1)), .op none (.nilc 74 (.tmp 73)), .op none (.faddr 75 12 (.tmp 74)), .op none (.store 1 (.tmp 75) (.const (.bool true))), .keep [1, 4]]) (.seq (.reg [.op none (.mv 76 (.tmp 1)), .op none (.mv 77 (.tmp 1)), .op none (.nilc 78 (.tmp 77)), .op none (.faddr 79 0 (.tmp 78)), .op none (.faddr 80 5 (.tmp 79)), .op none (.load 81 false 1 (.tmp 80)), .op none (.nilc 82 (.tmp 76)), .op none (.faddr 83 11 (.tmp 82)), .op none (.store 1 (.tmp 83) (.tmp 81)), .keep [4]]) (.seq (.reg [.op none (.build 84 [.int .i64 0, .slice none 0 0, .slice none 0 0, .int .i64 0, .int .i64 0] [(3, 1, .const (.int .i64 1))]), .gh, .op none (.store 5 (.tmp 4) (.tmp 84)), .keep [4]]) (.ret)))) (.skip))) (.seq (.regD (.first (.op none (.mv 85 (.tmp 1))) (.first (.op none (.mv 86 (.tmp 1))) (.first (.op none (.nilc 87 (.tmp 86))) (.first (.op none (.faddr 88 9 (.tmp 87))) (.first (.op none (.load 89 false 1 (.tmp 88))) (.first (.op none (.bin 90 .mul (.const (.int .i64 2)) (.tmp 89))) (.first (.op none (.mv 91 (.tmp 1))) (.first (.op none (.nilc 92 (.tmp 91))) (.first (.op none (.faddr 93 0 (.tmp 92))) (.first (.op none (.faddr 94 3 (.tmp 93))) (.first (.op none (.load 95 false 1 (.tmp 94))) (.first (.op none (.mm 96 false [.tmp 90, .tmp 95])) (.first (.op none (.nilc 97 (.tmp 85))) (.first (.op none (.faddr 98 9 (.tmp 97))) (.alt (.op none (.store 1 (.tmp 98) (.tmp 96))) none (.done) (.stop)))))))))))))))) [1, 4]) (.seq (.reg [.op none (.mv 99 (.tmp 1)), .op none (.mv 100 (.tmp 1)), .op none (.nilc 101 (.tmp 100)), .op none (.faddr 102 9 (.tmp 101)), .op none (.load 103 false 1 (.tmp 102)), .op none (.nilc 104 (.tmp 99)), .op none (.faddr 105 8 (.tmp 104)), .op none (.store 1 (.tmp 105) (.tmp 103)), .keep [1, 4]]) (.seq (.reg [.op none (.mv 106 (.tmp 1)), .call none (some 107) 182 [.tmp 106], .op none (.build 108 [.int .i64 0, .slice none 0 0, .slice none 0 0, .int .i64 0, .int .i64 0] [(1, 1, .tmp 107)]), .gh, .op none (.store 5 (.tmp 4) (.tmp 108)), .keep [4]]) (.ret))))))))))
def r183 : List RV := [.cell 4 true 5]
theorem k183 : compC Try.prog 109 c183 (Try.f183.body.getD .skip) = some c183.erase := by kernel_rfl
theorem q183 : rvsOf Try.prog Try.f183.results.toList = some r183 := by kernel_rfl
def impl_tick_happen.f (a1_0 : Int) (a1_1 : Int) (a1_2 : Int) (a1_3 : Int) (a1_4 : Int) (a1_5 : Int) (a1_6 : Int) (l1_7 : List Int) (a1_8 : Int) (a1_9 : Int) (a1_10 : Int) (a1_11 : Int) (a1_12 : Bool) : Option (Int × (List S68) × (List Int) × Int × Int × Int × Int × Int × Int × Bool) := (if a1_12 = true then (if IntKind.i64.wrap (a1_11 - 1) > 0 then (some (0, ([] : List S68), ([] : List Int), 0, 0, a1_8, a1_9, a1_10, IntKind.i64.wrap (a1_11 - 1), a1_12)) else (some (0, ([(⟨3, a1_6, 0⟩ : S68)] : List S68), ([] : List Int), 0, 0, a1_8, a1_9, a1_10, a1_5, a1_12))) else (if a1_8 = 0 then (some (0, ([] : List S68), ([] : List Int), 0, 0, a1_8, a1_9, a1_10, a1_11, a1_12)) else (if IntKind.i64.wrap (a1_8 - 1) > 0 then (some (0, ([] : List S68), ([] : List Int), 0, 0, IntKind.i64.wrap (a1_8 - 1), a1_9, a1_10, a1_11, a1_12)) else (if IntKind.i64.wrap (a1_10 + 1) = a1_4 then (some (0, ([] : List S68), ([] : List Int), 1, 0, IntKind.i64.wrap (a1_8 - 1), a1_9, IntKind.i64.wrap (a1_10 + 1), a1_5, true)) else (impl_sender_again.f a1_0 a1_1 a1_2 a1_3 a1_4 a1_5 a1_6 l1_7 (if a1_3 < (IntKind.i64.wrap (2 * a1_9)) then a1_3 else IntKind.i64.wrap (2 * a1_9)) (if a1_3 < (IntKind.i64.wrap (2 * a1_9)) then a1_3 else IntKind.i64.wrap (2 * a1_9)) (IntKind.i64.wrap (a1_10 + 1)) a1_11 a1_12 >>= fun t44 => (some (0, t44, ([] : List Int), 0, 0, (if a1_3 < (IntKind.i64.wrap (2 * a1_9)) then a1_3 else IntKind.i64.wrap (2 * a1_9)), (if a1_3 < (IntKind.i64.wrap (2 * a1_9)) then a1_3 else IntKind.i64.wrap (2 * a1_9)), IntKind.i64.wrap (a1_10 + 1), a1_11, a1_12)))))))
set_option maxRecDepth 100000 in
set_option maxHeartbeats 4000000 in
theorem impl_tick_happen.tri (a1_0 : Int) (a1_1 : Int) (a1_2 : Int) (a1_3 : Int) (a1_4 : Int) (a1_5 : Int) (a1_6 : Int) (l1_7 : List Int) (a1_8 : Int) (a1_9 : Int) (a1_10 : Int) (a1_11 : Int) (a1_12 : Bool) (r : Int × (List S68) × (List Int) × Int × Int × Int × Int × Int × Int × Bool) (h : impl_tick_happen.f a1_0 a1_1 a1_2 a1_3 a1_4 a1_5 a1_6 l1_7 a1_8 a1_9 a1_10 a1_11 a1_12 = some r) : Tri Try.prog 183 [.g [], .c (.ptr (.arg 0) [] 0)] [(.arg 0, ⟨.box, 0, [.sc (.int .u32 a1_0), .sc (.int .i64 a1_1), .sc (.int .i64 a1_2), .sc (.int .i64 a1_3), .sc (.int .i64 a1_4), .sc (.int .i64 a1_5), .sc (.int .u32 a1_6), .own 1 l1_7.length (encL c_i64 l1_7), .sc (.int .i64 a1_8), .sc (.int .i64 a1_9), .sc (.int .i64 a1_10), .sc (.int .i64 a1_11), .sc (.bool a1_12)]⟩)] (fun o => o = ⟨.g [.sc (.int .i64 r.1), .ref (.res 0) [] 0 r.2.1.length, .ref (.res 1) [] 0 r.2.2.1.length, .sc (.int .i64 r.2.2.2.1), .sc (.int .i64 r.2.2.2.2.1)], [(.arg 0, ⟨.box, 0, [.sc (.int .u32 a1_0), .sc (.int .i64 a1_1), .sc (.int .i64 a1_2), .sc (.int .i64 a1_3), .sc (.int .i64 a1_4), .sc (.int .i64 a1_5), .sc (.int .u32 a1_6), .own 1 l1_7.length (encL c_i64 l1_7), .sc (.int .i64 r.2.2.2.2.2.1), .sc (.int .i64 r.2.2.2.2.2.2.1), .sc (.int .i64 r.2.2.2.2.2.2.2.1), .sc (.int .i64 r.2.2.2.2.2.2.2.2.1), .sc (.bool r.2.2.2.2.2.2.2.2.2)]⟩), (.res 0, ⟨.lst, 3, encL c68 r.2.1⟩), (.res 1, ⟨.lst, 1, encL c_i64 r.2.2.1⟩)], [], []⟩) := by
  refine tri_of_body (ac := c183) (xs := r183) Try.func183 (show Try.f183.body = some (Try.f183.body.getD .skip) from rfl) k183 q183 (Nat.le_of_ble_eq_true rfl) ?_
  refine body_of fun K hKn hKr => ?_
  unfold impl_tick_happen.f at h
  unfold c183
  simp only [initT, Nat.reduceAdd]
  refine seq_k fun J1 hJ1 => ?_
  refine reg_k ?_
  simp only [Nat.reduceEqDiff, Nat.reduceAdd, Nat.reduceMul, Nat.reduceLeDiff, Nat.reduceLT, Int.reduceLE, Int.reduceLT, Int.reduceGT, Int.reduceGE, Int.reduceEq, Int.reduceNe, Int.reduceToNat, reduceCtorEq, ak]
  refine gho_k (Weak.own (.tmp 4 0) (cs' := [.sc (.int .i64 0), .own 3 (([] : List S68).length) (encL c68 ([] : List S68)), .own 1 (([] : List Int).length) (encL c_i64 ([] : List Int)), .sc (.int .i64 0), .sc (.int .i64 0)]) rfl ⟨.inl rfl, .inr ⟨rfl, _, rfl⟩, .inr ⟨rfl, _, rfl⟩, .inl rfl, .inl rfl, trivial⟩) ?_
  simp only [Nat.reduceEqDiff, Nat.reduceAdd, Nat.reduceMul, Nat.reduceLeDiff, Nat.reduceLT, Int.reduceLE, Int.reduceLT, Int.reduceGT, Int.reduceGE, Int.reduceEq, Int.reduceNe, Int.reduceToNat, reduceCtorEq, ak]
  refine hJ1 _ ?_
  refine seq_k fun J2 hJ2 => ?_
  refine seq_k fun J3 hJ3 => ?_
  refine reg_k ?_
  simp only [Nat.reduceEqDiff, Nat.reduceAdd, Nat.reduceMul, Nat.reduceLeDiff, Nat.reduceLT, Int.reduceLE, Int.reduceLT, Int.reduceGT, Int.reduceGE, Int.reduceEq, Int.reduceNe, Int.reduceToNat, reduceCtorEq, ak]
  refine hJ3 _ ?_
  refine cond_k (b := a1_12) rfl (fun c4 => ?_) (fun c4 => ?_)
  · rw [if_pos c4] at h
    refine seq_k fun J5 hJ5 => ?_
    refine reg_k ?_
    simp only [Nat.reduceEqDiff, Nat.reduceAdd, Nat.reduceMul, Nat.reduceLeDiff, Nat.reduceLT, Int.reduceLE, Int.reduceLT, Int.reduceGT, Int.reduceGE, Int.reduceEq, Int.reduceNe, Int.reduceToNat, reduceCtorEq, ak]
    refine hJ5 _ ?_
    refine seq_k fun J6 hJ6 => ?_
    refine seq_k fun J7 hJ7 => ?_
    refine reg_k ?_
    simp only [Nat.reduceEqDiff, Nat.reduceAdd, Nat.reduceMul, Nat.reduceLeDiff, Nat.reduceLT, Int.reduceLE, Int.reduceLT, Int.reduceGT, Int.reduceGE, Int.reduceEq, Int.reduceNe, Int.reduceToNat, reduceCtorEq, ak]
    refine hJ7 _ ?_
    refine cond_k (b := decide (IntKind.i64.wrap (a1_11 - 1) > 0)) rfl (fun c8 => ?_) (fun c8 => ?_)
    · replace c8 := of_decide_eq_true c8; rw [if_pos c8] at h
      refine seq_k fun J9 hJ9 => ?_
      refine reg_k ?_
      simp only [Nat.reduceEqDiff, Nat.reduceAdd, Nat.reduceMul, Nat.reduceLeDiff, Nat.reduceLT, Int.reduceLE, Int.reduceLT, Int.reduceGT, Int.reduceGE, Int.reduceEq, Int.reduceNe, Int.reduceToNat, reduceCtorEq, ak]
      refine gho_k ((Weak.nmg' 21 1 (.tmp 21 21) 3 (encL c68 ([] : List S68)) rfl rfl rfl rfl).trans (Weak.nmg' 21 2 (.tmp 21 22) 1 (encL c_i64 ([] : List Int)) rfl rfl rfl rfl)) ?_
      have g10 : (encL c68 ([] : List S68)).length = 0 * 3 := by simp [encL_length c68_w]
      have g11 : (encL c_i64 ([] : List Int)).length = 0 * 1 := by simp [encL_length c_i64_w]
      simp only [Nat.reduceEqDiff, Nat.reduceAdd, Nat.reduceMul, Nat.reduceLeDiff, Nat.reduceLT, Int.reduceLE, Int.reduceLT, Int.reduceGT, Int.reduceGE, Int.reduceEq, Int.reduceNe, Int.reduceToNat, reduceCtorEq, ak, g10, g11]
      refine hJ9 _ ?_
      obtain rfl := Option.some.inj h
      refine hKr _ ⟨_, rfl, [⟨(.tmp 4 0), [1], none, .lst⟩, ⟨(.tmp 4 0), [2], none, .lst⟩], _, rfl, rfl, ?_⟩
      first | rfl | (simp only [reduceCtorEq, Nat.reduceEqDiff, ak, akF]; done) | (simp [reduceCtorEq, Nat.reduceEqDiff, ak, akF]; done)
    · replace c8 := of_decide_eq_false c8; rw [if_neg c8] at h
      refine hJ6 _ ?_
      refine seq_k fun J12 hJ12 => ?_
      refine reg_k ?_
      simp only [Nat.reduceEqDiff, Nat.reduceAdd, Nat.reduceMul, Nat.reduceLeDiff, Nat.reduceLT, Int.reduceLE, Int.reduceLT, Int.reduceGT, Int.reduceGE, Int.reduceEq, Int.reduceNe, Int.reduceToNat, reduceCtorEq, ak]
      refine hJ12 _ ?_
      refine seq_k fun J13 hJ13 => ?_
      refine reg_k ?_
      have g14 : (List.replicate 1 ([.int .i64 0, .int .u32 0, .int .i64 0] : List Value)).flatten = [.int .i64 0, .int .u32 0, .int .i64 0] := rfl
      have g15 : (⟨.lst, 3, [.sc (.int .i64 3), .sc (.int .u32 a1_6), .sc (.int .i64 0)]⟩ : Root) = ⟨.lst, 3, encL c68 ([(⟨3, a1_6, 0⟩ : S68)] : List S68)⟩ := rfl
      have g16 : ([(⟨3, a1_6, 0⟩ : S68)] : List S68).length = 1 := rfl
      simp only [Nat.reduceEqDiff, Nat.reduceAdd, Nat.reduceMul, Nat.reduceLeDiff, Nat.reduceLT, Int.reduceLE, Int.reduceLT, Int.reduceGT, Int.reduceGE, Int.reduceEq, Int.reduceNe, Int.reduceToNat, reduceCtorEq, ak, g14, g15, g16]
      refine gho_k (Weak.nmg' 36 2 (.tmp 36 22) 1 (encL c_i64 ([] : List Int)) rfl rfl rfl rfl) ?_
      have g17 : (encL c68 ([(⟨3, a1_6, 0⟩ : S68)] : List S68)).length = 1 * 3 := by simp [encL_length c68_w]
      have g18 : (encL c_i64 ([] : List Int)).length = 0 * 1 := by simp [encL_length c_i64_w]
      simp only [Nat.reduceEqDiff, Nat.reduceAdd, Nat.reduceMul, Nat.reduceLeDiff, Nat.reduceLT, Int.reduceLE, Int.reduceLT, Int.reduceGT, Int.reduceGE, Int.reduceEq, Int.reduceNe, Int.reduceToNat, reduceCtorEq, ak, g17, g18]
      refine hJ13 _ ?_
      obtain rfl := Option.some.inj h
      refine hKr _ ⟨_, rfl, [⟨(.tmp 4 0), [1], none, .lst⟩, ⟨(.tmp 4 0), [2], none, .lst⟩], _, rfl, rfl, ?_⟩
      first | rfl | (simp only [reduceCtorEq, Nat.reduceEqDiff, ak, akF]; done) | (simp [reduceCtorEq, Nat.reduceEqDiff, ak, akF]; done)
  · rw [if_neg (Bool.eq_false_iff.1 c4)] at h
    refine hJ2 _ ?_
    refine seq_k fun J19 hJ19 => ?_
    refine seq_k fun J20 hJ20 => ?_
    refine reg_k ?_
    simp only [Nat.reduceEqDiff, Nat.reduceAdd, Nat.reduceMul, Nat.reduceLeDiff, Nat.reduceLT, Int.reduceLE, Int.reduceLT, Int.reduceGT, Int.reduceGE, Int.reduceEq, Int.reduceNe, Int.reduceToNat, reduceCtorEq, ak]
    refine hJ20 _ ?_
    refine cond_k (b := decide (a1_8 = 0)) rfl (fun c21 => ?_) (fun c21 => ?_)
    · replace c21 := of_decide_eq_true c21; rw [if_pos c21] at h
      refine seq_k fun J22 hJ22 => ?_
      refine reg_k ?_
      simp only [Nat.reduceEqDiff, Nat.reduceAdd, Nat.reduceMul, Nat.reduceLeDiff, Nat.reduceLT, Int.reduceLE, Int.reduceLT, Int.reduceGT, Int.reduceGE, Int.reduceEq, Int.reduceNe, Int.reduceToNat, reduceCtorEq, ak]
      refine gho_k ((Weak.nmg' 42 1 (.tmp 42 21) 3 (encL c68 ([] : List S68)) rfl rfl rfl rfl).trans (Weak.nmg' 42 2 (.tmp 42 22) 1 (encL c_i64 ([] : List Int)) rfl rfl rfl rfl)) ?_
      have g23 : (encL c68 ([] : List S68)).length = 0 * 3 := by simp [encL_length c68_w]
      have g24 : (encL c_i64 ([] : List Int)).length = 0 * 1 := by simp [encL_length c_i64_w]
      simp only [Nat.reduceEqDiff, Nat.reduceAdd, Nat.reduceMul, Nat.reduceLeDiff, Nat.reduceLT, Int.reduceLE, Int.reduceLT, Int.reduceGT, Int.reduceGE, Int.reduceEq, Int.reduceNe, Int.reduceToNat, reduceCtorEq, ak, g23, g24]
      refine hJ22 _ ?_
      obtain rfl := Option.some.inj h
      refine hKr _ ⟨_, rfl, [⟨(.tmp 4 0), [1], none, .lst⟩, ⟨(.tmp 4 0), [2], none, .lst⟩], _, rfl, rfl, ?_⟩
      first | rfl | (simp only [reduceCtorEq, Nat.reduceEqDiff, ak, akF]; done) | (simp [reduceCtorEq, Nat.reduceEqDiff, ak, akF]; done)
    · replace c21 := of_decide_eq_false c21; rw [if_neg c21] at h
      refine hJ19 _ ?_
      refine seq_k fun J25 hJ25 => ?_
      refine reg_k ?_
      simp only [Nat.reduceEqDiff, Nat.reduceAdd, Nat.reduceMul, Nat.reduceLeDiff, Nat.reduceLT, Int.reduceLE, Int.reduceLT, Int.reduceGT, Int.reduceGE, Int.reduceEq, Int.reduceNe, Int.reduceToNat, reduceCtorEq, ak]
      refine hJ25 _ ?_
      refine seq_k fun J26 hJ26 => ?_
      refine seq_k fun J27 hJ27 => ?_
      refine reg_k ?_
      simp only [Nat.reduceEqDiff, Nat.reduceAdd, Nat.reduceMul, Nat.reduceLeDiff, Nat.reduceLT, Int.reduceLE, Int.reduceLT, Int.reduceGT, Int.reduceGE, Int.reduceEq, Int.reduceNe, Int.reduceToNat, reduceCtorEq, ak]
      refine hJ27 _ ?_
      refine cond_k (b := decide (IntKind.i64.wrap (a1_8 - 1) > 0)) rfl (fun c28 => ?_) (fun c28 => ?_)
      · replace c28 := of_decide_eq_true c28; rw [if_pos c28] at h
        refine seq_k fun J29 hJ29 => ?_
        refine reg_k ?_
        simp only [Nat.reduceEqDiff, Nat.reduceAdd, Nat.reduceMul, Nat.reduceLeDiff, Nat.reduceLT, Int.reduceLE, Int.reduceLT, Int.reduceGT, Int.reduceGE, Int.reduceEq, Int.reduceNe, Int.reduceToNat, reduceCtorEq, ak]
        refine gho_k ((Weak.nmg' 55 1 (.tmp 55 21) 3 (encL c68 ([] : List S68)) rfl rfl rfl rfl).trans (Weak.nmg' 55 2 (.tmp 55 22) 1 (encL c_i64 ([] : List Int)) rfl rfl rfl rfl)) ?_
        have g30 : (encL c68 ([] : List S68)).length = 0 * 3 := by simp [encL_length c68_w]
        have g31 : (encL c_i64 ([] : List Int)).length = 0 * 1 := by simp [encL_length c_i64_w]
        simp only [Nat.reduceEqDiff, Nat.reduceAdd, Nat.reduceMul, Nat.reduceLeDiff, Nat.reduceLT, Int.reduceLE, Int.reduceLT, Int.reduceGT, Int.reduceGE, Int.reduceEq, Int.reduceNe, Int.reduceToNat, reduceCtorEq, ak, g30, g31]
        refine hJ29 _ ?_
        obtain rfl := Option.some.inj h
        refine hKr _ ⟨_, rfl, [⟨(.tmp 4 0), [1], none, .lst⟩, ⟨(.tmp 4 0), [2], none, .lst⟩], _, rfl, rfl, ?_⟩
        first | rfl | (simp only [reduceCtorEq, Nat.reduceEqDiff, ak, akF]; done) | (simp [reduceCtorEq, Nat.reduceEqDiff, ak, akF]; done)
      · replace c28 := of_decide_eq_false c28; rw [if_neg c28] at h
        refine hJ26 _ ?_
        refine seq_k fun J32 hJ32 => ?_
        refine reg_k ?_
        simp only [Nat.reduceEqDiff, Nat.reduceAdd, Nat.reduceMul, Nat.reduceLeDiff, Nat.reduceLT, Int.reduceLE, Int.reduceLT, Int.reduceGT, Int.reduceGE, Int.reduceEq, Int.reduceNe, Int.reduceToNat, reduceCtorEq, ak]
        refine hJ32 _ ?_
        refine seq_k fun J33 hJ33 => ?_
        refine seq_k fun J34 hJ34 => ?_
        refine regD_k ?_
        simp only [Nat.reduceBEq, Nat.reduceEqDiff, Nat.reduceAdd, Nat.reduceMul, Nat.reduceLeDiff, Nat.reduceLT, Int.reduceLE, Int.reduceLT, Int.reduceGT, Int.reduceGE, Int.reduceEq, Int.reduceNe, Int.reduceToNat, reduceCtorEq, ak]
        refine hJ34 _ ?_
        refine cond_k (b := decide (IntKind.i64.wrap (a1_10 + 1) = a1_4)) rfl (fun c35 => ?_) (fun c35 => ?_)
        · replace c35 := of_decide_eq_true c35; rw [if_pos c35] at h
          refine seq_k fun J36 hJ36 => ?_
          refine reg_k ?_
          simp only [Nat.reduceEqDiff, Nat.reduceAdd, Nat.reduceMul, Nat.reduceLeDiff, Nat.reduceLT, Int.reduceLE, Int.reduceLT, Int.reduceGT, Int.reduceGE, Int.reduceEq, Int.reduceNe, Int.reduceToNat, reduceCtorEq, ak]
          refine hJ36 _ ?_
          refine seq_k fun J37 hJ37 => ?_
          refine reg_k ?_
          simp only [Nat.reduceEqDiff, Nat.reduceAdd, Nat.reduceMul, Nat.reduceLeDiff, Nat.reduceLT, Int.reduceLE, Int.reduceLT, Int.reduceGT, Int.reduceGE, Int.reduceEq, Int.reduceNe, Int.reduceToNat, reduceCtorEq, ak]
          refine hJ37 _ ?_
          refine seq_k fun J38 hJ38 => ?_
          refine reg_k ?_
          simp only [Nat.reduceEqDiff, Nat.reduceAdd, Nat.reduceMul, Nat.reduceLeDiff, Nat.reduceLT, Int.reduceLE, Int.reduceLT, Int.reduceGT, Int.reduceGE, Int.reduceEq, Int.reduceNe, Int.reduceToNat, reduceCtorEq, ak]
          refine gho_k ((Weak.nmg' 84 1 (.tmp 84 21) 3 (encL c68 ([] : List S68)) rfl rfl rfl rfl).trans (Weak.nmg' 84 2 (.tmp 84 22) 1 (encL c_i64 ([] : List Int)) rfl rfl rfl rfl)) ?_
          have g39 : (encL c68 ([] : List S68)).length = 0 * 3 := by simp [encL_length c68_w]
          have g40 : (encL c_i64 ([] : List Int)).length = 0 * 1 := by simp [encL_length c_i64_w]
          simp only [Nat.reduceEqDiff, Nat.reduceAdd, Nat.reduceMul, Nat.reduceLeDiff, Nat.reduceLT, Int.reduceLE, Int.reduceLT, Int.reduceGT, Int.reduceGE, Int.reduceEq, Int.reduceNe, Int.reduceToNat, reduceCtorEq, ak, g39, g40]
          refine hJ38 _ ?_
          obtain rfl := Option.some.inj h
          refine hKr _ ⟨_, rfl, [⟨(.tmp 4 0), [1], none, .lst⟩, ⟨(.tmp 4 0), [2], none, .lst⟩], _, rfl, rfl, ?_⟩
          first | rfl | (simp only [reduceCtorEq, Nat.reduceEqDiff, ak, akF]; done) | (simp [reduceCtorEq, Nat.reduceEqDiff, ak, akF]; done)
        · replace c35 := of_decide_eq_false c35; rw [if_neg c35] at h
          refine hJ33 _ ?_
          refine seq_k fun J41 hJ41 => ?_
          refine regD_k ?_
          simp only [Nat.reduceBEq, Nat.reduceEqDiff, Nat.reduceAdd, Nat.reduceMul, Nat.reduceLeDiff, Nat.reduceLT, Int.reduceLE, Int.reduceLT, Int.reduceGT, Int.reduceGE, Int.reduceEq, Int.reduceNe, Int.reduceToNat, reduceCtorEq, ak, mmF, mm2, scv, List.foldl]
          refine alt_e ?_
          · simp only [Nat.reduceBEq, Nat.reduceEqDiff, Nat.reduceAdd, Nat.reduceMul, Nat.reduceLeDiff, Nat.reduceLT, Int.reduceLE, Int.reduceLT, Int.reduceGT, Int.reduceGE, Int.reduceEq, Int.reduceNe, Int.reduceToNat, reduceCtorEq, ak]
            refine hJ41 _ ?_
            refine seq_k fun J42 hJ42 => ?_
            refine reg_k ?_
            simp only [Nat.reduceEqDiff, Nat.reduceAdd, Nat.reduceMul, Nat.reduceLeDiff, Nat.reduceLT, Int.reduceLE, Int.reduceLT, Int.reduceGT, Int.reduceGE, Int.reduceEq, Int.reduceNe, Int.reduceToNat, reduceCtorEq, ak]
            refine hJ42 _ ?_
            refine seq_k fun J43 hJ43 => ?_
            refine reg_k ?_
            simp only [Nat.reduceEqDiff, Nat.reduceAdd, Nat.reduceMul, Nat.reduceLeDiff, Nat.reduceLT, Int.reduceLE, Int.reduceLT, Int.reduceGT, Int.reduceGE, Int.reduceEq, Int.reduceNe, Int.reduceToNat, reduceCtorEq, ak]
            obtain ⟨t44, h45, h⟩ := of_bind h
            refine call_m [(.arg 0, ⟨(.arg 0), [], none, .box⟩)] (s0 := [(.arg 0, ⟨.box, 0, [.sc (.int .u32 a1_0), .sc (.int .i64 a1_1), .sc (.int .i64 a1_2), .sc (.int .i64 a1_3), .sc (.int .i64 a1_4), .sc (.int .i64 a1_5), .sc (.int .u32 a1_6), .own 1 l1_7.length (encL c_i64 l1_7), .sc (.int .i64 (if a1_3 < (IntKind.i64.wrap (2 * a1_9)) then a1_3 else IntKind.i64.wrap (2 * a1_9))), .sc (.int .i64 (if a1_3 < (IntKind.i64.wrap (2 * a1_9)) then a1_3 else IntKind.i64.wrap (2 * a1_9))), .sc (.int .i64 (IntKind.i64.wrap (a1_10 + 1))), .sc (.int .i64 a1_11), .sc (.bool a1_12)]⟩)]) (by intro t ht; cases ht; decide) rfl rfl (by first | rfl | simp only [reduceCtorEq, Nat.reduceEqDiff, ak, akF]) (impl_sender_again.tri a1_0 a1_1 a1_2 a1_3 a1_4 a1_5 a1_6 l1_7 (if a1_3 < (IntKind.i64.wrap (2 * a1_9)) then a1_3 else IntKind.i64.wrap (2 * a1_9)) (if a1_3 < (IntKind.i64.wrap (2 * a1_9)) then a1_3 else IntKind.i64.wrap (2 * a1_9)) (IntKind.i64.wrap (a1_10 + 1)) a1_11 a1_12 _ h45) (by first | rfl | simp only [reduceCtorEq, Nat.reduceEqDiff, ak, akF]) (by simp [bkOk2, memK]) (fun hl45 => ?_)
            refine call_st (s4 := [(.arg 0, ⟨.box, 0, [.sc (.int .u32 a1_0), .sc (.int .i64 a1_1), .sc (.int .i64 a1_2), .sc (.int .i64 a1_3), .sc (.int .i64 a1_4), .sc (.int .i64 a1_5), .sc (.int .u32 a1_6), .own 1 l1_7.length (encL c_i64 l1_7), .sc (.int .i64 (if a1_3 < (IntKind.i64.wrap (2 * a1_9)) then a1_3 else IntKind.i64.wrap (2 * a1_9))), .sc (.int .i64 (if a1_3 < (IntKind.i64.wrap (2 * a1_9)) then a1_3 else IntKind.i64.wrap (2 * a1_9))), .sc (.int .i64 (IntKind.i64.wrap (a1_10 + 1))), .sc (.int .i64 a1_11), .sc (.bool a1_12)]⟩), (.tmp 2 0, ⟨.box, 0, []⟩), (.tmp 4 0, ⟨.box, 0, [.sc (.int .i64 0), .own 3 (([] : List S68).length) (encL c68 ([] : List S68)), .own 1 (([] : List Int).length) (encL c_i64 ([] : List Int)), .sc (.int .i64 0), .sc (.int .i64 0)]⟩), (.tmp 107 0, ⟨.lst, 3, encL c68 t44⟩)]) (m1' := []) (m2' := []) (v' := .c (.ref (.tmp 107 0) [] 0 t44.length)) (Sto.mapN_killNil _ _) (mrgL_whole (new' := [.sc (.int .u32 a1_0), .sc (.int .i64 a1_1), .sc (.int .i64 a1_2), .sc (.int .i64 a1_3), .sc (.int .i64 a1_4), .sc (.int .i64 a1_5), .sc (.int .u32 a1_6), .own 1 l1_7.length (encL c_i64 l1_7), .sc (.int .i64 (if a1_3 < (IntKind.i64.wrap (2 * a1_9)) then a1_3 else IntKind.i64.wrap (2 * a1_9))), .sc (.int .i64 (if a1_3 < (IntKind.i64.wrap (2 * a1_9)) then a1_3 else IntKind.i64.wrap (2 * a1_9))), .sc (.int .i64 (IntKind.i64.wrap (a1_10 + 1))), .sc (.int .i64 a1_11), .sc (.bool a1_12)]) (mrgL_nil' _ _ _) rfl (by rfl) (.inl ⟨rfl, by first | rfl | simp only [reduceCtorEq, Nat.reduceEqDiff, ak, akF, Nat.zero_add, List.append_nil]⟩)) (by rfl) (mapT_killNil _ _) (by rfl) (by rfl) (by first | rfl | simp only [reduceCtorEq, Nat.reduceEqDiff, ak, akF, Nat.zero_add, List.append_nil]) ?_
            simp only [Nat.reduceEqDiff, Nat.reduceAdd, Nat.reduceMul, Nat.reduceLeDiff, Nat.reduceLT, Int.reduceLE, Int.reduceLT, Int.reduceGT, Int.reduceGE, Int.reduceEq, Int.reduceNe, Int.reduceToNat, reduceCtorEq, ak]
            refine gho_k (Weak.nmg' 108 2 (.tmp 108 22) 1 (encL c_i64 ([] : List Int)) rfl rfl rfl rfl) ?_
            have g47 : (encL c68 t44).length = t44.length * 3 := by simp [encL_length c68_w]
            have g48 : (encL c_i64 ([] : List Int)).length = 0 * 1 := by simp [encL_length c_i64_w]
            simp only [Nat.reduceEqDiff, Nat.reduceAdd, Nat.reduceMul, Nat.reduceLeDiff, Nat.reduceLT, Int.reduceLE, Int.reduceLT, Int.reduceGT, Int.reduceGE, Int.reduceEq, Int.reduceNe, Int.reduceToNat, reduceCtorEq, ak, g47, g48]
            refine hJ43 _ ?_
            obtain rfl := Option.some.inj h
            refine hKr _ ⟨_, rfl, [⟨(.tmp 4 0), [1], none, .lst⟩, ⟨(.tmp 4 0), [2], none, .lst⟩], _, rfl, rfl, ?_⟩
            first | rfl | (simp only [reduceCtorEq, Nat.reduceEqDiff, ak, akF]; done) | (simp [reduceCtorEq, Nat.reduceEqDiff, ak, akF]; done)
/-! ### (*impl.sender).act: function 133 -/
def c133v1i223 : AC := .seq (.reg [.op none (.alloc 4 [.int .i64 0, .slice none 0 0, .slice none 0 0, .int .i64 0, .int .i64 0]), .gh, .keep [0, 1, 4]]) (.seq (.reg [.op none (.mv 5 (.tmp 1)), .op none (.mv 6 (.tmp 0)), .callv none (some 7) (.invoke (.tmp 5) "loop.example/s03010/impl.happen") [.tmp 6], .op none (.store 5 (.tmp 4) (.tmp 7)), .keep [4]]) (.ret))
def r133v1i223 : List RV := [.cell 4 true 5]
theorem k133v1i223 : compC Try.prog 8 c133v1i223 (Try.f133.body.getD .skip) = some c133v1i223.erase := by kernel_rfl
theorem q133v1i223 : rvsOf Try.prog Try.f133.results.toList = some r133v1i223 := by kernel_rfl
def impl_sender_act_v1i223.f (a0_0 : Int) (a0_1 : Int) (a0_2 : Int) (a0_3 : Int) (a0_4 : Int) (a0_5 : Int) (a0_6 : Int) (l0_7 : List Int) (a0_8 : Int) (a0_9 : Int) (a0_10 : Int) (a0_11 : Int) (a0_12 : Bool) : Option (Int × (List S68) × (List Int) × Int × Int × Int × Int × Int × Int × Bool) := (impl_tick_happen.f a0_0 a0_1 a0_2 a0_3 a0_4 a0_5 a0_6 l0_7 a0_8 a0_9 a0_10 a0_11 a0_12 >>= fun t3 => (some (t3.1, t3.2.1, t3.2.2.1, t3.2.2.2.1, t3.2.2.2.2.1, t3.2.2.2.2.2.1, t3.2.2.2.2.2.2.1, t3.2.2.2.2.2.2.2.1, t3.2.2.2.2.2.2.2.2.1, t3.2.2.2.2.2.2.2.2.2)))
set_option maxRecDepth 100000 in
set_option maxHeartbeats 4000000 in
theorem impl_sender_act_v1i223.tri (a0_0 : Int) (a0_1 : Int) (a0_2 : Int) (a0_3 : Int) (a0_4 : Int) (a0_5 : Int) (a0_6 : Int) (l0_7 : List Int) (a0_8 : Int) (a0_9 : Int) (a0_10 : Int) (a0_11 : Int) (a0_12 : Bool) (r : Int × (List S68) × (List Int) × Int × Int × Int × Int × Int × Int × Bool) (h : impl_sender_act_v1i223.f a0_0 a0_1 a0_2 a0_3 a0_4 a0_5 a0_6 l0_7 a0_8 a0_9 a0_10 a0_11 a0_12 = some r) : Tri Try.prog 133 [.c (.ptr (.arg 0) [] 0), .c (.sc (.iface 223 (.agg #[])))] [(.arg 0, ⟨.box, 0, [.sc (.int .u32 a0_0), .sc (.int .i64 a0_1), .sc (.int .i64 a0_2), .sc (.int .i64 a0_3), .sc (.int .i64 a0_4), .sc (.int .i64 a0_5), .sc (.int .u32 a0_6), .own 1 l0_7.length (encL c_i64 l0_7), .sc (.int .i64 a0_8), .sc (.int .i64 a0_9), .sc (.int .i64 a0_10), .sc (.int .i64 a0_11), .sc (.bool a0_12)]⟩)] (fun o => o = ⟨.g [.sc (.int .i64 r.1), .ref (.res 0) [] 0 r.2.1.length, .ref (.res 1) [] 0 r.2.2.1.length, .sc (.int .i64 r.2.2.2.1), .sc (.int .i64 r.2.2.2.2.1)], [(.arg 0, ⟨.box, 0, [.sc (.int .u32 a0_0), .sc (.int .i64 a0_1), .sc (.int .i64 a0_2), .sc (.int .i64 a0_3), .sc (.int .i64 a0_4), .sc (.int .i64 a0_5), .sc (.int .u32 a0_6), .own 1 l0_7.length (encL c_i64 l0_7), .sc (.int .i64 r.2.2.2.2.2.1), .sc (.int .i64 r.2.2.2.2.2.2.1), .sc (.int .i64 r.2.2.2.2.2.2.2.1), .sc (.int .i64 r.2.2.2.2.2.2.2.2.1), .sc (.bool r.2.2.2.2.2.2.2.2.2)]⟩), (.res 0, ⟨.lst, 3, encL c68 r.2.1⟩), (.res 1, ⟨.lst, 1, encL c_i64 r.2.2.1⟩)], [], []⟩) := by
  refine tri_of_body (ac := c133v1i223) (xs := r133v1i223) Try.func133 (show Try.f133.body = some (Try.f133.body.getD .skip) from rfl) k133v1i223 q133v1i223 (Nat.le_of_ble_eq_true rfl) ?_
  refine body_of fun K hKn hKr => ?_
  unfold impl_sender_act_v1i223.f at h
  unfold c133v1i223
  simp only [initT, Nat.reduceAdd]
  refine seq_k fun J1 hJ1 => ?_
  refine reg_k ?_
  simp only [Nat.reduceEqDiff, Nat.reduceAdd, Nat.reduceMul, Nat.reduceLeDiff, Nat.reduceLT, Int.reduceLE, Int.reduceLT, Int.reduceGT, Int.reduceGE, Int.reduceEq, Int.reduceNe, Int.reduceToNat, reduceCtorEq, ak]
  refine gho_k (Weak.own (.tmp 4 0) (cs' := [.sc (.int .i64 0), .own 3 (([] : List S68).length) (encL c68 ([] : List S68)), .own 1 (([] : List Int).length) (encL c_i64 ([] : List Int)), .sc (.int .i64 0), .sc (.int .i64 0)]) rfl ⟨.inl rfl, .inr ⟨rfl, _, rfl⟩, .inr ⟨rfl, _, rfl⟩, .inl rfl, .inl rfl, trivial⟩) ?_
  simp only [Nat.reduceEqDiff, Nat.reduceAdd, Nat.reduceMul, Nat.reduceLeDiff, Nat.reduceLT, Int.reduceLE, Int.reduceLT, Int.reduceGT, Int.reduceGE, Int.reduceEq, Int.reduceNe, Int.reduceToNat, reduceCtorEq, ak]
  refine hJ1 _ ?_
  refine seq_k fun J2 hJ2 => ?_
  refine reg_k ?_
  simp only [Nat.reduceEqDiff, Nat.reduceAdd, Nat.reduceMul, Nat.reduceLeDiff, Nat.reduceLT, Int.reduceLE, Int.reduceLT, Int.reduceGT, Int.reduceGE, Int.reduceEq, Int.reduceNe, Int.reduceToNat, reduceCtorEq, ak]
  obtain ⟨t3, h4, h⟩ := of_bind h
  refine callv_iface (f := 183) (fn := Try.f183) (t := 223) (v := (.agg #[])) (recv := (.agg #[])) rfl (fun w => by kernel_rfl) Try.func183 (by kernel_rfl) (by decide) ?_
  refine call_m [(.arg 0, ⟨(.arg 0), [], none, .box⟩)] (s0 := [(.arg 0, ⟨.box, 0, [.sc (.int .u32 a0_0), .sc (.int .i64 a0_1), .sc (.int .i64 a0_2), .sc (.int .i64 a0_3), .sc (.int .i64 a0_4), .sc (.int .i64 a0_5), .sc (.int .u32 a0_6), .own 1 l0_7.length (encL c_i64 l0_7), .sc (.int .i64 a0_8), .sc (.int .i64 a0_9), .sc (.int .i64 a0_10), .sc (.int .i64 a0_11), .sc (.bool a0_12)]⟩)]) (by intro t ht; cases ht; decide) rfl rfl (by first | rfl | simp only [reduceCtorEq, Nat.reduceEqDiff, ak, akF]) (impl_tick_happen.tri a0_0 a0_1 a0_2 a0_3 a0_4 a0_5 a0_6 l0_7 a0_8 a0_9 a0_10 a0_11 a0_12 _ h4) (by first | rfl | simp only [reduceCtorEq, Nat.reduceEqDiff, ak, akF]) (by simp [bkOk2, memK]) (fun hl4 => ?_)
  refine call_st (s4 := [(.arg 0, ⟨.box, 0, [.sc (.int .u32 a0_0), .sc (.int .i64 a0_1), .sc (.int .i64 a0_2), .sc (.int .i64 a0_3), .sc (.int .i64 a0_4), .sc (.int .i64 a0_5), .sc (.int .u32 a0_6), .own 1 l0_7.length (encL c_i64 l0_7), .sc (.int .i64 t3.2.2.2.2.2.1), .sc (.int .i64 t3.2.2.2.2.2.2.1), .sc (.int .i64 t3.2.2.2.2.2.2.2.1), .sc (.int .i64 t3.2.2.2.2.2.2.2.2.1), .sc (.bool t3.2.2.2.2.2.2.2.2.2)]⟩), (.tmp 4 0, ⟨.box, 0, [.sc (.int .i64 0), .own 3 (([] : List S68).length) (encL c68 ([] : List S68)), .own 1 (([] : List Int).length) (encL c_i64 ([] : List Int)), .sc (.int .i64 0), .sc (.int .i64 0)]⟩), (.tmp 7 1, ⟨.lst, 1, encL c_i64 t3.2.2.1⟩), (.tmp 7 0, ⟨.lst, 3, encL c68 t3.2.1⟩)]) (m1' := []) (m2' := []) (v' := .g [.sc (.int .i64 t3.1), .ref (.tmp 7 0) [] 0 t3.2.1.length, .ref (.tmp 7 1) [] 0 t3.2.2.1.length, .sc (.int .i64 t3.2.2.2.1), .sc (.int .i64 t3.2.2.2.2.1)]) (Sto.mapN_killNil _ _) (mrgL_whole (new' := [.sc (.int .u32 a0_0), .sc (.int .i64 a0_1), .sc (.int .i64 a0_2), .sc (.int .i64 a0_3), .sc (.int .i64 a0_4), .sc (.int .i64 a0_5), .sc (.int .u32 a0_6), .own 1 l0_7.length (encL c_i64 l0_7), .sc (.int .i64 t3.2.2.2.2.2.1), .sc (.int .i64 t3.2.2.2.2.2.2.1), .sc (.int .i64 t3.2.2.2.2.2.2.2.1), .sc (.int .i64 t3.2.2.2.2.2.2.2.2.1), .sc (.bool t3.2.2.2.2.2.2.2.2.2)]) (mrgL_nil' _ _ _) rfl (by rfl) (.inl ⟨rfl, by first | rfl | simp only [reduceCtorEq, Nat.reduceEqDiff, ak, akF, Nat.zero_add, List.append_nil]⟩)) (by rfl) (mapT_killNil _ _) (by rfl) (by rfl) (by first | rfl | simp only [reduceCtorEq, Nat.reduceEqDiff, ak, akF, Nat.zero_add, List.append_nil]) ?_
  have g6 : (encL c68 t3.2.1).length = t3.2.1.length * 3 := by simp [encL_length c68_w]
  have g7 : (encL c_i64 t3.2.2.1).length = t3.2.2.1.length * 1 := by simp [encL_length c_i64_w]
  simp only [Nat.reduceEqDiff, Nat.reduceAdd, Nat.reduceMul, Nat.reduceLeDiff, Nat.reduceLT, Int.reduceLE, Int.reduceLT, Int.reduceGT, Int.reduceGE, Int.reduceEq, Int.reduceNe, Int.reduceToNat, reduceCtorEq, ak, g6, g7]
  refine hJ2 _ ?_
  obtain rfl := Option.some.inj h
  refine hKr _ ⟨_, rfl, [⟨(.tmp 4 0), [1], none, .lst⟩, ⟨(.tmp 4 0), [2], none, .lst⟩], _, rfl, rfl, ?_⟩
  first | rfl | (simp only [reduceCtorEq, Nat.reduceEqDiff, ak, akF]; done) | (simp [reduceCtorEq, Nat.reduceEqDiff, ak, akF]; done)
end Go.AK
