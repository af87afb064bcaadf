-- by a program of this session (wip/ak/pw.py)
import Derived.Test.YtlladicdmmdboaaUSubState1
set_option synthInstance.maxSize 2000
set_option linter.unusedVariables false
set_option linter.unusedSimpArgs false
namespace Go.AK
open Go Go.Proofs
/-! ### impl.subAfter: function 87 -/
def c87_l0 : AC := .seq (.reg [.op none (.bin 23 .lss (.tmp 22) (.tmp 21)), .keep [7, 8, 20, 21, 22, 23]]) (.seq (.cond (.tmp 23) (.skip) (.gh (.exit 0))) (.seq (.ga (.block 1 (.seq (.reg [.op none (.iaddr 24 3 (.tmp 20) (.tmp 22)), .op none (.load 25 true 3 (.tmp 24)), .op none (.alloc 10 [.int .i64 0, .int .i64 0, .int .u32 0]), .op none (.store 3 (.tmp 10) (.tmp 25)), .keep [7, 8, 10, 20, 21, 22]]) (.seq (.reg [.op none (.mv 11 (.const (.nilIface))), .keep [7, 8, 10, 20, 21, 22]]) (.seq (.seq (.reg [.op none (.faddr 26 0 (.tmp 10)), .op none (.load 27 false 1 (.tmp 26)), .keep [7, 8, 10, 20, 21, 22, 27]]) (.block 2 (.seq (.reg [.op none (.bin 33 .eql (.tmp 27) (.const (.int .i64 1))), .op none (.mv 32 (.tmp 33)), .keep [7, 8, 10, 20, 21, 22, 27, 32]]) (.cond (.tmp 32) (.reg [.op none (.faddr 34 1 (.tmp 10)), .op none (.load 35 false 1 (.tmp 34)), .op none (.build 36 [.int .i64 0] [(0, 1, .tmp 35)]), .op none (.mki 37 219 (.tmp 36)), .op none (.mv 11 (.tmp 37)), .keep [7, 8, 11, 20, 21, 22]]) (.seq (.reg [.op none (.bin 39 .eql (.tmp 27) (.const (.int .i64 2))), .op none (.mv 38 (.tmp 39)), .keep [7, 8, 10, 20, 21, 22, 27, 38]]) (.cond (.tmp 38) (.reg [.op none (.faddr 40 2 (.tmp 10)), .op none (.load 41 false 1 (.tmp 40)), .op none (.build 42 [.int .u32 0] [(0, 1, .tmp 41)]), .op none (.mki 43 221 (.tmp 42)), .op none (.mv 11 (.tmp 43)), .keep [7, 8, 11, 20, 21, 22]]) (.seq (.reg [.op none (.bin 45 .eql (.tmp 27) (.const (.int .i64 3))), .op none (.mv 44 (.tmp 45)), .keep [7, 8, 20, 21, 22, 44]]) (.cond (.tmp 44) (.reg [.op none (.build 46 [] []), .op none (.mki 47 223 (.tmp 46)), .op none (.mv 11 (.tmp 47)), .keep [7, 8, 11, 20, 21, 22]]) (.seq (.reg [.op none (.mv 28 (.tmp 8)), .op none (.build 29 [.int .i64 0, .slice none 0 0, .slice none 0 0, .int .i64 0, .int .i64 0] [(0, 1, .const (.int .i64 1))]), .gh, .op none (.bslice 30 5 [.int .i64 0, .slice none 0 0, .slice none 0 0, .int .i64 0, .int .i64 0] 1 [(0, .tmp 29)]), .gh, .op none (.app 31 5 72 true (.tmp 28) (.tmp 30)), .op none (.mv 8 (.tmp 31)), .keep [7, 8, 20, 21, 22]]) (.exit 1)))))))))) (.reg [.op none (.mv 48 (.tmp 8)), .op none (.mv 49 (.tmp 7)), .op none (.mv 50 (.tmp 11)), .call none (some 51) 133 [.tmp 49, .tmp 50], .op none (.bslice 52 5 [.int .i64 0, .slice none 0 0, .slice none 0 0, .int .i64 0, .int .i64 0] 1 [(0, .tmp 51)]), .gh, .op none (.app 53 5 72 true (.tmp 48) (.tmp 52)), .op none (.mv 8 (.tmp 53)), .keep [7, 8, 20, 21, 22]])))))) (.reg [.op none (.bin 54 .add (.tmp 22) (.const (.int .i64 1))), .op none (.mv 22 (.tmp 54)), .keep [7, 8, 20, 21, 22]])))
def c87 : AC := .seq (.reg [.op none (.box 2 (.tmp 0)), .op none (.mv 4 (.const (.pointer none))), .op none (.mv 5 (.const (.slice none 0 0))), .gh, .op none (.mv 6 (.const (.int .i64 0))), .keep [1, 2]]) (.seq (.seq (.reg [.op none (.load 12 true 6 (.tmp 2)), .call none (some 13) 131 [.tmp 12], .op none (.un 14 .not (.tmp 13)), .keep [1, 2, 14]]) (.cond (.tmp 14) (.seq (.reg [.op none (.mv 4 (.const (.pointer none))), .op none (.mv 5 (.const (.slice none 0 0))), .gh, .op none (.mv 6 (.const (.int .i64 17))), .keep [4, 5, 6]]) (.ret)) (.skip))) (.seq (.seq (.reg [.op none (.mv 15 (.tmp 1)), .op none (.len 16 (.tmp 15)), .op none (.bin 17 .gtr (.tmp 16) (.const (.int .i64 4000))), .keep [1, 2, 17]]) (.cond (.tmp 17) (.seq (.reg [.op none (.mv 4 (.const (.pointer none))), .op none (.mv 5 (.const (.slice none 0 0))), .gh, .op none (.mv 6 (.const (.int .i64 5))), .keep [4, 5, 6]]) (.ret)) (.skip))) (.seq (.reg [.op none (.load 18 true 6 (.tmp 2)), .call none (some 19) 132 [.tmp 18], .op none (.mv 7 (.tmp 19)), .keep [1, 7]]) (.seq (.reg [.op none (.mv 8 (.const (.slice none 0 0))), .gh, .keep [1, 7, 8]]) (.seq (.seq (.reg [.op none (.mv 20 (.tmp 1)), .op none (.len 21 (.tmp 20)), .op none (.mv 22 (.const (.int .i64 0))), .keep [7, 8, 20, 21, 22]]) (.block 0 (.gh (.loop (.ga c87_l0))))) (.seq (.reg [.op none (.mv 55 (.tmp 7)), .op none (.mv 56 (.tmp 8)), .op none (.mv 4 (.tmp 55)), .op none (.mv 5 (.tmp 56)), .op none (.mv 6 (.const (.int .i64 0))), .keep [4, 5, 6]]) (.ret)))))))
def r87 : List RV := [.tmp 4, .tmp 5, .tmp 6]
theorem k87 : compC Try.prog 57 c87 (Try.f87.body.getD .skip) = some c87.erase := by kernel_rfl
theorem q87 : rvsOf Try.prog Try.f87.results.toList = some r87 := by kernel_rfl
def impl_subAfter.l0 (l1 : List S63) (x0_0 : Int) (x0_2 : Int) (x0_3 : Int) (x0_4 : Int) (x0_5 : Int) (x0_6 : Int) (x0_7 : Int) (x0_1 : Int) (x0_8 : Int) (x0_9 : (List Int)) (x0_10 : Int) (x0_11 : Int) (x0_12 : Int) (x0_13 : Int) (x0_14 : Bool) (x0_15 : (List S66)) : Option (Int × (List Int) × Int × Int × Int × Int × Bool × (List S66)) := (if x0_1 < x0_0 then ((if 0 ≤ x0_1 ∧ x0_1 < (l1.length : Int) then (if (rd z63 l1 x0_1).f0 = 1 then (impl_sender_act_v1i219.f x0_2 x0_3 x0_4 x0_5 x0_6 x0_7 x0_8 x0_9 x0_10 x0_11 x0_12 x0_13 x0_14 ((rd z63 l1 x0_1).f1) >>= fun t38 => (if (x0_15.length + 1) * 72 ≤ 140737488355328 then (some (x0_8, t38.2.2.2.2.2.1, t38.2.2.2.2.2.2, x0_11, x0_12, x0_13, x0_14, (x0_15 ++ ([(⟨t38.1, t38.2.1, t38.2.2.1, t38.2.2.2.1, t38.2.2.2.2.1⟩ : S66)] : List S66)))) else none)) else (if (rd z63 l1 x0_1).f0 = 2 then (impl_sender_act_v1i221.f x0_2 x0_3 x0_4 x0_5 x0_6 x0_7 x0_8 x0_9 x0_10 x0_11 x0_12 x0_13 x0_14 ((rd z63 l1 x0_1).f2) >>= fun t54 => (if (x0_15.length + 1) * 72 ≤ 140737488355328 then (some (t54.2.2.2.2.2.1, t54.2.2.2.2.2.2.1, t54.2.2.2.2.2.2.2.1, t54.2.2.2.2.2.2.2.2.1, t54.2.2.2.2.2.2.2.2.2.1, t54.2.2.2.2.2.2.2.2.2.2.1, t54.2.2.2.2.2.2.2.2.2.2.2, (x0_15 ++ ([(⟨t54.1, t54.2.1, t54.2.2.1, t54.2.2.2.1, t54.2.2.2.2.1⟩ : S66)] : List S66)))) else none)) else (if (rd z63 l1 x0_1).f0 = 3 then (impl_sender_act_v1i223.f x0_2 x0_3 x0_4 x0_5 x0_6 x0_7 x0_8 x0_9 x0_10 x0_11 x0_12 x0_13 x0_14 >>= fun t70 => (if (x0_15.length + 1) * 72 ≤ 140737488355328 then (some (x0_8, x0_9, t70.2.2.2.2.2.1, t70.2.2.2.2.2.2.1, t70.2.2.2.2.2.2.2.1, t70.2.2.2.2.2.2.2.2.1, t70.2.2.2.2.2.2.2.2.2, (x0_15 ++ ([(⟨t70.1, t70.2.1, t70.2.2.1, t70.2.2.2.1, t70.2.2.2.2.1⟩ : S66)] : List S66)))) else none)) else (if (x0_15.length + 1) * 72 ≤ 140737488355328 then (some (x0_8, x0_9, x0_10, x0_11, x0_12, x0_13, x0_14, (x0_15 ++ ([(⟨1, ([] : List S68), ([] : List Int), 0, 0⟩ : S66)] : List S66)))) else none)))) else none) >>= fun (j24 : Int × (List Int) × Int × Int × Int × Int × Bool × (List S66)) => (impl_subAfter.l0 l1 x0_0 x0_2 x0_3 x0_4 x0_5 x0_6 x0_7 (IntKind.i64.wrap (x0_1 + 1)) j24.1 j24.2.1 j24.2.2.1 j24.2.2.2.1 j24.2.2.2.2.1 j24.2.2.2.2.2.1 j24.2.2.2.2.2.2.1 j24.2.2.2.2.2.2.2)) else (some (x0_8, x0_9, x0_10, x0_11, x0_12, x0_13, x0_14, x0_15)))
  partial_fixpoint
def impl_subAfter.f (a0_0 : Int) (a0_1 : Int) (a0_2 : Int) (a0_3 : Int) (a0_4 : Int) (a0_5 : Int) (l1 : List S63) : Option ((Option (Int × Int × Int × Int × Int × Int × Int × (List Int) × Int × Int × Int × Int × Bool)) × (List S66) × Int) := (impl_validSub.f a0_0 a0_1 a0_2 a0_3 a0_4 a0_5 >>= fun t4 => (if (!t4) = true then (some (none, ([] : List S66), 17)) else (if (l1.length : Int) > 4000 then (some (none, ([] : List S66), 5)) else (impl_newSender.f a0_0 a0_1 a0_2 a0_3 a0_4 a0_5 >>= fun t14 => (impl_subAfter.l0 l1 (l1.length : Int) t14.1 t14.2.1 t14.2.2.1 t14.2.2.2.1 t14.2.2.2.2.1 t14.2.2.2.2.2.1 0 t14.2.2.2.2.2.2.1 t14.2.2.2.2.2.2.2.1 t14.2.2.2.2.2.2.2.2.1 t14.2.2.2.2.2.2.2.2.2.1 t14.2.2.2.2.2.2.2.2.2.2.1 t14.2.2.2.2.2.2.2.2.2.2.2.1 t14.2.2.2.2.2.2.2.2.2.2.2.2 ([] : List S66) >>= fun (y96 : (Int × (List Int) × Int × Int × Int × Int × Bool × (List S66))) => (some ((some (t14.1, t14.2.1, t14.2.2.1, t14.2.2.2.1, t14.2.2.2.2.1, t14.2.2.2.2.2.1, y96.1, y96.2.1, y96.2.2.1, y96.2.2.2.1, y96.2.2.2.2.1, y96.2.2.2.2.2.1, y96.2.2.2.2.2.2.1)), y96.2.2.2.2.2.2.2, 0)))))))
set_option maxRecDepth 100000 in
set_option maxHeartbeats 4000000 in
theorem impl_subAfter.l0_walk (cs0 : List Cell) (o0 : Nat) (l1 : List S63) (hv0 : Vw c63 3 cs0 o0 l1) (x0_0 : Int) (x0_2 : Int) (x0_3 : Int) (x0_4 : Int) (x0_5 : Int) (x0_6 : Int) (x0_7 : Int) (x0_1 : Int) (x0_8 : Int) (x0_9 : (List Int)) (x0_10 : Int) (x0_11 : Int) (x0_12 : Int) (x0_13 : Int) (x0_14 : Bool) (x0_15 : (List S66)) (y : (Int × (List Int) × Int × Int × Int × Int × Bool × (List S66))) (h : impl_subAfter.l0 l1 x0_0 x0_2 x0_3 x0_4 x0_5 x0_6 x0_7 x0_1 x0_8 x0_9 x0_10 x0_11 x0_12 x0_13 x0_14 x0_15 = some y) (K : AE → St → Prop) (hx0 : K (.exit 0) ⟨[(7, .c (.ptr (.tmp 19 0) [] 0)), (8, .c (.ref (.tmp 8 20) [] 0 y.2.2.2.2.2.2.2.length))], [(.arg 0, ⟨.fz, 3, cs0⟩), (.tmp 19 0, ⟨.box, 0, [.sc (.int .u32 x0_2), .sc (.int .i64 x0_3), .sc (.int .i64 x0_4), .sc (.int .i64 x0_5), .sc (.int .i64 x0_6), .sc (.int .i64 x0_7), .sc (.int .u32 y.1), .own 1 y.2.1.length (encL c_i64 y.2.1), .sc (.int .i64 y.2.2.1), .sc (.int .i64 y.2.2.2.1), .sc (.int .i64 y.2.2.2.2.1), .sc (.int .i64 y.2.2.2.2.2.1), .sc (.bool y.2.2.2.2.2.2.1)]⟩), (.tmp 8 20, ⟨.lst, 5, encL c66 y.2.2.2.2.2.2.2⟩)], [], []⟩) : loopS Try.prog 57 (.ga c87_l0) K ⟨[(7, .c (.ptr (.tmp 19 0) [] 0)), (8, .c (.ref (.tmp 8 20) [] 0 x0_15.length)), (20, .c (.ref (.arg 0) [] o0 l1.length)), (21, .c (.sc (.int .i64 x0_0))), (22, .c (.sc (.int .i64 x0_1)))], [(.arg 0, ⟨.fz, 3, cs0⟩), (.tmp 19 0, ⟨.box, 0, [.sc (.int .u32 x0_2), .sc (.int .i64 x0_3), .sc (.int .i64 x0_4), .sc (.int .i64 x0_5), .sc (.int .i64 x0_6), .sc (.int .i64 x0_7), .sc (.int .u32 x0_8), .own 1 x0_9.length (encL c_i64 x0_9), .sc (.int .i64 x0_10), .sc (.int .i64 x0_11), .sc (.int .i64 x0_12), .sc (.int .i64 x0_13), .sc (.bool x0_14)]⟩), (.tmp 8 20, ⟨.lst, 5, encL c66 x0_15⟩)], [], []⟩ := by
  refine impl_subAfter.l0.partial_correctness l1 x0_0 x0_2 x0_3 x0_4 x0_5 x0_6 x0_7 (motive := fun x0_1 x0_8 x0_9 x0_10 x0_11 x0_12 x0_13 x0_14 x0_15 y => ∀ (K : AE → St → Prop), (K (.exit 0) ⟨[(7, .c (.ptr (.tmp 19 0) [] 0)), (8, .c (.ref (.tmp 8 20) [] 0 y.2.2.2.2.2.2.2.length))], [(.arg 0, ⟨.fz, 3, cs0⟩), (.tmp 19 0, ⟨.box, 0, [.sc (.int .u32 x0_2), .sc (.int .i64 x0_3), .sc (.int .i64 x0_4), .sc (.int .i64 x0_5), .sc (.int .i64 x0_6), .sc (.int .i64 x0_7), .sc (.int .u32 y.1), .own 1 y.2.1.length (encL c_i64 y.2.1), .sc (.int .i64 y.2.2.1), .sc (.int .i64 y.2.2.2.1), .sc (.int .i64 y.2.2.2.2.1), .sc (.int .i64 y.2.2.2.2.2.1), .sc (.bool y.2.2.2.2.2.2.1)]⟩), (.tmp 8 20, ⟨.lst, 5, encL c66 y.2.2.2.2.2.2.2⟩)], [], []⟩) → loopS Try.prog 57 (.ga c87_l0) K ⟨[(7, .c (.ptr (.tmp 19 0) [] 0)), (8, .c (.ref (.tmp 8 20) [] 0 x0_15.length)), (20, .c (.ref (.arg 0) [] o0 l1.length)), (21, .c (.sc (.int .i64 x0_0))), (22, .c (.sc (.int .i64 x0_1)))], [(.arg 0, ⟨.fz, 3, cs0⟩), (.tmp 19 0, ⟨.box, 0, [.sc (.int .u32 x0_2), .sc (.int .i64 x0_3), .sc (.int .i64 x0_4), .sc (.int .i64 x0_5), .sc (.int .i64 x0_6), .sc (.int .i64 x0_7), .sc (.int .u32 x0_8), .own 1 x0_9.length (encL c_i64 x0_9), .sc (.int .i64 x0_10), .sc (.int .i64 x0_11), .sc (.int .i64 x0_12), .sc (.int .i64 x0_13), .sc (.bool x0_14)]⟩), (.tmp 8 20, ⟨.lst, 5, encL c66 x0_15⟩)], [], []⟩) ?_ x0_1 x0_8 x0_9 x0_10 x0_11 x0_12 x0_13 x0_14 x0_15 y h K hx0
  clear h hx0
  intro rec ih x0_1 x0_8 x0_9 x0_10 x0_11 x0_12 x0_13 x0_14 x0_15 y h K hx0
  refine loop_unroll (ga_k fun G0 G0n G0r G0x => ?_)
  unfold c87_l0
  refine seq_k fun J21 hJ21 => ?_
  refine reg_k ?_
  simp only [Nat.reduceEqDiff, Nat.reduceAdd, Nat.reduceMul, Nat.reduceLeDiff, Nat.reduceLT, Int.reduceLE, Int.reduceLT, Int.reduceGT, Int.reduceGE, Int.reduceEq, Int.reduceNe, Int.reduceToNat, reduceCtorEq, ak]
  refine hJ21 _ ?_
  refine seq_k fun J22 hJ22 => ?_
  refine cond_k (b := decide (x0_1 < x0_0)) rfl (fun c23 => ?_) (fun c23 => ?_)
  · replace c23 := of_decide_eq_true c23; rw [if_pos c23] at h
    refine hJ22 _ ?_
    obtain ⟨j24, h25, hn⟩ := of_bind h
    refine seq_j (fun st => st = ⟨[(7, .c (.ptr (.tmp 19 0) [] 0)), (8, .c (.ref (.tmp 8 20) [] 0 j24.2.2.2.2.2.2.2.length)), (20, .c (.ref (.arg 0) [] o0 l1.length)), (21, .c (.sc (.int .i64 x0_0))), (22, .c (.sc (.int .i64 x0_1)))], [(.arg 0, ⟨.fz, 3, cs0⟩), (.tmp 19 0, ⟨.box, 0, [.sc (.int .u32 x0_2), .sc (.int .i64 x0_3), .sc (.int .i64 x0_4), .sc (.int .i64 x0_5), .sc (.int .i64 x0_6), .sc (.int .i64 x0_7), .sc (.int .u32 j24.1), .own 1 j24.2.1.length (encL c_i64 j24.2.1), .sc (.int .i64 j24.2.2.1), .sc (.int .i64 j24.2.2.2.1), .sc (.int .i64 j24.2.2.2.2.1), .sc (.int .i64 j24.2.2.2.2.2.1), .sc (.bool j24.2.2.2.2.2.2.1)]⟩), (.tmp 8 20, ⟨.lst, 5, encL c66 j24.2.2.2.2.2.2.2⟩)], [], []⟩) (fun J26 hJ26 => ?_) ?_
    · replace h := h25; clear hn
      refine ga_k fun G27 G27n G27r G27x => ?_
      refine block_k fun B28 B28n B28x B28r B28j => ?_
      refine seq_k fun J29 hJ29 => ?_
      refine reg_k ?_
      obtain ⟨b30, h⟩ := of_guard h
      have g31 : (List.drop (o0 + x0_1.toNat * 3) (cs0)).take 3 = [.sc (.int .i64 ((rd z63 l1 x0_1).f0)), .sc (.int .i64 ((rd z63 l1 x0_1).f1)), .sc (.int .u32 ((rd z63 l1 x0_1).f2))] := hv0.stretch z63 b30.1 b30.2
      simp only [Nat.reduceEqDiff, Nat.reduceAdd, Nat.reduceMul, Nat.reduceLeDiff, Nat.reduceLT, Int.reduceLE, Int.reduceLT, Int.reduceGT, Int.reduceGE, Int.reduceEq, Int.reduceNe, Int.reduceToNat, reduceCtorEq, ak, b30, g31]
      refine hJ29 _ ?_
      refine seq_k fun J32 hJ32 => ?_
      refine reg_k ?_
      simp only [Nat.reduceEqDiff, Nat.reduceAdd, Nat.reduceMul, Nat.reduceLeDiff, Nat.reduceLT, Int.reduceLE, Int.reduceLT, Int.reduceGT, Int.reduceGE, Int.reduceEq, Int.reduceNe, Int.reduceToNat, reduceCtorEq, ak]
      refine hJ32 _ ?_
      refine seq_k fun J33 hJ33 => ?_
      refine seq_k fun J34 hJ34 => ?_
      refine reg_k ?_
      simp only [Nat.reduceEqDiff, Nat.reduceAdd, Nat.reduceMul, Nat.reduceLeDiff, Nat.reduceLT, Int.reduceLE, Int.reduceLT, Int.reduceGT, Int.reduceGE, Int.reduceEq, Int.reduceNe, Int.reduceToNat, reduceCtorEq, ak]
      refine hJ34 _ ?_
      refine block_k fun B35 B35n B35x B35r B35j => ?_
      refine seq_k fun J36 hJ36 => ?_
      refine reg_k ?_
      simp only [Nat.reduceEqDiff, Nat.reduceAdd, Nat.reduceMul, Nat.reduceLeDiff, Nat.reduceLT, Int.reduceLE, Int.reduceLT, Int.reduceGT, Int.reduceGE, Int.reduceEq, Int.reduceNe, Int.reduceToNat, reduceCtorEq, ak]
      refine hJ36 _ ?_
      refine cond_k (b := decide ((rd z63 l1 x0_1).f0 = 1)) rfl (fun c37 => ?_) (fun c37 => ?_)
      · replace c37 := of_decide_eq_true c37; rw [if_pos c37] at h
        refine reg_k ?_
        simp only [Nat.reduceEqDiff, Nat.reduceAdd, Nat.reduceMul, Nat.reduceLeDiff, Nat.reduceLT, Int.reduceLE, Int.reduceLT, Int.reduceGT, Int.reduceGE, Int.reduceEq, Int.reduceNe, Int.reduceToNat, reduceCtorEq, ak]
        refine B35n _ ?_
        refine hJ33 _ ?_
        refine reg_k ?_
        simp only [Nat.reduceEqDiff, Nat.reduceAdd, Nat.reduceMul, Nat.reduceLeDiff, Nat.reduceLT, Int.reduceLE, Int.reduceLT, Int.reduceGT, Int.reduceGE, Int.reduceEq, Int.reduceNe, Int.reduceToNat, reduceCtorEq, ak]
        obtain ⟨t38, h39, h⟩ := of_bind h
        refine call_m [(.arg 0, ⟨(.tmp 19 0), [], none, .box⟩)] (s0 := [(.arg 0, ⟨.box, 0, [.sc (.int .u32 x0_2), .sc (.int .i64 x0_3), .sc (.int .i64 x0_4), .sc (.int .i64 x0_5), .sc (.int .i64 x0_6), .sc (.int .i64 x0_7), .sc (.int .u32 x0_8), .own 1 x0_9.length (encL c_i64 x0_9), .sc (.int .i64 x0_10), .sc (.int .i64 x0_11), .sc (.int .i64 x0_12), .sc (.int .i64 x0_13), .sc (.bool x0_14)]⟩)]) (by intro t ht; cases ht; decide) rfl rfl (by first | rfl | simp only [reduceCtorEq, Nat.reduceEqDiff, ak, akF, b30, g31]) (impl_sender_act_v1i219.tri x0_2 x0_3 x0_4 x0_5 x0_6 x0_7 x0_8 x0_9 x0_10 x0_11 x0_12 x0_13 x0_14 ((rd z63 l1 x0_1).f1) _ h39) (by first | rfl | simp only [reduceCtorEq, Nat.reduceEqDiff, ak, akF]) (by simp [bkOk2, memK]) (fun hl39 => ?_)
        refine call_st (s2 := [(.arg 0, ⟨.fz, 3, cs0⟩), (.tmp 19 0, ⟨.box, 0, [.sc (.int .u32 x0_2), .sc (.int .i64 x0_3), .sc (.int .i64 x0_4), .sc (.int .i64 x0_5), .sc (.int .i64 x0_6), .sc (.int .i64 x0_7), .sc (.int .u32 x0_8), .own 1 x0_9.length (encL c_i64 x0_9), .sc (.int .i64 x0_10), .sc (.int .i64 x0_11), .sc (.int .i64 x0_12), .sc (.int .i64 x0_13), .sc (.bool x0_14)]⟩), (.tmp 8 20, ⟨.lst, 5, encL c66 x0_15⟩), (.tmp 10 0, ⟨.box, 0, [.sc (.int .i64 ((rd z63 l1 x0_1).f0)), .sc (.int .i64 ((rd z63 l1 x0_1).f1)), .sc (.int .u32 ((rd z63 l1 x0_1).f2))]⟩)]) (s4 := [(.arg 0, ⟨.fz, 3, cs0⟩), (.tmp 19 0, ⟨.box, 0, [.sc (.int .u32 x0_2), .sc (.int .i64 x0_3), .sc (.int .i64 x0_4), .sc (.int .i64 x0_5), .sc (.int .i64 x0_6), .sc (.int .i64 x0_7), .sc (.int .u32 x0_8), .own 1 t38.2.2.2.2.2.1.length (encL c_i64 t38.2.2.2.2.2.1), .sc (.int .i64 t38.2.2.2.2.2.2), .sc (.int .i64 x0_11), .sc (.int .i64 x0_12), .sc (.int .i64 x0_13), .sc (.bool x0_14)]⟩), (.tmp 8 20, ⟨.lst, 5, encL c66 x0_15⟩), (.tmp 10 0, ⟨.box, 0, [.sc (.int .i64 ((rd z63 l1 x0_1).f0)), .sc (.int .i64 ((rd z63 l1 x0_1).f1)), .sc (.int .u32 ((rd z63 l1 x0_1).f2))]⟩), (.tmp 51 1, ⟨.lst, 1, encL c_i64 t38.2.2.1⟩), (.tmp 51 0, ⟨.lst, 3, encL c68 t38.2.1⟩)]) (t' := [(7, .c (.ptr (.tmp 19 0) [] 0)), (8, .c (.ref (.tmp 8 20) [] 0 x0_15.length)), (11, .c (.sc (.iface 219 (.agg #[.int .i64 ((rd z63 l1 x0_1).f1)])))), (20, .c (.ref (.arg 0) [] o0 l1.length)), (21, .c (.sc (.int .i64 x0_0))), (22, .c (.sc (.int .i64 x0_1))), (48, .c (.ref (.tmp 8 20) [] 0 x0_15.length)), (49, .c (.ptr (.tmp 19 0) [] 0)), (50, .c (.sc (.iface 219 (.agg #[.int .i64 ((rd z63 l1 x0_1).f1)]))))]) (m1' := []) (m2' := []) (v' := .g [.sc (.int .i64 t38.1), .ref (.tmp 51 0) [] 0 t38.2.1.length, .ref (.tmp 51 1) [] 0 t38.2.2.1.length, .sc (.int .i64 t38.2.2.2.1), .sc (.int .i64 t38.2.2.2.2.1)]) (by first | rfl | simp only [reduceCtorEq, Nat.reduceEqDiff, ak, akF, List.contains_nil, List.contains_cons, Nat.reduceBEq, b30]) (mrgL_whole (new' := [.sc (.int .u32 x0_2), .sc (.int .i64 x0_3), .sc (.int .i64 x0_4), .sc (.int .i64 x0_5), .sc (.int .i64 x0_6), .sc (.int .i64 x0_7), .sc (.int .u32 x0_8), .own 1 t38.2.2.2.2.2.1.length (encL c_i64 t38.2.2.2.2.2.1), .sc (.int .i64 t38.2.2.2.2.2.2), .sc (.int .i64 x0_11), .sc (.int .i64 x0_12), .sc (.int .i64 x0_13), .sc (.bool x0_14)]) (mrgL_nil' _ _ _) rfl (by rfl) (.inl ⟨rfl, by first | rfl | simp only [reduceCtorEq, Nat.reduceEqDiff, ak, akF, Nat.zero_add, List.append_nil, b30]⟩)) (by rfl) (by first | rfl | simp only [reduceCtorEq, Nat.reduceEqDiff, ak, akF, List.contains_nil, List.contains_cons, Nat.reduceBEq, b30]) (by rfl) (by rfl) (by first | rfl | simp only [reduceCtorEq, Nat.reduceEqDiff, ak, akF, Nat.zero_add, List.append_nil, b30]) ?_
        have g41 : (List.replicate 1 ([.int .i64 0, .slice none 0 0, .slice none 0 0, .int .i64 0, .int .i64 0] : List Value)).flatten = [.int .i64 0, .slice none 0 0, .slice none 0 0, .int .i64 0, .int .i64 0] := rfl
        have g42 : (encL c68 t38.2.1).length = t38.2.1.length * 3 := by simp [encL_length c68_w]
        have g43 : (encL c_i64 t38.2.2.1).length = t38.2.2.1.length * 1 := by simp [encL_length c_i64_w]
        have g44 : (⟨.lst, 5, [.sc (.int .i64 t38.1), .own 3 t38.2.1.length (encL c68 t38.2.1), .own 1 t38.2.2.1.length (encL c_i64 t38.2.2.1), .sc (.int .i64 t38.2.2.2.1), .sc (.int .i64 t38.2.2.2.2.1)]⟩ : Root) = ⟨.lst, 5, encL c66 ([(⟨t38.1, t38.2.1, t38.2.2.1, t38.2.2.2.1, t38.2.2.2.2.1⟩ : S66)] : List S66)⟩ := rfl
        have g45 : ([(⟨t38.1, t38.2.1, t38.2.2.1, t38.2.2.2.1, t38.2.2.2.2.1⟩ : S66)] : List S66).length = 1 := rfl
        simp only [Nat.reduceEqDiff, Nat.reduceAdd, Nat.reduceMul, Nat.reduceLeDiff, Nat.reduceLT, Int.reduceLE, Int.reduceLT, Int.reduceGT, Int.reduceGE, Int.reduceEq, Int.reduceNe, Int.reduceToNat, reduceCtorEq, ak, g41, g42, g43, g44, g45]
        refine gho_k (Weak.refl _ _) ?_
        have g46 : (encL c66 ([(⟨t38.1, t38.2.1, t38.2.2.1, t38.2.2.2.1, t38.2.2.2.2.1⟩ : S66)] : List S66)).length = 1 * 5 := by simp [encL_length c66_w]
        have g47 : (encL c66 ([(⟨t38.1, t38.2.1, t38.2.2.1, t38.2.2.2.1, t38.2.2.2.2.1⟩ : S66)] : List S66)).all nd = true := rfl
        obtain ⟨b48, h⟩ := of_guard h
        have g49 : appLim x0_15.length 1 72 := ⟨b48, by have := b48; omega⟩
        have g50 : (encL c66 x0_15).length = x0_15.length * 5 := by simp [encL_length c66_w]
        have g51 : encL c66 x0_15 ++ encL c66 ([(⟨t38.1, t38.2.1, t38.2.2.1, t38.2.2.2.1, t38.2.2.2.2.1⟩ : S66)] : List S66) = encL c66 (x0_15 ++ ([(⟨t38.1, t38.2.1, t38.2.2.1, t38.2.2.2.1, t38.2.2.2.2.1⟩ : S66)] : List S66)) := (encL_append _ _).symm
        simp only [Nat.reduceEqDiff, Nat.reduceAdd, Nat.reduceMul, Nat.reduceLeDiff, Nat.reduceLT, Int.reduceLE, Int.reduceLT, Int.reduceGT, Int.reduceGE, Int.reduceEq, Int.reduceNe, Int.reduceToNat, reduceCtorEq, ak, g46, g47, g49, g50, g51]
        refine B28n _ ?_
        obtain rfl := Option.some.inj h
        refine G27n _ _ (((Weak.keep [7, 8, 20, 21, 22]).trans ((Weak.foc [(.arg 0, ⟨(.arg 0), [], none, .fz⟩), (.tmp 19 0, ⟨(.tmp 19 0), [], none, .box⟩), (.tmp 8 20, ⟨(.tmp 8 20), [], none, .lst⟩)] rfl (by first | rfl | simp only [reduceCtorEq, Nat.reduceEqDiff, ak, akF, b30, b48]) (by simp [argK, akG, ak])).trans (Weak.of_eq (by first | rfl | (simp only [reduceCtorEq, Nat.reduceEqDiff, ak, akF, b30, b48]; done) | (simp [reduceCtorEq, Nat.reduceEqDiff, ak, akF, b30, b48]; done)))))) (hJ26 _ rfl)
      · replace c37 := of_decide_eq_false c37; rw [if_neg c37] at h
        refine seq_k fun J52 hJ52 => ?_
        refine reg_k ?_
        simp only [Nat.reduceEqDiff, Nat.reduceAdd, Nat.reduceMul, Nat.reduceLeDiff, Nat.reduceLT, Int.reduceLE, Int.reduceLT, Int.reduceGT, Int.reduceGE, Int.reduceEq, Int.reduceNe, Int.reduceToNat, reduceCtorEq, ak]
        refine hJ52 _ ?_
        refine cond_k (b := decide ((rd z63 l1 x0_1).f0 = 2)) rfl (fun c53 => ?_) (fun c53 => ?_)
        · replace c53 := of_decide_eq_true c53; rw [if_pos c53] at h
          refine reg_k ?_
          simp only [Nat.reduceEqDiff, Nat.reduceAdd, Nat.reduceMul, Nat.reduceLeDiff, Nat.reduceLT, Int.reduceLE, Int.reduceLT, Int.reduceGT, Int.reduceGE, Int.reduceEq, Int.reduceNe, Int.reduceToNat, reduceCtorEq, ak]
          refine B35n _ ?_
          refine hJ33 _ ?_
          refine reg_k ?_
          simp only [Nat.reduceEqDiff, Nat.reduceAdd, Nat.reduceMul, Nat.reduceLeDiff, Nat.reduceLT, Int.reduceLE, Int.reduceLT, Int.reduceGT, Int.reduceGE, Int.reduceEq, Int.reduceNe, Int.reduceToNat, reduceCtorEq, ak]
          obtain ⟨t54, h55, h⟩ := of_bind h
          refine call_m [(.arg 0, ⟨(.tmp 19 0), [], none, .box⟩)] (s0 := [(.arg 0, ⟨.box, 0, [.sc (.int .u32 x0_2), .sc (.int .i64 x0_3), .sc (.int .i64 x0_4), .sc (.int .i64 x0_5), .sc (.int .i64 x0_6), .sc (.int .i64 x0_7), .sc (.int .u32 x0_8), .own 1 x0_9.length (encL c_i64 x0_9), .sc (.int .i64 x0_10), .sc (.int .i64 x0_11), .sc (.int .i64 x0_12), .sc (.int .i64 x0_13), .sc (.bool x0_14)]⟩)]) (by intro t ht; cases ht; decide) rfl rfl (by first | rfl | simp only [reduceCtorEq, Nat.reduceEqDiff, ak, akF, b30, g31]) (impl_sender_act_v1i221.tri x0_2 x0_3 x0_4 x0_5 x0_6 x0_7 x0_8 x0_9 x0_10 x0_11 x0_12 x0_13 x0_14 ((rd z63 l1 x0_1).f2) _ h55) (by first | rfl | simp only [reduceCtorEq, Nat.reduceEqDiff, ak, akF]) (by simp [bkOk2, memK]) (fun hl55 => ?_)
          refine call_st (s2 := [(.arg 0, ⟨.fz, 3, cs0⟩), (.tmp 19 0, ⟨.box, 0, [.sc (.int .u32 x0_2), .sc (.int .i64 x0_3), .sc (.int .i64 x0_4), .sc (.int .i64 x0_5), .sc (.int .i64 x0_6), .sc (.int .i64 x0_7), .sc (.int .u32 x0_8), .own 1 x0_9.length (encL c_i64 x0_9), .sc (.int .i64 x0_10), .sc (.int .i64 x0_11), .sc (.int .i64 x0_12), .sc (.int .i64 x0_13), .sc (.bool x0_14)]⟩), (.tmp 8 20, ⟨.lst, 5, encL c66 x0_15⟩), (.tmp 10 0, ⟨.box, 0, [.sc (.int .i64 ((rd z63 l1 x0_1).f0)), .sc (.int .i64 ((rd z63 l1 x0_1).f1)), .sc (.int .u32 ((rd z63 l1 x0_1).f2))]⟩)]) (s4 := [(.arg 0, ⟨.fz, 3, cs0⟩), (.tmp 19 0, ⟨.box, 0, [.sc (.int .u32 x0_2), .sc (.int .i64 x0_3), .sc (.int .i64 x0_4), .sc (.int .i64 x0_5), .sc (.int .i64 x0_6), .sc (.int .i64 x0_7), .sc (.int .u32 t54.2.2.2.2.2.1), .own 1 t54.2.2.2.2.2.2.1.length (encL c_i64 t54.2.2.2.2.2.2.1), .sc (.int .i64 t54.2.2.2.2.2.2.2.1), .sc (.int .i64 t54.2.2.2.2.2.2.2.2.1), .sc (.int .i64 t54.2.2.2.2.2.2.2.2.2.1), .sc (.int .i64 t54.2.2.2.2.2.2.2.2.2.2.1), .sc (.bool t54.2.2.2.2.2.2.2.2.2.2.2)]⟩), (.tmp 8 20, ⟨.lst, 5, encL c66 x0_15⟩), (.tmp 10 0, ⟨.box, 0, [.sc (.int .i64 ((rd z63 l1 x0_1).f0)), .sc (.int .i64 ((rd z63 l1 x0_1).f1)), .sc (.int .u32 ((rd z63 l1 x0_1).f2))]⟩), (.tmp 51 1, ⟨.lst, 1, encL c_i64 t54.2.2.1⟩), (.tmp 51 0, ⟨.lst, 3, encL c68 t54.2.1⟩)]) (t' := [(7, .c (.ptr (.tmp 19 0) [] 0)), (8, .c (.ref (.tmp 8 20) [] 0 x0_15.length)), (11, .c (.sc (.iface 221 (.agg #[.int .u32 ((rd z63 l1 x0_1).f2)])))), (20, .c (.ref (.arg 0) [] o0 l1.length)), (21, .c (.sc (.int .i64 x0_0))), (22, .c (.sc (.int .i64 x0_1))), (48, .c (.ref (.tmp 8 20) [] 0 x0_15.length)), (49, .c (.ptr (.tmp 19 0) [] 0)), (50, .c (.sc (.iface 221 (.agg #[.int .u32 ((rd z63 l1 x0_1).f2)]))))]) (m1' := []) (m2' := []) (v' := .g [.sc (.int .i64 t54.1), .ref (.tmp 51 0) [] 0 t54.2.1.length, .ref (.tmp 51 1) [] 0 t54.2.2.1.length, .sc (.int .i64 t54.2.2.2.1), .sc (.int .i64 t54.2.2.2.2.1)]) (by first | rfl | simp only [reduceCtorEq, Nat.reduceEqDiff, ak, akF, List.contains_nil, List.contains_cons, Nat.reduceBEq, b30]) (mrgL_whole (new' := [.sc (.int .u32 x0_2), .sc (.int .i64 x0_3), .sc (.int .i64 x0_4), .sc (.int .i64 x0_5), .sc (.int .i64 x0_6), .sc (.int .i64 x0_7), .sc (.int .u32 t54.2.2.2.2.2.1), .own 1 t54.2.2.2.2.2.2.1.length (encL c_i64 t54.2.2.2.2.2.2.1), .sc (.int .i64 t54.2.2.2.2.2.2.2.1), .sc (.int .i64 t54.2.2.2.2.2.2.2.2.1), .sc (.int .i64 t54.2.2.2.2.2.2.2.2.2.1), .sc (.int .i64 t54.2.2.2.2.2.2.2.2.2.2.1), .sc (.bool t54.2.2.2.2.2.2.2.2.2.2.2)]) (mrgL_nil' _ _ _) rfl (by rfl) (.inl ⟨rfl, by first | rfl | simp only [reduceCtorEq, Nat.reduceEqDiff, ak, akF, Nat.zero_add, List.append_nil, b30]⟩)) (by rfl) (by first | rfl | simp only [reduceCtorEq, Nat.reduceEqDiff, ak, akF, List.contains_nil, List.contains_cons, Nat.reduceBEq, b30]) (by rfl) (by rfl) (by first | rfl | simp only [reduceCtorEq, Nat.reduceEqDiff, ak, akF, Nat.zero_add, List.append_nil, b30]) ?_
          have g57 : (List.replicate 1 ([.int .i64 0, .slice none 0 0, .slice none 0 0, .int .i64 0, .int .i64 0] : List Value)).flatten = [.int .i64 0, .slice none 0 0, .slice none 0 0, .int .i64 0, .int .i64 0] := rfl
          have g58 : (encL c68 t54.2.1).length = t54.2.1.length * 3 := by simp [encL_length c68_w]
          have g59 : (encL c_i64 t54.2.2.1).length = t54.2.2.1.length * 1 := by simp [encL_length c_i64_w]
          have g60 : (⟨.lst, 5, [.sc (.int .i64 t54.1), .own 3 t54.2.1.length (encL c68 t54.2.1), .own 1 t54.2.2.1.length (encL c_i64 t54.2.2.1), .sc (.int .i64 t54.2.2.2.1), .sc (.int .i64 t54.2.2.2.2.1)]⟩ : Root) = ⟨.lst, 5, encL c66 ([(⟨t54.1, t54.2.1, t54.2.2.1, t54.2.2.2.1, t54.2.2.2.2.1⟩ : S66)] : List S66)⟩ := rfl
          have g61 : ([(⟨t54.1, t54.2.1, t54.2.2.1, t54.2.2.2.1, t54.2.2.2.2.1⟩ : S66)] : List S66).length = 1 := rfl
          simp only [Nat.reduceEqDiff, Nat.reduceAdd, Nat.reduceMul, Nat.reduceLeDiff, Nat.reduceLT, Int.reduceLE, Int.reduceLT, Int.reduceGT, Int.reduceGE, Int.reduceEq, Int.reduceNe, Int.reduceToNat, reduceCtorEq, ak, g57, g58, g59, g60, g61]
          refine gho_k (Weak.refl _ _) ?_
          have g62 : (encL c66 ([(⟨t54.1, t54.2.1, t54.2.2.1, t54.2.2.2.1, t54.2.2.2.2.1⟩ : S66)] : List S66)).length = 1 * 5 := by simp [encL_length c66_w]
          have g63 : (encL c66 ([(⟨t54.1, t54.2.1, t54.2.2.1, t54.2.2.2.1, t54.2.2.2.2.1⟩ : S66)] : List S66)).all nd = true := rfl
          obtain ⟨b64, h⟩ := of_guard h
          have g65 : appLim x0_15.length 1 72 := ⟨b64, by have := b64; omega⟩
          have g66 : (encL c66 x0_15).length = x0_15.length * 5 := by simp [encL_length c66_w]
          have g67 : encL c66 x0_15 ++ encL c66 ([(⟨t54.1, t54.2.1, t54.2.2.1, t54.2.2.2.1, t54.2.2.2.2.1⟩ : S66)] : List S66) = encL c66 (x0_15 ++ ([(⟨t54.1, t54.2.1, t54.2.2.1, t54.2.2.2.1, t54.2.2.2.2.1⟩ : S66)] : List S66)) := (encL_append _ _).symm
          simp only [Nat.reduceEqDiff, Nat.reduceAdd, Nat.reduceMul, Nat.reduceLeDiff, Nat.reduceLT, Int.reduceLE, Int.reduceLT, Int.reduceGT, Int.reduceGE, Int.reduceEq, Int.reduceNe, Int.reduceToNat, reduceCtorEq, ak, g62, g63, g65, g66, g67]
          refine B28n _ ?_
          obtain rfl := Option.some.inj h
          refine G27n _ _ (((Weak.keep [7, 8, 20, 21, 22]).trans ((Weak.foc [(.arg 0, ⟨(.arg 0), [], none, .fz⟩), (.tmp 19 0, ⟨(.tmp 19 0), [], none, .box⟩), (.tmp 8 20, ⟨(.tmp 8 20), [], none, .lst⟩)] rfl (by first | rfl | simp only [reduceCtorEq, Nat.reduceEqDiff, ak, akF, b30, b64]) (by simp [argK, akG, ak])).trans (Weak.of_eq (by first | rfl | (simp only [reduceCtorEq, Nat.reduceEqDiff, ak, akF, b30, b64]; done) | (simp [reduceCtorEq, Nat.reduceEqDiff, ak, akF, b30, b64]; done)))))) (hJ26 _ rfl)
        · replace c53 := of_decide_eq_false c53; rw [if_neg c53] at h
          refine seq_k fun J68 hJ68 => ?_
          refine reg_k ?_
          simp only [Nat.reduceEqDiff, Nat.reduceAdd, Nat.reduceMul, Nat.reduceLeDiff, Nat.reduceLT, Int.reduceLE, Int.reduceLT, Int.reduceGT, Int.reduceGE, Int.reduceEq, Int.reduceNe, Int.reduceToNat, reduceCtorEq, ak]
          refine hJ68 _ ?_
          refine cond_k (b := decide ((rd z63 l1 x0_1).f0 = 3)) rfl (fun c69 => ?_) (fun c69 => ?_)
          · replace c69 := of_decide_eq_true c69; rw [if_pos c69] at h
            refine reg_k ?_
            simp only [Nat.reduceEqDiff, Nat.reduceAdd, Nat.reduceMul, Nat.reduceLeDiff, Nat.reduceLT, Int.reduceLE, Int.reduceLT, Int.reduceGT, Int.reduceGE, Int.reduceEq, Int.reduceNe, Int.reduceToNat, reduceCtorEq, ak]
            refine B35n _ ?_
            refine hJ33 _ ?_
            refine reg_k ?_
            simp only [Nat.reduceEqDiff, Nat.reduceAdd, Nat.reduceMul, Nat.reduceLeDiff, Nat.reduceLT, Int.reduceLE, Int.reduceLT, Int.reduceGT, Int.reduceGE, Int.reduceEq, Int.reduceNe, Int.reduceToNat, reduceCtorEq, ak]
            obtain ⟨t70, h71, h⟩ := of_bind h
            refine call_m [(.arg 0, ⟨(.tmp 19 0), [], none, .box⟩)] (s0 := [(.arg 0, ⟨.box, 0, [.sc (.int .u32 x0_2), .sc (.int .i64 x0_3), .sc (.int .i64 x0_4), .sc (.int .i64 x0_5), .sc (.int .i64 x0_6), .sc (.int .i64 x0_7), .sc (.int .u32 x0_8), .own 1 x0_9.length (encL c_i64 x0_9), .sc (.int .i64 x0_10), .sc (.int .i64 x0_11), .sc (.int .i64 x0_12), .sc (.int .i64 x0_13), .sc (.bool x0_14)]⟩)]) (by intro t ht; cases ht; decide) rfl rfl (by first | rfl | simp only [reduceCtorEq, Nat.reduceEqDiff, ak, akF, b30, g31]) (impl_sender_act_v1i223.tri x0_2 x0_3 x0_4 x0_5 x0_6 x0_7 x0_8 x0_9 x0_10 x0_11 x0_12 x0_13 x0_14 _ h71) (by first | rfl | simp only [reduceCtorEq, Nat.reduceEqDiff, ak, akF]) (by simp [bkOk2, memK]) (fun hl71 => ?_)
            refine call_st (s4 := [(.arg 0, ⟨.fz, 3, cs0⟩), (.tmp 19 0, ⟨.box, 0, [.sc (.int .u32 x0_2), .sc (.int .i64 x0_3), .sc (.int .i64 x0_4), .sc (.int .i64 x0_5), .sc (.int .i64 x0_6), .sc (.int .i64 x0_7), .sc (.int .u32 x0_8), .own 1 x0_9.length (encL c_i64 x0_9), .sc (.int .i64 t70.2.2.2.2.2.1), .sc (.int .i64 t70.2.2.2.2.2.2.1), .sc (.int .i64 t70.2.2.2.2.2.2.2.1), .sc (.int .i64 t70.2.2.2.2.2.2.2.2.1), .sc (.bool t70.2.2.2.2.2.2.2.2.2)]⟩), (.tmp 8 20, ⟨.lst, 5, encL c66 x0_15⟩), (.tmp 10 0, ⟨.box, 0, [.sc (.int .i64 ((rd z63 l1 x0_1).f0)), .sc (.int .i64 ((rd z63 l1 x0_1).f1)), .sc (.int .u32 ((rd z63 l1 x0_1).f2))]⟩), (.tmp 51 1, ⟨.lst, 1, encL c_i64 t70.2.2.1⟩), (.tmp 51 0, ⟨.lst, 3, encL c68 t70.2.1⟩)]) (m1' := []) (m2' := []) (v' := .g [.sc (.int .i64 t70.1), .ref (.tmp 51 0) [] 0 t70.2.1.length, .ref (.tmp 51 1) [] 0 t70.2.2.1.length, .sc (.int .i64 t70.2.2.2.1), .sc (.int .i64 t70.2.2.2.2.1)]) (Sto.mapN_killNil _ _) (mrgL_whole (new' := [.sc (.int .u32 x0_2), .sc (.int .i64 x0_3), .sc (.int .i64 x0_4), .sc (.int .i64 x0_5), .sc (.int .i64 x0_6), .sc (.int .i64 x0_7), .sc (.int .u32 x0_8), .own 1 x0_9.length (encL c_i64 x0_9), .sc (.int .i64 t70.2.2.2.2.2.1), .sc (.int .i64 t70.2.2.2.2.2.2.1), .sc (.int .i64 t70.2.2.2.2.2.2.2.1), .sc (.int .i64 t70.2.2.2.2.2.2.2.2.1), .sc (.bool t70.2.2.2.2.2.2.2.2.2)]) (mrgL_nil' _ _ _) rfl (by rfl) (.inl ⟨rfl, by first | rfl | simp only [reduceCtorEq, Nat.reduceEqDiff, ak, akF, Nat.zero_add, List.append_nil, b30]⟩)) (by rfl) (mapT_killNil _ _) (by rfl) (by rfl) (by first | rfl | simp only [reduceCtorEq, Nat.reduceEqDiff, ak, akF, Nat.zero_add, List.append_nil, b30]) ?_
            have g73 : (List.replicate 1 ([.int .i64 0, .slice none 0 0, .slice none 0 0, .int .i64 0, .int .i64 0] : List Value)).flatten = [.int .i64 0, .slice none 0 0, .slice none 0 0, .int .i64 0, .int .i64 0] := rfl
            have g74 : (encL c68 t70.2.1).length = t70.2.1.length * 3 := by simp [encL_length c68_w]
            have g75 : (encL c_i64 t70.2.2.1).length = t70.2.2.1.length * 1 := by simp [encL_length c_i64_w]
            have g76 : (⟨.lst, 5, [.sc (.int .i64 t70.1), .own 3 t70.2.1.length (encL c68 t70.2.1), .own 1 t70.2.2.1.length (encL c_i64 t70.2.2.1), .sc (.int .i64 t70.2.2.2.1), .sc (.int .i64 t70.2.2.2.2.1)]⟩ : Root) = ⟨.lst, 5, encL c66 ([(⟨t70.1, t70.2.1, t70.2.2.1, t70.2.2.2.1, t70.2.2.2.2.1⟩ : S66)] : List S66)⟩ := rfl
            have g77 : ([(⟨t70.1, t70.2.1, t70.2.2.1, t70.2.2.2.1, t70.2.2.2.2.1⟩ : S66)] : List S66).length = 1 := rfl
            simp only [Nat.reduceEqDiff, Nat.reduceAdd, Nat.reduceMul, Nat.reduceLeDiff, Nat.reduceLT, Int.reduceLE, Int.reduceLT, Int.reduceGT, Int.reduceGE, Int.reduceEq, Int.reduceNe, Int.reduceToNat, reduceCtorEq, ak, g73, g74, g75, g76, g77]
            refine gho_k (Weak.refl _ _) ?_
            have g78 : (encL c66 ([(⟨t70.1, t70.2.1, t70.2.2.1, t70.2.2.2.1, t70.2.2.2.2.1⟩ : S66)] : List S66)).length = 1 * 5 := by simp [encL_length c66_w]
            have g79 : (encL c66 ([(⟨t70.1, t70.2.1, t70.2.2.1, t70.2.2.2.1, t70.2.2.2.2.1⟩ : S66)] : List S66)).all nd = true := rfl
            obtain ⟨b80, h⟩ := of_guard h
            have g81 : appLim x0_15.length 1 72 := ⟨b80, by have := b80; omega⟩
            have g82 : (encL c66 x0_15).length = x0_15.length * 5 := by simp [encL_length c66_w]
            have g83 : encL c66 x0_15 ++ encL c66 ([(⟨t70.1, t70.2.1, t70.2.2.1, t70.2.2.2.1, t70.2.2.2.2.1⟩ : S66)] : List S66) = encL c66 (x0_15 ++ ([(⟨t70.1, t70.2.1, t70.2.2.1, t70.2.2.2.1, t70.2.2.2.2.1⟩ : S66)] : List S66)) := (encL_append _ _).symm
            simp only [Nat.reduceEqDiff, Nat.reduceAdd, Nat.reduceMul, Nat.reduceLeDiff, Nat.reduceLT, Int.reduceLE, Int.reduceLT, Int.reduceGT, Int.reduceGE, Int.reduceEq, Int.reduceNe, Int.reduceToNat, reduceCtorEq, ak, g78, g79, g81, g82, g83]
            refine B28n _ ?_
            obtain rfl := Option.some.inj h
            refine G27n _ _ (((Weak.keep [7, 8, 20, 21, 22]).trans ((Weak.foc [(.arg 0, ⟨(.arg 0), [], none, .fz⟩), (.tmp 19 0, ⟨(.tmp 19 0), [], none, .box⟩), (.tmp 8 20, ⟨(.tmp 8 20), [], none, .lst⟩)] rfl (by first | rfl | simp only [reduceCtorEq, Nat.reduceEqDiff, ak, akF, b30, b80]) (by simp [argK, akG, ak])).trans (Weak.of_eq (by first | rfl | (simp only [reduceCtorEq, Nat.reduceEqDiff, ak, akF, b30, b80]; done) | (simp [reduceCtorEq, Nat.reduceEqDiff, ak, akF, b30, b80]; done)))))) (hJ26 _ rfl)
          · replace c69 := of_decide_eq_false c69; rw [if_neg c69] at h
            refine seq_k fun J84 hJ84 => ?_
            refine reg_k ?_
            simp only [Nat.reduceEqDiff, Nat.reduceAdd, Nat.reduceMul, Nat.reduceLeDiff, Nat.reduceLT, Int.reduceLE, Int.reduceLT, Int.reduceGT, Int.reduceGE, Int.reduceEq, Int.reduceNe, Int.reduceToNat, reduceCtorEq, ak]
            refine gho_k ((Weak.nmg' 29 1 (.tmp 29 21) 3 (encL c68 ([] : List S68)) rfl rfl rfl rfl).trans (Weak.nmg' 29 2 (.tmp 29 22) 1 (encL c_i64 ([] : List Int)) rfl rfl rfl rfl)) ?_
            have g85 : (List.replicate 1 ([.int .i64 0, .slice none 0 0, .slice none 0 0, .int .i64 0, .int .i64 0] : List Value)).flatten = [.int .i64 0, .slice none 0 0, .slice none 0 0, .int .i64 0, .int .i64 0] := rfl
            have g86 : (encL c68 ([] : List S68)).length = 0 * 3 := by simp [encL_length c68_w]
            have g87 : (encL c_i64 ([] : List Int)).length = 0 * 1 := by simp [encL_length c_i64_w]
            have g88 : (⟨.lst, 5, [.sc (.int .i64 1), .own 3 0 (encL c68 ([] : List S68)), .own 1 0 (encL c_i64 ([] : List Int)), .sc (.int .i64 0), .sc (.int .i64 0)]⟩ : Root) = ⟨.lst, 5, encL c66 ([(⟨1, ([] : List S68), ([] : List Int), 0, 0⟩ : S66)] : List S66)⟩ := rfl
            have g89 : ([(⟨1, ([] : List S68), ([] : List Int), 0, 0⟩ : S66)] : List S66).length = 1 := rfl
            simp only [Nat.reduceEqDiff, Nat.reduceAdd, Nat.reduceMul, Nat.reduceLeDiff, Nat.reduceLT, Int.reduceLE, Int.reduceLT, Int.reduceGT, Int.reduceGE, Int.reduceEq, Int.reduceNe, Int.reduceToNat, reduceCtorEq, ak, g85, g86, g87, g88, g89]
            refine gho_k (Weak.refl _ _) ?_
            have g90 : (encL c66 ([(⟨1, ([] : List S68), ([] : List Int), 0, 0⟩ : S66)] : List S66)).length = 1 * 5 := by simp [encL_length c66_w]
            have g91 : (encL c66 ([(⟨1, ([] : List S68), ([] : List Int), 0, 0⟩ : S66)] : List S66)).all nd = true := rfl
            obtain ⟨b92, h⟩ := of_guard h
            have g93 : appLim x0_15.length 1 72 := ⟨b92, by have := b92; omega⟩
            have g94 : (encL c66 x0_15).length = x0_15.length * 5 := by simp [encL_length c66_w]
            have g95 : encL c66 x0_15 ++ encL c66 ([(⟨1, ([] : List S68), ([] : List Int), 0, 0⟩ : S66)] : List S66) = encL c66 (x0_15 ++ ([(⟨1, ([] : List S68), ([] : List Int), 0, 0⟩ : S66)] : List S66)) := (encL_append _ _).symm
            simp only [Nat.reduceEqDiff, Nat.reduceAdd, Nat.reduceMul, Nat.reduceLeDiff, Nat.reduceLT, Int.reduceLE, Int.reduceLT, Int.reduceGT, Int.reduceGE, Int.reduceEq, Int.reduceNe, Int.reduceToNat, reduceCtorEq, ak, g90, g91, g93, g94, g95]
            refine hJ84 _ ?_
            refine B35j _ _ (by decide) ?_
            refine B28x _ ?_
            obtain rfl := Option.some.inj h
            refine G27n _ _ (((Weak.keep [7, 8, 20, 21, 22]).trans ((Weak.foc [(.arg 0, ⟨(.arg 0), [], none, .fz⟩), (.tmp 19 0, ⟨(.tmp 19 0), [], none, .box⟩), (.tmp 8 20, ⟨(.tmp 8 20), [], none, .lst⟩)] rfl (by first | rfl | simp only [reduceCtorEq, Nat.reduceEqDiff, ak, akF, b30, b92]) (by simp [argK, akG, ak])).trans (Weak.of_eq (by first | rfl | (simp only [reduceCtorEq, Nat.reduceEqDiff, ak, akF, b30, b92]; done) | (simp [reduceCtorEq, Nat.reduceEqDiff, ak, akF, b30, b92]; done)))))) (hJ26 _ rfl)
    · replace h := hn; clear hn h25
      rintro _ rfl
      refine reg_k ?_
      simp only [Nat.reduceEqDiff, Nat.reduceAdd, Nat.reduceMul, Nat.reduceLeDiff, Nat.reduceLT, Int.reduceLE, Int.reduceLT, Int.reduceGT, Int.reduceGE, Int.reduceEq, Int.reduceNe, Int.reduceToNat, reduceCtorEq, ak]
      refine G0n _ (⟨[(7, .c (.ptr (.tmp 19 0) [] 0)), (8, .c (.ref (.tmp 8 20) [] 0 j24.2.2.2.2.2.2.2.length)), (20, .c (.ref (.arg 0) [] o0 l1.length)), (21, .c (.sc (.int .i64 x0_0))), (22, .c (.sc (.int .i64 (IntKind.i64.wrap (x0_1 + 1)))))], [(.arg 0, ⟨.fz, 3, cs0⟩), (.tmp 19 0, ⟨.box, 0, [.sc (.int .u32 x0_2), .sc (.int .i64 x0_3), .sc (.int .i64 x0_4), .sc (.int .i64 x0_5), .sc (.int .i64 x0_6), .sc (.int .i64 x0_7), .sc (.int .u32 j24.1), .own 1 j24.2.1.length (encL c_i64 j24.2.1), .sc (.int .i64 j24.2.2.1), .sc (.int .i64 j24.2.2.2.1), .sc (.int .i64 j24.2.2.2.2.1), .sc (.int .i64 j24.2.2.2.2.2.1), .sc (.bool j24.2.2.2.2.2.2.1)]⟩), (.tmp 8 20, ⟨.lst, 5, encL c66 j24.2.2.2.2.2.2.2⟩)], [], []⟩) (((Weak.keep [7, 8, 20, 21, 22]).trans ((Weak.foc [(.arg 0, ⟨(.arg 0), [], none, .fz⟩), (.tmp 19 0, ⟨(.tmp 19 0), [], none, .box⟩), (.tmp 8 20, ⟨(.tmp 8 20), [], none, .lst⟩)] rfl (by first | rfl | simp only [reduceCtorEq, Nat.reduceEqDiff, ak, akF]) (by simp [argK, akG, ak])).trans (Weak.of_eq (by first | rfl | (simp only [reduceCtorEq, Nat.reduceEqDiff, ak, akF]; done) | (simp [reduceCtorEq, Nat.reduceEqDiff, ak, akF]; done)))))) (ih _ _ _ _ _ _ _ _ _ _ h K hx0)
  · replace c23 := of_decide_eq_false c23; rw [if_neg c23] at h
    obtain rfl := Option.some.inj h
    refine gh_k (st' := ⟨[(7, .c (.ptr (.tmp 19 0) [] 0)), (8, .c (.ref (.tmp 8 20) [] 0 x0_15.length))], [(.arg 0, ⟨.fz, 3, cs0⟩), (.tmp 19 0, ⟨.box, 0, [.sc (.int .u32 x0_2), .sc (.int .i64 x0_3), .sc (.int .i64 x0_4), .sc (.int .i64 x0_5), .sc (.int .i64 x0_6), .sc (.int .i64 x0_7), .sc (.int .u32 x0_8), .own 1 x0_9.length (encL c_i64 x0_9), .sc (.int .i64 x0_10), .sc (.int .i64 x0_11), .sc (.int .i64 x0_12), .sc (.int .i64 x0_13), .sc (.bool x0_14)]⟩), (.tmp 8 20, ⟨.lst, 5, encL c66 x0_15⟩)], [], []⟩) (((Weak.keep [7, 8]).trans ((Weak.foc [(.arg 0, ⟨(.arg 0), [], none, .fz⟩), (.tmp 19 0, ⟨(.tmp 19 0), [], none, .box⟩), (.tmp 8 20, ⟨(.tmp 8 20), [], none, .lst⟩)] rfl (by first | rfl | simp only [reduceCtorEq, Nat.reduceEqDiff, ak, akF]) (by simp [argK, akG, ak])).trans (Weak.of_eq (by first | rfl | (simp only [reduceCtorEq, Nat.reduceEqDiff, ak, akF]; done) | (simp [reduceCtorEq, Nat.reduceEqDiff, ak, akF]; done)))))) ?_
    refine G0x _ _ ?_
    exact hx0
set_option maxRecDepth 100000 in
set_option maxHeartbeats 4000000 in
theorem impl_subAfter.tri0 (cs0 : List Cell) (o0 : Nat) (l1 : List S63) (hv0 : Vw c63 3 cs0 o0 l1) (a0_0 : Int) (a0_1 : Int) (a0_2 : Int) (a0_3 : Int) (a0_4 : Int) (a0_5 : Int) (r : (Option (Int × Int × Int × Int × Int × Int × Int × (List Int) × Int × Int × Int × Int × Bool)) × (List S66) × Int) (h : impl_subAfter.f a0_0 a0_1 a0_2 a0_3 a0_4 a0_5 l1 = some r) (hp : r.1 = none) : Tri Try.prog 87 [.g [.sc (.int .u32 a0_0), .sc (.int .i64 a0_1), .sc (.int .i64 a0_2), .sc (.int .i64 a0_3), .sc (.int .i64 a0_4), .sc (.int .i64 a0_5)], .c (.ref (.arg 0) [] o0 l1.length)] [(.arg 0, ⟨.fz, 3, cs0⟩)] (fun o => o = ⟨.tup [(false, [.sc (.pointer none)]), (false, [.ref (.res 0) [] 0 r.2.1.length]), (false, [.sc (.int .i64 r.2.2)])], [(.arg 0, ⟨.fz, 3, cs0⟩), (.res 0, ⟨.lst, 5, encL c66 r.2.1⟩)], [], []⟩) := by
  refine tri_of_body (ac := c87) (xs := r87) Try.func87 (show Try.f87.body = some (Try.f87.body.getD .skip) from rfl) k87 q87 (Nat.le_of_ble_eq_true rfl) ?_
  refine body_of fun K hKn hKr => ?_
  unfold impl_subAfter.f at h
  unfold c87
  simp only [initT, Nat.reduceAdd]
  refine seq_k fun J1 hJ1 => ?_
  refine reg_k ?_
  simp only [Nat.reduceEqDiff, Nat.reduceAdd, Nat.reduceMul, Nat.reduceLeDiff, Nat.reduceLT, Int.reduceLE, Int.reduceLT, Int.reduceGT, Int.reduceGE, Int.reduceEq, Int.reduceNe, Int.reduceToNat, reduceCtorEq, ak]
  refine gho_k (Weak.nm' 5 (.tmp 5 20) 5 (encL c66 ([] : List S66)) rfl rfl rfl) ?_
  simp only [Nat.reduceEqDiff, Nat.reduceAdd, Nat.reduceMul, Nat.reduceLeDiff, Nat.reduceLT, Int.reduceLE, Int.reduceLT, Int.reduceGT, Int.reduceGE, Int.reduceEq, Int.reduceNe, Int.reduceToNat, reduceCtorEq, ak]
  refine hJ1 _ ?_
  refine seq_k fun J2 hJ2 => ?_
  refine seq_k fun J3 hJ3 => ?_
  refine reg_k ?_
  simp only [Nat.reduceEqDiff, Nat.reduceAdd, Nat.reduceMul, Nat.reduceLeDiff, Nat.reduceLT, Int.reduceLE, Int.reduceLT, Int.reduceGT, Int.reduceGE, Int.reduceEq, Int.reduceNe, Int.reduceToNat, reduceCtorEq, ak]
  obtain ⟨t4, h5, h⟩ := of_bind h
  refine call_m [] (s0 := []) (by intro t ht; cases ht; decide) rfl rfl (by first | rfl | simp only [reduceCtorEq, Nat.reduceEqDiff, ak, akF]) (impl_validSub.tri a0_0 a0_1 a0_2 a0_3 a0_4 a0_5 _ h5) (by first | rfl | simp only [reduceCtorEq, Nat.reduceEqDiff, ak, akF]) (by simp [bkOk2, memK]) (fun hl5 => ?_)
  refine call_st (s4 := [(.arg 0, ⟨.fz, 3, cs0⟩), (.tmp 2 0, ⟨.box, 0, [.sc (.int .u32 a0_0), .sc (.int .i64 a0_1), .sc (.int .i64 a0_2), .sc (.int .i64 a0_3), .sc (.int .i64 a0_4), .sc (.int .i64 a0_5)]⟩), (.tmp 5 20, ⟨.lst, 5, encL c66 ([] : List S66)⟩)]) (m1' := []) (m2' := []) (v' := .c (.sc (.bool t4))) (Sto.mapN_killNil _ _) (mrgL_nil' _ _ _) (by rfl) (mapT_killNil _ _) (by rfl) (by rfl) (by first | rfl | simp only [reduceCtorEq, Nat.reduceEqDiff, ak, akF, Nat.zero_add, List.append_nil]) ?_
  simp only [Nat.reduceEqDiff, Nat.reduceAdd, Nat.reduceMul, Nat.reduceLeDiff, Nat.reduceLT, Int.reduceLE, Int.reduceLT, Int.reduceGT, Int.reduceGE, Int.reduceEq, Int.reduceNe, Int.reduceToNat, reduceCtorEq, ak]
  refine hJ3 _ ?_
  refine cond_k (b := !t4) rfl (fun c7 => ?_) (fun c7 => ?_)
  · rw [if_pos c7] at h
    refine seq_k fun J8 hJ8 => ?_
    refine reg_k ?_
    simp only [Nat.reduceEqDiff, Nat.reduceAdd, Nat.reduceMul, Nat.reduceLeDiff, Nat.reduceLT, Int.reduceLE, Int.reduceLT, Int.reduceGT, Int.reduceGE, Int.reduceEq, Int.reduceNe, Int.reduceToNat, reduceCtorEq, ak]
    refine gho_k ((Weak.drop [.tmp 5 20]).trans (Weak.nm' 5 (.tmp 5 20) 5 (encL c66 ([] : List S66)) rfl rfl rfl)) ?_
    simp only [Nat.reduceEqDiff, Nat.reduceAdd, Nat.reduceMul, Nat.reduceLeDiff, Nat.reduceLT, Int.reduceLE, Int.reduceLT, Int.reduceGT, Int.reduceGE, Int.reduceEq, Int.reduceNe, Int.reduceToNat, reduceCtorEq, ak]
    refine hJ8 _ ?_
    obtain rfl := Option.some.inj h
    refine hKr _ ⟨_, rfl, [⟨(.tmp 5 20), [], none, .lst⟩], _, rfl, rfl, ?_⟩
    first | rfl | (simp only [reduceCtorEq, Nat.reduceEqDiff, ak, akF]; done) | (simp [reduceCtorEq, Nat.reduceEqDiff, ak, akF]; done)
  · rw [if_neg (Bool.eq_false_iff.1 c7)] at h
    refine hJ2 _ ?_
    refine seq_k fun J9 hJ9 => ?_
    refine seq_k fun J10 hJ10 => ?_
    refine reg_k ?_
    simp only [Nat.reduceEqDiff, Nat.reduceAdd, Nat.reduceMul, Nat.reduceLeDiff, Nat.reduceLT, Int.reduceLE, Int.reduceLT, Int.reduceGT, Int.reduceGE, Int.reduceEq, Int.reduceNe, Int.reduceToNat, reduceCtorEq, ak]
    refine hJ10 _ ?_
    refine cond_k (b := decide ((l1.length : Int) > 4000)) rfl (fun c11 => ?_) (fun c11 => ?_)
    · replace c11 := of_decide_eq_true c11; rw [if_pos c11] at h
      refine seq_k fun J12 hJ12 => ?_
      refine reg_k ?_
      simp only [Nat.reduceEqDiff, Nat.reduceAdd, Nat.reduceMul, Nat.reduceLeDiff, Nat.reduceLT, Int.reduceLE, Int.reduceLT, Int.reduceGT, Int.reduceGE, Int.reduceEq, Int.reduceNe, Int.reduceToNat, reduceCtorEq, ak]
      refine gho_k ((Weak.drop [.tmp 5 20]).trans (Weak.nm' 5 (.tmp 5 20) 5 (encL c66 ([] : List S66)) rfl rfl rfl)) ?_
      simp only [Nat.reduceEqDiff, Nat.reduceAdd, Nat.reduceMul, Nat.reduceLeDiff, Nat.reduceLT, Int.reduceLE, Int.reduceLT, Int.reduceGT, Int.reduceGE, Int.reduceEq, Int.reduceNe, Int.reduceToNat, reduceCtorEq, ak]
      refine hJ12 _ ?_
      obtain rfl := Option.some.inj h
      refine hKr _ ⟨_, rfl, [⟨(.tmp 5 20), [], none, .lst⟩], _, rfl, rfl, ?_⟩
      first | rfl | (simp only [reduceCtorEq, Nat.reduceEqDiff, ak, akF]; done) | (simp [reduceCtorEq, Nat.reduceEqDiff, ak, akF]; done)
    · replace c11 := of_decide_eq_false c11; rw [if_neg c11] at h
      refine hJ9 _ ?_
      refine seq_k fun J13 hJ13 => ?_
      refine reg_k ?_
      simp only [Nat.reduceEqDiff, Nat.reduceAdd, Nat.reduceMul, Nat.reduceLeDiff, Nat.reduceLT, Int.reduceLE, Int.reduceLT, Int.reduceGT, Int.reduceGE, Int.reduceEq, Int.reduceNe, Int.reduceToNat, reduceCtorEq, ak]
      obtain ⟨t14, h15, h⟩ := of_bind h
      refine call_m [] (s0 := []) (by intro t ht; cases ht; decide) rfl rfl (by first | rfl | simp only [reduceCtorEq, Nat.reduceEqDiff, ak, akF]) (impl_newSender.tri a0_0 a0_1 a0_2 a0_3 a0_4 a0_5 _ h15) (by first | rfl | simp only [reduceCtorEq, Nat.reduceEqDiff, ak, akF]) (by simp [bkOk2, memK]) (fun hl15 => ?_)
      refine call_st (s4 := [(.arg 0, ⟨.fz, 3, cs0⟩), (.tmp 2 0, ⟨.box, 0, [.sc (.int .u32 a0_0), .sc (.int .i64 a0_1), .sc (.int .i64 a0_2), .sc (.int .i64 a0_3), .sc (.int .i64 a0_4), .sc (.int .i64 a0_5)]⟩), (.tmp 5 20, ⟨.lst, 5, encL c66 ([] : List S66)⟩), (.tmp 19 0, ⟨.box, 0, [.sc (.int .u32 t14.1), .sc (.int .i64 t14.2.1), .sc (.int .i64 t14.2.2.1), .sc (.int .i64 t14.2.2.2.1), .sc (.int .i64 t14.2.2.2.2.1), .sc (.int .i64 t14.2.2.2.2.2.1), .sc (.int .u32 t14.2.2.2.2.2.2.1), .own 1 t14.2.2.2.2.2.2.2.1.length (encL c_i64 t14.2.2.2.2.2.2.2.1), .sc (.int .i64 t14.2.2.2.2.2.2.2.2.1), .sc (.int .i64 t14.2.2.2.2.2.2.2.2.2.1), .sc (.int .i64 t14.2.2.2.2.2.2.2.2.2.2.1), .sc (.int .i64 t14.2.2.2.2.2.2.2.2.2.2.2.1), .sc (.bool t14.2.2.2.2.2.2.2.2.2.2.2.2)]⟩)]) (m1' := []) (m2' := []) (v' := .c (.ptr (.tmp 19 0) [] 0)) (Sto.mapN_killNil _ _) (mrgL_nil' _ _ _) (by rfl) (mapT_killNil _ _) (by rfl) (by rfl) (by first | rfl | simp only [reduceCtorEq, Nat.reduceEqDiff, ak, akF, Nat.zero_add, List.append_nil]) ?_
      simp only [Nat.reduceEqDiff, Nat.reduceAdd, Nat.reduceMul, Nat.reduceLeDiff, Nat.reduceLT, Int.reduceLE, Int.reduceLT, Int.reduceGT, Int.reduceGE, Int.reduceEq, Int.reduceNe, Int.reduceToNat, reduceCtorEq, ak]
      refine hJ13 _ ?_
      refine seq_k fun J17 hJ17 => ?_
      refine reg_k ?_
      simp only [Nat.reduceEqDiff, Nat.reduceAdd, Nat.reduceMul, Nat.reduceLeDiff, Nat.reduceLT, Int.reduceLE, Int.reduceLT, Int.reduceGT, Int.reduceGE, Int.reduceEq, Int.reduceNe, Int.reduceToNat, reduceCtorEq, ak]
      refine gho_k (Weak.nm' 8 (.tmp 8 20) 5 (encL c66 ([] : List S66)) rfl rfl rfl) ?_
      simp only [Nat.reduceEqDiff, Nat.reduceAdd, Nat.reduceMul, Nat.reduceLeDiff, Nat.reduceLT, Int.reduceLE, Int.reduceLT, Int.reduceGT, Int.reduceGE, Int.reduceEq, Int.reduceNe, Int.reduceToNat, reduceCtorEq, ak]
      refine hJ17 _ ?_
      refine seq_k fun J18 hJ18 => ?_
      refine seq_k fun J19 hJ19 => ?_
      refine reg_k ?_
      simp only [Nat.reduceEqDiff, Nat.reduceAdd, Nat.reduceMul, Nat.reduceLeDiff, Nat.reduceLT, Int.reduceLE, Int.reduceLT, Int.reduceGT, Int.reduceGE, Int.reduceEq, Int.reduceNe, Int.reduceToNat, reduceCtorEq, ak]
      refine hJ19 _ ?_
      refine block_k fun B20 B20n B20x B20r B20j => ?_
      obtain ⟨y96, h97, h⟩ := of_bind h
      refine gh_k (st' := ⟨[(7, .c (.ptr (.tmp 19 0) [] 0)), (8, .c (.ref (.tmp 8 20) [] 0 (([] : List S66).length))), (20, .c (.ref (.arg 0) [] o0 l1.length)), (21, .c (.sc (.int .i64 (l1.length : Int)))), (22, .c (.sc (.int .i64 0)))], [(.arg 0, ⟨.fz, 3, cs0⟩), (.tmp 19 0, ⟨.box, 0, [.sc (.int .u32 t14.1), .sc (.int .i64 t14.2.1), .sc (.int .i64 t14.2.2.1), .sc (.int .i64 t14.2.2.2.1), .sc (.int .i64 t14.2.2.2.2.1), .sc (.int .i64 t14.2.2.2.2.2.1), .sc (.int .u32 t14.2.2.2.2.2.2.1), .own 1 t14.2.2.2.2.2.2.2.1.length (encL c_i64 t14.2.2.2.2.2.2.2.1), .sc (.int .i64 t14.2.2.2.2.2.2.2.2.1), .sc (.int .i64 t14.2.2.2.2.2.2.2.2.2.1), .sc (.int .i64 t14.2.2.2.2.2.2.2.2.2.2.1), .sc (.int .i64 t14.2.2.2.2.2.2.2.2.2.2.2.1), .sc (.bool t14.2.2.2.2.2.2.2.2.2.2.2.2)]⟩), (.tmp 8 20, ⟨.lst, 5, encL c66 ([] : List S66)⟩)], [], []⟩) (((Weak.keep [7, 8, 20, 21, 22]).trans ((Weak.foc [(.arg 0, ⟨(.arg 0), [], none, .fz⟩), (.tmp 19 0, ⟨(.tmp 19 0), [], none, .box⟩), (.tmp 8 20, ⟨(.tmp 8 20), [], none, .lst⟩)] rfl (by first | rfl | simp only [reduceCtorEq, Nat.reduceEqDiff, ak, akF]) (by simp [argK, akG, ak])).trans (Weak.of_eq (by first | rfl | (simp only [reduceCtorEq, Nat.reduceEqDiff, ak, akF]; done) | (simp [reduceCtorEq, Nat.reduceEqDiff, ak, akF]; done)))))) ?_
      rw [e_loop]
      refine impl_subAfter.l0_walk cs0 o0 l1 hv0 (l1.length : Int) t14.1 t14.2.1 t14.2.2.1 t14.2.2.2.1 t14.2.2.2.2.1 t14.2.2.2.2.2.1 0 t14.2.2.2.2.2.2.1 t14.2.2.2.2.2.2.2.1 t14.2.2.2.2.2.2.2.2.1 t14.2.2.2.2.2.2.2.2.2.1 t14.2.2.2.2.2.2.2.2.2.2.1 t14.2.2.2.2.2.2.2.2.2.2.2.1 t14.2.2.2.2.2.2.2.2.2.2.2.2 ([] : List S66) _ h97 _ ?_
      refine B20x _ ?_
      refine hJ18 _ ?_
      refine seq_k fun J98 hJ98 => ?_
      refine reg_k ?_
      simp only [Nat.reduceEqDiff, Nat.reduceAdd, Nat.reduceMul, Nat.reduceLeDiff, Nat.reduceLT, Int.reduceLE, Int.reduceLT, Int.reduceGT, Int.reduceGE, Int.reduceEq, Int.reduceNe, Int.reduceToNat, reduceCtorEq, ak]
      refine hJ98 _ ?_
      obtain rfl := Option.some.inj h
      exact absurd hp (by simp)
set_option maxRecDepth 100000 in
set_option maxHeartbeats 4000000 in
theorem impl_subAfter.tri1 (cs0 : List Cell) (o0 : Nat) (l1 : List S63) (hv0 : Vw c63 3 cs0 o0 l1) (a0_0 : Int) (a0_1 : Int) (a0_2 : Int) (a0_3 : Int) (a0_4 : Int) (a0_5 : Int) (r : (Option (Int × Int × Int × Int × Int × Int × Int × (List Int) × Int × Int × Int × Int × Bool)) × (List S66) × Int) (h : impl_subAfter.f a0_0 a0_1 a0_2 a0_3 a0_4 a0_5 l1 = some r) (p : Int × Int × Int × Int × Int × Int × Int × (List Int) × Int × Int × Int × Int × Bool) (hp : r.1 = some p) : Tri Try.prog 87 [.g [.sc (.int .u32 a0_0), .sc (.int .i64 a0_1), .sc (.int .i64 a0_2), .sc (.int .i64 a0_3), .sc (.int .i64 a0_4), .sc (.int .i64 a0_5)], .c (.ref (.arg 0) [] o0 l1.length)] [(.arg 0, ⟨.fz, 3, cs0⟩)] (fun o => o = ⟨.tup [(false, [.ptr (.res 0) [] 0]), (false, [.ref (.res 1) [] 0 r.2.1.length]), (false, [.sc (.int .i64 r.2.2)])], [(.arg 0, ⟨.fz, 3, cs0⟩), (.res 0, ⟨.box, 0, [.sc (.int .u32 p.1), .sc (.int .i64 p.2.1), .sc (.int .i64 p.2.2.1), .sc (.int .i64 p.2.2.2.1), .sc (.int .i64 p.2.2.2.2.1), .sc (.int .i64 p.2.2.2.2.2.1), .sc (.int .u32 p.2.2.2.2.2.2.1), .own 1 p.2.2.2.2.2.2.2.1.length (encL c_i64 p.2.2.2.2.2.2.2.1), .sc (.int .i64 p.2.2.2.2.2.2.2.2.1), .sc (.int .i64 p.2.2.2.2.2.2.2.2.2.1), .sc (.int .i64 p.2.2.2.2.2.2.2.2.2.2.1), .sc (.int .i64 p.2.2.2.2.2.2.2.2.2.2.2.1), .sc (.bool p.2.2.2.2.2.2.2.2.2.2.2.2)]⟩), (.res 1, ⟨.lst, 5, encL c66 r.2.1⟩)], [], []⟩) := by
  refine tri_of_body (ac := c87) (xs := r87) Try.func87 (show Try.f87.body = some (Try.f87.body.getD .skip) from rfl) k87 q87 (Nat.le_of_ble_eq_true rfl) ?_
  refine body_of fun K hKn hKr => ?_
  unfold impl_subAfter.f at h
  unfold c87
  simp only [initT, Nat.reduceAdd]
  refine seq_k fun J1 hJ1 => ?_
  refine reg_k ?_
  simp only [Nat.reduceEqDiff, Nat.reduceAdd, Nat.reduceMul, Nat.reduceLeDiff, Nat.reduceLT, Int.reduceLE, Int.reduceLT, Int.reduceGT, Int.reduceGE, Int.reduceEq, Int.reduceNe, Int.reduceToNat, reduceCtorEq, ak]
  refine gho_k (Weak.nm' 5 (.tmp 5 20) 5 (encL c66 ([] : List S66)) rfl rfl rfl) ?_
  simp only [Nat.reduceEqDiff, Nat.reduceAdd, Nat.reduceMul, Nat.reduceLeDiff, Nat.reduceLT, Int.reduceLE, Int.reduceLT, Int.reduceGT, Int.reduceGE, Int.reduceEq, Int.reduceNe, Int.reduceToNat, reduceCtorEq, ak]
  refine hJ1 _ ?_
  refine seq_k fun J2 hJ2 => ?_
  refine seq_k fun J3 hJ3 => ?_
  refine reg_k ?_
  simp only [Nat.reduceEqDiff, Nat.reduceAdd, Nat.reduceMul, Nat.reduceLeDiff, Nat.reduceLT, Int.reduceLE, Int.reduceLT, Int.reduceGT, Int.reduceGE, Int.reduceEq, Int.reduceNe, Int.reduceToNat, reduceCtorEq, ak]
  obtain ⟨t4, h5, h⟩ := of_bind h
  refine call_m [] (s0 := []) (by intro t ht; cases ht; decide) rfl rfl (by first | rfl | simp only [reduceCtorEq, Nat.reduceEqDiff, ak, akF]) (impl_validSub.tri a0_0 a0_1 a0_2 a0_3 a0_4 a0_5 _ h5) (by first | rfl | simp only [reduceCtorEq, Nat.reduceEqDiff, ak, akF]) (by simp [bkOk2, memK]) (fun hl5 => ?_)
  refine call_st (s4 := [(.arg 0, ⟨.fz, 3, cs0⟩), (.tmp 2 0, ⟨.box, 0, [.sc (.int .u32 a0_0), .sc (.int .i64 a0_1), .sc (.int .i64 a0_2), .sc (.int .i64 a0_3), .sc (.int .i64 a0_4), .sc (.int .i64 a0_5)]⟩), (.tmp 5 20, ⟨.lst, 5, encL c66 ([] : List S66)⟩)]) (m1' := []) (m2' := []) (v' := .c (.sc (.bool t4))) (Sto.mapN_killNil _ _) (mrgL_nil' _ _ _) (by rfl) (mapT_killNil _ _) (by rfl) (by rfl) (by first | rfl | simp only [reduceCtorEq, Nat.reduceEqDiff, ak, akF, Nat.zero_add, List.append_nil]) ?_
  simp only [Nat.reduceEqDiff, Nat.reduceAdd, Nat.reduceMul, Nat.reduceLeDiff, Nat.reduceLT, Int.reduceLE, Int.reduceLT, Int.reduceGT, Int.reduceGE, Int.reduceEq, Int.reduceNe, Int.reduceToNat, reduceCtorEq, ak]
  refine hJ3 _ ?_
  refine cond_k (b := !t4) rfl (fun c7 => ?_) (fun c7 => ?_)
  · rw [if_pos c7] at h
    refine seq_k fun J8 hJ8 => ?_
    refine reg_k ?_
    simp only [Nat.reduceEqDiff, Nat.reduceAdd, Nat.reduceMul, Nat.reduceLeDiff, Nat.reduceLT, Int.reduceLE, Int.reduceLT, Int.reduceGT, Int.reduceGE, Int.reduceEq, Int.reduceNe, Int.reduceToNat, reduceCtorEq, ak]
    refine gho_k ((Weak.drop [.tmp 5 20]).trans (Weak.nm' 5 (.tmp 5 20) 5 (encL c66 ([] : List S66)) rfl rfl rfl)) ?_
    simp only [Nat.reduceEqDiff, Nat.reduceAdd, Nat.reduceMul, Nat.reduceLeDiff, Nat.reduceLT, Int.reduceLE, Int.reduceLT, Int.reduceGT, Int.reduceGE, Int.reduceEq, Int.reduceNe, Int.reduceToNat, reduceCtorEq, ak]
    refine hJ8 _ ?_
    obtain rfl := Option.some.inj h
    exact absurd hp (by simp)
  · rw [if_neg (Bool.eq_false_iff.1 c7)] at h
    refine hJ2 _ ?_
    refine seq_k fun J9 hJ9 => ?_
    refine seq_k fun J10 hJ10 => ?_
    refine reg_k ?_
    simp only [Nat.reduceEqDiff, Nat.reduceAdd, Nat.reduceMul, Nat.reduceLeDiff, Nat.reduceLT, Int.reduceLE, Int.reduceLT, Int.reduceGT, Int.reduceGE, Int.reduceEq, Int.reduceNe, Int.reduceToNat, reduceCtorEq, ak]
    refine hJ10 _ ?_
    refine cond_k (b := decide ((l1.length : Int) > 4000)) rfl (fun c11 => ?_) (fun c11 => ?_)
    · replace c11 := of_decide_eq_true c11; rw [if_pos c11] at h
      refine seq_k fun J12 hJ12 => ?_
      refine reg_k ?_
      simp only [Nat.reduceEqDiff, Nat.reduceAdd, Nat.reduceMul, Nat.reduceLeDiff, Nat.reduceLT, Int.reduceLE, Int.reduceLT, Int.reduceGT, Int.reduceGE, Int.reduceEq, Int.reduceNe, Int.reduceToNat, reduceCtorEq, ak]
      refine gho_k ((Weak.drop [.tmp 5 20]).trans (Weak.nm' 5 (.tmp 5 20) 5 (encL c66 ([] : List S66)) rfl rfl rfl)) ?_
      simp only [Nat.reduceEqDiff, Nat.reduceAdd, Nat.reduceMul, Nat.reduceLeDiff, Nat.reduceLT, Int.reduceLE, Int.reduceLT, Int.reduceGT, Int.reduceGE, Int.reduceEq, Int.reduceNe, Int.reduceToNat, reduceCtorEq, ak]
      refine hJ12 _ ?_
      obtain rfl := Option.some.inj h
      exact absurd hp (by simp)
    · replace c11 := of_decide_eq_false c11; rw [if_neg c11] at h
      refine hJ9 _ ?_
      refine seq_k fun J13 hJ13 => ?_
      refine reg_k ?_
      simp only [Nat.reduceEqDiff, Nat.reduceAdd, Nat.reduceMul, Nat.reduceLeDiff, Nat.reduceLT, Int.reduceLE, Int.reduceLT, Int.reduceGT, Int.reduceGE, Int.reduceEq, Int.reduceNe, Int.reduceToNat, reduceCtorEq, ak]
      obtain ⟨t14, h15, h⟩ := of_bind h
      refine call_m [] (s0 := []) (by intro t ht; cases ht; decide) rfl rfl (by first | rfl | simp only [reduceCtorEq, Nat.reduceEqDiff, ak, akF]) (impl_newSender.tri a0_0 a0_1 a0_2 a0_3 a0_4 a0_5 _ h15) (by first | rfl | simp only [reduceCtorEq, Nat.reduceEqDiff, ak, akF]) (by simp [bkOk2, memK]) (fun hl15 => ?_)
      refine call_st (s4 := [(.arg 0, ⟨.fz, 3, cs0⟩), (.tmp 2 0, ⟨.box, 0, [.sc (.int .u32 a0_0), .sc (.int .i64 a0_1), .sc (.int .i64 a0_2), .sc (.int .i64 a0_3), .sc (.int .i64 a0_4), .sc (.int .i64 a0_5)]⟩), (.tmp 5 20, ⟨.lst, 5, encL c66 ([] : List S66)⟩), (.tmp 19 0, ⟨.box, 0, [.sc (.int .u32 t14.1), .sc (.int .i64 t14.2.1), .sc (.int .i64 t14.2.2.1), .sc (.int .i64 t14.2.2.2.1), .sc (.int .i64 t14.2.2.2.2.1), .sc (.int .i64 t14.2.2.2.2.2.1), .sc (.int .u32 t14.2.2.2.2.2.2.1), .own 1 t14.2.2.2.2.2.2.2.1.length (encL c_i64 t14.2.2.2.2.2.2.2.1), .sc (.int .i64 t14.2.2.2.2.2.2.2.2.1), .sc (.int .i64 t14.2.2.2.2.2.2.2.2.2.1), .sc (.int .i64 t14.2.2.2.2.2.2.2.2.2.2.1), .sc (.int .i64 t14.2.2.2.2.2.2.2.2.2.2.2.1), .sc (.bool t14.2.2.2.2.2.2.2.2.2.2.2.2)]⟩)]) (m1' := []) (m2' := []) (v' := .c (.ptr (.tmp 19 0) [] 0)) (Sto.mapN_killNil _ _) (mrgL_nil' _ _ _) (by rfl) (mapT_killNil _ _) (by rfl) (by rfl) (by first | rfl | simp only [reduceCtorEq, Nat.reduceEqDiff, ak, akF, Nat.zero_add, List.append_nil]) ?_
      simp only [Nat.reduceEqDiff, Nat.reduceAdd, Nat.reduceMul, Nat.reduceLeDiff, Nat.reduceLT, Int.reduceLE, Int.reduceLT, Int.reduceGT, Int.reduceGE, Int.reduceEq, Int.reduceNe, Int.reduceToNat, reduceCtorEq, ak]
      refine hJ13 _ ?_
      refine seq_k fun J17 hJ17 => ?_
      refine reg_k ?_
      simp only [Nat.reduceEqDiff, Nat.reduceAdd, Nat.reduceMul, Nat.reduceLeDiff, Nat.reduceLT, Int.reduceLE, Int.reduceLT, Int.reduceGT, Int.reduceGE, Int.reduceEq, Int.reduceNe, Int.reduceToNat, reduceCtorEq, ak]
      refine gho_k (Weak.nm' 8 (.tmp 8 20) 5 (encL c66 ([] : List S66)) rfl rfl rfl) ?_
      simp only [Nat.reduceEqDiff, Nat.reduceAdd, Nat.reduceMul, Nat.reduceLeDiff, Nat.reduceLT, Int.reduceLE, Int.reduceLT, Int.reduceGT, Int.reduceGE, Int.reduceEq, Int.reduceNe, Int.reduceToNat, reduceCtorEq, ak]
      refine hJ17 _ ?_
      refine seq_k fun J18 hJ18 => ?_
      refine seq_k fun J19 hJ19 => ?_
      refine reg_k ?_
      simp only [Nat.reduceEqDiff, Nat.reduceAdd, Nat.reduceMul, Nat.reduceLeDiff, Nat.reduceLT, Int.reduceLE, Int.reduceLT, Int.reduceGT, Int.reduceGE, Int.reduceEq, Int.reduceNe, Int.reduceToNat, reduceCtorEq, ak]
      refine hJ19 _ ?_
      refine block_k fun B20 B20n B20x B20r B20j => ?_
      obtain ⟨y96, h97, h⟩ := of_bind h
      refine gh_k (st' := ⟨[(7, .c (.ptr (.tmp 19 0) [] 0)), (8, .c (.ref (.tmp 8 20) [] 0 (([] : List S66).length))), (20, .c (.ref (.arg 0) [] o0 l1.length)), (21, .c (.sc (.int .i64 (l1.length : Int)))), (22, .c (.sc (.int .i64 0)))], [(.arg 0, ⟨.fz, 3, cs0⟩), (.tmp 19 0, ⟨.box, 0, [.sc (.int .u32 t14.1), .sc (.int .i64 t14.2.1), .sc (.int .i64 t14.2.2.1), .sc (.int .i64 t14.2.2.2.1), .sc (.int .i64 t14.2.2.2.2.1), .sc (.int .i64 t14.2.2.2.2.2.1), .sc (.int .u32 t14.2.2.2.2.2.2.1), .own 1 t14.2.2.2.2.2.2.2.1.length (encL c_i64 t14.2.2.2.2.2.2.2.1), .sc (.int .i64 t14.2.2.2.2.2.2.2.2.1), .sc (.int .i64 t14.2.2.2.2.2.2.2.2.2.1), .sc (.int .i64 t14.2.2.2.2.2.2.2.2.2.2.1), .sc (.int .i64 t14.2.2.2.2.2.2.2.2.2.2.2.1), .sc (.bool t14.2.2.2.2.2.2.2.2.2.2.2.2)]⟩), (.tmp 8 20, ⟨.lst, 5, encL c66 ([] : List S66)⟩)], [], []⟩) (((Weak.keep [7, 8, 20, 21, 22]).trans ((Weak.foc [(.arg 0, ⟨(.arg 0), [], none, .fz⟩), (.tmp 19 0, ⟨(.tmp 19 0), [], none, .box⟩), (.tmp 8 20, ⟨(.tmp 8 20), [], none, .lst⟩)] rfl (by first | rfl | simp only [reduceCtorEq, Nat.reduceEqDiff, ak, akF]) (by simp [argK, akG, ak])).trans (Weak.of_eq (by first | rfl | (simp only [reduceCtorEq, Nat.reduceEqDiff, ak, akF]; done) | (simp [reduceCtorEq, Nat.reduceEqDiff, ak, akF]; done)))))) ?_
      rw [e_loop]
      refine impl_subAfter.l0_walk cs0 o0 l1 hv0 (l1.length : Int) t14.1 t14.2.1 t14.2.2.1 t14.2.2.2.1 t14.2.2.2.2.1 t14.2.2.2.2.2.1 0 t14.2.2.2.2.2.2.1 t14.2.2.2.2.2.2.2.1 t14.2.2.2.2.2.2.2.2.1 t14.2.2.2.2.2.2.2.2.2.1 t14.2.2.2.2.2.2.2.2.2.2.1 t14.2.2.2.2.2.2.2.2.2.2.2.1 t14.2.2.2.2.2.2.2.2.2.2.2.2 ([] : List S66) _ h97 _ ?_
      refine B20x _ ?_
      refine hJ18 _ ?_
      refine seq_k fun J98 hJ98 => ?_
      refine reg_k ?_
      simp only [Nat.reduceEqDiff, Nat.reduceAdd, Nat.reduceMul, Nat.reduceLeDiff, Nat.reduceLT, Int.reduceLE, Int.reduceLT, Int.reduceGT, Int.reduceGE, Int.reduceEq, Int.reduceNe, Int.reduceToNat, reduceCtorEq, ak]
      refine hJ98 _ ?_
      obtain rfl := Option.some.inj h
      obtain rfl := Option.some.inj hp
      refine hKr _ ⟨_, rfl, [⟨(.tmp 19 0), [], none, .box⟩, ⟨(.tmp 8 20), [], none, .lst⟩], _, rfl, rfl, ?_⟩
      first | rfl | (simp only [reduceCtorEq, Nat.reduceEqDiff, ak, akF]; done) | (simp [reduceCtorEq, Nat.reduceEqDiff, ak, akF]; done)
/-! ### impl.mark: function 88 -/
def c88 : AC := .seq (.reg [.op none (.mv 2 (.const (.int .i64 0))), .keep [0]]) (.seq (.seq (.reg [.op none (.mv 3 (.tmp 0)), .keep [3]]) (.cond (.tmp 3) (.seq (.reg [.op none (.mv 2 (.const (.int .i64 1))), .keep [2]]) (.ret)) (.skip))) (.seq (.reg [.op none (.mv 2 (.const (.int .i64 0))), .keep [2]]) (.ret)))
def r88 : List RV := [.tmp 2]
theorem k88 : compC Try.prog 4 c88 (Try.f88.body.getD .skip) = some c88.erase := by kernel_rfl
theorem q88 : rvsOf Try.prog Try.f88.results.toList = some r88 := by kernel_rfl
def impl_mark.f (a0 : Bool) : Option Int := (if a0 = true then (some 1) else (some 0))
set_option maxRecDepth 100000 in
set_option maxHeartbeats 4000000 in
theorem impl_mark.tri (a0 : Bool) (r : Int) (h : impl_mark.f a0 = some r) : Tri Try.prog 88 [.c (.sc (.bool a0))] [] (fun o => o = ⟨.c (.sc (.int .i64 r)), [], [], []⟩) := by
  refine tri_of_body (ac := c88) (xs := r88) Try.func88 (show Try.f88.body = some (Try.f88.body.getD .skip) from rfl) k88 q88 (Nat.le_of_ble_eq_true rfl) ?_
  refine body_of fun K hKn hKr => ?_
  unfold impl_mark.f at h
  unfold c88
  simp only [initT, Nat.reduceAdd]
  refine seq_k fun J1 hJ1 => ?_
  refine reg_k ?_
  simp only [Nat.reduceEqDiff, Nat.reduceAdd, Nat.reduceMul, Nat.reduceLeDiff, Nat.reduceLT, Int.reduceLE, Int.reduceLT, Int.reduceGT, Int.reduceGE, Int.reduceEq, Int.reduceNe, Int.reduceToNat, reduceCtorEq, ak]
  refine hJ1 _ ?_
  refine seq_k fun J2 hJ2 => ?_
  refine seq_k fun J3 hJ3 => ?_
  refine reg_k ?_
  simp only [Nat.reduceEqDiff, Nat.reduceAdd, Nat.reduceMul, Nat.reduceLeDiff, Nat.reduceLT, Int.reduceLE, Int.reduceLT, Int.reduceGT, Int.reduceGE, Int.reduceEq, Int.reduceNe, Int.reduceToNat, reduceCtorEq, ak]
  refine hJ3 _ ?_
  refine cond_k (b := a0) rfl (fun c4 => ?_) (fun c4 => ?_)
  · rw [if_pos c4] at h
    refine seq_k fun J5 hJ5 => ?_
    refine reg_k ?_
    simp only [Nat.reduceEqDiff, Nat.reduceAdd, Nat.reduceMul, Nat.reduceLeDiff, Nat.reduceLT, Int.reduceLE, Int.reduceLT, Int.reduceGT, Int.reduceGE, Int.reduceEq, Int.reduceNe, Int.reduceToNat, reduceCtorEq, ak]
    refine hJ5 _ ?_
    obtain rfl := Option.some.inj h
    refine hKr _ ⟨_, rfl, [], _, rfl, rfl, ?_⟩
    first | rfl | (simp only [reduceCtorEq, Nat.reduceEqDiff, ak, akF]; done) | (simp [reduceCtorEq, Nat.reduceEqDiff, ak, akF]; done)
  · rw [if_neg (Bool.eq_false_iff.1 c4)] at h
    refine hJ2 _ ?_
    refine seq_k fun J6 hJ6 => ?_
    refine reg_k ?_
    simp only [Nat.reduceEqDiff, Nat.reduceAdd, Nat.reduceMul, Nat.reduceLeDiff, Nat.reduceLT, Int.reduceLE, Int.reduceLT, Int.reduceGT, Int.reduceGE, Int.reduceEq, Int.reduceNe, Int.reduceToNat, reduceCtorEq, ak]
    refine hJ6 _ ?_
    obtain rfl := Option.some.inj h
    refine hKr _ ⟨_, rfl, [], _, rfl, rfl, ?_⟩
    first | rfl | (simp only [reduceCtorEq, Nat.reduceEqDiff, ak, akF]; done) | (simp [reduceCtorEq, Nat.reduceEqDiff, ak, akF]; done)
/-! ### (*impl.sender).view: function 89 -/
def c89 : AC := .seq (.reg [.op none (.alloc 2 [.int .u32 0, .int .u32 0, .slice none 0 0, .int .i64 0, .int .i64 0, .int .i64 0, .int .i64 0, .int .i64 0]), .gh, .keep [0, 2]]) (.seq (.regD (.first (.op none (.mv 3 (.tmp 0))) (.first (.op none (.nilc 4 (.tmp 3))) (.first (.op none (.faddr 5 6 (.tmp 4))) (.first (.op none (.mv 7 (.tmp 0))) (.first (.op none (.mv 9 (.tmp 0))) (.first (.op none (.nilc 10 (.tmp 9))) (.first (.op none (.faddr 11 7 (.tmp 10))) (.first (.op none (.mv 14 (.tmp 0))) (.first (.op none (.nilc 15 (.tmp 14))) (.first (.op none (.faddr 16 8 (.tmp 15))) (.first (.op none (.mv 18 (.tmp 0))) (.first (.op none (.nilc 19 (.tmp 18))) (.first (.op none (.faddr 20 9 (.tmp 19))) (.first (.op none (.mv 22 (.tmp 0))) (.first (.op none (.nilc 23 (.tmp 22))) (.first (.op none (.faddr 24 10 (.tmp 23))) (.first (.op none (.mv 26 (.tmp 0))) (.first (.op none (.nilc 27 (.tmp 26))) (.first (.op none (.faddr 28 11 (.tmp 27))) (.first (.op none (.mv 30 (.tmp 0))) (.first (.op none (.nilc 31 (.tmp 30))) (.first (.op none (.faddr 32 12 (.tmp 31))) (.pin [33, 32] (.op none (.load 6 false 1 (.tmp 5))) (.pin [33, 32, 31, 10] (.op none (.load 12 false 1 (.tmp 11))) (.pin [33, 32] (.op none (.load 17 false 1 (.tmp 16))) (.pin [33, 32] (.op none (.load 21 false 1 (.tmp 20))) (.pin [33, 32] (.op none (.load 25 false 1 (.tmp 24))) (.pin [33, 32] (.op none (.load 29 false 1 (.tmp 28))) (.pin [33, 32, 31] (.op none (.load 33 false 1 (.tmp 32))) (.alt (.call none (some 8) 134 [.tmp 7]) none (.alt (.op none (.app 13 1 8 false (.const (.slice none 0 0)) (.tmp 12))) (some 10) (.alt (.call none (some 34) 88 [.tmp 33]) (some 31) (.pin [33] (.op none (.build 35 [.int .u32 0, .int .u32 0, .slice none 0 0, .int .i64 0, .int .i64 0, .int .i64 0, .int .i64 0, .int .i64 0] [(0, 1, .tmp 6), (1, 1, .tmp 8), (2, 1, .tmp 13), (3, 1, .tmp 17), (4, 1, .tmp 21), (5, 1, .tmp 25), (6, 1, .tmp 29), (7, 1, .tmp 34)])) (.gh (.alt (.op none (.store 8 (.tmp 2) (.tmp 35))) (some 33) (.done) (.stop)))) (.stop)) (.stop)) (.stop))))))))))))))))))))))))))))))) [2]) (.ret))
def r89 : List RV := [.cell 2 true 8]
theorem k89 : compC Try.prog 36 c89 (Try.f89.body.getD .skip) = some c89.erase := by kernel_rfl
theorem q89 : rvsOf Try.prog Try.f89.results.toList = some r89 := by kernel_rfl
def impl_sender_view.f (a0_0 : Int) (a0_1 : Int) (a0_2 : Int) (a0_3 : Int) (a0_4 : Int) (a0_5 : Int) (a0_6 : Int) (l0_7 : List Int) (a0_8 : Int) (a0_9 : Int) (a0_10 : Int) (a0_11 : Int) (a0_12 : Bool) : Option (Int × Int × (List Int) × Int × Int × Int × Int × Int) := (impl_sender_next.f a0_0 a0_1 a0_2 a0_3 a0_4 a0_5 a0_6 l0_7 a0_8 a0_9 a0_10 a0_11 a0_12 >>= fun t3 => (if (0 + l0_7.length) * 8 ≤ 140737488355328 then (impl_mark.f a0_12 >>= fun t10 => (some (a0_6, t3, l0_7, a0_8, a0_9, a0_10, a0_11, t10))) else none))
set_option maxRecDepth 100000 in
set_option maxHeartbeats 4000000 in
theorem impl_sender_view.tri (a0_0 : Int) (a0_1 : Int) (a0_2 : Int) (a0_3 : Int) (a0_4 : Int) (a0_5 : Int) (a0_6 : Int) (l0_7 : List Int) (a0_8 : Int) (a0_9 : Int) (a0_10 : Int) (a0_11 : Int) (a0_12 : Bool) (r : Int × Int × (List Int) × Int × Int × Int × Int × Int) (h : impl_sender_view.f a0_0 a0_1 a0_2 a0_3 a0_4 a0_5 a0_6 l0_7 a0_8 a0_9 a0_10 a0_11 a0_12 = some r) : Tri Try.prog 89 [.c (.ptr (.arg 0) [] 0)] [(.arg 0, ⟨.box, 0, [.sc (.int .u32 a0_0), .sc (.int .i64 a0_1), .sc (.int .i64 a0_2), .sc (.int .i64 a0_3), .sc (.int .i64 a0_4), .sc (.int .i64 a0_5), .sc (.int .u32 a0_6), .own 1 l0_7.length (encL c_i64 l0_7), .sc (.int .i64 a0_8), .sc (.int .i64 a0_9), .sc (.int .i64 a0_10), .sc (.int .i64 a0_11), .sc (.bool a0_12)]⟩)] (fun o => o = ⟨.g [.sc (.int .u32 r.1), .sc (.int .u32 r.2.1), .ref (.res 0) [] 0 r.2.2.1.length, .sc (.int .i64 r.2.2.2.1), .sc (.int .i64 r.2.2.2.2.1), .sc (.int .i64 r.2.2.2.2.2.1), .sc (.int .i64 r.2.2.2.2.2.2.1), .sc (.int .i64 r.2.2.2.2.2.2.2)], [(.arg 0, ⟨.box, 0, [.sc (.int .u32 a0_0), .sc (.int .i64 a0_1), .sc (.int .i64 a0_2), .sc (.int .i64 a0_3), .sc (.int .i64 a0_4), .sc (.int .i64 a0_5), .sc (.int .u32 a0_6), .own 1 l0_7.length (encL c_i64 l0_7), .sc (.int .i64 a0_8), .sc (.int .i64 a0_9), .sc (.int .i64 a0_10), .sc (.int .i64 a0_11), .sc (.bool a0_12)]⟩), (.res 0, ⟨.lst, 1, encL c_i64 r.2.2.1⟩)], [], []⟩) := by
  refine tri_of_body (ac := c89) (xs := r89) Try.func89 (show Try.f89.body = some (Try.f89.body.getD .skip) from rfl) k89 q89 (Nat.le_of_ble_eq_true rfl) ?_
  refine body_of fun K hKn hKr => ?_
  unfold impl_sender_view.f at h
  unfold c89
  simp only [initT, Nat.reduceAdd]
  refine seq_k fun J1 hJ1 => ?_
  refine reg_k ?_
  simp only [Nat.reduceEqDiff, Nat.reduceAdd, Nat.reduceMul, Nat.reduceLeDiff, Nat.reduceLT, Int.reduceLE, Int.reduceLT, Int.reduceGT, Int.reduceGE, Int.reduceEq, Int.reduceNe, Int.reduceToNat, reduceCtorEq, ak]
  refine gho_k (Weak.own (.tmp 2 0) (cs' := [.sc (.int .u32 0), .sc (.int .u32 0), .own 1 (([] : List Int).length) (encL c_i64 ([] : List Int)), .sc (.int .i64 0), .sc (.int .i64 0), .sc (.int .i64 0), .sc (.int .i64 0), .sc (.int .i64 0)]) rfl ⟨.inl rfl, .inl rfl, .inr ⟨rfl, _, rfl⟩, .inl rfl, .inl rfl, .inl rfl, .inl rfl, .inl rfl, trivial⟩) ?_
  simp only [Nat.reduceEqDiff, Nat.reduceAdd, Nat.reduceMul, Nat.reduceLeDiff, Nat.reduceLT, Int.reduceLE, Int.reduceLT, Int.reduceGT, Int.reduceGE, Int.reduceEq, Int.reduceNe, Int.reduceToNat, reduceCtorEq, ak]
  refine hJ1 _ ?_
  refine seq_k fun J2 hJ2 => ?_
  refine regD_k ?_
  simp only [Nat.reduceBEq, Nat.reduceEqDiff, Nat.reduceAdd, Nat.reduceMul, Nat.reduceLeDiff, Nat.reduceLT, Int.reduceLE, Int.reduceLT, Int.reduceGT, Int.reduceGE, Int.reduceEq, Int.reduceNe, Int.reduceToNat, reduceCtorEq, ak]
  obtain ⟨t3, h4, h⟩ := of_bind h
  obtain ⟨b8, h⟩ := of_guard h
  obtain ⟨t10, h11, h⟩ := of_bind h
  refine alt_e ?_
  · simp only [Nat.reduceBEq, Nat.reduceEqDiff, Nat.reduceAdd, Nat.reduceMul, Nat.reduceLeDiff, Nat.reduceLT, Int.reduceLE, Int.reduceLT, Int.reduceGT, Int.reduceGE, Int.reduceEq, Int.reduceNe, Int.reduceToNat, reduceCtorEq, ak]
    refine call_m [(.arg 0, ⟨(.arg 0), [], none, .box⟩)] (s0 := [(.arg 0, ⟨.box, 0, [.sc (.int .u32 a0_0), .sc (.int .i64 a0_1), .sc (.int .i64 a0_2), .sc (.int .i64 a0_3), .sc (.int .i64 a0_4), .sc (.int .i64 a0_5), .sc (.int .u32 a0_6), .own 1 l0_7.length (encL c_i64 l0_7), .sc (.int .i64 a0_8), .sc (.int .i64 a0_9), .sc (.int .i64 a0_10), .sc (.int .i64 a0_11), .sc (.bool a0_12)]⟩)]) (by intro t ht; cases ht; decide) rfl rfl (by first | rfl | simp only [reduceCtorEq, Nat.reduceEqDiff, ak, akF, b8]) (impl_sender_next.tri a0_0 a0_1 a0_2 a0_3 a0_4 a0_5 a0_6 l0_7 a0_8 a0_9 a0_10 a0_11 a0_12 _ h4) (by first | rfl | simp only [reduceCtorEq, Nat.reduceEqDiff, ak, akF]) (by simp [bkOk2, memK]) (fun hl26 => ?_)
    refine call_st (s4 := [(.arg 0, ⟨.box, 0, [.sc (.int .u32 a0_0), .sc (.int .i64 a0_1), .sc (.int .i64 a0_2), .sc (.int .i64 a0_3), .sc (.int .i64 a0_4), .sc (.int .i64 a0_5), .sc (.int .u32 a0_6), .own 1 l0_7.length (encL c_i64 l0_7), .sc (.int .i64 a0_8), .sc (.int .i64 a0_9), .sc (.int .i64 a0_10), .sc (.int .i64 a0_11), .sc (.bool a0_12)]⟩), (.tmp 2 0, ⟨.box, 0, [.sc (.int .u32 0), .sc (.int .u32 0), .own 1 (([] : List Int).length) (encL c_i64 ([] : List Int)), .sc (.int .i64 0), .sc (.int .i64 0), .sc (.int .i64 0), .sc (.int .i64 0), .sc (.int .i64 0)]⟩)]) (m1' := []) (m2' := []) (v' := .c (.sc (.int .u32 t3))) (Sto.mapN_killNil _ _) (mrgL_whole (new' := [.sc (.int .u32 a0_0), .sc (.int .i64 a0_1), .sc (.int .i64 a0_2), .sc (.int .i64 a0_3), .sc (.int .i64 a0_4), .sc (.int .i64 a0_5), .sc (.int .u32 a0_6), .own 1 l0_7.length (encL c_i64 l0_7), .sc (.int .i64 a0_8), .sc (.int .i64 a0_9), .sc (.int .i64 a0_10), .sc (.int .i64 a0_11), .sc (.bool a0_12)]) (mrgL_nil' _ _ _) rfl (by rfl) (.inl ⟨rfl, by first | rfl | simp only [reduceCtorEq, Nat.reduceEqDiff, ak, akF, Nat.zero_add, List.append_nil, b8]⟩)) (by rfl) (mapT_killNil _ _) (by rfl) (by rfl) (by first | rfl | simp only [reduceCtorEq, Nat.reduceEqDiff, ak, akF, Nat.zero_add, List.append_nil, b8]) ?_
    simp only [Nat.reduceBEq, Nat.reduceEqDiff, Nat.reduceAdd, Nat.reduceMul, Nat.reduceLeDiff, Nat.reduceLT, Int.reduceLE, Int.reduceLT, Int.reduceGT, Int.reduceGE, Int.reduceEq, Int.reduceNe, Int.reduceToNat, reduceCtorEq, ak]
    refine alt_e ?_
    · have g37 : (encL c_i64 l0_7).take (l0_7.length * 1) = encL c_i64 l0_7 := by simpa using (Vw.whole c_i64_w l0_7).all
      have g38 : (encL c_i64 l0_7).all isSc = true := encL_all (fun _ => rfl) _
      have g39 : appLim 0 l0_7.length 8 := ⟨b8, by have := b8; omega⟩
      simp only [Nat.reduceBEq, Nat.reduceEqDiff, Nat.reduceAdd, Nat.reduceMul, Nat.reduceLeDiff, Nat.reduceLT, Int.reduceLE, Int.reduceLT, Int.reduceGT, Int.reduceGE, Int.reduceEq, Int.reduceNe, Int.reduceToNat, reduceCtorEq, ak, g37, g38, g39]
      refine alt_e ?_
      · simp only [Nat.reduceBEq, Nat.reduceEqDiff, Nat.reduceAdd, Nat.reduceMul, Nat.reduceLeDiff, Nat.reduceLT, Int.reduceLE, Int.reduceLT, Int.reduceGT, Int.reduceGE, Int.reduceEq, Int.reduceNe, Int.reduceToNat, reduceCtorEq, ak]
        refine call_m [] (s0 := []) (by intro t ht; cases ht; decide) rfl rfl (by first | rfl | simp only [reduceCtorEq, Nat.reduceEqDiff, ak, akF, b8, g37, g38, g39]) (impl_mark.tri a0_12 _ h11) (by first | rfl | simp only [reduceCtorEq, Nat.reduceEqDiff, ak, akF]) (by simp [bkOk2, memK]) (fun hl42 => ?_)
        refine call_st (s4 := [(.arg 0, ⟨.box, 0, [.sc (.int .u32 a0_0), .sc (.int .i64 a0_1), .sc (.int .i64 a0_2), .sc (.int .i64 a0_3), .sc (.int .i64 a0_4), .sc (.int .i64 a0_5), .sc (.int .u32 a0_6), .own 1 l0_7.length (encL c_i64 l0_7), .sc (.int .i64 a0_8), .sc (.int .i64 a0_9), .sc (.int .i64 a0_10), .sc (.int .i64 a0_11), .sc (.bool a0_12)]⟩), (.tmp 2 0, ⟨.box, 0, [.sc (.int .u32 0), .sc (.int .u32 0), .own 1 (([] : List Int).length) (encL c_i64 ([] : List Int)), .sc (.int .i64 0), .sc (.int .i64 0), .sc (.int .i64 0), .sc (.int .i64 0), .sc (.int .i64 0)]⟩), (.tmp 13 0, ⟨.lst, 1, encL c_i64 l0_7⟩)]) (m1' := []) (m2' := []) (v' := .c (.sc (.int .i64 t10))) (Sto.mapN_killNil _ _) (mrgL_nil' _ _ _) (by rfl) (mapT_killNil _ _) (by rfl) (by rfl) (by first | rfl | simp only [reduceCtorEq, Nat.reduceEqDiff, ak, akF, Nat.zero_add, List.append_nil, b8]) ?_
        simp only [Nat.reduceBEq, Nat.reduceEqDiff, Nat.reduceAdd, Nat.reduceMul, Nat.reduceLeDiff, Nat.reduceLT, Int.reduceLE, Int.reduceLT, Int.reduceGT, Int.reduceGE, Int.reduceEq, Int.reduceNe, Int.reduceToNat, reduceCtorEq, ak]
        refine ghp_k (Weak.refl _ _) ?_
        try simp only [Nat.reduceBEq, Nat.reduceEqDiff, Nat.reduceAdd, Nat.reduceMul, Nat.reduceLeDiff, Nat.reduceLT, Int.reduceLE, Int.reduceLT, Int.reduceGT, Int.reduceGE, Int.reduceEq, Int.reduceNe, Int.reduceToNat, reduceCtorEq, ak]
        refine alt_e ?_
        · have g45 : (encL c_i64 l0_7).length = (0 + l0_7.length) * 1 := by simp [encL_length c_i64_w]
          simp only [Nat.reduceBEq, Nat.reduceEqDiff, Nat.reduceAdd, Nat.reduceMul, Nat.reduceLeDiff, Nat.reduceLT, Int.reduceLE, Int.reduceLT, Int.reduceGT, Int.reduceGE, Int.reduceEq, Int.reduceNe, Int.reduceToNat, reduceCtorEq, ak, g45]
          refine hJ2 _ ?_
          obtain rfl := Option.some.inj h
          refine hKr _ ⟨_, rfl, [⟨(.tmp 2 0), [2], none, .lst⟩], _, rfl, rfl, ?_⟩
          first | rfl | (simp only [reduceCtorEq, Nat.reduceEqDiff, ak, akF, b8]; done) | (simp [reduceCtorEq, Nat.reduceEqDiff, ak, akF, b8]; done)
/-! ### impl.SubState: function 33 -/
def c33 : AC := .seq (.reg [.op none (.box 2 (.tmp 0)), .op none (.alloc 4 [.int .u32 0, .int .u32 0, .slice none 0 0, .int .i64 0, .int .i64 0, .int .i64 0, .int .i64 0, .int .i64 0]), .gh, .op none (.mv 5 (.const (.int .i64 0))), .keep [1, 2, 4]]) (.seq (.reg [.op none (.load 10 true 6 (.tmp 2)), .op none (.mv 11 (.tmp 1)), .call none (some 12) 87 [.tmp 10, .tmp 11], .op none (.mv 9 (.tmp 12)), .op none (.extr 13 (.tmp 9) 0), .op none (.extr 14 (.tmp 9) 1), .op none (.extr 15 (.tmp 9) 2), .op none (.mv 6 (.tmp 13)), .op none (.mv 7 (.tmp 14)), .op none (.mv 8 (.tmp 15)), .keep [4, 6, 8]]) (.seq (.seq (.reg [.op none (.mv 16 (.tmp 8)), .op none (.bin 17 .neq (.tmp 16) (.const (.int .i64 0))), .keep [4, 6, 8, 17]]) (.cond (.tmp 17) (.seq (.reg [.op none (.build 18 [.int .u32 0, .int .u32 0, .slice none 0 0, .int .i64 0, .int .i64 0, .int .i64 0, .int .i64 0, .int .i64 0] []), .gh, .op none (.mv 19 (.tmp 8)), .op none (.store 8 (.tmp 4) (.tmp 18)), .op none (.mv 5 (.tmp 19)), .keep [4, 5]]) (.ret)) (.skip))) (.seq (.reg [.op none (.mv 20 (.tmp 6)), .call none (some 21) 89 [.tmp 20], .op none (.store 8 (.tmp 4) (.tmp 21)), .op none (.mv 5 (.const (.int .i64 0))), .keep [4, 5]]) (.ret))))
def r33 : List RV := [.cell 4 true 8, .tmp 5]
theorem k33 : compC Try.prog 22 c33 (Try.f33.body.getD .skip) = some c33.erase := by kernel_rfl
theorem q33 : rvsOf Try.prog Try.f33.results.toList = some r33 := by kernel_rfl
def impl_SubState.f (a0_0 : Int) (a0_1 : Int) (a0_2 : Int) (a0_3 : Int) (a0_4 : Int) (a0_5 : Int) (l1 : List S63) : Option (Int × Int × (List Int) × Int × Int × Int × Int × Int × Int) := (impl_subAfter.f a0_0 a0_1 a0_2 a0_3 a0_4 a0_5 l1 >>= fun t3 => (match t3.1 with | none => (if t3.2.2 ≠ 0 then (some (0, 0, ([] : List Int), 0, 0, 0, 0, 0, t3.2.2)) else none) | some p7 => (if t3.2.2 ≠ 0 then (some (0, 0, ([] : List Int), 0, 0, 0, 0, 0, t3.2.2)) else (impl_sender_view.f p7.1 p7.2.1 p7.2.2.1 p7.2.2.2.1 p7.2.2.2.2.1 p7.2.2.2.2.2.1 p7.2.2.2.2.2.2.1 p7.2.2.2.2.2.2.2.1 p7.2.2.2.2.2.2.2.2.1 p7.2.2.2.2.2.2.2.2.2.1 p7.2.2.2.2.2.2.2.2.2.2.1 p7.2.2.2.2.2.2.2.2.2.2.2.1 p7.2.2.2.2.2.2.2.2.2.2.2.2 >>= fun t21 => (some (t21.1, t21.2.1, t21.2.2.1, t21.2.2.2.1, t21.2.2.2.2.1, t21.2.2.2.2.2.1, t21.2.2.2.2.2.2.1, t21.2.2.2.2.2.2.2, 0))))))
set_option maxRecDepth 100000 in
set_option maxHeartbeats 4000000 in
theorem impl_SubState.tri (cs0 : List Cell) (o0 : Nat) (l1 : List S63) (hv0 : Vw c63 3 cs0 o0 l1) (a0_0 : Int) (a0_1 : Int) (a0_2 : Int) (a0_3 : Int) (a0_4 : Int) (a0_5 : Int) (r : Int × Int × (List Int) × Int × Int × Int × Int × Int × Int) (h : impl_SubState.f a0_0 a0_1 a0_2 a0_3 a0_4 a0_5 l1 = some r) : Tri Try.prog 33 [.g [.sc (.int .u32 a0_0), .sc (.int .i64 a0_1), .sc (.int .i64 a0_2), .sc (.int .i64 a0_3), .sc (.int .i64 a0_4), .sc (.int .i64 a0_5)], .c (.ref (.arg 0) [] o0 l1.length)] [(.arg 0, ⟨.fz, 3, cs0⟩)] (fun o => o = ⟨.tup [(true, [.sc (.int .u32 r.1), .sc (.int .u32 r.2.1), .ref (.res 0) [] 0 r.2.2.1.length, .sc (.int .i64 r.2.2.2.1), .sc (.int .i64 r.2.2.2.2.1), .sc (.int .i64 r.2.2.2.2.2.1), .sc (.int .i64 r.2.2.2.2.2.2.1), .sc (.int .i64 r.2.2.2.2.2.2.2.1)]), (false, [.sc (.int .i64 r.2.2.2.2.2.2.2.2)])], [(.arg 0, ⟨.fz, 3, cs0⟩), (.res 0, ⟨.lst, 1, encL c_i64 r.2.2.1⟩)], [], []⟩) := by
  refine tri_of_body (ac := c33) (xs := r33) Try.func33 (show Try.f33.body = some (Try.f33.body.getD .skip) from rfl) k33 q33 (Nat.le_of_ble_eq_true rfl) ?_
  refine body_of fun K hKn hKr => ?_
  unfold impl_SubState.f at h
  unfold c33
  simp only [initT, Nat.reduceAdd]
  refine seq_k fun J1 hJ1 => ?_
  refine reg_k ?_
  simp only [Nat.reduceEqDiff, Nat.reduceAdd, Nat.reduceMul, Nat.reduceLeDiff, Nat.reduceLT, Int.reduceLE, Int.reduceLT, Int.reduceGT, Int.reduceGE, Int.reduceEq, Int.reduceNe, Int.reduceToNat, reduceCtorEq, ak]
  refine gho_k (Weak.own (.tmp 4 0) (cs' := [.sc (.int .u32 0), .sc (.int .u32 0), .own 1 (([] : List Int).length) (encL c_i64 ([] : List Int)), .sc (.int .i64 0), .sc (.int .i64 0), .sc (.int .i64 0), .sc (.int .i64 0), .sc (.int .i64 0)]) rfl ⟨.inl rfl, .inl rfl, .inr ⟨rfl, _, rfl⟩, .inl rfl, .inl rfl, .inl rfl, .inl rfl, .inl rfl, trivial⟩) ?_
  simp only [Nat.reduceEqDiff, Nat.reduceAdd, Nat.reduceMul, Nat.reduceLeDiff, Nat.reduceLT, Int.reduceLE, Int.reduceLT, Int.reduceGT, Int.reduceGE, Int.reduceEq, Int.reduceNe, Int.reduceToNat, reduceCtorEq, ak]
  refine hJ1 _ ?_
  refine seq_k fun J2 hJ2 => ?_
  refine reg_k ?_
  simp only [Nat.reduceEqDiff, Nat.reduceAdd, Nat.reduceMul, Nat.reduceLeDiff, Nat.reduceLT, Int.reduceLE, Int.reduceLT, Int.reduceGT, Int.reduceGE, Int.reduceEq, Int.reduceNe, Int.reduceToNat, reduceCtorEq, ak]
  obtain ⟨t3, h4, h⟩ := of_bind h
  rcases hpo : t3.1 with _ | p7
  · have hpp5 := hpo
    rw [hpo] at h; dsimp only at h
    refine call_m [(.arg 0, ⟨(.arg 0), [], none, .fz⟩)] (s0 := [(.arg 0, ⟨.fz, 3, cs0⟩)]) (by intro t ht; cases ht; decide) rfl rfl (by first | rfl | simp only [reduceCtorEq, Nat.reduceEqDiff, ak, akF]) (impl_subAfter.tri0 (cs0) o0 l1 hv0 a0_0 a0_1 a0_2 a0_3 a0_4 a0_5 _ h4 hpp5) (by first | rfl | simp only [reduceCtorEq, Nat.reduceEqDiff, ak, akF]) (by simp [bkOk2, memK]) (fun hl5 => ?_)
    refine call_st (s4 := [(.arg 0, ⟨.fz, 3, cs0⟩), (.tmp 2 0, ⟨.box, 0, [.sc (.int .u32 a0_0), .sc (.int .i64 a0_1), .sc (.int .i64 a0_2), .sc (.int .i64 a0_3), .sc (.int .i64 a0_4), .sc (.int .i64 a0_5)]⟩), (.tmp 4 0, ⟨.box, 0, [.sc (.int .u32 0), .sc (.int .u32 0), .own 1 (([] : List Int).length) (encL c_i64 ([] : List Int)), .sc (.int .i64 0), .sc (.int .i64 0), .sc (.int .i64 0), .sc (.int .i64 0), .sc (.int .i64 0)]⟩), (.tmp 12 0, ⟨.lst, 5, encL c66 t3.2.1⟩)]) (m1' := []) (m2' := []) (v' := .tup [(false, [.sc (.pointer none)]), (false, [.ref (.tmp 12 0) [] 0 t3.2.1.length]), (false, [.sc (.int .i64 t3.2.2)])]) (Sto.mapN_killNil _ _) (mrgL_fz (mrgL_nil' _ _ _) rfl (by first | rfl | simp only [reduceCtorEq, Nat.reduceEqDiff, ak]) rfl (by intro R hR hh; cases hR; cases hh.2)) (by rfl) (mapT_killNil _ _) (by rfl) (by rfl) (by first | rfl | simp only [reduceCtorEq, Nat.reduceEqDiff, ak, akF, Nat.zero_add, List.append_nil]) ?_
    simp only [Nat.reduceEqDiff, Nat.reduceAdd, Nat.reduceMul, Nat.reduceLeDiff, Nat.reduceLT, Int.reduceLE, Int.reduceLT, Int.reduceGT, Int.reduceGE, Int.reduceEq, Int.reduceNe, Int.reduceToNat, reduceCtorEq, ak]
    refine hJ2 _ ?_
    refine seq_k fun J9 hJ9 => ?_
    refine seq_k fun J10 hJ10 => ?_
    refine reg_k ?_
    simp only [Nat.reduceEqDiff, Nat.reduceAdd, Nat.reduceMul, Nat.reduceLeDiff, Nat.reduceLT, Int.reduceLE, Int.reduceLT, Int.reduceGT, Int.reduceGE, Int.reduceEq, Int.reduceNe, Int.reduceToNat, reduceCtorEq, ak]
    refine hJ10 _ ?_
    refine cond_k (b := decide (t3.2.2 ≠ 0)) rfl (fun c11 => ?_) (fun c11 => ?_)
    · replace c11 := of_decide_eq_true c11; rw [if_pos c11] at h
      refine seq_k fun J12 hJ12 => ?_
      refine reg_k ?_
      simp only [Nat.reduceEqDiff, Nat.reduceAdd, Nat.reduceMul, Nat.reduceLeDiff, Nat.reduceLT, Int.reduceLE, Int.reduceLT, Int.reduceGT, Int.reduceGE, Int.reduceEq, Int.reduceNe, Int.reduceToNat, reduceCtorEq, ak]
      refine gho_k (Weak.nmg' 18 2 (.tmp 18 22) 1 (encL c_i64 ([] : List Int)) rfl rfl rfl rfl) ?_
      have g13 : (encL c_i64 ([] : List Int)).length = 0 * 1 := by simp [encL_length c_i64_w]
      simp only [Nat.reduceEqDiff, Nat.reduceAdd, Nat.reduceMul, Nat.reduceLeDiff, Nat.reduceLT, Int.reduceLE, Int.reduceLT, Int.reduceGT, Int.reduceGE, Int.reduceEq, Int.reduceNe, Int.reduceToNat, reduceCtorEq, ak, g13]
      refine hJ12 _ ?_
      obtain rfl := Option.some.inj h
      refine hKr _ ⟨_, rfl, [⟨(.tmp 4 0), [2], none, .lst⟩], _, rfl, rfl, ?_⟩
      first | rfl | (simp only [reduceCtorEq, Nat.reduceEqDiff, ak, akF]; done) | (simp [reduceCtorEq, Nat.reduceEqDiff, ak, akF]; done)
    · replace c11 := of_decide_eq_false c11; rw [if_neg c11] at h
      refine hJ9 _ ?_
      refine seq_k fun J14 hJ14 => ?_
      refine reg_k ?_
      simp only [Nat.reduceEqDiff, Nat.reduceAdd, Nat.reduceMul, Nat.reduceLeDiff, Nat.reduceLT, Int.reduceLE, Int.reduceLT, Int.reduceGT, Int.reduceGE, Int.reduceEq, Int.reduceNe, Int.reduceToNat, reduceCtorEq, ak]
      cases h
  · have hpp7 := hpo
    rw [hpo] at h; dsimp only at h
    refine call_m [(.arg 0, ⟨(.arg 0), [], none, .fz⟩)] (s0 := [(.arg 0, ⟨.fz, 3, cs0⟩)]) (by intro t ht; cases ht; decide) rfl rfl (by first | rfl | simp only [reduceCtorEq, Nat.reduceEqDiff, ak, akF]) (impl_subAfter.tri1 (cs0) o0 l1 hv0 a0_0 a0_1 a0_2 a0_3 a0_4 a0_5 _ h4 _ hpp7) (by first | rfl | simp only [reduceCtorEq, Nat.reduceEqDiff, ak, akF]) (by simp [bkOk2, memK]) (fun hl7 => ?_)
    refine call_st (s4 := [(.arg 0, ⟨.fz, 3, cs0⟩), (.tmp 2 0, ⟨.box, 0, [.sc (.int .u32 a0_0), .sc (.int .i64 a0_1), .sc (.int .i64 a0_2), .sc (.int .i64 a0_3), .sc (.int .i64 a0_4), .sc (.int .i64 a0_5)]⟩), (.tmp 4 0, ⟨.box, 0, [.sc (.int .u32 0), .sc (.int .u32 0), .own 1 (([] : List Int).length) (encL c_i64 ([] : List Int)), .sc (.int .i64 0), .sc (.int .i64 0), .sc (.int .i64 0), .sc (.int .i64 0), .sc (.int .i64 0)]⟩), (.tmp 12 1, ⟨.lst, 5, encL c66 t3.2.1⟩), (.tmp 12 0, ⟨.box, 0, [.sc (.int .u32 p7.1), .sc (.int .i64 p7.2.1), .sc (.int .i64 p7.2.2.1), .sc (.int .i64 p7.2.2.2.1), .sc (.int .i64 p7.2.2.2.2.1), .sc (.int .i64 p7.2.2.2.2.2.1), .sc (.int .u32 p7.2.2.2.2.2.2.1), .own 1 p7.2.2.2.2.2.2.2.1.length (encL c_i64 p7.2.2.2.2.2.2.2.1), .sc (.int .i64 p7.2.2.2.2.2.2.2.2.1), .sc (.int .i64 p7.2.2.2.2.2.2.2.2.2.1), .sc (.int .i64 p7.2.2.2.2.2.2.2.2.2.2.1), .sc (.int .i64 p7.2.2.2.2.2.2.2.2.2.2.2.1), .sc (.bool p7.2.2.2.2.2.2.2.2.2.2.2.2)]⟩)]) (m1' := []) (m2' := []) (v' := .tup [(false, [.ptr (.tmp 12 0) [] 0]), (false, [.ref (.tmp 12 1) [] 0 t3.2.1.length]), (false, [.sc (.int .i64 t3.2.2)])]) (Sto.mapN_killNil _ _) (mrgL_fz (mrgL_nil' _ _ _) rfl (by first | rfl | simp only [reduceCtorEq, Nat.reduceEqDiff, ak]) rfl (by intro R hR hh; cases hR; cases hh.2)) (by rfl) (mapT_killNil _ _) (by rfl) (by rfl) (by first | rfl | simp only [reduceCtorEq, Nat.reduceEqDiff, ak, akF, Nat.zero_add, List.append_nil]) ?_
    simp only [Nat.reduceEqDiff, Nat.reduceAdd, Nat.reduceMul, Nat.reduceLeDiff, Nat.reduceLT, Int.reduceLE, Int.reduceLT, Int.reduceGT, Int.reduceGE, Int.reduceEq, Int.reduceNe, Int.reduceToNat, reduceCtorEq, ak]
    refine hJ2 _ ?_
    refine seq_k fun J15 hJ15 => ?_
    refine seq_k fun J16 hJ16 => ?_
    refine reg_k ?_
    simp only [Nat.reduceEqDiff, Nat.reduceAdd, Nat.reduceMul, Nat.reduceLeDiff, Nat.reduceLT, Int.reduceLE, Int.reduceLT, Int.reduceGT, Int.reduceGE, Int.reduceEq, Int.reduceNe, Int.reduceToNat, reduceCtorEq, ak]
    refine hJ16 _ ?_
    refine cond_k (b := decide (t3.2.2 ≠ 0)) rfl (fun c17 => ?_) (fun c17 => ?_)
    · replace c17 := of_decide_eq_true c17; rw [if_pos c17] at h
      refine seq_k fun J18 hJ18 => ?_
      refine reg_k ?_
      simp only [Nat.reduceEqDiff, Nat.reduceAdd, Nat.reduceMul, Nat.reduceLeDiff, Nat.reduceLT, Int.reduceLE, Int.reduceLT, Int.reduceGT, Int.reduceGE, Int.reduceEq, Int.reduceNe, Int.reduceToNat, reduceCtorEq, ak]
      refine gho_k (Weak.nmg' 18 2 (.tmp 18 22) 1 (encL c_i64 ([] : List Int)) rfl rfl rfl rfl) ?_
      have g19 : (encL c_i64 ([] : List Int)).length = 0 * 1 := by simp [encL_length c_i64_w]
      simp only [Nat.reduceEqDiff, Nat.reduceAdd, Nat.reduceMul, Nat.reduceLeDiff, Nat.reduceLT, Int.reduceLE, Int.reduceLT, Int.reduceGT, Int.reduceGE, Int.reduceEq, Int.reduceNe, Int.reduceToNat, reduceCtorEq, ak, g19]
      refine hJ18 _ ?_
      obtain rfl := Option.some.inj h
      refine hKr _ ⟨_, rfl, [⟨(.tmp 4 0), [2], none, .lst⟩], _, rfl, rfl, ?_⟩
      first | rfl | (simp only [reduceCtorEq, Nat.reduceEqDiff, ak, akF]; done) | (simp [reduceCtorEq, Nat.reduceEqDiff, ak, akF]; done)
    · replace c17 := of_decide_eq_false c17; rw [if_neg c17] at h
      refine hJ15 _ ?_
      refine seq_k fun J20 hJ20 => ?_
      refine reg_k ?_
      simp only [Nat.reduceEqDiff, Nat.reduceAdd, Nat.reduceMul, Nat.reduceLeDiff, Nat.reduceLT, Int.reduceLE, Int.reduceLT, Int.reduceGT, Int.reduceGE, Int.reduceEq, Int.reduceNe, Int.reduceToNat, reduceCtorEq, ak]
      obtain ⟨t21, h22, h⟩ := of_bind h
      refine call_m [(.arg 0, ⟨(.tmp 12 0), [], none, .box⟩)] (s0 := [(.arg 0, ⟨.box, 0, [.sc (.int .u32 p7.1), .sc (.int .i64 p7.2.1), .sc (.int .i64 p7.2.2.1), .sc (.int .i64 p7.2.2.2.1), .sc (.int .i64 p7.2.2.2.2.1), .sc (.int .i64 p7.2.2.2.2.2.1), .sc (.int .u32 p7.2.2.2.2.2.2.1), .own 1 p7.2.2.2.2.2.2.2.1.length (encL c_i64 p7.2.2.2.2.2.2.2.1), .sc (.int .i64 p7.2.2.2.2.2.2.2.2.1), .sc (.int .i64 p7.2.2.2.2.2.2.2.2.2.1), .sc (.int .i64 p7.2.2.2.2.2.2.2.2.2.2.1), .sc (.int .i64 p7.2.2.2.2.2.2.2.2.2.2.2.1), .sc (.bool p7.2.2.2.2.2.2.2.2.2.2.2.2)]⟩)]) (by intro t ht; cases ht; decide) rfl rfl (by first | rfl | simp only [reduceCtorEq, Nat.reduceEqDiff, ak, akF]) (impl_sender_view.tri p7.1 p7.2.1 p7.2.2.1 p7.2.2.2.1 p7.2.2.2.2.1 p7.2.2.2.2.2.1 p7.2.2.2.2.2.2.1 p7.2.2.2.2.2.2.2.1 p7.2.2.2.2.2.2.2.2.1 p7.2.2.2.2.2.2.2.2.2.1 p7.2.2.2.2.2.2.2.2.2.2.1 p7.2.2.2.2.2.2.2.2.2.2.2.1 p7.2.2.2.2.2.2.2.2.2.2.2.2 _ h22) (by first | rfl | simp only [reduceCtorEq, Nat.reduceEqDiff, ak, akF]) (by simp [bkOk2, memK]) (fun hl22 => ?_)
      refine call_st (s4 := [(.arg 0, ⟨.fz, 3, cs0⟩), (.tmp 2 0, ⟨.box, 0, [.sc (.int .u32 a0_0), .sc (.int .i64 a0_1), .sc (.int .i64 a0_2), .sc (.int .i64 a0_3), .sc (.int .i64 a0_4), .sc (.int .i64 a0_5)]⟩), (.tmp 4 0, ⟨.box, 0, [.sc (.int .u32 0), .sc (.int .u32 0), .own 1 (([] : List Int).length) (encL c_i64 ([] : List Int)), .sc (.int .i64 0), .sc (.int .i64 0), .sc (.int .i64 0), .sc (.int .i64 0), .sc (.int .i64 0)]⟩), (.tmp 12 1, ⟨.lst, 5, encL c66 t3.2.1⟩), (.tmp 12 0, ⟨.box, 0, [.sc (.int .u32 p7.1), .sc (.int .i64 p7.2.1), .sc (.int .i64 p7.2.2.1), .sc (.int .i64 p7.2.2.2.1), .sc (.int .i64 p7.2.2.2.2.1), .sc (.int .i64 p7.2.2.2.2.2.1), .sc (.int .u32 p7.2.2.2.2.2.2.1), .own 1 p7.2.2.2.2.2.2.2.1.length (encL c_i64 p7.2.2.2.2.2.2.2.1), .sc (.int .i64 p7.2.2.2.2.2.2.2.2.1), .sc (.int .i64 p7.2.2.2.2.2.2.2.2.2.1), .sc (.int .i64 p7.2.2.2.2.2.2.2.2.2.2.1), .sc (.int .i64 p7.2.2.2.2.2.2.2.2.2.2.2.1), .sc (.bool p7.2.2.2.2.2.2.2.2.2.2.2.2)]⟩), (.tmp 21 0, ⟨.lst, 1, encL c_i64 t21.2.2.1⟩)]) (m1' := []) (m2' := []) (v' := .g [.sc (.int .u32 t21.1), .sc (.int .u32 t21.2.1), .ref (.tmp 21 0) [] 0 t21.2.2.1.length, .sc (.int .i64 t21.2.2.2.1), .sc (.int .i64 t21.2.2.2.2.1), .sc (.int .i64 t21.2.2.2.2.2.1), .sc (.int .i64 t21.2.2.2.2.2.2.1), .sc (.int .i64 t21.2.2.2.2.2.2.2)]) (Sto.mapN_killNil _ _) (mrgL_whole (new' := [.sc (.int .u32 p7.1), .sc (.int .i64 p7.2.1), .sc (.int .i64 p7.2.2.1), .sc (.int .i64 p7.2.2.2.1), .sc (.int .i64 p7.2.2.2.2.1), .sc (.int .i64 p7.2.2.2.2.2.1), .sc (.int .u32 p7.2.2.2.2.2.2.1), .own 1 p7.2.2.2.2.2.2.2.1.length (encL c_i64 p7.2.2.2.2.2.2.2.1), .sc (.int .i64 p7.2.2.2.2.2.2.2.2.1), .sc (.int .i64 p7.2.2.2.2.2.2.2.2.2.1), .sc (.int .i64 p7.2.2.2.2.2.2.2.2.2.2.1), .sc (.int .i64 p7.2.2.2.2.2.2.2.2.2.2.2.1), .sc (.bool p7.2.2.2.2.2.2.2.2.2.2.2.2)]) (mrgL_nil' _ _ _) rfl (by rfl) (.inl ⟨rfl, by first | rfl | simp only [reduceCtorEq, Nat.reduceEqDiff, ak, akF, Nat.zero_add, List.append_nil]⟩)) (by rfl) (mapT_killNil _ _) (by rfl) (by rfl) (by first | rfl | simp only [reduceCtorEq, Nat.reduceEqDiff, ak, akF, Nat.zero_add, List.append_nil]) ?_
      have g24 : (encL c_i64 t21.2.2.1).length = t21.2.2.1.length * 1 := by simp [encL_length c_i64_w]
      simp only [Nat.reduceEqDiff, Nat.reduceAdd, Nat.reduceMul, Nat.reduceLeDiff, Nat.reduceLT, Int.reduceLE, Int.reduceLT, Int.reduceGT, Int.reduceGE, Int.reduceEq, Int.reduceNe, Int.reduceToNat, reduceCtorEq, ak, g24]
      refine hJ20 _ ?_
      obtain rfl := Option.some.inj h
      refine hKr _ ⟨_, rfl, [⟨(.tmp 4 0), [2], none, .lst⟩], _, rfl, rfl, ?_⟩
      first | rfl | (simp only [reduceCtorEq, Nat.reduceEqDiff, ak, akF]; done) | (simp [reduceCtorEq, Nat.reduceEqDiff, ak, akF]; done)
/-! ### laws.eqInt64S: function 98 -/
def c98_l0 : AC := .seq (.seq (.reg [.op none (.mv 11 (.tmp 5)), .op none (.mv 12 (.tmp 0)), .op none (.len 13 (.tmp 12)), .op none (.bin 14 .lss (.tmp 11) (.tmp 13)), .keep [0, 1, 5, 14]]) (.cond (.tmp 14) (.skip) (.gh (.exit 0)))) (.seq (.block 1 (.seq (.regD (.first (.op none (.mv 17 (.tmp 0))) (.first (.op none (.mv 18 (.tmp 5))) (.first (.op none (.iaddr 19 1 (.tmp 17) (.tmp 18))) (.first (.op none (.load 20 false 1 (.tmp 19))) (.first (.op none (.mv 21 (.tmp 1))) (.first (.op none (.mv 22 (.tmp 5))) (.first (.op none (.iaddr 23 1 (.tmp 21) (.tmp 22))) (.first (.op none (.load 24 false 1 (.tmp 23))) (.first (.op none (.bin 25 .neq (.tmp 20) (.tmp 24))) (.done)))))))))) [0, 1, 5, 25]) (.cond (.tmp 25) (.seq (.reg [.op none (.mv 4 (.const (.bool false))), .keep [4]]) (.gh .ret)) (.skip)))) (.reg [.op none (.mv 15 (.tmp 5)), .op none (.bin 16 .add (.tmp 15) (.const (.int .i64 1))), .op none (.mv 5 (.tmp 16)), .keep [0, 1, 5]]))
def c98 : AC := .seq (.reg [.op none (.mv 4 (.const (.bool false))), .keep [0, 1]]) (.seq (.seq (.reg [.op none (.mv 6 (.tmp 0)), .op none (.len 7 (.tmp 6)), .op none (.mv 8 (.tmp 1)), .op none (.len 9 (.tmp 8)), .op none (.bin 10 .neq (.tmp 7) (.tmp 9)), .keep [0, 1, 10]]) (.cond (.tmp 10) (.seq (.reg [.op none (.mv 4 (.const (.bool false))), .keep [4]]) (.ret)) (.skip))) (.seq (.seq (.reg [.op none (.mv 5 (.const (.int .i64 0))), .keep [0, 1, 5]]) (.block 0 (.gh (.loop (.ga c98_l0))))) (.seq (.reg [.op none (.mv 4 (.const (.bool true))), .keep [4]]) (.ret))))
def r98 : List RV := [.tmp 4]
theorem k98 : compC Try.prog 26 c98 (Try.f98.body.getD .skip) = some c98.erase := by kernel_rfl
theorem q98 : rvsOf Try.prog Try.f98.results.toList = some r98 := by kernel_rfl
def laws_eqInt64S.l0 (l0 : List Int) (l1 : List Int) (x0_0 : Int) : Option (Lp Unit Bool) := (if x0_0 < (l0.length : Int) then (if 0 ≤ x0_0 ∧ x0_0 < (l0.length : Int) then (if 0 ≤ x0_0 ∧ x0_0 < (l1.length : Int) then (if (rd 0 l0 x0_0) ≠ (rd 0 l1 x0_0) then (some (.b false)) else (laws_eqInt64S.l0 l0 l1 (IntKind.i64.wrap (x0_0 + 1)))) else none) else none) else (some (.a ())))
  partial_fixpoint
def laws_eqInt64S.f (l0 : List Int) (l1 : List Int) : Option Bool := (if (l0.length : Int) ≠ (l1.length : Int) then (some false) else (laws_eqInt64S.l0 l0 l1 0 >>= fun (y21 : Lp Unit Bool) => match y21 with | .a x23 => (some true) | .b x23 => (some x23)))
set_option maxRecDepth 100000 in
set_option maxHeartbeats 4000000 in
theorem laws_eqInt64S.l0_walk (cs0 : List Cell) (o0 : Nat) (l0 : List Int) (hv0 : Vw c_i64 1 cs0 o0 l0) (cs1 : List Cell) (o1 : Nat) (l1 : List Int) (hv1 : Vw c_i64 1 cs1 o1 l1) (x0_0 : Int) (y : Lp Unit Bool) (h : laws_eqInt64S.l0 l0 l1 x0_0 = some y) (K : AE → St → Prop) (hx0 : ∀ x, y = .a x → K (.exit 0) ⟨[], [(.arg 0, ⟨.fz, 1, cs0⟩), (.arg 1, ⟨.fz, 1, cs1⟩)], [], []⟩) (hx1 : ∀ x, y = .b x → K .ret ⟨[(4, .c (.sc (.bool x)))], [(.arg 0, ⟨.fz, 1, cs0⟩), (.arg 1, ⟨.fz, 1, cs1⟩)], [], []⟩) : loopS Try.prog 26 (.ga c98_l0) K ⟨[(0, .c (.ref (.arg 0) [] o0 l0.length)), (1, .c (.ref (.arg 1) [] o1 l1.length)), (5, .c (.sc (.int .i64 x0_0)))], [(.arg 0, ⟨.fz, 1, cs0⟩), (.arg 1, ⟨.fz, 1, cs1⟩)], [], []⟩ := by
  refine laws_eqInt64S.l0.partial_correctness l0 l1 (motive := fun x0_0 y => ∀ (K : AE → St → Prop), (∀ x, y = .a x → K (.exit 0) ⟨[], [(.arg 0, ⟨.fz, 1, cs0⟩), (.arg 1, ⟨.fz, 1, cs1⟩)], [], []⟩) → (∀ x, y = .b x → K .ret ⟨[(4, .c (.sc (.bool x)))], [(.arg 0, ⟨.fz, 1, cs0⟩), (.arg 1, ⟨.fz, 1, cs1⟩)], [], []⟩) → loopS Try.prog 26 (.ga c98_l0) K ⟨[(0, .c (.ref (.arg 0) [] o0 l0.length)), (1, .c (.ref (.arg 1) [] o1 l1.length)), (5, .c (.sc (.int .i64 x0_0)))], [(.arg 0, ⟨.fz, 1, cs0⟩), (.arg 1, ⟨.fz, 1, cs1⟩)], [], []⟩) ?_ x0_0 y h K hx0 hx1
  clear h hx0 hx1
  intro rec ih x0_0 y h K hx0 hx1
  refine loop_unroll (ga_k fun G0 G0n G0r G0x => ?_)
  unfold c98_l0
  refine seq_k fun J9 hJ9 => ?_
  refine seq_k fun J10 hJ10 => ?_
  refine reg_k ?_
  simp only [Nat.reduceEqDiff, Nat.reduceAdd, Nat.reduceMul, Nat.reduceLeDiff, Nat.reduceLT, Int.reduceLE, Int.reduceLT, Int.reduceGT, Int.reduceGE, Int.reduceEq, Int.reduceNe, Int.reduceToNat, reduceCtorEq, ak]
  refine hJ10 _ ?_
  refine cond_k (b := decide (x0_0 < (l0.length : Int))) rfl (fun c11 => ?_) (fun c11 => ?_)
  · replace c11 := of_decide_eq_true c11; rw [if_pos c11] at h
    refine hJ9 _ ?_
    refine seq_k fun J12 hJ12 => ?_
    refine block_k fun B13 B13n B13x B13r B13j => ?_
    refine seq_k fun J14 hJ14 => ?_
    refine regD_k ?_
    obtain ⟨b15, h⟩ := of_guard h
    have g16 : (cs0)[o0 + x0_0.toNat * 1]? = some (.sc (.int .i64 (rd 0 l0 x0_0))) := hv0.get 0 0 b15.1 b15.2 (by decide)
    obtain ⟨b17, h⟩ := of_guard h
    have g18 : (cs1)[o1 + x0_0.toNat * 1]? = some (.sc (.int .i64 (rd 0 l1 x0_0))) := hv1.get 0 0 b17.1 b17.2 (by decide)
    simp only [Nat.reduceBEq, Nat.reduceEqDiff, Nat.reduceAdd, Nat.reduceMul, Nat.reduceLeDiff, Nat.reduceLT, Int.reduceLE, Int.reduceLT, Int.reduceGT, Int.reduceGE, Int.reduceEq, Int.reduceNe, Int.reduceToNat, reduceCtorEq, ak, b15, g16, b17, g18]
    refine hJ14 _ ?_
    refine cond_k (b := decide ((rd 0 l0 x0_0) ≠ (rd 0 l1 x0_0))) rfl (fun c19 => ?_) (fun c19 => ?_)
    · replace c19 := of_decide_eq_true c19; rw [if_pos c19] at h
      refine seq_k fun J20 hJ20 => ?_
      refine reg_k ?_
      simp only [Nat.reduceEqDiff, Nat.reduceAdd, Nat.reduceMul, Nat.reduceLeDiff, Nat.reduceLT, Int.reduceLE, Int.reduceLT, Int.reduceGT, Int.reduceGE, Int.reduceEq, Int.reduceNe, Int.reduceToNat, reduceCtorEq, ak]
      refine hJ20 _ ?_
      obtain rfl := Option.some.inj h
      refine gh_k (st' := ⟨[(4, .c (.sc (.bool false)))], [(.arg 0, ⟨.fz, 1, cs0⟩), (.arg 1, ⟨.fz, 1, cs1⟩)], [], []⟩) (((Weak.keep [4]).trans ((Weak.foc [(.arg 0, ⟨(.arg 0), [], none, .fz⟩), (.arg 1, ⟨(.arg 1), [], none, .fz⟩)] rfl (by first | rfl | simp only [reduceCtorEq, Nat.reduceEqDiff, ak, akF, b15, b17]) (by simp [argK, akG, ak])).trans (Weak.of_eq (by first | rfl | (simp only [reduceCtorEq, Nat.reduceEqDiff, ak, akF, b15, b17]; done) | (simp [reduceCtorEq, Nat.reduceEqDiff, ak, akF, b15, b17]; done)))))) ?_
      refine B13r _ ?_
      refine G0r _ ?_
      exact hx1 _ rfl
    · replace c19 := of_decide_eq_false c19; rw [if_neg c19] at h
      refine B13n _ ?_
      refine hJ12 _ ?_
      refine reg_k ?_
      simp only [Nat.reduceEqDiff, Nat.reduceAdd, Nat.reduceMul, Nat.reduceLeDiff, Nat.reduceLT, Int.reduceLE, Int.reduceLT, Int.reduceGT, Int.reduceGE, Int.reduceEq, Int.reduceNe, Int.reduceToNat, reduceCtorEq, ak]
      refine G0n _ (⟨[(0, .c (.ref (.arg 0) [] o0 l0.length)), (1, .c (.ref (.arg 1) [] o1 l1.length)), (5, .c (.sc (.int .i64 (IntKind.i64.wrap (x0_0 + 1)))))], [(.arg 0, ⟨.fz, 1, cs0⟩), (.arg 1, ⟨.fz, 1, cs1⟩)], [], []⟩) (((Weak.keep [0, 1, 5]).trans ((Weak.foc [(.arg 0, ⟨(.arg 0), [], none, .fz⟩), (.arg 1, ⟨(.arg 1), [], none, .fz⟩)] rfl (by first | rfl | simp only [reduceCtorEq, Nat.reduceEqDiff, ak, akF, b15, b17]) (by simp [argK, akG, ak])).trans (Weak.of_eq (by first | rfl | (simp only [reduceCtorEq, Nat.reduceEqDiff, ak, akF, b15, b17]; done) | (simp [reduceCtorEq, Nat.reduceEqDiff, ak, akF, b15, b17]; done)))))) (ih _ _ h K hx0 hx1)
  · replace c11 := of_decide_eq_false c11; rw [if_neg c11] at h
    obtain rfl := Option.some.inj h
    refine gh_k (st' := ⟨[], [(.arg 0, ⟨.fz, 1, cs0⟩), (.arg 1, ⟨.fz, 1, cs1⟩)], [], []⟩) (((Weak.keep []).trans ((Weak.foc [(.arg 0, ⟨(.arg 0), [], none, .fz⟩), (.arg 1, ⟨(.arg 1), [], none, .fz⟩)] rfl (by first | rfl | simp only [reduceCtorEq, Nat.reduceEqDiff, ak, akF]) (by simp [argK, akG, ak])).trans (Weak.of_eq (by first | rfl | (simp only [reduceCtorEq, Nat.reduceEqDiff, ak, akF]; done) | (simp [reduceCtorEq, Nat.reduceEqDiff, ak, akF]; done)))))) ?_
    refine G0x _ _ ?_
    exact hx0 _ rfl
set_option maxRecDepth 100000 in
set_option maxHeartbeats 4000000 in
theorem laws_eqInt64S.tri (cs0 : List Cell) (o0 : Nat) (l0 : List Int) (hv0 : Vw c_i64 1 cs0 o0 l0) (cs1 : List Cell) (o1 : Nat) (l1 : List Int) (hv1 : Vw c_i64 1 cs1 o1 l1) (r : Bool) (h : laws_eqInt64S.f l0 l1 = some r) : Tri Try.prog 98 [.c (.ref (.arg 0) [] o0 l0.length), .c (.ref (.arg 1) [] o1 l1.length)] [(.arg 0, ⟨.fz, 1, cs0⟩), (.arg 1, ⟨.fz, 1, cs1⟩)] (fun o => o = ⟨.c (.sc (.bool r)), [(.arg 0, ⟨.fz, 1, cs0⟩), (.arg 1, ⟨.fz, 1, cs1⟩)], [], []⟩) := by
  refine tri_of_body (ac := c98) (xs := r98) Try.func98 (show Try.f98.body = some (Try.f98.body.getD .skip) from rfl) k98 q98 (Nat.le_of_ble_eq_true rfl) ?_
  refine body_of fun K hKn hKr => ?_
  unfold laws_eqInt64S.f at h
  unfold c98
  simp only [initT, Nat.reduceAdd]
  refine seq_k fun J1 hJ1 => ?_
  refine reg_k ?_
  simp only [Nat.reduceEqDiff, Nat.reduceAdd, Nat.reduceMul, Nat.reduceLeDiff, Nat.reduceLT, Int.reduceLE, Int.reduceLT, Int.reduceGT, Int.reduceGE, Int.reduceEq, Int.reduceNe, Int.reduceToNat, reduceCtorEq, ak]
  refine hJ1 _ ?_
  refine seq_k fun J2 hJ2 => ?_
  refine seq_k fun J3 hJ3 => ?_
  refine reg_k ?_
  simp only [Nat.reduceEqDiff, Nat.reduceAdd, Nat.reduceMul, Nat.reduceLeDiff, Nat.reduceLT, Int.reduceLE, Int.reduceLT, Int.reduceGT, Int.reduceGE, Int.reduceEq, Int.reduceNe, Int.reduceToNat, reduceCtorEq, ak]
  refine hJ3 _ ?_
  refine cond_k (b := decide ((l0.length : Int) ≠ (l1.length : Int))) rfl (fun c4 => ?_) (fun c4 => ?_)
  · replace c4 := of_decide_eq_true c4; rw [if_pos c4] at h
    refine seq_k fun J5 hJ5 => ?_
    refine reg_k ?_
    simp only [Nat.reduceEqDiff, Nat.reduceAdd, Nat.reduceMul, Nat.reduceLeDiff, Nat.reduceLT, Int.reduceLE, Int.reduceLT, Int.reduceGT, Int.reduceGE, Int.reduceEq, Int.reduceNe, Int.reduceToNat, reduceCtorEq, ak]
    refine hJ5 _ ?_
    obtain rfl := Option.some.inj h
    refine hKr _ ⟨_, rfl, [], _, rfl, rfl, ?_⟩
    first | rfl | (simp only [reduceCtorEq, Nat.reduceEqDiff, ak, akF]; done) | (simp [reduceCtorEq, Nat.reduceEqDiff, ak, akF]; done)
  · replace c4 := of_decide_eq_false c4; rw [if_neg c4] at h
    refine hJ2 _ ?_
    refine seq_k fun J6 hJ6 => ?_
    refine seq_k fun J7 hJ7 => ?_
    refine reg_k ?_
    simp only [Nat.reduceEqDiff, Nat.reduceAdd, Nat.reduceMul, Nat.reduceLeDiff, Nat.reduceLT, Int.reduceLE, Int.reduceLT, Int.reduceGT, Int.reduceGE, Int.reduceEq, Int.reduceNe, Int.reduceToNat, reduceCtorEq, ak]
    refine hJ7 _ ?_
    refine block_k fun B8 B8n B8x B8r B8j => ?_
    obtain ⟨y21, h22, h⟩ := of_bind h
    refine gh_k (st' := ⟨[(0, .c (.ref (.arg 0) [] o0 l0.length)), (1, .c (.ref (.arg 1) [] o1 l1.length)), (5, .c (.sc (.int .i64 0)))], [(.arg 0, ⟨.fz, 1, cs0⟩), (.arg 1, ⟨.fz, 1, cs1⟩)], [], []⟩) (((Weak.keep [0, 1, 5]).trans ((Weak.foc [(.arg 0, ⟨(.arg 0), [], none, .fz⟩), (.arg 1, ⟨(.arg 1), [], none, .fz⟩)] rfl (by first | rfl | simp only [reduceCtorEq, Nat.reduceEqDiff, ak, akF]) (by simp [argK, akG, ak])).trans (Weak.of_eq (by first | rfl | (simp only [reduceCtorEq, Nat.reduceEqDiff, ak, akF]; done) | (simp [reduceCtorEq, Nat.reduceEqDiff, ak, akF]; done)))))) ?_
    rw [e_loop]
    refine laws_eqInt64S.l0_walk cs0 o0 l0 hv0 cs1 o1 l1 hv1 0 _ h22 _ ?_ ?_
    · rintro x23 rfl
      dsimp only at h
      refine B8x _ ?_
      refine hJ6 _ ?_
      refine seq_k fun J24 hJ24 => ?_
      refine reg_k ?_
      simp only [Nat.reduceEqDiff, Nat.reduceAdd, Nat.reduceMul, Nat.reduceLeDiff, Nat.reduceLT, Int.reduceLE, Int.reduceLT, Int.reduceGT, Int.reduceGE, Int.reduceEq, Int.reduceNe, Int.reduceToNat, reduceCtorEq, ak]
      refine hJ24 _ ?_
      obtain rfl := Option.some.inj h
      refine hKr _ ⟨_, rfl, [], _, rfl, rfl, ?_⟩
      first | rfl | (simp only [reduceCtorEq, Nat.reduceEqDiff, ak, akF]; done) | (simp [reduceCtorEq, Nat.reduceEqDiff, ak, akF]; done)
    · rintro x23 rfl
      dsimp only at h
      refine B8r _ ?_
      obtain rfl := Option.some.inj h
      refine hKr _ ⟨_, rfl, [], _, rfl, rfl, ?_⟩
      first | rfl | (simp only [reduceCtorEq, Nat.reduceEqDiff, ak, akF]; done) | (simp [reduceCtorEq, Nat.reduceEqDiff, ak, akF]; done)
/-! ### laws.eqSubView: function 44 -/
def c44 : AC := .seq (.reg [.op none (.box 2 (.tmp 0)), .op none (.box 3 (.tmp 1)), .op none (.mv 4 (.const (.bool false))), .keep [2, 3]]) (.seq (.seq (.reg [.op none (.faddr 5 0 (.tmp 2)), .op none (.load 6 false 1 (.tmp 5)), .op none (.faddr 7 0 (.tmp 3)), .op none (.load 8 false 1 (.tmp 7)), .op none (.bin 9 .neq (.tmp 6) (.tmp 8)), .keep [2, 3, 9]]) (.cond (.tmp 9) (.seq (.reg [.op none (.mv 4 (.const (.bool false))), .keep [4]]) (.ret)) (.skip))) (.seq (.seq (.reg [.op none (.faddr 10 1 (.tmp 2)), .op none (.load 11 false 1 (.tmp 10)), .op none (.faddr 12 1 (.tmp 3)), .op none (.load 13 false 1 (.tmp 12)), .op none (.bin 14 .neq (.tmp 11) (.tmp 13)), .keep [2, 3, 14]]) (.cond (.tmp 14) (.seq (.reg [.op none (.mv 4 (.const (.bool false))), .keep [4]]) (.ret)) (.skip))) (.seq (.seq (.reg [.op none (.faddr 15 2 (.tmp 2)), .op none (.load 16 false 1 (.tmp 15)), .op none (.faddr 17 2 (.tmp 3)), .op none (.load 18 false 1 (.tmp 17)), .call none (some 19) 98 [.tmp 16, .tmp 18], .op none (.un 20 .not (.tmp 19)), .keep [2, 3, 20]]) (.cond (.tmp 20) (.seq (.reg [.op none (.mv 4 (.const (.bool false))), .keep [4]]) (.ret)) (.skip))) (.seq (.seq (.reg [.op none (.faddr 21 3 (.tmp 2)), .op none (.load 22 false 1 (.tmp 21)), .op none (.faddr 23 3 (.tmp 3)), .op none (.load 24 false 1 (.tmp 23)), .op none (.bin 25 .neq (.tmp 22) (.tmp 24)), .keep [2, 3, 25]]) (.cond (.tmp 25) (.seq (.reg [.op none (.mv 4 (.const (.bool false))), .keep [4]]) (.ret)) (.skip))) (.seq (.seq (.reg [.op none (.faddr 26 4 (.tmp 2)), .op none (.load 27 false 1 (.tmp 26)), .op none (.faddr 28 4 (.tmp 3)), .op none (.load 29 false 1 (.tmp 28)), .op none (.bin 30 .neq (.tmp 27) (.tmp 29)), .keep [2, 3, 30]]) (.cond (.tmp 30) (.seq (.reg [.op none (.mv 4 (.const (.bool false))), .keep [4]]) (.ret)) (.skip))) (.seq (.seq (.reg [.op none (.faddr 31 5 (.tmp 2)), .op none (.load 32 false 1 (.tmp 31)), .op none (.faddr 33 5 (.tmp 3)), .op none (.load 34 false 1 (.tmp 33)), .op none (.bin 35 .neq (.tmp 32) (.tmp 34)), .keep [2, 3, 35]]) (.cond (.tmp 35) (.seq (.reg [.op none (.mv 4 (.const (.bool false))), .keep [4]]) (.ret)) (.skip))) (.seq (.seq (.reg [.op none (.faddr 36 6 (.tmp 2)), .op none (.load 37 false 1 (.tmp 36)), .op none (.faddr 38 6 (.tmp 3)), .op none (.load 39 false 1 (.tmp 38)), .op none (.bin 40 .neq (.tmp 37) (.tmp 39)), .keep [2, 3, 40]]) (.cond (.tmp 40) (.seq (.reg [.op none (.mv 4 (.const (.bool false))), .keep [4]]) (.ret)) (.skip))) (.seq (.seq (.reg [.op none (.faddr 41 7 (.tmp 2)), .op none (.load 42 false 1 (.tmp 41)), .op none (.faddr 43 7 (.tmp 3)), .op none (.load 44 false 1 (.tmp 43)), .op none (.bin 45 .neq (.tmp 42) (.tmp 44)), .keep [45]]) (.cond (.tmp 45) (.seq (.reg [.op none (.mv 4 (.const (.bool false))), .keep [4]]) (.ret)) (.skip))) (.seq (.reg [.op none (.mv 4 (.const (.bool true))), .keep [4]]) (.ret))))))))))
def r44 : List RV := [.tmp 4]
theorem k44 : compC Try.prog 46 c44 (Try.f44.body.getD .skip) = some c44.erase := by kernel_rfl
theorem q44 : rvsOf Try.prog Try.f44.results.toList = some r44 := by kernel_rfl
def laws_eqSubView.f (a0_0 : Int) (a0_1 : Int) (l0_2 : List Int) (a0_3 : Int) (a0_4 : Int) (a0_5 : Int) (a0_6 : Int) (a0_7 : Int) (a1_0 : Int) (a1_1 : Int) (l1_2 : List Int) (a1_3 : Int) (a1_4 : Int) (a1_5 : Int) (a1_6 : Int) (a1_7 : Int) : Option Bool := (if a0_0 ≠ a1_0 then (some false) else (if a0_1 ≠ a1_1 then (some false) else (laws_eqInt64S.f l0_2 l1_2 >>= fun t12 => (if (!t12) = true then (some false) else (if a0_3 ≠ a1_3 then (some false) else (if a0_4 ≠ a1_4 then (some false) else (if a0_5 ≠ a1_5 then (some false) else (if a0_6 ≠ a1_6 then (some false) else (if a0_7 ≠ a1_7 then (some false) else (some true))))))))))
set_option maxRecDepth 100000 in
set_option maxHeartbeats 4000000 in
theorem laws_eqSubView.tri (cs0 : List Cell) (o0 : Nat) (l0_2 : List Int) (hv0 : Vw c_i64 1 cs0 o0 l0_2) (cs1 : List Cell) (o1 : Nat) (l1_2 : List Int) (hv1 : Vw c_i64 1 cs1 o1 l1_2) (a0_0 : Int) (a0_1 : Int) (a0_3 : Int) (a0_4 : Int) (a0_5 : Int) (a0_6 : Int) (a0_7 : Int) (a1_0 : Int) (a1_1 : Int) (a1_3 : Int) (a1_4 : Int) (a1_5 : Int) (a1_6 : Int) (a1_7 : Int) (r : Bool) (h : laws_eqSubView.f a0_0 a0_1 l0_2 a0_3 a0_4 a0_5 a0_6 a0_7 a1_0 a1_1 l1_2 a1_3 a1_4 a1_5 a1_6 a1_7 = some r) : Tri Try.prog 44 [.g [.sc (.int .u32 a0_0), .sc (.int .u32 a0_1), .ref (.arg 0) [] o0 l0_2.length, .sc (.int .i64 a0_3), .sc (.int .i64 a0_4), .sc (.int .i64 a0_5), .sc (.int .i64 a0_6), .sc (.int .i64 a0_7)], .g [.sc (.int .u32 a1_0), .sc (.int .u32 a1_1), .ref (.arg 1) [] o1 l1_2.length, .sc (.int .i64 a1_3), .sc (.int .i64 a1_4), .sc (.int .i64 a1_5), .sc (.int .i64 a1_6), .sc (.int .i64 a1_7)]] [(.arg 0, ⟨.fz, 1, cs0⟩), (.arg 1, ⟨.fz, 1, cs1⟩)] (fun o => o = ⟨.c (.sc (.bool r)), [(.arg 0, ⟨.fz, 1, cs0⟩), (.arg 1, ⟨.fz, 1, cs1⟩)], [], []⟩) := by
  refine tri_of_body (ac := c44) (xs := r44) Try.func44 (show Try.f44.body = some (Try.f44.body.getD .skip) from rfl) k44 q44 (Nat.le_of_ble_eq_true rfl) ?_
  refine body_of fun K hKn hKr => ?_
  unfold laws_eqSubView.f at h
  unfold c44
  simp only [initT, Nat.reduceAdd]
  refine seq_k fun J1 hJ1 => ?_
  refine reg_k ?_
  simp only [Nat.reduceEqDiff, Nat.reduceAdd, Nat.reduceMul, Nat.reduceLeDiff, Nat.reduceLT, Int.reduceLE, Int.reduceLT, Int.reduceGT, Int.reduceGE, Int.reduceEq, Int.reduceNe, Int.reduceToNat, reduceCtorEq, ak]
  refine hJ1 _ ?_
  refine seq_k fun J2 hJ2 => ?_
  refine seq_k fun J3 hJ3 => ?_
  refine reg_k ?_
  simp only [Nat.reduceEqDiff, Nat.reduceAdd, Nat.reduceMul, Nat.reduceLeDiff, Nat.reduceLT, Int.reduceLE, Int.reduceLT, Int.reduceGT, Int.reduceGE, Int.reduceEq, Int.reduceNe, Int.reduceToNat, reduceCtorEq, ak]
  refine hJ3 _ ?_
  refine cond_k (b := decide (a0_0 ≠ a1_0)) rfl (fun c4 => ?_) (fun c4 => ?_)
  · replace c4 := of_decide_eq_true c4; rw [if_pos c4] at h
    refine seq_k fun J5 hJ5 => ?_
    refine reg_k ?_
    simp only [Nat.reduceEqDiff, Nat.reduceAdd, Nat.reduceMul, Nat.reduceLeDiff, Nat.reduceLT, Int.reduceLE, Int.reduceLT, Int.reduceGT, Int.reduceGE, Int.reduceEq, Int.reduceNe, Int.reduceToNat, reduceCtorEq, ak]
    refine hJ5 _ ?_
    obtain rfl := Option.some.inj h
    refine hKr _ ⟨_, rfl, [], _, rfl, rfl, ?_⟩
    first | rfl | (simp only [reduceCtorEq, Nat.reduceEqDiff, ak, akF]; done) | (simp [reduceCtorEq, Nat.reduceEqDiff, ak, akF]; done)
  · replace c4 := of_decide_eq_false c4; rw [if_neg c4] at h
    refine hJ2 _ ?_
    refine seq_k fun J6 hJ6 => ?_
    refine seq_k fun J7 hJ7 => ?_
    refine reg_k ?_
    simp only [Nat.reduceEqDiff, Nat.reduceAdd, Nat.reduceMul, Nat.reduceLeDiff, Nat.reduceLT, Int.reduceLE, Int.reduceLT, Int.reduceGT, Int.reduceGE, Int.reduceEq, Int.reduceNe, Int.reduceToNat, reduceCtorEq, ak]
    refine hJ7 _ ?_
    refine cond_k (b := decide (a0_1 ≠ a1_1)) rfl (fun c8 => ?_) (fun c8 => ?_)
    · replace c8 := of_decide_eq_true c8; rw [if_pos c8] at h
      refine seq_k fun J9 hJ9 => ?_
      refine reg_k ?_
      simp only [Nat.reduceEqDiff, Nat.reduceAdd, Nat.reduceMul, Nat.reduceLeDiff, Nat.reduceLT, Int.reduceLE, Int.reduceLT, Int.reduceGT, Int.reduceGE, Int.reduceEq, Int.reduceNe, Int.reduceToNat, reduceCtorEq, ak]
      refine hJ9 _ ?_
      obtain rfl := Option.some.inj h
      refine hKr _ ⟨_, rfl, [], _, rfl, rfl, ?_⟩
      first | rfl | (simp only [reduceCtorEq, Nat.reduceEqDiff, ak, akF]; done) | (simp [reduceCtorEq, Nat.reduceEqDiff, ak, akF]; done)
    · replace c8 := of_decide_eq_false c8; rw [if_neg c8] at h
      refine hJ6 _ ?_
      refine seq_k fun J10 hJ10 => ?_
      refine seq_k fun J11 hJ11 => ?_
      refine reg_k ?_
      simp only [Nat.reduceEqDiff, Nat.reduceAdd, Nat.reduceMul, Nat.reduceLeDiff, Nat.reduceLT, Int.reduceLE, Int.reduceLT, Int.reduceGT, Int.reduceGE, Int.reduceEq, Int.reduceNe, Int.reduceToNat, reduceCtorEq, ak]
      obtain ⟨t12, h13, h⟩ := of_bind h
      refine call_m [(.arg 0, ⟨(.arg 0), [], none, .fz⟩), (.arg 1, ⟨(.arg 1), [], none, .fz⟩)] (s0 := [(.arg 0, ⟨.fz, 1, cs0⟩), (.arg 1, ⟨.fz, 1, cs1⟩)]) (by intro t ht; cases ht; decide) rfl rfl (by first | rfl | simp only [reduceCtorEq, Nat.reduceEqDiff, ak, akF]) (laws_eqInt64S.tri (cs0) o0 l0_2 hv0 (cs1) o1 l1_2 hv1 _ h13) (by first | rfl | simp only [reduceCtorEq, Nat.reduceEqDiff, ak, akF]) (by simp [bkOk2, memK]) (fun hl13 => ?_)
      refine call_st (s4 := [(.arg 0, ⟨.fz, 1, cs0⟩), (.arg 1, ⟨.fz, 1, cs1⟩), (.tmp 2 0, ⟨.box, 0, [.sc (.int .u32 a0_0), .sc (.int .u32 a0_1), .ref (.arg 0) [] o0 l0_2.length, .sc (.int .i64 a0_3), .sc (.int .i64 a0_4), .sc (.int .i64 a0_5), .sc (.int .i64 a0_6), .sc (.int .i64 a0_7)]⟩), (.tmp 3 0, ⟨.box, 0, [.sc (.int .u32 a1_0), .sc (.int .u32 a1_1), .ref (.arg 1) [] o1 l1_2.length, .sc (.int .i64 a1_3), .sc (.int .i64 a1_4), .sc (.int .i64 a1_5), .sc (.int .i64 a1_6), .sc (.int .i64 a1_7)]⟩)]) (m1' := []) (m2' := []) (v' := .c (.sc (.bool t12))) (Sto.mapN_killNil _ _) (mrgL_fz (mrgL_fz (mrgL_nil' _ _ _) rfl (by first | rfl | simp only [reduceCtorEq, Nat.reduceEqDiff, ak]) rfl (by intro R hR hh; cases hR; cases hh.2)) rfl (by first | rfl | simp only [reduceCtorEq, Nat.reduceEqDiff, ak]) rfl (by intro R hR hh; cases hR; cases hh.2)) (by rfl) (mapT_killNil _ _) (by rfl) (by rfl) (by first | rfl | simp only [reduceCtorEq, Nat.reduceEqDiff, ak, akF, Nat.zero_add, List.append_nil]) ?_
      simp only [Nat.reduceEqDiff, Nat.reduceAdd, Nat.reduceMul, Nat.reduceLeDiff, Nat.reduceLT, Int.reduceLE, Int.reduceLT, Int.reduceGT, Int.reduceGE, Int.reduceEq, Int.reduceNe, Int.reduceToNat, reduceCtorEq, ak]
      refine hJ11 _ ?_
      refine cond_k (b := !t12) rfl (fun c15 => ?_) (fun c15 => ?_)
      · rw [if_pos c15] at h
        refine seq_k fun J16 hJ16 => ?_
        refine reg_k ?_
        simp only [Nat.reduceEqDiff, Nat.reduceAdd, Nat.reduceMul, Nat.reduceLeDiff, Nat.reduceLT, Int.reduceLE, Int.reduceLT, Int.reduceGT, Int.reduceGE, Int.reduceEq, Int.reduceNe, Int.reduceToNat, reduceCtorEq, ak]
        refine hJ16 _ ?_
        obtain rfl := Option.some.inj h
        refine hKr _ ⟨_, rfl, [], _, rfl, rfl, ?_⟩
        first | rfl | (simp only [reduceCtorEq, Nat.reduceEqDiff, ak, akF]; done) | (simp [reduceCtorEq, Nat.reduceEqDiff, ak, akF]; done)
      · rw [if_neg (Bool.eq_false_iff.1 c15)] at h
        refine hJ10 _ ?_
        refine seq_k fun J17 hJ17 => ?_
        refine seq_k fun J18 hJ18 => ?_
        refine reg_k ?_
        simp only [Nat.reduceEqDiff, Nat.reduceAdd, Nat.reduceMul, Nat.reduceLeDiff, Nat.reduceLT, Int.reduceLE, Int.reduceLT, Int.reduceGT, Int.reduceGE, Int.reduceEq, Int.reduceNe, Int.reduceToNat, reduceCtorEq, ak]
        refine hJ18 _ ?_
        refine cond_k (b := decide (a0_3 ≠ a1_3)) rfl (fun c19 => ?_) (fun c19 => ?_)
        · replace c19 := of_decide_eq_true c19; rw [if_pos c19] at h
          refine seq_k fun J20 hJ20 => ?_
          refine reg_k ?_
          simp only [Nat.reduceEqDiff, Nat.reduceAdd, Nat.reduceMul, Nat.reduceLeDiff, Nat.reduceLT, Int.reduceLE, Int.reduceLT, Int.reduceGT, Int.reduceGE, Int.reduceEq, Int.reduceNe, Int.reduceToNat, reduceCtorEq, ak]
          refine hJ20 _ ?_
          obtain rfl := Option.some.inj h
          refine hKr _ ⟨_, rfl, [], _, rfl, rfl, ?_⟩
          first | rfl | (simp only [reduceCtorEq, Nat.reduceEqDiff, ak, akF]; done) | (simp [reduceCtorEq, Nat.reduceEqDiff, ak, akF]; done)
        · replace c19 := of_decide_eq_false c19; rw [if_neg c19] at h
          refine hJ17 _ ?_
          refine seq_k fun J21 hJ21 => ?_
          refine seq_k fun J22 hJ22 => ?_
          refine reg_k ?_
          simp only [Nat.reduceEqDiff, Nat.reduceAdd, Nat.reduceMul, Nat.reduceLeDiff, Nat.reduceLT, Int.reduceLE, Int.reduceLT, Int.reduceGT, Int.reduceGE, Int.reduceEq, Int.reduceNe, Int.reduceToNat, reduceCtorEq, ak]
          refine hJ22 _ ?_
          refine cond_k (b := decide (a0_4 ≠ a1_4)) rfl (fun c23 => ?_) (fun c23 => ?_)
          · replace c23 := of_decide_eq_true c23; rw [if_pos c23] at h
            refine seq_k fun J24 hJ24 => ?_
            refine reg_k ?_
            simp only [Nat.reduceEqDiff, Nat.reduceAdd, Nat.reduceMul, Nat.reduceLeDiff, Nat.reduceLT, Int.reduceLE, Int.reduceLT, Int.reduceGT, Int.reduceGE, Int.reduceEq, Int.reduceNe, Int.reduceToNat, reduceCtorEq, ak]
            refine hJ24 _ ?_
            obtain rfl := Option.some.inj h
            refine hKr _ ⟨_, rfl, [], _, rfl, rfl, ?_⟩
            first | rfl | (simp only [reduceCtorEq, Nat.reduceEqDiff, ak, akF]; done) | (simp [reduceCtorEq, Nat.reduceEqDiff, ak, akF]; done)
          · replace c23 := of_decide_eq_false c23; rw [if_neg c23] at h
            refine hJ21 _ ?_
            refine seq_k fun J25 hJ25 => ?_
            refine seq_k fun J26 hJ26 => ?_
            refine reg_k ?_
            simp only [Nat.reduceEqDiff, Nat.reduceAdd, Nat.reduceMul, Nat.reduceLeDiff, Nat.reduceLT, Int.reduceLE, Int.reduceLT, Int.reduceGT, Int.reduceGE, Int.reduceEq, Int.reduceNe, Int.reduceToNat, reduceCtorEq, ak]
            refine hJ26 _ ?_
            refine cond_k (b := decide (a0_5 ≠ a1_5)) rfl (fun c27 => ?_) (fun c27 => ?_)
            · replace c27 := of_decide_eq_true c27; rw [if_pos c27] at h
              refine seq_k fun J28 hJ28 => ?_
              refine reg_k ?_
              simp only [Nat.reduceEqDiff, Nat.reduceAdd, Nat.reduceMul, Nat.reduceLeDiff, Nat.reduceLT, Int.reduceLE, Int.reduceLT, Int.reduceGT, Int.reduceGE, Int.reduceEq, Int.reduceNe, Int.reduceToNat, reduceCtorEq, ak]
              refine hJ28 _ ?_
              obtain rfl := Option.some.inj h
              refine hKr _ ⟨_, rfl, [], _, rfl, rfl, ?_⟩
              first | rfl | (simp only [reduceCtorEq, Nat.reduceEqDiff, ak, akF]; done) | (simp [reduceCtorEq, Nat.reduceEqDiff, ak, akF]; done)
            · replace c27 := of_decide_eq_false c27; rw [if_neg c27] at h
              refine hJ25 _ ?_
              refine seq_k fun J29 hJ29 => ?_
              refine seq_k fun J30 hJ30 => ?_
              refine reg_k ?_
              simp only [Nat.reduceEqDiff, Nat.reduceAdd, Nat.reduceMul, Nat.reduceLeDiff, Nat.reduceLT, Int.reduceLE, Int.reduceLT, Int.reduceGT, Int.reduceGE, Int.reduceEq, Int.reduceNe, Int.reduceToNat, reduceCtorEq, ak]
              refine hJ30 _ ?_
              refine cond_k (b := decide (a0_6 ≠ a1_6)) rfl (fun c31 => ?_) (fun c31 => ?_)
              · replace c31 := of_decide_eq_true c31; rw [if_pos c31] at h
                refine seq_k fun J32 hJ32 => ?_
                refine reg_k ?_
                simp only [Nat.reduceEqDiff, Nat.reduceAdd, Nat.reduceMul, Nat.reduceLeDiff, Nat.reduceLT, Int.reduceLE, Int.reduceLT, Int.reduceGT, Int.reduceGE, Int.reduceEq, Int.reduceNe, Int.reduceToNat, reduceCtorEq, ak]
                refine hJ32 _ ?_
                obtain rfl := Option.some.inj h
                refine hKr _ ⟨_, rfl, [], _, rfl, rfl, ?_⟩
                first | rfl | (simp only [reduceCtorEq, Nat.reduceEqDiff, ak, akF]; done) | (simp [reduceCtorEq, Nat.reduceEqDiff, ak, akF]; done)
              · replace c31 := of_decide_eq_false c31; rw [if_neg c31] at h
                refine hJ29 _ ?_
                refine seq_k fun J33 hJ33 => ?_
                refine seq_k fun J34 hJ34 => ?_
                refine reg_k ?_
                simp only [Nat.reduceEqDiff, Nat.reduceAdd, Nat.reduceMul, Nat.reduceLeDiff, Nat.reduceLT, Int.reduceLE, Int.reduceLT, Int.reduceGT, Int.reduceGE, Int.reduceEq, Int.reduceNe, Int.reduceToNat, reduceCtorEq, ak]
                refine hJ34 _ ?_
                refine cond_k (b := decide (a0_7 ≠ a1_7)) rfl (fun c35 => ?_) (fun c35 => ?_)
                · replace c35 := of_decide_eq_true c35; rw [if_pos c35] at h
                  refine seq_k fun J36 hJ36 => ?_
                  refine reg_k ?_
                  simp only [Nat.reduceEqDiff, Nat.reduceAdd, Nat.reduceMul, Nat.reduceLeDiff, Nat.reduceLT, Int.reduceLE, Int.reduceLT, Int.reduceGT, Int.reduceGE, Int.reduceEq, Int.reduceNe, Int.reduceToNat, reduceCtorEq, ak]
                  refine hJ36 _ ?_
                  obtain rfl := Option.some.inj h
                  refine hKr _ ⟨_, rfl, [], _, rfl, rfl, ?_⟩
                  first | rfl | (simp only [reduceCtorEq, Nat.reduceEqDiff, ak, akF]; done) | (simp [reduceCtorEq, Nat.reduceEqDiff, ak, akF]; done)
                · replace c35 := of_decide_eq_false c35; rw [if_neg c35] at h
                  refine hJ33 _ ?_
                  refine seq_k fun J37 hJ37 => ?_
                  refine reg_k ?_
                  simp only [Nat.reduceEqDiff, Nat.reduceAdd, Nat.reduceMul, Nat.reduceLeDiff, Nat.reduceLT, Int.reduceLE, Int.reduceLT, Int.reduceGT, Int.reduceGE, Int.reduceEq, Int.reduceNe, Int.reduceToNat, reduceCtorEq, ak]
                  refine hJ37 _ ?_
                  obtain rfl := Option.some.inj h
                  refine hKr _ ⟨_, rfl, [], _, rfl, rfl, ?_⟩
                  first | rfl | (simp only [reduceCtorEq, Nat.reduceEqDiff, ak, akF]; done) | (simp [reduceCtorEq, Nat.reduceEqDiff, ak, akF]; done)
/-! ### laws.eqSubEvent: function 92 -/
def c92 : AC := .seq (.reg [.op none (.box 2 (.tmp 0)), .op none (.box 3 (.tmp 1)), .op none (.mv 4 (.const (.bool false))), .keep [2, 3]]) (.seq (.seq (.reg [.op none (.faddr 5 0 (.tmp 2)), .op none (.load 6 false 1 (.tmp 5)), .op none (.faddr 7 0 (.tmp 3)), .op none (.load 8 false 1 (.tmp 7)), .op none (.bin 9 .neq (.tmp 6) (.tmp 8)), .keep [2, 3, 9]]) (.cond (.tmp 9) (.seq (.reg [.op none (.mv 4 (.const (.bool false))), .keep [4]]) (.ret)) (.skip))) (.seq (.seq (.reg [.op none (.faddr 10 1 (.tmp 2)), .op none (.load 11 false 1 (.tmp 10)), .op none (.faddr 12 1 (.tmp 3)), .op none (.load 13 false 1 (.tmp 12)), .op none (.bin 14 .neq (.tmp 11) (.tmp 13)), .keep [2, 3, 14]]) (.cond (.tmp 14) (.seq (.reg [.op none (.mv 4 (.const (.bool false))), .keep [4]]) (.ret)) (.skip))) (.seq (.seq (.reg [.op none (.faddr 15 2 (.tmp 2)), .op none (.load 16 false 1 (.tmp 15)), .op none (.faddr 17 2 (.tmp 3)), .op none (.load 18 false 1 (.tmp 17)), .op none (.bin 19 .neq (.tmp 16) (.tmp 18)), .keep [19]]) (.cond (.tmp 19) (.seq (.reg [.op none (.mv 4 (.const (.bool false))), .keep [4]]) (.ret)) (.skip))) (.seq (.reg [.op none (.mv 4 (.const (.bool true))), .keep [4]]) (.ret)))))
def r92 : List RV := [.tmp 4]
theorem k92 : compC Try.prog 20 c92 (Try.f92.body.getD .skip) = some c92.erase := by kernel_rfl
theorem q92 : rvsOf Try.prog Try.f92.results.toList = some r92 := by kernel_rfl
def laws_eqSubEvent.f (a0_0 : Int) (a0_1 : Int) (a0_2 : Int) (a1_0 : Int) (a1_1 : Int) (a1_2 : Int) : Option Bool := (if a0_0 ≠ a1_0 then (some false) else (if a0_1 ≠ a1_1 then (some false) else (if a0_2 ≠ a1_2 then (some false) else (some true))))
set_option maxRecDepth 100000 in
set_option maxHeartbeats 4000000 in
theorem laws_eqSubEvent.tri (a0_0 : Int) (a0_1 : Int) (a0_2 : Int) (a1_0 : Int) (a1_1 : Int) (a1_2 : Int) (r : Bool) (h : laws_eqSubEvent.f a0_0 a0_1 a0_2 a1_0 a1_1 a1_2 = some r) : Tri Try.prog 92 [.g [.sc (.int .i64 a0_0), .sc (.int .i64 a0_1), .sc (.int .u32 a0_2)], .g [.sc (.int .i64 a1_0), .sc (.int .i64 a1_1), .sc (.int .u32 a1_2)]] [] (fun o => o = ⟨.c (.sc (.bool r)), [], [], []⟩) := by
  refine tri_of_body (ac := c92) (xs := r92) Try.func92 (show Try.f92.body = some (Try.f92.body.getD .skip) from rfl) k92 q92 (Nat.le_of_ble_eq_true rfl) ?_
  refine body_of fun K hKn hKr => ?_
  unfold laws_eqSubEvent.f at h
  unfold c92
  simp only [initT, Nat.reduceAdd]
  refine seq_k fun J1 hJ1 => ?_
  refine reg_k ?_
  simp only [Nat.reduceEqDiff, Nat.reduceAdd, Nat.reduceMul, Nat.reduceLeDiff, Nat.reduceLT, Int.reduceLE, Int.reduceLT, Int.reduceGT, Int.reduceGE, Int.reduceEq, Int.reduceNe, Int.reduceToNat, reduceCtorEq, ak]
  refine hJ1 _ ?_
  refine seq_k fun J2 hJ2 => ?_
  refine seq_k fun J3 hJ3 => ?_
  refine reg_k ?_
  simp only [Nat.reduceEqDiff, Nat.reduceAdd, Nat.reduceMul, Nat.reduceLeDiff, Nat.reduceLT, Int.reduceLE, Int.reduceLT, Int.reduceGT, Int.reduceGE, Int.reduceEq, Int.reduceNe, Int.reduceToNat, reduceCtorEq, ak]
  refine hJ3 _ ?_
  refine cond_k (b := decide (a0_0 ≠ a1_0)) rfl (fun c4 => ?_) (fun c4 => ?_)
  · replace c4 := of_decide_eq_true c4; rw [if_pos c4] at h
    refine seq_k fun J5 hJ5 => ?_
    refine reg_k ?_
    simp only [Nat.reduceEqDiff, Nat.reduceAdd, Nat.reduceMul, Nat.reduceLeDiff, Nat.reduceLT, Int.reduceLE, Int.reduceLT, Int.reduceGT, Int.reduceGE, Int.reduceEq, Int.reduceNe, Int.reduceToNat, reduceCtorEq, ak]
    refine hJ5 _ ?_
    obtain rfl := Option.some.inj h
    refine hKr _ ⟨_, rfl, [], _, rfl, rfl, ?_⟩
    first | rfl | (simp only [reduceCtorEq, Nat.reduceEqDiff, ak, akF]; done) | (simp [reduceCtorEq, Nat.reduceEqDiff, ak, akF]; done)
  · replace c4 := of_decide_eq_false c4; rw [if_neg c4] at h
    refine hJ2 _ ?_
    refine seq_k fun J6 hJ6 => ?_
    refine seq_k fun J7 hJ7 => ?_
    refine reg_k ?_
    simp only [Nat.reduceEqDiff, Nat.reduceAdd, Nat.reduceMul, Nat.reduceLeDiff, Nat.reduceLT, Int.reduceLE, Int.reduceLT, Int.reduceGT, Int.reduceGE, Int.reduceEq, Int.reduceNe, Int.reduceToNat, reduceCtorEq, ak]
    refine hJ7 _ ?_
    refine cond_k (b := decide (a0_1 ≠ a1_1)) rfl (fun c8 => ?_) (fun c8 => ?_)
    · replace c8 := of_decide_eq_true c8; rw [if_pos c8] at h
      refine seq_k fun J9 hJ9 => ?_
      refine reg_k ?_
      simp only [Nat.reduceEqDiff, Nat.reduceAdd, Nat.reduceMul, Nat.reduceLeDiff, Nat.reduceLT, Int.reduceLE, Int.reduceLT, Int.reduceGT, Int.reduceGE, Int.reduceEq, Int.reduceNe, Int.reduceToNat, reduceCtorEq, ak]
      refine hJ9 _ ?_
      obtain rfl := Option.some.inj h
      refine hKr _ ⟨_, rfl, [], _, rfl, rfl, ?_⟩
      first | rfl | (simp only [reduceCtorEq, Nat.reduceEqDiff, ak, akF]; done) | (simp [reduceCtorEq, Nat.reduceEqDiff, ak, akF]; done)
    · replace c8 := of_decide_eq_false c8; rw [if_neg c8] at h
      refine hJ6 _ ?_
      refine seq_k fun J10 hJ10 => ?_
      refine seq_k fun J11 hJ11 => ?_
      refine reg_k ?_
      simp only [Nat.reduceEqDiff, Nat.reduceAdd, Nat.reduceMul, Nat.reduceLeDiff, Nat.reduceLT, Int.reduceLE, Int.reduceLT, Int.reduceGT, Int.reduceGE, Int.reduceEq, Int.reduceNe, Int.reduceToNat, reduceCtorEq, ak]
      refine hJ11 _ ?_
      refine cond_k (b := decide (a0_2 ≠ a1_2)) rfl (fun c12 => ?_) (fun c12 => ?_)
      · replace c12 := of_decide_eq_true c12; rw [if_pos c12] at h
        refine seq_k fun J13 hJ13 => ?_
        refine reg_k ?_
        simp only [Nat.reduceEqDiff, Nat.reduceAdd, Nat.reduceMul, Nat.reduceLeDiff, Nat.reduceLT, Int.reduceLE, Int.reduceLT, Int.reduceGT, Int.reduceGE, Int.reduceEq, Int.reduceNe, Int.reduceToNat, reduceCtorEq, ak]
        refine hJ13 _ ?_
        obtain rfl := Option.some.inj h
        refine hKr _ ⟨_, rfl, [], _, rfl, rfl, ?_⟩
        first | rfl | (simp only [reduceCtorEq, Nat.reduceEqDiff, ak, akF]; done) | (simp [reduceCtorEq, Nat.reduceEqDiff, ak, akF]; done)
      · replace c12 := of_decide_eq_false c12; rw [if_neg c12] at h
        refine hJ10 _ ?_
        refine seq_k fun J14 hJ14 => ?_
        refine reg_k ?_
        simp only [Nat.reduceEqDiff, Nat.reduceAdd, Nat.reduceMul, Nat.reduceLeDiff, Nat.reduceLT, Int.reduceLE, Int.reduceLT, Int.reduceGT, Int.reduceGE, Int.reduceEq, Int.reduceNe, Int.reduceToNat, reduceCtorEq, ak]
        refine hJ14 _ ?_
        obtain rfl := Option.some.inj h
        refine hKr _ ⟨_, rfl, [], _, rfl, rfl, ?_⟩
        first | rfl | (simp only [reduceCtorEq, Nat.reduceEqDiff, ak, akF]; done) | (simp [reduceCtorEq, Nat.reduceEqDiff, ak, akF]; done)
/-! ### laws.eqSubEventS: function 39 -/
def c39_l0 : AC := .seq (.seq (.reg [.op none (.mv 11 (.tmp 5)), .op none (.mv 12 (.tmp 0)), .op none (.len 13 (.tmp 12)), .op none (.bin 14 .lss (.tmp 11) (.tmp 13)), .keep [0, 1, 5, 14]]) (.cond (.tmp 14) (.skip) (.gh (.exit 0)))) (.seq (.block 1 (.seq (.regD (.first (.op none (.mv 17 (.tmp 0))) (.first (.op none (.mv 18 (.tmp 5))) (.first (.op none (.iaddr 19 3 (.tmp 17) (.tmp 18))) (.first (.op none (.load 20 true 3 (.tmp 19))) (.first (.op none (.mv 21 (.tmp 1))) (.first (.op none (.mv 22 (.tmp 5))) (.first (.op none (.iaddr 23 3 (.tmp 21) (.tmp 22))) (.first (.op none (.load 24 true 3 (.tmp 23))) (.alt (.call none (some 25) 92 [.tmp 20, .tmp 24]) none (.first (.op none (.un 26 .not (.tmp 25))) (.done)) (.stop)))))))))) [0, 1, 5, 26]) (.cond (.tmp 26) (.seq (.reg [.op none (.mv 4 (.const (.bool false))), .keep [4]]) (.gh .ret)) (.skip)))) (.reg [.op none (.mv 15 (.tmp 5)), .op none (.bin 16 .add (.tmp 15) (.const (.int .i64 1))), .op none (.mv 5 (.tmp 16)), .keep [0, 1, 5]]))
def c39 : AC := .seq (.reg [.op none (.mv 4 (.const (.bool false))), .keep [0, 1]]) (.seq (.seq (.reg [.op none (.mv 6 (.tmp 0)), .op none (.len 7 (.tmp 6)), .op none (.mv 8 (.tmp 1)), .op none (.len 9 (.tmp 8)), .op none (.bin 10 .neq (.tmp 7) (.tmp 9)), .keep [0, 1, 10]]) (.cond (.tmp 10) (.seq (.reg [.op none (.mv 4 (.const (.bool false))), .keep [4]]) (.ret)) (.skip))) (.seq (.seq (.reg [.op none (.mv 5 (.const (.int .i64 0))), .keep [0, 1, 5]]) (.block 0 (.gh (.loop (.ga c39_l0))))) (.seq (.reg [.op none (.mv 4 (.const (.bool true))), .keep [4]]) (.ret))))
def r39 : List RV := [.tmp 4]
theorem k39 : compC Try.prog 27 c39 (Try.f39.body.getD .skip) = some c39.erase := by kernel_rfl
theorem q39 : rvsOf Try.prog Try.f39.results.toList = some r39 := by kernel_rfl
def laws_eqSubEventS.l0 (l0 : List S63) (l1 : List S63) (x0_0 : Int) : Option (Lp Unit Bool) := (if x0_0 < (l0.length : Int) then (if 0 ≤ x0_0 ∧ x0_0 < (l0.length : Int) then (if 0 ≤ x0_0 ∧ x0_0 < (l1.length : Int) then (laws_eqSubEvent.f ((rd z63 l0 x0_0).f0) ((rd z63 l0 x0_0).f1) ((rd z63 l0 x0_0).f2) ((rd z63 l1 x0_0).f0) ((rd z63 l1 x0_0).f1) ((rd z63 l1 x0_0).f2) >>= fun t19 => (if (!t19) = true then (some (.b false)) else (laws_eqSubEventS.l0 l0 l1 (IntKind.i64.wrap (x0_0 + 1))))) else none) else none) else (some (.a ())))
  partial_fixpoint
def laws_eqSubEventS.f (l0 : List S63) (l1 : List S63) : Option Bool := (if (l0.length : Int) ≠ (l1.length : Int) then (some false) else (laws_eqSubEventS.l0 l0 l1 0 >>= fun (y25 : Lp Unit Bool) => match y25 with | .a x27 => (some true) | .b x27 => (some x27)))
set_option maxRecDepth 100000 in
set_option maxHeartbeats 4000000 in
theorem laws_eqSubEventS.l0_walk (cs0 : List Cell) (o0 : Nat) (l0 : List S63) (hv0 : Vw c63 3 cs0 o0 l0) (cs1 : List Cell) (o1 : Nat) (l1 : List S63) (hv1 : Vw c63 3 cs1 o1 l1) (x0_0 : Int) (y : Lp Unit Bool) (h : laws_eqSubEventS.l0 l0 l1 x0_0 = some y) (K : AE → St → Prop) (hx0 : ∀ x, y = .a x → K (.exit 0) ⟨[], [(.arg 0, ⟨.fz, 3, cs0⟩), (.arg 1, ⟨.fz, 3, cs1⟩)], [], []⟩) (hx1 : ∀ x, y = .b x → K .ret ⟨[(4, .c (.sc (.bool x)))], [(.arg 0, ⟨.fz, 3, cs0⟩), (.arg 1, ⟨.fz, 3, cs1⟩)], [], []⟩) : loopS Try.prog 27 (.ga c39_l0) K ⟨[(0, .c (.ref (.arg 0) [] o0 l0.length)), (1, .c (.ref (.arg 1) [] o1 l1.length)), (5, .c (.sc (.int .i64 x0_0)))], [(.arg 0, ⟨.fz, 3, cs0⟩), (.arg 1, ⟨.fz, 3, cs1⟩)], [], []⟩ := by
  refine laws_eqSubEventS.l0.partial_correctness l0 l1 (motive := fun x0_0 y => ∀ (K : AE → St → Prop), (∀ x, y = .a x → K (.exit 0) ⟨[], [(.arg 0, ⟨.fz, 3, cs0⟩), (.arg 1, ⟨.fz, 3, cs1⟩)], [], []⟩) → (∀ x, y = .b x → K .ret ⟨[(4, .c (.sc (.bool x)))], [(.arg 0, ⟨.fz, 3, cs0⟩), (.arg 1, ⟨.fz, 3, cs1⟩)], [], []⟩) → loopS Try.prog 27 (.ga c39_l0) K ⟨[(0, .c (.ref (.arg 0) [] o0 l0.length)), (1, .c (.ref (.arg 1) [] o1 l1.length)), (5, .c (.sc (.int .i64 x0_0)))], [(.arg 0, ⟨.fz, 3, cs0⟩), (.arg 1, ⟨.fz, 3, cs1⟩)], [], []⟩) ?_ x0_0 y h K hx0 hx1
  clear h hx0 hx1
  intro rec ih x0_0 y h K hx0 hx1
  refine loop_unroll (ga_k fun G0 G0n G0r G0x => ?_)
  unfold c39_l0
  refine seq_k fun J9 hJ9 => ?_
  refine seq_k fun J10 hJ10 => ?_
  refine reg_k ?_
  simp only [Nat.reduceEqDiff, Nat.reduceAdd, Nat.reduceMul, Nat.reduceLeDiff, Nat.reduceLT, Int.reduceLE, Int.reduceLT, Int.reduceGT, Int.reduceGE, Int.reduceEq, Int.reduceNe, Int.reduceToNat, reduceCtorEq, ak]
  refine hJ10 _ ?_
  refine cond_k (b := decide (x0_0 < (l0.length : Int))) rfl (fun c11 => ?_) (fun c11 => ?_)
  · replace c11 := of_decide_eq_true c11; rw [if_pos c11] at h
    refine hJ9 _ ?_
    refine seq_k fun J12 hJ12 => ?_
    refine block_k fun B13 B13n B13x B13r B13j => ?_
    refine seq_k fun J14 hJ14 => ?_
    refine regD_k ?_
    obtain ⟨b15, h⟩ := of_guard h
    have g16 : (List.drop (o0 + x0_0.toNat * 3) (cs0)).take 3 = [.sc (.int .i64 ((rd z63 l0 x0_0).f0)), .sc (.int .i64 ((rd z63 l0 x0_0).f1)), .sc (.int .u32 ((rd z63 l0 x0_0).f2))] := hv0.stretch z63 b15.1 b15.2
    obtain ⟨b17, h⟩ := of_guard h
    have g18 : (List.drop (o1 + x0_0.toNat * 3) (cs1)).take 3 = [.sc (.int .i64 ((rd z63 l1 x0_0).f0)), .sc (.int .i64 ((rd z63 l1 x0_0).f1)), .sc (.int .u32 ((rd z63 l1 x0_0).f2))] := hv1.stretch z63 b17.1 b17.2
    simp only [Nat.reduceBEq, Nat.reduceEqDiff, Nat.reduceAdd, Nat.reduceMul, Nat.reduceLeDiff, Nat.reduceLT, Int.reduceLE, Int.reduceLT, Int.reduceGT, Int.reduceGE, Int.reduceEq, Int.reduceNe, Int.reduceToNat, reduceCtorEq, ak, b15, g16, b17, g18]
    obtain ⟨t19, h20, h⟩ := of_bind h
    refine alt_e ?_
    · simp only [Nat.reduceBEq, Nat.reduceEqDiff, Nat.reduceAdd, Nat.reduceMul, Nat.reduceLeDiff, Nat.reduceLT, Int.reduceLE, Int.reduceLT, Int.reduceGT, Int.reduceGE, Int.reduceEq, Int.reduceNe, Int.reduceToNat, reduceCtorEq, ak]
      refine call_m [] (s0 := []) (by intro t ht; cases ht; decide) rfl rfl (by first | rfl | simp only [reduceCtorEq, Nat.reduceEqDiff, ak, akF, b15, b17, g16, g18]) (laws_eqSubEvent.tri ((rd z63 l0 x0_0).f0) ((rd z63 l0 x0_0).f1) ((rd z63 l0 x0_0).f2) ((rd z63 l1 x0_0).f0) ((rd z63 l1 x0_0).f1) ((rd z63 l1 x0_0).f2) _ h20) (by first | rfl | simp only [reduceCtorEq, Nat.reduceEqDiff, ak, akF]) (by simp [bkOk2, memK]) (fun hl21 => ?_)
      refine call_st (s4 := [(.arg 0, ⟨.fz, 3, cs0⟩), (.arg 1, ⟨.fz, 3, cs1⟩)]) (m1' := []) (m2' := []) (v' := .c (.sc (.bool t19))) (Sto.mapN_killNil _ _) (mrgL_nil' _ _ _) (by rfl) (mapT_killNil _ _) (by rfl) (by rfl) (by first | rfl | simp only [reduceCtorEq, Nat.reduceEqDiff, ak, akF, Nat.zero_add, List.append_nil, b15, b17]) ?_
      simp only [Nat.reduceBEq, Nat.reduceEqDiff, Nat.reduceAdd, Nat.reduceMul, Nat.reduceLeDiff, Nat.reduceLT, Int.reduceLE, Int.reduceLT, Int.reduceGT, Int.reduceGE, Int.reduceEq, Int.reduceNe, Int.reduceToNat, reduceCtorEq, ak]
      refine hJ14 _ ?_
      refine cond_k (b := !t19) rfl (fun c23 => ?_) (fun c23 => ?_)
      · rw [if_pos c23] at h
        refine seq_k fun J24 hJ24 => ?_
        refine reg_k ?_
        simp only [Nat.reduceEqDiff, Nat.reduceAdd, Nat.reduceMul, Nat.reduceLeDiff, Nat.reduceLT, Int.reduceLE, Int.reduceLT, Int.reduceGT, Int.reduceGE, Int.reduceEq, Int.reduceNe, Int.reduceToNat, reduceCtorEq, ak]
        refine hJ24 _ ?_
        obtain rfl := Option.some.inj h
        refine gh_k (st' := ⟨[(4, .c (.sc (.bool false)))], [(.arg 0, ⟨.fz, 3, cs0⟩), (.arg 1, ⟨.fz, 3, cs1⟩)], [], []⟩) (((Weak.keep [4]).trans ((Weak.foc [(.arg 0, ⟨(.arg 0), [], none, .fz⟩), (.arg 1, ⟨(.arg 1), [], none, .fz⟩)] rfl (by first | rfl | simp only [reduceCtorEq, Nat.reduceEqDiff, ak, akF, b15, b17]) (by simp [argK, akG, ak])).trans (Weak.of_eq (by first | rfl | (simp only [reduceCtorEq, Nat.reduceEqDiff, ak, akF, b15, b17]; done) | (simp [reduceCtorEq, Nat.reduceEqDiff, ak, akF, b15, b17]; done)))))) ?_
        refine B13r _ ?_
        refine G0r _ ?_
        exact hx1 _ rfl
      · rw [if_neg (Bool.eq_false_iff.1 c23)] at h
        refine B13n _ ?_
        refine hJ12 _ ?_
        refine reg_k ?_
        simp only [Nat.reduceEqDiff, Nat.reduceAdd, Nat.reduceMul, Nat.reduceLeDiff, Nat.reduceLT, Int.reduceLE, Int.reduceLT, Int.reduceGT, Int.reduceGE, Int.reduceEq, Int.reduceNe, Int.reduceToNat, reduceCtorEq, ak]
        refine G0n _ (⟨[(0, .c (.ref (.arg 0) [] o0 l0.length)), (1, .c (.ref (.arg 1) [] o1 l1.length)), (5, .c (.sc (.int .i64 (IntKind.i64.wrap (x0_0 + 1)))))], [(.arg 0, ⟨.fz, 3, cs0⟩), (.arg 1, ⟨.fz, 3, cs1⟩)], [], []⟩) (((Weak.keep [0, 1, 5]).trans ((Weak.foc [(.arg 0, ⟨(.arg 0), [], none, .fz⟩), (.arg 1, ⟨(.arg 1), [], none, .fz⟩)] rfl (by first | rfl | simp only [reduceCtorEq, Nat.reduceEqDiff, ak, akF, b15, b17]) (by simp [argK, akG, ak])).trans (Weak.of_eq (by first | rfl | (simp only [reduceCtorEq, Nat.reduceEqDiff, ak, akF, b15, b17]; done) | (simp [reduceCtorEq, Nat.reduceEqDiff, ak, akF, b15, b17]; done)))))) (ih _ _ h K hx0 hx1)
  · replace c11 := of_decide_eq_false c11; rw [if_neg c11] at h
    obtain rfl := Option.some.inj h
    refine gh_k (st' := ⟨[], [(.arg 0, ⟨.fz, 3, cs0⟩), (.arg 1, ⟨.fz, 3, cs1⟩)], [], []⟩) (((Weak.keep []).trans ((Weak.foc [(.arg 0, ⟨(.arg 0), [], none, .fz⟩), (.arg 1, ⟨(.arg 1), [], none, .fz⟩)] rfl (by first | rfl | simp only [reduceCtorEq, Nat.reduceEqDiff, ak, akF]) (by simp [argK, akG, ak])).trans (Weak.of_eq (by first | rfl | (simp only [reduceCtorEq, Nat.reduceEqDiff, ak, akF]; done) | (simp [reduceCtorEq, Nat.reduceEqDiff, ak, akF]; done)))))) ?_
    refine G0x _ _ ?_
    exact hx0 _ rfl
set_option maxRecDepth 100000 in
set_option maxHeartbeats 4000000 in
theorem laws_eqSubEventS.tri (cs0 : List Cell) (o0 : Nat) (l0 : List S63) (hv0 : Vw c63 3 cs0 o0 l0) (cs1 : List Cell) (o1 : Nat) (l1 : List S63) (hv1 : Vw c63 3 cs1 o1 l1) (r : Bool) (h : laws_eqSubEventS.f l0 l1 = some r) : Tri Try.prog 39 [.c (.ref (.arg 0) [] o0 l0.length), .c (.ref (.arg 1) [] o1 l1.length)] [(.arg 0, ⟨.fz, 3, cs0⟩), (.arg 1, ⟨.fz, 3, cs1⟩)] (fun o => o = ⟨.c (.sc (.bool r)), [(.arg 0, ⟨.fz, 3, cs0⟩), (.arg 1, ⟨.fz, 3, cs1⟩)], [], []⟩) := by
  refine tri_of_body (ac := c39) (xs := r39) Try.func39 (show Try.f39.body = some (Try.f39.body.getD .skip) from rfl) k39 q39 (Nat.le_of_ble_eq_true rfl) ?_
  refine body_of fun K hKn hKr => ?_
  unfold laws_eqSubEventS.f at h
  unfold c39
  simp only [initT, Nat.reduceAdd]
  refine seq_k fun J1 hJ1 => ?_
  refine reg_k ?_
  simp only [Nat.reduceEqDiff, Nat.reduceAdd, Nat.reduceMul, Nat.reduceLeDiff, Nat.reduceLT, Int.reduceLE, Int.reduceLT, Int.reduceGT, Int.reduceGE, Int.reduceEq, Int.reduceNe, Int.reduceToNat, reduceCtorEq, ak]
  refine hJ1 _ ?_
  refine seq_k fun J2 hJ2 => ?_
  refine seq_k fun J3 hJ3 => ?_
  refine reg_k ?_
  simp only [Nat.reduceEqDiff, Nat.reduceAdd, Nat.reduceMul, Nat.reduceLeDiff, Nat.reduceLT, Int.reduceLE, Int.reduceLT, Int.reduceGT, Int.reduceGE, Int.reduceEq, Int.reduceNe, Int.reduceToNat, reduceCtorEq, ak]
  refine hJ3 _ ?_
  refine cond_k (b := decide ((l0.length : Int) ≠ (l1.length : Int))) rfl (fun c4 => ?_) (fun c4 => ?_)
  · replace c4 := of_decide_eq_true c4; rw [if_pos c4] at h
    refine seq_k fun J5 hJ5 => ?_
    refine reg_k ?_
    simp only [Nat.reduceEqDiff, Nat.reduceAdd, Nat.reduceMul, Nat.reduceLeDiff, Nat.reduceLT, Int.reduceLE, Int.reduceLT, Int.reduceGT, Int.reduceGE, Int.reduceEq, Int.reduceNe, Int.reduceToNat, reduceCtorEq, ak]
    refine hJ5 _ ?_
    obtain rfl := Option.some.inj h
    refine hKr _ ⟨_, rfl, [], _, rfl, rfl, ?_⟩
    first | rfl | (simp only [reduceCtorEq, Nat.reduceEqDiff, ak, akF]; done) | (simp [reduceCtorEq, Nat.reduceEqDiff, ak, akF]; done)
  · replace c4 := of_decide_eq_false c4; rw [if_neg c4] at h
    refine hJ2 _ ?_
    refine seq_k fun J6 hJ6 => ?_
    refine seq_k fun J7 hJ7 => ?_
    refine reg_k ?_
    simp only [Nat.reduceEqDiff, Nat.reduceAdd, Nat.reduceMul, Nat.reduceLeDiff, Nat.reduceLT, Int.reduceLE, Int.reduceLT, Int.reduceGT, Int.reduceGE, Int.reduceEq, Int.reduceNe, Int.reduceToNat, reduceCtorEq, ak]
    refine hJ7 _ ?_
    refine block_k fun B8 B8n B8x B8r B8j => ?_
    obtain ⟨y25, h26, h⟩ := of_bind h
    refine gh_k (st' := ⟨[(0, .c (.ref (.arg 0) [] o0 l0.length)), (1, .c (.ref (.arg 1) [] o1 l1.length)), (5, .c (.sc (.int .i64 0)))], [(.arg 0, ⟨.fz, 3, cs0⟩), (.arg 1, ⟨.fz, 3, cs1⟩)], [], []⟩) (((Weak.keep [0, 1, 5]).trans ((Weak.foc [(.arg 0, ⟨(.arg 0), [], none, .fz⟩), (.arg 1, ⟨(.arg 1), [], none, .fz⟩)] rfl (by first | rfl | simp only [reduceCtorEq, Nat.reduceEqDiff, ak, akF]) (by simp [argK, akG, ak])).trans (Weak.of_eq (by first | rfl | (simp only [reduceCtorEq, Nat.reduceEqDiff, ak, akF]; done) | (simp [reduceCtorEq, Nat.reduceEqDiff, ak, akF]; done)))))) ?_
    rw [e_loop]
    refine laws_eqSubEventS.l0_walk cs0 o0 l0 hv0 cs1 o1 l1 hv1 0 _ h26 _ ?_ ?_
    · rintro x27 rfl
      dsimp only at h
      refine B8x _ ?_
      refine hJ6 _ ?_
      refine seq_k fun J28 hJ28 => ?_
      refine reg_k ?_
      simp only [Nat.reduceEqDiff, Nat.reduceAdd, Nat.reduceMul, Nat.reduceLeDiff, Nat.reduceLT, Int.reduceLE, Int.reduceLT, Int.reduceGT, Int.reduceGE, Int.reduceEq, Int.reduceNe, Int.reduceToNat, reduceCtorEq, ak]
      refine hJ28 _ ?_
      obtain rfl := Option.some.inj h
      refine hKr _ ⟨_, rfl, [], _, rfl, rfl, ?_⟩
      first | rfl | (simp only [reduceCtorEq, Nat.reduceEqDiff, ak, akF]; done) | (simp [reduceCtorEq, Nat.reduceEqDiff, ak, akF]; done)
    · rintro x27 rfl
      dsimp only at h
      refine B8r _ ?_
      obtain rfl := Option.some.inj h
      refine hKr _ ⟨_, rfl, [], _, rfl, rfl, ?_⟩
      first | rfl | (simp only [reduceCtorEq, Nat.reduceEqDiff, ak, akF]; done) | (simp [reduceCtorEq, Nat.reduceEqDiff, ak, akF]; done)
/-! ### laws.markSubEventS: function 40 -/
def c40_l0 : AC := .seq (.seq (.reg [.op none (.mv 6 (.tmp 5)), .op none (.mv 7 (.tmp 0)), .op none (.len 8 (.tmp 7)), .op none (.bin 9 .lss (.tmp 6) (.tmp 8)), .keep [0, 1, 5, 9]]) (.cond (.tmp 9) (.skip) (.gh (.exit 0)))) (.seq (.block 1 (.seq (.reg [.op none (.mv 12 (.tmp 0)), .op none (.mv 13 (.tmp 5)), .op none (.mv 14 (.tmp 1)), .op none (.iaddr 15 3 (.tmp 12) (.tmp 13)), .op none (.faddr 16 0 (.tmp 15)), .op none (.store 1 (.tmp 16) (.tmp 14)), .keep [0, 1, 5]]) (.seq (.reg [.op none (.mv 17 (.tmp 1)), .op none (.bin 18 .add (.tmp 17) (.const (.int .i64 1))), .op none (.mv 1 (.tmp 18)), .keep [0, 1, 5]]) (.seq (.reg [.op none (.mv 19 (.tmp 0)), .op none (.mv 20 (.tmp 5)), .op none (.mv 21 (.tmp 1)), .op none (.iaddr 22 3 (.tmp 19) (.tmp 20)), .op none (.faddr 23 1 (.tmp 22)), .op none (.store 1 (.tmp 23) (.tmp 21)), .keep [0, 1, 5]]) (.seq (.reg [.op none (.mv 24 (.tmp 1)), .op none (.bin 25 .add (.tmp 24) (.const (.int .i64 1))), .op none (.mv 1 (.tmp 25)), .keep [0, 1, 5]]) (.seq (.reg [.op none (.mv 26 (.tmp 0)), .op none (.mv 27 (.tmp 5)), .op none (.mv 28 (.tmp 1)), .op none (.conv 29 .u32 (.tmp 28)), .op none (.iaddr 30 3 (.tmp 26) (.tmp 27)), .op none (.faddr 31 2 (.tmp 30)), .op none (.store 1 (.tmp 31) (.tmp 29)), .keep [0, 1, 5]]) (.reg [.op none (.mv 32 (.tmp 1)), .op none (.bin 33 .add (.tmp 32) (.const (.int .i64 1))), .op none (.mv 1 (.tmp 33)), .keep [0, 1, 5]]))))))) (.reg [.op none (.mv 10 (.tmp 5)), .op none (.bin 11 .add (.tmp 10) (.const (.int .i64 1))), .op none (.mv 5 (.tmp 11)), .keep [0, 1, 5]]))
def c40 : AC := .seq (.reg [.op none (.mv 4 (.const (.int .i64 0))), .keep [0, 1]]) (.seq (.seq (.reg [.op none (.mv 5 (.const (.int .i64 0))), .keep [0, 1, 5]]) (.block 0 (.gh (.loop (.ga c40_l0))))) (.seq (.reg [.op none (.mv 34 (.tmp 1)), .op none (.mv 4 (.tmp 34)), .keep [4]]) (.ret)))
def r40 : List RV := [.tmp 4]
theorem k40 : compC Try.prog 35 c40 (Try.f40.body.getD .skip) = some c40.erase := by kernel_rfl
theorem q40 : rvsOf Try.prog Try.f40.results.toList = some r40 := by kernel_rfl
def laws_markSubEventS.l0 (x0_0 : Int) (x0_1 : Int) (x0_2 : (List S63)) : Option (Int × (List S63)) := (if x0_1 < (x0_2.length : Int) then (if 0 ≤ x0_1 ∧ x0_1 < (x0_2.length : Int) then (laws_markSubEventS.l0 (IntKind.i64.wrap ((IntKind.i64.wrap ((IntKind.i64.wrap (x0_0 + 1)) + 1)) + 1)) (IntKind.i64.wrap (x0_1 + 1)) (x0_2.set x0_1.toNat (⟨x0_0, IntKind.i64.wrap (x0_0 + 1), IntKind.u32.wrap (IntKind.i64.wrap ((IntKind.i64.wrap (x0_0 + 1)) + 1))⟩ : S63))) else none) else (some (x0_0, x0_2)))
  partial_fixpoint
def laws_markSubEventS.f (l0 : List S63) (a1 : Int) : Option (Int × (List S63)) := (laws_markSubEventS.l0 a1 0 l0 >>= fun (y31 : (Int × (List S63))) => (some (y31.1, y31.2)))
set_option maxRecDepth 100000 in
set_option maxHeartbeats 4000000 in
theorem laws_markSubEventS.l0_walk (x0_0 : Int) (x0_1 : Int) (x0_2 : (List S63)) (y : (Int × (List S63))) (h : laws_markSubEventS.l0  x0_0 x0_1 x0_2 = some y) (K : AE → St → Prop) (hx0 : K (.exit 0) ⟨[(1, .c (.sc (.int .i64 y.1)))], [(.arg 0, ⟨.lst, 3, encL c63 y.2⟩)], [], []⟩) : loopS Try.prog 35 (.ga c40_l0) K ⟨[(0, .c (.ref (.arg 0) [] 0 x0_2.length)), (1, .c (.sc (.int .i64 x0_0))), (5, .c (.sc (.int .i64 x0_1)))], [(.arg 0, ⟨.lst, 3, encL c63 x0_2⟩)], [], []⟩ := by
  refine laws_markSubEventS.l0.partial_correctness  (motive := fun x0_0 x0_1 x0_2 y => ∀ (K : AE → St → Prop), (K (.exit 0) ⟨[(1, .c (.sc (.int .i64 y.1)))], [(.arg 0, ⟨.lst, 3, encL c63 y.2⟩)], [], []⟩) → loopS Try.prog 35 (.ga c40_l0) K ⟨[(0, .c (.ref (.arg 0) [] 0 x0_2.length)), (1, .c (.sc (.int .i64 x0_0))), (5, .c (.sc (.int .i64 x0_1)))], [(.arg 0, ⟨.lst, 3, encL c63 x0_2⟩)], [], []⟩) ?_ x0_0 x0_1 x0_2 y h K hx0
  clear h hx0
  intro rec ih x0_0 x0_1 x0_2 y h K hx0
  refine loop_unroll (ga_k fun G0 G0n G0r G0x => ?_)
  unfold c40_l0
  refine seq_k fun J5 hJ5 => ?_
  refine seq_k fun J6 hJ6 => ?_
  refine reg_k ?_
  simp only [Nat.reduceEqDiff, Nat.reduceAdd, Nat.reduceMul, Nat.reduceLeDiff, Nat.reduceLT, Int.reduceLE, Int.reduceLT, Int.reduceGT, Int.reduceGE, Int.reduceEq, Int.reduceNe, Int.reduceToNat, reduceCtorEq, ak]
  refine hJ6 _ ?_
  refine cond_k (b := decide (x0_1 < (x0_2.length : Int))) rfl (fun c7 => ?_) (fun c7 => ?_)
  · replace c7 := of_decide_eq_true c7; rw [if_pos c7] at h
    refine hJ5 _ ?_
    refine seq_k fun J8 hJ8 => ?_
    refine block_k fun B9 B9n B9x B9r B9j => ?_
    refine seq_k fun J10 hJ10 => ?_
    refine reg_k ?_
    obtain ⟨b11, h⟩ := of_guard h
    have g12 : 0 + x0_1.toNat * 3 + 0 ≤ (encL c63 x0_2).length := ((Vw.whole c63_w x0_2).len_le b11.1 b11.2 (by decide))
    have g13 : 0 + x0_1.toNat * 3 + 0 + 1 ≤ (encL c63 x0_2).length := (Vw.whole c63_w x0_2).le b11.1 b11.2 (j := 0) (q := 1) (by decide)
    have g14 : 0 + x0_1.toNat * 3 + 0 < (encL c63 x0_2).length := (Vw.whole c63_w x0_2).lt b11.1 b11.2 (j := 0) (by decide)
    have g15 : (encL c63 x0_2)[0 + x0_1.toNat * 3 + 0]? = some (.sc (.int .i64 ((rd z63 x0_2 x0_1).f0))) := (Vw.whole c63_w x0_2).get z63 0 b11.1 b11.2 (by decide)
    have g16 : (encL c63 x0_2).set (0 + x0_1.toNat * 3 + 0) (.sc (.int .i64 x0_0)) = encL c63 (x0_2.set x0_1.toNat (⟨x0_0, (rd z63 x0_2 x0_1).f1, (rd z63 x0_2 x0_1).f2⟩ : S63)) := encL_put c63_w z63 b11.1 b11.2 (j := 0) (by decide) rfl
    simp only [Nat.reduceEqDiff, Nat.reduceAdd, Nat.reduceMul, Nat.reduceLeDiff, Nat.reduceLT, Int.reduceLE, Int.reduceLT, Int.reduceGT, Int.reduceGE, Int.reduceEq, Int.reduceNe, Int.reduceToNat, reduceCtorEq, ak, b11, g12, g13, g14, g15, g16]
    refine hJ10 _ ?_
    refine seq_k fun J17 hJ17 => ?_
    refine reg_k ?_
    simp only [Nat.reduceEqDiff, Nat.reduceAdd, Nat.reduceMul, Nat.reduceLeDiff, Nat.reduceLT, Int.reduceLE, Int.reduceLT, Int.reduceGT, Int.reduceGE, Int.reduceEq, Int.reduceNe, Int.reduceToNat, reduceCtorEq, ak]
    refine hJ17 _ ?_
    refine seq_k fun J18 hJ18 => ?_
    refine reg_k ?_
    have g19 : 0 + x0_1.toNat * 3 + 1 ≤ (encL c63 (x0_2.set x0_1.toNat (⟨x0_0, (rd z63 x0_2 x0_1).f1, (rd z63 x0_2 x0_1).f2⟩ : S63))).length := ((Vw.whole c63_w (x0_2.set x0_1.toNat (⟨x0_0, (rd z63 x0_2 x0_1).f1, (rd z63 x0_2 x0_1).f2⟩ : S63))).len_le b11.1 (lt_len b11.2 (by simp)) (by decide))
    have g20 : 0 + x0_1.toNat * 3 + 1 + 1 ≤ (encL c63 (x0_2.set x0_1.toNat (⟨x0_0, (rd z63 x0_2 x0_1).f1, (rd z63 x0_2 x0_1).f2⟩ : S63))).length := (Vw.whole c63_w (x0_2.set x0_1.toNat (⟨x0_0, (rd z63 x0_2 x0_1).f1, (rd z63 x0_2 x0_1).f2⟩ : S63))).le b11.1 (lt_len b11.2 (by simp)) (j := 1) (q := 1) (by decide)
    have g21 : 0 + x0_1.toNat * 3 + 1 < (encL c63 (x0_2.set x0_1.toNat (⟨x0_0, (rd z63 x0_2 x0_1).f1, (rd z63 x0_2 x0_1).f2⟩ : S63))).length := encL_put_lt c63_w (⟨x0_0, (rd z63 x0_2 x0_1).f1, (rd z63 x0_2 x0_1).f2⟩ : S63) b11.1 b11.2 (j := 1) (by decide)
    have g22 : (encL c63 (x0_2.set x0_1.toNat (⟨x0_0, (rd z63 x0_2 x0_1).f1, (rd z63 x0_2 x0_1).f2⟩ : S63)))[0 + x0_1.toNat * 3 + 1]? = some (.sc (.int .i64 ((rd z63 x0_2 x0_1).f1))) := encL_put_get c63_w (⟨x0_0, (rd z63 x0_2 x0_1).f1, (rd z63 x0_2 x0_1).f2⟩ : S63) b11.1 b11.2 (j := 1) (by decide)
    have g23 : (encL c63 (x0_2.set x0_1.toNat (⟨x0_0, (rd z63 x0_2 x0_1).f1, (rd z63 x0_2 x0_1).f2⟩ : S63))).set (0 + x0_1.toNat * 3 + 1) (.sc (.int .i64 (IntKind.i64.wrap (x0_0 + 1)))) = encL c63 (x0_2.set x0_1.toNat (⟨x0_0, IntKind.i64.wrap (x0_0 + 1), (rd z63 x0_2 x0_1).f2⟩ : S63)) := encL_put2 c63_w b11.1 b11.2 (j := 1) (by decide) rfl
    simp only [Nat.reduceEqDiff, Nat.reduceAdd, Nat.reduceMul, Nat.reduceLeDiff, Nat.reduceLT, Int.reduceLE, Int.reduceLT, Int.reduceGT, Int.reduceGE, Int.reduceEq, Int.reduceNe, Int.reduceToNat, reduceCtorEq, ak, b11, g19, g20, g21, g22, g23]
    refine hJ18 _ ?_
    refine seq_k fun J24 hJ24 => ?_
    refine reg_k ?_
    simp only [Nat.reduceEqDiff, Nat.reduceAdd, Nat.reduceMul, Nat.reduceLeDiff, Nat.reduceLT, Int.reduceLE, Int.reduceLT, Int.reduceGT, Int.reduceGE, Int.reduceEq, Int.reduceNe, Int.reduceToNat, reduceCtorEq, ak]
    refine hJ24 _ ?_
    refine seq_k fun J25 hJ25 => ?_
    refine reg_k ?_
    have g26 : 0 + x0_1.toNat * 3 + 2 ≤ (encL c63 (x0_2.set x0_1.toNat (⟨x0_0, IntKind.i64.wrap (x0_0 + 1), (rd z63 x0_2 x0_1).f2⟩ : S63))).length := ((Vw.whole c63_w (x0_2.set x0_1.toNat (⟨x0_0, IntKind.i64.wrap (x0_0 + 1), (rd z63 x0_2 x0_1).f2⟩ : S63))).len_le b11.1 (lt_len b11.2 (by simp)) (by decide))
    have g27 : 0 + x0_1.toNat * 3 + 2 + 1 ≤ (encL c63 (x0_2.set x0_1.toNat (⟨x0_0, IntKind.i64.wrap (x0_0 + 1), (rd z63 x0_2 x0_1).f2⟩ : S63))).length := (Vw.whole c63_w (x0_2.set x0_1.toNat (⟨x0_0, IntKind.i64.wrap (x0_0 + 1), (rd z63 x0_2 x0_1).f2⟩ : S63))).le b11.1 (lt_len b11.2 (by simp)) (j := 2) (q := 1) (by decide)
    have g28 : 0 + x0_1.toNat * 3 + 2 < (encL c63 (x0_2.set x0_1.toNat (⟨x0_0, IntKind.i64.wrap (x0_0 + 1), (rd z63 x0_2 x0_1).f2⟩ : S63))).length := encL_put_lt c63_w (⟨x0_0, IntKind.i64.wrap (x0_0 + 1), (rd z63 x0_2 x0_1).f2⟩ : S63) b11.1 b11.2 (j := 2) (by decide)
    have g29 : (encL c63 (x0_2.set x0_1.toNat (⟨x0_0, IntKind.i64.wrap (x0_0 + 1), (rd z63 x0_2 x0_1).f2⟩ : S63)))[0 + x0_1.toNat * 3 + 2]? = some (.sc (.int .u32 ((rd z63 x0_2 x0_1).f2))) := encL_put_get c63_w (⟨x0_0, IntKind.i64.wrap (x0_0 + 1), (rd z63 x0_2 x0_1).f2⟩ : S63) b11.1 b11.2 (j := 2) (by decide)
    have g30 : (encL c63 (x0_2.set x0_1.toNat (⟨x0_0, IntKind.i64.wrap (x0_0 + 1), (rd z63 x0_2 x0_1).f2⟩ : S63))).set (0 + x0_1.toNat * 3 + 2) (.sc (.int .u32 (IntKind.u32.wrap (IntKind.i64.wrap ((IntKind.i64.wrap (x0_0 + 1)) + 1))))) = encL c63 (x0_2.set x0_1.toNat (⟨x0_0, IntKind.i64.wrap (x0_0 + 1), IntKind.u32.wrap (IntKind.i64.wrap ((IntKind.i64.wrap (x0_0 + 1)) + 1))⟩ : S63)) := encL_put2 c63_w b11.1 b11.2 (j := 2) (by decide) rfl
    simp only [Nat.reduceEqDiff, Nat.reduceAdd, Nat.reduceMul, Nat.reduceLeDiff, Nat.reduceLT, Int.reduceLE, Int.reduceLT, Int.reduceGT, Int.reduceGE, Int.reduceEq, Int.reduceNe, Int.reduceToNat, reduceCtorEq, ak, b11, g26, g27, g28, g29, g30]
    refine hJ25 _ ?_
    refine reg_k ?_
    simp only [Nat.reduceEqDiff, Nat.reduceAdd, Nat.reduceMul, Nat.reduceLeDiff, Nat.reduceLT, Int.reduceLE, Int.reduceLT, Int.reduceGT, Int.reduceGE, Int.reduceEq, Int.reduceNe, Int.reduceToNat, reduceCtorEq, ak]
    refine B9n _ ?_
    refine hJ8 _ ?_
    refine reg_k ?_
    simp only [Nat.reduceEqDiff, Nat.reduceAdd, Nat.reduceMul, Nat.reduceLeDiff, Nat.reduceLT, Int.reduceLE, Int.reduceLT, Int.reduceGT, Int.reduceGE, Int.reduceEq, Int.reduceNe, Int.reduceToNat, reduceCtorEq, ak]
    refine G0n _ (⟨[(0, .c (.ref (.arg 0) [] 0 ((x0_2.set x0_1.toNat (⟨x0_0, IntKind.i64.wrap (x0_0 + 1), IntKind.u32.wrap (IntKind.i64.wrap ((IntKind.i64.wrap (x0_0 + 1)) + 1))⟩ : S63)).length))), (1, .c (.sc (.int .i64 (IntKind.i64.wrap ((IntKind.i64.wrap ((IntKind.i64.wrap (x0_0 + 1)) + 1)) + 1))))), (5, .c (.sc (.int .i64 (IntKind.i64.wrap (x0_1 + 1)))))], [(.arg 0, ⟨.lst, 3, encL c63 (x0_2.set x0_1.toNat (⟨x0_0, IntKind.i64.wrap (x0_0 + 1), IntKind.u32.wrap (IntKind.i64.wrap ((IntKind.i64.wrap (x0_0 + 1)) + 1))⟩ : S63))⟩)], [], []⟩) (((Weak.keep [0, 1, 5]).trans ((Weak.foc [(.arg 0, ⟨(.arg 0), [], none, .lst⟩)] rfl (by first | rfl | simp only [reduceCtorEq, Nat.reduceEqDiff, ak, akF, b11]) (by simp [argK, akG, ak])).trans (Weak.of_eq (by first | rfl | (simp only [reduceCtorEq, Nat.reduceEqDiff, ak, akF, b11]; done) | (simp [reduceCtorEq, Nat.reduceEqDiff, ak, akF, b11]; done)))))) (ih _ _ _ _ h K hx0)
  · replace c7 := of_decide_eq_false c7; rw [if_neg c7] at h
    obtain rfl := Option.some.inj h
    refine gh_k (st' := ⟨[(1, .c (.sc (.int .i64 x0_0)))], [(.arg 0, ⟨.lst, 3, encL c63 x0_2⟩)], [], []⟩) (((Weak.keep [1]).trans ((Weak.foc [(.arg 0, ⟨(.arg 0), [], none, .lst⟩)] rfl (by first | rfl | simp only [reduceCtorEq, Nat.reduceEqDiff, ak, akF]) (by simp [argK, akG, ak])).trans (Weak.of_eq (by first | rfl | (simp only [reduceCtorEq, Nat.reduceEqDiff, ak, akF]; done) | (simp [reduceCtorEq, Nat.reduceEqDiff, ak, akF]; done)))))) ?_
    refine G0x _ _ ?_
    exact hx0
set_option maxRecDepth 100000 in
set_option maxHeartbeats 4000000 in
theorem laws_markSubEventS.tri (l0 : List S63) (a1 : Int) (r : Int × (List S63)) (h : laws_markSubEventS.f l0 a1 = some r) : Tri Try.prog 40 [.c (.ref (.arg 0) [] 0 l0.length), .c (.sc (.int .i64 a1))] [(.arg 0, ⟨.lst, 3, encL c63 l0⟩)] (fun o => o = ⟨.c (.sc (.int .i64 r.1)), [(.arg 0, ⟨.lst, 3, encL c63 r.2⟩)], [], []⟩) := by
  refine tri_of_body (ac := c40) (xs := r40) Try.func40 (show Try.f40.body = some (Try.f40.body.getD .skip) from rfl) k40 q40 (Nat.le_of_ble_eq_true rfl) ?_
  refine body_of fun K hKn hKr => ?_
  unfold laws_markSubEventS.f at h
  unfold c40
  simp only [initT, Nat.reduceAdd]
  refine seq_k fun J1 hJ1 => ?_
  refine reg_k ?_
  simp only [Nat.reduceEqDiff, Nat.reduceAdd, Nat.reduceMul, Nat.reduceLeDiff, Nat.reduceLT, Int.reduceLE, Int.reduceLT, Int.reduceGT, Int.reduceGE, Int.reduceEq, Int.reduceNe, Int.reduceToNat, reduceCtorEq, ak]
  refine hJ1 _ ?_
  refine seq_k fun J2 hJ2 => ?_
  refine seq_k fun J3 hJ3 => ?_
  refine reg_k ?_
  simp only [Nat.reduceEqDiff, Nat.reduceAdd, Nat.reduceMul, Nat.reduceLeDiff, Nat.reduceLT, Int.reduceLE, Int.reduceLT, Int.reduceGT, Int.reduceGE, Int.reduceEq, Int.reduceNe, Int.reduceToNat, reduceCtorEq, ak]
  refine hJ3 _ ?_
  refine block_k fun B4 B4n B4x B4r B4j => ?_
  obtain ⟨y31, h32, h⟩ := of_bind h
  refine gh_k (st' := ⟨[(0, .c (.ref (.arg 0) [] 0 l0.length)), (1, .c (.sc (.int .i64 a1))), (5, .c (.sc (.int .i64 0)))], [(.arg 0, ⟨.lst, 3, encL c63 l0⟩)], [], []⟩) (((Weak.keep [0, 1, 5]).trans ((Weak.foc [(.arg 0, ⟨(.arg 0), [], none, .lst⟩)] rfl (by first | rfl | simp only [reduceCtorEq, Nat.reduceEqDiff, ak, akF]) (by simp [argK, akG, ak])).trans (Weak.of_eq (by first | rfl | (simp only [reduceCtorEq, Nat.reduceEqDiff, ak, akF]; done) | (simp [reduceCtorEq, Nat.reduceEqDiff, ak, akF]; done)))))) ?_
  rw [e_loop]
  refine laws_markSubEventS.l0_walk a1 0 l0 _ h32 _ ?_
  refine B4x _ ?_
  refine hJ2 _ ?_
  refine seq_k fun J33 hJ33 => ?_
  refine reg_k ?_
  simp only [Nat.reduceEqDiff, Nat.reduceAdd, Nat.reduceMul, Nat.reduceLeDiff, Nat.reduceLT, Int.reduceLE, Int.reduceLT, Int.reduceGT, Int.reduceGE, Int.reduceEq, Int.reduceNe, Int.reduceToNat, reduceCtorEq, ak]
  refine hJ33 _ ?_
  obtain rfl := Option.some.inj h
  refine hKr _ ⟨_, rfl, [], _, rfl, rfl, ?_⟩
  first | rfl | (simp only [reduceCtorEq, Nat.reduceEqDiff, ak, akF]; done) | (simp [reduceCtorEq, Nat.reduceEqDiff, ak, akF]; done)
/-! ### laws.markInt64S: function 94 -/
def c94_l0 : AC := .seq (.seq (.reg [.op none (.mv 6 (.tmp 5)), .op none (.mv 7 (.tmp 0)), .op none (.len 8 (.tmp 7)), .op none (.bin 9 .lss (.tmp 6) (.tmp 8)), .keep [0, 1, 5, 9]]) (.cond (.tmp 9) (.skip) (.gh (.exit 0)))) (.seq (.block 1 (.seq (.reg [.op none (.mv 12 (.tmp 0)), .op none (.mv 13 (.tmp 5)), .op none (.mv 14 (.tmp 1)), .op none (.iaddr 15 1 (.tmp 12) (.tmp 13)), .op none (.store 1 (.tmp 15) (.tmp 14)), .keep [0, 1, 5]]) (.reg [.op none (.mv 16 (.tmp 1)), .op none (.bin 17 .add (.tmp 16) (.const (.int .i64 1))), .op none (.mv 1 (.tmp 17)), .keep [0, 1, 5]]))) (.reg [.op none (.mv 10 (.tmp 5)), .op none (.bin 11 .add (.tmp 10) (.const (.int .i64 1))), .op none (.mv 5 (.tmp 11)), .keep [0, 1, 5]]))
def c94 : AC := .seq (.reg [.op none (.mv 4 (.const (.int .i64 0))), .keep [0, 1]]) (.seq (.seq (.reg [.op none (.mv 5 (.const (.int .i64 0))), .keep [0, 1, 5]]) (.block 0 (.gh (.loop (.ga c94_l0))))) (.seq (.reg [.op none (.mv 18 (.tmp 1)), .op none (.mv 4 (.tmp 18)), .keep [4]]) (.ret)))
def r94 : List RV := [.tmp 4]
theorem k94 : compC Try.prog 19 c94 (Try.f94.body.getD .skip) = some c94.erase := by kernel_rfl
theorem q94 : rvsOf Try.prog Try.f94.results.toList = some r94 := by kernel_rfl
def laws_markInt64S.l0 (x0_0 : Int) (x0_1 : Int) (x0_2 : (List Int)) : Option (Int × (List Int)) := (if x0_1 < (x0_2.length : Int) then (if 0 ≤ x0_1 ∧ x0_1 < (x0_2.length : Int) then (laws_markInt64S.l0 (IntKind.i64.wrap (x0_0 + 1)) (IntKind.i64.wrap (x0_1 + 1)) (x0_2.set x0_1.toNat x0_0)) else none) else (some (x0_0, x0_2)))
  partial_fixpoint
def laws_markInt64S.f (l0 : List Int) (a1 : Int) : Option (Int × (List Int)) := (laws_markInt64S.l0 a1 0 l0 >>= fun (y16 : (Int × (List Int))) => (some (y16.1, y16.2)))
set_option maxRecDepth 100000 in
set_option maxHeartbeats 4000000 in
theorem laws_markInt64S.l0_walk (x0_0 : Int) (x0_1 : Int) (x0_2 : (List Int)) (y : (Int × (List Int))) (h : laws_markInt64S.l0  x0_0 x0_1 x0_2 = some y) (K : AE → St → Prop) (hx0 : K (.exit 0) ⟨[(1, .c (.sc (.int .i64 y.1)))], [(.arg 0, ⟨.lst, 1, encL c_i64 y.2⟩)], [], []⟩) : loopS Try.prog 19 (.ga c94_l0) K ⟨[(0, .c (.ref (.arg 0) [] 0 x0_2.length)), (1, .c (.sc (.int .i64 x0_0))), (5, .c (.sc (.int .i64 x0_1)))], [(.arg 0, ⟨.lst, 1, encL c_i64 x0_2⟩)], [], []⟩ := by
  refine laws_markInt64S.l0.partial_correctness  (motive := fun x0_0 x0_1 x0_2 y => ∀ (K : AE → St → Prop), (K (.exit 0) ⟨[(1, .c (.sc (.int .i64 y.1)))], [(.arg 0, ⟨.lst, 1, encL c_i64 y.2⟩)], [], []⟩) → loopS Try.prog 19 (.ga c94_l0) K ⟨[(0, .c (.ref (.arg 0) [] 0 x0_2.length)), (1, .c (.sc (.int .i64 x0_0))), (5, .c (.sc (.int .i64 x0_1)))], [(.arg 0, ⟨.lst, 1, encL c_i64 x0_2⟩)], [], []⟩) ?_ x0_0 x0_1 x0_2 y h K hx0
  clear h hx0
  intro rec ih x0_0 x0_1 x0_2 y h K hx0
  refine loop_unroll (ga_k fun G0 G0n G0r G0x => ?_)
  unfold c94_l0
  refine seq_k fun J5 hJ5 => ?_
  refine seq_k fun J6 hJ6 => ?_
  refine reg_k ?_
  simp only [Nat.reduceEqDiff, Nat.reduceAdd, Nat.reduceMul, Nat.reduceLeDiff, Nat.reduceLT, Int.reduceLE, Int.reduceLT, Int.reduceGT, Int.reduceGE, Int.reduceEq, Int.reduceNe, Int.reduceToNat, reduceCtorEq, ak]
  refine hJ6 _ ?_
  refine cond_k (b := decide (x0_1 < (x0_2.length : Int))) rfl (fun c7 => ?_) (fun c7 => ?_)
  · replace c7 := of_decide_eq_true c7; rw [if_pos c7] at h
    refine hJ5 _ ?_
    refine seq_k fun J8 hJ8 => ?_
    refine block_k fun B9 B9n B9x B9r B9j => ?_
    refine seq_k fun J10 hJ10 => ?_
    refine reg_k ?_
    obtain ⟨b11, h⟩ := of_guard h
    have g12 : 0 + x0_1.toNat * 1 + 1 ≤ (encL c_i64 x0_2).length := (Vw.whole c_i64_w x0_2).le b11.1 b11.2 (j := 0) (q := 1) (by decide)
    have g13 : 0 + x0_1.toNat * 1 < (encL c_i64 x0_2).length := (Vw.whole c_i64_w x0_2).lt b11.1 b11.2 (j := 0) (by decide)
    have g14 : (encL c_i64 x0_2)[0 + x0_1.toNat * 1]? = some (.sc (.int .i64 (rd 0 x0_2 x0_1))) := (Vw.whole c_i64_w x0_2).get 0 0 b11.1 b11.2 (by decide)
    have g15 : (encL c_i64 x0_2).set (0 + x0_1.toNat * 1) (.sc (.int .i64 x0_0)) = encL c_i64 (x0_2.set x0_1.toNat x0_0) := encL_put c_i64_w 0 b11.1 b11.2 (j := 0) (by decide) rfl
    simp only [Nat.reduceEqDiff, Nat.reduceAdd, Nat.reduceMul, Nat.reduceLeDiff, Nat.reduceLT, Int.reduceLE, Int.reduceLT, Int.reduceGT, Int.reduceGE, Int.reduceEq, Int.reduceNe, Int.reduceToNat, reduceCtorEq, ak, b11, g12, g13, g14, g15]
    refine hJ10 _ ?_
    refine reg_k ?_
    simp only [Nat.reduceEqDiff, Nat.reduceAdd, Nat.reduceMul, Nat.reduceLeDiff, Nat.reduceLT, Int.reduceLE, Int.reduceLT, Int.reduceGT, Int.reduceGE, Int.reduceEq, Int.reduceNe, Int.reduceToNat, reduceCtorEq, ak]
    refine B9n _ ?_
    refine hJ8 _ ?_
    refine reg_k ?_
    simp only [Nat.reduceEqDiff, Nat.reduceAdd, Nat.reduceMul, Nat.reduceLeDiff, Nat.reduceLT, Int.reduceLE, Int.reduceLT, Int.reduceGT, Int.reduceGE, Int.reduceEq, Int.reduceNe, Int.reduceToNat, reduceCtorEq, ak]
    refine G0n _ (⟨[(0, .c (.ref (.arg 0) [] 0 ((x0_2.set x0_1.toNat x0_0).length))), (1, .c (.sc (.int .i64 (IntKind.i64.wrap (x0_0 + 1))))), (5, .c (.sc (.int .i64 (IntKind.i64.wrap (x0_1 + 1)))))], [(.arg 0, ⟨.lst, 1, encL c_i64 (x0_2.set x0_1.toNat x0_0)⟩)], [], []⟩) (((Weak.keep [0, 1, 5]).trans ((Weak.foc [(.arg 0, ⟨(.arg 0), [], none, .lst⟩)] rfl (by first | rfl | simp only [reduceCtorEq, Nat.reduceEqDiff, ak, akF, b11]) (by simp [argK, akG, ak])).trans (Weak.of_eq (by first | rfl | (simp only [reduceCtorEq, Nat.reduceEqDiff, ak, akF, b11]; done) | (simp [reduceCtorEq, Nat.reduceEqDiff, ak, akF, b11]; done)))))) (ih _ _ _ _ h K hx0)
  · replace c7 := of_decide_eq_false c7; rw [if_neg c7] at h
    obtain rfl := Option.some.inj h
    refine gh_k (st' := ⟨[(1, .c (.sc (.int .i64 x0_0)))], [(.arg 0, ⟨.lst, 1, encL c_i64 x0_2⟩)], [], []⟩) (((Weak.keep [1]).trans ((Weak.foc [(.arg 0, ⟨(.arg 0), [], none, .lst⟩)] rfl (by first | rfl | simp only [reduceCtorEq, Nat.reduceEqDiff, ak, akF]) (by simp [argK, akG, ak])).trans (Weak.of_eq (by first | rfl | (simp only [reduceCtorEq, Nat.reduceEqDiff, ak, akF]; done) | (simp [reduceCtorEq, Nat.reduceEqDiff, ak, akF]; done)))))) ?_
    refine G0x _ _ ?_
    exact hx0
set_option maxRecDepth 100000 in
set_option maxHeartbeats 4000000 in
theorem laws_markInt64S.tri (l0 : List Int) (a1 : Int) (r : Int × (List Int)) (h : laws_markInt64S.f l0 a1 = some r) : Tri Try.prog 94 [.c (.ref (.arg 0) [] 0 l0.length), .c (.sc (.int .i64 a1))] [(.arg 0, ⟨.lst, 1, encL c_i64 l0⟩)] (fun o => o = ⟨.c (.sc (.int .i64 r.1)), [(.arg 0, ⟨.lst, 1, encL c_i64 r.2⟩)], [], []⟩) := by
  refine tri_of_body (ac := c94) (xs := r94) Try.func94 (show Try.f94.body = some (Try.f94.body.getD .skip) from rfl) k94 q94 (Nat.le_of_ble_eq_true rfl) ?_
  refine body_of fun K hKn hKr => ?_
  unfold laws_markInt64S.f at h
  unfold c94
  simp only [initT, Nat.reduceAdd]
  refine seq_k fun J1 hJ1 => ?_
  refine reg_k ?_
  simp only [Nat.reduceEqDiff, Nat.reduceAdd, Nat.reduceMul, Nat.reduceLeDiff, Nat.reduceLT, Int.reduceLE, Int.reduceLT, Int.reduceGT, Int.reduceGE, Int.reduceEq, Int.reduceNe, Int.reduceToNat, reduceCtorEq, ak]
  refine hJ1 _ ?_
  refine seq_k fun J2 hJ2 => ?_
  refine seq_k fun J3 hJ3 => ?_
  refine reg_k ?_
  simp only [Nat.reduceEqDiff, Nat.reduceAdd, Nat.reduceMul, Nat.reduceLeDiff, Nat.reduceLT, Int.reduceLE, Int.reduceLT, Int.reduceGT, Int.reduceGE, Int.reduceEq, Int.reduceNe, Int.reduceToNat, reduceCtorEq, ak]
  refine hJ3 _ ?_
  refine block_k fun B4 B4n B4x B4r B4j => ?_
  obtain ⟨y16, h17, h⟩ := of_bind h
  refine gh_k (st' := ⟨[(0, .c (.ref (.arg 0) [] 0 l0.length)), (1, .c (.sc (.int .i64 a1))), (5, .c (.sc (.int .i64 0)))], [(.arg 0, ⟨.lst, 1, encL c_i64 l0⟩)], [], []⟩) (((Weak.keep [0, 1, 5]).trans ((Weak.foc [(.arg 0, ⟨(.arg 0), [], none, .lst⟩)] rfl (by first | rfl | simp only [reduceCtorEq, Nat.reduceEqDiff, ak, akF]) (by simp [argK, akG, ak])).trans (Weak.of_eq (by first | rfl | (simp only [reduceCtorEq, Nat.reduceEqDiff, ak, akF]; done) | (simp [reduceCtorEq, Nat.reduceEqDiff, ak, akF]; done)))))) ?_
  rw [e_loop]
  refine laws_markInt64S.l0_walk a1 0 l0 _ h17 _ ?_
  refine B4x _ ?_
  refine hJ2 _ ?_
  refine seq_k fun J18 hJ18 => ?_
  refine reg_k ?_
  simp only [Nat.reduceEqDiff, Nat.reduceAdd, Nat.reduceMul, Nat.reduceLeDiff, Nat.reduceLT, Int.reduceLE, Int.reduceLT, Int.reduceGT, Int.reduceGE, Int.reduceEq, Int.reduceNe, Int.reduceToNat, reduceCtorEq, ak]
  refine hJ18 _ ?_
  obtain rfl := Option.some.inj h
  refine hKr _ ⟨_, rfl, [], _, rfl, rfl, ?_⟩
  first | rfl | (simp only [reduceCtorEq, Nat.reduceEqDiff, ak, akF]; done) | (simp [reduceCtorEq, Nat.reduceEqDiff, ak, akF]; done)
/-! ### laws.markSubView: function 45 -/
def c45 : AC := .seq (.reg [.op none (.box 2 (.tmp 0)), .op none (.mv 4 (.const (.int .i64 0))), .keep [1, 2]]) (.seq (.reg [.op none (.faddr 5 2 (.tmp 2)), .op none (.load 6 false 1 (.tmp 5)), .op none (.mv 7 (.tmp 1)), .call none (some 8) 94 [.tmp 6, .tmp 7], .op none (.mv 1 (.tmp 8)), .keep [1]]) (.seq (.reg [.op none (.mv 9 (.tmp 1)), .op none (.mv 4 (.tmp 9)), .keep [4]]) (.ret)))
def r45 : List RV := [.tmp 4]
theorem k45 : compC Try.prog 10 c45 (Try.f45.body.getD .skip) = some c45.erase := by kernel_rfl
theorem q45 : rvsOf Try.prog Try.f45.results.toList = some r45 := by kernel_rfl
def laws_markSubView.f (a0_0 : Int) (a0_1 : Int) (l0_2 : List Int) (a0_3 : Int) (a0_4 : Int) (a0_5 : Int) (a0_6 : Int) (a0_7 : Int) (a1 : Int) : Option (Int × (List Int)) := (laws_markInt64S.f l0_2 a1 >>= fun t3 => (some (t3.1, t3.2)))
set_option maxRecDepth 100000 in
set_option maxHeartbeats 4000000 in
theorem laws_markSubView.tri (a0_0 : Int) (a0_1 : Int) (l0_2 : List Int) (a0_3 : Int) (a0_4 : Int) (a0_5 : Int) (a0_6 : Int) (a0_7 : Int) (a1 : Int) (r : Int × (List Int)) (h : laws_markSubView.f a0_0 a0_1 l0_2 a0_3 a0_4 a0_5 a0_6 a0_7 a1 = some r) : Tri Try.prog 45 [.g [.sc (.int .u32 a0_0), .sc (.int .u32 a0_1), .ref (.arg 0) [] 0 l0_2.length, .sc (.int .i64 a0_3), .sc (.int .i64 a0_4), .sc (.int .i64 a0_5), .sc (.int .i64 a0_6), .sc (.int .i64 a0_7)], .c (.sc (.int .i64 a1))] [(.arg 0, ⟨.lst, 1, encL c_i64 l0_2⟩)] (fun o => o = ⟨.c (.sc (.int .i64 r.1)), [(.arg 0, ⟨.lst, 1, encL c_i64 r.2⟩)], [], []⟩) := by
  refine tri_of_body (ac := c45) (xs := r45) Try.func45 (show Try.f45.body = some (Try.f45.body.getD .skip) from rfl) k45 q45 (Nat.le_of_ble_eq_true rfl) ?_
  refine body_of fun K hKn hKr => ?_
  unfold laws_markSubView.f at h
  unfold c45
  simp only [initT, Nat.reduceAdd]
  refine seq_k fun J1 hJ1 => ?_
  refine reg_k ?_
  simp only [Nat.reduceEqDiff, Nat.reduceAdd, Nat.reduceMul, Nat.reduceLeDiff, Nat.reduceLT, Int.reduceLE, Int.reduceLT, Int.reduceGT, Int.reduceGE, Int.reduceEq, Int.reduceNe, Int.reduceToNat, reduceCtorEq, ak]
  refine hJ1 _ ?_
  refine seq_k fun J2 hJ2 => ?_
  refine reg_k ?_
  simp only [Nat.reduceEqDiff, Nat.reduceAdd, Nat.reduceMul, Nat.reduceLeDiff, Nat.reduceLT, Int.reduceLE, Int.reduceLT, Int.reduceGT, Int.reduceGE, Int.reduceEq, Int.reduceNe, Int.reduceToNat, reduceCtorEq, ak]
  obtain ⟨t3, h4, h⟩ := of_bind h
  refine call_m [(.arg 0, ⟨(.arg 0), [], none, .lst⟩)] (s0 := [(.arg 0, ⟨.lst, 1, encL c_i64 l0_2⟩)]) (by intro t ht; cases ht; decide) rfl rfl (by first | rfl | simp only [reduceCtorEq, Nat.reduceEqDiff, ak, akF]) (laws_markInt64S.tri l0_2 a1 _ h4) (by first | rfl | simp only [reduceCtorEq, Nat.reduceEqDiff, ak, akF]) (by simp [bkOk2, memK]) (fun hl4 => ?_)
  have g6 : t3.2.length = l0_2.length := encL_len_inj c_i64_w (by decide) (hl4 0 (by decide) _ _ rfl rfl)
  refine call_st (s4 := [(.arg 0, ⟨.lst, 1, encL c_i64 t3.2⟩), (.tmp 2 0, ⟨.box, 0, [.sc (.int .u32 a0_0), .sc (.int .u32 a0_1), .ref (.arg 0) [] 0 l0_2.length, .sc (.int .i64 a0_3), .sc (.int .i64 a0_4), .sc (.int .i64 a0_5), .sc (.int .i64 a0_6), .sc (.int .i64 a0_7)]⟩)]) (m1' := []) (m2' := []) (v' := .c (.sc (.int .i64 t3.1))) (Sto.mapN_killNil _ _) (mrgL_whole (mrgL_nil' _ _ _) rfl (by rfl) (.inr ⟨by decide, by decide, rfl⟩)) (by rfl) (mapT_killNil _ _) (by rfl) (by rfl) (by first | rfl | simp only [reduceCtorEq, Nat.reduceEqDiff, ak, akF, Nat.zero_add, List.append_nil, g6]) ?_
  simp only [Nat.reduceEqDiff, Nat.reduceAdd, Nat.reduceMul, Nat.reduceLeDiff, Nat.reduceLT, Int.reduceLE, Int.reduceLT, Int.reduceGT, Int.reduceGE, Int.reduceEq, Int.reduceNe, Int.reduceToNat, reduceCtorEq, ak]
  refine hJ2 _ ?_
  refine seq_k fun J7 hJ7 => ?_
  refine reg_k ?_
  simp only [Nat.reduceEqDiff, Nat.reduceAdd, Nat.reduceMul, Nat.reduceLeDiff, Nat.reduceLT, Int.reduceLE, Int.reduceLT, Int.reduceGT, Int.reduceGE, Int.reduceEq, Int.reduceNe, Int.reduceToNat, reduceCtorEq, ak]
  refine hJ7 _ ?_
  obtain rfl := Option.some.inj h
  refine hKr _ ⟨_, rfl, [], _, rfl, rfl, ?_⟩
  first | rfl | (simp only [reduceCtorEq, Nat.reduceEqDiff, ak, akF, g6]; done) | (simp [reduceCtorEq, Nat.reduceEqDiff, ak, akF, g6]; done)
/-! ### laws.heldInt64S: function 96 -/
def c96_l0 : AC := .seq (.seq (.reg [.op none (.mv 6 (.tmp 5)), .op none (.mv 7 (.tmp 0)), .op none (.len 8 (.tmp 7)), .op none (.bin 9 .lss (.tmp 6) (.tmp 8)), .keep [0, 1, 5, 9]]) (.cond (.tmp 9) (.skip) (.gh (.exit 0)))) (.seq (.block 1 (.seq (.seq (.reg [.op none (.mv 12 (.tmp 0)), .op none (.mv 13 (.tmp 5)), .op none (.iaddr 14 1 (.tmp 12) (.tmp 13)), .op none (.load 15 false 1 (.tmp 14)), .op none (.mv 16 (.tmp 1)), .op none (.bin 17 .neq (.tmp 15) (.tmp 16)), .keep [0, 1, 5, 17]]) (.cond (.tmp 17) (.seq (.reg [.op none (.mv 4 (.const (.int .i64 (-1)))), .keep [4]]) (.gh .ret)) (.skip))) (.reg [.op none (.mv 18 (.tmp 1)), .op none (.bin 19 .add (.tmp 18) (.const (.int .i64 1))), .op none (.mv 1 (.tmp 19)), .keep [0, 1, 5]]))) (.reg [.op none (.mv 10 (.tmp 5)), .op none (.bin 11 .add (.tmp 10) (.const (.int .i64 1))), .op none (.mv 5 (.tmp 11)), .keep [0, 1, 5]]))
def c96 : AC := .seq (.reg [.op none (.mv 4 (.const (.int .i64 0))), .keep [0, 1]]) (.seq (.seq (.reg [.op none (.mv 5 (.const (.int .i64 0))), .keep [0, 1, 5]]) (.block 0 (.gh (.loop (.ga c96_l0))))) (.seq (.reg [.op none (.mv 20 (.tmp 1)), .op none (.mv 4 (.tmp 20)), .keep [4]]) (.ret)))
def r96 : List RV := [.tmp 4]
theorem k96 : compC Try.prog 21 c96 (Try.f96.body.getD .skip) = some c96.erase := by kernel_rfl
theorem q96 : rvsOf Try.prog Try.f96.results.toList = some r96 := by kernel_rfl
def laws_heldInt64S.l0 (l0 : List Int) (x0_0 : Int) (x0_1 : Int) : Option (Lp Int Unit) := (if x0_1 < (l0.length : Int) then (if 0 ≤ x0_1 ∧ x0_1 < (l0.length : Int) then (if (rd 0 l0 x0_1) ≠ x0_0 then (some (.b ())) else (laws_heldInt64S.l0 l0 (IntKind.i64.wrap (x0_0 + 1)) (IntKind.i64.wrap (x0_1 + 1)))) else none) else (some (.a x0_0)))
  partial_fixpoint
def laws_heldInt64S.f (l0 : List Int) (a1 : Int) : Option Int := (laws_heldInt64S.l0 l0 a1 0 >>= fun (y16 : Lp Int Unit) => match y16 with | .a x18 => (some x18) | .b x18 => (some (-1)))
set_option maxRecDepth 100000 in
set_option maxHeartbeats 4000000 in
theorem laws_heldInt64S.l0_walk (cs0 : List Cell) (o0 : Nat) (l0 : List Int) (hv0 : Vw c_i64 1 cs0 o0 l0) (x0_0 : Int) (x0_1 : Int) (y : Lp Int Unit) (h : laws_heldInt64S.l0 l0 x0_0 x0_1 = some y) (K : AE → St → Prop) (hx0 : ∀ x, y = .a x → K (.exit 0) ⟨[(1, .c (.sc (.int .i64 x)))], [(.arg 0, ⟨.fz, 1, cs0⟩)], [], []⟩) (hx1 : ∀ x, y = .b x → K .ret ⟨[(4, .c (.sc (.int .i64 (-1))))], [(.arg 0, ⟨.fz, 1, cs0⟩)], [], []⟩) : loopS Try.prog 21 (.ga c96_l0) K ⟨[(0, .c (.ref (.arg 0) [] o0 l0.length)), (1, .c (.sc (.int .i64 x0_0))), (5, .c (.sc (.int .i64 x0_1)))], [(.arg 0, ⟨.fz, 1, cs0⟩)], [], []⟩ := by
  refine laws_heldInt64S.l0.partial_correctness l0 (motive := fun x0_0 x0_1 y => ∀ (K : AE → St → Prop), (∀ x, y = .a x → K (.exit 0) ⟨[(1, .c (.sc (.int .i64 x)))], [(.arg 0, ⟨.fz, 1, cs0⟩)], [], []⟩) → (∀ x, y = .b x → K .ret ⟨[(4, .c (.sc (.int .i64 (-1))))], [(.arg 0, ⟨.fz, 1, cs0⟩)], [], []⟩) → loopS Try.prog 21 (.ga c96_l0) K ⟨[(0, .c (.ref (.arg 0) [] o0 l0.length)), (1, .c (.sc (.int .i64 x0_0))), (5, .c (.sc (.int .i64 x0_1)))], [(.arg 0, ⟨.fz, 1, cs0⟩)], [], []⟩) ?_ x0_0 x0_1 y h K hx0 hx1
  clear h hx0 hx1
  intro rec ih x0_0 x0_1 y h K hx0 hx1
  refine loop_unroll (ga_k fun G0 G0n G0r G0x => ?_)
  unfold c96_l0
  refine seq_k fun J5 hJ5 => ?_
  refine seq_k fun J6 hJ6 => ?_
  refine reg_k ?_
  simp only [Nat.reduceEqDiff, Nat.reduceAdd, Nat.reduceMul, Nat.reduceLeDiff, Nat.reduceLT, Int.reduceLE, Int.reduceLT, Int.reduceGT, Int.reduceGE, Int.reduceEq, Int.reduceNe, Int.reduceToNat, reduceCtorEq, ak]
  refine hJ6 _ ?_
  refine cond_k (b := decide (x0_1 < (l0.length : Int))) rfl (fun c7 => ?_) (fun c7 => ?_)
  · replace c7 := of_decide_eq_true c7; rw [if_pos c7] at h
    refine hJ5 _ ?_
    refine seq_k fun J8 hJ8 => ?_
    refine block_k fun B9 B9n B9x B9r B9j => ?_
    refine seq_k fun J10 hJ10 => ?_
    refine seq_k fun J11 hJ11 => ?_
    refine reg_k ?_
    obtain ⟨b12, h⟩ := of_guard h
    have g13 : (cs0)[o0 + x0_1.toNat * 1]? = some (.sc (.int .i64 (rd 0 l0 x0_1))) := hv0.get 0 0 b12.1 b12.2 (by decide)
    simp only [Nat.reduceEqDiff, Nat.reduceAdd, Nat.reduceMul, Nat.reduceLeDiff, Nat.reduceLT, Int.reduceLE, Int.reduceLT, Int.reduceGT, Int.reduceGE, Int.reduceEq, Int.reduceNe, Int.reduceToNat, reduceCtorEq, ak, b12, g13]
    refine hJ11 _ ?_
    refine cond_k (b := decide ((rd 0 l0 x0_1) ≠ x0_0)) rfl (fun c14 => ?_) (fun c14 => ?_)
    · replace c14 := of_decide_eq_true c14; rw [if_pos c14] at h
      refine seq_k fun J15 hJ15 => ?_
      refine reg_k ?_
      simp only [Nat.reduceEqDiff, Nat.reduceAdd, Nat.reduceMul, Nat.reduceLeDiff, Nat.reduceLT, Int.reduceLE, Int.reduceLT, Int.reduceGT, Int.reduceGE, Int.reduceEq, Int.reduceNe, Int.reduceToNat, reduceCtorEq, ak]
      refine hJ15 _ ?_
      obtain rfl := Option.some.inj h
      refine gh_k (st' := ⟨[(4, .c (.sc (.int .i64 (-1))))], [(.arg 0, ⟨.fz, 1, cs0⟩)], [], []⟩) (((Weak.keep [4]).trans ((Weak.foc [(.arg 0, ⟨(.arg 0), [], none, .fz⟩)] rfl (by first | rfl | simp only [reduceCtorEq, Nat.reduceEqDiff, ak, akF, b12]) (by simp [argK, akG, ak])).trans (Weak.of_eq (by first | rfl | (simp only [reduceCtorEq, Nat.reduceEqDiff, ak, akF, b12]; done) | (simp [reduceCtorEq, Nat.reduceEqDiff, ak, akF, b12]; done)))))) ?_
      refine B9r _ ?_
      refine G0r _ ?_
      exact hx1 _ rfl
    · replace c14 := of_decide_eq_false c14; rw [if_neg c14] at h
      refine hJ10 _ ?_
      refine reg_k ?_
      simp only [Nat.reduceEqDiff, Nat.reduceAdd, Nat.reduceMul, Nat.reduceLeDiff, Nat.reduceLT, Int.reduceLE, Int.reduceLT, Int.reduceGT, Int.reduceGE, Int.reduceEq, Int.reduceNe, Int.reduceToNat, reduceCtorEq, ak]
      refine B9n _ ?_
      refine hJ8 _ ?_
      refine reg_k ?_
      simp only [Nat.reduceEqDiff, Nat.reduceAdd, Nat.reduceMul, Nat.reduceLeDiff, Nat.reduceLT, Int.reduceLE, Int.reduceLT, Int.reduceGT, Int.reduceGE, Int.reduceEq, Int.reduceNe, Int.reduceToNat, reduceCtorEq, ak]
      refine G0n _ (⟨[(0, .c (.ref (.arg 0) [] o0 l0.length)), (1, .c (.sc (.int .i64 (IntKind.i64.wrap (x0_0 + 1))))), (5, .c (.sc (.int .i64 (IntKind.i64.wrap (x0_1 + 1)))))], [(.arg 0, ⟨.fz, 1, cs0⟩)], [], []⟩) (((Weak.keep [0, 1, 5]).trans ((Weak.foc [(.arg 0, ⟨(.arg 0), [], none, .fz⟩)] rfl (by first | rfl | simp only [reduceCtorEq, Nat.reduceEqDiff, ak, akF, b12]) (by simp [argK, akG, ak])).trans (Weak.of_eq (by first | rfl | (simp only [reduceCtorEq, Nat.reduceEqDiff, ak, akF, b12]; done) | (simp [reduceCtorEq, Nat.reduceEqDiff, ak, akF, b12]; done)))))) (ih _ _ _ h K hx0 hx1)
  · replace c7 := of_decide_eq_false c7; rw [if_neg c7] at h
    obtain rfl := Option.some.inj h
    refine gh_k (st' := ⟨[(1, .c (.sc (.int .i64 x0_0)))], [(.arg 0, ⟨.fz, 1, cs0⟩)], [], []⟩) (((Weak.keep [1]).trans ((Weak.foc [(.arg 0, ⟨(.arg 0), [], none, .fz⟩)] rfl (by first | rfl | simp only [reduceCtorEq, Nat.reduceEqDiff, ak, akF]) (by simp [argK, akG, ak])).trans (Weak.of_eq (by first | rfl | (simp only [reduceCtorEq, Nat.reduceEqDiff, ak, akF]; done) | (simp [reduceCtorEq, Nat.reduceEqDiff, ak, akF]; done)))))) ?_
    refine G0x _ _ ?_
    exact hx0 _ rfl
set_option maxRecDepth 100000 in
set_option maxHeartbeats 4000000 in
theorem laws_heldInt64S.tri (cs0 : List Cell) (o0 : Nat) (l0 : List Int) (hv0 : Vw c_i64 1 cs0 o0 l0) (a1 : Int) (r : Int) (h : laws_heldInt64S.f l0 a1 = some r) : Tri Try.prog 96 [.c (.ref (.arg 0) [] o0 l0.length), .c (.sc (.int .i64 a1))] [(.arg 0, ⟨.fz, 1, cs0⟩)] (fun o => o = ⟨.c (.sc (.int .i64 r)), [(.arg 0, ⟨.fz, 1, cs0⟩)], [], []⟩) := by
  refine tri_of_body (ac := c96) (xs := r96) Try.func96 (show Try.f96.body = some (Try.f96.body.getD .skip) from rfl) k96 q96 (Nat.le_of_ble_eq_true rfl) ?_
  refine body_of fun K hKn hKr => ?_
  unfold laws_heldInt64S.f at h
  unfold c96
  simp only [initT, Nat.reduceAdd]
  refine seq_k fun J1 hJ1 => ?_
  refine reg_k ?_
  simp only [Nat.reduceEqDiff, Nat.reduceAdd, Nat.reduceMul, Nat.reduceLeDiff, Nat.reduceLT, Int.reduceLE, Int.reduceLT, Int.reduceGT, Int.reduceGE, Int.reduceEq, Int.reduceNe, Int.reduceToNat, reduceCtorEq, ak]
  refine hJ1 _ ?_
  refine seq_k fun J2 hJ2 => ?_
  refine seq_k fun J3 hJ3 => ?_
  refine reg_k ?_
  simp only [Nat.reduceEqDiff, Nat.reduceAdd, Nat.reduceMul, Nat.reduceLeDiff, Nat.reduceLT, Int.reduceLE, Int.reduceLT, Int.reduceGT, Int.reduceGE, Int.reduceEq, Int.reduceNe, Int.reduceToNat, reduceCtorEq, ak]
  refine hJ3 _ ?_
  refine block_k fun B4 B4n B4x B4r B4j => ?_
  obtain ⟨y16, h17, h⟩ := of_bind h
  refine gh_k (st' := ⟨[(0, .c (.ref (.arg 0) [] o0 l0.length)), (1, .c (.sc (.int .i64 a1))), (5, .c (.sc (.int .i64 0)))], [(.arg 0, ⟨.fz, 1, cs0⟩)], [], []⟩) (((Weak.keep [0, 1, 5]).trans ((Weak.foc [(.arg 0, ⟨(.arg 0), [], none, .fz⟩)] rfl (by first | rfl | simp only [reduceCtorEq, Nat.reduceEqDiff, ak, akF]) (by simp [argK, akG, ak])).trans (Weak.of_eq (by first | rfl | (simp only [reduceCtorEq, Nat.reduceEqDiff, ak, akF]; done) | (simp [reduceCtorEq, Nat.reduceEqDiff, ak, akF]; done)))))) ?_
  rw [e_loop]
  refine laws_heldInt64S.l0_walk cs0 o0 l0 hv0 a1 0 _ h17 _ ?_ ?_
  · rintro x18 rfl
    dsimp only at h
    refine B4x _ ?_
    refine hJ2 _ ?_
    refine seq_k fun J19 hJ19 => ?_
    refine reg_k ?_
    simp only [Nat.reduceEqDiff, Nat.reduceAdd, Nat.reduceMul, Nat.reduceLeDiff, Nat.reduceLT, Int.reduceLE, Int.reduceLT, Int.reduceGT, Int.reduceGE, Int.reduceEq, Int.reduceNe, Int.reduceToNat, reduceCtorEq, ak]
    refine hJ19 _ ?_
    obtain rfl := Option.some.inj h
    refine hKr _ ⟨_, rfl, [], _, rfl, rfl, ?_⟩
    first | rfl | (simp only [reduceCtorEq, Nat.reduceEqDiff, ak, akF]; done) | (simp [reduceCtorEq, Nat.reduceEqDiff, ak, akF]; done)
  · rintro x18 rfl
    dsimp only at h
    refine B4r _ ?_
    obtain rfl := Option.some.inj h
    refine hKr _ ⟨_, rfl, [], _, rfl, rfl, ?_⟩
    first | rfl | (simp only [reduceCtorEq, Nat.reduceEqDiff, ak, akF]; done) | (simp [reduceCtorEq, Nat.reduceEqDiff, ak, akF]; done)
/-! ### laws.heldSubView: function 46 -/
def c46 : AC := .seq (.reg [.op none (.box 2 (.tmp 0)), .op none (.mv 4 (.const (.int .i64 0))), .keep [1, 2]]) (.seq (.reg [.op none (.faddr 5 2 (.tmp 2)), .op none (.load 6 false 1 (.tmp 5)), .op none (.mv 7 (.tmp 1)), .call none (some 8) 96 [.tmp 6, .tmp 7], .op none (.mv 1 (.tmp 8)), .keep [1]]) (.seq (.seq (.reg [.op none (.mv 9 (.tmp 1)), .op none (.bin 10 .lss (.tmp 9) (.const (.int .i64 0))), .keep [1, 10]]) (.cond (.tmp 10) (.seq (.reg [.op none (.mv 4 (.const (.int .i64 (-1)))), .keep [4]]) (.ret)) (.skip))) (.seq (.reg [.op none (.mv 11 (.tmp 1)), .op none (.mv 4 (.tmp 11)), .keep [4]]) (.ret))))
def r46 : List RV := [.tmp 4]
theorem k46 : compC Try.prog 12 c46 (Try.f46.body.getD .skip) = some c46.erase := by kernel_rfl
theorem q46 : rvsOf Try.prog Try.f46.results.toList = some r46 := by kernel_rfl
def laws_heldSubView.f (a0_0 : Int) (a0_1 : Int) (l0_2 : List Int) (a0_3 : Int) (a0_4 : Int) (a0_5 : Int) (a0_6 : Int) (a0_7 : Int) (a1 : Int) : Option Int := (laws_heldInt64S.f l0_2 a1 >>= fun t3 => (if t3 < 0 then (some (-1)) else (some t3)))
set_option maxRecDepth 100000 in
set_option maxHeartbeats 4000000 in
theorem laws_heldSubView.tri (cs0 : List Cell) (o0 : Nat) (l0_2 : List Int) (hv0 : Vw c_i64 1 cs0 o0 l0_2) (a0_0 : Int) (a0_1 : Int) (a0_3 : Int) (a0_4 : Int) (a0_5 : Int) (a0_6 : Int) (a0_7 : Int) (a1 : Int) (r : Int) (h : laws_heldSubView.f a0_0 a0_1 l0_2 a0_3 a0_4 a0_5 a0_6 a0_7 a1 = some r) : Tri Try.prog 46 [.g [.sc (.int .u32 a0_0), .sc (.int .u32 a0_1), .ref (.arg 0) [] o0 l0_2.length, .sc (.int .i64 a0_3), .sc (.int .i64 a0_4), .sc (.int .i64 a0_5), .sc (.int .i64 a0_6), .sc (.int .i64 a0_7)], .c (.sc (.int .i64 a1))] [(.arg 0, ⟨.fz, 1, cs0⟩)] (fun o => o = ⟨.c (.sc (.int .i64 r)), [(.arg 0, ⟨.fz, 1, cs0⟩)], [], []⟩) := by
  refine tri_of_body (ac := c46) (xs := r46) Try.func46 (show Try.f46.body = some (Try.f46.body.getD .skip) from rfl) k46 q46 (Nat.le_of_ble_eq_true rfl) ?_
  refine body_of fun K hKn hKr => ?_
  unfold laws_heldSubView.f at h
  unfold c46
  simp only [initT, Nat.reduceAdd]
  refine seq_k fun J1 hJ1 => ?_
  refine reg_k ?_
  simp only [Nat.reduceEqDiff, Nat.reduceAdd, Nat.reduceMul, Nat.reduceLeDiff, Nat.reduceLT, Int.reduceLE, Int.reduceLT, Int.reduceGT, Int.reduceGE, Int.reduceEq, Int.reduceNe, Int.reduceToNat, reduceCtorEq, ak]
  refine hJ1 _ ?_
  refine seq_k fun J2 hJ2 => ?_
  refine reg_k ?_
  simp only [Nat.reduceEqDiff, Nat.reduceAdd, Nat.reduceMul, Nat.reduceLeDiff, Nat.reduceLT, Int.reduceLE, Int.reduceLT, Int.reduceGT, Int.reduceGE, Int.reduceEq, Int.reduceNe, Int.reduceToNat, reduceCtorEq, ak]
  obtain ⟨t3, h4, h⟩ := of_bind h
  refine call_m [(.arg 0, ⟨(.arg 0), [], none, .fz⟩)] (s0 := [(.arg 0, ⟨.fz, 1, cs0⟩)]) (by intro t ht; cases ht; decide) rfl rfl (by first | rfl | simp only [reduceCtorEq, Nat.reduceEqDiff, ak, akF]) (laws_heldInt64S.tri (cs0) o0 l0_2 hv0 a1 _ h4) (by first | rfl | simp only [reduceCtorEq, Nat.reduceEqDiff, ak, akF]) (by simp [bkOk2, memK]) (fun hl4 => ?_)
  refine call_st (s4 := [(.arg 0, ⟨.fz, 1, cs0⟩), (.tmp 2 0, ⟨.box, 0, [.sc (.int .u32 a0_0), .sc (.int .u32 a0_1), .ref (.arg 0) [] o0 l0_2.length, .sc (.int .i64 a0_3), .sc (.int .i64 a0_4), .sc (.int .i64 a0_5), .sc (.int .i64 a0_6), .sc (.int .i64 a0_7)]⟩)]) (m1' := []) (m2' := []) (v' := .c (.sc (.int .i64 t3))) (Sto.mapN_killNil _ _) (mrgL_fz (mrgL_nil' _ _ _) rfl (by first | rfl | simp only [reduceCtorEq, Nat.reduceEqDiff, ak]) rfl (by intro R hR hh; cases hR; cases hh.2)) (by rfl) (mapT_killNil _ _) (by rfl) (by rfl) (by first | rfl | simp only [reduceCtorEq, Nat.reduceEqDiff, ak, akF, Nat.zero_add, List.append_nil]) ?_
  simp only [Nat.reduceEqDiff, Nat.reduceAdd, Nat.reduceMul, Nat.reduceLeDiff, Nat.reduceLT, Int.reduceLE, Int.reduceLT, Int.reduceGT, Int.reduceGE, Int.reduceEq, Int.reduceNe, Int.reduceToNat, reduceCtorEq, ak]
  refine hJ2 _ ?_
  refine seq_k fun J6 hJ6 => ?_
  refine seq_k fun J7 hJ7 => ?_
  refine reg_k ?_
  simp only [Nat.reduceEqDiff, Nat.reduceAdd, Nat.reduceMul, Nat.reduceLeDiff, Nat.reduceLT, Int.reduceLE, Int.reduceLT, Int.reduceGT, Int.reduceGE, Int.reduceEq, Int.reduceNe, Int.reduceToNat, reduceCtorEq, ak]
  refine hJ7 _ ?_
  refine cond_k (b := decide (t3 < 0)) rfl (fun c8 => ?_) (fun c8 => ?_)
  · replace c8 := of_decide_eq_true c8; rw [if_pos c8] at h
    refine seq_k fun J9 hJ9 => ?_
    refine reg_k ?_
    simp only [Nat.reduceEqDiff, Nat.reduceAdd, Nat.reduceMul, Nat.reduceLeDiff, Nat.reduceLT, Int.reduceLE, Int.reduceLT, Int.reduceGT, Int.reduceGE, Int.reduceEq, Int.reduceNe, Int.reduceToNat, reduceCtorEq, ak]
    refine hJ9 _ ?_
    obtain rfl := Option.some.inj h
    refine hKr _ ⟨_, rfl, [], _, rfl, rfl, ?_⟩
    first | rfl | (simp only [reduceCtorEq, Nat.reduceEqDiff, ak, akF]; done) | (simp [reduceCtorEq, Nat.reduceEqDiff, ak, akF]; done)
  · replace c8 := of_decide_eq_false c8; rw [if_neg c8] at h
    refine hJ6 _ ?_
    refine seq_k fun J10 hJ10 => ?_
    refine reg_k ?_
    simp only [Nat.reduceEqDiff, Nat.reduceAdd, Nat.reduceMul, Nat.reduceLeDiff, Nat.reduceLT, Int.reduceLE, Int.reduceLT, Int.reduceGT, Int.reduceGE, Int.reduceEq, Int.reduceNe, Int.reduceToNat, reduceCtorEq, ak]
    refine hJ10 _ ?_
    obtain rfl := Option.some.inj h
    refine hKr _ ⟨_, rfl, [], _, rfl, rfl, ?_⟩
    first | rfl | (simp only [reduceCtorEq, Nat.reduceEqDiff, ak, akF]; done) | (simp [reduceCtorEq, Nat.reduceEqDiff, ak, akF]; done)
end Go.AK
