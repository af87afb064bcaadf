-- by a program of this session (wip/ak/pw.py)
import Derived.Test.YtlladicdmmdboaaUSubRun1
set_option synthInstance.maxSize 2000
set_option linter.unusedVariables false
set_option linter.unusedSimpArgs false
namespace Go.AK
open Go Go.Proofs
/-! ### impl.subAfter: function 87 -/
def c87_l0 : AC := .seq (.reg [.op none (.bin 23 .lss (.tmp 22) (.tmp 21)), .keep [7, 8, 20, 21, 22, 23]]) (.seq (.cond (.tmp 23) (.skip) (.gh (.exit 0))) (.seq (.ga (.block 1 (.seq (.reg [.op none (.iaddr 24 3 (.tmp 20) (.tmp 22)), .op none (.load 25 true 3 (.tmp 24)), .op none (.alloc 10 [.int .i64 0, .int .i64 0, .int .u32 0]), .op none (.store 3 (.tmp 10) (.tmp 25)), .keep [7, 8, 10, 20, 21, 22]]) (.seq (.reg [.op none (.mv 11 (.const (.nilIface))), .keep [7, 8, 10, 20, 21, 22]]) (.seq (.seq (.reg [.op none (.faddr 26 0 (.tmp 10)), .op none (.load 27 false 1 (.tmp 26)), .keep [7, 8, 10, 20, 21, 22, 27]]) (.block 2 (.seq (.reg [.op none (.bin 33 .eql (.tmp 27) (.const (.int .i64 1))), .op none (.mv 32 (.tmp 33)), .keep [7, 8, 10, 20, 21, 22, 27, 32]]) (.cond (.tmp 32) (.reg [.op none (.faddr 34 1 (.tmp 10)), .op none (.load 35 false 1 (.tmp 34)), .op none (.build 36 [.int .i64 0] [(0, 1, .tmp 35)]), .op none (.mki 37 219 (.tmp 36)), .op none (.mv 11 (.tmp 37)), .keep [7, 8, 11, 20, 21, 22]]) (.seq (.reg [.op none (.bin 39 .eql (.tmp 27) (.const (.int .i64 2))), .op none (.mv 38 (.tmp 39)), .keep [7, 8, 10, 20, 21, 22, 27, 38]]) (.cond (.tmp 38) (.reg [.op none (.faddr 40 2 (.tmp 10)), .op none (.load 41 false 1 (.tmp 40)), .op none (.build 42 [.int .u32 0] [(0, 1, .tmp 41)]), .op none (.mki 43 221 (.tmp 42)), .op none (.mv 11 (.tmp 43)), .keep [7, 8, 11, 20, 21, 22]]) (.seq (.reg [.op none (.bin 45 .eql (.tmp 27) (.const (.int .i64 3))), .op none (.mv 44 (.tmp 45)), .keep [7, 8, 20, 21, 22, 44]]) (.cond (.tmp 44) (.reg [.op none (.build 46 [] []), .op none (.mki 47 223 (.tmp 46)), .op none (.mv 11 (.tmp 47)), .keep [7, 8, 11, 20, 21, 22]]) (.seq (.reg [.op none (.mv 28 (.tmp 8)), .op none (.build 29 [.int .i64 0, .slice none 0 0, .slice none 0 0, .int .i64 0, .int .i64 0] [(0, 1, .const (.int .i64 1))]), .gh, .op none (.bslice 30 5 [.int .i64 0, .slice none 0 0, .slice none 0 0, .int .i64 0, .int .i64 0] 1 [(0, .tmp 29)]), .gh, .op none (.app 31 5 72 true (.tmp 28) (.tmp 30)), .op none (.mv 8 (.tmp 31)), .keep [7, 8, 20, 21, 22]]) (.exit 1)))))))))) (.reg [.op none (.mv 48 (.tmp 8)), .op none (.mv 49 (.tmp 7)), .op none (.mv 50 (.tmp 11)), .call none (some 51) 133 [.tmp 49, .tmp 50], .op none (.bslice 52 5 [.int .i64 0, .slice none 0 0, .slice none 0 0, .int .i64 0, .int .i64 0] 1 [(0, .tmp 51)]), .gh, .op none (.app 53 5 72 true (.tmp 48) (.tmp 52)), .op none (.mv 8 (.tmp 53)), .keep [7, 8, 20, 21, 22]])))))) (.reg [.op none (.bin 54 .add (.tmp 22) (.const (.int .i64 1))), .op none (.mv 22 (.tmp 54)), .keep [7, 8, 20, 21, 22]])))
def c87 : AC := .seq (.reg [.op none (.box 2 (.tmp 0)), .op none (.mv 4 (.const (.pointer none))), .op none (.mv 5 (.const (.slice none 0 0))), .gh, .op none (.mv 6 (.const (.int .i64 0))), .keep [1, 2]]) (.seq (.seq (.reg [.op none (.load 12 true 6 (.tmp 2)), .call none (some 13) 131 [.tmp 12], .op none (.un 14 .not (.tmp 13)), .keep [1, 2, 14]]) (.cond (.tmp 14) (.seq (.reg [.op none (.mv 4 (.const (.pointer none))), .op none (.mv 5 (.const (.slice none 0 0))), .gh, .op none (.mv 6 (.const (.int .i64 17))), .keep [4, 5, 6]]) (.ret)) (.skip))) (.seq (.seq (.reg [.op none (.mv 15 (.tmp 1)), .op none (.len 16 (.tmp 15)), .op none (.bin 17 .gtr (.tmp 16) (.const (.int .i64 4000))), .keep [1, 2, 17]]) (.cond (.tmp 17) (.seq (.reg [.op none (.mv 4 (.const (.pointer none))), .op none (.mv 5 (.const (.slice none 0 0))), .gh, .op none (.mv 6 (.const (.int .i64 5))), .keep [4, 5, 6]]) (.ret)) (.skip))) (.seq (.reg [.op none (.load 18 true 6 (.tmp 2)), .call none (some 19) 132 [.tmp 18], .op none (.mv 7 (.tmp 19)), .keep [1, 7]]) (.seq (.reg [.op none (.mv 8 (.const (.slice none 0 0))), .gh, .keep [1, 7, 8]]) (.seq (.seq (.reg [.op none (.mv 20 (.tmp 1)), .op none (.len 21 (.tmp 20)), .op none (.mv 22 (.const (.int .i64 0))), .keep [7, 8, 20, 21, 22]]) (.block 0 (.gh (.loop (.ga c87_l0))))) (.seq (.reg [.op none (.mv 55 (.tmp 7)), .op none (.mv 56 (.tmp 8)), .op none (.mv 4 (.tmp 55)), .op none (.mv 5 (.tmp 56)), .op none (.mv 6 (.const (.int .i64 0))), .keep [4, 5, 6]]) (.ret)))))))
def r87 : List RV := [.tmp 4, .tmp 5, .tmp 6]
theorem k87 : compC Try.prog 57 c87 (Try.f87.body.getD .skip) = some c87.erase := by kernel_rfl
theorem q87 : rvsOf Try.prog Try.f87.results.toList = some r87 := by kernel_rfl
def impl_subAfter.l0 (l1 : List S63) (x0_0 : Int) (x0_2 : Int) (x0_3 : Int) (x0_4 : Int) (x0_5 : Int) (x0_6 : Int) (x0_7 : Int) (x0_1 : Int) (x0_8 : Int) (x0_9 : (List Int)) (x0_10 : Int) (x0_11 : Int) (x0_12 : Int) (x0_13 : Int) (x0_14 : Bool) (x0_15 : (List S66)) : Option (Int × (List Int) × Int × Int × Int × Int × Bool × (List S66)) := (if x0_1 < x0_0 then ((if 0 ≤ x0_1 ∧ x0_1 < (l1.length : Int) then (if (rd z63 l1 x0_1).f0 = 1 then (impl_sender_act_v21.f x0_2 x0_3 x0_4 x0_5 x0_6 x0_7 x0_8 x0_9 x0_10 x0_11 x0_12 x0_13 x0_14 ((rd z63 l1 x0_1).f1) >>= fun t38 => (if (x0_15.length + 1) * 72 ≤ 140737488355328 then (some (x0_8, t38.2.2.2.2.2.1, t38.2.2.2.2.2.2, x0_11, x0_12, x0_13, x0_14, (x0_15 ++ ([(⟨t38.1, t38.2.1, t38.2.2.1, t38.2.2.2.1, t38.2.2.2.2.1⟩ : S66)] : List S66)))) else none)) else (if (rd z63 l1 x0_1).f0 = 2 then (impl_sender_act_v24.f x0_2 x0_3 x0_4 x0_5 x0_6 x0_7 x0_8 x0_9 x0_10 x0_11 x0_12 x0_13 x0_14 ((rd z63 l1 x0_1).f2) >>= fun t54 => (if (x0_15.length + 1) * 72 ≤ 140737488355328 then (some (t54.2.2.2.2.2.1, t54.2.2.2.2.2.2.1, t54.2.2.2.2.2.2.2.1, t54.2.2.2.2.2.2.2.2.1, t54.2.2.2.2.2.2.2.2.2.1, t54.2.2.2.2.2.2.2.2.2.2.1, t54.2.2.2.2.2.2.2.2.2.2.2, (x0_15 ++ ([(⟨t54.1, t54.2.1, t54.2.2.1, t54.2.2.2.1, t54.2.2.2.2.1⟩ : S66)] : List S66)))) else none)) else (if (rd z63 l1 x0_1).f0 = 3 then (impl_sender_act_v28.f x0_2 x0_3 x0_4 x0_5 x0_6 x0_7 x0_8 x0_9 x0_10 x0_11 x0_12 x0_13 x0_14 >>= fun t70 => (if (x0_15.length + 1) * 72 ≤ 140737488355328 then (some (x0_8, x0_9, t70.2.2.2.2.2.1, t70.2.2.2.2.2.2.1, t70.2.2.2.2.2.2.2.1, t70.2.2.2.2.2.2.2.2.1, t70.2.2.2.2.2.2.2.2.2, (x0_15 ++ ([(⟨t70.1, t70.2.1, t70.2.2.1, t70.2.2.2.1, t70.2.2.2.2.1⟩ : S66)] : List S66)))) else none)) else (if (x0_15.length + 1) * 72 ≤ 140737488355328 then (some (x0_8, x0_9, x0_10, x0_11, x0_12, x0_13, x0_14, (x0_15 ++ ([(⟨1, ([] : List S68), ([] : List Int), 0, 0⟩ : S66)] : List S66)))) else none)))) else none) >>= fun (j24 : Int × (List Int) × Int × Int × Int × Int × Bool × (List S66)) => (impl_subAfter.l0 l1 x0_0 x0_2 x0_3 x0_4 x0_5 x0_6 x0_7 (IntKind.i64.wrap (x0_1 + 1)) j24.1 j24.2.1 j24.2.2.1 j24.2.2.2.1 j24.2.2.2.2.1 j24.2.2.2.2.2.1 j24.2.2.2.2.2.2.1 j24.2.2.2.2.2.2.2)) else (some (x0_8, x0_9, x0_10, x0_11, x0_12, x0_13, x0_14, x0_15)))
  partial_fixpoint
def impl_subAfter.f (a0_0 : Int) (a0_1 : Int) (a0_2 : Int) (a0_3 : Int) (a0_4 : Int) (a0_5 : Int) (l1 : List S63) : Option ((Option (Int × Int × Int × Int × Int × Int × Int × (List Int) × Int × Int × Int × Int × Bool)) × (List S66) × Int) := (impl_validSub.f a0_0 a0_1 a0_2 a0_3 a0_4 a0_5 >>= fun t4 => (if (!t4) = true then (some (none, ([] : List S66), 17)) else (if (l1.length : Int) > 4000 then (some (none, ([] : List S66), 5)) else (impl_newSender.f a0_0 a0_1 a0_2 a0_3 a0_4 a0_5 >>= fun t14 => (impl_subAfter.l0 l1 (l1.length : Int) t14.1 t14.2.1 t14.2.2.1 t14.2.2.2.1 t14.2.2.2.2.1 t14.2.2.2.2.2.1 0 t14.2.2.2.2.2.2.1 t14.2.2.2.2.2.2.2.1 t14.2.2.2.2.2.2.2.2.1 t14.2.2.2.2.2.2.2.2.2.1 t14.2.2.2.2.2.2.2.2.2.2.1 t14.2.2.2.2.2.2.2.2.2.2.2.1 t14.2.2.2.2.2.2.2.2.2.2.2.2 ([] : List S66) >>= fun (y96 : (Int × (List Int) × Int × Int × Int × Int × Bool × (List S66))) => (some ((some (t14.1, t14.2.1, t14.2.2.1, t14.2.2.2.1, t14.2.2.2.2.1, t14.2.2.2.2.2.1, y96.1, y96.2.1, y96.2.2.1, y96.2.2.2.1, y96.2.2.2.2.1, y96.2.2.2.2.2.1, y96.2.2.2.2.2.2.1)), y96.2.2.2.2.2.2.2, 0)))))))
set_option maxRecDepth 100000 in
set_option maxHeartbeats 4000000 in
theorem impl_subAfter.l0_walk (cs0 : List Cell) (o0 : Nat) (l1 : List S63) (hv0 : Vw c63 3 cs0 o0 l1) (x0_0 : Int) (x0_2 : Int) (x0_3 : Int) (x0_4 : Int) (x0_5 : Int) (x0_6 : Int) (x0_7 : Int) (x0_1 : Int) (x0_8 : Int) (x0_9 : (List Int)) (x0_10 : Int) (x0_11 : Int) (x0_12 : Int) (x0_13 : Int) (x0_14 : Bool) (x0_15 : (List S66)) (y : (Int × (List Int) × Int × Int × Int × Int × Bool × (List S66))) (h : impl_subAfter.l0 l1 x0_0 x0_2 x0_3 x0_4 x0_5 x0_6 x0_7 x0_1 x0_8 x0_9 x0_10 x0_11 x0_12 x0_13 x0_14 x0_15 = some y) (K : AE → St → Prop) (hx0 : K (.exit 0) ⟨[(7, .c (.ptr (.tmp 19 0) [] 0)), (8, .c (.ref (.tmp 8 20) [] 0 y.2.2.2.2.2.2.2.length))], [(.arg 0, ⟨.fz, 3, cs0⟩), (.tmp 19 0, ⟨.box, 0, [.sc (.int .u32 x0_2), .sc (.int .i64 x0_3), .sc (.int .i64 x0_4), .sc (.int .i64 x0_5), .sc (.int .i64 x0_6), .sc (.int .i64 x0_7), .sc (.int .u32 y.1), .own 1 y.2.1.length (encL c_i64 y.2.1), .sc (.int .i64 y.2.2.1), .sc (.int .i64 y.2.2.2.1), .sc (.int .i64 y.2.2.2.2.1), .sc (.int .i64 y.2.2.2.2.2.1), .sc (.bool y.2.2.2.2.2.2.1)]⟩), (.tmp 8 20, ⟨.lst, 5, encL c66 y.2.2.2.2.2.2.2⟩)], [], []⟩) : loopS Try.prog 57 (.ga c87_l0) K ⟨[(7, .c (.ptr (.tmp 19 0) [] 0)), (8, .c (.ref (.tmp 8 20) [] 0 x0_15.length)), (20, .c (.ref (.arg 0) [] o0 l1.length)), (21, .c (.sc (.int .i64 x0_0))), (22, .c (.sc (.int .i64 x0_1)))], [(.arg 0, ⟨.fz, 3, cs0⟩), (.tmp 19 0, ⟨.box, 0, [.sc (.int .u32 x0_2), .sc (.int .i64 x0_3), .sc (.int .i64 x0_4), .sc (.int .i64 x0_5), .sc (.int .i64 x0_6), .sc (.int .i64 x0_7), .sc (.int .u32 x0_8), .own 1 x0_9.length (encL c_i64 x0_9), .sc (.int .i64 x0_10), .sc (.int .i64 x0_11), .sc (.int .i64 x0_12), .sc (.int .i64 x0_13), .sc (.bool x0_14)]⟩), (.tmp 8 20, ⟨.lst, 5, encL c66 x0_15⟩)], [], []⟩ := by
  refine impl_subAfter.l0.partial_correctness l1 x0_0 x0_2 x0_3 x0_4 x0_5 x0_6 x0_7 (motive := fun x0_1 x0_8 x0_9 x0_10 x0_11 x0_12 x0_13 x0_14 x0_15 y => ∀ (K : AE → St → Prop), (K (.exit 0) ⟨[(7, .c (.ptr (.tmp 19 0) [] 0)), (8, .c (.ref (.tmp 8 20) [] 0 y.2.2.2.2.2.2.2.length))], [(.arg 0, ⟨.fz, 3, cs0⟩), (.tmp 19 0, ⟨.box, 0, [.sc (.int .u32 x0_2), .sc (.int .i64 x0_3), .sc (.int .i64 x0_4), .sc (.int .i64 x0_5), .sc (.int .i64 x0_6), .sc (.int .i64 x0_7), .sc (.int .u32 y.1), .own 1 y.2.1.length (encL c_i64 y.2.1), .sc (.int .i64 y.2.2.1), .sc (.int .i64 y.2.2.2.1), .sc (.int .i64 y.2.2.2.2.1), .sc (.int .i64 y.2.2.2.2.2.1), .sc (.bool y.2.2.2.2.2.2.1)]⟩), (.tmp 8 20, ⟨.lst, 5, encL c66 y.2.2.2.2.2.2.2⟩)], [], []⟩) → loopS Try.prog 57 (.ga c87_l0) K ⟨[(7, .c (.ptr (.tmp 19 0) [] 0)), (8, .c (.ref (.tmp 8 20) [] 0 x0_15.length)), (20, .c (.ref (.arg 0) [] o0 l1.length)), (21, .c (.sc (.int .i64 x0_0))), (22, .c (.sc (.int .i64 x0_1)))], [(.arg 0, ⟨.fz, 3, cs0⟩), (.tmp 19 0, ⟨.box, 0, [.sc (.int .u32 x0_2), .sc (.int .i64 x0_3), .sc (.int .i64 x0_4), .sc (.int .i64 x0_5), .sc (.int .i64 x0_6), .sc (.int .i64 x0_7), .sc (.int .u32 x0_8), .own 1 x0_9.length (encL c_i64 x0_9), .sc (.int .i64 x0_10), .sc (.int .i64 x0_11), .sc (.int .i64 x0_12), .sc (.int .i64 x0_13), .sc (.bool x0_14)]⟩), (.tmp 8 20, ⟨.lst, 5, encL c66 x0_15⟩)], [], []⟩) ?_ x0_1 x0_8 x0_9 x0_10 x0_11 x0_12 x0_13 x0_14 x0_15 y h K hx0
  clear h hx0
  intro rec ih x0_1 x0_8 x0_9 x0_10 x0_11 x0_12 x0_13 x0_14 x0_15 y h K hx0
  refine loop_unroll (ga_k fun G0 G0n G0r G0x => ?_)
  unfold c87_l0
  refine seq_k fun J21 hJ21 => ?_
  refine reg_k ?_
  simp only [Nat.reduceEqDiff, Nat.reduceAdd, Nat.reduceMul, Nat.reduceLeDiff, Nat.reduceLT, Int.reduceLE, Int.reduceLT, Int.reduceGT, Int.reduceGE, Int.reduceEq, Int.reduceNe, Int.reduceToNat, reduceCtorEq, ak]
  refine hJ21 _ ?_
  refine seq_k fun J22 hJ22 => ?_
  refine cond_k (b := decide (x0_1 < x0_0)) rfl (fun c23 => ?_) (fun c23 => ?_)
  · replace c23 := of_decide_eq_true c23; rw [if_pos c23] at h
    refine hJ22 _ ?_
    obtain ⟨j24, h25, hn⟩ := of_bind h
    refine seq_j (fun st => st = ⟨[(7, .c (.ptr (.tmp 19 0) [] 0)), (8, .c (.ref (.tmp 8 20) [] 0 j24.2.2.2.2.2.2.2.length)), (20, .c (.ref (.arg 0) [] o0 l1.length)), (21, .c (.sc (.int .i64 x0_0))), (22, .c (.sc (.int .i64 x0_1)))], [(.arg 0, ⟨.fz, 3, cs0⟩), (.tmp 19 0, ⟨.box, 0, [.sc (.int .u32 x0_2), .sc (.int .i64 x0_3), .sc (.int .i64 x0_4), .sc (.int .i64 x0_5), .sc (.int .i64 x0_6), .sc (.int .i64 x0_7), .sc (.int .u32 j24.1), .own 1 j24.2.1.length (encL c_i64 j24.2.1), .sc (.int .i64 j24.2.2.1), .sc (.int .i64 j24.2.2.2.1), .sc (.int .i64 j24.2.2.2.2.1), .sc (.int .i64 j24.2.2.2.2.2.1), .sc (.bool j24.2.2.2.2.2.2.1)]⟩), (.tmp 8 20, ⟨.lst, 5, encL c66 j24.2.2.2.2.2.2.2⟩)], [], []⟩) (fun J26 hJ26 => ?_) ?_
    · replace h := h25; clear hn
      refine ga_k fun G27 G27n G27r G27x => ?_
      refine block_k fun B28 B28n B28x B28r B28j => ?_
      refine seq_k fun J29 hJ29 => ?_
      refine reg_k ?_
      obtain ⟨b30, h⟩ := of_guard h
      have g31 : (List.drop (o0 + x0_1.toNat * 3) (cs0)).take 3 = [.sc (.int .i64 ((rd z63 l1 x0_1).f0)), .sc (.int .i64 ((rd z63 l1 x0_1).f1)), .sc (.int .u32 ((rd z63 l1 x0_1).f2))] := hv0.stretch z63 b30.1 b30.2
      simp only [Nat.reduceEqDiff, Nat.reduceAdd, Nat.reduceMul, Nat.reduceLeDiff, Nat.reduceLT, Int.reduceLE, Int.reduceLT, Int.reduceGT, Int.reduceGE, Int.reduceEq, Int.reduceNe, Int.reduceToNat, reduceCtorEq, ak, b30, g31]
      refine hJ29 _ ?_
      refine seq_k fun J32 hJ32 => ?_
      refine reg_k ?_
      simp only [Nat.reduceEqDiff, Nat.reduceAdd, Nat.reduceMul, Nat.reduceLeDiff, Nat.reduceLT, Int.reduceLE, Int.reduceLT, Int.reduceGT, Int.reduceGE, Int.reduceEq, Int.reduceNe, Int.reduceToNat, reduceCtorEq, ak]
      refine hJ32 _ ?_
      refine seq_k fun J33 hJ33 => ?_
      refine seq_k fun J34 hJ34 => ?_
      refine reg_k ?_
      simp only [Nat.reduceEqDiff, Nat.reduceAdd, Nat.reduceMul, Nat.reduceLeDiff, Nat.reduceLT, Int.reduceLE, Int.reduceLT, Int.reduceGT, Int.reduceGE, Int.reduceEq, Int.reduceNe, Int.reduceToNat, reduceCtorEq, ak]
      refine hJ34 _ ?_
      refine block_k fun B35 B35n B35x B35r B35j => ?_
      refine seq_k fun J36 hJ36 => ?_
      refine reg_k ?_
      simp only [Nat.reduceEqDiff, Nat.reduceAdd, Nat.reduceMul, Nat.reduceLeDiff, Nat.reduceLT, Int.reduceLE, Int.reduceLT, Int.reduceGT, Int.reduceGE, Int.reduceEq, Int.reduceNe, Int.reduceToNat, reduceCtorEq, ak]
      refine hJ36 _ ?_
      refine cond_k (b := decide ((rd z63 l1 x0_1).f0 = 1)) rfl (fun c37 => ?_) (fun c37 => ?_)
      · replace c37 := of_decide_eq_true c37; rw [if_pos c37] at h
        refine reg_k ?_
        simp only [Nat.reduceEqDiff, Nat.reduceAdd, Nat.reduceMul, Nat.reduceLeDiff, Nat.reduceLT, Int.reduceLE, Int.reduceLT, Int.reduceGT, Int.reduceGE, Int.reduceEq, Int.reduceNe, Int.reduceToNat, reduceCtorEq, ak]
        refine B35n _ ?_
        refine hJ33 _ ?_
        refine reg_k ?_
        simp only [Nat.reduceEqDiff, Nat.reduceAdd, Nat.reduceMul, Nat.reduceLeDiff, Nat.reduceLT, Int.reduceLE, Int.reduceLT, Int.reduceGT, Int.reduceGE, Int.reduceEq, Int.reduceNe, Int.reduceToNat, reduceCtorEq, ak]
        obtain ⟨t38, h39, h⟩ := of_bind h
        refine call_m [(.arg 0, ⟨(.tmp 19 0), [], none, .box⟩)] (s0 := [(.arg 0, ⟨.box, 0, [.sc (.int .u32 x0_2), .sc (.int .i64 x0_3), .sc (.int .i64 x0_4), .sc (.int .i64 x0_5), .sc (.int .i64 x0_6), .sc (.int .i64 x0_7), .sc (.int .u32 x0_8), .own 1 x0_9.length (encL c_i64 x0_9), .sc (.int .i64 x0_10), .sc (.int .i64 x0_11), .sc (.int .i64 x0_12), .sc (.int .i64 x0_13), .sc (.bool x0_14)]⟩)]) (by intro t ht; cases ht; decide) rfl rfl (by first | rfl | simp only [reduceCtorEq, Nat.reduceEqDiff, ak, akF, b30, g31]) (impl_sender_act_v21.tri x0_2 x0_3 x0_4 x0_5 x0_6 x0_7 x0_8 x0_9 x0_10 x0_11 x0_12 x0_13 x0_14 ((rd z63 l1 x0_1).f1) _ h39) (by first | rfl | simp only [reduceCtorEq, Nat.reduceEqDiff, ak, akF]) (by simp [bkOk2, memK]) (fun hl39 => ?_)
        refine call_st (s2 := [(.arg 0, ⟨.fz, 3, cs0⟩), (.tmp 19 0, ⟨.box, 0, [.sc (.int .u32 x0_2), .sc (.int .i64 x0_3), .sc (.int .i64 x0_4), .sc (.int .i64 x0_5), .sc (.int .i64 x0_6), .sc (.int .i64 x0_7), .sc (.int .u32 x0_8), .own 1 x0_9.length (encL c_i64 x0_9), .sc (.int .i64 x0_10), .sc (.int .i64 x0_11), .sc (.int .i64 x0_12), .sc (.int .i64 x0_13), .sc (.bool x0_14)]⟩), (.tmp 8 20, ⟨.lst, 5, encL c66 x0_15⟩), (.tmp 10 0, ⟨.box, 0, [.sc (.int .i64 ((rd z63 l1 x0_1).f0)), .sc (.int .i64 ((rd z63 l1 x0_1).f1)), .sc (.int .u32 ((rd z63 l1 x0_1).f2))]⟩)]) (s4 := [(.arg 0, ⟨.fz, 3, cs0⟩), (.tmp 19 0, ⟨.box, 0, [.sc (.int .u32 x0_2), .sc (.int .i64 x0_3), .sc (.int .i64 x0_4), .sc (.int .i64 x0_5), .sc (.int .i64 x0_6), .sc (.int .i64 x0_7), .sc (.int .u32 x0_8), .own 1 t38.2.2.2.2.2.1.length (encL c_i64 t38.2.2.2.2.2.1), .sc (.int .i64 t38.2.2.2.2.2.2), .sc (.int .i64 x0_11), .sc (.int .i64 x0_12), .sc (.int .i64 x0_13), .sc (.bool x0_14)]⟩), (.tmp 8 20, ⟨.lst, 5, encL c66 x0_15⟩), (.tmp 10 0, ⟨.box, 0, [.sc (.int .i64 ((rd z63 l1 x0_1).f0)), .sc (.int .i64 ((rd z63 l1 x0_1).f1)), .sc (.int .u32 ((rd z63 l1 x0_1).f2))]⟩), (.tmp 51 1, ⟨.lst, 1, encL c_i64 t38.2.2.1⟩), (.tmp 51 0, ⟨.lst, 3, encL c68 t38.2.1⟩)]) (t' := [(7, .c (.ptr (.tmp 19 0) [] 0)), (8, .c (.ref (.tmp 8 20) [] 0 x0_15.length)), (11, .c (.sc (.iface 219 (.agg #[.int .i64 ((rd z63 l1 x0_1).f1)])))), (20, .c (.ref (.arg 0) [] o0 l1.length)), (21, .c (.sc (.int .i64 x0_0))), (22, .c (.sc (.int .i64 x0_1))), (48, .c (.ref (.tmp 8 20) [] 0 x0_15.length)), (49, .c (.ptr (.tmp 19 0) [] 0)), (50, .c (.sc (.iface 219 (.agg #[.int .i64 ((rd z63 l1 x0_1).f1)]))))]) (m1' := []) (m2' := []) (v' := .g [.sc (.int .i64 t38.1), .ref (.tmp 51 0) [] 0 t38.2.1.length, .ref (.tmp 51 1) [] 0 t38.2.2.1.length, .sc (.int .i64 t38.2.2.2.1), .sc (.int .i64 t38.2.2.2.2.1)]) (by first | rfl | simp only [reduceCtorEq, Nat.reduceEqDiff, ak, akF, List.contains_nil, List.contains_cons, Nat.reduceBEq, b30]) (mrgL_whole (new' := [.sc (.int .u32 x0_2), .sc (.int .i64 x0_3), .sc (.int .i64 x0_4), .sc (.int .i64 x0_5), .sc (.int .i64 x0_6), .sc (.int .i64 x0_7), .sc (.int .u32 x0_8), .own 1 t38.2.2.2.2.2.1.length (encL c_i64 t38.2.2.2.2.2.1), .sc (.int .i64 t38.2.2.2.2.2.2), .sc (.int .i64 x0_11), .sc (.int .i64 x0_12), .sc (.int .i64 x0_13), .sc (.bool x0_14)]) (mrgL_nil' _ _ _) rfl (by rfl) (.inl ⟨rfl, by first | rfl | simp only [reduceCtorEq, Nat.reduceEqDiff, ak, akF, Nat.zero_add, List.append_nil, b30]⟩)) (by rfl) (by first | rfl | simp only [reduceCtorEq, Nat.reduceEqDiff, ak, akF, List.contains_nil, List.contains_cons, Nat.reduceBEq, b30]) (by rfl) (by rfl) (by first | rfl | simp only [reduceCtorEq, Nat.reduceEqDiff, ak, akF, Nat.zero_add, List.append_nil, b30]) ?_
        have g41 : (List.replicate 1 ([.int .i64 0, .slice none 0 0, .slice none 0 0, .int .i64 0, .int .i64 0] : List Value)).flatten = [.int .i64 0, .slice none 0 0, .slice none 0 0, .int .i64 0, .int .i64 0] := rfl
        have g42 : (encL c68 t38.2.1).length = t38.2.1.length * 3 := by simp [encL_length c68_w]
        have g43 : (encL c_i64 t38.2.2.1).length = t38.2.2.1.length * 1 := by simp [encL_length c_i64_w]
        have g44 : (⟨.lst, 5, [.sc (.int .i64 t38.1), .own 3 t38.2.1.length (encL c68 t38.2.1), .own 1 t38.2.2.1.length (encL c_i64 t38.2.2.1), .sc (.int .i64 t38.2.2.2.1), .sc (.int .i64 t38.2.2.2.2.1)]⟩ : Root) = ⟨.lst, 5, encL c66 ([(⟨t38.1, t38.2.1, t38.2.2.1, t38.2.2.2.1, t38.2.2.2.2.1⟩ : S66)] : List S66)⟩ := rfl
        have g45 : ([(⟨t38.1, t38.2.1, t38.2.2.1, t38.2.2.2.1, t38.2.2.2.2.1⟩ : S66)] : List S66).length = 1 := rfl
        simp only [Nat.reduceEqDiff, Nat.reduceAdd, Nat.reduceMul, Nat.reduceLeDiff, Nat.reduceLT, Int.reduceLE, Int.reduceLT, Int.reduceGT, Int.reduceGE, Int.reduceEq, Int.reduceNe, Int.reduceToNat, reduceCtorEq, ak, g41, g42, g43, g44, g45]
        refine gho_k (Weak.refl _ _) ?_
        have g46 : (encL c66 ([(⟨t38.1, t38.2.1, t38.2.2.1, t38.2.2.2.1, t38.2.2.2.2.1⟩ : S66)] : List S66)).length = 1 * 5 := by simp [encL_length c66_w]
        have g47 : (encL c66 ([(⟨t38.1, t38.2.1, t38.2.2.1, t38.2.2.2.1, t38.2.2.2.2.1⟩ : S66)] : List S66)).all nd = true := rfl
        obtain ⟨b48, h⟩ := of_guard h
        have g49 : appLim x0_15.length 1 72 := ⟨b48, by have := b48; omega⟩
        have g50 : (encL c66 x0_15).length = x0_15.length * 5 := by simp [encL_length c66_w]
        have g51 : encL c66 x0_15 ++ encL c66 ([(⟨t38.1, t38.2.1, t38.2.2.1, t38.2.2.2.1, t38.2.2.2.2.1⟩ : S66)] : List S66) = encL c66 (x0_15 ++ ([(⟨t38.1, t38.2.1, t38.2.2.1, t38.2.2.2.1, t38.2.2.2.2.1⟩ : S66)] : List S66)) := (encL_append _ _).symm
        simp only [Nat.reduceEqDiff, Nat.reduceAdd, Nat.reduceMul, Nat.reduceLeDiff, Nat.reduceLT, Int.reduceLE, Int.reduceLT, Int.reduceGT, Int.reduceGE, Int.reduceEq, Int.reduceNe, Int.reduceToNat, reduceCtorEq, ak, g46, g47, g49, g50, g51]
        refine B28n _ ?_
        obtain rfl := Option.some.inj h
        refine G27n _ _ (((Weak.keep [7, 8, 20, 21, 22]).trans ((Weak.foc [(.arg 0, ⟨(.arg 0), [], none, .fz⟩), (.tmp 19 0, ⟨(.tmp 19 0), [], none, .box⟩), (.tmp 8 20, ⟨(.tmp 8 20), [], none, .lst⟩)] rfl (by first | rfl | simp only [reduceCtorEq, Nat.reduceEqDiff, ak, akF, b30, b48]) (by simp [argK, akG, ak])).trans (Weak.of_eq (by first | rfl | (simp only [reduceCtorEq, Nat.reduceEqDiff, ak, akF, b30, b48]; done) | (simp [reduceCtorEq, Nat.reduceEqDiff, ak, akF, b30, b48]; done)))))) (hJ26 _ rfl)
      · replace c37 := of_decide_eq_false c37; rw [if_neg c37] at h
        refine seq_k fun J52 hJ52 => ?_
        refine reg_k ?_
        simp only [Nat.reduceEqDiff, Nat.reduceAdd, Nat.reduceMul, Nat.reduceLeDiff, Nat.reduceLT, Int.reduceLE, Int.reduceLT, Int.reduceGT, Int.reduceGE, Int.reduceEq, Int.reduceNe, Int.reduceToNat, reduceCtorEq, ak]
        refine hJ52 _ ?_
        refine cond_k (b := decide ((rd z63 l1 x0_1).f0 = 2)) rfl (fun c53 => ?_) (fun c53 => ?_)
        · replace c53 := of_decide_eq_true c53; rw [if_pos c53] at h
          refine reg_k ?_
          simp only [Nat.reduceEqDiff, Nat.reduceAdd, Nat.reduceMul, Nat.reduceLeDiff, Nat.reduceLT, Int.reduceLE, Int.reduceLT, Int.reduceGT, Int.reduceGE, Int.reduceEq, Int.reduceNe, Int.reduceToNat, reduceCtorEq, ak]
          refine B35n _ ?_
          refine hJ33 _ ?_
          refine reg_k ?_
          simp only [Nat.reduceEqDiff, Nat.reduceAdd, Nat.reduceMul, Nat.reduceLeDiff, Nat.reduceLT, Int.reduceLE, Int.reduceLT, Int.reduceGT, Int.reduceGE, Int.reduceEq, Int.reduceNe, Int.reduceToNat, reduceCtorEq, ak]
          obtain ⟨t54, h55, h⟩ := of_bind h
          refine call_m [(.arg 0, ⟨(.tmp 19 0), [], none, .box⟩)] (s0 := [(.arg 0, ⟨.box, 0, [.sc (.int .u32 x0_2), .sc (.int .i64 x0_3), .sc (.int .i64 x0_4), .sc (.int .i64 x0_5), .sc (.int .i64 x0_6), .sc (.int .i64 x0_7), .sc (.int .u32 x0_8), .own 1 x0_9.length (encL c_i64 x0_9), .sc (.int .i64 x0_10), .sc (.int .i64 x0_11), .sc (.int .i64 x0_12), .sc (.int .i64 x0_13), .sc (.bool x0_14)]⟩)]) (by intro t ht; cases ht; decide) rfl rfl (by first | rfl | simp only [reduceCtorEq, Nat.reduceEqDiff, ak, akF, b30, g31]) (impl_sender_act_v24.tri x0_2 x0_3 x0_4 x0_5 x0_6 x0_7 x0_8 x0_9 x0_10 x0_11 x0_12 x0_13 x0_14 ((rd z63 l1 x0_1).f2) _ h55) (by first | rfl | simp only [reduceCtorEq, Nat.reduceEqDiff, ak, akF]) (by simp [bkOk2, memK]) (fun hl55 => ?_)
          refine call_st (s2 := [(.arg 0, ⟨.fz, 3, cs0⟩), (.tmp 19 0, ⟨.box, 0, [.sc (.int .u32 x0_2), .sc (.int .i64 x0_3), .sc (.int .i64 x0_4), .sc (.int .i64 x0_5), .sc (.int .i64 x0_6), .sc (.int .i64 x0_7), .sc (.int .u32 x0_8), .own 1 x0_9.length (encL c_i64 x0_9), .sc (.int .i64 x0_10), .sc (.int .i64 x0_11), .sc (.int .i64 x0_12), .sc (.int .i64 x0_13), .sc (.bool x0_14)]⟩), (.tmp 8 20, ⟨.lst, 5, encL c66 x0_15⟩), (.tmp 10 0, ⟨.box, 0, [.sc (.int .i64 ((rd z63 l1 x0_1).f0)), .sc (.int .i64 ((rd z63 l1 x0_1).f1)), .sc (.int .u32 ((rd z63 l1 x0_1).f2))]⟩)]) (s4 := [(.arg 0, ⟨.fz, 3, cs0⟩), (.tmp 19 0, ⟨.box, 0, [.sc (.int .u32 x0_2), .sc (.int .i64 x0_3), .sc (.int .i64 x0_4), .sc (.int .i64 x0_5), .sc (.int .i64 x0_6), .sc (.int .i64 x0_7), .sc (.int .u32 t54.2.2.2.2.2.1), .own 1 t54.2.2.2.2.2.2.1.length (encL c_i64 t54.2.2.2.2.2.2.1), .sc (.int .i64 t54.2.2.2.2.2.2.2.1), .sc (.int .i64 t54.2.2.2.2.2.2.2.2.1), .sc (.int .i64 t54.2.2.2.2.2.2.2.2.2.1), .sc (.int .i64 t54.2.2.2.2.2.2.2.2.2.2.1), .sc (.bool t54.2.2.2.2.2.2.2.2.2.2.2)]⟩), (.tmp 8 20, ⟨.lst, 5, encL c66 x0_15⟩), (.tmp 10 0, ⟨.box, 0, [.sc (.int .i64 ((rd z63 l1 x0_1).f0)), .sc (.int .i64 ((rd z63 l1 x0_1).f1)), .sc (.int .u32 ((rd z63 l1 x0_1).f2))]⟩), (.tmp 51 1, ⟨.lst, 1, encL c_i64 t54.2.2.1⟩), (.tmp 51 0, ⟨.lst, 3, encL c68 t54.2.1⟩)]) (t' := [(7, .c (.ptr (.tmp 19 0) [] 0)), (8, .c (.ref (.tmp 8 20) [] 0 x0_15.length)), (11, .c (.sc (.iface 221 (.agg #[.int .u32 ((rd z63 l1 x0_1).f2)])))), (20, .c (.ref (.arg 0) [] o0 l1.length)), (21, .c (.sc (.int .i64 x0_0))), (22, .c (.sc (.int .i64 x0_1))), (48, .c (.ref (.tmp 8 20) [] 0 x0_15.length)), (49, .c (.ptr (.tmp 19 0) [] 0)), (50, .c (.sc (.iface 221 (.agg #[.int .u32 ((rd z63 l1 x0_1).f2)]))))]) (m1' := []) (m2' := []) (v' := .g [.sc (.int .i64 t54.1), .ref (.tmp 51 0) [] 0 t54.2.1.length, .ref (.tmp 51 1) [] 0 t54.2.2.1.length, .sc (.int .i64 t54.2.2.2.1), .sc (.int .i64 t54.2.2.2.2.1)]) (by first | rfl | simp only [reduceCtorEq, Nat.reduceEqDiff, ak, akF, List.contains_nil, List.contains_cons, Nat.reduceBEq, b30]) (mrgL_whole (new' := [.sc (.int .u32 x0_2), .sc (.int .i64 x0_3), .sc (.int .i64 x0_4), .sc (.int .i64 x0_5), .sc (.int .i64 x0_6), .sc (.int .i64 x0_7), .sc (.int .u32 t54.2.2.2.2.2.1), .own 1 t54.2.2.2.2.2.2.1.length (encL c_i64 t54.2.2.2.2.2.2.1), .sc (.int .i64 t54.2.2.2.2.2.2.2.1), .sc (.int .i64 t54.2.2.2.2.2.2.2.2.1), .sc (.int .i64 t54.2.2.2.2.2.2.2.2.2.1), .sc (.int .i64 t54.2.2.2.2.2.2.2.2.2.2.1), .sc (.bool t54.2.2.2.2.2.2.2.2.2.2.2)]) (mrgL_nil' _ _ _) rfl (by rfl) (.inl ⟨rfl, by first | rfl | simp only [reduceCtorEq, Nat.reduceEqDiff, ak, akF, Nat.zero_add, List.append_nil, b30]⟩)) (by rfl) (by first | rfl | simp only [reduceCtorEq, Nat.reduceEqDiff, ak, akF, List.contains_nil, List.contains_cons, Nat.reduceBEq, b30]) (by rfl) (by rfl) (by first | rfl | simp only [reduceCtorEq, Nat.reduceEqDiff, ak, akF, Nat.zero_add, List.append_nil, b30]) ?_
          have g57 : (List.replicate 1 ([.int .i64 0, .slice none 0 0, .slice none 0 0, .int .i64 0, .int .i64 0] : List Value)).flatten = [.int .i64 0, .slice none 0 0, .slice none 0 0, .int .i64 0, .int .i64 0] := rfl
          have g58 : (encL c68 t54.2.1).length = t54.2.1.length * 3 := by simp [encL_length c68_w]
          have g59 : (encL c_i64 t54.2.2.1).length = t54.2.2.1.length * 1 := by simp [encL_length c_i64_w]
          have g60 : (⟨.lst, 5, [.sc (.int .i64 t54.1), .own 3 t54.2.1.length (encL c68 t54.2.1), .own 1 t54.2.2.1.length (encL c_i64 t54.2.2.1), .sc (.int .i64 t54.2.2.2.1), .sc (.int .i64 t54.2.2.2.2.1)]⟩ : Root) = ⟨.lst, 5, encL c66 ([(⟨t54.1, t54.2.1, t54.2.2.1, t54.2.2.2.1, t54.2.2.2.2.1⟩ : S66)] : List S66)⟩ := rfl
          have g61 : ([(⟨t54.1, t54.2.1, t54.2.2.1, t54.2.2.2.1, t54.2.2.2.2.1⟩ : S66)] : List S66).length = 1 := rfl
          simp only [Nat.reduceEqDiff, Nat.reduceAdd, Nat.reduceMul, Nat.reduceLeDiff, Nat.reduceLT, Int.reduceLE, Int.reduceLT, Int.reduceGT, Int.reduceGE, Int.reduceEq, Int.reduceNe, Int.reduceToNat, reduceCtorEq, ak, g57, g58, g59, g60, g61]
          refine gho_k (Weak.refl _ _) ?_
          have g62 : (encL c66 ([(⟨t54.1, t54.2.1, t54.2.2.1, t54.2.2.2.1, t54.2.2.2.2.1⟩ : S66)] : List S66)).length = 1 * 5 := by simp [encL_length c66_w]
          have g63 : (encL c66 ([(⟨t54.1, t54.2.1, t54.2.2.1, t54.2.2.2.1, t54.2.2.2.2.1⟩ : S66)] : List S66)).all nd = true := rfl
          obtain ⟨b64, h⟩ := of_guard h
          have g65 : appLim x0_15.length 1 72 := ⟨b64, by have := b64; omega⟩
          have g66 : (encL c66 x0_15).length = x0_15.length * 5 := by simp [encL_length c66_w]
          have g67 : encL c66 x0_15 ++ encL c66 ([(⟨t54.1, t54.2.1, t54.2.2.1, t54.2.2.2.1, t54.2.2.2.2.1⟩ : S66)] : List S66) = encL c66 (x0_15 ++ ([(⟨t54.1, t54.2.1, t54.2.2.1, t54.2.2.2.1, t54.2.2.2.2.1⟩ : S66)] : List S66)) := (encL_append _ _).symm
          simp only [Nat.reduceEqDiff, Nat.reduceAdd, Nat.reduceMul, Nat.reduceLeDiff, Nat.reduceLT, Int.reduceLE, Int.reduceLT, Int.reduceGT, Int.reduceGE, Int.reduceEq, Int.reduceNe, Int.reduceToNat, reduceCtorEq, ak, g62, g63, g65, g66, g67]
          refine B28n _ ?_
          obtain rfl := Option.some.inj h
          refine G27n _ _ (((Weak.keep [7, 8, 20, 21, 22]).trans ((Weak.foc [(.arg 0, ⟨(.arg 0), [], none, .fz⟩), (.tmp 19 0, ⟨(.tmp 19 0), [], none, .box⟩), (.tmp 8 20, ⟨(.tmp 8 20), [], none, .lst⟩)] rfl (by first | rfl | simp only [reduceCtorEq, Nat.reduceEqDiff, ak, akF, b30, b64]) (by simp [argK, akG, ak])).trans (Weak.of_eq (by first | rfl | (simp only [reduceCtorEq, Nat.reduceEqDiff, ak, akF, b30, b64]; done) | (simp [reduceCtorEq, Nat.reduceEqDiff, ak, akF, b30, b64]; done)))))) (hJ26 _ rfl)
        · replace c53 := of_decide_eq_false c53; rw [if_neg c53] at h
          refine seq_k fun J68 hJ68 => ?_
          refine reg_k ?_
          simp only [Nat.reduceEqDiff, Nat.reduceAdd, Nat.reduceMul, Nat.reduceLeDiff, Nat.reduceLT, Int.reduceLE, Int.reduceLT, Int.reduceGT, Int.reduceGE, Int.reduceEq, Int.reduceNe, Int.reduceToNat, reduceCtorEq, ak]
          refine hJ68 _ ?_
          refine cond_k (b := decide ((rd z63 l1 x0_1).f0 = 3)) rfl (fun c69 => ?_) (fun c69 => ?_)
          · replace c69 := of_decide_eq_true c69; rw [if_pos c69] at h
            refine reg_k ?_
            simp only [Nat.reduceEqDiff, Nat.reduceAdd, Nat.reduceMul, Nat.reduceLeDiff, Nat.reduceLT, Int.reduceLE, Int.reduceLT, Int.reduceGT, Int.reduceGE, Int.reduceEq, Int.reduceNe, Int.reduceToNat, reduceCtorEq, ak]
            refine B35n _ ?_
            refine hJ33 _ ?_
            refine reg_k ?_
            simp only [Nat.reduceEqDiff, Nat.reduceAdd, Nat.reduceMul, Nat.reduceLeDiff, Nat.reduceLT, Int.reduceLE, Int.reduceLT, Int.reduceGT, Int.reduceGE, Int.reduceEq, Int.reduceNe, Int.reduceToNat, reduceCtorEq, ak]
            obtain ⟨t70, h71, h⟩ := of_bind h
            refine call_m [(.arg 0, ⟨(.tmp 19 0), [], none, .box⟩)] (s0 := [(.arg 0, ⟨.box, 0, [.sc (.int .u32 x0_2), .sc (.int .i64 x0_3), .sc (.int .i64 x0_4), .sc (.int .i64 x0_5), .sc (.int .i64 x0_6), .sc (.int .i64 x0_7), .sc (.int .u32 x0_8), .own 1 x0_9.length (encL c_i64 x0_9), .sc (.int .i64 x0_10), .sc (.int .i64 x0_11), .sc (.int .i64 x0_12), .sc (.int .i64 x0_13), .sc (.bool x0_14)]⟩)]) (by intro t ht; cases ht; decide) rfl rfl (by first | rfl | simp only [reduceCtorEq, Nat.reduceEqDiff, ak, akF, b30, g31]) (impl_sender_act_v28.tri x0_2 x0_3 x0_4 x0_5 x0_6 x0_7 x0_8 x0_9 x0_10 x0_11 x0_12 x0_13 x0_14 _ h71) (by first | rfl | simp only [reduceCtorEq, Nat.reduceEqDiff, ak, akF]) (by simp [bkOk2, memK]) (fun hl71 => ?_)
            refine call_st (s4 := [(.arg 0, ⟨.fz, 3, cs0⟩), (.tmp 19 0, ⟨.box, 0, [.sc (.int .u32 x0_2), .sc (.int .i64 x0_3), .sc (.int .i64 x0_4), .sc (.int .i64 x0_5), .sc (.int .i64 x0_6), .sc (.int .i64 x0_7), .sc (.int .u32 x0_8), .own 1 x0_9.length (encL c_i64 x0_9), .sc (.int .i64 t70.2.2.2.2.2.1), .sc (.int .i64 t70.2.2.2.2.2.2.1), .sc (.int .i64 t70.2.2.2.2.2.2.2.1), .sc (.int .i64 t70.2.2.2.2.2.2.2.2.1), .sc (.bool t70.2.2.2.2.2.2.2.2.2)]⟩), (.tmp 8 20, ⟨.lst, 5, encL c66 x0_15⟩), (.tmp 10 0, ⟨.box, 0, [.sc (.int .i64 ((rd z63 l1 x0_1).f0)), .sc (.int .i64 ((rd z63 l1 x0_1).f1)), .sc (.int .u32 ((rd z63 l1 x0_1).f2))]⟩), (.tmp 51 1, ⟨.lst, 1, encL c_i64 t70.2.2.1⟩), (.tmp 51 0, ⟨.lst, 3, encL c68 t70.2.1⟩)]) (m1' := []) (m2' := []) (v' := .g [.sc (.int .i64 t70.1), .ref (.tmp 51 0) [] 0 t70.2.1.length, .ref (.tmp 51 1) [] 0 t70.2.2.1.length, .sc (.int .i64 t70.2.2.2.1), .sc (.int .i64 t70.2.2.2.2.1)]) (Sto.mapN_killNil _ _) (mrgL_whole (new' := [.sc (.int .u32 x0_2), .sc (.int .i64 x0_3), .sc (.int .i64 x0_4), .sc (.int .i64 x0_5), .sc (.int .i64 x0_6), .sc (.int .i64 x0_7), .sc (.int .u32 x0_8), .own 1 x0_9.length (encL c_i64 x0_9), .sc (.int .i64 t70.2.2.2.2.2.1), .sc (.int .i64 t70.2.2.2.2.2.2.1), .sc (.int .i64 t70.2.2.2.2.2.2.2.1), .sc (.int .i64 t70.2.2.2.2.2.2.2.2.1), .sc (.bool t70.2.2.2.2.2.2.2.2.2)]) (mrgL_nil' _ _ _) rfl (by rfl) (.inl ⟨rfl, by first | rfl | simp only [reduceCtorEq, Nat.reduceEqDiff, ak, akF, Nat.zero_add, List.append_nil, b30]⟩)) (by rfl) (mapT_killNil _ _) (by rfl) (by rfl) (by first | rfl | simp only [reduceCtorEq, Nat.reduceEqDiff, ak, akF, Nat.zero_add, List.append_nil, b30]) ?_
            have g73 : (List.replicate 1 ([.int .i64 0, .slice none 0 0, .slice none 0 0, .int .i64 0, .int .i64 0] : List Value)).flatten = [.int .i64 0, .slice none 0 0, .slice none 0 0, .int .i64 0, .int .i64 0] := rfl
            have g74 : (encL c68 t70.2.1).length = t70.2.1.length * 3 := by simp [encL_length c68_w]
            have g75 : (encL c_i64 t70.2.2.1).length = t70.2.2.1.length * 1 := by simp [encL_length c_i64_w]
            have g76 : (⟨.lst, 5, [.sc (.int .i64 t70.1), .own 3 t70.2.1.length (encL c68 t70.2.1), .own 1 t70.2.2.1.length (encL c_i64 t70.2.2.1), .sc (.int .i64 t70.2.2.2.1), .sc (.int .i64 t70.2.2.2.2.1)]⟩ : Root) = ⟨.lst, 5, encL c66 ([(⟨t70.1, t70.2.1, t70.2.2.1, t70.2.2.2.1, t70.2.2.2.2.1⟩ : S66)] : List S66)⟩ := rfl
            have g77 : ([(⟨t70.1, t70.2.1, t70.2.2.1, t70.2.2.2.1, t70.2.2.2.2.1⟩ : S66)] : List S66).length = 1 := rfl
            simp only [Nat.reduceEqDiff, Nat.reduceAdd, Nat.reduceMul, Nat.reduceLeDiff, Nat.reduceLT, Int.reduceLE, Int.reduceLT, Int.reduceGT, Int.reduceGE, Int.reduceEq, Int.reduceNe, Int.reduceToNat, reduceCtorEq, ak, g73, g74, g75, g76, g77]
            refine gho_k (Weak.refl _ _) ?_
            have g78 : (encL c66 ([(⟨t70.1, t70.2.1, t70.2.2.1, t70.2.2.2.1, t70.2.2.2.2.1⟩ : S66)] : List S66)).length = 1 * 5 := by simp [encL_length c66_w]
            have g79 : (encL c66 ([(⟨t70.1, t70.2.1, t70.2.2.1, t70.2.2.2.1, t70.2.2.2.2.1⟩ : S66)] : List S66)).all nd = true := rfl
            obtain ⟨b80, h⟩ := of_guard h
            have g81 : appLim x0_15.length 1 72 := ⟨b80, by have := b80; omega⟩
            have g82 : (encL c66 x0_15).length = x0_15.length * 5 := by simp [encL_length c66_w]
            have g83 : encL c66 x0_15 ++ encL c66 ([(⟨t70.1, t70.2.1, t70.2.2.1, t70.2.2.2.1, t70.2.2.2.2.1⟩ : S66)] : List S66) = encL c66 (x0_15 ++ ([(⟨t70.1, t70.2.1, t70.2.2.1, t70.2.2.2.1, t70.2.2.2.2.1⟩ : S66)] : List S66)) := (encL_append _ _).symm
            simp only [Nat.reduceEqDiff, Nat.reduceAdd, Nat.reduceMul, Nat.reduceLeDiff, Nat.reduceLT, Int.reduceLE, Int.reduceLT, Int.reduceGT, Int.reduceGE, Int.reduceEq, Int.reduceNe, Int.reduceToNat, reduceCtorEq, ak, g78, g79, g81, g82, g83]
            refine B28n _ ?_
            obtain rfl := Option.some.inj h
            refine G27n _ _ (((Weak.keep [7, 8, 20, 21, 22]).trans ((Weak.foc [(.arg 0, ⟨(.arg 0), [], none, .fz⟩), (.tmp 19 0, ⟨(.tmp 19 0), [], none, .box⟩), (.tmp 8 20, ⟨(.tmp 8 20), [], none, .lst⟩)] rfl (by first | rfl | simp only [reduceCtorEq, Nat.reduceEqDiff, ak, akF, b30, b80]) (by simp [argK, akG, ak])).trans (Weak.of_eq (by first | rfl | (simp only [reduceCtorEq, Nat.reduceEqDiff, ak, akF, b30, b80]; done) | (simp [reduceCtorEq, Nat.reduceEqDiff, ak, akF, b30, b80]; done)))))) (hJ26 _ rfl)
          · replace c69 := of_decide_eq_false c69; rw [if_neg c69] at h
            refine seq_k fun J84 hJ84 => ?_
            refine reg_k ?_
            simp only [Nat.reduceEqDiff, Nat.reduceAdd, Nat.reduceMul, Nat.reduceLeDiff, Nat.reduceLT, Int.reduceLE, Int.reduceLT, Int.reduceGT, Int.reduceGE, Int.reduceEq, Int.reduceNe, Int.reduceToNat, reduceCtorEq, ak]
            refine gho_k ((Weak.nmg' 29 1 (.tmp 29 21) 3 (encL c68 ([] : List S68)) rfl rfl rfl rfl).trans (Weak.nmg' 29 2 (.tmp 29 22) 1 (encL c_i64 ([] : List Int)) rfl rfl rfl rfl)) ?_
            have g85 : (List.replicate 1 ([.int .i64 0, .slice none 0 0, .slice none 0 0, .int .i64 0, .int .i64 0] : List Value)).flatten = [.int .i64 0, .slice none 0 0, .slice none 0 0, .int .i64 0, .int .i64 0] := rfl
            have g86 : (encL c68 ([] : List S68)).length = 0 * 3 := by simp [encL_length c68_w]
            have g87 : (encL c_i64 ([] : List Int)).length = 0 * 1 := by simp [encL_length c_i64_w]
            have g88 : (⟨.lst, 5, [.sc (.int .i64 1), .own 3 0 (encL c68 ([] : List S68)), .own 1 0 (encL c_i64 ([] : List Int)), .sc (.int .i64 0), .sc (.int .i64 0)]⟩ : Root) = ⟨.lst, 5, encL c66 ([(⟨1, ([] : List S68), ([] : List Int), 0, 0⟩ : S66)] : List S66)⟩ := rfl
            have g89 : ([(⟨1, ([] : List S68), ([] : List Int), 0, 0⟩ : S66)] : List S66).length = 1 := rfl
            simp only [Nat.reduceEqDiff, Nat.reduceAdd, Nat.reduceMul, Nat.reduceLeDiff, Nat.reduceLT, Int.reduceLE, Int.reduceLT, Int.reduceGT, Int.reduceGE, Int.reduceEq, Int.reduceNe, Int.reduceToNat, reduceCtorEq, ak, g85, g86, g87, g88, g89]
            refine gho_k (Weak.refl _ _) ?_
            have g90 : (encL c66 ([(⟨1, ([] : List S68), ([] : List Int), 0, 0⟩ : S66)] : List S66)).length = 1 * 5 := by simp [encL_length c66_w]
            have g91 : (encL c66 ([(⟨1, ([] : List S68), ([] : List Int), 0, 0⟩ : S66)] : List S66)).all nd = true := rfl
            obtain ⟨b92, h⟩ := of_guard h
            have g93 : appLim x0_15.length 1 72 := ⟨b92, by have := b92; omega⟩
            have g94 : (encL c66 x0_15).length = x0_15.length * 5 := by simp [encL_length c66_w]
            have g95 : encL c66 x0_15 ++ encL c66 ([(⟨1, ([] : List S68), ([] : List Int), 0, 0⟩ : S66)] : List S66) = encL c66 (x0_15 ++ ([(⟨1, ([] : List S68), ([] : List Int), 0, 0⟩ : S66)] : List S66)) := (encL_append _ _).symm
            simp only [Nat.reduceEqDiff, Nat.reduceAdd, Nat.reduceMul, Nat.reduceLeDiff, Nat.reduceLT, Int.reduceLE, Int.reduceLT, Int.reduceGT, Int.reduceGE, Int.reduceEq, Int.reduceNe, Int.reduceToNat, reduceCtorEq, ak, g90, g91, g93, g94, g95]
            refine hJ84 _ ?_
            refine B35j _ _ (by decide) ?_
            refine B28x _ ?_
            obtain rfl := Option.some.inj h
            refine G27n _ _ (((Weak.keep [7, 8, 20, 21, 22]).trans ((Weak.foc [(.arg 0, ⟨(.arg 0), [], none, .fz⟩), (.tmp 19 0, ⟨(.tmp 19 0), [], none, .box⟩), (.tmp 8 20, ⟨(.tmp 8 20), [], none, .lst⟩)] rfl (by first | rfl | simp only [reduceCtorEq, Nat.reduceEqDiff, ak, akF, b30, b92]) (by simp [argK, akG, ak])).trans (Weak.of_eq (by first | rfl | (simp only [reduceCtorEq, Nat.reduceEqDiff, ak, akF, b30, b92]; done) | (simp [reduceCtorEq, Nat.reduceEqDiff, ak, akF, b30, b92]; done)))))) (hJ26 _ rfl)
    · replace h := hn; clear hn h25
      rintro _ rfl
      refine reg_k ?_
      simp only [Nat.reduceEqDiff, Nat.reduceAdd, Nat.reduceMul, Nat.reduceLeDiff, Nat.reduceLT, Int.reduceLE, Int.reduceLT, Int.reduceGT, Int.reduceGE, Int.reduceEq, Int.reduceNe, Int.reduceToNat, reduceCtorEq, ak]
      refine G0n _ (⟨[(7, .c (.ptr (.tmp 19 0) [] 0)), (8, .c (.ref (.tmp 8 20) [] 0 j24.2.2.2.2.2.2.2.length)), (20, .c (.ref (.arg 0) [] o0 l1.length)), (21, .c (.sc (.int .i64 x0_0))), (22, .c (.sc (.int .i64 (IntKind.i64.wrap (x0_1 + 1)))))], [(.arg 0, ⟨.fz, 3, cs0⟩), (.tmp 19 0, ⟨.box, 0, [.sc (.int .u32 x0_2), .sc (.int .i64 x0_3), .sc (.int .i64 x0_4), .sc (.int .i64 x0_5), .sc (.int .i64 x0_6), .sc (.int .i64 x0_7), .sc (.int .u32 j24.1), .own 1 j24.2.1.length (encL c_i64 j24.2.1), .sc (.int .i64 j24.2.2.1), .sc (.int .i64 j24.2.2.2.1), .sc (.int .i64 j24.2.2.2.2.1), .sc (.int .i64 j24.2.2.2.2.2.1), .sc (.bool j24.2.2.2.2.2.2.1)]⟩), (.tmp 8 20, ⟨.lst, 5, encL c66 j24.2.2.2.2.2.2.2⟩)], [], []⟩) (((Weak.keep [7, 8, 20, 21, 22]).trans ((Weak.foc [(.arg 0, ⟨(.arg 0), [], none, .fz⟩), (.tmp 19 0, ⟨(.tmp 19 0), [], none, .box⟩), (.tmp 8 20, ⟨(.tmp 8 20), [], none, .lst⟩)] rfl (by first | rfl | simp only [reduceCtorEq, Nat.reduceEqDiff, ak, akF]) (by simp [argK, akG, ak])).trans (Weak.of_eq (by first | rfl | (simp only [reduceCtorEq, Nat.reduceEqDiff, ak, akF]; done) | (simp [reduceCtorEq, Nat.reduceEqDiff, ak, akF]; done)))))) (ih _ _ _ _ _ _ _ _ _ _ h K hx0)
  · replace c23 := of_decide_eq_false c23; rw [if_neg c23] at h
    obtain rfl := Option.some.inj h
    refine gh_k (st' := ⟨[(7, .c (.ptr (.tmp 19 0) [] 0)), (8, .c (.ref (.tmp 8 20) [] 0 x0_15.length))], [(.arg 0, ⟨.fz, 3, cs0⟩), (.tmp 19 0, ⟨.box, 0, [.sc (.int .u32 x0_2), .sc (.int .i64 x0_3), .sc (.int .i64 x0_4), .sc (.int .i64 x0_5), .sc (.int .i64 x0_6), .sc (.int .i64 x0_7), .sc (.int .u32 x0_8), .own 1 x0_9.length (encL c_i64 x0_9), .sc (.int .i64 x0_10), .sc (.int .i64 x0_11), .sc (.int .i64 x0_12), .sc (.int .i64 x0_13), .sc (.bool x0_14)]⟩), (.tmp 8 20, ⟨.lst, 5, encL c66 x0_15⟩)], [], []⟩) (((Weak.keep [7, 8]).trans ((Weak.foc [(.arg 0, ⟨(.arg 0), [], none, .fz⟩), (.tmp 19 0, ⟨(.tmp 19 0), [], none, .box⟩), (.tmp 8 20, ⟨(.tmp 8 20), [], none, .lst⟩)] rfl (by first | rfl | simp only [reduceCtorEq, Nat.reduceEqDiff, ak, akF]) (by simp [argK, akG, ak])).trans (Weak.of_eq (by first | rfl | (simp only [reduceCtorEq, Nat.reduceEqDiff, ak, akF]; done) | (simp [reduceCtorEq, Nat.reduceEqDiff, ak, akF]; done)))))) ?_
    refine G0x _ _ ?_
    exact hx0
set_option maxRecDepth 100000 in
set_option maxHeartbeats 4000000 in
theorem impl_subAfter.tri0 (cs0 : List Cell) (o0 : Nat) (l1 : List S63) (hv0 : Vw c63 3 cs0 o0 l1) (a0_0 : Int) (a0_1 : Int) (a0_2 : Int) (a0_3 : Int) (a0_4 : Int) (a0_5 : Int) (r : (Option (Int × Int × Int × Int × Int × Int × Int × (List Int) × Int × Int × Int × Int × Bool)) × (List S66) × Int) (h : impl_subAfter.f a0_0 a0_1 a0_2 a0_3 a0_4 a0_5 l1 = some r) (hp : r.1 = none) : Tri Try.prog 87 [.g [.sc (.int .u32 a0_0), .sc (.int .i64 a0_1), .sc (.int .i64 a0_2), .sc (.int .i64 a0_3), .sc (.int .i64 a0_4), .sc (.int .i64 a0_5)], .c (.ref (.arg 0) [] o0 l1.length)] [(.arg 0, ⟨.fz, 3, cs0⟩)] (fun o => o = ⟨.tup [(false, [.sc (.pointer none)]), (false, [.ref (.res 0) [] 0 r.2.1.length]), (false, [.sc (.int .i64 r.2.2)])], [(.arg 0, ⟨.fz, 3, cs0⟩), (.res 0, ⟨.lst, 5, encL c66 r.2.1⟩)], [], []⟩) := by
  refine tri_of_body (ac := c87) (xs := r87) Try.func87 (show Try.f87.body = some (Try.f87.body.getD .skip) from rfl) k87 q87 (Nat.le_of_ble_eq_true rfl) ?_
  refine body_of fun K hKn hKr => ?_
  unfold impl_subAfter.f at h
  unfold c87
  simp only [initT, Nat.reduceAdd]
  refine seq_k fun J1 hJ1 => ?_
  refine reg_k ?_
  simp only [Nat.reduceEqDiff, Nat.reduceAdd, Nat.reduceMul, Nat.reduceLeDiff, Nat.reduceLT, Int.reduceLE, Int.reduceLT, Int.reduceGT, Int.reduceGE, Int.reduceEq, Int.reduceNe, Int.reduceToNat, reduceCtorEq, ak]
  refine gho_k (Weak.nm' 5 (.tmp 5 20) 5 (encL c66 ([] : List S66)) rfl rfl rfl) ?_
  simp only [Nat.reduceEqDiff, Nat.reduceAdd, Nat.reduceMul, Nat.reduceLeDiff, Nat.reduceLT, Int.reduceLE, Int.reduceLT, Int.reduceGT, Int.reduceGE, Int.reduceEq, Int.reduceNe, Int.reduceToNat, reduceCtorEq, ak]
  refine hJ1 _ ?_
  refine seq_k fun J2 hJ2 => ?_
  refine seq_k fun J3 hJ3 => ?_
  refine reg_k ?_
  simp only [Nat.reduceEqDiff, Nat.reduceAdd, Nat.reduceMul, Nat.reduceLeDiff, Nat.reduceLT, Int.reduceLE, Int.reduceLT, Int.reduceGT, Int.reduceGE, Int.reduceEq, Int.reduceNe, Int.reduceToNat, reduceCtorEq, ak]
  obtain ⟨t4, h5, h⟩ := of_bind h
  refine call_m [] (s0 := []) (by intro t ht; cases ht; decide) rfl rfl (by first | rfl | simp only [reduceCtorEq, Nat.reduceEqDiff, ak, akF]) (impl_validSub.tri a0_0 a0_1 a0_2 a0_3 a0_4 a0_5 _ h5) (by first | rfl | simp only [reduceCtorEq, Nat.reduceEqDiff, ak, akF]) (by simp [bkOk2, memK]) (fun hl5 => ?_)
  refine call_st (s4 := [(.arg 0, ⟨.fz, 3, cs0⟩), (.tmp 2 0, ⟨.box, 0, [.sc (.int .u32 a0_0), .sc (.int .i64 a0_1), .sc (.int .i64 a0_2), .sc (.int .i64 a0_3), .sc (.int .i64 a0_4), .sc (.int .i64 a0_5)]⟩), (.tmp 5 20, ⟨.lst, 5, encL c66 ([] : List S66)⟩)]) (m1' := []) (m2' := []) (v' := .c (.sc (.bool t4))) (Sto.mapN_killNil _ _) (mrgL_nil' _ _ _) (by rfl) (mapT_killNil _ _) (by rfl) (by rfl) (by first | rfl | simp only [reduceCtorEq, Nat.reduceEqDiff, ak, akF, Nat.zero_add, List.append_nil]) ?_
  simp only [Nat.reduceEqDiff, Nat.reduceAdd, Nat.reduceMul, Nat.reduceLeDiff, Nat.reduceLT, Int.reduceLE, Int.reduceLT, Int.reduceGT, Int.reduceGE, Int.reduceEq, Int.reduceNe, Int.reduceToNat, reduceCtorEq, ak]
  refine hJ3 _ ?_
  refine cond_k (b := !t4) rfl (fun c7 => ?_) (fun c7 => ?_)
  · rw [if_pos c7] at h
    refine seq_k fun J8 hJ8 => ?_
    refine reg_k ?_
    simp only [Nat.reduceEqDiff, Nat.reduceAdd, Nat.reduceMul, Nat.reduceLeDiff, Nat.reduceLT, Int.reduceLE, Int.reduceLT, Int.reduceGT, Int.reduceGE, Int.reduceEq, Int.reduceNe, Int.reduceToNat, reduceCtorEq, ak]
    refine gho_k ((Weak.drop [.tmp 5 20]).trans (Weak.nm' 5 (.tmp 5 20) 5 (encL c66 ([] : List S66)) rfl rfl rfl)) ?_
    simp only [Nat.reduceEqDiff, Nat.reduceAdd, Nat.reduceMul, Nat.reduceLeDiff, Nat.reduceLT, Int.reduceLE, Int.reduceLT, Int.reduceGT, Int.reduceGE, Int.reduceEq, Int.reduceNe, Int.reduceToNat, reduceCtorEq, ak]
    refine hJ8 _ ?_
    obtain rfl := Option.some.inj h
    refine hKr _ ⟨_, rfl, [⟨(.tmp 5 20), [], none, .lst⟩], _, rfl, rfl, ?_⟩
    first | rfl | (simp only [reduceCtorEq, Nat.reduceEqDiff, ak, akF]; done) | (simp [reduceCtorEq, Nat.reduceEqDiff, ak, akF]; done)
  · rw [if_neg (Bool.eq_false_iff.1 c7)] at h
    refine hJ2 _ ?_
    refine seq_k fun J9 hJ9 => ?_
    refine seq_k fun J10 hJ10 => ?_
    refine reg_k ?_
    simp only [Nat.reduceEqDiff, Nat.reduceAdd, Nat.reduceMul, Nat.reduceLeDiff, Nat.reduceLT, Int.reduceLE, Int.reduceLT, Int.reduceGT, Int.reduceGE, Int.reduceEq, Int.reduceNe, Int.reduceToNat, reduceCtorEq, ak]
    refine hJ10 _ ?_
    refine cond_k (b := decide ((l1.length : Int) > 4000)) rfl (fun c11 => ?_) (fun c11 => ?_)
    · replace c11 := of_decide_eq_true c11; rw [if_pos c11] at h
      refine seq_k fun J12 hJ12 => ?_
      refine reg_k ?_
      simp only [Nat.reduceEqDiff, Nat.reduceAdd, Nat.reduceMul, Nat.reduceLeDiff, Nat.reduceLT, Int.reduceLE, Int.reduceLT, Int.reduceGT, Int.reduceGE, Int.reduceEq, Int.reduceNe, Int.reduceToNat, reduceCtorEq, ak]
      refine gho_k ((Weak.drop [.tmp 5 20]).trans (Weak.nm' 5 (.tmp 5 20) 5 (encL c66 ([] : List S66)) rfl rfl rfl)) ?_
      simp only [Nat.reduceEqDiff, Nat.reduceAdd, Nat.reduceMul, Nat.reduceLeDiff, Nat.reduceLT, Int.reduceLE, Int.reduceLT, Int.reduceGT, Int.reduceGE, Int.reduceEq, Int.reduceNe, Int.reduceToNat, reduceCtorEq, ak]
      refine hJ12 _ ?_
      obtain rfl := Option.some.inj h
      refine hKr _ ⟨_, rfl, [⟨(.tmp 5 20), [], none, .lst⟩], _, rfl, rfl, ?_⟩
      first | rfl | (simp only [reduceCtorEq, Nat.reduceEqDiff, ak, akF]; done) | (simp [reduceCtorEq, Nat.reduceEqDiff, ak, akF]; done)
    · replace c11 := of_decide_eq_false c11; rw [if_neg c11] at h
      refine hJ9 _ ?_
      refine seq_k fun J13 hJ13 => ?_
      refine reg_k ?_
      simp only [Nat.reduceEqDiff, Nat.reduceAdd, Nat.reduceMul, Nat.reduceLeDiff, Nat.reduceLT, Int.reduceLE, Int.reduceLT, Int.reduceGT, Int.reduceGE, Int.reduceEq, Int.reduceNe, Int.reduceToNat, reduceCtorEq, ak]
      obtain ⟨t14, h15, h⟩ := of_bind h
      refine call_m [] (s0 := []) (by intro t ht; cases ht; decide) rfl rfl (by first | rfl | simp only [reduceCtorEq, Nat.reduceEqDiff, ak, akF]) (impl_newSender.tri a0_0 a0_1 a0_2 a0_3 a0_4 a0_5 _ h15) (by first | rfl | simp only [reduceCtorEq, Nat.reduceEqDiff, ak, akF]) (by simp [bkOk2, memK]) (fun hl15 => ?_)
      refine call_st (s4 := [(.arg 0, ⟨.fz, 3, cs0⟩), (.tmp 2 0, ⟨.box, 0, [.sc (.int .u32 a0_0), .sc (.int .i64 a0_1), .sc (.int .i64 a0_2), .sc (.int .i64 a0_3), .sc (.int .i64 a0_4), .sc (.int .i64 a0_5)]⟩), (.tmp 5 20, ⟨.lst, 5, encL c66 ([] : List S66)⟩), (.tmp 19 0, ⟨.box, 0, [.sc (.int .u32 t14.1), .sc (.int .i64 t14.2.1), .sc (.int .i64 t14.2.2.1), .sc (.int .i64 t14.2.2.2.1), .sc (.int .i64 t14.2.2.2.2.1), .sc (.int .i64 t14.2.2.2.2.2.1), .sc (.int .u32 t14.2.2.2.2.2.2.1), .own 1 t14.2.2.2.2.2.2.2.1.length (encL c_i64 t14.2.2.2.2.2.2.2.1), .sc (.int .i64 t14.2.2.2.2.2.2.2.2.1), .sc (.int .i64 t14.2.2.2.2.2.2.2.2.2.1), .sc (.int .i64 t14.2.2.2.2.2.2.2.2.2.2.1), .sc (.int .i64 t14.2.2.2.2.2.2.2.2.2.2.2.1), .sc (.bool t14.2.2.2.2.2.2.2.2.2.2.2.2)]⟩)]) (m1' := []) (m2' := []) (v' := .c (.ptr (.tmp 19 0) [] 0)) (Sto.mapN_killNil _ _) (mrgL_nil' _ _ _) (by rfl) (mapT_killNil _ _) (by rfl) (by rfl) (by first | rfl | simp only [reduceCtorEq, Nat.reduceEqDiff, ak, akF, Nat.zero_add, List.append_nil]) ?_
      simp only [Nat.reduceEqDiff, Nat.reduceAdd, Nat.reduceMul, Nat.reduceLeDiff, Nat.reduceLT, Int.reduceLE, Int.reduceLT, Int.reduceGT, Int.reduceGE, Int.reduceEq, Int.reduceNe, Int.reduceToNat, reduceCtorEq, ak]
      refine hJ13 _ ?_
      refine seq_k fun J17 hJ17 => ?_
      refine reg_k ?_
      simp only [Nat.reduceEqDiff, Nat.reduceAdd, Nat.reduceMul, Nat.reduceLeDiff, Nat.reduceLT, Int.reduceLE, Int.reduceLT, Int.reduceGT, Int.reduceGE, Int.reduceEq, Int.reduceNe, Int.reduceToNat, reduceCtorEq, ak]
      refine gho_k (Weak.nm' 8 (.tmp 8 20) 5 (encL c66 ([] : List S66)) rfl rfl rfl) ?_
      simp only [Nat.reduceEqDiff, Nat.reduceAdd, Nat.reduceMul, Nat.reduceLeDiff, Nat.reduceLT, Int.reduceLE, Int.reduceLT, Int.reduceGT, Int.reduceGE, Int.reduceEq, Int.reduceNe, Int.reduceToNat, reduceCtorEq, ak]
      refine hJ17 _ ?_
      refine seq_k fun J18 hJ18 => ?_
      refine seq_k fun J19 hJ19 => ?_
      refine reg_k ?_
      simp only [Nat.reduceEqDiff, Nat.reduceAdd, Nat.reduceMul, Nat.reduceLeDiff, Nat.reduceLT, Int.reduceLE, Int.reduceLT, Int.reduceGT, Int.reduceGE, Int.reduceEq, Int.reduceNe, Int.reduceToNat, reduceCtorEq, ak]
      refine hJ19 _ ?_
      refine block_k fun B20 B20n B20x B20r B20j => ?_
      obtain ⟨y96, h97, h⟩ := of_bind h
      refine gh_k (st' := ⟨[(7, .c (.ptr (.tmp 19 0) [] 0)), (8, .c (.ref (.tmp 8 20) [] 0 (([] : List S66).length))), (20, .c (.ref (.arg 0) [] o0 l1.length)), (21, .c (.sc (.int .i64 (l1.length : Int)))), (22, .c (.sc (.int .i64 0)))], [(.arg 0, ⟨.fz, 3, cs0⟩), (.tmp 19 0, ⟨.box, 0, [.sc (.int .u32 t14.1), .sc (.int .i64 t14.2.1), .sc (.int .i64 t14.2.2.1), .sc (.int .i64 t14.2.2.2.1), .sc (.int .i64 t14.2.2.2.2.1), .sc (.int .i64 t14.2.2.2.2.2.1), .sc (.int .u32 t14.2.2.2.2.2.2.1), .own 1 t14.2.2.2.2.2.2.2.1.length (encL c_i64 t14.2.2.2.2.2.2.2.1), .sc (.int .i64 t14.2.2.2.2.2.2.2.2.1), .sc (.int .i64 t14.2.2.2.2.2.2.2.2.2.1), .sc (.int .i64 t14.2.2.2.2.2.2.2.2.2.2.1), .sc (.int .i64 t14.2.2.2.2.2.2.2.2.2.2.2.1), .sc (.bool t14.2.2.2.2.2.2.2.2.2.2.2.2)]⟩), (.tmp 8 20, ⟨.lst, 5, encL c66 ([] : List S66)⟩)], [], []⟩) (((Weak.keep [7, 8, 20, 21, 22]).trans ((Weak.foc [(.arg 0, ⟨(.arg 0), [], none, .fz⟩), (.tmp 19 0, ⟨(.tmp 19 0), [], none, .box⟩), (.tmp 8 20, ⟨(.tmp 8 20), [], none, .lst⟩)] rfl (by first | rfl | simp only [reduceCtorEq, Nat.reduceEqDiff, ak, akF]) (by simp [argK, akG, ak])).trans (Weak.of_eq (by first | rfl | (simp only [reduceCtorEq, Nat.reduceEqDiff, ak, akF]; done) | (simp [reduceCtorEq, Nat.reduceEqDiff, ak, akF]; done)))))) ?_
      rw [e_loop]
      refine impl_subAfter.l0_walk cs0 o0 l1 hv0 (l1.length : Int) t14.1 t14.2.1 t14.2.2.1 t14.2.2.2.1 t14.2.2.2.2.1 t14.2.2.2.2.2.1 0 t14.2.2.2.2.2.2.1 t14.2.2.2.2.2.2.2.1 t14.2.2.2.2.2.2.2.2.1 t14.2.2.2.2.2.2.2.2.2.1 t14.2.2.2.2.2.2.2.2.2.2.1 t14.2.2.2.2.2.2.2.2.2.2.2.1 t14.2.2.2.2.2.2.2.2.2.2.2.2 ([] : List S66) _ h97 _ ?_
      refine B20x _ ?_
      refine hJ18 _ ?_
      refine seq_k fun J98 hJ98 => ?_
      refine reg_k ?_
      simp only [Nat.reduceEqDiff, Nat.reduceAdd, Nat.reduceMul, Nat.reduceLeDiff, Nat.reduceLT, Int.reduceLE, Int.reduceLT, Int.reduceGT, Int.reduceGE, Int.reduceEq, Int.reduceNe, Int.reduceToNat, reduceCtorEq, ak]
      refine hJ98 _ ?_
      obtain rfl := Option.some.inj h
      exact absurd hp (by simp)
set_option maxRecDepth 100000 in
set_option maxHeartbeats 4000000 in
theorem impl_subAfter.tri1 (cs0 : List Cell) (o0 : Nat) (l1 : List S63) (hv0 : Vw c63 3 cs0 o0 l1) (a0_0 : Int) (a0_1 : Int) (a0_2 : Int) (a0_3 : Int) (a0_4 : Int) (a0_5 : Int) (r : (Option (Int × Int × Int × Int × Int × Int × Int × (List Int) × Int × Int × Int × Int × Bool)) × (List S66) × Int) (h : impl_subAfter.f a0_0 a0_1 a0_2 a0_3 a0_4 a0_5 l1 = some r) (p : Int × Int × Int × Int × Int × Int × Int × (List Int) × Int × Int × Int × Int × Bool) (hp : r.1 = some p) : Tri Try.prog 87 [.g [.sc (.int .u32 a0_0), .sc (.int .i64 a0_1), .sc (.int .i64 a0_2), .sc (.int .i64 a0_3), .sc (.int .i64 a0_4), .sc (.int .i64 a0_5)], .c (.ref (.arg 0) [] o0 l1.length)] [(.arg 0, ⟨.fz, 3, cs0⟩)] (fun o => o = ⟨.tup [(false, [.ptr (.res 0) [] 0]), (false, [.ref (.res 1) [] 0 r.2.1.length]), (false, [.sc (.int .i64 r.2.2)])], [(.arg 0, ⟨.fz, 3, cs0⟩), (.res 0, ⟨.box, 0, [.sc (.int .u32 p.1), .sc (.int .i64 p.2.1), .sc (.int .i64 p.2.2.1), .sc (.int .i64 p.2.2.2.1), .sc (.int .i64 p.2.2.2.2.1), .sc (.int .i64 p.2.2.2.2.2.1), .sc (.int .u32 p.2.2.2.2.2.2.1), .own 1 p.2.2.2.2.2.2.2.1.length (encL c_i64 p.2.2.2.2.2.2.2.1), .sc (.int .i64 p.2.2.2.2.2.2.2.2.1), .sc (.int .i64 p.2.2.2.2.2.2.2.2.2.1), .sc (.int .i64 p.2.2.2.2.2.2.2.2.2.2.1), .sc (.int .i64 p.2.2.2.2.2.2.2.2.2.2.2.1), .sc (.bool p.2.2.2.2.2.2.2.2.2.2.2.2)]⟩), (.res 1, ⟨.lst, 5, encL c66 r.2.1⟩)], [], []⟩) := by
  refine tri_of_body (ac := c87) (xs := r87) Try.func87 (show Try.f87.body = some (Try.f87.body.getD .skip) from rfl) k87 q87 (Nat.le_of_ble_eq_true rfl) ?_
  refine body_of fun K hKn hKr => ?_
  unfold impl_subAfter.f at h
  unfold c87
  simp only [initT, Nat.reduceAdd]
  refine seq_k fun J1 hJ1 => ?_
  refine reg_k ?_
  simp only [Nat.reduceEqDiff, Nat.reduceAdd, Nat.reduceMul, Nat.reduceLeDiff, Nat.reduceLT, Int.reduceLE, Int.reduceLT, Int.reduceGT, Int.reduceGE, Int.reduceEq, Int.reduceNe, Int.reduceToNat, reduceCtorEq, ak]
  refine gho_k (Weak.nm' 5 (.tmp 5 20) 5 (encL c66 ([] : List S66)) rfl rfl rfl) ?_
  simp only [Nat.reduceEqDiff, Nat.reduceAdd, Nat.reduceMul, Nat.reduceLeDiff, Nat.reduceLT, Int.reduceLE, Int.reduceLT, Int.reduceGT, Int.reduceGE, Int.reduceEq, Int.reduceNe, Int.reduceToNat, reduceCtorEq, ak]
  refine hJ1 _ ?_
  refine seq_k fun J2 hJ2 => ?_
  refine seq_k fun J3 hJ3 => ?_
  refine reg_k ?_
  simp only [Nat.reduceEqDiff, Nat.reduceAdd, Nat.reduceMul, Nat.reduceLeDiff, Nat.reduceLT, Int.reduceLE, Int.reduceLT, Int.reduceGT, Int.reduceGE, Int.reduceEq, Int.reduceNe, Int.reduceToNat, reduceCtorEq, ak]
  obtain ⟨t4, h5, h⟩ := of_bind h
  refine call_m [] (s0 := []) (by intro t ht; cases ht; decide) rfl rfl (by first | rfl | simp only [reduceCtorEq, Nat.reduceEqDiff, ak, akF]) (impl_validSub.tri a0_0 a0_1 a0_2 a0_3 a0_4 a0_5 _ h5) (by first | rfl | simp only [reduceCtorEq, Nat.reduceEqDiff, ak, akF]) (by simp [bkOk2, memK]) (fun hl5 => ?_)
  refine call_st (s4 := [(.arg 0, ⟨.fz, 3, cs0⟩), (.tmp 2 0, ⟨.box, 0, [.sc (.int .u32 a0_0), .sc (.int .i64 a0_1), .sc (.int .i64 a0_2), .sc (.int .i64 a0_3), .sc (.int .i64 a0_4), .sc (.int .i64 a0_5)]⟩), (.tmp 5 20, ⟨.lst, 5, encL c66 ([] : List S66)⟩)]) (m1' := []) (m2' := []) (v' := .c (.sc (.bool t4))) (Sto.mapN_killNil _ _) (mrgL_nil' _ _ _) (by rfl) (mapT_killNil _ _) (by rfl) (by rfl) (by first | rfl | simp only [reduceCtorEq, Nat.reduceEqDiff, ak, akF, Nat.zero_add, List.append_nil]) ?_
  simp only [Nat.reduceEqDiff, Nat.reduceAdd, Nat.reduceMul, Nat.reduceLeDiff, Nat.reduceLT, Int.reduceLE, Int.reduceLT, Int.reduceGT, Int.reduceGE, Int.reduceEq, Int.reduceNe, Int.reduceToNat, reduceCtorEq, ak]
  refine hJ3 _ ?_
  refine cond_k (b := !t4) rfl (fun c7 => ?_) (fun c7 => ?_)
  · rw [if_pos c7] at h
    refine seq_k fun J8 hJ8 => ?_
    refine reg_k ?_
    simp only [Nat.reduceEqDiff, Nat.reduceAdd, Nat.reduceMul, Nat.reduceLeDiff, Nat.reduceLT, Int.reduceLE, Int.reduceLT, Int.reduceGT, Int.reduceGE, Int.reduceEq, Int.reduceNe, Int.reduceToNat, reduceCtorEq, ak]
    refine gho_k ((Weak.drop [.tmp 5 20]).trans (Weak.nm' 5 (.tmp 5 20) 5 (encL c66 ([] : List S66)) rfl rfl rfl)) ?_
    simp only [Nat.reduceEqDiff, Nat.reduceAdd, Nat.reduceMul, Nat.reduceLeDiff, Nat.reduceLT, Int.reduceLE, Int.reduceLT, Int.reduceGT, Int.reduceGE, Int.reduceEq, Int.reduceNe, Int.reduceToNat, reduceCtorEq, ak]
    refine hJ8 _ ?_
    obtain rfl := Option.some.inj h
    exact absurd hp (by simp)
  · rw [if_neg (Bool.eq_false_iff.1 c7)] at h
    refine hJ2 _ ?_
    refine seq_k fun J9 hJ9 => ?_
    refine seq_k fun J10 hJ10 => ?_
    refine reg_k ?_
    simp only [Nat.reduceEqDiff, Nat.reduceAdd, Nat.reduceMul, Nat.reduceLeDiff, Nat.reduceLT, Int.reduceLE, Int.reduceLT, Int.reduceGT, Int.reduceGE, Int.reduceEq, Int.reduceNe, Int.reduceToNat, reduceCtorEq, ak]
    refine hJ10 _ ?_
    refine cond_k (b := decide ((l1.length : Int) > 4000)) rfl (fun c11 => ?_) (fun c11 => ?_)
    · replace c11 := of_decide_eq_true c11; rw [if_pos c11] at h
      refine seq_k fun J12 hJ12 => ?_
      refine reg_k ?_
      simp only [Nat.reduceEqDiff, Nat.reduceAdd, Nat.reduceMul, Nat.reduceLeDiff, Nat.reduceLT, Int.reduceLE, Int.reduceLT, Int.reduceGT, Int.reduceGE, Int.reduceEq, Int.reduceNe, Int.reduceToNat, reduceCtorEq, ak]
      refine gho_k ((Weak.drop [.tmp 5 20]).trans (Weak.nm' 5 (.tmp 5 20) 5 (encL c66 ([] : List S66)) rfl rfl rfl)) ?_
      simp only [Nat.reduceEqDiff, Nat.reduceAdd, Nat.reduceMul, Nat.reduceLeDiff, Nat.reduceLT, Int.reduceLE, Int.reduceLT, Int.reduceGT, Int.reduceGE, Int.reduceEq, Int.reduceNe, Int.reduceToNat, reduceCtorEq, ak]
      refine hJ12 _ ?_
      obtain rfl := Option.some.inj h
      exact absurd hp (by simp)
    · replace c11 := of_decide_eq_false c11; rw [if_neg c11] at h
      refine hJ9 _ ?_
      refine seq_k fun J13 hJ13 => ?_
      refine reg_k ?_
      simp only [Nat.reduceEqDiff, Nat.reduceAdd, Nat.reduceMul, Nat.reduceLeDiff, Nat.reduceLT, Int.reduceLE, Int.reduceLT, Int.reduceGT, Int.reduceGE, Int.reduceEq, Int.reduceNe, Int.reduceToNat, reduceCtorEq, ak]
      obtain ⟨t14, h15, h⟩ := of_bind h
      refine call_m [] (s0 := []) (by intro t ht; cases ht; decide) rfl rfl (by first | rfl | simp only [reduceCtorEq, Nat.reduceEqDiff, ak, akF]) (impl_newSender.tri a0_0 a0_1 a0_2 a0_3 a0_4 a0_5 _ h15) (by first | rfl | simp only [reduceCtorEq, Nat.reduceEqDiff, ak, akF]) (by simp [bkOk2, memK]) (fun hl15 => ?_)
      refine call_st (s4 := [(.arg 0, ⟨.fz, 3, cs0⟩), (.tmp 2 0, ⟨.box, 0, [.sc (.int .u32 a0_0), .sc (.int .i64 a0_1), .sc (.int .i64 a0_2), .sc (.int .i64 a0_3), .sc (.int .i64 a0_4), .sc (.int .i64 a0_5)]⟩), (.tmp 5 20, ⟨.lst, 5, encL c66 ([] : List S66)⟩), (.tmp 19 0, ⟨.box, 0, [.sc (.int .u32 t14.1), .sc (.int .i64 t14.2.1), .sc (.int .i64 t14.2.2.1), .sc (.int .i64 t14.2.2.2.1), .sc (.int .i64 t14.2.2.2.2.1), .sc (.int .i64 t14.2.2.2.2.2.1), .sc (.int .u32 t14.2.2.2.2.2.2.1), .own 1 t14.2.2.2.2.2.2.2.1.length (encL c_i64 t14.2.2.2.2.2.2.2.1), .sc (.int .i64 t14.2.2.2.2.2.2.2.2.1), .sc (.int .i64 t14.2.2.2.2.2.2.2.2.2.1), .sc (.int .i64 t14.2.2.2.2.2.2.2.2.2.2.1), .sc (.int .i64 t14.2.2.2.2.2.2.2.2.2.2.2.1), .sc (.bool t14.2.2.2.2.2.2.2.2.2.2.2.2)]⟩)]) (m1' := []) (m2' := []) (v' := .c (.ptr (.tmp 19 0) [] 0)) (Sto.mapN_killNil _ _) (mrgL_nil' _ _ _) (by rfl) (mapT_killNil _ _) (by rfl) (by rfl) (by first | rfl | simp only [reduceCtorEq, Nat.reduceEqDiff, ak, akF, Nat.zero_add, List.append_nil]) ?_
      simp only [Nat.reduceEqDiff, Nat.reduceAdd, Nat.reduceMul, Nat.reduceLeDiff, Nat.reduceLT, Int.reduceLE, Int.reduceLT, Int.reduceGT, Int.reduceGE, Int.reduceEq, Int.reduceNe, Int.reduceToNat, reduceCtorEq, ak]
      refine hJ13 _ ?_
      refine seq_k fun J17 hJ17 => ?_
      refine reg_k ?_
      simp only [Nat.reduceEqDiff, Nat.reduceAdd, Nat.reduceMul, Nat.reduceLeDiff, Nat.reduceLT, Int.reduceLE, Int.reduceLT, Int.reduceGT, Int.reduceGE, Int.reduceEq, Int.reduceNe, Int.reduceToNat, reduceCtorEq, ak]
      refine gho_k (Weak.nm' 8 (.tmp 8 20) 5 (encL c66 ([] : List S66)) rfl rfl rfl) ?_
      simp only [Nat.reduceEqDiff, Nat.reduceAdd, Nat.reduceMul, Nat.reduceLeDiff, Nat.reduceLT, Int.reduceLE, Int.reduceLT, Int.reduceGT, Int.reduceGE, Int.reduceEq, Int.reduceNe, Int.reduceToNat, reduceCtorEq, ak]
      refine hJ17 _ ?_
      refine seq_k fun J18 hJ18 => ?_
      refine seq_k fun J19 hJ19 => ?_
      refine reg_k ?_
      simp only [Nat.reduceEqDiff, Nat.reduceAdd, Nat.reduceMul, Nat.reduceLeDiff, Nat.reduceLT, Int.reduceLE, Int.reduceLT, Int.reduceGT, Int.reduceGE, Int.reduceEq, Int.reduceNe, Int.reduceToNat, reduceCtorEq, ak]
      refine hJ19 _ ?_
      refine block_k fun B20 B20n B20x B20r B20j => ?_
      obtain ⟨y96, h97, h⟩ := of_bind h
      refine gh_k (st' := ⟨[(7, .c (.ptr (.tmp 19 0) [] 0)), (8, .c (.ref (.tmp 8 20) [] 0 (([] : List S66).length))), (20, .c (.ref (.arg 0) [] o0 l1.length)), (21, .c (.sc (.int .i64 (l1.length : Int)))), (22, .c (.sc (.int .i64 0)))], [(.arg 0, ⟨.fz, 3, cs0⟩), (.tmp 19 0, ⟨.box, 0, [.sc (.int .u32 t14.1), .sc (.int .i64 t14.2.1), .sc (.int .i64 t14.2.2.1), .sc (.int .i64 t14.2.2.2.1), .sc (.int .i64 t14.2.2.2.2.1), .sc (.int .i64 t14.2.2.2.2.2.1), .sc (.int .u32 t14.2.2.2.2.2.2.1), .own 1 t14.2.2.2.2.2.2.2.1.length (encL c_i64 t14.2.2.2.2.2.2.2.1), .sc (.int .i64 t14.2.2.2.2.2.2.2.2.1), .sc (.int .i64 t14.2.2.2.2.2.2.2.2.2.1), .sc (.int .i64 t14.2.2.2.2.2.2.2.2.2.2.1), .sc (.int .i64 t14.2.2.2.2.2.2.2.2.2.2.2.1), .sc (.bool t14.2.2.2.2.2.2.2.2.2.2.2.2)]⟩), (.tmp 8 20, ⟨.lst, 5, encL c66 ([] : List S66)⟩)], [], []⟩) (((Weak.keep [7, 8, 20, 21, 22]).trans ((Weak.foc [(.arg 0, ⟨(.arg 0), [], none, .fz⟩), (.tmp 19 0, ⟨(.tmp 19 0), [], none, .box⟩), (.tmp 8 20, ⟨(.tmp 8 20), [], none, .lst⟩)] rfl (by first | rfl | simp only [reduceCtorEq, Nat.reduceEqDiff, ak, akF]) (by simp [argK, akG, ak])).trans (Weak.of_eq (by first | rfl | (simp only [reduceCtorEq, Nat.reduceEqDiff, ak, akF]; done) | (simp [reduceCtorEq, Nat.reduceEqDiff, ak, akF]; done)))))) ?_
      rw [e_loop]
      refine impl_subAfter.l0_walk cs0 o0 l1 hv0 (l1.length : Int) t14.1 t14.2.1 t14.2.2.1 t14.2.2.2.1 t14.2.2.2.2.1 t14.2.2.2.2.2.1 0 t14.2.2.2.2.2.2.1 t14.2.2.2.2.2.2.2.1 t14.2.2.2.2.2.2.2.2.1 t14.2.2.2.2.2.2.2.2.2.1 t14.2.2.2.2.2.2.2.2.2.2.1 t14.2.2.2.2.2.2.2.2.2.2.2.1 t14.2.2.2.2.2.2.2.2.2.2.2.2 ([] : List S66) _ h97 _ ?_
      refine B20x _ ?_
      refine hJ18 _ ?_
      refine seq_k fun J98 hJ98 => ?_
      refine reg_k ?_
      simp only [Nat.reduceEqDiff, Nat.reduceAdd, Nat.reduceMul, Nat.reduceLeDiff, Nat.reduceLT, Int.reduceLE, Int.reduceLT, Int.reduceGT, Int.reduceGE, Int.reduceEq, Int.reduceNe, Int.reduceToNat, reduceCtorEq, ak]
      refine hJ98 _ ?_
      obtain rfl := Option.some.inj h
      obtain rfl := Option.some.inj hp
      refine hKr _ ⟨_, rfl, [⟨(.tmp 19 0), [], none, .box⟩, ⟨(.tmp 8 20), [], none, .lst⟩], _, rfl, rfl, ?_⟩
      first | rfl | (simp only [reduceCtorEq, Nat.reduceEqDiff, ak, akF]; done) | (simp [reduceCtorEq, Nat.reduceEqDiff, ak, akF]; done)
/-! ### impl.SubRun: function 31 -/
def c31 : AC := .seq (.reg [.op none (.box 2 (.tmp 0)), .op none (.mv 4 (.const (.slice none 0 0))), .gh, .op none (.mv 5 (.const (.int .i64 0))), .keep [1, 2]]) (.seq (.reg [.op none (.load 10 true 6 (.tmp 2)), .op none (.mv 11 (.tmp 1)), .call none (some 12) 87 [.tmp 10, .tmp 11], .op none (.mv 9 (.tmp 12)), .op none (.extr 13 (.tmp 9) 0), .op none (.extr 14 (.tmp 9) 1), .op none (.extr 15 (.tmp 9) 2), .op none (.mv 6 (.tmp 13)), .op none (.mv 7 (.tmp 14)), .op none (.mv 8 (.tmp 15)), .keep [7, 8]]) (.seq (.reg [.op none (.mv 16 (.tmp 7)), .op none (.mv 17 (.tmp 8)), .op none (.mv 4 (.tmp 16)), .op none (.mv 5 (.tmp 17)), .keep [4, 5]]) (.ret)))
def r31 : List RV := [.tmp 4, .tmp 5]
theorem k31 : compC Try.prog 18 c31 (Try.f31.body.getD .skip) = some c31.erase := by kernel_rfl
theorem q31 : rvsOf Try.prog Try.f31.results.toList = some r31 := by kernel_rfl
def impl_SubRun.f (a0_0 : Int) (a0_1 : Int) (a0_2 : Int) (a0_3 : Int) (a0_4 : Int) (a0_5 : Int) (l1 : List S63) : Option ((List S66) × Int) := (impl_subAfter.f a0_0 a0_1 a0_2 a0_3 a0_4 a0_5 l1 >>= fun t3 => (match t3.1 with | none => (some (t3.2.1, t3.2.2)) | some p7 => (some (t3.2.1, t3.2.2))))
set_option maxRecDepth 100000 in
set_option maxHeartbeats 4000000 in
theorem impl_SubRun.tri (cs0 : List Cell) (o0 : Nat) (l1 : List S63) (hv0 : Vw c63 3 cs0 o0 l1) (a0_0 : Int) (a0_1 : Int) (a0_2 : Int) (a0_3 : Int) (a0_4 : Int) (a0_5 : Int) (r : (List S66) × Int) (h : impl_SubRun.f a0_0 a0_1 a0_2 a0_3 a0_4 a0_5 l1 = some r) : Tri Try.prog 31 [.g [.sc (.int .u32 a0_0), .sc (.int .i64 a0_1), .sc (.int .i64 a0_2), .sc (.int .i64 a0_3), .sc (.int .i64 a0_4), .sc (.int .i64 a0_5)], .c (.ref (.arg 0) [] o0 l1.length)] [(.arg 0, ⟨.fz, 3, cs0⟩)] (fun o => o = ⟨.tup [(false, [.ref (.res 0) [] 0 r.1.length]), (false, [.sc (.int .i64 r.2)])], [(.arg 0, ⟨.fz, 3, cs0⟩), (.res 0, ⟨.lst, 5, encL c66 r.1⟩)], [], []⟩) := by
  refine tri_of_body (ac := c31) (xs := r31) Try.func31 (show Try.f31.body = some (Try.f31.body.getD .skip) from rfl) k31 q31 (Nat.le_of_ble_eq_true rfl) ?_
  refine body_of fun K hKn hKr => ?_
  unfold impl_SubRun.f at h
  unfold c31
  simp only [initT, Nat.reduceAdd]
  refine seq_k fun J1 hJ1 => ?_
  refine reg_k ?_
  simp only [Nat.reduceEqDiff, Nat.reduceAdd, Nat.reduceMul, Nat.reduceLeDiff, Nat.reduceLT, Int.reduceLE, Int.reduceLT, Int.reduceGT, Int.reduceGE, Int.reduceEq, Int.reduceNe, Int.reduceToNat, reduceCtorEq, ak]
  refine gho_k (Weak.nm' 4 (.tmp 4 20) 5 (encL c66 ([] : List S66)) rfl rfl rfl) ?_
  simp only [Nat.reduceEqDiff, Nat.reduceAdd, Nat.reduceMul, Nat.reduceLeDiff, Nat.reduceLT, Int.reduceLE, Int.reduceLT, Int.reduceGT, Int.reduceGE, Int.reduceEq, Int.reduceNe, Int.reduceToNat, reduceCtorEq, ak]
  refine hJ1 _ ?_
  refine seq_k fun J2 hJ2 => ?_
  refine reg_k ?_
  simp only [Nat.reduceEqDiff, Nat.reduceAdd, Nat.reduceMul, Nat.reduceLeDiff, Nat.reduceLT, Int.reduceLE, Int.reduceLT, Int.reduceGT, Int.reduceGE, Int.reduceEq, Int.reduceNe, Int.reduceToNat, reduceCtorEq, ak]
  obtain ⟨t3, h4, h⟩ := of_bind h
  rcases hpo : t3.1 with _ | p7
  · have hpp5 := hpo
    rw [hpo] at h; dsimp only at h
    refine call_m [(.arg 0, ⟨(.arg 0), [], none, .fz⟩)] (s0 := [(.arg 0, ⟨.fz, 3, cs0⟩)]) (by intro t ht; cases ht; decide) rfl rfl (by first | rfl | simp only [reduceCtorEq, Nat.reduceEqDiff, ak, akF]) (impl_subAfter.tri0 (cs0) o0 l1 hv0 a0_0 a0_1 a0_2 a0_3 a0_4 a0_5 _ h4 hpp5) (by first | rfl | simp only [reduceCtorEq, Nat.reduceEqDiff, ak, akF]) (by simp [bkOk2, memK]) (fun hl5 => ?_)
    refine call_st (s4 := [(.arg 0, ⟨.fz, 3, cs0⟩), (.tmp 2 0, ⟨.box, 0, [.sc (.int .u32 a0_0), .sc (.int .i64 a0_1), .sc (.int .i64 a0_2), .sc (.int .i64 a0_3), .sc (.int .i64 a0_4), .sc (.int .i64 a0_5)]⟩), (.tmp 4 20, ⟨.lst, 5, encL c66 ([] : List S66)⟩), (.tmp 12 0, ⟨.lst, 5, encL c66 t3.2.1⟩)]) (m1' := []) (m2' := []) (v' := .tup [(false, [.sc (.pointer none)]), (false, [.ref (.tmp 12 0) [] 0 t3.2.1.length]), (false, [.sc (.int .i64 t3.2.2)])]) (Sto.mapN_killNil _ _) (mrgL_fz (mrgL_nil' _ _ _) rfl (by first | rfl | simp only [reduceCtorEq, Nat.reduceEqDiff, ak]) rfl (by intro R hR hh; cases hR; cases hh.2)) (by rfl) (mapT_killNil _ _) (by rfl) (by rfl) (by first | rfl | simp only [reduceCtorEq, Nat.reduceEqDiff, ak, akF, Nat.zero_add, List.append_nil]) ?_
    simp only [Nat.reduceEqDiff, Nat.reduceAdd, Nat.reduceMul, Nat.reduceLeDiff, Nat.reduceLT, Int.reduceLE, Int.reduceLT, Int.reduceGT, Int.reduceGE, Int.reduceEq, Int.reduceNe, Int.reduceToNat, reduceCtorEq, ak]
    refine hJ2 _ ?_
    refine seq_k fun J9 hJ9 => ?_
    refine reg_k ?_
    simp only [Nat.reduceEqDiff, Nat.reduceAdd, Nat.reduceMul, Nat.reduceLeDiff, Nat.reduceLT, Int.reduceLE, Int.reduceLT, Int.reduceGT, Int.reduceGE, Int.reduceEq, Int.reduceNe, Int.reduceToNat, reduceCtorEq, ak]
    refine hJ9 _ ?_
    obtain rfl := Option.some.inj h
    refine hKr _ ⟨_, rfl, [⟨(.tmp 12 0), [], none, .lst⟩], _, rfl, rfl, ?_⟩
    first | rfl | (simp only [reduceCtorEq, Nat.reduceEqDiff, ak, akF]; done) | (simp [reduceCtorEq, Nat.reduceEqDiff, ak, akF]; done)
  · have hpp7 := hpo
    rw [hpo] at h; dsimp only at h
    refine call_m [(.arg 0, ⟨(.arg 0), [], none, .fz⟩)] (s0 := [(.arg 0, ⟨.fz, 3, cs0⟩)]) (by intro t ht; cases ht; decide) rfl rfl (by first | rfl | simp only [reduceCtorEq, Nat.reduceEqDiff, ak, akF]) (impl_subAfter.tri1 (cs0) o0 l1 hv0 a0_0 a0_1 a0_2 a0_3 a0_4 a0_5 _ h4 _ hpp7) (by first | rfl | simp only [reduceCtorEq, Nat.reduceEqDiff, ak, akF]) (by simp [bkOk2, memK]) (fun hl7 => ?_)
    refine call_st (s4 := [(.arg 0, ⟨.fz, 3, cs0⟩), (.tmp 2 0, ⟨.box, 0, [.sc (.int .u32 a0_0), .sc (.int .i64 a0_1), .sc (.int .i64 a0_2), .sc (.int .i64 a0_3), .sc (.int .i64 a0_4), .sc (.int .i64 a0_5)]⟩), (.tmp 4 20, ⟨.lst, 5, encL c66 ([] : List S66)⟩), (.tmp 12 1, ⟨.lst, 5, encL c66 t3.2.1⟩), (.tmp 12 0, ⟨.box, 0, [.sc (.int .u32 p7.1), .sc (.int .i64 p7.2.1), .sc (.int .i64 p7.2.2.1), .sc (.int .i64 p7.2.2.2.1), .sc (.int .i64 p7.2.2.2.2.1), .sc (.int .i64 p7.2.2.2.2.2.1), .sc (.int .u32 p7.2.2.2.2.2.2.1), .own 1 p7.2.2.2.2.2.2.2.1.length (encL c_i64 p7.2.2.2.2.2.2.2.1), .sc (.int .i64 p7.2.2.2.2.2.2.2.2.1), .sc (.int .i64 p7.2.2.2.2.2.2.2.2.2.1), .sc (.int .i64 p7.2.2.2.2.2.2.2.2.2.2.1), .sc (.int .i64 p7.2.2.2.2.2.2.2.2.2.2.2.1), .sc (.bool p7.2.2.2.2.2.2.2.2.2.2.2.2)]⟩)]) (m1' := []) (m2' := []) (v' := .tup [(false, [.ptr (.tmp 12 0) [] 0]), (false, [.ref (.tmp 12 1) [] 0 t3.2.1.length]), (false, [.sc (.int .i64 t3.2.2)])]) (Sto.mapN_killNil _ _) (mrgL_fz (mrgL_nil' _ _ _) rfl (by first | rfl | simp only [reduceCtorEq, Nat.reduceEqDiff, ak]) rfl (by intro R hR hh; cases hR; cases hh.2)) (by rfl) (mapT_killNil _ _) (by rfl) (by rfl) (by first | rfl | simp only [reduceCtorEq, Nat.reduceEqDiff, ak, akF, Nat.zero_add, List.append_nil]) ?_
    simp only [Nat.reduceEqDiff, Nat.reduceAdd, Nat.reduceMul, Nat.reduceLeDiff, Nat.reduceLT, Int.reduceLE, Int.reduceLT, Int.reduceGT, Int.reduceGE, Int.reduceEq, Int.reduceNe, Int.reduceToNat, reduceCtorEq, ak]
    refine hJ2 _ ?_
    refine seq_k fun J10 hJ10 => ?_
    refine reg_k ?_
    simp only [Nat.reduceEqDiff, Nat.reduceAdd, Nat.reduceMul, Nat.reduceLeDiff, Nat.reduceLT, Int.reduceLE, Int.reduceLT, Int.reduceGT, Int.reduceGE, Int.reduceEq, Int.reduceNe, Int.reduceToNat, reduceCtorEq, ak]
    refine hJ10 _ ?_
    obtain rfl := Option.some.inj h
    refine hKr _ ⟨_, rfl, [⟨(.tmp 12 1), [], none, .lst⟩], _, rfl, rfl, ?_⟩
    first | rfl | (simp only [reduceCtorEq, Nat.reduceEqDiff, ak, akF]; done) | (simp [reduceCtorEq, Nat.reduceEqDiff, ak, akF]; done)
/-! ### laws.eqSubFrame: function 154 -/
def c154 : AC := .seq (.reg [.op none (.box 2 (.tmp 0)), .op none (.box 3 (.tmp 1)), .op none (.mv 4 (.const (.bool false))), .keep [2, 3]]) (.seq (.seq (.reg [.op none (.faddr 5 0 (.tmp 2)), .op none (.load 6 false 1 (.tmp 5)), .op none (.faddr 7 0 (.tmp 3)), .op none (.load 8 false 1 (.tmp 7)), .op none (.bin 9 .neq (.tmp 6) (.tmp 8)), .keep [2, 3, 9]]) (.cond (.tmp 9) (.seq (.reg [.op none (.mv 4 (.const (.bool false))), .keep [4]]) (.ret)) (.skip))) (.seq (.seq (.reg [.op none (.faddr 10 1 (.tmp 2)), .op none (.load 11 false 1 (.tmp 10)), .op none (.faddr 12 1 (.tmp 3)), .op none (.load 13 false 1 (.tmp 12)), .op none (.bin 14 .neq (.tmp 11) (.tmp 13)), .keep [2, 3, 14]]) (.cond (.tmp 14) (.seq (.reg [.op none (.mv 4 (.const (.bool false))), .keep [4]]) (.ret)) (.skip))) (.seq (.seq (.reg [.op none (.faddr 15 2 (.tmp 2)), .op none (.load 16 false 1 (.tmp 15)), .op none (.faddr 17 2 (.tmp 3)), .op none (.load 18 false 1 (.tmp 17)), .op none (.bin 19 .neq (.tmp 16) (.tmp 18)), .keep [19]]) (.cond (.tmp 19) (.seq (.reg [.op none (.mv 4 (.const (.bool false))), .keep [4]]) (.ret)) (.skip))) (.seq (.reg [.op none (.mv 4 (.const (.bool true))), .keep [4]]) (.ret)))))
def r154 : List RV := [.tmp 4]
theorem k154 : compC Try.prog 20 c154 (Try.f154.body.getD .skip) = some c154.erase := by kernel_rfl
theorem q154 : rvsOf Try.prog Try.f154.results.toList = some r154 := by kernel_rfl
def laws_eqSubFrame.f (a0_0 : Int) (a0_1 : Int) (a0_2 : Int) (a1_0 : Int) (a1_1 : Int) (a1_2 : Int) : Option Bool := (if a0_0 ≠ a1_0 then (some false) else (if a0_1 ≠ a1_1 then (some false) else (if a0_2 ≠ a1_2 then (some false) else (some true))))
set_option maxRecDepth 100000 in
set_option maxHeartbeats 4000000 in
theorem laws_eqSubFrame.tri (a0_0 : Int) (a0_1 : Int) (a0_2 : Int) (a1_0 : Int) (a1_1 : Int) (a1_2 : Int) (r : Bool) (h : laws_eqSubFrame.f a0_0 a0_1 a0_2 a1_0 a1_1 a1_2 = some r) : Tri Try.prog 154 [.g [.sc (.int .i64 a0_0), .sc (.int .u32 a0_1), .sc (.int .i64 a0_2)], .g [.sc (.int .i64 a1_0), .sc (.int .u32 a1_1), .sc (.int .i64 a1_2)]] [] (fun o => o = ⟨.c (.sc (.bool r)), [], [], []⟩) := by
  refine tri_of_body (ac := c154) (xs := r154) Try.func154 (show Try.f154.body = some (Try.f154.body.getD .skip) from rfl) k154 q154 (Nat.le_of_ble_eq_true rfl) ?_
  refine body_of fun K hKn hKr => ?_
  unfold laws_eqSubFrame.f at h
  unfold c154
  simp only [initT, Nat.reduceAdd]
  refine seq_k fun J1 hJ1 => ?_
  refine reg_k ?_
  simp only [Nat.reduceEqDiff, Nat.reduceAdd, Nat.reduceMul, Nat.reduceLeDiff, Nat.reduceLT, Int.reduceLE, Int.reduceLT, Int.reduceGT, Int.reduceGE, Int.reduceEq, Int.reduceNe, Int.reduceToNat, reduceCtorEq, ak]
  refine hJ1 _ ?_
  refine seq_k fun J2 hJ2 => ?_
  refine seq_k fun J3 hJ3 => ?_
  refine reg_k ?_
  simp only [Nat.reduceEqDiff, Nat.reduceAdd, Nat.reduceMul, Nat.reduceLeDiff, Nat.reduceLT, Int.reduceLE, Int.reduceLT, Int.reduceGT, Int.reduceGE, Int.reduceEq, Int.reduceNe, Int.reduceToNat, reduceCtorEq, ak]
  refine hJ3 _ ?_
  refine cond_k (b := decide (a0_0 ≠ a1_0)) rfl (fun c4 => ?_) (fun c4 => ?_)
  · replace c4 := of_decide_eq_true c4; rw [if_pos c4] at h
    refine seq_k fun J5 hJ5 => ?_
    refine reg_k ?_
    simp only [Nat.reduceEqDiff, Nat.reduceAdd, Nat.reduceMul, Nat.reduceLeDiff, Nat.reduceLT, Int.reduceLE, Int.reduceLT, Int.reduceGT, Int.reduceGE, Int.reduceEq, Int.reduceNe, Int.reduceToNat, reduceCtorEq, ak]
    refine hJ5 _ ?_
    obtain rfl := Option.some.inj h
    refine hKr _ ⟨_, rfl, [], _, rfl, rfl, ?_⟩
    first | rfl | (simp only [reduceCtorEq, Nat.reduceEqDiff, ak, akF]; done) | (simp [reduceCtorEq, Nat.reduceEqDiff, ak, akF]; done)
  · replace c4 := of_decide_eq_false c4; rw [if_neg c4] at h
    refine hJ2 _ ?_
    refine seq_k fun J6 hJ6 => ?_
    refine seq_k fun J7 hJ7 => ?_
    refine reg_k ?_
    simp only [Nat.reduceEqDiff, Nat.reduceAdd, Nat.reduceMul, Nat.reduceLeDiff, Nat.reduceLT, Int.reduceLE, Int.reduceLT, Int.reduceGT, Int.reduceGE, Int.reduceEq, Int.reduceNe, Int.reduceToNat, reduceCtorEq, ak]
    refine hJ7 _ ?_
    refine cond_k (b := decide (a0_1 ≠ a1_1)) rfl (fun c8 => ?_) (fun c8 => ?_)
    · replace c8 := of_decide_eq_true c8; rw [if_pos c8] at h
      refine seq_k fun J9 hJ9 => ?_
      refine reg_k ?_
      simp only [Nat.reduceEqDiff, Nat.reduceAdd, Nat.reduceMul, Nat.reduceLeDiff, Nat.reduceLT, Int.reduceLE, Int.reduceLT, Int.reduceGT, Int.reduceGE, Int.reduceEq, Int.reduceNe, Int.reduceToNat, reduceCtorEq, ak]
      refine hJ9 _ ?_
      obtain rfl := Option.some.inj h
      refine hKr _ ⟨_, rfl, [], _, rfl, rfl, ?_⟩
      first | rfl | (simp only [reduceCtorEq, Nat.reduceEqDiff, ak, akF]; done) | (simp [reduceCtorEq, Nat.reduceEqDiff, ak, akF]; done)
    · replace c8 := of_decide_eq_false c8; rw [if_neg c8] at h
      refine hJ6 _ ?_
      refine seq_k fun J10 hJ10 => ?_
      refine seq_k fun J11 hJ11 => ?_
      refine reg_k ?_
      simp only [Nat.reduceEqDiff, Nat.reduceAdd, Nat.reduceMul, Nat.reduceLeDiff, Nat.reduceLT, Int.reduceLE, Int.reduceLT, Int.reduceGT, Int.reduceGE, Int.reduceEq, Int.reduceNe, Int.reduceToNat, reduceCtorEq, ak]
      refine hJ11 _ ?_
      refine cond_k (b := decide (a0_2 ≠ a1_2)) rfl (fun c12 => ?_) (fun c12 => ?_)
      · replace c12 := of_decide_eq_true c12; rw [if_pos c12] at h
        refine seq_k fun J13 hJ13 => ?_
        refine reg_k ?_
        simp only [Nat.reduceEqDiff, Nat.reduceAdd, Nat.reduceMul, Nat.reduceLeDiff, Nat.reduceLT, Int.reduceLE, Int.reduceLT, Int.reduceGT, Int.reduceGE, Int.reduceEq, Int.reduceNe, Int.reduceToNat, reduceCtorEq, ak]
        refine hJ13 _ ?_
        obtain rfl := Option.some.inj h
        refine hKr _ ⟨_, rfl, [], _, rfl, rfl, ?_⟩
        first | rfl | (simp only [reduceCtorEq, Nat.reduceEqDiff, ak, akF]; done) | (simp [reduceCtorEq, Nat.reduceEqDiff, ak, akF]; done)
      · replace c12 := of_decide_eq_false c12; rw [if_neg c12] at h
        refine hJ10 _ ?_
        refine seq_k fun J14 hJ14 => ?_
        refine reg_k ?_
        simp only [Nat.reduceEqDiff, Nat.reduceAdd, Nat.reduceMul, Nat.reduceLeDiff, Nat.reduceLT, Int.reduceLE, Int.reduceLT, Int.reduceGT, Int.reduceGE, Int.reduceEq, Int.reduceNe, Int.reduceToNat, reduceCtorEq, ak]
        refine hJ14 _ ?_
        obtain rfl := Option.some.inj h
        refine hKr _ ⟨_, rfl, [], _, rfl, rfl, ?_⟩
        first | rfl | (simp only [reduceCtorEq, Nat.reduceEqDiff, ak, akF]; done) | (simp [reduceCtorEq, Nat.reduceEqDiff, ak, akF]; done)
/-! ### laws.eqSubFrameS: function 135 -/
def c135_l0 : AC := .seq (.seq (.reg [.op none (.mv 11 (.tmp 5)), .op none (.mv 12 (.tmp 0)), .op none (.len 13 (.tmp 12)), .op none (.bin 14 .lss (.tmp 11) (.tmp 13)), .keep [0, 1, 5, 14]]) (.cond (.tmp 14) (.skip) (.gh (.exit 0)))) (.seq (.block 1 (.seq (.regD (.first (.op none (.mv 17 (.tmp 0))) (.first (.op none (.mv 18 (.tmp 5))) (.first (.op none (.iaddr 19 3 (.tmp 17) (.tmp 18))) (.first (.op none (.load 20 true 3 (.tmp 19))) (.first (.op none (.mv 21 (.tmp 1))) (.first (.op none (.mv 22 (.tmp 5))) (.first (.op none (.iaddr 23 3 (.tmp 21) (.tmp 22))) (.first (.op none (.load 24 true 3 (.tmp 23))) (.alt (.call none (some 25) 154 [.tmp 20, .tmp 24]) none (.first (.op none (.un 26 .not (.tmp 25))) (.done)) (.stop)))))))))) [0, 1, 5, 26]) (.cond (.tmp 26) (.seq (.reg [.op none (.mv 4 (.const (.bool false))), .keep [4]]) (.gh .ret)) (.skip)))) (.reg [.op none (.mv 15 (.tmp 5)), .op none (.bin 16 .add (.tmp 15) (.const (.int .i64 1))), .op none (.mv 5 (.tmp 16)), .keep [0, 1, 5]]))
def c135 : AC := .seq (.reg [.op none (.mv 4 (.const (.bool false))), .keep [0, 1]]) (.seq (.seq (.reg [.op none (.mv 6 (.tmp 0)), .op none (.len 7 (.tmp 6)), .op none (.mv 8 (.tmp 1)), .op none (.len 9 (.tmp 8)), .op none (.bin 10 .neq (.tmp 7) (.tmp 9)), .keep [0, 1, 10]]) (.cond (.tmp 10) (.seq (.reg [.op none (.mv 4 (.const (.bool false))), .keep [4]]) (.ret)) (.skip))) (.seq (.seq (.reg [.op none (.mv 5 (.const (.int .i64 0))), .keep [0, 1, 5]]) (.block 0 (.gh (.loop (.ga c135_l0))))) (.seq (.reg [.op none (.mv 4 (.const (.bool true))), .keep [4]]) (.ret))))
def r135 : List RV := [.tmp 4]
theorem k135 : compC Try.prog 27 c135 (Try.f135.body.getD .skip) = some c135.erase := by kernel_rfl
theorem q135 : rvsOf Try.prog Try.f135.results.toList = some r135 := by kernel_rfl
def laws_eqSubFrameS.l0 (l0 : List S68) (l1 : List S68) (x0_0 : Int) : Option (Lp Unit Bool) := (if x0_0 < (l0.length : Int) then (if 0 ≤ x0_0 ∧ x0_0 < (l0.length : Int) then (if 0 ≤ x0_0 ∧ x0_0 < (l1.length : Int) then (laws_eqSubFrame.f ((rd z68 l0 x0_0).f0) ((rd z68 l0 x0_0).f1) ((rd z68 l0 x0_0).f2) ((rd z68 l1 x0_0).f0) ((rd z68 l1 x0_0).f1) ((rd z68 l1 x0_0).f2) >>= fun t19 => (if (!t19) = true then (some (.b false)) else (laws_eqSubFrameS.l0 l0 l1 (IntKind.i64.wrap (x0_0 + 1))))) else none) else none) else (some (.a ())))
  partial_fixpoint
def laws_eqSubFrameS.f (l0 : List S68) (l1 : List S68) : Option Bool := (if (l0.length : Int) ≠ (l1.length : Int) then (some false) else (laws_eqSubFrameS.l0 l0 l1 0 >>= fun (y25 : Lp Unit Bool) => match y25 with | .a x27 => (some true) | .b x27 => (some x27)))
set_option maxRecDepth 100000 in
set_option maxHeartbeats 4000000 in
theorem laws_eqSubFrameS.l0_walk (cs0 : List Cell) (o0 : Nat) (l0 : List S68) (hv0 : Vw c68 3 cs0 o0 l0) (cs1 : List Cell) (o1 : Nat) (l1 : List S68) (hv1 : Vw c68 3 cs1 o1 l1) (x0_0 : Int) (y : Lp Unit Bool) (h : laws_eqSubFrameS.l0 l0 l1 x0_0 = some y) (K : AE → St → Prop) (hx0 : ∀ x, y = .a x → K (.exit 0) ⟨[], [(.arg 0, ⟨.fz, 3, cs0⟩), (.arg 1, ⟨.fz, 3, cs1⟩)], [], []⟩) (hx1 : ∀ x, y = .b x → K .ret ⟨[(4, .c (.sc (.bool x)))], [(.arg 0, ⟨.fz, 3, cs0⟩), (.arg 1, ⟨.fz, 3, cs1⟩)], [], []⟩) : loopS Try.prog 27 (.ga c135_l0) K ⟨[(0, .c (.ref (.arg 0) [] o0 l0.length)), (1, .c (.ref (.arg 1) [] o1 l1.length)), (5, .c (.sc (.int .i64 x0_0)))], [(.arg 0, ⟨.fz, 3, cs0⟩), (.arg 1, ⟨.fz, 3, cs1⟩)], [], []⟩ := by
  refine laws_eqSubFrameS.l0.partial_correctness l0 l1 (motive := fun x0_0 y => ∀ (K : AE → St → Prop), (∀ x, y = .a x → K (.exit 0) ⟨[], [(.arg 0, ⟨.fz, 3, cs0⟩), (.arg 1, ⟨.fz, 3, cs1⟩)], [], []⟩) → (∀ x, y = .b x → K .ret ⟨[(4, .c (.sc (.bool x)))], [(.arg 0, ⟨.fz, 3, cs0⟩), (.arg 1, ⟨.fz, 3, cs1⟩)], [], []⟩) → loopS Try.prog 27 (.ga c135_l0) K ⟨[(0, .c (.ref (.arg 0) [] o0 l0.length)), (1, .c (.ref (.arg 1) [] o1 l1.length)), (5, .c (.sc (.int .i64 x0_0)))], [(.arg 0, ⟨.fz, 3, cs0⟩), (.arg 1, ⟨.fz, 3, cs1⟩)], [], []⟩) ?_ x0_0 y h K hx0 hx1
  clear h hx0 hx1
  intro rec ih x0_0 y h K hx0 hx1
  refine loop_unroll (ga_k fun G0 G0n G0r G0x => ?_)
  unfold c135_l0
  refine seq_k fun J9 hJ9 => ?_
  refine seq_k fun J10 hJ10 => ?_
  refine reg_k ?_
  simp only [Nat.reduceEqDiff, Nat.reduceAdd, Nat.reduceMul, Nat.reduceLeDiff, Nat.reduceLT, Int.reduceLE, Int.reduceLT, Int.reduceGT, Int.reduceGE, Int.reduceEq, Int.reduceNe, Int.reduceToNat, reduceCtorEq, ak]
  refine hJ10 _ ?_
  refine cond_k (b := decide (x0_0 < (l0.length : Int))) rfl (fun c11 => ?_) (fun c11 => ?_)
  · replace c11 := of_decide_eq_true c11; rw [if_pos c11] at h
    refine hJ9 _ ?_
    refine seq_k fun J12 hJ12 => ?_
    refine block_k fun B13 B13n B13x B13r B13j => ?_
    refine seq_k fun J14 hJ14 => ?_
    refine regD_k ?_
    obtain ⟨b15, h⟩ := of_guard h
    have g16 : (List.drop (o0 + x0_0.toNat * 3) (cs0)).take 3 = [.sc (.int .i64 ((rd z68 l0 x0_0).f0)), .sc (.int .u32 ((rd z68 l0 x0_0).f1)), .sc (.int .i64 ((rd z68 l0 x0_0).f2))] := hv0.stretch z68 b15.1 b15.2
    obtain ⟨b17, h⟩ := of_guard h
    have g18 : (List.drop (o1 + x0_0.toNat * 3) (cs1)).take 3 = [.sc (.int .i64 ((rd z68 l1 x0_0).f0)), .sc (.int .u32 ((rd z68 l1 x0_0).f1)), .sc (.int .i64 ((rd z68 l1 x0_0).f2))] := hv1.stretch z68 b17.1 b17.2
    simp only [Nat.reduceEqDiff, Nat.reduceAdd, Nat.reduceMul, Nat.reduceLeDiff, Nat.reduceLT, Int.reduceLE, Int.reduceLT, Int.reduceGT, Int.reduceGE, Int.reduceEq, Int.reduceNe, Int.reduceToNat, reduceCtorEq, ak, b15, g16, b17, g18]
    obtain ⟨t19, h20, h⟩ := of_bind h
    refine alt_k ?_ trivial
    · simp only [Nat.reduceEqDiff, Nat.reduceAdd, Nat.reduceMul, Nat.reduceLeDiff, Nat.reduceLT, Int.reduceLE, Int.reduceLT, Int.reduceGT, Int.reduceGE, Int.reduceEq, Int.reduceNe, Int.reduceToNat, reduceCtorEq, ak]
      refine call_m [] (s0 := []) (by intro t ht; cases ht; decide) rfl rfl (by first | rfl | simp only [reduceCtorEq, Nat.reduceEqDiff, ak, akF, b15, b17, g16, g18]) (laws_eqSubFrame.tri ((rd z68 l0 x0_0).f0) ((rd z68 l0 x0_0).f1) ((rd z68 l0 x0_0).f2) ((rd z68 l1 x0_0).f0) ((rd z68 l1 x0_0).f1) ((rd z68 l1 x0_0).f2) _ h20) (by first | rfl | simp only [reduceCtorEq, Nat.reduceEqDiff, ak, akF]) (by simp [bkOk2, memK]) (fun hl21 => ?_)
      refine call_st (s4 := [(.arg 0, ⟨.fz, 3, cs0⟩), (.arg 1, ⟨.fz, 3, cs1⟩)]) (m1' := []) (m2' := []) (v' := .c (.sc (.bool t19))) (Sto.mapN_killNil _ _) (mrgL_nil' _ _ _) (by rfl) (mapT_killNil _ _) (by rfl) (by rfl) (by first | rfl | simp only [reduceCtorEq, Nat.reduceEqDiff, ak, akF, Nat.zero_add, List.append_nil, b15, b17]) ?_
      simp only [Nat.reduceEqDiff, Nat.reduceAdd, Nat.reduceMul, Nat.reduceLeDiff, Nat.reduceLT, Int.reduceLE, Int.reduceLT, Int.reduceGT, Int.reduceGE, Int.reduceEq, Int.reduceNe, Int.reduceToNat, reduceCtorEq, ak]
      refine hJ14 _ ?_
      refine cond_k (b := !t19) rfl (fun c23 => ?_) (fun c23 => ?_)
      · rw [if_pos c23] at h
        refine seq_k fun J24 hJ24 => ?_
        refine reg_k ?_
        simp only [Nat.reduceEqDiff, Nat.reduceAdd, Nat.reduceMul, Nat.reduceLeDiff, Nat.reduceLT, Int.reduceLE, Int.reduceLT, Int.reduceGT, Int.reduceGE, Int.reduceEq, Int.reduceNe, Int.reduceToNat, reduceCtorEq, ak]
        refine hJ24 _ ?_
        obtain rfl := Option.some.inj h
        refine gh_k (st' := ⟨[(4, .c (.sc (.bool false)))], [(.arg 0, ⟨.fz, 3, cs0⟩), (.arg 1, ⟨.fz, 3, cs1⟩)], [], []⟩) (((Weak.keep [4]).trans ((Weak.foc [(.arg 0, ⟨(.arg 0), [], none, .fz⟩), (.arg 1, ⟨(.arg 1), [], none, .fz⟩)] rfl (by first | rfl | simp only [reduceCtorEq, Nat.reduceEqDiff, ak, akF, b15, b17]) (by simp [argK, akG, ak])).trans (Weak.of_eq (by first | rfl | (simp only [reduceCtorEq, Nat.reduceEqDiff, ak, akF, b15, b17]; done) | (simp [reduceCtorEq, Nat.reduceEqDiff, ak, akF, b15, b17]; done)))))) ?_
        refine B13r _ ?_
        refine G0r _ ?_
        exact hx1 _ rfl
      · rw [if_neg (Bool.eq_false_iff.1 c23)] at h
        refine B13n _ ?_
        refine hJ12 _ ?_
        refine reg_k ?_
        simp only [Nat.reduceEqDiff, Nat.reduceAdd, Nat.reduceMul, Nat.reduceLeDiff, Nat.reduceLT, Int.reduceLE, Int.reduceLT, Int.reduceGT, Int.reduceGE, Int.reduceEq, Int.reduceNe, Int.reduceToNat, reduceCtorEq, ak]
        refine G0n _ (⟨[(0, .c (.ref (.arg 0) [] o0 l0.length)), (1, .c (.ref (.arg 1) [] o1 l1.length)), (5, .c (.sc (.int .i64 (IntKind.i64.wrap (x0_0 + 1)))))], [(.arg 0, ⟨.fz, 3, cs0⟩), (.arg 1, ⟨.fz, 3, cs1⟩)], [], []⟩) (((Weak.keep [0, 1, 5]).trans ((Weak.foc [(.arg 0, ⟨(.arg 0), [], none, .fz⟩), (.arg 1, ⟨(.arg 1), [], none, .fz⟩)] rfl (by first | rfl | simp only [reduceCtorEq, Nat.reduceEqDiff, ak, akF, b15, b17]) (by simp [argK, akG, ak])).trans (Weak.of_eq (by first | rfl | (simp only [reduceCtorEq, Nat.reduceEqDiff, ak, akF, b15, b17]; done) | (simp [reduceCtorEq, Nat.reduceEqDiff, ak, akF, b15, b17]; done)))))) (ih _ _ h K hx0 hx1)
  · replace c11 := of_decide_eq_false c11; rw [if_neg c11] at h
    obtain rfl := Option.some.inj h
    refine gh_k (st' := ⟨[], [(.arg 0, ⟨.fz, 3, cs0⟩), (.arg 1, ⟨.fz, 3, cs1⟩)], [], []⟩) (((Weak.keep []).trans ((Weak.foc [(.arg 0, ⟨(.arg 0), [], none, .fz⟩), (.arg 1, ⟨(.arg 1), [], none, .fz⟩)] rfl (by first | rfl | simp only [reduceCtorEq, Nat.reduceEqDiff, ak, akF]) (by simp [argK, akG, ak])).trans (Weak.of_eq (by first | rfl | (simp only [reduceCtorEq, Nat.reduceEqDiff, ak, akF]; done) | (simp [reduceCtorEq, Nat.reduceEqDiff, ak, akF]; done)))))) ?_
    refine G0x _ _ ?_
    exact hx0 _ rfl
set_option maxRecDepth 100000 in
set_option maxHeartbeats 4000000 in
theorem laws_eqSubFrameS.tri (cs0 : List Cell) (o0 : Nat) (l0 : List S68) (hv0 : Vw c68 3 cs0 o0 l0) (cs1 : List Cell) (o1 : Nat) (l1 : List S68) (hv1 : Vw c68 3 cs1 o1 l1) (r : Bool) (h : laws_eqSubFrameS.f l0 l1 = some r) : Tri Try.prog 135 [.c (.ref (.arg 0) [] o0 l0.length), .c (.ref (.arg 1) [] o1 l1.length)] [(.arg 0, ⟨.fz, 3, cs0⟩), (.arg 1, ⟨.fz, 3, cs1⟩)] (fun o => o = ⟨.c (.sc (.bool r)), [(.arg 0, ⟨.fz, 3, cs0⟩), (.arg 1, ⟨.fz, 3, cs1⟩)], [], []⟩) := by
  refine tri_of_body (ac := c135) (xs := r135) Try.func135 (show Try.f135.body = some (Try.f135.body.getD .skip) from rfl) k135 q135 (Nat.le_of_ble_eq_true rfl) ?_
  refine body_of fun K hKn hKr => ?_
  unfold laws_eqSubFrameS.f at h
  unfold c135
  simp only [initT, Nat.reduceAdd]
  refine seq_k fun J1 hJ1 => ?_
  refine reg_k ?_
  simp only [Nat.reduceEqDiff, Nat.reduceAdd, Nat.reduceMul, Nat.reduceLeDiff, Nat.reduceLT, Int.reduceLE, Int.reduceLT, Int.reduceGT, Int.reduceGE, Int.reduceEq, Int.reduceNe, Int.reduceToNat, reduceCtorEq, ak]
  refine hJ1 _ ?_
  refine seq_k fun J2 hJ2 => ?_
  refine seq_k fun J3 hJ3 => ?_
  refine reg_k ?_
  simp only [Nat.reduceEqDiff, Nat.reduceAdd, Nat.reduceMul, Nat.reduceLeDiff, Nat.reduceLT, Int.reduceLE, Int.reduceLT, Int.reduceGT, Int.reduceGE, Int.reduceEq, Int.reduceNe, Int.reduceToNat, reduceCtorEq, ak]
  refine hJ3 _ ?_
  refine cond_k (b := decide ((l0.length : Int) ≠ (l1.length : Int))) rfl (fun c4 => ?_) (fun c4 => ?_)
  · replace c4 := of_decide_eq_true c4; rw [if_pos c4] at h
    refine seq_k fun J5 hJ5 => ?_
    refine reg_k ?_
    simp only [Nat.reduceEqDiff, Nat.reduceAdd, Nat.reduceMul, Nat.reduceLeDiff, Nat.reduceLT, Int.reduceLE, Int.reduceLT, Int.reduceGT, Int.reduceGE, Int.reduceEq, Int.reduceNe, Int.reduceToNat, reduceCtorEq, ak]
    refine hJ5 _ ?_
    obtain rfl := Option.some.inj h
    refine hKr _ ⟨_, rfl, [], _, rfl, rfl, ?_⟩
    first | rfl | (simp only [reduceCtorEq, Nat.reduceEqDiff, ak, akF]; done) | (simp [reduceCtorEq, Nat.reduceEqDiff, ak, akF]; done)
  · replace c4 := of_decide_eq_false c4; rw [if_neg c4] at h
    refine hJ2 _ ?_
    refine seq_k fun J6 hJ6 => ?_
    refine seq_k fun J7 hJ7 => ?_
    refine reg_k ?_
    simp only [Nat.reduceEqDiff, Nat.reduceAdd, Nat.reduceMul, Nat.reduceLeDiff, Nat.reduceLT, Int.reduceLE, Int.reduceLT, Int.reduceGT, Int.reduceGE, Int.reduceEq, Int.reduceNe, Int.reduceToNat, reduceCtorEq, ak]
    refine hJ7 _ ?_
    refine block_k fun B8 B8n B8x B8r B8j => ?_
    obtain ⟨y25, h26, h⟩ := of_bind h
    refine gh_k (st' := ⟨[(0, .c (.ref (.arg 0) [] o0 l0.length)), (1, .c (.ref (.arg 1) [] o1 l1.length)), (5, .c (.sc (.int .i64 0)))], [(.arg 0, ⟨.fz, 3, cs0⟩), (.arg 1, ⟨.fz, 3, cs1⟩)], [], []⟩) (((Weak.keep [0, 1, 5]).trans ((Weak.foc [(.arg 0, ⟨(.arg 0), [], none, .fz⟩), (.arg 1, ⟨(.arg 1), [], none, .fz⟩)] rfl (by first | rfl | simp only [reduceCtorEq, Nat.reduceEqDiff, ak, akF]) (by simp [argK, akG, ak])).trans (Weak.of_eq (by first | rfl | (simp only [reduceCtorEq, Nat.reduceEqDiff, ak, akF]; done) | (simp [reduceCtorEq, Nat.reduceEqDiff, ak, akF]; done)))))) ?_
    rw [e_loop]
    refine laws_eqSubFrameS.l0_walk cs0 o0 l0 hv0 cs1 o1 l1 hv1 0 _ h26 _ ?_ ?_
    · rintro x27 rfl
      dsimp only at h
      refine B8x _ ?_
      refine hJ6 _ ?_
      refine seq_k fun J28 hJ28 => ?_
      refine reg_k ?_
      simp only [Nat.reduceEqDiff, Nat.reduceAdd, Nat.reduceMul, Nat.reduceLeDiff, Nat.reduceLT, Int.reduceLE, Int.reduceLT, Int.reduceGT, Int.reduceGE, Int.reduceEq, Int.reduceNe, Int.reduceToNat, reduceCtorEq, ak]
      refine hJ28 _ ?_
      obtain rfl := Option.some.inj h
      refine hKr _ ⟨_, rfl, [], _, rfl, rfl, ?_⟩
      first | rfl | (simp only [reduceCtorEq, Nat.reduceEqDiff, ak, akF]; done) | (simp [reduceCtorEq, Nat.reduceEqDiff, ak, akF]; done)
    · rintro x27 rfl
      dsimp only at h
      refine B8r _ ?_
      obtain rfl := Option.some.inj h
      refine hKr _ ⟨_, rfl, [], _, rfl, rfl, ?_⟩
      first | rfl | (simp only [reduceCtorEq, Nat.reduceEqDiff, ak, akF]; done) | (simp [reduceCtorEq, Nat.reduceEqDiff, ak, akF]; done)
/-! ### laws.eqInt64S: function 98 -/
def c98_l0 : AC := .seq (.seq (.reg [.op none (.mv 11 (.tmp 5)), .op none (.mv 12 (.tmp 0)), .op none (.len 13 (.tmp 12)), .op none (.bin 14 .lss (.tmp 11) (.tmp 13)), .keep [0, 1, 5, 14]]) (.cond (.tmp 14) (.skip) (.gh (.exit 0)))) (.seq (.block 1 (.seq (.regD (.first (.op none (.mv 17 (.tmp 0))) (.first (.op none (.mv 18 (.tmp 5))) (.first (.op none (.iaddr 19 1 (.tmp 17) (.tmp 18))) (.first (.op none (.load 20 false 1 (.tmp 19))) (.first (.op none (.mv 21 (.tmp 1))) (.first (.op none (.mv 22 (.tmp 5))) (.first (.op none (.iaddr 23 1 (.tmp 21) (.tmp 22))) (.first (.op none (.load 24 false 1 (.tmp 23))) (.first (.op none (.bin 25 .neq (.tmp 20) (.tmp 24))) (.done)))))))))) [0, 1, 5, 25]) (.cond (.tmp 25) (.seq (.reg [.op none (.mv 4 (.const (.bool false))), .keep [4]]) (.gh .ret)) (.skip)))) (.reg [.op none (.mv 15 (.tmp 5)), .op none (.bin 16 .add (.tmp 15) (.const (.int .i64 1))), .op none (.mv 5 (.tmp 16)), .keep [0, 1, 5]]))
def c98 : AC := .seq (.reg [.op none (.mv 4 (.const (.bool false))), .keep [0, 1]]) (.seq (.seq (.reg [.op none (.mv 6 (.tmp 0)), .op none (.len 7 (.tmp 6)), .op none (.mv 8 (.tmp 1)), .op none (.len 9 (.tmp 8)), .op none (.bin 10 .neq (.tmp 7) (.tmp 9)), .keep [0, 1, 10]]) (.cond (.tmp 10) (.seq (.reg [.op none (.mv 4 (.const (.bool false))), .keep [4]]) (.ret)) (.skip))) (.seq (.seq (.reg [.op none (.mv 5 (.const (.int .i64 0))), .keep [0, 1, 5]]) (.block 0 (.gh (.loop (.ga c98_l0))))) (.seq (.reg [.op none (.mv 4 (.const (.bool true))), .keep [4]]) (.ret))))
def r98 : List RV := [.tmp 4]
theorem k98 : compC Try.prog 26 c98 (Try.f98.body.getD .skip) = some c98.erase := by kernel_rfl
theorem q98 : rvsOf Try.prog Try.f98.results.toList = some r98 := by kernel_rfl
def laws_eqInt64S.l0 (l0 : List Int) (l1 : List Int) (x0_0 : Int) : Option (Lp Unit Bool) := (if x0_0 < (l0.length : Int) then (if 0 ≤ x0_0 ∧ x0_0 < (l0.length : Int) then (if 0 ≤ x0_0 ∧ x0_0 < (l1.length : Int) then (if (rd 0 l0 x0_0) ≠ (rd 0 l1 x0_0) then (some (.b false)) else (laws_eqInt64S.l0 l0 l1 (IntKind.i64.wrap (x0_0 + 1)))) else none) else none) else (some (.a ())))
  partial_fixpoint
def laws_eqInt64S.f (l0 : List Int) (l1 : List Int) : Option Bool := (if (l0.length : Int) ≠ (l1.length : Int) then (some false) else (laws_eqInt64S.l0 l0 l1 0 >>= fun (y21 : Lp Unit Bool) => match y21 with | .a x23 => (some true) | .b x23 => (some x23)))
set_option maxRecDepth 100000 in
set_option maxHeartbeats 4000000 in
theorem laws_eqInt64S.l0_walk (cs0 : List Cell) (o0 : Nat) (l0 : List Int) (hv0 : Vw c_i64 1 cs0 o0 l0) (cs1 : List Cell) (o1 : Nat) (l1 : List Int) (hv1 : Vw c_i64 1 cs1 o1 l1) (x0_0 : Int) (y : Lp Unit Bool) (h : laws_eqInt64S.l0 l0 l1 x0_0 = some y) (K : AE → St → Prop) (hx0 : ∀ x, y = .a x → K (.exit 0) ⟨[], [(.arg 0, ⟨.fz, 1, cs0⟩), (.arg 1, ⟨.fz, 1, cs1⟩)], [], []⟩) (hx1 : ∀ x, y = .b x → K .ret ⟨[(4, .c (.sc (.bool x)))], [(.arg 0, ⟨.fz, 1, cs0⟩), (.arg 1, ⟨.fz, 1, cs1⟩)], [], []⟩) : loopS Try.prog 26 (.ga c98_l0) K ⟨[(0, .c (.ref (.arg 0) [] o0 l0.length)), (1, .c (.ref (.arg 1) [] o1 l1.length)), (5, .c (.sc (.int .i64 x0_0)))], [(.arg 0, ⟨.fz, 1, cs0⟩), (.arg 1, ⟨.fz, 1, cs1⟩)], [], []⟩ := by
  refine laws_eqInt64S.l0.partial_correctness l0 l1 (motive := fun x0_0 y => ∀ (K : AE → St → Prop), (∀ x, y = .a x → K (.exit 0) ⟨[], [(.arg 0, ⟨.fz, 1, cs0⟩), (.arg 1, ⟨.fz, 1, cs1⟩)], [], []⟩) → (∀ x, y = .b x → K .ret ⟨[(4, .c (.sc (.bool x)))], [(.arg 0, ⟨.fz, 1, cs0⟩), (.arg 1, ⟨.fz, 1, cs1⟩)], [], []⟩) → loopS Try.prog 26 (.ga c98_l0) K ⟨[(0, .c (.ref (.arg 0) [] o0 l0.length)), (1, .c (.ref (.arg 1) [] o1 l1.length)), (5, .c (.sc (.int .i64 x0_0)))], [(.arg 0, ⟨.fz, 1, cs0⟩), (.arg 1, ⟨.fz, 1, cs1⟩)], [], []⟩) ?_ x0_0 y h K hx0 hx1
  clear h hx0 hx1
  intro rec ih x0_0 y h K hx0 hx1
  refine loop_unroll (ga_k fun G0 G0n G0r G0x => ?_)
  unfold c98_l0
  refine seq_k fun J9 hJ9 => ?_
  refine seq_k fun J10 hJ10 => ?_
  refine reg_k ?_
  simp only [Nat.reduceEqDiff, Nat.reduceAdd, Nat.reduceMul, Nat.reduceLeDiff, Nat.reduceLT, Int.reduceLE, Int.reduceLT, Int.reduceGT, Int.reduceGE, Int.reduceEq, Int.reduceNe, Int.reduceToNat, reduceCtorEq, ak]
  refine hJ10 _ ?_
  refine cond_k (b := decide (x0_0 < (l0.length : Int))) rfl (fun c11 => ?_) (fun c11 => ?_)
  · replace c11 := of_decide_eq_true c11; rw [if_pos c11] at h
    refine hJ9 _ ?_
    refine seq_k fun J12 hJ12 => ?_
    refine block_k fun B13 B13n B13x B13r B13j => ?_
    refine seq_k fun J14 hJ14 => ?_
    refine regD_k ?_
    obtain ⟨b15, h⟩ := of_guard h
    have g16 : (cs0)[o0 + x0_0.toNat * 1]? = some (.sc (.int .i64 (rd 0 l0 x0_0))) := hv0.get 0 0 b15.1 b15.2 (by decide)
    obtain ⟨b17, h⟩ := of_guard h
    have g18 : (cs1)[o1 + x0_0.toNat * 1]? = some (.sc (.int .i64 (rd 0 l1 x0_0))) := hv1.get 0 0 b17.1 b17.2 (by decide)
    simp only [Nat.reduceEqDiff, Nat.reduceAdd, Nat.reduceMul, Nat.reduceLeDiff, Nat.reduceLT, Int.reduceLE, Int.reduceLT, Int.reduceGT, Int.reduceGE, Int.reduceEq, Int.reduceNe, Int.reduceToNat, reduceCtorEq, ak, b15, g16, b17, g18]
    refine hJ14 _ ?_
    refine cond_k (b := decide ((rd 0 l0 x0_0) ≠ (rd 0 l1 x0_0))) rfl (fun c19 => ?_) (fun c19 => ?_)
    · replace c19 := of_decide_eq_true c19; rw [if_pos c19] at h
      refine seq_k fun J20 hJ20 => ?_
      refine reg_k ?_
      simp only [Nat.reduceEqDiff, Nat.reduceAdd, Nat.reduceMul, Nat.reduceLeDiff, Nat.reduceLT, Int.reduceLE, Int.reduceLT, Int.reduceGT, Int.reduceGE, Int.reduceEq, Int.reduceNe, Int.reduceToNat, reduceCtorEq, ak]
      refine hJ20 _ ?_
      obtain rfl := Option.some.inj h
      refine gh_k (st' := ⟨[(4, .c (.sc (.bool false)))], [(.arg 0, ⟨.fz, 1, cs0⟩), (.arg 1, ⟨.fz, 1, cs1⟩)], [], []⟩) (((Weak.keep [4]).trans ((Weak.foc [(.arg 0, ⟨(.arg 0), [], none, .fz⟩), (.arg 1, ⟨(.arg 1), [], none, .fz⟩)] rfl (by first | rfl | simp only [reduceCtorEq, Nat.reduceEqDiff, ak, akF, b15, b17]) (by simp [argK, akG, ak])).trans (Weak.of_eq (by first | rfl | (simp only [reduceCtorEq, Nat.reduceEqDiff, ak, akF, b15, b17]; done) | (simp [reduceCtorEq, Nat.reduceEqDiff, ak, akF, b15, b17]; done)))))) ?_
      refine B13r _ ?_
      refine G0r _ ?_
      exact hx1 _ rfl
    · replace c19 := of_decide_eq_false c19; rw [if_neg c19] at h
      refine B13n _ ?_
      refine hJ12 _ ?_
      refine reg_k ?_
      simp only [Nat.reduceEqDiff, Nat.reduceAdd, Nat.reduceMul, Nat.reduceLeDiff, Nat.reduceLT, Int.reduceLE, Int.reduceLT, Int.reduceGT, Int.reduceGE, Int.reduceEq, Int.reduceNe, Int.reduceToNat, reduceCtorEq, ak]
      refine G0n _ (⟨[(0, .c (.ref (.arg 0) [] o0 l0.length)), (1, .c (.ref (.arg 1) [] o1 l1.length)), (5, .c (.sc (.int .i64 (IntKind.i64.wrap (x0_0 + 1)))))], [(.arg 0, ⟨.fz, 1, cs0⟩), (.arg 1, ⟨.fz, 1, cs1⟩)], [], []⟩) (((Weak.keep [0, 1, 5]).trans ((Weak.foc [(.arg 0, ⟨(.arg 0), [], none, .fz⟩), (.arg 1, ⟨(.arg 1), [], none, .fz⟩)] rfl (by first | rfl | simp only [reduceCtorEq, Nat.reduceEqDiff, ak, akF, b15, b17]) (by simp [argK, akG, ak])).trans (Weak.of_eq (by first | rfl | (simp only [reduceCtorEq, Nat.reduceEqDiff, ak, akF, b15, b17]; done) | (simp [reduceCtorEq, Nat.reduceEqDiff, ak, akF, b15, b17]; done)))))) (ih _ _ h K hx0 hx1)
  · replace c11 := of_decide_eq_false c11; rw [if_neg c11] at h
    obtain rfl := Option.some.inj h
    refine gh_k (st' := ⟨[], [(.arg 0, ⟨.fz, 1, cs0⟩), (.arg 1, ⟨.fz, 1, cs1⟩)], [], []⟩) (((Weak.keep []).trans ((Weak.foc [(.arg 0, ⟨(.arg 0), [], none, .fz⟩), (.arg 1, ⟨(.arg 1), [], none, .fz⟩)] rfl (by first | rfl | simp only [reduceCtorEq, Nat.reduceEqDiff, ak, akF]) (by simp [argK, akG, ak])).trans (Weak.of_eq (by first | rfl | (simp only [reduceCtorEq, Nat.reduceEqDiff, ak, akF]; done) | (simp [reduceCtorEq, Nat.reduceEqDiff, ak, akF]; done)))))) ?_
    refine G0x _ _ ?_
    exact hx0 _ rfl
set_option maxRecDepth 100000 in
set_option maxHeartbeats 4000000 in
theorem laws_eqInt64S.tri (cs0 : List Cell) (o0 : Nat) (l0 : List Int) (hv0 : Vw c_i64 1 cs0 o0 l0) (cs1 : List Cell) (o1 : Nat) (l1 : List Int) (hv1 : Vw c_i64 1 cs1 o1 l1) (r : Bool) (h : laws_eqInt64S.f l0 l1 = some r) : Tri Try.prog 98 [.c (.ref (.arg 0) [] o0 l0.length), .c (.ref (.arg 1) [] o1 l1.length)] [(.arg 0, ⟨.fz, 1, cs0⟩), (.arg 1, ⟨.fz, 1, cs1⟩)] (fun o => o = ⟨.c (.sc (.bool r)), [(.arg 0, ⟨.fz, 1, cs0⟩), (.arg 1, ⟨.fz, 1, cs1⟩)], [], []⟩) := by
  refine tri_of_body (ac := c98) (xs := r98) Try.func98 (show Try.f98.body = some (Try.f98.body.getD .skip) from rfl) k98 q98 (Nat.le_of_ble_eq_true rfl) ?_
  refine body_of fun K hKn hKr => ?_
  unfold laws_eqInt64S.f at h
  unfold c98
  simp only [initT, Nat.reduceAdd]
  refine seq_k fun J1 hJ1 => ?_
  refine reg_k ?_
  simp only [Nat.reduceEqDiff, Nat.reduceAdd, Nat.reduceMul, Nat.reduceLeDiff, Nat.reduceLT, Int.reduceLE, Int.reduceLT, Int.reduceGT, Int.reduceGE, Int.reduceEq, Int.reduceNe, Int.reduceToNat, reduceCtorEq, ak]
  refine hJ1 _ ?_
  refine seq_k fun J2 hJ2 => ?_
  refine seq_k fun J3 hJ3 => ?_
  refine reg_k ?_
  simp only [Nat.reduceEqDiff, Nat.reduceAdd, Nat.reduceMul, Nat.reduceLeDiff, Nat.reduceLT, Int.reduceLE, Int.reduceLT, Int.reduceGT, Int.reduceGE, Int.reduceEq, Int.reduceNe, Int.reduceToNat, reduceCtorEq, ak]
  refine hJ3 _ ?_
  refine cond_k (b := decide ((l0.length : Int) ≠ (l1.length : Int))) rfl (fun c4 => ?_) (fun c4 => ?_)
  · replace c4 := of_decide_eq_true c4; rw [if_pos c4] at h
    refine seq_k fun J5 hJ5 => ?_
    refine reg_k ?_
    simp only [Nat.reduceEqDiff, Nat.reduceAdd, Nat.reduceMul, Nat.reduceLeDiff, Nat.reduceLT, Int.reduceLE, Int.reduceLT, Int.reduceGT, Int.reduceGE, Int.reduceEq, Int.reduceNe, Int.reduceToNat, reduceCtorEq, ak]
    refine hJ5 _ ?_
    obtain rfl := Option.some.inj h
    refine hKr _ ⟨_, rfl, [], _, rfl, rfl, ?_⟩
    first | rfl | (simp only [reduceCtorEq, Nat.reduceEqDiff, ak, akF]; done) | (simp [reduceCtorEq, Nat.reduceEqDiff, ak, akF]; done)
  · replace c4 := of_decide_eq_false c4; rw [if_neg c4] at h
    refine hJ2 _ ?_
    refine seq_k fun J6 hJ6 => ?_
    refine seq_k fun J7 hJ7 => ?_
    refine reg_k ?_
    simp only [Nat.reduceEqDiff, Nat.reduceAdd, Nat.reduceMul, Nat.reduceLeDiff, Nat.reduceLT, Int.reduceLE, Int.reduceLT, Int.reduceGT, Int.reduceGE, Int.reduceEq, Int.reduceNe, Int.reduceToNat, reduceCtorEq, ak]
    refine hJ7 _ ?_
    refine block_k fun B8 B8n B8x B8r B8j => ?_
    obtain ⟨y21, h22, h⟩ := of_bind h
    refine gh_k (st' := ⟨[(0, .c (.ref (.arg 0) [] o0 l0.length)), (1, .c (.ref (.arg 1) [] o1 l1.length)), (5, .c (.sc (.int .i64 0)))], [(.arg 0, ⟨.fz, 1, cs0⟩), (.arg 1, ⟨.fz, 1, cs1⟩)], [], []⟩) (((Weak.keep [0, 1, 5]).trans ((Weak.foc [(.arg 0, ⟨(.arg 0), [], none, .fz⟩), (.arg 1, ⟨(.arg 1), [], none, .fz⟩)] rfl (by first | rfl | simp only [reduceCtorEq, Nat.reduceEqDiff, ak, akF]) (by simp [argK, akG, ak])).trans (Weak.of_eq (by first | rfl | (simp only [reduceCtorEq, Nat.reduceEqDiff, ak, akF]; done) | (simp [reduceCtorEq, Nat.reduceEqDiff, ak, akF]; done)))))) ?_
    rw [e_loop]
    refine laws_eqInt64S.l0_walk cs0 o0 l0 hv0 cs1 o1 l1 hv1 0 _ h22 _ ?_ ?_
    · rintro x23 rfl
      dsimp only at h
      refine B8x _ ?_
      refine hJ6 _ ?_
      refine seq_k fun J24 hJ24 => ?_
      refine reg_k ?_
      simp only [Nat.reduceEqDiff, Nat.reduceAdd, Nat.reduceMul, Nat.reduceLeDiff, Nat.reduceLT, Int.reduceLE, Int.reduceLT, Int.reduceGT, Int.reduceGE, Int.reduceEq, Int.reduceNe, Int.reduceToNat, reduceCtorEq, ak]
      refine hJ24 _ ?_
      obtain rfl := Option.some.inj h
      refine hKr _ ⟨_, rfl, [], _, rfl, rfl, ?_⟩
      first | rfl | (simp only [reduceCtorEq, Nat.reduceEqDiff, ak, akF]; done) | (simp [reduceCtorEq, Nat.reduceEqDiff, ak, akF]; done)
    · rintro x23 rfl
      dsimp only at h
      refine B8r _ ?_
      obtain rfl := Option.some.inj h
      refine hKr _ ⟨_, rfl, [], _, rfl, rfl, ?_⟩
      first | rfl | (simp only [reduceCtorEq, Nat.reduceEqDiff, ak, akF]; done) | (simp [reduceCtorEq, Nat.reduceEqDiff, ak, akF]; done)
/-! ### laws.eqSubOut: function 91 -/
def c91 : AC := .seq (.reg [.op none (.box 2 (.tmp 0)), .op none (.box 3 (.tmp 1)), .op none (.mv 4 (.const (.bool false))), .keep [2, 3]]) (.seq (.seq (.reg [.op none (.faddr 5 0 (.tmp 2)), .op none (.load 6 false 1 (.tmp 5)), .op none (.faddr 7 0 (.tmp 3)), .op none (.load 8 false 1 (.tmp 7)), .op none (.bin 9 .neq (.tmp 6) (.tmp 8)), .keep [2, 3, 9]]) (.cond (.tmp 9) (.seq (.reg [.op none (.mv 4 (.const (.bool false))), .keep [4]]) (.ret)) (.skip))) (.seq (.seq (.reg [.op none (.faddr 10 1 (.tmp 2)), .op none (.load 11 false 1 (.tmp 10)), .op none (.faddr 12 1 (.tmp 3)), .op none (.load 13 false 1 (.tmp 12)), .call none (some 14) 135 [.tmp 11, .tmp 13], .op none (.un 15 .not (.tmp 14)), .keep [2, 3, 15]]) (.cond (.tmp 15) (.seq (.reg [.op none (.mv 4 (.const (.bool false))), .keep [4]]) (.ret)) (.skip))) (.seq (.seq (.reg [.op none (.faddr 16 2 (.tmp 2)), .op none (.load 17 false 1 (.tmp 16)), .op none (.faddr 18 2 (.tmp 3)), .op none (.load 19 false 1 (.tmp 18)), .call none (some 20) 98 [.tmp 17, .tmp 19], .op none (.un 21 .not (.tmp 20)), .keep [2, 3, 21]]) (.cond (.tmp 21) (.seq (.reg [.op none (.mv 4 (.const (.bool false))), .keep [4]]) (.ret)) (.skip))) (.seq (.seq (.reg [.op none (.faddr 22 3 (.tmp 2)), .op none (.load 23 false 1 (.tmp 22)), .op none (.faddr 24 3 (.tmp 3)), .op none (.load 25 false 1 (.tmp 24)), .op none (.bin 26 .neq (.tmp 23) (.tmp 25)), .keep [2, 3, 26]]) (.cond (.tmp 26) (.seq (.reg [.op none (.mv 4 (.const (.bool false))), .keep [4]]) (.ret)) (.skip))) (.seq (.seq (.reg [.op none (.faddr 27 4 (.tmp 2)), .op none (.load 28 false 1 (.tmp 27)), .op none (.faddr 29 4 (.tmp 3)), .op none (.load 30 false 1 (.tmp 29)), .op none (.bin 31 .neq (.tmp 28) (.tmp 30)), .keep [31]]) (.cond (.tmp 31) (.seq (.reg [.op none (.mv 4 (.const (.bool false))), .keep [4]]) (.ret)) (.skip))) (.seq (.reg [.op none (.mv 4 (.const (.bool true))), .keep [4]]) (.ret)))))))
def r91 : List RV := [.tmp 4]
theorem k91 : compC Try.prog 32 c91 (Try.f91.body.getD .skip) = some c91.erase := by kernel_rfl
theorem q91 : rvsOf Try.prog Try.f91.results.toList = some r91 := by kernel_rfl
def laws_eqSubOut.f (a0_0 : Int) (l0_1 : List S68) (l0_2 : List Int) (a0_3 : Int) (a0_4 : Int) (a1_0 : Int) (l1_1 : List S68) (l1_2 : List Int) (a1_3 : Int) (a1_4 : Int) : Option Bool := (if a0_0 ≠ a1_0 then (some false) else (laws_eqSubFrameS.f l0_1 l1_1 >>= fun t8 => (if (!t8) = true then (some false) else (laws_eqInt64S.f l0_2 l1_2 >>= fun t15 => (if (!t15) = true then (some false) else (if a0_3 ≠ a1_3 then (some false) else (if a0_4 ≠ a1_4 then (some false) else (some true))))))))
set_option maxRecDepth 100000 in
set_option maxHeartbeats 4000000 in
theorem laws_eqSubOut.tri (cs0 : List Cell) (o0 : Nat) (l0_1 : List S68) (hv0 : Vw c68 3 cs0 o0 l0_1) (cs1 : List Cell) (o1 : Nat) (l0_2 : List Int) (hv1 : Vw c_i64 1 cs1 o1 l0_2) (cs2 : List Cell) (o2 : Nat) (l1_1 : List S68) (hv2 : Vw c68 3 cs2 o2 l1_1) (cs3 : List Cell) (o3 : Nat) (l1_2 : List Int) (hv3 : Vw c_i64 1 cs3 o3 l1_2) (a0_0 : Int) (a0_3 : Int) (a0_4 : Int) (a1_0 : Int) (a1_3 : Int) (a1_4 : Int) (r : Bool) (h : laws_eqSubOut.f a0_0 l0_1 l0_2 a0_3 a0_4 a1_0 l1_1 l1_2 a1_3 a1_4 = some r) : Tri Try.prog 91 [.g [.sc (.int .i64 a0_0), .ref (.arg 0) [] o0 l0_1.length, .ref (.arg 1) [] o1 l0_2.length, .sc (.int .i64 a0_3), .sc (.int .i64 a0_4)], .g [.sc (.int .i64 a1_0), .ref (.arg 2) [] o2 l1_1.length, .ref (.arg 3) [] o3 l1_2.length, .sc (.int .i64 a1_3), .sc (.int .i64 a1_4)]] [(.arg 0, ⟨.fz, 3, cs0⟩), (.arg 1, ⟨.fz, 1, cs1⟩), (.arg 2, ⟨.fz, 3, cs2⟩), (.arg 3, ⟨.fz, 1, cs3⟩)] (fun o => o = ⟨.c (.sc (.bool r)), [(.arg 0, ⟨.fz, 3, cs0⟩), (.arg 1, ⟨.fz, 1, cs1⟩), (.arg 2, ⟨.fz, 3, cs2⟩), (.arg 3, ⟨.fz, 1, cs3⟩)], [], []⟩) := by
  refine tri_of_body (ac := c91) (xs := r91) Try.func91 (show Try.f91.body = some (Try.f91.body.getD .skip) from rfl) k91 q91 (Nat.le_of_ble_eq_true rfl) ?_
  refine body_of fun K hKn hKr => ?_
  unfold laws_eqSubOut.f at h
  unfold c91
  simp only [initT, Nat.reduceAdd]
  refine seq_k fun J1 hJ1 => ?_
  refine reg_k ?_
  simp only [Nat.reduceEqDiff, Nat.reduceAdd, Nat.reduceMul, Nat.reduceLeDiff, Nat.reduceLT, Int.reduceLE, Int.reduceLT, Int.reduceGT, Int.reduceGE, Int.reduceEq, Int.reduceNe, Int.reduceToNat, reduceCtorEq, ak]
  refine hJ1 _ ?_
  refine seq_k fun J2 hJ2 => ?_
  refine seq_k fun J3 hJ3 => ?_
  refine reg_k ?_
  simp only [Nat.reduceEqDiff, Nat.reduceAdd, Nat.reduceMul, Nat.reduceLeDiff, Nat.reduceLT, Int.reduceLE, Int.reduceLT, Int.reduceGT, Int.reduceGE, Int.reduceEq, Int.reduceNe, Int.reduceToNat, reduceCtorEq, ak]
  refine hJ3 _ ?_
  refine cond_k (b := decide (a0_0 ≠ a1_0)) rfl (fun c4 => ?_) (fun c4 => ?_)
  · replace c4 := of_decide_eq_true c4; rw [if_pos c4] at h
    refine seq_k fun J5 hJ5 => ?_
    refine reg_k ?_
    simp only [Nat.reduceEqDiff, Nat.reduceAdd, Nat.reduceMul, Nat.reduceLeDiff, Nat.reduceLT, Int.reduceLE, Int.reduceLT, Int.reduceGT, Int.reduceGE, Int.reduceEq, Int.reduceNe, Int.reduceToNat, reduceCtorEq, ak]
    refine hJ5 _ ?_
    obtain rfl := Option.some.inj h
    refine hKr _ ⟨_, rfl, [], _, rfl, rfl, ?_⟩
    first | rfl | (simp only [reduceCtorEq, Nat.reduceEqDiff, ak, akF]; done) | (simp [reduceCtorEq, Nat.reduceEqDiff, ak, akF]; done)
  · replace c4 := of_decide_eq_false c4; rw [if_neg c4] at h
    refine hJ2 _ ?_
    refine seq_k fun J6 hJ6 => ?_
    refine seq_k fun J7 hJ7 => ?_
    refine reg_k ?_
    simp only [Nat.reduceEqDiff, Nat.reduceAdd, Nat.reduceMul, Nat.reduceLeDiff, Nat.reduceLT, Int.reduceLE, Int.reduceLT, Int.reduceGT, Int.reduceGE, Int.reduceEq, Int.reduceNe, Int.reduceToNat, reduceCtorEq, ak]
    obtain ⟨t8, h9, h⟩ := of_bind h
    refine call_m [(.arg 0, ⟨(.arg 0), [], none, .fz⟩), (.arg 1, ⟨(.arg 2), [], none, .fz⟩)] (s0 := [(.arg 0, ⟨.fz, 3, cs0⟩), (.arg 1, ⟨.fz, 3, cs2⟩)]) (by intro t ht; cases ht; decide) rfl rfl (by first | rfl | simp only [reduceCtorEq, Nat.reduceEqDiff, ak, akF]) (laws_eqSubFrameS.tri (cs0) o0 l0_1 hv0 (cs2) o2 l1_1 hv2 _ h9) (by first | rfl | simp only [reduceCtorEq, Nat.reduceEqDiff, ak, akF]) (by simp [bkOk2, memK]) (fun hl9 => ?_)
    refine call_st (s4 := [(.arg 0, ⟨.fz, 3, cs0⟩), (.arg 1, ⟨.fz, 1, cs1⟩), (.arg 2, ⟨.fz, 3, cs2⟩), (.arg 3, ⟨.fz, 1, cs3⟩), (.tmp 2 0, ⟨.box, 0, [.sc (.int .i64 a0_0), .ref (.arg 0) [] o0 l0_1.length, .ref (.arg 1) [] o1 l0_2.length, .sc (.int .i64 a0_3), .sc (.int .i64 a0_4)]⟩), (.tmp 3 0, ⟨.box, 0, [.sc (.int .i64 a1_0), .ref (.arg 2) [] o2 l1_1.length, .ref (.arg 3) [] o3 l1_2.length, .sc (.int .i64 a1_3), .sc (.int .i64 a1_4)]⟩)]) (m1' := []) (m2' := []) (v' := .c (.sc (.bool t8))) (Sto.mapN_killNil _ _) (mrgL_fz (mrgL_fz (mrgL_nil' _ _ _) rfl (by first | rfl | simp only [reduceCtorEq, Nat.reduceEqDiff, ak]) rfl (by intro R hR hh; cases hR; cases hh.2)) rfl (by first | rfl | simp only [reduceCtorEq, Nat.reduceEqDiff, ak]) rfl (by intro R hR hh; cases hR; cases hh.2)) (by rfl) (mapT_killNil _ _) (by rfl) (by rfl) (by first | rfl | simp only [reduceCtorEq, Nat.reduceEqDiff, ak, akF, Nat.zero_add, List.append_nil]) ?_
    simp only [Nat.reduceEqDiff, Nat.reduceAdd, Nat.reduceMul, Nat.reduceLeDiff, Nat.reduceLT, Int.reduceLE, Int.reduceLT, Int.reduceGT, Int.reduceGE, Int.reduceEq, Int.reduceNe, Int.reduceToNat, reduceCtorEq, ak]
    refine hJ7 _ ?_
    refine cond_k (b := !t8) rfl (fun c11 => ?_) (fun c11 => ?_)
    · rw [if_pos c11] at h
      refine seq_k fun J12 hJ12 => ?_
      refine reg_k ?_
      simp only [Nat.reduceEqDiff, Nat.reduceAdd, Nat.reduceMul, Nat.reduceLeDiff, Nat.reduceLT, Int.reduceLE, Int.reduceLT, Int.reduceGT, Int.reduceGE, Int.reduceEq, Int.reduceNe, Int.reduceToNat, reduceCtorEq, ak]
      refine hJ12 _ ?_
      obtain rfl := Option.some.inj h
      refine hKr _ ⟨_, rfl, [], _, rfl, rfl, ?_⟩
      first | rfl | (simp only [reduceCtorEq, Nat.reduceEqDiff, ak, akF]; done) | (simp [reduceCtorEq, Nat.reduceEqDiff, ak, akF]; done)
    · rw [if_neg (Bool.eq_false_iff.1 c11)] at h
      refine hJ6 _ ?_
      refine seq_k fun J13 hJ13 => ?_
      refine seq_k fun J14 hJ14 => ?_
      refine reg_k ?_
      simp only [Nat.reduceEqDiff, Nat.reduceAdd, Nat.reduceMul, Nat.reduceLeDiff, Nat.reduceLT, Int.reduceLE, Int.reduceLT, Int.reduceGT, Int.reduceGE, Int.reduceEq, Int.reduceNe, Int.reduceToNat, reduceCtorEq, ak]
      obtain ⟨t15, h16, h⟩ := of_bind h
      refine call_m [(.arg 0, ⟨(.arg 1), [], none, .fz⟩), (.arg 1, ⟨(.arg 3), [], none, .fz⟩)] (s0 := [(.arg 0, ⟨.fz, 1, cs1⟩), (.arg 1, ⟨.fz, 1, cs3⟩)]) (by intro t ht; cases ht; decide) rfl rfl (by first | rfl | simp only [reduceCtorEq, Nat.reduceEqDiff, ak, akF]) (laws_eqInt64S.tri (cs1) o1 l0_2 hv1 (cs3) o3 l1_2 hv3 _ h16) (by first | rfl | simp only [reduceCtorEq, Nat.reduceEqDiff, ak, akF]) (by simp [bkOk2, memK]) (fun hl16 => ?_)
      refine call_st (s4 := [(.arg 0, ⟨.fz, 3, cs0⟩), (.arg 1, ⟨.fz, 1, cs1⟩), (.arg 2, ⟨.fz, 3, cs2⟩), (.arg 3, ⟨.fz, 1, cs3⟩), (.tmp 2 0, ⟨.box, 0, [.sc (.int .i64 a0_0), .ref (.arg 0) [] o0 l0_1.length, .ref (.arg 1) [] o1 l0_2.length, .sc (.int .i64 a0_3), .sc (.int .i64 a0_4)]⟩), (.tmp 3 0, ⟨.box, 0, [.sc (.int .i64 a1_0), .ref (.arg 2) [] o2 l1_1.length, .ref (.arg 3) [] o3 l1_2.length, .sc (.int .i64 a1_3), .sc (.int .i64 a1_4)]⟩)]) (m1' := []) (m2' := []) (v' := .c (.sc (.bool t15))) (Sto.mapN_killNil _ _) (mrgL_fz (mrgL_fz (mrgL_nil' _ _ _) rfl (by first | rfl | simp only [reduceCtorEq, Nat.reduceEqDiff, ak]) rfl (by intro R hR hh; cases hR; cases hh.2)) rfl (by first | rfl | simp only [reduceCtorEq, Nat.reduceEqDiff, ak]) rfl (by intro R hR hh; cases hR; cases hh.2)) (by rfl) (mapT_killNil _ _) (by rfl) (by rfl) (by first | rfl | simp only [reduceCtorEq, Nat.reduceEqDiff, ak, akF, Nat.zero_add, List.append_nil]) ?_
      simp only [Nat.reduceEqDiff, Nat.reduceAdd, Nat.reduceMul, Nat.reduceLeDiff, Nat.reduceLT, Int.reduceLE, Int.reduceLT, Int.reduceGT, Int.reduceGE, Int.reduceEq, Int.reduceNe, Int.reduceToNat, reduceCtorEq, ak]
      refine hJ14 _ ?_
      refine cond_k (b := !t15) rfl (fun c18 => ?_) (fun c18 => ?_)
      · rw [if_pos c18] at h
        refine seq_k fun J19 hJ19 => ?_
        refine reg_k ?_
        simp only [Nat.reduceEqDiff, Nat.reduceAdd, Nat.reduceMul, Nat.reduceLeDiff, Nat.reduceLT, Int.reduceLE, Int.reduceLT, Int.reduceGT, Int.reduceGE, Int.reduceEq, Int.reduceNe, Int.reduceToNat, reduceCtorEq, ak]
        refine hJ19 _ ?_
        obtain rfl := Option.some.inj h
        refine hKr _ ⟨_, rfl, [], _, rfl, rfl, ?_⟩
        first | rfl | (simp only [reduceCtorEq, Nat.reduceEqDiff, ak, akF]; done) | (simp [reduceCtorEq, Nat.reduceEqDiff, ak, akF]; done)
      · rw [if_neg (Bool.eq_false_iff.1 c18)] at h
        refine hJ13 _ ?_
        refine seq_k fun J20 hJ20 => ?_
        refine seq_k fun J21 hJ21 => ?_
        refine reg_k ?_
        simp only [Nat.reduceEqDiff, Nat.reduceAdd, Nat.reduceMul, Nat.reduceLeDiff, Nat.reduceLT, Int.reduceLE, Int.reduceLT, Int.reduceGT, Int.reduceGE, Int.reduceEq, Int.reduceNe, Int.reduceToNat, reduceCtorEq, ak]
        refine hJ21 _ ?_
        refine cond_k (b := decide (a0_3 ≠ a1_3)) rfl (fun c22 => ?_) (fun c22 => ?_)
        · replace c22 := of_decide_eq_true c22; rw [if_pos c22] at h
          refine seq_k fun J23 hJ23 => ?_
          refine reg_k ?_
          simp only [Nat.reduceEqDiff, Nat.reduceAdd, Nat.reduceMul, Nat.reduceLeDiff, Nat.reduceLT, Int.reduceLE, Int.reduceLT, Int.reduceGT, Int.reduceGE, Int.reduceEq, Int.reduceNe, Int.reduceToNat, reduceCtorEq, ak]
          refine hJ23 _ ?_
          obtain rfl := Option.some.inj h
          refine hKr _ ⟨_, rfl, [], _, rfl, rfl, ?_⟩
          first | rfl | (simp only [reduceCtorEq, Nat.reduceEqDiff, ak, akF]; done) | (simp [reduceCtorEq, Nat.reduceEqDiff, ak, akF]; done)
        · replace c22 := of_decide_eq_false c22; rw [if_neg c22] at h
          refine hJ20 _ ?_
          refine seq_k fun J24 hJ24 => ?_
          refine seq_k fun J25 hJ25 => ?_
          refine reg_k ?_
          simp only [Nat.reduceEqDiff, Nat.reduceAdd, Nat.reduceMul, Nat.reduceLeDiff, Nat.reduceLT, Int.reduceLE, Int.reduceLT, Int.reduceGT, Int.reduceGE, Int.reduceEq, Int.reduceNe, Int.reduceToNat, reduceCtorEq, ak]
          refine hJ25 _ ?_
          refine cond_k (b := decide (a0_4 ≠ a1_4)) rfl (fun c26 => ?_) (fun c26 => ?_)
          · replace c26 := of_decide_eq_true c26; rw [if_pos c26] at h
            refine seq_k fun J27 hJ27 => ?_
            refine reg_k ?_
            simp only [Nat.reduceEqDiff, Nat.reduceAdd, Nat.reduceMul, Nat.reduceLeDiff, Nat.reduceLT, Int.reduceLE, Int.reduceLT, Int.reduceGT, Int.reduceGE, Int.reduceEq, Int.reduceNe, Int.reduceToNat, reduceCtorEq, ak]
            refine hJ27 _ ?_
            obtain rfl := Option.some.inj h
            refine hKr _ ⟨_, rfl, [], _, rfl, rfl, ?_⟩
            first | rfl | (simp only [reduceCtorEq, Nat.reduceEqDiff, ak, akF]; done) | (simp [reduceCtorEq, Nat.reduceEqDiff, ak, akF]; done)
          · replace c26 := of_decide_eq_false c26; rw [if_neg c26] at h
            refine hJ24 _ ?_
            refine seq_k fun J28 hJ28 => ?_
            refine reg_k ?_
            simp only [Nat.reduceEqDiff, Nat.reduceAdd, Nat.reduceMul, Nat.reduceLeDiff, Nat.reduceLT, Int.reduceLE, Int.reduceLT, Int.reduceGT, Int.reduceGE, Int.reduceEq, Int.reduceNe, Int.reduceToNat, reduceCtorEq, ak]
            refine hJ28 _ ?_
            obtain rfl := Option.some.inj h
            refine hKr _ ⟨_, rfl, [], _, rfl, rfl, ?_⟩
            first | rfl | (simp only [reduceCtorEq, Nat.reduceEqDiff, ak, akF]; done) | (simp [reduceCtorEq, Nat.reduceEqDiff, ak, akF]; done)
/-! ### laws.eqSubOutS: function 38 -/
def c38_l0 : AC := .seq (.seq (.reg [.op none (.mv 11 (.tmp 5)), .op none (.mv 12 (.tmp 0)), .op none (.len 13 (.tmp 12)), .op none (.bin 14 .lss (.tmp 11) (.tmp 13)), .keep [0, 1, 5, 14]]) (.cond (.tmp 14) (.skip) (.gh (.exit 0)))) (.seq (.block 1 (.seq (.regD (.first (.op none (.mv 17 (.tmp 0))) (.first (.op none (.mv 18 (.tmp 5))) (.first (.op none (.iaddr 19 5 (.tmp 17) (.tmp 18))) (.first (.op none (.load 20 true 5 (.tmp 19))) (.first (.op none (.mv 21 (.tmp 1))) (.first (.op none (.mv 22 (.tmp 5))) (.first (.op none (.iaddr 23 5 (.tmp 21) (.tmp 22))) (.first (.op none (.load 24 true 5 (.tmp 23))) (.alt (.call none (some 25) 91 [.tmp 20, .tmp 24]) none (.first (.op none (.un 26 .not (.tmp 25))) (.done)) (.stop)))))))))) [0, 1, 5, 26]) (.cond (.tmp 26) (.seq (.reg [.op none (.mv 4 (.const (.bool false))), .keep [4]]) (.gh .ret)) (.skip)))) (.reg [.op none (.mv 15 (.tmp 5)), .op none (.bin 16 .add (.tmp 15) (.const (.int .i64 1))), .op none (.mv 5 (.tmp 16)), .keep [0, 1, 5]]))
def c38 : AC := .seq (.reg [.op none (.mv 4 (.const (.bool false))), .keep [0, 1]]) (.seq (.seq (.reg [.op none (.mv 6 (.tmp 0)), .op none (.len 7 (.tmp 6)), .op none (.mv 8 (.tmp 1)), .op none (.len 9 (.tmp 8)), .op none (.bin 10 .neq (.tmp 7) (.tmp 9)), .keep [0, 1, 10]]) (.cond (.tmp 10) (.seq (.reg [.op none (.mv 4 (.const (.bool false))), .keep [4]]) (.ret)) (.skip))) (.seq (.seq (.reg [.op none (.mv 5 (.const (.int .i64 0))), .keep [0, 1, 5]]) (.block 0 (.gh (.loop (.ga c38_l0))))) (.seq (.reg [.op none (.mv 4 (.const (.bool true))), .keep [4]]) (.ret))))
def r38 : List RV := [.tmp 4]
theorem k38 : compC Try.prog 27 c38 (Try.f38.body.getD .skip) = some c38.erase := by kernel_rfl
theorem q38 : rvsOf Try.prog Try.f38.results.toList = some r38 := by kernel_rfl
def laws_eqSubOutS.l0 (l0 : List S66) (l1 : List S66) (x0_0 : Int) : Option (Lp Unit Bool) := (if x0_0 < (l0.length : Int) then (if 0 ≤ x0_0 ∧ x0_0 < (l0.length : Int) then (if 0 ≤ x0_0 ∧ x0_0 < (l1.length : Int) then (laws_eqSubOut.f ((rd z66 l0 x0_0).f0) ((rd z66 l0 x0_0).f1) ((rd z66 l0 x0_0).f2) ((rd z66 l0 x0_0).f3) ((rd z66 l0 x0_0).f4) ((rd z66 l1 x0_0).f0) ((rd z66 l1 x0_0).f1) ((rd z66 l1 x0_0).f2) ((rd z66 l1 x0_0).f3) ((rd z66 l1 x0_0).f4) >>= fun t23 => (if (!t23) = true then (some (.b false)) else (laws_eqSubOutS.l0 l0 l1 (IntKind.i64.wrap (x0_0 + 1))))) else none) else none) else (some (.a ())))
  partial_fixpoint
def laws_eqSubOutS.f (l0 : List S66) (l1 : List S66) : Option Bool := (if (l0.length : Int) ≠ (l1.length : Int) then (some false) else (laws_eqSubOutS.l0 l0 l1 0 >>= fun (y33 : Lp Unit Bool) => match y33 with | .a x35 => (some true) | .b x35 => (some x35)))
set_option maxRecDepth 100000 in
set_option maxHeartbeats 4000000 in
theorem laws_eqSubOutS.l0_walk (cs0 : List Cell) (o0 : Nat) (l0 : List S66) (hv0 : Vw c66 5 cs0 o0 l0) (cs1 : List Cell) (o1 : Nat) (l1 : List S66) (hv1 : Vw c66 5 cs1 o1 l1) (x0_0 : Int) (y : Lp Unit Bool) (h : laws_eqSubOutS.l0 l0 l1 x0_0 = some y) (K : AE → St → Prop) (hx0 : ∀ x, y = .a x → K (.exit 0) ⟨[], [(.arg 0, ⟨.fz, 5, cs0⟩), (.arg 1, ⟨.fz, 5, cs1⟩)], [], []⟩) (hx1 : ∀ x, y = .b x → K .ret ⟨[(4, .c (.sc (.bool x)))], [(.arg 0, ⟨.fz, 5, cs0⟩), (.arg 1, ⟨.fz, 5, cs1⟩)], [], []⟩) : loopS Try.prog 27 (.ga c38_l0) K ⟨[(0, .c (.ref (.arg 0) [] o0 l0.length)), (1, .c (.ref (.arg 1) [] o1 l1.length)), (5, .c (.sc (.int .i64 x0_0)))], [(.arg 0, ⟨.fz, 5, cs0⟩), (.arg 1, ⟨.fz, 5, cs1⟩)], [], []⟩ := by
  refine laws_eqSubOutS.l0.partial_correctness l0 l1 (motive := fun x0_0 y => ∀ (K : AE → St → Prop), (∀ x, y = .a x → K (.exit 0) ⟨[], [(.arg 0, ⟨.fz, 5, cs0⟩), (.arg 1, ⟨.fz, 5, cs1⟩)], [], []⟩) → (∀ x, y = .b x → K .ret ⟨[(4, .c (.sc (.bool x)))], [(.arg 0, ⟨.fz, 5, cs0⟩), (.arg 1, ⟨.fz, 5, cs1⟩)], [], []⟩) → loopS Try.prog 27 (.ga c38_l0) K ⟨[(0, .c (.ref (.arg 0) [] o0 l0.length)), (1, .c (.ref (.arg 1) [] o1 l1.length)), (5, .c (.sc (.int .i64 x0_0)))], [(.arg 0, ⟨.fz, 5, cs0⟩), (.arg 1, ⟨.fz, 5, cs1⟩)], [], []⟩) ?_ x0_0 y h K hx0 hx1
  clear h hx0 hx1
  intro rec ih x0_0 y h K hx0 hx1
  refine loop_unroll (ga_k fun G0 G0n G0r G0x => ?_)
  unfold c38_l0
  refine seq_k fun J9 hJ9 => ?_
  refine seq_k fun J10 hJ10 => ?_
  refine reg_k ?_
  simp only [Nat.reduceEqDiff, Nat.reduceAdd, Nat.reduceMul, Nat.reduceLeDiff, Nat.reduceLT, Int.reduceLE, Int.reduceLT, Int.reduceGT, Int.reduceGE, Int.reduceEq, Int.reduceNe, Int.reduceToNat, reduceCtorEq, ak]
  refine hJ10 _ ?_
  refine cond_k (b := decide (x0_0 < (l0.length : Int))) rfl (fun c11 => ?_) (fun c11 => ?_)
  · replace c11 := of_decide_eq_true c11; rw [if_pos c11] at h
    refine hJ9 _ ?_
    refine seq_k fun J12 hJ12 => ?_
    refine block_k fun B13 B13n B13x B13r B13j => ?_
    refine seq_k fun J14 hJ14 => ?_
    refine regD_k ?_
    obtain ⟨b15, h⟩ := of_guard h
    have g16 : (List.drop (o0 + x0_0.toNat * 5) (cs0)).take 5 = [.sc (.int .i64 ((rd z66 l0 x0_0).f0)), .own 3 (((rd z66 l0 x0_0).f1).length) (encL c68 ((rd z66 l0 x0_0).f1)), .own 1 (((rd z66 l0 x0_0).f2).length) (encL c_i64 ((rd z66 l0 x0_0).f2)), .sc (.int .i64 ((rd z66 l0 x0_0).f3)), .sc (.int .i64 ((rd z66 l0 x0_0).f4))] := hv0.stretch z66 b15.1 b15.2
    obtain ⟨b17, h⟩ := of_guard h
    have g18 : (List.drop (o1 + x0_0.toNat * 5) (cs1)).take 5 = [.sc (.int .i64 ((rd z66 l1 x0_0).f0)), .own 3 (((rd z66 l1 x0_0).f1).length) (encL c68 ((rd z66 l1 x0_0).f1)), .own 1 (((rd z66 l1 x0_0).f2).length) (encL c_i64 ((rd z66 l1 x0_0).f2)), .sc (.int .i64 ((rd z66 l1 x0_0).f3)), .sc (.int .i64 ((rd z66 l1 x0_0).f4))] := hv1.stretch z66 b17.1 b17.2
    simp only [Nat.reduceEqDiff, Nat.reduceAdd, Nat.reduceMul, Nat.reduceLeDiff, Nat.reduceLT, Int.reduceLE, Int.reduceLT, Int.reduceGT, Int.reduceGE, Int.reduceEq, Int.reduceNe, Int.reduceToNat, reduceCtorEq, ak, b15, g16, b17, g18]
    obtain ⟨t23, h24, h⟩ := of_bind h
    refine alt_k ?_ trivial
    · simp only [Nat.reduceEqDiff, Nat.reduceAdd, Nat.reduceMul, Nat.reduceLeDiff, Nat.reduceLT, Int.reduceLE, Int.reduceLT, Int.reduceGT, Int.reduceGE, Int.reduceEq, Int.reduceNe, Int.reduceToNat, reduceCtorEq, ak]
      have g26 : (cs0)[o0 + x0_0.toNat * 5 + 1]? = some (.own 3 (((rd z66 l0 x0_0).f1).length) (encL c68 ((rd z66 l0 x0_0).f1))) := hv0.get z66 1 b15.1 b15.2 (by decide)
      have g27 : (cs0)[o0 + x0_0.toNat * 5 + 1 + 1]? = some (.own 1 (((rd z66 l0 x0_0).f2).length) (encL c_i64 ((rd z66 l0 x0_0).f2))) := hv0.get z66 2 b15.1 b15.2 (by decide)
      have g28 : (cs1)[o1 + x0_0.toNat * 5 + 1]? = some (.own 3 (((rd z66 l1 x0_0).f1).length) (encL c68 ((rd z66 l1 x0_0).f1))) := hv1.get z66 1 b17.1 b17.2 (by decide)
      have g29 : (cs1)[o1 + x0_0.toNat * 5 + 1 + 1]? = some (.own 1 (((rd z66 l1 x0_0).f2).length) (encL c_i64 ((rd z66 l1 x0_0).f2))) := hv1.get z66 2 b17.1 b17.2 (by decide)
      refine call_m [(.arg 0, ⟨(.arg 0), [o0 + x0_0.toNat * 5 + 1], none, .fz⟩), (.arg 1, ⟨(.arg 0), [o0 + x0_0.toNat * 5 + 1 + 1], none, .fz⟩), (.arg 2, ⟨(.arg 1), [o1 + x0_0.toNat * 5 + 1], none, .fz⟩), (.arg 3, ⟨(.arg 1), [o1 + x0_0.toNat * 5 + 1 + 1], none, .fz⟩)] (s0 := [(.arg 0, ⟨.fz, 3, encL c68 ((rd z66 l0 x0_0).f1)⟩), (.arg 1, ⟨.fz, 1, encL c_i64 ((rd z66 l0 x0_0).f2)⟩), (.arg 2, ⟨.fz, 3, encL c68 ((rd z66 l1 x0_0).f1)⟩), (.arg 3, ⟨.fz, 1, encL c_i64 ((rd z66 l1 x0_0).f2)⟩)]) (by intro t ht; cases ht; decide) (by simp [indep, dj, strip, Nat.left_eq_add, Nat.add_eq_left]) rfl (by first | rfl | simp only [reduceCtorEq, Nat.reduceEqDiff, ak, akF, b15, b17, g16, g18, g26, g27, g28, g29, Nat.left_eq_add, Nat.add_eq_left, Option.bind_none]) (laws_eqSubOut.tri (encL c68 ((rd z66 l0 x0_0).f1)) 0 ((rd z66 l0 x0_0).f1) (Vw.whole c68_w ((rd z66 l0 x0_0).f1)) (encL c_i64 ((rd z66 l0 x0_0).f2)) 0 ((rd z66 l0 x0_0).f2) (Vw.whole c_i64_w ((rd z66 l0 x0_0).f2)) (encL c68 ((rd z66 l1 x0_0).f1)) 0 ((rd z66 l1 x0_0).f1) (Vw.whole c68_w ((rd z66 l1 x0_0).f1)) (encL c_i64 ((rd z66 l1 x0_0).f2)) 0 ((rd z66 l1 x0_0).f2) (Vw.whole c_i64_w ((rd z66 l1 x0_0).f2)) ((rd z66 l0 x0_0).f0) ((rd z66 l0 x0_0).f3) ((rd z66 l0 x0_0).f4) ((rd z66 l1 x0_0).f0) ((rd z66 l1 x0_0).f3) ((rd z66 l1 x0_0).f4) _ h24) (by first | rfl | simp only [reduceCtorEq, Nat.reduceEqDiff, ak, akF, Nat.left_eq_add, Nat.add_eq_left, Option.bind_none]) (by simp [bkOk2, memK]) (fun hl29 => ?_)
      refine call_st (s4 := [(.arg 0, ⟨.fz, 5, cs0⟩), (.arg 1, ⟨.fz, 5, cs1⟩)]) (m1' := []) (m2' := []) (v' := .c (.sc (.bool t23))) (Sto.mapN_killNil _ _) (mrgL_fz (mrgL_fz (mrgL_fz (mrgL_fz (mrgL_nil' _ _ _) rfl (by first | rfl | simp only [reduceCtorEq, Nat.reduceEqDiff, ak, b15, b17, g16, g18, g26, g27, g28, g29]) rfl (by intro R hR hh; cases hh.1)) rfl (by first | rfl | simp only [reduceCtorEq, Nat.reduceEqDiff, ak, b15, b17, g16, g18, g26, g27, g28, g29]) rfl (by intro R hR hh; cases hh.1)) rfl (by first | rfl | simp only [reduceCtorEq, Nat.reduceEqDiff, ak, b15, b17, g16, g18, g26, g27, g28, g29]) rfl (by intro R hR hh; cases hh.1)) rfl (by first | rfl | simp only [reduceCtorEq, Nat.reduceEqDiff, ak, b15, b17, g16, g18, g26, g27, g28, g29]) rfl (by intro R hR hh; cases hh.1)) (by rfl) (mapT_killNil _ _) (by rfl) (by rfl) (by first | rfl | simp only [reduceCtorEq, Nat.reduceEqDiff, ak, akF, Nat.zero_add, List.append_nil, b15, b17]) ?_
      simp only [Nat.reduceEqDiff, Nat.reduceAdd, Nat.reduceMul, Nat.reduceLeDiff, Nat.reduceLT, Int.reduceLE, Int.reduceLT, Int.reduceGT, Int.reduceGE, Int.reduceEq, Int.reduceNe, Int.reduceToNat, reduceCtorEq, ak, b15, g26, g27, b17, g28, g29]
      refine hJ14 _ ?_
      refine cond_k (b := !t23) rfl (fun c31 => ?_) (fun c31 => ?_)
      · rw [if_pos c31] at h
        refine seq_k fun J32 hJ32 => ?_
        refine reg_k ?_
        simp only [Nat.reduceEqDiff, Nat.reduceAdd, Nat.reduceMul, Nat.reduceLeDiff, Nat.reduceLT, Int.reduceLE, Int.reduceLT, Int.reduceGT, Int.reduceGE, Int.reduceEq, Int.reduceNe, Int.reduceToNat, reduceCtorEq, ak]
        refine hJ32 _ ?_
        obtain rfl := Option.some.inj h
        refine gh_k (st' := ⟨[(4, .c (.sc (.bool false)))], [(.arg 0, ⟨.fz, 5, cs0⟩), (.arg 1, ⟨.fz, 5, cs1⟩)], [], []⟩) (((Weak.keep [4]).trans ((Weak.foc [(.arg 0, ⟨(.arg 0), [], none, .fz⟩), (.arg 1, ⟨(.arg 1), [], none, .fz⟩)] rfl (by first | rfl | simp only [reduceCtorEq, Nat.reduceEqDiff, ak, akF, b15, b17]) (by simp [argK, akG, ak])).trans (Weak.of_eq (by first | rfl | (simp only [reduceCtorEq, Nat.reduceEqDiff, ak, akF, b15, b17]; done) | (simp [reduceCtorEq, Nat.reduceEqDiff, ak, akF, b15, b17]; done)))))) ?_
        refine B13r _ ?_
        refine G0r _ ?_
        exact hx1 _ rfl
      · rw [if_neg (Bool.eq_false_iff.1 c31)] at h
        refine B13n _ ?_
        refine hJ12 _ ?_
        refine reg_k ?_
        simp only [Nat.reduceEqDiff, Nat.reduceAdd, Nat.reduceMul, Nat.reduceLeDiff, Nat.reduceLT, Int.reduceLE, Int.reduceLT, Int.reduceGT, Int.reduceGE, Int.reduceEq, Int.reduceNe, Int.reduceToNat, reduceCtorEq, ak]
        refine G0n _ (⟨[(0, .c (.ref (.arg 0) [] o0 l0.length)), (1, .c (.ref (.arg 1) [] o1 l1.length)), (5, .c (.sc (.int .i64 (IntKind.i64.wrap (x0_0 + 1)))))], [(.arg 0, ⟨.fz, 5, cs0⟩), (.arg 1, ⟨.fz, 5, cs1⟩)], [], []⟩) (((Weak.keep [0, 1, 5]).trans ((Weak.foc [(.arg 0, ⟨(.arg 0), [], none, .fz⟩), (.arg 1, ⟨(.arg 1), [], none, .fz⟩)] rfl (by first | rfl | simp only [reduceCtorEq, Nat.reduceEqDiff, ak, akF, b15, b17]) (by simp [argK, akG, ak])).trans (Weak.of_eq (by first | rfl | (simp only [reduceCtorEq, Nat.reduceEqDiff, ak, akF, b15, b17]; done) | (simp [reduceCtorEq, Nat.reduceEqDiff, ak, akF, b15, b17]; done)))))) (ih _ _ h K hx0 hx1)
  · replace c11 := of_decide_eq_false c11; rw [if_neg c11] at h
    obtain rfl := Option.some.inj h
    refine gh_k (st' := ⟨[], [(.arg 0, ⟨.fz, 5, cs0⟩), (.arg 1, ⟨.fz, 5, cs1⟩)], [], []⟩) (((Weak.keep []).trans ((Weak.foc [(.arg 0, ⟨(.arg 0), [], none, .fz⟩), (.arg 1, ⟨(.arg 1), [], none, .fz⟩)] rfl (by first | rfl | simp only [reduceCtorEq, Nat.reduceEqDiff, ak, akF]) (by simp [argK, akG, ak])).trans (Weak.of_eq (by first | rfl | (simp only [reduceCtorEq, Nat.reduceEqDiff, ak, akF]; done) | (simp [reduceCtorEq, Nat.reduceEqDiff, ak, akF]; done)))))) ?_
    refine G0x _ _ ?_
    exact hx0 _ rfl
set_option maxRecDepth 100000 in
set_option maxHeartbeats 4000000 in
theorem laws_eqSubOutS.tri (cs0 : List Cell) (o0 : Nat) (l0 : List S66) (hv0 : Vw c66 5 cs0 o0 l0) (cs1 : List Cell) (o1 : Nat) (l1 : List S66) (hv1 : Vw c66 5 cs1 o1 l1) (r : Bool) (h : laws_eqSubOutS.f l0 l1 = some r) : Tri Try.prog 38 [.c (.ref (.arg 0) [] o0 l0.length), .c (.ref (.arg 1) [] o1 l1.length)] [(.arg 0, ⟨.fz, 5, cs0⟩), (.arg 1, ⟨.fz, 5, cs1⟩)] (fun o => o = ⟨.c (.sc (.bool r)), [(.arg 0, ⟨.fz, 5, cs0⟩), (.arg 1, ⟨.fz, 5, cs1⟩)], [], []⟩) := by
  refine tri_of_body (ac := c38) (xs := r38) Try.func38 (show Try.f38.body = some (Try.f38.body.getD .skip) from rfl) k38 q38 (Nat.le_of_ble_eq_true rfl) ?_
  refine body_of fun K hKn hKr => ?_
  unfold laws_eqSubOutS.f at h
  unfold c38
  simp only [initT, Nat.reduceAdd]
  refine seq_k fun J1 hJ1 => ?_
  refine reg_k ?_
  simp only [Nat.reduceEqDiff, Nat.reduceAdd, Nat.reduceMul, Nat.reduceLeDiff, Nat.reduceLT, Int.reduceLE, Int.reduceLT, Int.reduceGT, Int.reduceGE, Int.reduceEq, Int.reduceNe, Int.reduceToNat, reduceCtorEq, ak]
  refine hJ1 _ ?_
  refine seq_k fun J2 hJ2 => ?_
  refine seq_k fun J3 hJ3 => ?_
  refine reg_k ?_
  simp only [Nat.reduceEqDiff, Nat.reduceAdd, Nat.reduceMul, Nat.reduceLeDiff, Nat.reduceLT, Int.reduceLE, Int.reduceLT, Int.reduceGT, Int.reduceGE, Int.reduceEq, Int.reduceNe, Int.reduceToNat, reduceCtorEq, ak]
  refine hJ3 _ ?_
  refine cond_k (b := decide ((l0.length : Int) ≠ (l1.length : Int))) rfl (fun c4 => ?_) (fun c4 => ?_)
  · replace c4 := of_decide_eq_true c4; rw [if_pos c4] at h
    refine seq_k fun J5 hJ5 => ?_
    refine reg_k ?_
    simp only [Nat.reduceEqDiff, Nat.reduceAdd, Nat.reduceMul, Nat.reduceLeDiff, Nat.reduceLT, Int.reduceLE, Int.reduceLT, Int.reduceGT, Int.reduceGE, Int.reduceEq, Int.reduceNe, Int.reduceToNat, reduceCtorEq, ak]
    refine hJ5 _ ?_
    obtain rfl := Option.some.inj h
    refine hKr _ ⟨_, rfl, [], _, rfl, rfl, ?_⟩
    first | rfl | (simp only [reduceCtorEq, Nat.reduceEqDiff, ak, akF]; done) | (simp [reduceCtorEq, Nat.reduceEqDiff, ak, akF]; done)
  · replace c4 := of_decide_eq_false c4; rw [if_neg c4] at h
    refine hJ2 _ ?_
    refine seq_k fun J6 hJ6 => ?_
    refine seq_k fun J7 hJ7 => ?_
    refine reg_k ?_
    simp only [Nat.reduceEqDiff, Nat.reduceAdd, Nat.reduceMul, Nat.reduceLeDiff, Nat.reduceLT, Int.reduceLE, Int.reduceLT, Int.reduceGT, Int.reduceGE, Int.reduceEq, Int.reduceNe, Int.reduceToNat, reduceCtorEq, ak]
    refine hJ7 _ ?_
    refine block_k fun B8 B8n B8x B8r B8j => ?_
    obtain ⟨y33, h34, h⟩ := of_bind h
    refine gh_k (st' := ⟨[(0, .c (.ref (.arg 0) [] o0 l0.length)), (1, .c (.ref (.arg 1) [] o1 l1.length)), (5, .c (.sc (.int .i64 0)))], [(.arg 0, ⟨.fz, 5, cs0⟩), (.arg 1, ⟨.fz, 5, cs1⟩)], [], []⟩) (((Weak.keep [0, 1, 5]).trans ((Weak.foc [(.arg 0, ⟨(.arg 0), [], none, .fz⟩), (.arg 1, ⟨(.arg 1), [], none, .fz⟩)] rfl (by first | rfl | simp only [reduceCtorEq, Nat.reduceEqDiff, ak, akF]) (by simp [argK, akG, ak])).trans (Weak.of_eq (by first | rfl | (simp only [reduceCtorEq, Nat.reduceEqDiff, ak, akF]; done) | (simp [reduceCtorEq, Nat.reduceEqDiff, ak, akF]; done)))))) ?_
    rw [e_loop]
    refine laws_eqSubOutS.l0_walk cs0 o0 l0 hv0 cs1 o1 l1 hv1 0 _ h34 _ ?_ ?_
    · rintro x35 rfl
      dsimp only at h
      refine B8x _ ?_
      refine hJ6 _ ?_
      refine seq_k fun J36 hJ36 => ?_
      refine reg_k ?_
      simp only [Nat.reduceEqDiff, Nat.reduceAdd, Nat.reduceMul, Nat.reduceLeDiff, Nat.reduceLT, Int.reduceLE, Int.reduceLT, Int.reduceGT, Int.reduceGE, Int.reduceEq, Int.reduceNe, Int.reduceToNat, reduceCtorEq, ak]
      refine hJ36 _ ?_
      obtain rfl := Option.some.inj h
      refine hKr _ ⟨_, rfl, [], _, rfl, rfl, ?_⟩
      first | rfl | (simp only [reduceCtorEq, Nat.reduceEqDiff, ak, akF]; done) | (simp [reduceCtorEq, Nat.reduceEqDiff, ak, akF]; done)
    · rintro x35 rfl
      dsimp only at h
      refine B8r _ ?_
      obtain rfl := Option.some.inj h
      refine hKr _ ⟨_, rfl, [], _, rfl, rfl, ?_⟩
      first | rfl | (simp only [reduceCtorEq, Nat.reduceEqDiff, ak, akF]; done) | (simp [reduceCtorEq, Nat.reduceEqDiff, ak, akF]; done)
/-! ### laws.eqSubEvent: function 92 -/
def c92 : AC := .seq (.reg [.op none (.box 2 (.tmp 0)), .op none (.box 3 (.tmp 1)), .op none (.mv 4 (.const (.bool false))), .keep [2, 3]]) (.seq (.seq (.reg [.op none (.faddr 5 0 (.tmp 2)), .op none (.load 6 false 1 (.tmp 5)), .op none (.faddr 7 0 (.tmp 3)), .op none (.load 8 false 1 (.tmp 7)), .op none (.bin 9 .neq (.tmp 6) (.tmp 8)), .keep [2, 3, 9]]) (.cond (.tmp 9) (.seq (.reg [.op none (.mv 4 (.const (.bool false))), .keep [4]]) (.ret)) (.skip))) (.seq (.seq (.reg [.op none (.faddr 10 1 (.tmp 2)), .op none (.load 11 false 1 (.tmp 10)), .op none (.faddr 12 1 (.tmp 3)), .op none (.load 13 false 1 (.tmp 12)), .op none (.bin 14 .neq (.tmp 11) (.tmp 13)), .keep [2, 3, 14]]) (.cond (.tmp 14) (.seq (.reg [.op none (.mv 4 (.const (.bool false))), .keep [4]]) (.ret)) (.skip))) (.seq (.seq (.reg [.op none (.faddr 15 2 (.tmp 2)), .op none (.load 16 false 1 (.tmp 15)), .op none (.faddr 17 2 (.tmp 3)), .op none (.load 18 false 1 (.tmp 17)), .op none (.bin 19 .neq (.tmp 16) (.tmp 18)), .keep [19]]) (.cond (.tmp 19) (.seq (.reg [.op none (.mv 4 (.const (.bool false))), .keep [4]]) (.ret)) (.skip))) (.seq (.reg [.op none (.mv 4 (.const (.bool true))), .keep [4]]) (.ret)))))
def r92 : List RV := [.tmp 4]
theorem k92 : compC Try.prog 20 c92 (Try.f92.body.getD .skip) = some c92.erase := by kernel_rfl
theorem q92 : rvsOf Try.prog Try.f92.results.toList = some r92 := by kernel_rfl
def laws_eqSubEvent.f (a0_0 : Int) (a0_1 : Int) (a0_2 : Int) (a1_0 : Int) (a1_1 : Int) (a1_2 : Int) : Option Bool := (if a0_0 ≠ a1_0 then (some false) else (if a0_1 ≠ a1_1 then (some false) else (if a0_2 ≠ a1_2 then (some false) else (some true))))
set_option maxRecDepth 100000 in
set_option maxHeartbeats 4000000 in
theorem laws_eqSubEvent.tri (a0_0 : Int) (a0_1 : Int) (a0_2 : Int) (a1_0 : Int) (a1_1 : Int) (a1_2 : Int) (r : Bool) (h : laws_eqSubEvent.f a0_0 a0_1 a0_2 a1_0 a1_1 a1_2 = some r) : Tri Try.prog 92 [.g [.sc (.int .i64 a0_0), .sc (.int .i64 a0_1), .sc (.int .u32 a0_2)], .g [.sc (.int .i64 a1_0), .sc (.int .i64 a1_1), .sc (.int .u32 a1_2)]] [] (fun o => o = ⟨.c (.sc (.bool r)), [], [], []⟩) := by
  refine tri_of_body (ac := c92) (xs := r92) Try.func92 (show Try.f92.body = some (Try.f92.body.getD .skip) from rfl) k92 q92 (Nat.le_of_ble_eq_true rfl) ?_
  refine body_of fun K hKn hKr => ?_
  unfold laws_eqSubEvent.f at h
  unfold c92
  simp only [initT, Nat.reduceAdd]
  refine seq_k fun J1 hJ1 => ?_
  refine reg_k ?_
  simp only [Nat.reduceEqDiff, Nat.reduceAdd, Nat.reduceMul, Nat.reduceLeDiff, Nat.reduceLT, Int.reduceLE, Int.reduceLT, Int.reduceGT, Int.reduceGE, Int.reduceEq, Int.reduceNe, Int.reduceToNat, reduceCtorEq, ak]
  refine hJ1 _ ?_
  refine seq_k fun J2 hJ2 => ?_
  refine seq_k fun J3 hJ3 => ?_
  refine reg_k ?_
  simp only [Nat.reduceEqDiff, Nat.reduceAdd, Nat.reduceMul, Nat.reduceLeDiff, Nat.reduceLT, Int.reduceLE, Int.reduceLT, Int.reduceGT, Int.reduceGE, Int.reduceEq, Int.reduceNe, Int.reduceToNat, reduceCtorEq, ak]
  refine hJ3 _ ?_
  refine cond_k (b := decide (a0_0 ≠ a1_0)) rfl (fun c4 => ?_) (fun c4 => ?_)
  · replace c4 := of_decide_eq_true c4; rw [if_pos c4] at h
    refine seq_k fun J5 hJ5 => ?_
    refine reg_k ?_
    simp only [Nat.reduceEqDiff, Nat.reduceAdd, Nat.reduceMul, Nat.reduceLeDiff, Nat.reduceLT, Int.reduceLE, Int.reduceLT, Int.reduceGT, Int.reduceGE, Int.reduceEq, Int.reduceNe, Int.reduceToNat, reduceCtorEq, ak]
    refine hJ5 _ ?_
    obtain rfl := Option.some.inj h
    refine hKr _ ⟨_, rfl, [], _, rfl, rfl, ?_⟩
    first | rfl | (simp only [reduceCtorEq, Nat.reduceEqDiff, ak, akF]; done) | (simp [reduceCtorEq, Nat.reduceEqDiff, ak, akF]; done)
  · replace c4 := of_decide_eq_false c4; rw [if_neg c4] at h
    refine hJ2 _ ?_
    refine seq_k fun J6 hJ6 => ?_
    refine seq_k fun J7 hJ7 => ?_
    refine reg_k ?_
    simp only [Nat.reduceEqDiff, Nat.reduceAdd, Nat.reduceMul, Nat.reduceLeDiff, Nat.reduceLT, Int.reduceLE, Int.reduceLT, Int.reduceGT, Int.reduceGE, Int.reduceEq, Int.reduceNe, Int.reduceToNat, reduceCtorEq, ak]
    refine hJ7 _ ?_
    refine cond_k (b := decide (a0_1 ≠ a1_1)) rfl (fun c8 => ?_) (fun c8 => ?_)
    · replace c8 := of_decide_eq_true c8; rw [if_pos c8] at h
      refine seq_k fun J9 hJ9 => ?_
      refine reg_k ?_
      simp only [Nat.reduceEqDiff, Nat.reduceAdd, Nat.reduceMul, Nat.reduceLeDiff, Nat.reduceLT, Int.reduceLE, Int.reduceLT, Int.reduceGT, Int.reduceGE, Int.reduceEq, Int.reduceNe, Int.reduceToNat, reduceCtorEq, ak]
      refine hJ9 _ ?_
      obtain rfl := Option.some.inj h
      refine hKr _ ⟨_, rfl, [], _, rfl, rfl, ?_⟩
      first | rfl | (simp only [reduceCtorEq, Nat.reduceEqDiff, ak, akF]; done) | (simp [reduceCtorEq, Nat.reduceEqDiff, ak, akF]; done)
    · replace c8 := of_decide_eq_false c8; rw [if_neg c8] at h
      refine hJ6 _ ?_
      refine seq_k fun J10 hJ10 => ?_
      refine seq_k fun J11 hJ11 => ?_
      refine reg_k ?_
      simp only [Nat.reduceEqDiff, Nat.reduceAdd, Nat.reduceMul, Nat.reduceLeDiff, Nat.reduceLT, Int.reduceLE, Int.reduceLT, Int.reduceGT, Int.reduceGE, Int.reduceEq, Int.reduceNe, Int.reduceToNat, reduceCtorEq, ak]
      refine hJ11 _ ?_
      refine cond_k (b := decide (a0_2 ≠ a1_2)) rfl (fun c12 => ?_) (fun c12 => ?_)
      · replace c12 := of_decide_eq_true c12; rw [if_pos c12] at h
        refine seq_k fun J13 hJ13 => ?_
        refine reg_k ?_
        simp only [Nat.reduceEqDiff, Nat.reduceAdd, Nat.reduceMul, Nat.reduceLeDiff, Nat.reduceLT, Int.reduceLE, Int.reduceLT, Int.reduceGT, Int.reduceGE, Int.reduceEq, Int.reduceNe, Int.reduceToNat, reduceCtorEq, ak]
        refine hJ13 _ ?_
        obtain rfl := Option.some.inj h
        refine hKr _ ⟨_, rfl, [], _, rfl, rfl, ?_⟩
        first | rfl | (simp only [reduceCtorEq, Nat.reduceEqDiff, ak, akF]; done) | (simp [reduceCtorEq, Nat.reduceEqDiff, ak, akF]; done)
      · replace c12 := of_decide_eq_false c12; rw [if_neg c12] at h
        refine hJ10 _ ?_
        refine seq_k fun J14 hJ14 => ?_
        refine reg_k ?_
        simp only [Nat.reduceEqDiff, Nat.reduceAdd, Nat.reduceMul, Nat.reduceLeDiff, Nat.reduceLT, Int.reduceLE, Int.reduceLT, Int.reduceGT, Int.reduceGE, Int.reduceEq, Int.reduceNe, Int.reduceToNat, reduceCtorEq, ak]
        refine hJ14 _ ?_
        obtain rfl := Option.some.inj h
        refine hKr _ ⟨_, rfl, [], _, rfl, rfl, ?_⟩
        first | rfl | (simp only [reduceCtorEq, Nat.reduceEqDiff, ak, akF]; done) | (simp [reduceCtorEq, Nat.reduceEqDiff, ak, akF]; done)
/-! ### laws.eqSubEventS: function 39 -/
def c39_l0 : AC := .seq (.seq (.reg [.op none (.mv 11 (.tmp 5)), .op none (.mv 12 (.tmp 0)), .op none (.len 13 (.tmp 12)), .op none (.bin 14 .lss (.tmp 11) (.tmp 13)), .keep [0, 1, 5, 14]]) (.cond (.tmp 14) (.skip) (.gh (.exit 0)))) (.seq (.block 1 (.seq (.regD (.first (.op none (.mv 17 (.tmp 0))) (.first (.op none (.mv 18 (.tmp 5))) (.first (.op none (.iaddr 19 3 (.tmp 17) (.tmp 18))) (.first (.op none (.load 20 true 3 (.tmp 19))) (.first (.op none (.mv 21 (.tmp 1))) (.first (.op none (.mv 22 (.tmp 5))) (.first (.op none (.iaddr 23 3 (.tmp 21) (.tmp 22))) (.first (.op none (.load 24 true 3 (.tmp 23))) (.alt (.call none (some 25) 92 [.tmp 20, .tmp 24]) none (.first (.op none (.un 26 .not (.tmp 25))) (.done)) (.stop)))))))))) [0, 1, 5, 26]) (.cond (.tmp 26) (.seq (.reg [.op none (.mv 4 (.const (.bool false))), .keep [4]]) (.gh .ret)) (.skip)))) (.reg [.op none (.mv 15 (.tmp 5)), .op none (.bin 16 .add (.tmp 15) (.const (.int .i64 1))), .op none (.mv 5 (.tmp 16)), .keep [0, 1, 5]]))
def c39 : AC := .seq (.reg [.op none (.mv 4 (.const (.bool false))), .keep [0, 1]]) (.seq (.seq (.reg [.op none (.mv 6 (.tmp 0)), .op none (.len 7 (.tmp 6)), .op none (.mv 8 (.tmp 1)), .op none (.len 9 (.tmp 8)), .op none (.bin 10 .neq (.tmp 7) (.tmp 9)), .keep [0, 1, 10]]) (.cond (.tmp 10) (.seq (.reg [.op none (.mv 4 (.const (.bool false))), .keep [4]]) (.ret)) (.skip))) (.seq (.seq (.reg [.op none (.mv 5 (.const (.int .i64 0))), .keep [0, 1, 5]]) (.block 0 (.gh (.loop (.ga c39_l0))))) (.seq (.reg [.op none (.mv 4 (.const (.bool true))), .keep [4]]) (.ret))))
def r39 : List RV := [.tmp 4]
theorem k39 : compC Try.prog 27 c39 (Try.f39.body.getD .skip) = some c39.erase := by kernel_rfl
theorem q39 : rvsOf Try.prog Try.f39.results.toList = some r39 := by kernel_rfl
def laws_eqSubEventS.l0 (l0 : List S63) (l1 : List S63) (x0_0 : Int) : Option (Lp Unit Bool) := (if x0_0 < (l0.length : Int) then (if 0 ≤ x0_0 ∧ x0_0 < (l0.length : Int) then (if 0 ≤ x0_0 ∧ x0_0 < (l1.length : Int) then (laws_eqSubEvent.f ((rd z63 l0 x0_0).f0) ((rd z63 l0 x0_0).f1) ((rd z63 l0 x0_0).f2) ((rd z63 l1 x0_0).f0) ((rd z63 l1 x0_0).f1) ((rd z63 l1 x0_0).f2) >>= fun t19 => (if (!t19) = true then (some (.b false)) else (laws_eqSubEventS.l0 l0 l1 (IntKind.i64.wrap (x0_0 + 1))))) else none) else none) else (some (.a ())))
  partial_fixpoint
def laws_eqSubEventS.f (l0 : List S63) (l1 : List S63) : Option Bool := (if (l0.length : Int) ≠ (l1.length : Int) then (some false) else (laws_eqSubEventS.l0 l0 l1 0 >>= fun (y25 : Lp Unit Bool) => match y25 with | .a x27 => (some true) | .b x27 => (some x27)))
set_option maxRecDepth 100000 in
set_option maxHeartbeats 4000000 in
theorem laws_eqSubEventS.l0_walk (cs0 : List Cell) (o0 : Nat) (l0 : List S63) (hv0 : Vw c63 3 cs0 o0 l0) (cs1 : List Cell) (o1 : Nat) (l1 : List S63) (hv1 : Vw c63 3 cs1 o1 l1) (x0_0 : Int) (y : Lp Unit Bool) (h : laws_eqSubEventS.l0 l0 l1 x0_0 = some y) (K : AE → St → Prop) (hx0 : ∀ x, y = .a x → K (.exit 0) ⟨[], [(.arg 0, ⟨.fz, 3, cs0⟩), (.arg 1, ⟨.fz, 3, cs1⟩)], [], []⟩) (hx1 : ∀ x, y = .b x → K .ret ⟨[(4, .c (.sc (.bool x)))], [(.arg 0, ⟨.fz, 3, cs0⟩), (.arg 1, ⟨.fz, 3, cs1⟩)], [], []⟩) : loopS Try.prog 27 (.ga c39_l0) K ⟨[(0, .c (.ref (.arg 0) [] o0 l0.length)), (1, .c (.ref (.arg 1) [] o1 l1.length)), (5, .c (.sc (.int .i64 x0_0)))], [(.arg 0, ⟨.fz, 3, cs0⟩), (.arg 1, ⟨.fz, 3, cs1⟩)], [], []⟩ := by
  refine laws_eqSubEventS.l0.partial_correctness l0 l1 (motive := fun x0_0 y => ∀ (K : AE → St → Prop), (∀ x, y = .a x → K (.exit 0) ⟨[], [(.arg 0, ⟨.fz, 3, cs0⟩), (.arg 1, ⟨.fz, 3, cs1⟩)], [], []⟩) → (∀ x, y = .b x → K .ret ⟨[(4, .c (.sc (.bool x)))], [(.arg 0, ⟨.fz, 3, cs0⟩), (.arg 1, ⟨.fz, 3, cs1⟩)], [], []⟩) → loopS Try.prog 27 (.ga c39_l0) K ⟨[(0, .c (.ref (.arg 0) [] o0 l0.length)), (1, .c (.ref (.arg 1) [] o1 l1.length)), (5, .c (.sc (.int .i64 x0_0)))], [(.arg 0, ⟨.fz, 3, cs0⟩), (.arg 1, ⟨.fz, 3, cs1⟩)], [], []⟩) ?_ x0_0 y h K hx0 hx1
  clear h hx0 hx1
  intro rec ih x0_0 y h K hx0 hx1
  refine loop_unroll (ga_k fun G0 G0n G0r G0x => ?_)
  unfold c39_l0
  refine seq_k fun J9 hJ9 => ?_
  refine seq_k fun J10 hJ10 => ?_
  refine reg_k ?_
  simp only [Nat.reduceEqDiff, Nat.reduceAdd, Nat.reduceMul, Nat.reduceLeDiff, Nat.reduceLT, Int.reduceLE, Int.reduceLT, Int.reduceGT, Int.reduceGE, Int.reduceEq, Int.reduceNe, Int.reduceToNat, reduceCtorEq, ak]
  refine hJ10 _ ?_
  refine cond_k (b := decide (x0_0 < (l0.length : Int))) rfl (fun c11 => ?_) (fun c11 => ?_)
  · replace c11 := of_decide_eq_true c11; rw [if_pos c11] at h
    refine hJ9 _ ?_
    refine seq_k fun J12 hJ12 => ?_
    refine block_k fun B13 B13n B13x B13r B13j => ?_
    refine seq_k fun J14 hJ14 => ?_
    refine regD_k ?_
    obtain ⟨b15, h⟩ := of_guard h
    have g16 : (List.drop (o0 + x0_0.toNat * 3) (cs0)).take 3 = [.sc (.int .i64 ((rd z63 l0 x0_0).f0)), .sc (.int .i64 ((rd z63 l0 x0_0).f1)), .sc (.int .u32 ((rd z63 l0 x0_0).f2))] := hv0.stretch z63 b15.1 b15.2
    obtain ⟨b17, h⟩ := of_guard h
    have g18 : (List.drop (o1 + x0_0.toNat * 3) (cs1)).take 3 = [.sc (.int .i64 ((rd z63 l1 x0_0).f0)), .sc (.int .i64 ((rd z63 l1 x0_0).f1)), .sc (.int .u32 ((rd z63 l1 x0_0).f2))] := hv1.stretch z63 b17.1 b17.2
    simp only [Nat.reduceEqDiff, Nat.reduceAdd, Nat.reduceMul, Nat.reduceLeDiff, Nat.reduceLT, Int.reduceLE, Int.reduceLT, Int.reduceGT, Int.reduceGE, Int.reduceEq, Int.reduceNe, Int.reduceToNat, reduceCtorEq, ak, b15, g16, b17, g18]
    obtain ⟨t19, h20, h⟩ := of_bind h
    refine alt_k ?_ trivial
    · simp only [Nat.reduceEqDiff, Nat.reduceAdd, Nat.reduceMul, Nat.reduceLeDiff, Nat.reduceLT, Int.reduceLE, Int.reduceLT, Int.reduceGT, Int.reduceGE, Int.reduceEq, Int.reduceNe, Int.reduceToNat, reduceCtorEq, ak]
      refine call_m [] (s0 := []) (by intro t ht; cases ht; decide) rfl rfl (by first | rfl | simp only [reduceCtorEq, Nat.reduceEqDiff, ak, akF, b15, b17, g16, g18]) (laws_eqSubEvent.tri ((rd z63 l0 x0_0).f0) ((rd z63 l0 x0_0).f1) ((rd z63 l0 x0_0).f2) ((rd z63 l1 x0_0).f0) ((rd z63 l1 x0_0).f1) ((rd z63 l1 x0_0).f2) _ h20) (by first | rfl | simp only [reduceCtorEq, Nat.reduceEqDiff, ak, akF]) (by simp [bkOk2, memK]) (fun hl21 => ?_)
      refine call_st (s4 := [(.arg 0, ⟨.fz, 3, cs0⟩), (.arg 1, ⟨.fz, 3, cs1⟩)]) (m1' := []) (m2' := []) (v' := .c (.sc (.bool t19))) (Sto.mapN_killNil _ _) (mrgL_nil' _ _ _) (by rfl) (mapT_killNil _ _) (by rfl) (by rfl) (by first | rfl | simp only [reduceCtorEq, Nat.reduceEqDiff, ak, akF, Nat.zero_add, List.append_nil, b15, b17]) ?_
      simp only [Nat.reduceEqDiff, Nat.reduceAdd, Nat.reduceMul, Nat.reduceLeDiff, Nat.reduceLT, Int.reduceLE, Int.reduceLT, Int.reduceGT, Int.reduceGE, Int.reduceEq, Int.reduceNe, Int.reduceToNat, reduceCtorEq, ak]
      refine hJ14 _ ?_
      refine cond_k (b := !t19) rfl (fun c23 => ?_) (fun c23 => ?_)
      · rw [if_pos c23] at h
        refine seq_k fun J24 hJ24 => ?_
        refine reg_k ?_
        simp only [Nat.reduceEqDiff, Nat.reduceAdd, Nat.reduceMul, Nat.reduceLeDiff, Nat.reduceLT, Int.reduceLE, Int.reduceLT, Int.reduceGT, Int.reduceGE, Int.reduceEq, Int.reduceNe, Int.reduceToNat, reduceCtorEq, ak]
        refine hJ24 _ ?_
        obtain rfl := Option.some.inj h
        refine gh_k (st' := ⟨[(4, .c (.sc (.bool false)))], [(.arg 0, ⟨.fz, 3, cs0⟩), (.arg 1, ⟨.fz, 3, cs1⟩)], [], []⟩) (((Weak.keep [4]).trans ((Weak.foc [(.arg 0, ⟨(.arg 0), [], none, .fz⟩), (.arg 1, ⟨(.arg 1), [], none, .fz⟩)] rfl (by first | rfl | simp only [reduceCtorEq, Nat.reduceEqDiff, ak, akF, b15, b17]) (by simp [argK, akG, ak])).trans (Weak.of_eq (by first | rfl | (simp only [reduceCtorEq, Nat.reduceEqDiff, ak, akF, b15, b17]; done) | (simp [reduceCtorEq, Nat.reduceEqDiff, ak, akF, b15, b17]; done)))))) ?_
        refine B13r _ ?_
        refine G0r _ ?_
        exact hx1 _ rfl
      · rw [if_neg (Bool.eq_false_iff.1 c23)] at h
        refine B13n _ ?_
        refine hJ12 _ ?_
        refine reg_k ?_
        simp only [Nat.reduceEqDiff, Nat.reduceAdd, Nat.reduceMul, Nat.reduceLeDiff, Nat.reduceLT, Int.reduceLE, Int.reduceLT, Int.reduceGT, Int.reduceGE, Int.reduceEq, Int.reduceNe, Int.reduceToNat, reduceCtorEq, ak]
        refine G0n _ (⟨[(0, .c (.ref (.arg 0) [] o0 l0.length)), (1, .c (.ref (.arg 1) [] o1 l1.length)), (5, .c (.sc (.int .i64 (IntKind.i64.wrap (x0_0 + 1)))))], [(.arg 0, ⟨.fz, 3, cs0⟩), (.arg 1, ⟨.fz, 3, cs1⟩)], [], []⟩) (((Weak.keep [0, 1, 5]).trans ((Weak.foc [(.arg 0, ⟨(.arg 0), [], none, .fz⟩), (.arg 1, ⟨(.arg 1), [], none, .fz⟩)] rfl (by first | rfl | simp only [reduceCtorEq, Nat.reduceEqDiff, ak, akF, b15, b17]) (by simp [argK, akG, ak])).trans (Weak.of_eq (by first | rfl | (simp only [reduceCtorEq, Nat.reduceEqDiff, ak, akF, b15, b17]; done) | (simp [reduceCtorEq, Nat.reduceEqDiff, ak, akF, b15, b17]; done)))))) (ih _ _ h K hx0 hx1)
  · replace c11 := of_decide_eq_false c11; rw [if_neg c11] at h
    obtain rfl := Option.some.inj h
    refine gh_k (st' := ⟨[], [(.arg 0, ⟨.fz, 3, cs0⟩), (.arg 1, ⟨.fz, 3, cs1⟩)], [], []⟩) (((Weak.keep []).trans ((Weak.foc [(.arg 0, ⟨(.arg 0), [], none, .fz⟩), (.arg 1, ⟨(.arg 1), [], none, .fz⟩)] rfl (by first | rfl | simp only [reduceCtorEq, Nat.reduceEqDiff, ak, akF]) (by simp [argK, akG, ak])).trans (Weak.of_eq (by first | rfl | (simp only [reduceCtorEq, Nat.reduceEqDiff, ak, akF]; done) | (simp [reduceCtorEq, Nat.reduceEqDiff, ak, akF]; done)))))) ?_
    refine G0x _ _ ?_
    exact hx0 _ rfl
set_option maxRecDepth 100000 in
set_option maxHeartbeats 4000000 in
theorem laws_eqSubEventS.tri (cs0 : List Cell) (o0 : Nat) (l0 : List S63) (hv0 : Vw c63 3 cs0 o0 l0) (cs1 : List Cell) (o1 : Nat) (l1 : List S63) (hv1 : Vw c63 3 cs1 o1 l1) (r : Bool) (h : laws_eqSubEventS.f l0 l1 = some r) : Tri Try.prog 39 [.c (.ref (.arg 0) [] o0 l0.length), .c (.ref (.arg 1) [] o1 l1.length)] [(.arg 0, ⟨.fz, 3, cs0⟩), (.arg 1, ⟨.fz, 3, cs1⟩)] (fun o => o = ⟨.c (.sc (.bool r)), [(.arg 0, ⟨.fz, 3, cs0⟩), (.arg 1, ⟨.fz, 3, cs1⟩)], [], []⟩) := by
  refine tri_of_body (ac := c39) (xs := r39) Try.func39 (show Try.f39.body = some (Try.f39.body.getD .skip) from rfl) k39 q39 (Nat.le_of_ble_eq_true rfl) ?_
  refine body_of fun K hKn hKr => ?_
  unfold laws_eqSubEventS.f at h
  unfold c39
  simp only [initT, Nat.reduceAdd]
  refine seq_k fun J1 hJ1 => ?_
  refine reg_k ?_
  simp only [Nat.reduceEqDiff, Nat.reduceAdd, Nat.reduceMul, Nat.reduceLeDiff, Nat.reduceLT, Int.reduceLE, Int.reduceLT, Int.reduceGT, Int.reduceGE, Int.reduceEq, Int.reduceNe, Int.reduceToNat, reduceCtorEq, ak]
  refine hJ1 _ ?_
  refine seq_k fun J2 hJ2 => ?_
  refine seq_k fun J3 hJ3 => ?_
  refine reg_k ?_
  simp only [Nat.reduceEqDiff, Nat.reduceAdd, Nat.reduceMul, Nat.reduceLeDiff, Nat.reduceLT, Int.reduceLE, Int.reduceLT, Int.reduceGT, Int.reduceGE, Int.reduceEq, Int.reduceNe, Int.reduceToNat, reduceCtorEq, ak]
  refine hJ3 _ ?_
  refine cond_k (b := decide ((l0.length : Int) ≠ (l1.length : Int))) rfl (fun c4 => ?_) (fun c4 => ?_)
  · replace c4 := of_decide_eq_true c4; rw [if_pos c4] at h
    refine seq_k fun J5 hJ5 => ?_
    refine reg_k ?_
    simp only [Nat.reduceEqDiff, Nat.reduceAdd, Nat.reduceMul, Nat.reduceLeDiff, Nat.reduceLT, Int.reduceLE, Int.reduceLT, Int.reduceGT, Int.reduceGE, Int.reduceEq, Int.reduceNe, Int.reduceToNat, reduceCtorEq, ak]
    refine hJ5 _ ?_
    obtain rfl := Option.some.inj h
    refine hKr _ ⟨_, rfl, [], _, rfl, rfl, ?_⟩
    first | rfl | (simp only [reduceCtorEq, Nat.reduceEqDiff, ak, akF]; done) | (simp [reduceCtorEq, Nat.reduceEqDiff, ak, akF]; done)
  · replace c4 := of_decide_eq_false c4; rw [if_neg c4] at h
    refine hJ2 _ ?_
    refine seq_k fun J6 hJ6 => ?_
    refine seq_k fun J7 hJ7 => ?_
    refine reg_k ?_
    simp only [Nat.reduceEqDiff, Nat.reduceAdd, Nat.reduceMul, Nat.reduceLeDiff, Nat.reduceLT, Int.reduceLE, Int.reduceLT, Int.reduceGT, Int.reduceGE, Int.reduceEq, Int.reduceNe, Int.reduceToNat, reduceCtorEq, ak]
    refine hJ7 _ ?_
    refine block_k fun B8 B8n B8x B8r B8j => ?_
    obtain ⟨y25, h26, h⟩ := of_bind h
    refine gh_k (st' := ⟨[(0, .c (.ref (.arg 0) [] o0 l0.length)), (1, .c (.ref (.arg 1) [] o1 l1.length)), (5, .c (.sc (.int .i64 0)))], [(.arg 0, ⟨.fz, 3, cs0⟩), (.arg 1, ⟨.fz, 3, cs1⟩)], [], []⟩) (((Weak.keep [0, 1, 5]).trans ((Weak.foc [(.arg 0, ⟨(.arg 0), [], none, .fz⟩), (.arg 1, ⟨(.arg 1), [], none, .fz⟩)] rfl (by first | rfl | simp only [reduceCtorEq, Nat.reduceEqDiff, ak, akF]) (by simp [argK, akG, ak])).trans (Weak.of_eq (by first | rfl | (simp only [reduceCtorEq, Nat.reduceEqDiff, ak, akF]; done) | (simp [reduceCtorEq, Nat.reduceEqDiff, ak, akF]; done)))))) ?_
    rw [e_loop]
    refine laws_eqSubEventS.l0_walk cs0 o0 l0 hv0 cs1 o1 l1 hv1 0 _ h26 _ ?_ ?_
    · rintro x27 rfl
      dsimp only at h
      refine B8x _ ?_
      refine hJ6 _ ?_
      refine seq_k fun J28 hJ28 => ?_
      refine reg_k ?_
      simp only [Nat.reduceEqDiff, Nat.reduceAdd, Nat.reduceMul, Nat.reduceLeDiff, Nat.reduceLT, Int.reduceLE, Int.reduceLT, Int.reduceGT, Int.reduceGE, Int.reduceEq, Int.reduceNe, Int.reduceToNat, reduceCtorEq, ak]
      refine hJ28 _ ?_
      obtain rfl := Option.some.inj h
      refine hKr _ ⟨_, rfl, [], _, rfl, rfl, ?_⟩
      first | rfl | (simp only [reduceCtorEq, Nat.reduceEqDiff, ak, akF]; done) | (simp [reduceCtorEq, Nat.reduceEqDiff, ak, akF]; done)
    · rintro x27 rfl
      dsimp only at h
      refine B8r _ ?_
      obtain rfl := Option.some.inj h
      refine hKr _ ⟨_, rfl, [], _, rfl, rfl, ?_⟩
      first | rfl | (simp only [reduceCtorEq, Nat.reduceEqDiff, ak, akF]; done) | (simp [reduceCtorEq, Nat.reduceEqDiff, ak, akF]; done)
/-! ### laws.markSubEventS: function 40 -/
def c40_l0 : AC := .seq (.seq (.reg [.op none (.mv 6 (.tmp 5)), .op none (.mv 7 (.tmp 0)), .op none (.len 8 (.tmp 7)), .op none (.bin 9 .lss (.tmp 6) (.tmp 8)), .keep [0, 1, 5, 9]]) (.cond (.tmp 9) (.skip) (.gh (.exit 0)))) (.seq (.block 1 (.seq (.reg [.op none (.mv 12 (.tmp 0)), .op none (.mv 13 (.tmp 5)), .op none (.mv 14 (.tmp 1)), .op none (.iaddr 15 3 (.tmp 12) (.tmp 13)), .op none (.faddr 16 0 (.tmp 15)), .op none (.store 1 (.tmp 16) (.tmp 14)), .keep [0, 1, 5]]) (.seq (.reg [.op none (.mv 17 (.tmp 1)), .op none (.bin 18 .add (.tmp 17) (.const (.int .i64 1))), .op none (.mv 1 (.tmp 18)), .keep [0, 1, 5]]) (.seq (.reg [.op none (.mv 19 (.tmp 0)), .op none (.mv 20 (.tmp 5)), .op none (.mv 21 (.tmp 1)), .op none (.iaddr 22 3 (.tmp 19) (.tmp 20)), .op none (.faddr 23 1 (.tmp 22)), .op none (.store 1 (.tmp 23) (.tmp 21)), .keep [0, 1, 5]]) (.seq (.reg [.op none (.mv 24 (.tmp 1)), .op none (.bin 25 .add (.tmp 24) (.const (.int .i64 1))), .op none (.mv 1 (.tmp 25)), .keep [0, 1, 5]]) (.seq (.reg [.op none (.mv 26 (.tmp 0)), .op none (.mv 27 (.tmp 5)), .op none (.mv 28 (.tmp 1)), .op none (.conv 29 .u32 (.tmp 28)), .op none (.iaddr 30 3 (.tmp 26) (.tmp 27)), .op none (.faddr 31 2 (.tmp 30)), .op none (.store 1 (.tmp 31) (.tmp 29)), .keep [0, 1, 5]]) (.reg [.op none (.mv 32 (.tmp 1)), .op none (.bin 33 .add (.tmp 32) (.const (.int .i64 1))), .op none (.mv 1 (.tmp 33)), .keep [0, 1, 5]]))))))) (.reg [.op none (.mv 10 (.tmp 5)), .op none (.bin 11 .add (.tmp 10) (.const (.int .i64 1))), .op none (.mv 5 (.tmp 11)), .keep [0, 1, 5]]))
def c40 : AC := .seq (.reg [.op none (.mv 4 (.const (.int .i64 0))), .keep [0, 1]]) (.seq (.seq (.reg [.op none (.mv 5 (.const (.int .i64 0))), .keep [0, 1, 5]]) (.block 0 (.gh (.loop (.ga c40_l0))))) (.seq (.reg [.op none (.mv 34 (.tmp 1)), .op none (.mv 4 (.tmp 34)), .keep [4]]) (.ret)))
def r40 : List RV := [.tmp 4]
theorem k40 : compC Try.prog 35 c40 (Try.f40.body.getD .skip) = some c40.erase := by kernel_rfl
theorem q40 : rvsOf Try.prog Try.f40.results.toList = some r40 := by kernel_rfl
def laws_markSubEventS.l0 (x0_0 : Int) (x0_1 : Int) (x0_2 : (List S63)) : Option (Int × (List S63)) := (if x0_1 < (x0_2.length : Int) then (if 0 ≤ x0_1 ∧ x0_1 < (x0_2.length : Int) then (laws_markSubEventS.l0 (IntKind.i64.wrap ((IntKind.i64.wrap ((IntKind.i64.wrap (x0_0 + 1)) + 1)) + 1)) (IntKind.i64.wrap (x0_1 + 1)) (x0_2.set x0_1.toNat (⟨x0_0, IntKind.i64.wrap (x0_0 + 1), IntKind.u32.wrap (IntKind.i64.wrap ((IntKind.i64.wrap (x0_0 + 1)) + 1))⟩ : S63))) else none) else (some (x0_0, x0_2)))
  partial_fixpoint
def laws_markSubEventS.f (l0 : List S63) (a1 : Int) : Option (Int × (List S63)) := (laws_markSubEventS.l0 a1 0 l0 >>= fun (y31 : (Int × (List S63))) => (some (y31.1, y31.2)))
set_option maxRecDepth 100000 in
set_option maxHeartbeats 4000000 in
theorem laws_markSubEventS.l0_walk (x0_0 : Int) (x0_1 : Int) (x0_2 : (List S63)) (y : (Int × (List S63))) (h : laws_markSubEventS.l0  x0_0 x0_1 x0_2 = some y) (K : AE → St → Prop) (hx0 : K (.exit 0) ⟨[(1, .c (.sc (.int .i64 y.1)))], [(.arg 0, ⟨.lst, 3, encL c63 y.2⟩)], [], []⟩) : loopS Try.prog 35 (.ga c40_l0) K ⟨[(0, .c (.ref (.arg 0) [] 0 x0_2.length)), (1, .c (.sc (.int .i64 x0_0))), (5, .c (.sc (.int .i64 x0_1)))], [(.arg 0, ⟨.lst, 3, encL c63 x0_2⟩)], [], []⟩ := by
  refine laws_markSubEventS.l0.partial_correctness  (motive := fun x0_0 x0_1 x0_2 y => ∀ (K : AE → St → Prop), (K (.exit 0) ⟨[(1, .c (.sc (.int .i64 y.1)))], [(.arg 0, ⟨.lst, 3, encL c63 y.2⟩)], [], []⟩) → loopS Try.prog 35 (.ga c40_l0) K ⟨[(0, .c (.ref (.arg 0) [] 0 x0_2.length)), (1, .c (.sc (.int .i64 x0_0))), (5, .c (.sc (.int .i64 x0_1)))], [(.arg 0, ⟨.lst, 3, encL c63 x0_2⟩)], [], []⟩) ?_ x0_0 x0_1 x0_2 y h K hx0
  clear h hx0
  intro rec ih x0_0 x0_1 x0_2 y h K hx0
  refine loop_unroll (ga_k fun G0 G0n G0r G0x => ?_)
  unfold c40_l0
  refine seq_k fun J5 hJ5 => ?_
  refine seq_k fun J6 hJ6 => ?_
  refine reg_k ?_
  simp only [Nat.reduceEqDiff, Nat.reduceAdd, Nat.reduceMul, Nat.reduceLeDiff, Nat.reduceLT, Int.reduceLE, Int.reduceLT, Int.reduceGT, Int.reduceGE, Int.reduceEq, Int.reduceNe, Int.reduceToNat, reduceCtorEq, ak]
  refine hJ6 _ ?_
  refine cond_k (b := decide (x0_1 < (x0_2.length : Int))) rfl (fun c7 => ?_) (fun c7 => ?_)
  · replace c7 := of_decide_eq_true c7; rw [if_pos c7] at h
    refine hJ5 _ ?_
    refine seq_k fun J8 hJ8 => ?_
    refine block_k fun B9 B9n B9x B9r B9j => ?_
    refine seq_k fun J10 hJ10 => ?_
    refine reg_k ?_
    obtain ⟨b11, h⟩ := of_guard h
    have g12 : 0 + x0_1.toNat * 3 + 0 ≤ (encL c63 x0_2).length := ((Vw.whole c63_w x0_2).len_le b11.1 b11.2 (by decide))
    have g13 : 0 + x0_1.toNat * 3 + 0 + 1 ≤ (encL c63 x0_2).length := (Vw.whole c63_w x0_2).le b11.1 b11.2 (j := 0) (q := 1) (by decide)
    have g14 : 0 + x0_1.toNat * 3 + 0 < (encL c63 x0_2).length := (Vw.whole c63_w x0_2).lt b11.1 b11.2 (j := 0) (by decide)
    have g15 : (encL c63 x0_2)[0 + x0_1.toNat * 3 + 0]? = some (.sc (.int .i64 ((rd z63 x0_2 x0_1).f0))) := (Vw.whole c63_w x0_2).get z63 0 b11.1 b11.2 (by decide)
    have g16 : (encL c63 x0_2).set (0 + x0_1.toNat * 3 + 0) (.sc (.int .i64 x0_0)) = encL c63 (x0_2.set x0_1.toNat (⟨x0_0, (rd z63 x0_2 x0_1).f1, (rd z63 x0_2 x0_1).f2⟩ : S63)) := encL_put c63_w z63 b11.1 b11.2 (j := 0) (by decide) rfl
    simp only [Nat.reduceEqDiff, Nat.reduceAdd, Nat.reduceMul, Nat.reduceLeDiff, Nat.reduceLT, Int.reduceLE, Int.reduceLT, Int.reduceGT, Int.reduceGE, Int.reduceEq, Int.reduceNe, Int.reduceToNat, reduceCtorEq, ak, b11, g12, g13, g14, g15, g16]
    refine hJ10 _ ?_
    refine seq_k fun J17 hJ17 => ?_
    refine reg_k ?_
    simp only [Nat.reduceEqDiff, Nat.reduceAdd, Nat.reduceMul, Nat.reduceLeDiff, Nat.reduceLT, Int.reduceLE, Int.reduceLT, Int.reduceGT, Int.reduceGE, Int.reduceEq, Int.reduceNe, Int.reduceToNat, reduceCtorEq, ak]
    refine hJ17 _ ?_
    refine seq_k fun J18 hJ18 => ?_
    refine reg_k ?_
    have g19 : 0 + x0_1.toNat * 3 + 1 ≤ (encL c63 (x0_2.set x0_1.toNat (⟨x0_0, (rd z63 x0_2 x0_1).f1, (rd z63 x0_2 x0_1).f2⟩ : S63))).length := ((Vw.whole c63_w (x0_2.set x0_1.toNat (⟨x0_0, (rd z63 x0_2 x0_1).f1, (rd z63 x0_2 x0_1).f2⟩ : S63))).len_le b11.1 (lt_len b11.2 (by simp)) (by decide))
    have g20 : 0 + x0_1.toNat * 3 + 1 + 1 ≤ (encL c63 (x0_2.set x0_1.toNat (⟨x0_0, (rd z63 x0_2 x0_1).f1, (rd z63 x0_2 x0_1).f2⟩ : S63))).length := (Vw.whole c63_w (x0_2.set x0_1.toNat (⟨x0_0, (rd z63 x0_2 x0_1).f1, (rd z63 x0_2 x0_1).f2⟩ : S63))).le b11.1 (lt_len b11.2 (by simp)) (j := 1) (q := 1) (by decide)
    have g21 : 0 + x0_1.toNat * 3 + 1 < (encL c63 (x0_2.set x0_1.toNat (⟨x0_0, (rd z63 x0_2 x0_1).f1, (rd z63 x0_2 x0_1).f2⟩ : S63))).length := encL_put_lt c63_w (⟨x0_0, (rd z63 x0_2 x0_1).f1, (rd z63 x0_2 x0_1).f2⟩ : S63) b11.1 b11.2 (j := 1) (by decide)
    have g22 : (encL c63 (x0_2.set x0_1.toNat (⟨x0_0, (rd z63 x0_2 x0_1).f1, (rd z63 x0_2 x0_1).f2⟩ : S63)))[0 + x0_1.toNat * 3 + 1]? = some (.sc (.int .i64 ((rd z63 x0_2 x0_1).f1))) := encL_put_get c63_w (⟨x0_0, (rd z63 x0_2 x0_1).f1, (rd z63 x0_2 x0_1).f2⟩ : S63) b11.1 b11.2 (j := 1) (by decide)
    have g23 : (encL c63 (x0_2.set x0_1.toNat (⟨x0_0, (rd z63 x0_2 x0_1).f1, (rd z63 x0_2 x0_1).f2⟩ : S63))).set (0 + x0_1.toNat * 3 + 1) (.sc (.int .i64 (IntKind.i64.wrap (x0_0 + 1)))) = encL c63 (x0_2.set x0_1.toNat (⟨x0_0, IntKind.i64.wrap (x0_0 + 1), (rd z63 x0_2 x0_1).f2⟩ : S63)) := encL_put2 c63_w b11.1 b11.2 (j := 1) (by decide) rfl
    simp only [Nat.reduceEqDiff, Nat.reduceAdd, Nat.reduceMul, Nat.reduceLeDiff, Nat.reduceLT, Int.reduceLE, Int.reduceLT, Int.reduceGT, Int.reduceGE, Int.reduceEq, Int.reduceNe, Int.reduceToNat, reduceCtorEq, ak, b11, g19, g20, g21, g22, g23]
    refine hJ18 _ ?_
    refine seq_k fun J24 hJ24 => ?_
    refine reg_k ?_
    simp only [Nat.reduceEqDiff, Nat.reduceAdd, Nat.reduceMul, Nat.reduceLeDiff, Nat.reduceLT, Int.reduceLE, Int.reduceLT, Int.reduceGT, Int.reduceGE, Int.reduceEq, Int.reduceNe, Int.reduceToNat, reduceCtorEq, ak]
    refine hJ24 _ ?_
    refine seq_k fun J25 hJ25 => ?_
    refine reg_k ?_
    have g26 : 0 + x0_1.toNat * 3 + 2 ≤ (encL c63 (x0_2.set x0_1.toNat (⟨x0_0, IntKind.i64.wrap (x0_0 + 1), (rd z63 x0_2 x0_1).f2⟩ : S63))).length := ((Vw.whole c63_w (x0_2.set x0_1.toNat (⟨x0_0, IntKind.i64.wrap (x0_0 + 1), (rd z63 x0_2 x0_1).f2⟩ : S63))).len_le b11.1 (lt_len b11.2 (by simp)) (by decide))
    have g27 : 0 + x0_1.toNat * 3 + 2 + 1 ≤ (encL c63 (x0_2.set x0_1.toNat (⟨x0_0, IntKind.i64.wrap (x0_0 + 1), (rd z63 x0_2 x0_1).f2⟩ : S63))).length := (Vw.whole c63_w (x0_2.set x0_1.toNat (⟨x0_0, IntKind.i64.wrap (x0_0 + 1), (rd z63 x0_2 x0_1).f2⟩ : S63))).le b11.1 (lt_len b11.2 (by simp)) (j := 2) (q := 1) (by decide)
    have g28 : 0 + x0_1.toNat * 3 + 2 < (encL c63 (x0_2.set x0_1.toNat (⟨x0_0, IntKind.i64.wrap (x0_0 + 1), (rd z63 x0_2 x0_1).f2⟩ : S63))).length := encL_put_lt c63_w (⟨x0_0, IntKind.i64.wrap (x0_0 + 1), (rd z63 x0_2 x0_1).f2⟩ : S63) b11.1 b11.2 (j := 2) (by decide)
    have g29 : (encL c63 (x0_2.set x0_1.toNat (⟨x0_0, IntKind.i64.wrap (x0_0 + 1), (rd z63 x0_2 x0_1).f2⟩ : S63)))[0 + x0_1.toNat * 3 + 2]? = some (.sc (.int .u32 ((rd z63 x0_2 x0_1).f2))) := encL_put_get c63_w (⟨x0_0, IntKind.i64.wrap (x0_0 + 1), (rd z63 x0_2 x0_1).f2⟩ : S63) b11.1 b11.2 (j := 2) (by decide)
    have g30 : (encL c63 (x0_2.set x0_1.toNat (⟨x0_0, IntKind.i64.wrap (x0_0 + 1), (rd z63 x0_2 x0_1).f2⟩ : S63))).set (0 + x0_1.toNat * 3 + 2) (.sc (.int .u32 (IntKind.u32.wrap (IntKind.i64.wrap ((IntKind.i64.wrap (x0_0 + 1)) + 1))))) = encL c63 (x0_2.set x0_1.toNat (⟨x0_0, IntKind.i64.wrap (x0_0 + 1), IntKind.u32.wrap (IntKind.i64.wrap ((IntKind.i64.wrap (x0_0 + 1)) + 1))⟩ : S63)) := encL_put2 c63_w b11.1 b11.2 (j := 2) (by decide) rfl
    simp only [Nat.reduceEqDiff, Nat.reduceAdd, Nat.reduceMul, Nat.reduceLeDiff, Nat.reduceLT, Int.reduceLE, Int.reduceLT, Int.reduceGT, Int.reduceGE, Int.reduceEq, Int.reduceNe, Int.reduceToNat, reduceCtorEq, ak, b11, g26, g27, g28, g29, g30]
    refine hJ25 _ ?_
    refine reg_k ?_
    simp only [Nat.reduceEqDiff, Nat.reduceAdd, Nat.reduceMul, Nat.reduceLeDiff, Nat.reduceLT, Int.reduceLE, Int.reduceLT, Int.reduceGT, Int.reduceGE, Int.reduceEq, Int.reduceNe, Int.reduceToNat, reduceCtorEq, ak]
    refine B9n _ ?_
    refine hJ8 _ ?_
    refine reg_k ?_
    simp only [Nat.reduceEqDiff, Nat.reduceAdd, Nat.reduceMul, Nat.reduceLeDiff, Nat.reduceLT, Int.reduceLE, Int.reduceLT, Int.reduceGT, Int.reduceGE, Int.reduceEq, Int.reduceNe, Int.reduceToNat, reduceCtorEq, ak]
    refine G0n _ (⟨[(0, .c (.ref (.arg 0) [] 0 ((x0_2.set x0_1.toNat (⟨x0_0, IntKind.i64.wrap (x0_0 + 1), IntKind.u32.wrap (IntKind.i64.wrap ((IntKind.i64.wrap (x0_0 + 1)) + 1))⟩ : S63)).length))), (1, .c (.sc (.int .i64 (IntKind.i64.wrap ((IntKind.i64.wrap ((IntKind.i64.wrap (x0_0 + 1)) + 1)) + 1))))), (5, .c (.sc (.int .i64 (IntKind.i64.wrap (x0_1 + 1)))))], [(.arg 0, ⟨.lst, 3, encL c63 (x0_2.set x0_1.toNat (⟨x0_0, IntKind.i64.wrap (x0_0 + 1), IntKind.u32.wrap (IntKind.i64.wrap ((IntKind.i64.wrap (x0_0 + 1)) + 1))⟩ : S63))⟩)], [], []⟩) (((Weak.keep [0, 1, 5]).trans ((Weak.foc [(.arg 0, ⟨(.arg 0), [], none, .lst⟩)] rfl (by first | rfl | simp only [reduceCtorEq, Nat.reduceEqDiff, ak, akF, b11]) (by simp [argK, akG, ak])).trans (Weak.of_eq (by first | rfl | (simp only [reduceCtorEq, Nat.reduceEqDiff, ak, akF, b11]; done) | (simp [reduceCtorEq, Nat.reduceEqDiff, ak, akF, b11]; done)))))) (ih _ _ _ _ h K hx0)
  · replace c7 := of_decide_eq_false c7; rw [if_neg c7] at h
    obtain rfl := Option.some.inj h
    refine gh_k (st' := ⟨[(1, .c (.sc (.int .i64 x0_0)))], [(.arg 0, ⟨.lst, 3, encL c63 x0_2⟩)], [], []⟩) (((Weak.keep [1]).trans ((Weak.foc [(.arg 0, ⟨(.arg 0), [], none, .lst⟩)] rfl (by first | rfl | simp only [reduceCtorEq, Nat.reduceEqDiff, ak, akF]) (by simp [argK, akG, ak])).trans (Weak.of_eq (by first | rfl | (simp only [reduceCtorEq, Nat.reduceEqDiff, ak, akF]; done) | (simp [reduceCtorEq, Nat.reduceEqDiff, ak, akF]; done)))))) ?_
    refine G0x _ _ ?_
    exact hx0
set_option maxRecDepth 100000 in
set_option maxHeartbeats 4000000 in
theorem laws_markSubEventS.tri (l0 : List S63) (a1 : Int) (r : Int × (List S63)) (h : laws_markSubEventS.f l0 a1 = some r) : Tri Try.prog 40 [.c (.ref (.arg 0) [] 0 l0.length), .c (.sc (.int .i64 a1))] [(.arg 0, ⟨.lst, 3, encL c63 l0⟩)] (fun o => o = ⟨.c (.sc (.int .i64 r.1)), [(.arg 0, ⟨.lst, 3, encL c63 r.2⟩)], [], []⟩) := by
  refine tri_of_body (ac := c40) (xs := r40) Try.func40 (show Try.f40.body = some (Try.f40.body.getD .skip) from rfl) k40 q40 (Nat.le_of_ble_eq_true rfl) ?_
  refine body_of fun K hKn hKr => ?_
  unfold laws_markSubEventS.f at h
  unfold c40
  simp only [initT, Nat.reduceAdd]
  refine seq_k fun J1 hJ1 => ?_
  refine reg_k ?_
  simp only [Nat.reduceEqDiff, Nat.reduceAdd, Nat.reduceMul, Nat.reduceLeDiff, Nat.reduceLT, Int.reduceLE, Int.reduceLT, Int.reduceGT, Int.reduceGE, Int.reduceEq, Int.reduceNe, Int.reduceToNat, reduceCtorEq, ak]
  refine hJ1 _ ?_
  refine seq_k fun J2 hJ2 => ?_
  refine seq_k fun J3 hJ3 => ?_
  refine reg_k ?_
  simp only [Nat.reduceEqDiff, Nat.reduceAdd, Nat.reduceMul, Nat.reduceLeDiff, Nat.reduceLT, Int.reduceLE, Int.reduceLT, Int.reduceGT, Int.reduceGE, Int.reduceEq, Int.reduceNe, Int.reduceToNat, reduceCtorEq, ak]
  refine hJ3 _ ?_
  refine block_k fun B4 B4n B4x B4r B4j => ?_
  obtain ⟨y31, h32, h⟩ := of_bind h
  refine gh_k (st' := ⟨[(0, .c (.ref (.arg 0) [] 0 l0.length)), (1, .c (.sc (.int .i64 a1))), (5, .c (.sc (.int .i64 0)))], [(.arg 0, ⟨.lst, 3, encL c63 l0⟩)], [], []⟩) (((Weak.keep [0, 1, 5]).trans ((Weak.foc [(.arg 0, ⟨(.arg 0), [], none, .lst⟩)] rfl (by first | rfl | simp only [reduceCtorEq, Nat.reduceEqDiff, ak, akF]) (by simp [argK, akG, ak])).trans (Weak.of_eq (by first | rfl | (simp only [reduceCtorEq, Nat.reduceEqDiff, ak, akF]; done) | (simp [reduceCtorEq, Nat.reduceEqDiff, ak, akF]; done)))))) ?_
  rw [e_loop]
  refine laws_markSubEventS.l0_walk a1 0 l0 _ h32 _ ?_
  refine B4x _ ?_
  refine hJ2 _ ?_
  refine seq_k fun J33 hJ33 => ?_
  refine reg_k ?_
  simp only [Nat.reduceEqDiff, Nat.reduceAdd, Nat.reduceMul, Nat.reduceLeDiff, Nat.reduceLT, Int.reduceLE, Int.reduceLT, Int.reduceGT, Int.reduceGE, Int.reduceEq, Int.reduceNe, Int.reduceToNat, reduceCtorEq, ak]
  refine hJ33 _ ?_
  obtain rfl := Option.some.inj h
  refine hKr _ ⟨_, rfl, [], _, rfl, rfl, ?_⟩
  first | rfl | (simp only [reduceCtorEq, Nat.reduceEqDiff, ak, akF]; done) | (simp [reduceCtorEq, Nat.reduceEqDiff, ak, akF]; done)
/-! ### laws.markSubFrameS: function 93 -/
def c93_l0 : AC := .seq (.seq (.reg [.op none (.mv 6 (.tmp 5)), .op none (.mv 7 (.tmp 0)), .op none (.len 8 (.tmp 7)), .op none (.bin 9 .lss (.tmp 6) (.tmp 8)), .keep [0, 1, 5, 9]]) (.cond (.tmp 9) (.skip) (.gh (.exit 0)))) (.seq (.block 1 (.seq (.reg [.op none (.mv 12 (.tmp 0)), .op none (.mv 13 (.tmp 5)), .op none (.mv 14 (.tmp 1)), .op none (.iaddr 15 3 (.tmp 12) (.tmp 13)), .op none (.faddr 16 0 (.tmp 15)), .op none (.store 1 (.tmp 16) (.tmp 14)), .keep [0, 1, 5]]) (.seq (.reg [.op none (.mv 17 (.tmp 1)), .op none (.bin 18 .add (.tmp 17) (.const (.int .i64 1))), .op none (.mv 1 (.tmp 18)), .keep [0, 1, 5]]) (.seq (.reg [.op none (.mv 19 (.tmp 0)), .op none (.mv 20 (.tmp 5)), .op none (.mv 21 (.tmp 1)), .op none (.conv 22 .u32 (.tmp 21)), .op none (.iaddr 23 3 (.tmp 19) (.tmp 20)), .op none (.faddr 24 1 (.tmp 23)), .op none (.store 1 (.tmp 24) (.tmp 22)), .keep [0, 1, 5]]) (.seq (.reg [.op none (.mv 25 (.tmp 1)), .op none (.bin 26 .add (.tmp 25) (.const (.int .i64 1))), .op none (.mv 1 (.tmp 26)), .keep [0, 1, 5]]) (.seq (.reg [.op none (.mv 27 (.tmp 0)), .op none (.mv 28 (.tmp 5)), .op none (.mv 29 (.tmp 1)), .op none (.iaddr 30 3 (.tmp 27) (.tmp 28)), .op none (.faddr 31 2 (.tmp 30)), .op none (.store 1 (.tmp 31) (.tmp 29)), .keep [0, 1, 5]]) (.reg [.op none (.mv 32 (.tmp 1)), .op none (.bin 33 .add (.tmp 32) (.const (.int .i64 1))), .op none (.mv 1 (.tmp 33)), .keep [0, 1, 5]]))))))) (.reg [.op none (.mv 10 (.tmp 5)), .op none (.bin 11 .add (.tmp 10) (.const (.int .i64 1))), .op none (.mv 5 (.tmp 11)), .keep [0, 1, 5]]))
def c93 : AC := .seq (.reg [.op none (.mv 4 (.const (.int .i64 0))), .keep [0, 1]]) (.seq (.seq (.reg [.op none (.mv 5 (.const (.int .i64 0))), .keep [0, 1, 5]]) (.block 0 (.gh (.loop (.ga c93_l0))))) (.seq (.reg [.op none (.mv 34 (.tmp 1)), .op none (.mv 4 (.tmp 34)), .keep [4]]) (.ret)))
def r93 : List RV := [.tmp 4]
theorem k93 : compC Try.prog 35 c93 (Try.f93.body.getD .skip) = some c93.erase := by kernel_rfl
theorem q93 : rvsOf Try.prog Try.f93.results.toList = some r93 := by kernel_rfl
def laws_markSubFrameS.l0 (x0_0 : Int) (x0_1 : Int) (x0_2 : (List S68)) : Option (Int × (List S68)) := (if x0_1 < (x0_2.length : Int) then (if 0 ≤ x0_1 ∧ x0_1 < (x0_2.length : Int) then (laws_markSubFrameS.l0 (IntKind.i64.wrap ((IntKind.i64.wrap ((IntKind.i64.wrap (x0_0 + 1)) + 1)) + 1)) (IntKind.i64.wrap (x0_1 + 1)) (x0_2.set x0_1.toNat (⟨x0_0, IntKind.u32.wrap (IntKind.i64.wrap (x0_0 + 1)), IntKind.i64.wrap ((IntKind.i64.wrap (x0_0 + 1)) + 1)⟩ : S68))) else none) else (some (x0_0, x0_2)))
  partial_fixpoint
def laws_markSubFrameS.f (l0 : List S68) (a1 : Int) : Option (Int × (List S68)) := (laws_markSubFrameS.l0 a1 0 l0 >>= fun (y31 : (Int × (List S68))) => (some (y31.1, y31.2)))
set_option maxRecDepth 100000 in
set_option maxHeartbeats 4000000 in
theorem laws_markSubFrameS.l0_walk (x0_0 : Int) (x0_1 : Int) (x0_2 : (List S68)) (y : (Int × (List S68))) (h : laws_markSubFrameS.l0  x0_0 x0_1 x0_2 = some y) (K : AE → St → Prop) (hx0 : K (.exit 0) ⟨[(1, .c (.sc (.int .i64 y.1)))], [(.arg 0, ⟨.lst, 3, encL c68 y.2⟩)], [], []⟩) : loopS Try.prog 35 (.ga c93_l0) K ⟨[(0, .c (.ref (.arg 0) [] 0 x0_2.length)), (1, .c (.sc (.int .i64 x0_0))), (5, .c (.sc (.int .i64 x0_1)))], [(.arg 0, ⟨.lst, 3, encL c68 x0_2⟩)], [], []⟩ := by
  refine laws_markSubFrameS.l0.partial_correctness  (motive := fun x0_0 x0_1 x0_2 y => ∀ (K : AE → St → Prop), (K (.exit 0) ⟨[(1, .c (.sc (.int .i64 y.1)))], [(.arg 0, ⟨.lst, 3, encL c68 y.2⟩)], [], []⟩) → loopS Try.prog 35 (.ga c93_l0) K ⟨[(0, .c (.ref (.arg 0) [] 0 x0_2.length)), (1, .c (.sc (.int .i64 x0_0))), (5, .c (.sc (.int .i64 x0_1)))], [(.arg 0, ⟨.lst, 3, encL c68 x0_2⟩)], [], []⟩) ?_ x0_0 x0_1 x0_2 y h K hx0
  clear h hx0
  intro rec ih x0_0 x0_1 x0_2 y h K hx0
  refine loop_unroll (ga_k fun G0 G0n G0r G0x => ?_)
  unfold c93_l0
  refine seq_k fun J5 hJ5 => ?_
  refine seq_k fun J6 hJ6 => ?_
  refine reg_k ?_
  simp only [Nat.reduceEqDiff, Nat.reduceAdd, Nat.reduceMul, Nat.reduceLeDiff, Nat.reduceLT, Int.reduceLE, Int.reduceLT, Int.reduceGT, Int.reduceGE, Int.reduceEq, Int.reduceNe, Int.reduceToNat, reduceCtorEq, ak]
  refine hJ6 _ ?_
  refine cond_k (b := decide (x0_1 < (x0_2.length : Int))) rfl (fun c7 => ?_) (fun c7 => ?_)
  · replace c7 := of_decide_eq_true c7; rw [if_pos c7] at h
    refine hJ5 _ ?_
    refine seq_k fun J8 hJ8 => ?_
    refine block_k fun B9 B9n B9x B9r B9j => ?_
    refine seq_k fun J10 hJ10 => ?_
    refine reg_k ?_
    obtain ⟨b11, h⟩ := of_guard h
    have g12 : 0 + x0_1.toNat * 3 + 0 ≤ (encL c68 x0_2).length := ((Vw.whole c68_w x0_2).len_le b11.1 b11.2 (by decide))
    have g13 : 0 + x0_1.toNat * 3 + 0 + 1 ≤ (encL c68 x0_2).length := (Vw.whole c68_w x0_2).le b11.1 b11.2 (j := 0) (q := 1) (by decide)
    have g14 : 0 + x0_1.toNat * 3 + 0 < (encL c68 x0_2).length := (Vw.whole c68_w x0_2).lt b11.1 b11.2 (j := 0) (by decide)
    have g15 : (encL c68 x0_2)[0 + x0_1.toNat * 3 + 0]? = some (.sc (.int .i64 ((rd z68 x0_2 x0_1).f0))) := (Vw.whole c68_w x0_2).get z68 0 b11.1 b11.2 (by decide)
    have g16 : (encL c68 x0_2).set (0 + x0_1.toNat * 3 + 0) (.sc (.int .i64 x0_0)) = encL c68 (x0_2.set x0_1.toNat (⟨x0_0, (rd z68 x0_2 x0_1).f1, (rd z68 x0_2 x0_1).f2⟩ : S68)) := encL_put c68_w z68 b11.1 b11.2 (j := 0) (by decide) rfl
    simp only [Nat.reduceEqDiff, Nat.reduceAdd, Nat.reduceMul, Nat.reduceLeDiff, Nat.reduceLT, Int.reduceLE, Int.reduceLT, Int.reduceGT, Int.reduceGE, Int.reduceEq, Int.reduceNe, Int.reduceToNat, reduceCtorEq, ak, b11, g12, g13, g14, g15, g16]
    refine hJ10 _ ?_
    refine seq_k fun J17 hJ17 => ?_
    refine reg_k ?_
    simp only [Nat.reduceEqDiff, Nat.reduceAdd, Nat.reduceMul, Nat.reduceLeDiff, Nat.reduceLT, Int.reduceLE, Int.reduceLT, Int.reduceGT, Int.reduceGE, Int.reduceEq, Int.reduceNe, Int.reduceToNat, reduceCtorEq, ak]
    refine hJ17 _ ?_
    refine seq_k fun J18 hJ18 => ?_
    refine reg_k ?_
    have g19 : 0 + x0_1.toNat * 3 + 1 ≤ (encL c68 (x0_2.set x0_1.toNat (⟨x0_0, (rd z68 x0_2 x0_1).f1, (rd z68 x0_2 x0_1).f2⟩ : S68))).length := ((Vw.whole c68_w (x0_2.set x0_1.toNat (⟨x0_0, (rd z68 x0_2 x0_1).f1, (rd z68 x0_2 x0_1).f2⟩ : S68))).len_le b11.1 (lt_len b11.2 (by simp)) (by decide))
    have g20 : 0 + x0_1.toNat * 3 + 1 + 1 ≤ (encL c68 (x0_2.set x0_1.toNat (⟨x0_0, (rd z68 x0_2 x0_1).f1, (rd z68 x0_2 x0_1).f2⟩ : S68))).length := (Vw.whole c68_w (x0_2.set x0_1.toNat (⟨x0_0, (rd z68 x0_2 x0_1).f1, (rd z68 x0_2 x0_1).f2⟩ : S68))).le b11.1 (lt_len b11.2 (by simp)) (j := 1) (q := 1) (by decide)
    have g21 : 0 + x0_1.toNat * 3 + 1 < (encL c68 (x0_2.set x0_1.toNat (⟨x0_0, (rd z68 x0_2 x0_1).f1, (rd z68 x0_2 x0_1).f2⟩ : S68))).length := encL_put_lt c68_w (⟨x0_0, (rd z68 x0_2 x0_1).f1, (rd z68 x0_2 x0_1).f2⟩ : S68) b11.1 b11.2 (j := 1) (by decide)
    have g22 : (encL c68 (x0_2.set x0_1.toNat (⟨x0_0, (rd z68 x0_2 x0_1).f1, (rd z68 x0_2 x0_1).f2⟩ : S68)))[0 + x0_1.toNat * 3 + 1]? = some (.sc (.int .u32 ((rd z68 x0_2 x0_1).f1))) := encL_put_get c68_w (⟨x0_0, (rd z68 x0_2 x0_1).f1, (rd z68 x0_2 x0_1).f2⟩ : S68) b11.1 b11.2 (j := 1) (by decide)
    have g23 : (encL c68 (x0_2.set x0_1.toNat (⟨x0_0, (rd z68 x0_2 x0_1).f1, (rd z68 x0_2 x0_1).f2⟩ : S68))).set (0 + x0_1.toNat * 3 + 1) (.sc (.int .u32 (IntKind.u32.wrap (IntKind.i64.wrap (x0_0 + 1))))) = encL c68 (x0_2.set x0_1.toNat (⟨x0_0, IntKind.u32.wrap (IntKind.i64.wrap (x0_0 + 1)), (rd z68 x0_2 x0_1).f2⟩ : S68)) := encL_put2 c68_w b11.1 b11.2 (j := 1) (by decide) rfl
    simp only [Nat.reduceEqDiff, Nat.reduceAdd, Nat.reduceMul, Nat.reduceLeDiff, Nat.reduceLT, Int.reduceLE, Int.reduceLT, Int.reduceGT, Int.reduceGE, Int.reduceEq, Int.reduceNe, Int.reduceToNat, reduceCtorEq, ak, b11, g19, g20, g21, g22, g23]
    refine hJ18 _ ?_
    refine seq_k fun J24 hJ24 => ?_
    refine reg_k ?_
    simp only [Nat.reduceEqDiff, Nat.reduceAdd, Nat.reduceMul, Nat.reduceLeDiff, Nat.reduceLT, Int.reduceLE, Int.reduceLT, Int.reduceGT, Int.reduceGE, Int.reduceEq, Int.reduceNe, Int.reduceToNat, reduceCtorEq, ak]
    refine hJ24 _ ?_
    refine seq_k fun J25 hJ25 => ?_
    refine reg_k ?_
    have g26 : 0 + x0_1.toNat * 3 + 2 ≤ (encL c68 (x0_2.set x0_1.toNat (⟨x0_0, IntKind.u32.wrap (IntKind.i64.wrap (x0_0 + 1)), (rd z68 x0_2 x0_1).f2⟩ : S68))).length := ((Vw.whole c68_w (x0_2.set x0_1.toNat (⟨x0_0, IntKind.u32.wrap (IntKind.i64.wrap (x0_0 + 1)), (rd z68 x0_2 x0_1).f2⟩ : S68))).len_le b11.1 (lt_len b11.2 (by simp)) (by decide))
    have g27 : 0 + x0_1.toNat * 3 + 2 + 1 ≤ (encL c68 (x0_2.set x0_1.toNat (⟨x0_0, IntKind.u32.wrap (IntKind.i64.wrap (x0_0 + 1)), (rd z68 x0_2 x0_1).f2⟩ : S68))).length := (Vw.whole c68_w (x0_2.set x0_1.toNat (⟨x0_0, IntKind.u32.wrap (IntKind.i64.wrap (x0_0 + 1)), (rd z68 x0_2 x0_1).f2⟩ : S68))).le b11.1 (lt_len b11.2 (by simp)) (j := 2) (q := 1) (by decide)
    have g28 : 0 + x0_1.toNat * 3 + 2 < (encL c68 (x0_2.set x0_1.toNat (⟨x0_0, IntKind.u32.wrap (IntKind.i64.wrap (x0_0 + 1)), (rd z68 x0_2 x0_1).f2⟩ : S68))).length := encL_put_lt c68_w (⟨x0_0, IntKind.u32.wrap (IntKind.i64.wrap (x0_0 + 1)), (rd z68 x0_2 x0_1).f2⟩ : S68) b11.1 b11.2 (j := 2) (by decide)
    have g29 : (encL c68 (x0_2.set x0_1.toNat (⟨x0_0, IntKind.u32.wrap (IntKind.i64.wrap (x0_0 + 1)), (rd z68 x0_2 x0_1).f2⟩ : S68)))[0 + x0_1.toNat * 3 + 2]? = some (.sc (.int .i64 ((rd z68 x0_2 x0_1).f2))) := encL_put_get c68_w (⟨x0_0, IntKind.u32.wrap (IntKind.i64.wrap (x0_0 + 1)), (rd z68 x0_2 x0_1).f2⟩ : S68) b11.1 b11.2 (j := 2) (by decide)
    have g30 : (encL c68 (x0_2.set x0_1.toNat (⟨x0_0, IntKind.u32.wrap (IntKind.i64.wrap (x0_0 + 1)), (rd z68 x0_2 x0_1).f2⟩ : S68))).set (0 + x0_1.toNat * 3 + 2) (.sc (.int .i64 (IntKind.i64.wrap ((IntKind.i64.wrap (x0_0 + 1)) + 1)))) = encL c68 (x0_2.set x0_1.toNat (⟨x0_0, IntKind.u32.wrap (IntKind.i64.wrap (x0_0 + 1)), IntKind.i64.wrap ((IntKind.i64.wrap (x0_0 + 1)) + 1)⟩ : S68)) := encL_put2 c68_w b11.1 b11.2 (j := 2) (by decide) rfl
    simp only [Nat.reduceEqDiff, Nat.reduceAdd, Nat.reduceMul, Nat.reduceLeDiff, Nat.reduceLT, Int.reduceLE, Int.reduceLT, Int.reduceGT, Int.reduceGE, Int.reduceEq, Int.reduceNe, Int.reduceToNat, reduceCtorEq, ak, b11, g26, g27, g28, g29, g30]
    refine hJ25 _ ?_
    refine reg_k ?_
    simp only [Nat.reduceEqDiff, Nat.reduceAdd, Nat.reduceMul, Nat.reduceLeDiff, Nat.reduceLT, Int.reduceLE, Int.reduceLT, Int.reduceGT, Int.reduceGE, Int.reduceEq, Int.reduceNe, Int.reduceToNat, reduceCtorEq, ak]
    refine B9n _ ?_
    refine hJ8 _ ?_
    refine reg_k ?_
    simp only [Nat.reduceEqDiff, Nat.reduceAdd, Nat.reduceMul, Nat.reduceLeDiff, Nat.reduceLT, Int.reduceLE, Int.reduceLT, Int.reduceGT, Int.reduceGE, Int.reduceEq, Int.reduceNe, Int.reduceToNat, reduceCtorEq, ak]
    refine G0n _ (⟨[(0, .c (.ref (.arg 0) [] 0 ((x0_2.set x0_1.toNat (⟨x0_0, IntKind.u32.wrap (IntKind.i64.wrap (x0_0 + 1)), IntKind.i64.wrap ((IntKind.i64.wrap (x0_0 + 1)) + 1)⟩ : S68)).length))), (1, .c (.sc (.int .i64 (IntKind.i64.wrap ((IntKind.i64.wrap ((IntKind.i64.wrap (x0_0 + 1)) + 1)) + 1))))), (5, .c (.sc (.int .i64 (IntKind.i64.wrap (x0_1 + 1)))))], [(.arg 0, ⟨.lst, 3, encL c68 (x0_2.set x0_1.toNat (⟨x0_0, IntKind.u32.wrap (IntKind.i64.wrap (x0_0 + 1)), IntKind.i64.wrap ((IntKind.i64.wrap (x0_0 + 1)) + 1)⟩ : S68))⟩)], [], []⟩) (((Weak.keep [0, 1, 5]).trans ((Weak.foc [(.arg 0, ⟨(.arg 0), [], none, .lst⟩)] rfl (by first | rfl | simp only [reduceCtorEq, Nat.reduceEqDiff, ak, akF, b11]) (by simp [argK, akG, ak])).trans (Weak.of_eq (by first | rfl | (simp only [reduceCtorEq, Nat.reduceEqDiff, ak, akF, b11]; done) | (simp [reduceCtorEq, Nat.reduceEqDiff, ak, akF, b11]; done)))))) (ih _ _ _ _ h K hx0)
  · replace c7 := of_decide_eq_false c7; rw [if_neg c7] at h
    obtain rfl := Option.some.inj h
    refine gh_k (st' := ⟨[(1, .c (.sc (.int .i64 x0_0)))], [(.arg 0, ⟨.lst, 3, encL c68 x0_2⟩)], [], []⟩) (((Weak.keep [1]).trans ((Weak.foc [(.arg 0, ⟨(.arg 0), [], none, .lst⟩)] rfl (by first | rfl | simp only [reduceCtorEq, Nat.reduceEqDiff, ak, akF]) (by simp [argK, akG, ak])).trans (Weak.of_eq (by first | rfl | (simp only [reduceCtorEq, Nat.reduceEqDiff, ak, akF]; done) | (simp [reduceCtorEq, Nat.reduceEqDiff, ak, akF]; done)))))) ?_
    refine G0x _ _ ?_
    exact hx0
set_option maxRecDepth 100000 in
set_option maxHeartbeats 4000000 in
theorem laws_markSubFrameS.tri (l0 : List S68) (a1 : Int) (r : Int × (List S68)) (h : laws_markSubFrameS.f l0 a1 = some r) : Tri Try.prog 93 [.c (.ref (.arg 0) [] 0 l0.length), .c (.sc (.int .i64 a1))] [(.arg 0, ⟨.lst, 3, encL c68 l0⟩)] (fun o => o = ⟨.c (.sc (.int .i64 r.1)), [(.arg 0, ⟨.lst, 3, encL c68 r.2⟩)], [], []⟩) := by
  refine tri_of_body (ac := c93) (xs := r93) Try.func93 (show Try.f93.body = some (Try.f93.body.getD .skip) from rfl) k93 q93 (Nat.le_of_ble_eq_true rfl) ?_
  refine body_of fun K hKn hKr => ?_
  unfold laws_markSubFrameS.f at h
  unfold c93
  simp only [initT, Nat.reduceAdd]
  refine seq_k fun J1 hJ1 => ?_
  refine reg_k ?_
  simp only [Nat.reduceEqDiff, Nat.reduceAdd, Nat.reduceMul, Nat.reduceLeDiff, Nat.reduceLT, Int.reduceLE, Int.reduceLT, Int.reduceGT, Int.reduceGE, Int.reduceEq, Int.reduceNe, Int.reduceToNat, reduceCtorEq, ak]
  refine hJ1 _ ?_
  refine seq_k fun J2 hJ2 => ?_
  refine seq_k fun J3 hJ3 => ?_
  refine reg_k ?_
  simp only [Nat.reduceEqDiff, Nat.reduceAdd, Nat.reduceMul, Nat.reduceLeDiff, Nat.reduceLT, Int.reduceLE, Int.reduceLT, Int.reduceGT, Int.reduceGE, Int.reduceEq, Int.reduceNe, Int.reduceToNat, reduceCtorEq, ak]
  refine hJ3 _ ?_
  refine block_k fun B4 B4n B4x B4r B4j => ?_
  obtain ⟨y31, h32, h⟩ := of_bind h
  refine gh_k (st' := ⟨[(0, .c (.ref (.arg 0) [] 0 l0.length)), (1, .c (.sc (.int .i64 a1))), (5, .c (.sc (.int .i64 0)))], [(.arg 0, ⟨.lst, 3, encL c68 l0⟩)], [], []⟩) (((Weak.keep [0, 1, 5]).trans ((Weak.foc [(.arg 0, ⟨(.arg 0), [], none, .lst⟩)] rfl (by first | rfl | simp only [reduceCtorEq, Nat.reduceEqDiff, ak, akF]) (by simp [argK, akG, ak])).trans (Weak.of_eq (by first | rfl | (simp only [reduceCtorEq, Nat.reduceEqDiff, ak, akF]; done) | (simp [reduceCtorEq, Nat.reduceEqDiff, ak, akF]; done)))))) ?_
  rw [e_loop]
  refine laws_markSubFrameS.l0_walk a1 0 l0 _ h32 _ ?_
  refine B4x _ ?_
  refine hJ2 _ ?_
  refine seq_k fun J33 hJ33 => ?_
  refine reg_k ?_
  simp only [Nat.reduceEqDiff, Nat.reduceAdd, Nat.reduceMul, Nat.reduceLeDiff, Nat.reduceLT, Int.reduceLE, Int.reduceLT, Int.reduceGT, Int.reduceGE, Int.reduceEq, Int.reduceNe, Int.reduceToNat, reduceCtorEq, ak]
  refine hJ33 _ ?_
  obtain rfl := Option.some.inj h
  refine hKr _ ⟨_, rfl, [], _, rfl, rfl, ?_⟩
  first | rfl | (simp only [reduceCtorEq, Nat.reduceEqDiff, ak, akF]; done) | (simp [reduceCtorEq, Nat.reduceEqDiff, ak, akF]; done)
/-! ### laws.markInt64S: function 94 -/
def c94_l0 : AC := .seq (.seq (.reg [.op none (.mv 6 (.tmp 5)), .op none (.mv 7 (.tmp 0)), .op none (.len 8 (.tmp 7)), .op none (.bin 9 .lss (.tmp 6) (.tmp 8)), .keep [0, 1, 5, 9]]) (.cond (.tmp 9) (.skip) (.gh (.exit 0)))) (.seq (.block 1 (.seq (.reg [.op none (.mv 12 (.tmp 0)), .op none (.mv 13 (.tmp 5)), .op none (.mv 14 (.tmp 1)), .op none (.iaddr 15 1 (.tmp 12) (.tmp 13)), .op none (.store 1 (.tmp 15) (.tmp 14)), .keep [0, 1, 5]]) (.reg [.op none (.mv 16 (.tmp 1)), .op none (.bin 17 .add (.tmp 16) (.const (.int .i64 1))), .op none (.mv 1 (.tmp 17)), .keep [0, 1, 5]]))) (.reg [.op none (.mv 10 (.tmp 5)), .op none (.bin 11 .add (.tmp 10) (.const (.int .i64 1))), .op none (.mv 5 (.tmp 11)), .keep [0, 1, 5]]))
def c94 : AC := .seq (.reg [.op none (.mv 4 (.const (.int .i64 0))), .keep [0, 1]]) (.seq (.seq (.reg [.op none (.mv 5 (.const (.int .i64 0))), .keep [0, 1, 5]]) (.block 0 (.gh (.loop (.ga c94_l0))))) (.seq (.reg [.op none (.mv 18 (.tmp 1)), .op none (.mv 4 (.tmp 18)), .keep [4]]) (.ret)))
def r94 : List RV := [.tmp 4]
theorem k94 : compC Try.prog 19 c94 (Try.f94.body.getD .skip) = some c94.erase := by kernel_rfl
theorem q94 : rvsOf Try.prog Try.f94.results.toList = some r94 := by kernel_rfl
def laws_markInt64S.l0 (x0_0 : Int) (x0_1 : Int) (x0_2 : (List Int)) : Option (Int × (List Int)) := (if x0_1 < (x0_2.length : Int) then (if 0 ≤ x0_1 ∧ x0_1 < (x0_2.length : Int) then (laws_markInt64S.l0 (IntKind.i64.wrap (x0_0 + 1)) (IntKind.i64.wrap (x0_1 + 1)) (x0_2.set x0_1.toNat x0_0)) else none) else (some (x0_0, x0_2)))
  partial_fixpoint
def laws_markInt64S.f (l0 : List Int) (a1 : Int) : Option (Int × (List Int)) := (laws_markInt64S.l0 a1 0 l0 >>= fun (y16 : (Int × (List Int))) => (some (y16.1, y16.2)))
set_option maxRecDepth 100000 in
set_option maxHeartbeats 4000000 in
theorem laws_markInt64S.l0_walk (x0_0 : Int) (x0_1 : Int) (x0_2 : (List Int)) (y : (Int × (List Int))) (h : laws_markInt64S.l0  x0_0 x0_1 x0_2 = some y) (K : AE → St → Prop) (hx0 : K (.exit 0) ⟨[(1, .c (.sc (.int .i64 y.1)))], [(.arg 0, ⟨.lst, 1, encL c_i64 y.2⟩)], [], []⟩) : loopS Try.prog 19 (.ga c94_l0) K ⟨[(0, .c (.ref (.arg 0) [] 0 x0_2.length)), (1, .c (.sc (.int .i64 x0_0))), (5, .c (.sc (.int .i64 x0_1)))], [(.arg 0, ⟨.lst, 1, encL c_i64 x0_2⟩)], [], []⟩ := by
  refine laws_markInt64S.l0.partial_correctness  (motive := fun x0_0 x0_1 x0_2 y => ∀ (K : AE → St → Prop), (K (.exit 0) ⟨[(1, .c (.sc (.int .i64 y.1)))], [(.arg 0, ⟨.lst, 1, encL c_i64 y.2⟩)], [], []⟩) → loopS Try.prog 19 (.ga c94_l0) K ⟨[(0, .c (.ref (.arg 0) [] 0 x0_2.length)), (1, .c (.sc (.int .i64 x0_0))), (5, .c (.sc (.int .i64 x0_1)))], [(.arg 0, ⟨.lst, 1, encL c_i64 x0_2⟩)], [], []⟩) ?_ x0_0 x0_1 x0_2 y h K hx0
  clear h hx0
  intro rec ih x0_0 x0_1 x0_2 y h K hx0
  refine loop_unroll (ga_k fun G0 G0n G0r G0x => ?_)
  unfold c94_l0
  refine seq_k fun J5 hJ5 => ?_
  refine seq_k fun J6 hJ6 => ?_
  refine reg_k ?_
  simp only [Nat.reduceEqDiff, Nat.reduceAdd, Nat.reduceMul, Nat.reduceLeDiff, Nat.reduceLT, Int.reduceLE, Int.reduceLT, Int.reduceGT, Int.reduceGE, Int.reduceEq, Int.reduceNe, Int.reduceToNat, reduceCtorEq, ak]
  refine hJ6 _ ?_
  refine cond_k (b := decide (x0_1 < (x0_2.length : Int))) rfl (fun c7 => ?_) (fun c7 => ?_)
  · replace c7 := of_decide_eq_true c7; rw [if_pos c7] at h
    refine hJ5 _ ?_
    refine seq_k fun J8 hJ8 => ?_
    refine block_k fun B9 B9n B9x B9r B9j => ?_
    refine seq_k fun J10 hJ10 => ?_
    refine reg_k ?_
    obtain ⟨b11, h⟩ := of_guard h
    have g12 : 0 + x0_1.toNat * 1 + 1 ≤ (encL c_i64 x0_2).length := (Vw.whole c_i64_w x0_2).le b11.1 b11.2 (j := 0) (q := 1) (by decide)
    have g13 : 0 + x0_1.toNat * 1 < (encL c_i64 x0_2).length := (Vw.whole c_i64_w x0_2).lt b11.1 b11.2 (j := 0) (by decide)
    have g14 : (encL c_i64 x0_2)[0 + x0_1.toNat * 1]? = some (.sc (.int .i64 (rd 0 x0_2 x0_1))) := (Vw.whole c_i64_w x0_2).get 0 0 b11.1 b11.2 (by decide)
    have g15 : (encL c_i64 x0_2).set (0 + x0_1.toNat * 1) (.sc (.int .i64 x0_0)) = encL c_i64 (x0_2.set x0_1.toNat x0_0) := encL_put c_i64_w 0 b11.1 b11.2 (j := 0) (by decide) rfl
    simp only [Nat.reduceEqDiff, Nat.reduceAdd, Nat.reduceMul, Nat.reduceLeDiff, Nat.reduceLT, Int.reduceLE, Int.reduceLT, Int.reduceGT, Int.reduceGE, Int.reduceEq, Int.reduceNe, Int.reduceToNat, reduceCtorEq, ak, b11, g12, g13, g14, g15]
    refine hJ10 _ ?_
    refine reg_k ?_
    simp only [Nat.reduceEqDiff, Nat.reduceAdd, Nat.reduceMul, Nat.reduceLeDiff, Nat.reduceLT, Int.reduceLE, Int.reduceLT, Int.reduceGT, Int.reduceGE, Int.reduceEq, Int.reduceNe, Int.reduceToNat, reduceCtorEq, ak]
    refine B9n _ ?_
    refine hJ8 _ ?_
    refine reg_k ?_
    simp only [Nat.reduceEqDiff, Nat.reduceAdd, Nat.reduceMul, Nat.reduceLeDiff, Nat.reduceLT, Int.reduceLE, Int.reduceLT, Int.reduceGT, Int.reduceGE, Int.reduceEq, Int.reduceNe, Int.reduceToNat, reduceCtorEq, ak]
    refine G0n _ (⟨[(0, .c (.ref (.arg 0) [] 0 ((x0_2.set x0_1.toNat x0_0).length))), (1, .c (.sc (.int .i64 (IntKind.i64.wrap (x0_0 + 1))))), (5, .c (.sc (.int .i64 (IntKind.i64.wrap (x0_1 + 1)))))], [(.arg 0, ⟨.lst, 1, encL c_i64 (x0_2.set x0_1.toNat x0_0)⟩)], [], []⟩) (((Weak.keep [0, 1, 5]).trans ((Weak.foc [(.arg 0, ⟨(.arg 0), [], none, .lst⟩)] rfl (by first | rfl | simp only [reduceCtorEq, Nat.reduceEqDiff, ak, akF, b11]) (by simp [argK, akG, ak])).trans (Weak.of_eq (by first | rfl | (simp only [reduceCtorEq, Nat.reduceEqDiff, ak, akF, b11]; done) | (simp [reduceCtorEq, Nat.reduceEqDiff, ak, akF, b11]; done)))))) (ih _ _ _ _ h K hx0)
  · replace c7 := of_decide_eq_false c7; rw [if_neg c7] at h
    obtain rfl := Option.some.inj h
    refine gh_k (st' := ⟨[(1, .c (.sc (.int .i64 x0_0)))], [(.arg 0, ⟨.lst, 1, encL c_i64 x0_2⟩)], [], []⟩) (((Weak.keep [1]).trans ((Weak.foc [(.arg 0, ⟨(.arg 0), [], none, .lst⟩)] rfl (by first | rfl | simp only [reduceCtorEq, Nat.reduceEqDiff, ak, akF]) (by simp [argK, akG, ak])).trans (Weak.of_eq (by first | rfl | (simp only [reduceCtorEq, Nat.reduceEqDiff, ak, akF]; done) | (simp [reduceCtorEq, Nat.reduceEqDiff, ak, akF]; done)))))) ?_
    refine G0x _ _ ?_
    exact hx0
set_option maxRecDepth 100000 in
set_option maxHeartbeats 4000000 in
theorem laws_markInt64S.tri (l0 : List Int) (a1 : Int) (r : Int × (List Int)) (h : laws_markInt64S.f l0 a1 = some r) : Tri Try.prog 94 [.c (.ref (.arg 0) [] 0 l0.length), .c (.sc (.int .i64 a1))] [(.arg 0, ⟨.lst, 1, encL c_i64 l0⟩)] (fun o => o = ⟨.c (.sc (.int .i64 r.1)), [(.arg 0, ⟨.lst, 1, encL c_i64 r.2⟩)], [], []⟩) := by
  refine tri_of_body (ac := c94) (xs := r94) Try.func94 (show Try.f94.body = some (Try.f94.body.getD .skip) from rfl) k94 q94 (Nat.le_of_ble_eq_true rfl) ?_
  refine body_of fun K hKn hKr => ?_
  unfold laws_markInt64S.f at h
  unfold c94
  simp only [initT, Nat.reduceAdd]
  refine seq_k fun J1 hJ1 => ?_
  refine reg_k ?_
  simp only [Nat.reduceEqDiff, Nat.reduceAdd, Nat.reduceMul, Nat.reduceLeDiff, Nat.reduceLT, Int.reduceLE, Int.reduceLT, Int.reduceGT, Int.reduceGE, Int.reduceEq, Int.reduceNe, Int.reduceToNat, reduceCtorEq, ak]
  refine hJ1 _ ?_
  refine seq_k fun J2 hJ2 => ?_
  refine seq_k fun J3 hJ3 => ?_
  refine reg_k ?_
  simp only [Nat.reduceEqDiff, Nat.reduceAdd, Nat.reduceMul, Nat.reduceLeDiff, Nat.reduceLT, Int.reduceLE, Int.reduceLT, Int.reduceGT, Int.reduceGE, Int.reduceEq, Int.reduceNe, Int.reduceToNat, reduceCtorEq, ak]
  refine hJ3 _ ?_
  refine block_k fun B4 B4n B4x B4r B4j => ?_
  obtain ⟨y16, h17, h⟩ := of_bind h
  refine gh_k (st' := ⟨[(0, .c (.ref (.arg 0) [] 0 l0.length)), (1, .c (.sc (.int .i64 a1))), (5, .c (.sc (.int .i64 0)))], [(.arg 0, ⟨.lst, 1, encL c_i64 l0⟩)], [], []⟩) (((Weak.keep [0, 1, 5]).trans ((Weak.foc [(.arg 0, ⟨(.arg 0), [], none, .lst⟩)] rfl (by first | rfl | simp only [reduceCtorEq, Nat.reduceEqDiff, ak, akF]) (by simp [argK, akG, ak])).trans (Weak.of_eq (by first | rfl | (simp only [reduceCtorEq, Nat.reduceEqDiff, ak, akF]; done) | (simp [reduceCtorEq, Nat.reduceEqDiff, ak, akF]; done)))))) ?_
  rw [e_loop]
  refine laws_markInt64S.l0_walk a1 0 l0 _ h17 _ ?_
  refine B4x _ ?_
  refine hJ2 _ ?_
  refine seq_k fun J18 hJ18 => ?_
  refine reg_k ?_
  simp only [Nat.reduceEqDiff, Nat.reduceAdd, Nat.reduceMul, Nat.reduceLeDiff, Nat.reduceLT, Int.reduceLE, Int.reduceLT, Int.reduceGT, Int.reduceGE, Int.reduceEq, Int.reduceNe, Int.reduceToNat, reduceCtorEq, ak]
  refine hJ18 _ ?_
  obtain rfl := Option.some.inj h
  refine hKr _ ⟨_, rfl, [], _, rfl, rfl, ?_⟩
  first | rfl | (simp only [reduceCtorEq, Nat.reduceEqDiff, ak, akF]; done) | (simp [reduceCtorEq, Nat.reduceEqDiff, ak, akF]; done)
/-! ### laws.markSubOutS: function 41 -/
def c41_l0 : AC := .seq (.seq (.reg [.op none (.mv 6 (.tmp 5)), .op none (.mv 7 (.tmp 0)), .op none (.len 8 (.tmp 7)), .op none (.bin 9 .lss (.tmp 6) (.tmp 8)), .keep [0, 1, 5, 9]]) (.cond (.tmp 9) (.skip) (.gh (.exit 0)))) (.seq (.block 1 (.seq (.reg [.op none (.mv 12 (.tmp 0)), .op none (.mv 13 (.tmp 5)), .op none (.mv 14 (.tmp 1)), .op none (.iaddr 15 5 (.tmp 12) (.tmp 13)), .op none (.faddr 16 0 (.tmp 15)), .op none (.store 1 (.tmp 16) (.tmp 14)), .keep [0, 1, 5]]) (.seq (.reg [.op none (.mv 17 (.tmp 1)), .op none (.bin 18 .add (.tmp 17) (.const (.int .i64 1))), .op none (.mv 1 (.tmp 18)), .keep [0, 1, 5]]) (.seq (.reg [.op none (.mv 19 (.tmp 0)), .op none (.mv 20 (.tmp 5)), .op none (.iaddr 21 5 (.tmp 19) (.tmp 20)), .op none (.faddr 22 1 (.tmp 21)), .op none (.load 23 false 1 (.tmp 22)), .op none (.mv 24 (.tmp 1)), .call none (some 25) 93 [.tmp 23, .tmp 24], .op none (.mv 1 (.tmp 25)), .keep [0, 1, 5]]) (.seq (.reg [.op none (.mv 26 (.tmp 0)), .op none (.mv 27 (.tmp 5)), .op none (.iaddr 28 5 (.tmp 26) (.tmp 27)), .op none (.faddr 29 2 (.tmp 28)), .op none (.load 30 false 1 (.tmp 29)), .op none (.mv 31 (.tmp 1)), .call none (some 32) 94 [.tmp 30, .tmp 31], .op none (.mv 1 (.tmp 32)), .keep [0, 1, 5]]) (.seq (.reg [.op none (.mv 33 (.tmp 0)), .op none (.mv 34 (.tmp 5)), .op none (.mv 35 (.tmp 1)), .op none (.iaddr 36 5 (.tmp 33) (.tmp 34)), .op none (.faddr 37 3 (.tmp 36)), .op none (.store 1 (.tmp 37) (.tmp 35)), .keep [0, 1, 5]]) (.seq (.reg [.op none (.mv 38 (.tmp 1)), .op none (.bin 39 .add (.tmp 38) (.const (.int .i64 1))), .op none (.mv 1 (.tmp 39)), .keep [0, 1, 5]]) (.seq (.reg [.op none (.mv 40 (.tmp 0)), .op none (.mv 41 (.tmp 5)), .op none (.mv 42 (.tmp 1)), .op none (.iaddr 43 5 (.tmp 40) (.tmp 41)), .op none (.faddr 44 4 (.tmp 43)), .op none (.store 1 (.tmp 44) (.tmp 42)), .keep [0, 1, 5]]) (.reg [.op none (.mv 45 (.tmp 1)), .op none (.bin 46 .add (.tmp 45) (.const (.int .i64 1))), .op none (.mv 1 (.tmp 46)), .keep [0, 1, 5]]))))))))) (.reg [.op none (.mv 10 (.tmp 5)), .op none (.bin 11 .add (.tmp 10) (.const (.int .i64 1))), .op none (.mv 5 (.tmp 11)), .keep [0, 1, 5]]))
def c41 : AC := .seq (.reg [.op none (.mv 4 (.const (.int .i64 0))), .keep [0, 1]]) (.seq (.seq (.reg [.op none (.mv 5 (.const (.int .i64 0))), .keep [0, 1, 5]]) (.block 0 (.gh (.loop (.ga c41_l0))))) (.seq (.reg [.op none (.mv 47 (.tmp 1)), .op none (.mv 4 (.tmp 47)), .keep [4]]) (.ret)))
def r41 : List RV := [.tmp 4]
theorem k41 : compC Try.prog 48 c41 (Try.f41.body.getD .skip) = some c41.erase := by kernel_rfl
theorem q41 : rvsOf Try.prog Try.f41.results.toList = some r41 := by kernel_rfl
def laws_markSubOutS.l0 (x0_0 : Int) (x0_1 : Int) (x0_2 : (List S66)) : Option (Int × (List S66)) := (if x0_1 < (x0_2.length : Int) then (if 0 ≤ x0_1 ∧ x0_1 < (x0_2.length : Int) then (laws_markSubFrameS.f ((rd z66 x0_2 x0_1).f1) (IntKind.i64.wrap (x0_0 + 1)) >>= fun t21 => (laws_markInt64S.f ((rd z66 x0_2 x0_1).f2) t21.1 >>= fun t28 => (laws_markSubOutS.l0 (IntKind.i64.wrap ((IntKind.i64.wrap (t28.1 + 1)) + 1)) (IntKind.i64.wrap (x0_1 + 1)) (x0_2.set x0_1.toNat (⟨x0_0, t21.2, t28.2, t28.1, IntKind.i64.wrap (t28.1 + 1)⟩ : S66))))) else none) else (some (x0_0, x0_2)))
  partial_fixpoint
def laws_markSubOutS.f (l0 : List S66) (a1 : Int) : Option (Int × (List S66)) := (laws_markSubOutS.l0 a1 0 l0 >>= fun (y45 : (Int × (List S66))) => (some (y45.1, y45.2)))
set_option maxRecDepth 100000 in
set_option maxHeartbeats 4000000 in
theorem laws_markSubOutS.l0_walk (x0_0 : Int) (x0_1 : Int) (x0_2 : (List S66)) (y : (Int × (List S66))) (h : laws_markSubOutS.l0  x0_0 x0_1 x0_2 = some y) (K : AE → St → Prop) (hx0 : K (.exit 0) ⟨[(1, .c (.sc (.int .i64 y.1)))], [(.arg 0, ⟨.lst, 5, encL c66 y.2⟩)], [], []⟩) : loopS Try.prog 48 (.ga c41_l0) K ⟨[(0, .c (.ref (.arg 0) [] 0 x0_2.length)), (1, .c (.sc (.int .i64 x0_0))), (5, .c (.sc (.int .i64 x0_1)))], [(.arg 0, ⟨.lst, 5, encL c66 x0_2⟩)], [], []⟩ := by
  refine laws_markSubOutS.l0.partial_correctness  (motive := fun x0_0 x0_1 x0_2 y => ∀ (K : AE → St → Prop), (K (.exit 0) ⟨[(1, .c (.sc (.int .i64 y.1)))], [(.arg 0, ⟨.lst, 5, encL c66 y.2⟩)], [], []⟩) → loopS Try.prog 48 (.ga c41_l0) K ⟨[(0, .c (.ref (.arg 0) [] 0 x0_2.length)), (1, .c (.sc (.int .i64 x0_0))), (5, .c (.sc (.int .i64 x0_1)))], [(.arg 0, ⟨.lst, 5, encL c66 x0_2⟩)], [], []⟩) ?_ x0_0 x0_1 x0_2 y h K hx0
  clear h hx0
  intro rec ih x0_0 x0_1 x0_2 y h K hx0
  refine loop_unroll (ga_k fun G0 G0n G0r G0x => ?_)
  unfold c41_l0
  refine seq_k fun J5 hJ5 => ?_
  refine seq_k fun J6 hJ6 => ?_
  refine reg_k ?_
  simp only [Nat.reduceEqDiff, Nat.reduceAdd, Nat.reduceMul, Nat.reduceLeDiff, Nat.reduceLT, Int.reduceLE, Int.reduceLT, Int.reduceGT, Int.reduceGE, Int.reduceEq, Int.reduceNe, Int.reduceToNat, reduceCtorEq, ak]
  refine hJ6 _ ?_
  refine cond_k (b := decide (x0_1 < (x0_2.length : Int))) rfl (fun c7 => ?_) (fun c7 => ?_)
  · replace c7 := of_decide_eq_true c7; rw [if_pos c7] at h
    refine hJ5 _ ?_
    refine seq_k fun J8 hJ8 => ?_
    refine block_k fun B9 B9n B9x B9r B9j => ?_
    refine seq_k fun J10 hJ10 => ?_
    refine reg_k ?_
    obtain ⟨b11, h⟩ := of_guard h
    have g12 : 0 + x0_1.toNat * 5 + 0 ≤ (encL c66 x0_2).length := ((Vw.whole c66_w x0_2).len_le b11.1 b11.2 (by decide))
    have g13 : 0 + x0_1.toNat * 5 + 0 + 1 ≤ (encL c66 x0_2).length := (Vw.whole c66_w x0_2).le b11.1 b11.2 (j := 0) (q := 1) (by decide)
    have g14 : 0 + x0_1.toNat * 5 + 0 < (encL c66 x0_2).length := (Vw.whole c66_w x0_2).lt b11.1 b11.2 (j := 0) (by decide)
    have g15 : (encL c66 x0_2)[0 + x0_1.toNat * 5 + 0]? = some (.sc (.int .i64 ((rd z66 x0_2 x0_1).f0))) := (Vw.whole c66_w x0_2).get z66 0 b11.1 b11.2 (by decide)
    have g16 : (encL c66 x0_2).set (0 + x0_1.toNat * 5 + 0) (.sc (.int .i64 x0_0)) = encL c66 (x0_2.set x0_1.toNat (⟨x0_0, (rd z66 x0_2 x0_1).f1, (rd z66 x0_2 x0_1).f2, (rd z66 x0_2 x0_1).f3, (rd z66 x0_2 x0_1).f4⟩ : S66)) := encL_put c66_w z66 b11.1 b11.2 (j := 0) (by decide) rfl
    simp only [Nat.reduceEqDiff, Nat.reduceAdd, Nat.reduceMul, Nat.reduceLeDiff, Nat.reduceLT, Int.reduceLE, Int.reduceLT, Int.reduceGT, Int.reduceGE, Int.reduceEq, Int.reduceNe, Int.reduceToNat, reduceCtorEq, ak, b11, g12, g13, g14, g15, g16]
    refine hJ10 _ ?_
    refine seq_k fun J17 hJ17 => ?_
    refine reg_k ?_
    simp only [Nat.reduceEqDiff, Nat.reduceAdd, Nat.reduceMul, Nat.reduceLeDiff, Nat.reduceLT, Int.reduceLE, Int.reduceLT, Int.reduceGT, Int.reduceGE, Int.reduceEq, Int.reduceNe, Int.reduceToNat, reduceCtorEq, ak]
    refine hJ17 _ ?_
    refine seq_k fun J18 hJ18 => ?_
    refine reg_k ?_
    have g19 : 0 + x0_1.toNat * 5 + 1 ≤ (encL c66 (x0_2.set x0_1.toNat (⟨x0_0, (rd z66 x0_2 x0_1).f1, (rd z66 x0_2 x0_1).f2, (rd z66 x0_2 x0_1).f3, (rd z66 x0_2 x0_1).f4⟩ : S66))).length := ((Vw.whole c66_w (x0_2.set x0_1.toNat (⟨x0_0, (rd z66 x0_2 x0_1).f1, (rd z66 x0_2 x0_1).f2, (rd z66 x0_2 x0_1).f3, (rd z66 x0_2 x0_1).f4⟩ : S66))).len_le b11.1 (lt_len b11.2 (by simp)) (by decide))
    have g20 : (encL c66 (x0_2.set x0_1.toNat (⟨x0_0, (rd z66 x0_2 x0_1).f1, (rd z66 x0_2 x0_1).f2, (rd z66 x0_2 x0_1).f3, (rd z66 x0_2 x0_1).f4⟩ : S66)))[0 + x0_1.toNat * 5 + 1]? = some (.own 3 (((rd z66 x0_2 x0_1).f1).length) (encL c68 ((rd z66 x0_2 x0_1).f1))) := encL_put_get c66_w (⟨x0_0, (rd z66 x0_2 x0_1).f1, (rd z66 x0_2 x0_1).f2, (rd z66 x0_2 x0_1).f3, (rd z66 x0_2 x0_1).f4⟩ : S66) b11.1 b11.2 (j := 1) (by decide)
    simp only [Nat.reduceEqDiff, Nat.reduceAdd, Nat.reduceMul, Nat.reduceLeDiff, Nat.reduceLT, Int.reduceLE, Int.reduceLT, Int.reduceGT, Int.reduceGE, Int.reduceEq, Int.reduceNe, Int.reduceToNat, reduceCtorEq, ak, b11, g19, g20]
    obtain ⟨t21, h22, h⟩ := of_bind h
    refine call_m [(.arg 0, ⟨(.arg 0), [0 + x0_1.toNat * 5 + 1], none, .lst⟩)] (s0 := [(.arg 0, ⟨.lst, 3, encL c68 ((rd z66 x0_2 x0_1).f1)⟩)]) (by intro t ht; cases ht; decide) rfl rfl (by first | rfl | simp only [reduceCtorEq, Nat.reduceEqDiff, ak, akF, b11, g12, g13, g14, g15, g16, g19, g20]) (laws_markSubFrameS.tri ((rd z66 x0_2 x0_1).f1) (IntKind.i64.wrap (x0_0 + 1)) _ h22) (by first | rfl | simp only [reduceCtorEq, Nat.reduceEqDiff, ak, akF]) (by simp [bkOk2, memK]) (fun hl22 => ?_)
    have g24 : t21.2.length = ((rd z66 x0_2 x0_1).f1).length := encL_len_inj c68_w (by decide) (hl22 0 (by decide) _ _ rfl rfl)
    refine call_st (s4 := [(.arg 0, ⟨.lst, 5, encL c66 (x0_2.set x0_1.toNat (⟨x0_0, t21.2, (rd z66 x0_2 x0_1).f2, (rd z66 x0_2 x0_1).f3, (rd z66 x0_2 x0_1).f4⟩ : S66))⟩)]) (m1' := []) (m2' := []) (v' := .c (.sc (.int .i64 t21.1))) (Sto.mapN_killNil _ _) (mrgL_nest' (cs := encL c68 ((rd z66 x0_2 x0_1).f1)) (cs' := encL c66 (x0_2.set x0_1.toNat (⟨x0_0, t21.2, (rd z66 x0_2 x0_1).f2, (rd z66 x0_2 x0_1).f3, (rd z66 x0_2 x0_1).f4⟩ : S66))) (mrgL_nil' _ _ _) rfl (by simp) (by rfl) (by first | rfl | simp only [reduceCtorEq, Nat.reduceEqDiff, ak, b11, g12, g13, g14, g15, g16, g19, g20]) (by decide) (by simp only [reduceCtorEq, Nat.reduceEqDiff, ak, b11, g12, g13, g14, g15, g16, g19, g20]; exact encL_mod2 c66_w b11.1 b11.2 (j := 1) (by decide) (by first | rfl | simp [c66, repl, g24]))) (by rfl) (mapT_killNil _ _) (by rfl) (by rfl) (by first | rfl | simp only [reduceCtorEq, Nat.reduceEqDiff, ak, akF, Nat.zero_add, List.append_nil, b11, g24]) ?_
    simp only [Nat.reduceEqDiff, Nat.reduceAdd, Nat.reduceMul, Nat.reduceLeDiff, Nat.reduceLT, Int.reduceLE, Int.reduceLT, Int.reduceGT, Int.reduceGE, Int.reduceEq, Int.reduceNe, Int.reduceToNat, reduceCtorEq, ak, b11, g20]
    refine hJ18 _ ?_
    refine seq_k fun J25 hJ25 => ?_
    refine reg_k ?_
    have g26 : 0 + x0_1.toNat * 5 + 2 ≤ (encL c66 (x0_2.set x0_1.toNat (⟨x0_0, t21.2, (rd z66 x0_2 x0_1).f2, (rd z66 x0_2 x0_1).f3, (rd z66 x0_2 x0_1).f4⟩ : S66))).length := ((Vw.whole c66_w (x0_2.set x0_1.toNat (⟨x0_0, t21.2, (rd z66 x0_2 x0_1).f2, (rd z66 x0_2 x0_1).f3, (rd z66 x0_2 x0_1).f4⟩ : S66))).len_le b11.1 (lt_len b11.2 (by simp [g24])) (by decide))
    have g27 : (encL c66 (x0_2.set x0_1.toNat (⟨x0_0, t21.2, (rd z66 x0_2 x0_1).f2, (rd z66 x0_2 x0_1).f3, (rd z66 x0_2 x0_1).f4⟩ : S66)))[0 + x0_1.toNat * 5 + 2]? = some (.own 1 (((rd z66 x0_2 x0_1).f2).length) (encL c_i64 ((rd z66 x0_2 x0_1).f2))) := encL_put_get c66_w (⟨x0_0, t21.2, (rd z66 x0_2 x0_1).f2, (rd z66 x0_2 x0_1).f3, (rd z66 x0_2 x0_1).f4⟩ : S66) b11.1 b11.2 (j := 2) (by decide)
    simp only [Nat.reduceEqDiff, Nat.reduceAdd, Nat.reduceMul, Nat.reduceLeDiff, Nat.reduceLT, Int.reduceLE, Int.reduceLT, Int.reduceGT, Int.reduceGE, Int.reduceEq, Int.reduceNe, Int.reduceToNat, reduceCtorEq, ak, b11, g26, g27]
    obtain ⟨t28, h29, h⟩ := of_bind h
    refine call_m [(.arg 0, ⟨(.arg 0), [0 + x0_1.toNat * 5 + 2], none, .lst⟩)] (s0 := [(.arg 0, ⟨.lst, 1, encL c_i64 ((rd z66 x0_2 x0_1).f2)⟩)]) (by intro t ht; cases ht; decide) rfl rfl (by first | rfl | simp only [reduceCtorEq, Nat.reduceEqDiff, ak, akF, b11, g12, g13, g14, g15, g16, g19, g20, g26, g27]) (laws_markInt64S.tri ((rd z66 x0_2 x0_1).f2) t21.1 _ h29) (by first | rfl | simp only [reduceCtorEq, Nat.reduceEqDiff, ak, akF]) (by simp [bkOk2, memK]) (fun hl29 => ?_)
    have g31 : t28.2.length = ((rd z66 x0_2 x0_1).f2).length := encL_len_inj c_i64_w (by decide) (hl29 0 (by decide) _ _ rfl rfl)
    refine call_st (s4 := [(.arg 0, ⟨.lst, 5, encL c66 (x0_2.set x0_1.toNat (⟨x0_0, t21.2, t28.2, (rd z66 x0_2 x0_1).f3, (rd z66 x0_2 x0_1).f4⟩ : S66))⟩)]) (m1' := []) (m2' := []) (v' := .c (.sc (.int .i64 t28.1))) (Sto.mapN_killNil _ _) (mrgL_nest' (cs := encL c_i64 ((rd z66 x0_2 x0_1).f2)) (cs' := encL c66 (x0_2.set x0_1.toNat (⟨x0_0, t21.2, t28.2, (rd z66 x0_2 x0_1).f3, (rd z66 x0_2 x0_1).f4⟩ : S66))) (mrgL_nil' _ _ _) rfl (by simp) (by rfl) (by first | rfl | simp only [reduceCtorEq, Nat.reduceEqDiff, ak, b11, g12, g13, g14, g15, g16, g19, g20, g26, g27]) (by decide) (by simp only [reduceCtorEq, Nat.reduceEqDiff, ak, b11, g12, g13, g14, g15, g16, g19, g20, g26, g27]; exact encL_mod2 c66_w b11.1 b11.2 (j := 2) (by decide) (by first | rfl | simp [c66, repl, g24, g31]))) (by rfl) (mapT_killNil _ _) (by rfl) (by rfl) (by first | rfl | simp only [reduceCtorEq, Nat.reduceEqDiff, ak, akF, Nat.zero_add, List.append_nil, b11, g24, g31]) ?_
    simp only [Nat.reduceEqDiff, Nat.reduceAdd, Nat.reduceMul, Nat.reduceLeDiff, Nat.reduceLT, Int.reduceLE, Int.reduceLT, Int.reduceGT, Int.reduceGE, Int.reduceEq, Int.reduceNe, Int.reduceToNat, reduceCtorEq, ak, b11, g27]
    refine hJ25 _ ?_
    refine seq_k fun J32 hJ32 => ?_
    refine reg_k ?_
    have g33 : 0 + x0_1.toNat * 5 + 3 ≤ (encL c66 (x0_2.set x0_1.toNat (⟨x0_0, t21.2, t28.2, (rd z66 x0_2 x0_1).f3, (rd z66 x0_2 x0_1).f4⟩ : S66))).length := ((Vw.whole c66_w (x0_2.set x0_1.toNat (⟨x0_0, t21.2, t28.2, (rd z66 x0_2 x0_1).f3, (rd z66 x0_2 x0_1).f4⟩ : S66))).len_le b11.1 (lt_len b11.2 (by simp [g24, g31])) (by decide))
    have g34 : 0 + x0_1.toNat * 5 + 3 + 1 ≤ (encL c66 (x0_2.set x0_1.toNat (⟨x0_0, t21.2, t28.2, (rd z66 x0_2 x0_1).f3, (rd z66 x0_2 x0_1).f4⟩ : S66))).length := (Vw.whole c66_w (x0_2.set x0_1.toNat (⟨x0_0, t21.2, t28.2, (rd z66 x0_2 x0_1).f3, (rd z66 x0_2 x0_1).f4⟩ : S66))).le b11.1 (lt_len b11.2 (by simp [g24, g31])) (j := 3) (q := 1) (by decide)
    have g35 : 0 + x0_1.toNat * 5 + 3 < (encL c66 (x0_2.set x0_1.toNat (⟨x0_0, t21.2, t28.2, (rd z66 x0_2 x0_1).f3, (rd z66 x0_2 x0_1).f4⟩ : S66))).length := encL_put_lt c66_w (⟨x0_0, t21.2, t28.2, (rd z66 x0_2 x0_1).f3, (rd z66 x0_2 x0_1).f4⟩ : S66) b11.1 b11.2 (j := 3) (by decide)
    have g36 : (encL c66 (x0_2.set x0_1.toNat (⟨x0_0, t21.2, t28.2, (rd z66 x0_2 x0_1).f3, (rd z66 x0_2 x0_1).f4⟩ : S66)))[0 + x0_1.toNat * 5 + 3]? = some (.sc (.int .i64 ((rd z66 x0_2 x0_1).f3))) := encL_put_get c66_w (⟨x0_0, t21.2, t28.2, (rd z66 x0_2 x0_1).f3, (rd z66 x0_2 x0_1).f4⟩ : S66) b11.1 b11.2 (j := 3) (by decide)
    have g37 : (encL c66 (x0_2.set x0_1.toNat (⟨x0_0, t21.2, t28.2, (rd z66 x0_2 x0_1).f3, (rd z66 x0_2 x0_1).f4⟩ : S66))).set (0 + x0_1.toNat * 5 + 3) (.sc (.int .i64 t28.1)) = encL c66 (x0_2.set x0_1.toNat (⟨x0_0, t21.2, t28.2, t28.1, (rd z66 x0_2 x0_1).f4⟩ : S66)) := encL_put2 c66_w b11.1 b11.2 (j := 3) (by decide) rfl
    simp only [Nat.reduceEqDiff, Nat.reduceAdd, Nat.reduceMul, Nat.reduceLeDiff, Nat.reduceLT, Int.reduceLE, Int.reduceLT, Int.reduceGT, Int.reduceGE, Int.reduceEq, Int.reduceNe, Int.reduceToNat, reduceCtorEq, ak, b11, g33, g34, g35, g36, g37]
    refine hJ32 _ ?_
    refine seq_k fun J38 hJ38 => ?_
    refine reg_k ?_
    simp only [Nat.reduceEqDiff, Nat.reduceAdd, Nat.reduceMul, Nat.reduceLeDiff, Nat.reduceLT, Int.reduceLE, Int.reduceLT, Int.reduceGT, Int.reduceGE, Int.reduceEq, Int.reduceNe, Int.reduceToNat, reduceCtorEq, ak]
    refine hJ38 _ ?_
    refine seq_k fun J39 hJ39 => ?_
    refine reg_k ?_
    have g40 : 0 + x0_1.toNat * 5 + 4 ≤ (encL c66 (x0_2.set x0_1.toNat (⟨x0_0, t21.2, t28.2, t28.1, (rd z66 x0_2 x0_1).f4⟩ : S66))).length := ((Vw.whole c66_w (x0_2.set x0_1.toNat (⟨x0_0, t21.2, t28.2, t28.1, (rd z66 x0_2 x0_1).f4⟩ : S66))).len_le b11.1 (lt_len b11.2 (by simp [g24, g31])) (by decide))
    have g41 : 0 + x0_1.toNat * 5 + 4 + 1 ≤ (encL c66 (x0_2.set x0_1.toNat (⟨x0_0, t21.2, t28.2, t28.1, (rd z66 x0_2 x0_1).f4⟩ : S66))).length := (Vw.whole c66_w (x0_2.set x0_1.toNat (⟨x0_0, t21.2, t28.2, t28.1, (rd z66 x0_2 x0_1).f4⟩ : S66))).le b11.1 (lt_len b11.2 (by simp [g24, g31])) (j := 4) (q := 1) (by decide)
    have g42 : 0 + x0_1.toNat * 5 + 4 < (encL c66 (x0_2.set x0_1.toNat (⟨x0_0, t21.2, t28.2, t28.1, (rd z66 x0_2 x0_1).f4⟩ : S66))).length := encL_put_lt c66_w (⟨x0_0, t21.2, t28.2, t28.1, (rd z66 x0_2 x0_1).f4⟩ : S66) b11.1 b11.2 (j := 4) (by decide)
    have g43 : (encL c66 (x0_2.set x0_1.toNat (⟨x0_0, t21.2, t28.2, t28.1, (rd z66 x0_2 x0_1).f4⟩ : S66)))[0 + x0_1.toNat * 5 + 4]? = some (.sc (.int .i64 ((rd z66 x0_2 x0_1).f4))) := encL_put_get c66_w (⟨x0_0, t21.2, t28.2, t28.1, (rd z66 x0_2 x0_1).f4⟩ : S66) b11.1 b11.2 (j := 4) (by decide)
    have g44 : (encL c66 (x0_2.set x0_1.toNat (⟨x0_0, t21.2, t28.2, t28.1, (rd z66 x0_2 x0_1).f4⟩ : S66))).set (0 + x0_1.toNat * 5 + 4) (.sc (.int .i64 (IntKind.i64.wrap (t28.1 + 1)))) = encL c66 (x0_2.set x0_1.toNat (⟨x0_0, t21.2, t28.2, t28.1, IntKind.i64.wrap (t28.1 + 1)⟩ : S66)) := encL_put2 c66_w b11.1 b11.2 (j := 4) (by decide) rfl
    simp only [Nat.reduceEqDiff, Nat.reduceAdd, Nat.reduceMul, Nat.reduceLeDiff, Nat.reduceLT, Int.reduceLE, Int.reduceLT, Int.reduceGT, Int.reduceGE, Int.reduceEq, Int.reduceNe, Int.reduceToNat, reduceCtorEq, ak, b11, g40, g41, g42, g43, g44]
    refine hJ39 _ ?_
    refine reg_k ?_
    simp only [Nat.reduceEqDiff, Nat.reduceAdd, Nat.reduceMul, Nat.reduceLeDiff, Nat.reduceLT, Int.reduceLE, Int.reduceLT, Int.reduceGT, Int.reduceGE, Int.reduceEq, Int.reduceNe, Int.reduceToNat, reduceCtorEq, ak]
    refine B9n _ ?_
    refine hJ8 _ ?_
    refine reg_k ?_
    simp only [Nat.reduceEqDiff, Nat.reduceAdd, Nat.reduceMul, Nat.reduceLeDiff, Nat.reduceLT, Int.reduceLE, Int.reduceLT, Int.reduceGT, Int.reduceGE, Int.reduceEq, Int.reduceNe, Int.reduceToNat, reduceCtorEq, ak]
    refine G0n _ (⟨[(0, .c (.ref (.arg 0) [] 0 ((x0_2.set x0_1.toNat (⟨x0_0, t21.2, t28.2, t28.1, IntKind.i64.wrap (t28.1 + 1)⟩ : S66)).length))), (1, .c (.sc (.int .i64 (IntKind.i64.wrap ((IntKind.i64.wrap (t28.1 + 1)) + 1))))), (5, .c (.sc (.int .i64 (IntKind.i64.wrap (x0_1 + 1)))))], [(.arg 0, ⟨.lst, 5, encL c66 (x0_2.set x0_1.toNat (⟨x0_0, t21.2, t28.2, t28.1, IntKind.i64.wrap (t28.1 + 1)⟩ : S66))⟩)], [], []⟩) (((Weak.keep [0, 1, 5]).trans ((Weak.foc [(.arg 0, ⟨(.arg 0), [], none, .lst⟩)] rfl (by first | rfl | simp only [reduceCtorEq, Nat.reduceEqDiff, ak, akF, b11, g24, g31]) (by simp [argK, akG, ak])).trans (Weak.of_eq (by first | rfl | (simp only [reduceCtorEq, Nat.reduceEqDiff, ak, akF, b11, g24, g31]; done) | (simp [reduceCtorEq, Nat.reduceEqDiff, ak, akF, b11, g24, g31]; done)))))) (ih _ _ _ _ h K hx0)
  · replace c7 := of_decide_eq_false c7; rw [if_neg c7] at h
    obtain rfl := Option.some.inj h
    refine gh_k (st' := ⟨[(1, .c (.sc (.int .i64 x0_0)))], [(.arg 0, ⟨.lst, 5, encL c66 x0_2⟩)], [], []⟩) (((Weak.keep [1]).trans ((Weak.foc [(.arg 0, ⟨(.arg 0), [], none, .lst⟩)] rfl (by first | rfl | simp only [reduceCtorEq, Nat.reduceEqDiff, ak, akF]) (by simp [argK, akG, ak])).trans (Weak.of_eq (by first | rfl | (simp only [reduceCtorEq, Nat.reduceEqDiff, ak, akF]; done) | (simp [reduceCtorEq, Nat.reduceEqDiff, ak, akF]; done)))))) ?_
    refine G0x _ _ ?_
    exact hx0
set_option maxRecDepth 100000 in
set_option maxHeartbeats 4000000 in
theorem laws_markSubOutS.tri (l0 : List S66) (a1 : Int) (r : Int × (List S66)) (h : laws_markSubOutS.f l0 a1 = some r) : Tri Try.prog 41 [.c (.ref (.arg 0) [] 0 l0.length), .c (.sc (.int .i64 a1))] [(.arg 0, ⟨.lst, 5, encL c66 l0⟩)] (fun o => o = ⟨.c (.sc (.int .i64 r.1)), [(.arg 0, ⟨.lst, 5, encL c66 r.2⟩)], [], []⟩) := by
  refine tri_of_body (ac := c41) (xs := r41) Try.func41 (show Try.f41.body = some (Try.f41.body.getD .skip) from rfl) k41 q41 (Nat.le_of_ble_eq_true rfl) ?_
  refine body_of fun K hKn hKr => ?_
  unfold laws_markSubOutS.f at h
  unfold c41
  simp only [initT, Nat.reduceAdd]
  refine seq_k fun J1 hJ1 => ?_
  refine reg_k ?_
  simp only [Nat.reduceEqDiff, Nat.reduceAdd, Nat.reduceMul, Nat.reduceLeDiff, Nat.reduceLT, Int.reduceLE, Int.reduceLT, Int.reduceGT, Int.reduceGE, Int.reduceEq, Int.reduceNe, Int.reduceToNat, reduceCtorEq, ak]
  refine hJ1 _ ?_
  refine seq_k fun J2 hJ2 => ?_
  refine seq_k fun J3 hJ3 => ?_
  refine reg_k ?_
  simp only [Nat.reduceEqDiff, Nat.reduceAdd, Nat.reduceMul, Nat.reduceLeDiff, Nat.reduceLT, Int.reduceLE, Int.reduceLT, Int.reduceGT, Int.reduceGE, Int.reduceEq, Int.reduceNe, Int.reduceToNat, reduceCtorEq, ak]
  refine hJ3 _ ?_
  refine block_k fun B4 B4n B4x B4r B4j => ?_
  obtain ⟨y45, h46, h⟩ := of_bind h
  refine gh_k (st' := ⟨[(0, .c (.ref (.arg 0) [] 0 l0.length)), (1, .c (.sc (.int .i64 a1))), (5, .c (.sc (.int .i64 0)))], [(.arg 0, ⟨.lst, 5, encL c66 l0⟩)], [], []⟩) (((Weak.keep [0, 1, 5]).trans ((Weak.foc [(.arg 0, ⟨(.arg 0), [], none, .lst⟩)] rfl (by first | rfl | simp only [reduceCtorEq, Nat.reduceEqDiff, ak, akF]) (by simp [argK, akG, ak])).trans (Weak.of_eq (by first | rfl | (simp only [reduceCtorEq, Nat.reduceEqDiff, ak, akF]; done) | (simp [reduceCtorEq, Nat.reduceEqDiff, ak, akF]; done)))))) ?_
  rw [e_loop]
  refine laws_markSubOutS.l0_walk a1 0 l0 _ h46 _ ?_
  refine B4x _ ?_
  refine hJ2 _ ?_
  refine seq_k fun J47 hJ47 => ?_
  refine reg_k ?_
  simp only [Nat.reduceEqDiff, Nat.reduceAdd, Nat.reduceMul, Nat.reduceLeDiff, Nat.reduceLT, Int.reduceLE, Int.reduceLT, Int.reduceGT, Int.reduceGE, Int.reduceEq, Int.reduceNe, Int.reduceToNat, reduceCtorEq, ak]
  refine hJ47 _ ?_
  obtain rfl := Option.some.inj h
  refine hKr _ ⟨_, rfl, [], _, rfl, rfl, ?_⟩
  first | rfl | (simp only [reduceCtorEq, Nat.reduceEqDiff, ak, akF]; done) | (simp [reduceCtorEq, Nat.reduceEqDiff, ak, akF]; done)
/-! ### laws.heldSubFrameS: function 95 -/
def c95_l0 : AC := .seq (.seq (.reg [.op none (.mv 6 (.tmp 5)), .op none (.mv 7 (.tmp 0)), .op none (.len 8 (.tmp 7)), .op none (.bin 9 .lss (.tmp 6) (.tmp 8)), .keep [0, 1, 5, 9]]) (.cond (.tmp 9) (.skip) (.gh (.exit 0)))) (.seq (.block 1 (.seq (.seq (.reg [.op none (.mv 12 (.tmp 0)), .op none (.mv 13 (.tmp 5)), .op none (.iaddr 14 3 (.tmp 12) (.tmp 13)), .op none (.faddr 15 0 (.tmp 14)), .op none (.load 16 false 1 (.tmp 15)), .op none (.mv 17 (.tmp 1)), .op none (.bin 18 .neq (.tmp 16) (.tmp 17)), .keep [0, 1, 5, 18]]) (.cond (.tmp 18) (.seq (.reg [.op none (.mv 4 (.const (.int .i64 (-1)))), .keep [4]]) (.gh .ret)) (.skip))) (.seq (.reg [.op none (.mv 19 (.tmp 1)), .op none (.bin 20 .add (.tmp 19) (.const (.int .i64 1))), .op none (.mv 1 (.tmp 20)), .keep [0, 1, 5]]) (.seq (.seq (.reg [.op none (.mv 21 (.tmp 0)), .op none (.mv 22 (.tmp 5)), .op none (.iaddr 23 3 (.tmp 21) (.tmp 22)), .op none (.faddr 24 1 (.tmp 23)), .op none (.load 25 false 1 (.tmp 24)), .op none (.mv 26 (.tmp 1)), .op none (.conv 27 .u32 (.tmp 26)), .op none (.bin 28 .neq (.tmp 25) (.tmp 27)), .keep [0, 1, 5, 28]]) (.cond (.tmp 28) (.seq (.reg [.op none (.mv 4 (.const (.int .i64 (-1)))), .keep [4]]) (.gh .ret)) (.skip))) (.seq (.reg [.op none (.mv 29 (.tmp 1)), .op none (.bin 30 .add (.tmp 29) (.const (.int .i64 1))), .op none (.mv 1 (.tmp 30)), .keep [0, 1, 5]]) (.seq (.seq (.reg [.op none (.mv 31 (.tmp 0)), .op none (.mv 32 (.tmp 5)), .op none (.iaddr 33 3 (.tmp 31) (.tmp 32)), .op none (.faddr 34 2 (.tmp 33)), .op none (.load 35 false 1 (.tmp 34)), .op none (.mv 36 (.tmp 1)), .op none (.bin 37 .neq (.tmp 35) (.tmp 36)), .keep [0, 1, 5, 37]]) (.cond (.tmp 37) (.seq (.reg [.op none (.mv 4 (.const (.int .i64 (-1)))), .keep [4]]) (.gh .ret)) (.skip))) (.reg [.op none (.mv 38 (.tmp 1)), .op none (.bin 39 .add (.tmp 38) (.const (.int .i64 1))), .op none (.mv 1 (.tmp 39)), .keep [0, 1, 5]]))))))) (.reg [.op none (.mv 10 (.tmp 5)), .op none (.bin 11 .add (.tmp 10) (.const (.int .i64 1))), .op none (.mv 5 (.tmp 11)), .keep [0, 1, 5]]))
def c95 : AC := .seq (.reg [.op none (.mv 4 (.const (.int .i64 0))), .keep [0, 1]]) (.seq (.seq (.reg [.op none (.mv 5 (.const (.int .i64 0))), .keep [0, 1, 5]]) (.block 0 (.gh (.loop (.ga c95_l0))))) (.seq (.reg [.op none (.mv 40 (.tmp 1)), .op none (.mv 4 (.tmp 40)), .keep [4]]) (.ret)))
def r95 : List RV := [.tmp 4]
theorem k95 : compC Try.prog 41 c95 (Try.f95.body.getD .skip) = some c95.erase := by kernel_rfl
theorem q95 : rvsOf Try.prog Try.f95.results.toList = some r95 := by kernel_rfl
def laws_heldSubFrameS.l0 (l0 : List S68) (x0_0 : Int) (x0_1 : Int) : Option (Lp Int Unit) := (if x0_1 < (l0.length : Int) then (if 0 ≤ x0_1 ∧ x0_1 < (l0.length : Int) then (if (rd z68 l0 x0_1).f0 ≠ x0_0 then (some (.b ())) else (if (rd z68 l0 x0_1).f1 ≠ IntKind.u32.wrap (IntKind.i64.wrap (x0_0 + 1)) then (some (.b ())) else (if (rd z68 l0 x0_1).f2 ≠ IntKind.i64.wrap ((IntKind.i64.wrap (x0_0 + 1)) + 1) then (some (.b ())) else (laws_heldSubFrameS.l0 l0 (IntKind.i64.wrap ((IntKind.i64.wrap ((IntKind.i64.wrap (x0_0 + 1)) + 1)) + 1)) (IntKind.i64.wrap (x0_1 + 1)))))) else none) else (some (.a x0_0)))
  partial_fixpoint
def laws_heldSubFrameS.f (l0 : List S68) (a1 : Int) : Option Int := (laws_heldSubFrameS.l0 l0 a1 0 >>= fun (y31 : Lp Int Unit) => match y31 with | .a x33 => (some x33) | .b x33 => (some (-1)))
set_option maxRecDepth 100000 in
set_option maxHeartbeats 4000000 in
theorem laws_heldSubFrameS.l0_walk (cs0 : List Cell) (o0 : Nat) (l0 : List S68) (hv0 : Vw c68 3 cs0 o0 l0) (x0_0 : Int) (x0_1 : Int) (y : Lp Int Unit) (h : laws_heldSubFrameS.l0 l0 x0_0 x0_1 = some y) (K : AE → St → Prop) (hx0 : ∀ x, y = .a x → K (.exit 0) ⟨[(1, .c (.sc (.int .i64 x)))], [(.arg 0, ⟨.fz, 3, cs0⟩)], [], []⟩) (hx1 : ∀ x, y = .b x → K .ret ⟨[(4, .c (.sc (.int .i64 (-1))))], [(.arg 0, ⟨.fz, 3, cs0⟩)], [], []⟩) : loopS Try.prog 41 (.ga c95_l0) K ⟨[(0, .c (.ref (.arg 0) [] o0 l0.length)), (1, .c (.sc (.int .i64 x0_0))), (5, .c (.sc (.int .i64 x0_1)))], [(.arg 0, ⟨.fz, 3, cs0⟩)], [], []⟩ := by
  refine laws_heldSubFrameS.l0.partial_correctness l0 (motive := fun x0_0 x0_1 y => ∀ (K : AE → St → Prop), (∀ x, y = .a x → K (.exit 0) ⟨[(1, .c (.sc (.int .i64 x)))], [(.arg 0, ⟨.fz, 3, cs0⟩)], [], []⟩) → (∀ x, y = .b x → K .ret ⟨[(4, .c (.sc (.int .i64 (-1))))], [(.arg 0, ⟨.fz, 3, cs0⟩)], [], []⟩) → loopS Try.prog 41 (.ga c95_l0) K ⟨[(0, .c (.ref (.arg 0) [] o0 l0.length)), (1, .c (.sc (.int .i64 x0_0))), (5, .c (.sc (.int .i64 x0_1)))], [(.arg 0, ⟨.fz, 3, cs0⟩)], [], []⟩) ?_ x0_0 x0_1 y h K hx0 hx1
  clear h hx0 hx1
  intro rec ih x0_0 x0_1 y h K hx0 hx1
  refine loop_unroll (ga_k fun G0 G0n G0r G0x => ?_)
  unfold c95_l0
  refine seq_k fun J5 hJ5 => ?_
  refine seq_k fun J6 hJ6 => ?_
  refine reg_k ?_
  simp only [Nat.reduceEqDiff, Nat.reduceAdd, Nat.reduceMul, Nat.reduceLeDiff, Nat.reduceLT, Int.reduceLE, Int.reduceLT, Int.reduceGT, Int.reduceGE, Int.reduceEq, Int.reduceNe, Int.reduceToNat, reduceCtorEq, ak]
  refine hJ6 _ ?_
  refine cond_k (b := decide (x0_1 < (l0.length : Int))) rfl (fun c7 => ?_) (fun c7 => ?_)
  · replace c7 := of_decide_eq_true c7; rw [if_pos c7] at h
    refine hJ5 _ ?_
    refine seq_k fun J8 hJ8 => ?_
    refine block_k fun B9 B9n B9x B9r B9j => ?_
    refine seq_k fun J10 hJ10 => ?_
    refine seq_k fun J11 hJ11 => ?_
    refine reg_k ?_
    obtain ⟨b12, h⟩ := of_guard h
    have g13 : o0 + x0_1.toNat * 3 + 0 ≤ (cs0).length := (hv0.len_le b12.1 b12.2 (by decide))
    have g14 : (cs0)[o0 + x0_1.toNat * 3 + 0]? = some (.sc (.int .i64 ((rd z68 l0 x0_1).f0))) := hv0.get z68 0 b12.1 b12.2 (by decide)
    simp only [Nat.reduceEqDiff, Nat.reduceAdd, Nat.reduceMul, Nat.reduceLeDiff, Nat.reduceLT, Int.reduceLE, Int.reduceLT, Int.reduceGT, Int.reduceGE, Int.reduceEq, Int.reduceNe, Int.reduceToNat, reduceCtorEq, ak, b12, g13, g14]
    refine hJ11 _ ?_
    refine cond_k (b := decide ((rd z68 l0 x0_1).f0 ≠ x0_0)) rfl (fun c15 => ?_) (fun c15 => ?_)
    · replace c15 := of_decide_eq_true c15; rw [if_pos c15] at h
      refine seq_k fun J16 hJ16 => ?_
      refine reg_k ?_
      simp only [Nat.reduceEqDiff, Nat.reduceAdd, Nat.reduceMul, Nat.reduceLeDiff, Nat.reduceLT, Int.reduceLE, Int.reduceLT, Int.reduceGT, Int.reduceGE, Int.reduceEq, Int.reduceNe, Int.reduceToNat, reduceCtorEq, ak]
      refine hJ16 _ ?_
      obtain rfl := Option.some.inj h
      refine gh_k (st' := ⟨[(4, .c (.sc (.int .i64 (-1))))], [(.arg 0, ⟨.fz, 3, cs0⟩)], [], []⟩) (((Weak.keep [4]).trans ((Weak.foc [(.arg 0, ⟨(.arg 0), [], none, .fz⟩)] rfl (by first | rfl | simp only [reduceCtorEq, Nat.reduceEqDiff, ak, akF, b12]) (by simp [argK, akG, ak])).trans (Weak.of_eq (by first | rfl | (simp only [reduceCtorEq, Nat.reduceEqDiff, ak, akF, b12]; done) | (simp [reduceCtorEq, Nat.reduceEqDiff, ak, akF, b12]; done)))))) ?_
      refine B9r _ ?_
      refine G0r _ ?_
      exact hx1 _ rfl
    · replace c15 := of_decide_eq_false c15; rw [if_neg c15] at h
      refine hJ10 _ ?_
      refine seq_k fun J17 hJ17 => ?_
      refine reg_k ?_
      simp only [Nat.reduceEqDiff, Nat.reduceAdd, Nat.reduceMul, Nat.reduceLeDiff, Nat.reduceLT, Int.reduceLE, Int.reduceLT, Int.reduceGT, Int.reduceGE, Int.reduceEq, Int.reduceNe, Int.reduceToNat, reduceCtorEq, ak]
      refine hJ17 _ ?_
      refine seq_k fun J18 hJ18 => ?_
      refine seq_k fun J19 hJ19 => ?_
      refine reg_k ?_
      have g20 : o0 + x0_1.toNat * 3 + 1 ≤ (cs0).length := (hv0.len_le b12.1 b12.2 (by decide))
      have g21 : (cs0)[o0 + x0_1.toNat * 3 + 1]? = some (.sc (.int .u32 ((rd z68 l0 x0_1).f1))) := hv0.get z68 1 b12.1 b12.2 (by decide)
      simp only [Nat.reduceEqDiff, Nat.reduceAdd, Nat.reduceMul, Nat.reduceLeDiff, Nat.reduceLT, Int.reduceLE, Int.reduceLT, Int.reduceGT, Int.reduceGE, Int.reduceEq, Int.reduceNe, Int.reduceToNat, reduceCtorEq, ak, b12, g20, g21]
      refine hJ19 _ ?_
      refine cond_k (b := decide ((rd z68 l0 x0_1).f1 ≠ IntKind.u32.wrap (IntKind.i64.wrap (x0_0 + 1)))) rfl (fun c22 => ?_) (fun c22 => ?_)
      · replace c22 := of_decide_eq_true c22; rw [if_pos c22] at h
        refine seq_k fun J23 hJ23 => ?_
        refine reg_k ?_
        simp only [Nat.reduceEqDiff, Nat.reduceAdd, Nat.reduceMul, Nat.reduceLeDiff, Nat.reduceLT, Int.reduceLE, Int.reduceLT, Int.reduceGT, Int.reduceGE, Int.reduceEq, Int.reduceNe, Int.reduceToNat, reduceCtorEq, ak]
        refine hJ23 _ ?_
        obtain rfl := Option.some.inj h
        refine gh_k (st' := ⟨[(4, .c (.sc (.int .i64 (-1))))], [(.arg 0, ⟨.fz, 3, cs0⟩)], [], []⟩) (((Weak.keep [4]).trans ((Weak.foc [(.arg 0, ⟨(.arg 0), [], none, .fz⟩)] rfl (by first | rfl | simp only [reduceCtorEq, Nat.reduceEqDiff, ak, akF, b12]) (by simp [argK, akG, ak])).trans (Weak.of_eq (by first | rfl | (simp only [reduceCtorEq, Nat.reduceEqDiff, ak, akF, b12]; done) | (simp [reduceCtorEq, Nat.reduceEqDiff, ak, akF, b12]; done)))))) ?_
        refine B9r _ ?_
        refine G0r _ ?_
        exact hx1 _ rfl
      · replace c22 := of_decide_eq_false c22; rw [if_neg c22] at h
        refine hJ18 _ ?_
        refine seq_k fun J24 hJ24 => ?_
        refine reg_k ?_
        simp only [Nat.reduceEqDiff, Nat.reduceAdd, Nat.reduceMul, Nat.reduceLeDiff, Nat.reduceLT, Int.reduceLE, Int.reduceLT, Int.reduceGT, Int.reduceGE, Int.reduceEq, Int.reduceNe, Int.reduceToNat, reduceCtorEq, ak]
        refine hJ24 _ ?_
        refine seq_k fun J25 hJ25 => ?_
        refine seq_k fun J26 hJ26 => ?_
        refine reg_k ?_
        have g27 : o0 + x0_1.toNat * 3 + 2 ≤ (cs0).length := (hv0.len_le b12.1 b12.2 (by decide))
        have g28 : (cs0)[o0 + x0_1.toNat * 3 + 2]? = some (.sc (.int .i64 ((rd z68 l0 x0_1).f2))) := hv0.get z68 2 b12.1 b12.2 (by decide)
        simp only [Nat.reduceEqDiff, Nat.reduceAdd, Nat.reduceMul, Nat.reduceLeDiff, Nat.reduceLT, Int.reduceLE, Int.reduceLT, Int.reduceGT, Int.reduceGE, Int.reduceEq, Int.reduceNe, Int.reduceToNat, reduceCtorEq, ak, b12, g27, g28]
        refine hJ26 _ ?_
        refine cond_k (b := decide ((rd z68 l0 x0_1).f2 ≠ IntKind.i64.wrap ((IntKind.i64.wrap (x0_0 + 1)) + 1))) rfl (fun c29 => ?_) (fun c29 => ?_)
        · replace c29 := of_decide_eq_true c29; rw [if_pos c29] at h
          refine seq_k fun J30 hJ30 => ?_
          refine reg_k ?_
          simp only [Nat.reduceEqDiff, Nat.reduceAdd, Nat.reduceMul, Nat.reduceLeDiff, Nat.reduceLT, Int.reduceLE, Int.reduceLT, Int.reduceGT, Int.reduceGE, Int.reduceEq, Int.reduceNe, Int.reduceToNat, reduceCtorEq, ak]
          refine hJ30 _ ?_
          obtain rfl := Option.some.inj h
          refine gh_k (st' := ⟨[(4, .c (.sc (.int .i64 (-1))))], [(.arg 0, ⟨.fz, 3, cs0⟩)], [], []⟩) (((Weak.keep [4]).trans ((Weak.foc [(.arg 0, ⟨(.arg 0), [], none, .fz⟩)] rfl (by first | rfl | simp only [reduceCtorEq, Nat.reduceEqDiff, ak, akF, b12]) (by simp [argK, akG, ak])).trans (Weak.of_eq (by first | rfl | (simp only [reduceCtorEq, Nat.reduceEqDiff, ak, akF, b12]; done) | (simp [reduceCtorEq, Nat.reduceEqDiff, ak, akF, b12]; done)))))) ?_
          refine B9r _ ?_
          refine G0r _ ?_
          exact hx1 _ rfl
        · replace c29 := of_decide_eq_false c29; rw [if_neg c29] at h
          refine hJ25 _ ?_
          refine reg_k ?_
          simp only [Nat.reduceEqDiff, Nat.reduceAdd, Nat.reduceMul, Nat.reduceLeDiff, Nat.reduceLT, Int.reduceLE, Int.reduceLT, Int.reduceGT, Int.reduceGE, Int.reduceEq, Int.reduceNe, Int.reduceToNat, reduceCtorEq, ak]
          refine B9n _ ?_
          refine hJ8 _ ?_
          refine reg_k ?_
          simp only [Nat.reduceEqDiff, Nat.reduceAdd, Nat.reduceMul, Nat.reduceLeDiff, Nat.reduceLT, Int.reduceLE, Int.reduceLT, Int.reduceGT, Int.reduceGE, Int.reduceEq, Int.reduceNe, Int.reduceToNat, reduceCtorEq, ak]
          refine G0n _ (⟨[(0, .c (.ref (.arg 0) [] o0 l0.length)), (1, .c (.sc (.int .i64 (IntKind.i64.wrap ((IntKind.i64.wrap ((IntKind.i64.wrap (x0_0 + 1)) + 1)) + 1))))), (5, .c (.sc (.int .i64 (IntKind.i64.wrap (x0_1 + 1)))))], [(.arg 0, ⟨.fz, 3, cs0⟩)], [], []⟩) (((Weak.keep [0, 1, 5]).trans ((Weak.foc [(.arg 0, ⟨(.arg 0), [], none, .fz⟩)] rfl (by first | rfl | simp only [reduceCtorEq, Nat.reduceEqDiff, ak, akF, b12]) (by simp [argK, akG, ak])).trans (Weak.of_eq (by first | rfl | (simp only [reduceCtorEq, Nat.reduceEqDiff, ak, akF, b12]; done) | (simp [reduceCtorEq, Nat.reduceEqDiff, ak, akF, b12]; done)))))) (ih _ _ _ h K hx0 hx1)
  · replace c7 := of_decide_eq_false c7; rw [if_neg c7] at h
    obtain rfl := Option.some.inj h
    refine gh_k (st' := ⟨[(1, .c (.sc (.int .i64 x0_0)))], [(.arg 0, ⟨.fz, 3, cs0⟩)], [], []⟩) (((Weak.keep [1]).trans ((Weak.foc [(.arg 0, ⟨(.arg 0), [], none, .fz⟩)] rfl (by first | rfl | simp only [reduceCtorEq, Nat.reduceEqDiff, ak, akF]) (by simp [argK, akG, ak])).trans (Weak.of_eq (by first | rfl | (simp only [reduceCtorEq, Nat.reduceEqDiff, ak, akF]; done) | (simp [reduceCtorEq, Nat.reduceEqDiff, ak, akF]; done)))))) ?_
    refine G0x _ _ ?_
    exact hx0 _ rfl
set_option maxRecDepth 100000 in
set_option maxHeartbeats 4000000 in
theorem laws_heldSubFrameS.tri (cs0 : List Cell) (o0 : Nat) (l0 : List S68) (hv0 : Vw c68 3 cs0 o0 l0) (a1 : Int) (r : Int) (h : laws_heldSubFrameS.f l0 a1 = some r) : Tri Try.prog 95 [.c (.ref (.arg 0) [] o0 l0.length), .c (.sc (.int .i64 a1))] [(.arg 0, ⟨.fz, 3, cs0⟩)] (fun o => o = ⟨.c (.sc (.int .i64 r)), [(.arg 0, ⟨.fz, 3, cs0⟩)], [], []⟩) := by
  refine tri_of_body (ac := c95) (xs := r95) Try.func95 (show Try.f95.body = some (Try.f95.body.getD .skip) from rfl) k95 q95 (Nat.le_of_ble_eq_true rfl) ?_
  refine body_of fun K hKn hKr => ?_
  unfold laws_heldSubFrameS.f at h
  unfold c95
  simp only [initT, Nat.reduceAdd]
  refine seq_k fun J1 hJ1 => ?_
  refine reg_k ?_
  simp only [Nat.reduceEqDiff, Nat.reduceAdd, Nat.reduceMul, Nat.reduceLeDiff, Nat.reduceLT, Int.reduceLE, Int.reduceLT, Int.reduceGT, Int.reduceGE, Int.reduceEq, Int.reduceNe, Int.reduceToNat, reduceCtorEq, ak]
  refine hJ1 _ ?_
  refine seq_k fun J2 hJ2 => ?_
  refine seq_k fun J3 hJ3 => ?_
  refine reg_k ?_
  simp only [Nat.reduceEqDiff, Nat.reduceAdd, Nat.reduceMul, Nat.reduceLeDiff, Nat.reduceLT, Int.reduceLE, Int.reduceLT, Int.reduceGT, Int.reduceGE, Int.reduceEq, Int.reduceNe, Int.reduceToNat, reduceCtorEq, ak]
  refine hJ3 _ ?_
  refine block_k fun B4 B4n B4x B4r B4j => ?_
  obtain ⟨y31, h32, h⟩ := of_bind h
  refine gh_k (st' := ⟨[(0, .c (.ref (.arg 0) [] o0 l0.length)), (1, .c (.sc (.int .i64 a1))), (5, .c (.sc (.int .i64 0)))], [(.arg 0, ⟨.fz, 3, cs0⟩)], [], []⟩) (((Weak.keep [0, 1, 5]).trans ((Weak.foc [(.arg 0, ⟨(.arg 0), [], none, .fz⟩)] rfl (by first | rfl | simp only [reduceCtorEq, Nat.reduceEqDiff, ak, akF]) (by simp [argK, akG, ak])).trans (Weak.of_eq (by first | rfl | (simp only [reduceCtorEq, Nat.reduceEqDiff, ak, akF]; done) | (simp [reduceCtorEq, Nat.reduceEqDiff, ak, akF]; done)))))) ?_
  rw [e_loop]
  refine laws_heldSubFrameS.l0_walk cs0 o0 l0 hv0 a1 0 _ h32 _ ?_ ?_
  · rintro x33 rfl
    dsimp only at h
    refine B4x _ ?_
    refine hJ2 _ ?_
    refine seq_k fun J34 hJ34 => ?_
    refine reg_k ?_
    simp only [Nat.reduceEqDiff, Nat.reduceAdd, Nat.reduceMul, Nat.reduceLeDiff, Nat.reduceLT, Int.reduceLE, Int.reduceLT, Int.reduceGT, Int.reduceGE, Int.reduceEq, Int.reduceNe, Int.reduceToNat, reduceCtorEq, ak]
    refine hJ34 _ ?_
    obtain rfl := Option.some.inj h
    refine hKr _ ⟨_, rfl, [], _, rfl, rfl, ?_⟩
    first | rfl | (simp only [reduceCtorEq, Nat.reduceEqDiff, ak, akF]; done) | (simp [reduceCtorEq, Nat.reduceEqDiff, ak, akF]; done)
  · rintro x33 rfl
    dsimp only at h
    refine B4r _ ?_
    obtain rfl := Option.some.inj h
    refine hKr _ ⟨_, rfl, [], _, rfl, rfl, ?_⟩
    first | rfl | (simp only [reduceCtorEq, Nat.reduceEqDiff, ak, akF]; done) | (simp [reduceCtorEq, Nat.reduceEqDiff, ak, akF]; done)
end Go.AK
