-- by a program of this session (wip/ak/pw.py)
import Derived.Test.YtlladicdmmdboaaUFnDeath1
set_option synthInstance.maxSize 20000
set_option synthInstance.maxHeartbeats 400000
set_option maxRecDepth 100000
set_option maxHeartbeats 4000000
set_option linter.unusedVariables false
set_option linter.unusedSimpArgs false
namespace Go.AK
open Go Go.Proofs
/-! ### impl.subAfter: function 87 -/
def C87_l0 : AC := .seq (.reg [.op none (.bin 23 .lss (.tmp 22) (.tmp 21)), .keep [7, 8, 20, 21, 22, 23]]) (.seq (.cond (.tmp 23) (.skip) (.gh (.exit 0))) (.seq (.ga (.block 1 (.seq (.reg [.op none (.iaddr 24 3 (.tmp 20) (.tmp 22)), .op none (.load 25 true 3 (.tmp 24)), .op none (.alloc 10 [.int .i64 0, .int .i64 0, .int .u32 0]), .op none (.store 3 (.tmp 10) (.tmp 25)), .keep [7, 8, 10, 20, 21, 22]]) (.seq (.reg [.op none (.mv 11 (.const (.nilIface))), .keep [7, 8, 10, 20, 21, 22]]) (.seq (.seq (.reg [.op none (.faddr 26 0 (.tmp 10)), .op none (.load 27 false 1 (.tmp 26)), .keep [7, 8, 10, 20, 21, 22, 27]]) (.block 2 (.seq (.reg [.op none (.bin 33 .eql (.tmp 27) (.const (.int .i64 1))), .op none (.mv 32 (.tmp 33)), .keep [7, 8, 10, 20, 21, 22, 27, 32]]) (.cond (.tmp 32) (.reg [.op none (.faddr 34 1 (.tmp 10)), .op none (.load 35 false 1 (.tmp 34)), .op none (.build 36 [.int .i64 0] [(0, 1, .tmp 35)]), .op none (.mki 37 219 (.tmp 36)), .op none (.mv 11 (.tmp 37)), .keep [7, 8, 11, 20, 21, 22]]) (.seq (.reg [.op none (.bin 39 .eql (.tmp 27) (.const (.int .i64 2))), .op none (.mv 38 (.tmp 39)), .keep [7, 8, 10, 20, 21, 22, 27, 38]]) (.cond (.tmp 38) (.reg [.op none (.faddr 40 2 (.tmp 10)), .op none (.load 41 false 1 (.tmp 40)), .op none (.build 42 [.int .u32 0] [(0, 1, .tmp 41)]), .op none (.mki 43 221 (.tmp 42)), .op none (.mv 11 (.tmp 43)), .keep [7, 8, 11, 20, 21, 22]]) (.seq (.reg [.op none (.bin 45 .eql (.tmp 27) (.const (.int .i64 3))), .op none (.mv 44 (.tmp 45)), .keep [7, 8, 20, 21, 22, 44]]) (.cond (.tmp 44) (.reg [.op none (.build 46 [] []), .op none (.mki 47 223 (.tmp 46)), .op none (.mv 11 (.tmp 47)), .keep [7, 8, 11, 20, 21, 22]]) (.seq (.reg [.op none (.mv 28 (.tmp 8)), .op none (.build 29 [.int .i64 0, .slice none 0 0, .slice none 0 0, .int .i64 0, .int .i64 0] [(0, 1, .const (.int .i64 1))]), .gh, .op none (.bslice 30 5 [.int .i64 0, .slice none 0 0, .slice none 0 0, .int .i64 0, .int .i64 0] 1 [(0, .tmp 29)]), .gh, .op none (.app 31 5 72 true (.tmp 28) (.tmp 30)), .op none (.mv 8 (.tmp 31)), .keep [7, 8, 20, 21, 22]]) (.exit 1)))))))))) (.reg [.op none (.mv 48 (.tmp 8)), .op none (.mv 49 (.tmp 7)), .op none (.mv 50 (.tmp 11)), .call none (some 51) 133 [.tmp 49, .tmp 50], .op none (.bslice 52 5 [.int .i64 0, .slice none 0 0, .slice none 0 0, .int .i64 0, .int .i64 0] 1 [(0, .tmp 51)]), .gh, .op none (.app 53 5 72 true (.tmp 48) (.tmp 52)), .op none (.mv 8 (.tmp 53)), .keep [7, 8, 20, 21, 22]])))))) (.reg [.op none (.bin 54 .add (.tmp 22) (.const (.int .i64 1))), .op none (.mv 22 (.tmp 54)), .keep [7, 8, 20, 21, 22]])))
def C87 : AC := .seq (.reg [.op none (.box 2 (.tmp 0)), .op none (.mv 4 (.const (.pointer none))), .op none (.mv 5 (.const (.slice none 0 0))), .gh, .op none (.mv 6 (.const (.int .i64 0))), .keep [1, 2]]) (.seq (.seq (.reg [.op none (.load 12 true 6 (.tmp 2)), .call none (some 13) 131 [.tmp 12], .op none (.un 14 .not (.tmp 13)), .keep [1, 2, 14]]) (.cond (.tmp 14) (.seq (.reg [.op none (.mv 4 (.const (.pointer none))), .op none (.mv 5 (.const (.slice none 0 0))), .gh, .op none (.mv 6 (.const (.int .i64 17))), .keep [4, 5, 6]]) (.ret)) (.skip))) (.seq (.seq (.reg [.op none (.mv 15 (.tmp 1)), .op none (.len 16 (.tmp 15)), .op none (.bin 17 .gtr (.tmp 16) (.const (.int .i64 4000))), .keep [1, 2, 17]]) (.cond (.tmp 17) (.seq (.reg [.op none (.mv 4 (.const (.pointer none))), .op none (.mv 5 (.const (.slice none 0 0))), .gh, .op none (.mv 6 (.const (.int .i64 5))), .keep [4, 5, 6]]) (.ret)) (.skip))) (.seq (.reg [.op none (.load 18 true 6 (.tmp 2)), .call none (some 19) 132 [.tmp 18], .op none (.mv 7 (.tmp 19)), .keep [1, 7]]) (.seq (.reg [.op none (.mv 8 (.const (.slice none 0 0))), .gh, .keep [1, 7, 8]]) (.seq (.seq (.reg [.op none (.mv 20 (.tmp 1)), .op none (.len 21 (.tmp 20)), .op none (.mv 22 (.const (.int .i64 0))), .keep [7, 8, 20, 21, 22]]) (.block 0 (.gh (.loop (.ga C87_l0))))) (.seq (.reg [.op none (.mv 55 (.tmp 7)), .op none (.mv 56 (.tmp 8)), .op none (.mv 4 (.tmp 55)), .op none (.mv 5 (.tmp 56)), .op none (.mv 6 (.const (.int .i64 0))), .keep [4, 5, 6]]) (.ret)))))))
def r87 : List RV := [.tmp 4, .tmp 5, .tmp 6]
theorem k87 : compC Try.prog 57 C87 (Try.f87.body.getD .skip) = some C87.erase := by kernel_rfl
theorem q87 : rvsOf Try.prog Try.f87.results.toList = some r87 := by kernel_rfl
def impl_subAfter.l0 (l1 : List S63) (x0_0 : Int) (x0_2 : Int) (x0_3 : Int) (x0_4 : Int) (x0_5 : Int) (x0_6 : Int) (x0_7 : Int) (x0_1 : Int) (x0_8 : Int) (x0_9 : (List Int)) (x0_10 : Int) (x0_11 : Int) (x0_12 : Int) (x0_13 : Int) (x0_14 : Bool) (x0_15 : (List S66)) : Option (Int × (List Int) × Int × Int × Int × Int × Bool × (List S66)) := (if x0_1 < x0_0 then ((if 0 ≤ x0_1 ∧ x0_1 < (l1.length : Int) then (if (rd z63 l1 x0_1).f0 = 1 then (impl_sender_act_v1i219.f x0_2 x0_3 x0_4 x0_5 x0_6 x0_7 x0_8 x0_9 x0_10 x0_11 x0_12 x0_13 x0_14 ((rd z63 l1 x0_1).f1) >>= fun t38 => (if (x0_15.length + 1) * 72 ≤ 140737488355328 then (some (x0_8, t38.2.2.2.2.2.1, t38.2.2.2.2.2.2, x0_11, x0_12, x0_13, x0_14, (x0_15 ++ ([(⟨t38.1, t38.2.1, t38.2.2.1, t38.2.2.2.1, t38.2.2.2.2.1⟩ : S66)] : List S66)))) else none)) else (if (rd z63 l1 x0_1).f0 = 2 then (impl_sender_act_v1i221.f x0_2 x0_3 x0_4 x0_5 x0_6 x0_7 x0_8 x0_9 x0_10 x0_11 x0_12 x0_13 x0_14 ((rd z63 l1 x0_1).f2) >>= fun t54 => (if (x0_15.length + 1) * 72 ≤ 140737488355328 then (some (t54.2.2.2.2.2.1, t54.2.2.2.2.2.2.1, t54.2.2.2.2.2.2.2.1, t54.2.2.2.2.2.2.2.2.1, t54.2.2.2.2.2.2.2.2.2.1, t54.2.2.2.2.2.2.2.2.2.2.1, t54.2.2.2.2.2.2.2.2.2.2.2, (x0_15 ++ ([(⟨t54.1, t54.2.1, t54.2.2.1, t54.2.2.2.1, t54.2.2.2.2.1⟩ : S66)] : List S66)))) else none)) else (if (rd z63 l1 x0_1).f0 = 3 then (impl_sender_act_v1i223.f x0_2 x0_3 x0_4 x0_5 x0_6 x0_7 x0_8 x0_9 x0_10 x0_11 x0_12 x0_13 x0_14 >>= fun t70 => (if (x0_15.length + 1) * 72 ≤ 140737488355328 then (some (x0_8, x0_9, t70.2.2.2.2.2.1, t70.2.2.2.2.2.2.1, t70.2.2.2.2.2.2.2.1, t70.2.2.2.2.2.2.2.2.1, t70.2.2.2.2.2.2.2.2.2, (x0_15 ++ ([(⟨t70.1, t70.2.1, t70.2.2.1, t70.2.2.2.1, t70.2.2.2.2.1⟩ : S66)] : List S66)))) else none)) else (if (x0_15.length + 1) * 72 ≤ 140737488355328 then (some (x0_8, x0_9, x0_10, x0_11, x0_12, x0_13, x0_14, (x0_15 ++ ([(⟨1, ([] : List S68), ([] : List Int), 0, 0⟩ : S66)] : List S66)))) else none)))) else none) >>= fun (j24 : Int × (List Int) × Int × Int × Int × Int × Bool × (List S66)) => (impl_subAfter.l0 l1 x0_0 x0_2 x0_3 x0_4 x0_5 x0_6 x0_7 (IntKind.i64.wrap (x0_1 + 1)) j24.1 j24.2.1 j24.2.2.1 j24.2.2.2.1 j24.2.2.2.2.1 j24.2.2.2.2.2.1 j24.2.2.2.2.2.2.1 j24.2.2.2.2.2.2.2)) else (some (x0_8, x0_9, x0_10, x0_11, x0_12, x0_13, x0_14, x0_15)))
  partial_fixpoint
def impl_subAfter.f (a0_0 : Int) (a0_1 : Int) (a0_2 : Int) (a0_3 : Int) (a0_4 : Int) (a0_5 : Int) (l1 : List S63) : Option ((Option (Int × Int × Int × Int × Int × Int × Int × (List Int) × Int × Int × Int × Int × Bool)) × (List S66) × Int) := (impl_validSub.f a0_0 a0_1 a0_2 a0_3 a0_4 a0_5 >>= fun t4 => (if (!t4) = true then (some (none, ([] : List S66), 17)) else (if (l1.length : Int) > 4000 then (some (none, ([] : List S66), 5)) else (impl_newSender.f a0_0 a0_1 a0_2 a0_3 a0_4 a0_5 >>= fun t14 => (impl_subAfter.l0 l1 (l1.length : Int) t14.1 t14.2.1 t14.2.2.1 t14.2.2.2.1 t14.2.2.2.2.1 t14.2.2.2.2.2.1 0 t14.2.2.2.2.2.2.1 t14.2.2.2.2.2.2.2.1 t14.2.2.2.2.2.2.2.2.1 t14.2.2.2.2.2.2.2.2.2.1 t14.2.2.2.2.2.2.2.2.2.2.1 t14.2.2.2.2.2.2.2.2.2.2.2.1 t14.2.2.2.2.2.2.2.2.2.2.2.2 ([] : List S66) >>= fun (y96 : (Int × (List Int) × Int × Int × Int × Int × Bool × (List S66))) => (some ((some (t14.1, t14.2.1, t14.2.2.1, t14.2.2.2.1, t14.2.2.2.2.1, t14.2.2.2.2.2.1, y96.1, y96.2.1, y96.2.2.1, y96.2.2.2.1, y96.2.2.2.2.1, y96.2.2.2.2.2.1, y96.2.2.2.2.2.2.1)), y96.2.2.2.2.2.2.2, 0)))))))
def impl_subAfter.l0_M (cs0 : List Cell) (o0 : Nat) (l1 : List S63) (hv0 : Vw c63 3 cs0 o0 l1) (x0_0 : Int) (x0_2 : Int) (x0_3 : Int) (x0_4 : Int) (x0_5 : Int) (x0_6 : Int) (x0_7 : Int) (x0_1 : Int) (x0_8 : Int) (x0_9 : (List Int)) (x0_10 : Int) (x0_11 : Int) (x0_12 : Int) (x0_13 : Int) (x0_14 : Bool) (x0_15 : (List S66)) (y : (Int × (List Int) × Int × Int × Int × Int × Bool × (List S66))) : Prop := ∀ (K : AE → St → Prop), (K (.exit 0) ⟨[(7, .c (.ptr (.tmp 19 0) [] 0)), (8, .c (.ref (.tmp 8 20) [] 0 y.2.2.2.2.2.2.2.length))], [(.arg 0, ⟨.fz, 3, cs0⟩), (.tmp 19 0, ⟨.box, 0, [.sc (.int .u32 x0_2), .sc (.int .i64 x0_3), .sc (.int .i64 x0_4), .sc (.int .i64 x0_5), .sc (.int .i64 x0_6), .sc (.int .i64 x0_7), .sc (.int .u32 y.1), .own 1 y.2.1.length (encL c_i64 y.2.1), .sc (.int .i64 y.2.2.1), .sc (.int .i64 y.2.2.2.1), .sc (.int .i64 y.2.2.2.2.1), .sc (.int .i64 y.2.2.2.2.2.1), .sc (.bool y.2.2.2.2.2.2.1)]⟩), (.tmp 8 20, ⟨.lst, 5, encL c66 y.2.2.2.2.2.2.2⟩)], [], []⟩) → loopS Try.prog 57 (.ga C87_l0) K ⟨[(7, .c (.ptr (.tmp 19 0) [] 0)), (8, .c (.ref (.tmp 8 20) [] 0 x0_15.length)), (20, .c (.ref (.arg 0) [] o0 l1.length)), (21, .c (.sc (.int .i64 x0_0))), (22, .c (.sc (.int .i64 x0_1)))], [(.arg 0, ⟨.fz, 3, cs0⟩), (.tmp 19 0, ⟨.box, 0, [.sc (.int .u32 x0_2), .sc (.int .i64 x0_3), .sc (.int .i64 x0_4), .sc (.int .i64 x0_5), .sc (.int .i64 x0_6), .sc (.int .i64 x0_7), .sc (.int .u32 x0_8), .own 1 x0_9.length (encL c_i64 x0_9), .sc (.int .i64 x0_10), .sc (.int .i64 x0_11), .sc (.int .i64 x0_12), .sc (.int .i64 x0_13), .sc (.bool x0_14)]⟩), (.tmp 8 20, ⟨.lst, 5, encL c66 x0_15⟩)], [], []⟩
theorem impl_subAfter.l0_walk (cs0 : List Cell) (o0 : Nat) (l1 : List S63) (hv0 : Vw c63 3 cs0 o0 l1) (x0_0 : Int) (x0_2 : Int) (x0_3 : Int) (x0_4 : Int) (x0_5 : Int) (x0_6 : Int) (x0_7 : Int) (x0_1 : Int) (x0_8 : Int) (x0_9 : (List Int)) (x0_10 : Int) (x0_11 : Int) (x0_12 : Int) (x0_13 : Int) (x0_14 : Bool) (x0_15 : (List S66)) (y : (Int × (List Int) × Int × Int × Int × Int × Bool × (List S66))) (h : impl_subAfter.l0 l1 x0_0 x0_2 x0_3 x0_4 x0_5 x0_6 x0_7 x0_1 x0_8 x0_9 x0_10 x0_11 x0_12 x0_13 x0_14 x0_15 = some y) : impl_subAfter.l0_M cs0 o0 l1 hv0 x0_0 x0_2 x0_3 x0_4 x0_5 x0_6 x0_7 x0_1 x0_8 x0_9 x0_10 x0_11 x0_12 x0_13 x0_14 x0_15 y := by
  refine impl_subAfter.l0.partial_correctness l1 x0_0 x0_2 x0_3 x0_4 x0_5 x0_6 x0_7 (motive := fun x0_1 x0_8 x0_9 x0_10 x0_11 x0_12 x0_13 x0_14 x0_15 y => impl_subAfter.l0_M cs0 o0 l1 hv0 x0_0 x0_2 x0_3 x0_4 x0_5 x0_6 x0_7 x0_1 x0_8 x0_9 x0_10 x0_11 x0_12 x0_13 x0_14 x0_15 y) ?_ x0_1 x0_8 x0_9 x0_10 x0_11 x0_12 x0_13 x0_14 x0_15 y h
  clear h
  unfold impl_subAfter.l0_M
  intro rec ih x0_1 x0_8 x0_9 x0_10 x0_11 x0_12 x0_13 x0_14 x0_15 y h K hx0
  refine loop_unroll (ga_k fun G0 G0n G0r G0x => ?_)
  unfold C87_l0
  refine sr_k fun J21 hJ21 => ?_
  simp +decide only [Nat.reduceAdd, Nat.reduceMul, Int.reduceToNat, ak]
  refine hJ21 _ ?_
  refine seq_k fun J22 hJ22 => ?_
  refine cond_k (b := decide (x0_1 < x0_0)) rfl (fun c23 => ?_) (fun c23 => ?_)
  · replace c23 := of_decide_eq_true c23; rw [if_pos c23] at h
    refine hJ22 _ ?_
    obtain ⟨j24, h25, hn⟩ := of_bind h
    refine seq_j (fun st => st = ⟨[(7, .c (.ptr (.tmp 19 0) [] 0)), (8, .c (.ref (.tmp 8 20) [] 0 j24.2.2.2.2.2.2.2.length)), (20, .c (.ref (.arg 0) [] o0 l1.length)), (21, .c (.sc (.int .i64 x0_0))), (22, .c (.sc (.int .i64 x0_1)))], [(.arg 0, ⟨.fz, 3, cs0⟩), (.tmp 19 0, ⟨.box, 0, [.sc (.int .u32 x0_2), .sc (.int .i64 x0_3), .sc (.int .i64 x0_4), .sc (.int .i64 x0_5), .sc (.int .i64 x0_6), .sc (.int .i64 x0_7), .sc (.int .u32 j24.1), .own 1 j24.2.1.length (encL c_i64 j24.2.1), .sc (.int .i64 j24.2.2.1), .sc (.int .i64 j24.2.2.2.1), .sc (.int .i64 j24.2.2.2.2.1), .sc (.int .i64 j24.2.2.2.2.2.1), .sc (.bool j24.2.2.2.2.2.2.1)]⟩), (.tmp 8 20, ⟨.lst, 5, encL c66 j24.2.2.2.2.2.2.2⟩)], [], []⟩) (fun J26 hJ26 => ?_) ?_
    · replace h := h25; clear hn
      refine ga_k fun G27 G27n G27r G27x => ?_
      refine block_k fun B28 B28n B28x B28r B28j => ?_
      refine sr_k fun J29 hJ29 => ?_
      obtain ⟨b30, h⟩ := of_guard h
      have g31 : (List.drop (o0 + x0_1.toNat * 3) (cs0)).take 3 = [.sc (.int .i64 ((rd z63 l1 x0_1).f0)), .sc (.int .i64 ((rd z63 l1 x0_1).f1)), .sc (.int .u32 ((rd z63 l1 x0_1).f2))] := hv0.stretch z63 b30.1 b30.2
      simp +decide only [Nat.reduceAdd, Nat.reduceMul, Int.reduceToNat, ak, b30, g31]
      refine hJ29 _ ?_
      refine sr_k fun J32 hJ32 => ?_
      simp +decide only [Nat.reduceAdd, Nat.reduceMul, Int.reduceToNat, ak]
      refine hJ32 _ ?_
      refine seq_k fun J33 hJ33 => ?_
      refine sr_k fun J34 hJ34 => ?_
      simp +decide only [Nat.reduceAdd, Nat.reduceMul, Int.reduceToNat, ak]
      refine hJ34 _ ?_
      refine block_k fun B35 B35n B35x B35r B35j => ?_
      refine sr_k fun J36 hJ36 => ?_
      simp +decide only [Nat.reduceAdd, Nat.reduceMul, Int.reduceToNat, ak]
      refine hJ36 _ ?_
      refine cond_k (b := decide ((rd z63 l1 x0_1).f0 = 1)) rfl (fun c37 => ?_) (fun c37 => ?_)
      · replace c37 := of_decide_eq_true c37; rw [if_pos c37] at h
        refine reg_k ?_
        simp +decide only [Nat.reduceAdd, Nat.reduceMul, Int.reduceToNat, ak]
        refine B35n _ ?_
        refine hJ33 _ ?_
        refine reg_k ?_
        simp +decide only [Nat.reduceAdd, Nat.reduceMul, Int.reduceToNat, ak]
        obtain ⟨t38, h39, h⟩ := of_bind h
        refine call_m [(.arg 0, ⟨(.tmp 19 0), [], none, .box⟩)] (s0 := [(.arg 0, ⟨.box, 0, [.sc (.int .u32 x0_2), .sc (.int .i64 x0_3), .sc (.int .i64 x0_4), .sc (.int .i64 x0_5), .sc (.int .i64 x0_6), .sc (.int .i64 x0_7), .sc (.int .u32 x0_8), .own 1 x0_9.length (encL c_i64 x0_9), .sc (.int .i64 x0_10), .sc (.int .i64 x0_11), .sc (.int .i64 x0_12), .sc (.int .i64 x0_13), .sc (.bool x0_14)]⟩)]) (by intro t ht; cases ht; decide) rfl rfl (by first | rfl | simp only [reduceCtorEq, Nat.reduceEqDiff, ak, akF, b30, g31]) (impl_sender_act_v1i219.tri x0_2 x0_3 x0_4 x0_5 x0_6 x0_7 x0_8 x0_9 x0_10 x0_11 x0_12 x0_13 x0_14 ((rd z63 l1 x0_1).f1) _ h39) (by first | rfl | simp only [reduceCtorEq, Nat.reduceEqDiff, ak, akF]) (by simp [bkOk2, memK]) (fun hl39 => ?_)
        refine call_st (s2 := [(.arg 0, ⟨.fz, 3, cs0⟩), (.tmp 19 0, ⟨.box, 0, [.sc (.int .u32 x0_2), .sc (.int .i64 x0_3), .sc (.int .i64 x0_4), .sc (.int .i64 x0_5), .sc (.int .i64 x0_6), .sc (.int .i64 x0_7), .sc (.int .u32 x0_8), .own 1 x0_9.length (encL c_i64 x0_9), .sc (.int .i64 x0_10), .sc (.int .i64 x0_11), .sc (.int .i64 x0_12), .sc (.int .i64 x0_13), .sc (.bool x0_14)]⟩), (.tmp 8 20, ⟨.lst, 5, encL c66 x0_15⟩), (.tmp 10 0, ⟨.box, 0, [.sc (.int .i64 ((rd z63 l1 x0_1).f0)), .sc (.int .i64 ((rd z63 l1 x0_1).f1)), .sc (.int .u32 ((rd z63 l1 x0_1).f2))]⟩)]) (s4 := [(.arg 0, ⟨.fz, 3, cs0⟩), (.tmp 19 0, ⟨.box, 0, [.sc (.int .u32 x0_2), .sc (.int .i64 x0_3), .sc (.int .i64 x0_4), .sc (.int .i64 x0_5), .sc (.int .i64 x0_6), .sc (.int .i64 x0_7), .sc (.int .u32 x0_8), .own 1 t38.2.2.2.2.2.1.length (encL c_i64 t38.2.2.2.2.2.1), .sc (.int .i64 t38.2.2.2.2.2.2), .sc (.int .i64 x0_11), .sc (.int .i64 x0_12), .sc (.int .i64 x0_13), .sc (.bool x0_14)]⟩), (.tmp 8 20, ⟨.lst, 5, encL c66 x0_15⟩), (.tmp 10 0, ⟨.box, 0, [.sc (.int .i64 ((rd z63 l1 x0_1).f0)), .sc (.int .i64 ((rd z63 l1 x0_1).f1)), .sc (.int .u32 ((rd z63 l1 x0_1).f2))]⟩), (.tmp 51 1, ⟨.lst, 1, encL c_i64 t38.2.2.1⟩), (.tmp 51 0, ⟨.lst, 3, encL c68 t38.2.1⟩)]) (t' := [(7, .c (.ptr (.tmp 19 0) [] 0)), (8, .c (.ref (.tmp 8 20) [] 0 x0_15.length)), (11, .c (.sc (.iface 219 (.agg #[.int .i64 ((rd z63 l1 x0_1).f1)])))), (20, .c (.ref (.arg 0) [] o0 l1.length)), (21, .c (.sc (.int .i64 x0_0))), (22, .c (.sc (.int .i64 x0_1))), (48, .c (.ref (.tmp 8 20) [] 0 x0_15.length)), (49, .c (.ptr (.tmp 19 0) [] 0)), (50, .c (.sc (.iface 219 (.agg #[.int .i64 ((rd z63 l1 x0_1).f1)]))))]) (m1' := []) (m2' := []) (v' := .g [.sc (.int .i64 t38.1), .ref (.tmp 51 0) [] 0 t38.2.1.length, .ref (.tmp 51 1) [] 0 t38.2.2.1.length, .sc (.int .i64 t38.2.2.2.1), .sc (.int .i64 t38.2.2.2.2.1)]) (by first | rfl | simp only [reduceCtorEq, Nat.reduceEqDiff, ak, akF, List.contains_nil, List.contains_cons, Nat.reduceBEq, b30]) (mrgL_whole (new' := [.sc (.int .u32 x0_2), .sc (.int .i64 x0_3), .sc (.int .i64 x0_4), .sc (.int .i64 x0_5), .sc (.int .i64 x0_6), .sc (.int .i64 x0_7), .sc (.int .u32 x0_8), .own 1 t38.2.2.2.2.2.1.length (encL c_i64 t38.2.2.2.2.2.1), .sc (.int .i64 t38.2.2.2.2.2.2), .sc (.int .i64 x0_11), .sc (.int .i64 x0_12), .sc (.int .i64 x0_13), .sc (.bool x0_14)]) (mrgL_nil' _ _ _) rfl (by rfl) (.inl ⟨rfl, by first | rfl | simp only [reduceCtorEq, Nat.reduceEqDiff, ak, akF, Nat.zero_add, List.append_nil, b30]⟩)) (by rfl) (by first | rfl | simp only [reduceCtorEq, Nat.reduceEqDiff, ak, akF, List.contains_nil, List.contains_cons, Nat.reduceBEq, b30]) (by rfl) (by rfl) (by first | rfl | simp only [reduceCtorEq, Nat.reduceEqDiff, ak, akF, Nat.zero_add, List.append_nil, b30]) ?_
        have g41 : (List.replicate 1 ([.int .i64 0, .slice none 0 0, .slice none 0 0, .int .i64 0, .int .i64 0] : List Value)).flatten = [.int .i64 0, .slice none 0 0, .slice none 0 0, .int .i64 0, .int .i64 0] := rfl
        have g42 : (encL c68 t38.2.1).length = t38.2.1.length * 3 := by simp [encL_length c68_w]
        have g43 : (encL c_i64 t38.2.2.1).length = t38.2.2.1.length * 1 := by simp [encL_length c_i64_w]
        have g44 : (⟨.lst, 5, [.sc (.int .i64 t38.1), .own 3 t38.2.1.length (encL c68 t38.2.1), .own 1 t38.2.2.1.length (encL c_i64 t38.2.2.1), .sc (.int .i64 t38.2.2.2.1), .sc (.int .i64 t38.2.2.2.2.1)]⟩ : Root) = ⟨.lst, 5, encL c66 ([(⟨t38.1, t38.2.1, t38.2.2.1, t38.2.2.2.1, t38.2.2.2.2.1⟩ : S66)] : List S66)⟩ := rfl
        have g45 : ([(⟨t38.1, t38.2.1, t38.2.2.1, t38.2.2.2.1, t38.2.2.2.2.1⟩ : S66)] : List S66).length = 1 := rfl
        simp +decide only [Nat.reduceAdd, Nat.reduceMul, Int.reduceToNat, ak, g41, g42, g43, g44, g45]
        refine gho_k (Weak.refl _ _) ?_
        have g46 : (encL c66 ([(⟨t38.1, t38.2.1, t38.2.2.1, t38.2.2.2.1, t38.2.2.2.2.1⟩ : S66)] : List S66)).length = 1 * 5 := by simp [encL_length c66_w]
        have g47 : (encL c66 ([(⟨t38.1, t38.2.1, t38.2.2.1, t38.2.2.2.1, t38.2.2.2.2.1⟩ : S66)] : List S66)).all nd = true := rfl
        obtain ⟨b48, h⟩ := of_guard h
        have g49 : appLim x0_15.length 1 72 := ⟨b48, by have := b48; omega⟩
        have g50 : (encL c66 x0_15).length = x0_15.length * 5 := by simp [encL_length c66_w]
        have g51 : encL c66 x0_15 ++ encL c66 ([(⟨t38.1, t38.2.1, t38.2.2.1, t38.2.2.2.1, t38.2.2.2.2.1⟩ : S66)] : List S66) = encL c66 (x0_15 ++ ([(⟨t38.1, t38.2.1, t38.2.2.1, t38.2.2.2.1, t38.2.2.2.2.1⟩ : S66)] : List S66)) := (encL_append _ _).symm
        simp +decide only [Nat.reduceAdd, Nat.reduceMul, Int.reduceToNat, ak, g46, g47, g49, g50, g51]
        refine B28n _ ?_
        obtain rfl := Option.some.inj h
        refine G27n _ _ (wk [7, 8, 20, 21, 22] [pI (.arg 0) .fz, pI (.tmp 19 0) .box, pI (.tmp 8 20) .lst] (h0 := by first | rfl | simp +decide only [ak, akF, b30, b48]) (h := by first | rfl | (simp +decide only [ak, akF, b30, b48]; done) | (simp +decide [ak, akF, b30, b48] <;> omega))) (hJ26 _ rfl)
      · replace c37 := of_decide_eq_false c37; rw [if_neg c37] at h
        refine sr_k fun J52 hJ52 => ?_
        simp +decide only [Nat.reduceAdd, Nat.reduceMul, Int.reduceToNat, ak]
        refine hJ52 _ ?_
        refine cond_k (b := decide ((rd z63 l1 x0_1).f0 = 2)) rfl (fun c53 => ?_) (fun c53 => ?_)
        · replace c53 := of_decide_eq_true c53; rw [if_pos c53] at h
          refine reg_k ?_
          simp +decide only [Nat.reduceAdd, Nat.reduceMul, Int.reduceToNat, ak]
          refine B35n _ ?_
          refine hJ33 _ ?_
          refine reg_k ?_
          simp +decide only [Nat.reduceAdd, Nat.reduceMul, Int.reduceToNat, ak]
          obtain ⟨t54, h55, h⟩ := of_bind h
          refine call_m [(.arg 0, ⟨(.tmp 19 0), [], none, .box⟩)] (s0 := [(.arg 0, ⟨.box, 0, [.sc (.int .u32 x0_2), .sc (.int .i64 x0_3), .sc (.int .i64 x0_4), .sc (.int .i64 x0_5), .sc (.int .i64 x0_6), .sc (.int .i64 x0_7), .sc (.int .u32 x0_8), .own 1 x0_9.length (encL c_i64 x0_9), .sc (.int .i64 x0_10), .sc (.int .i64 x0_11), .sc (.int .i64 x0_12), .sc (.int .i64 x0_13), .sc (.bool x0_14)]⟩)]) (by intro t ht; cases ht; decide) rfl rfl (by first | rfl | simp only [reduceCtorEq, Nat.reduceEqDiff, ak, akF, b30, g31]) (impl_sender_act_v1i221.tri x0_2 x0_3 x0_4 x0_5 x0_6 x0_7 x0_8 x0_9 x0_10 x0_11 x0_12 x0_13 x0_14 ((rd z63 l1 x0_1).f2) _ h55) (by first | rfl | simp only [reduceCtorEq, Nat.reduceEqDiff, ak, akF]) (by simp [bkOk2, memK]) (fun hl55 => ?_)
          refine call_st (s2 := [(.arg 0, ⟨.fz, 3, cs0⟩), (.tmp 19 0, ⟨.box, 0, [.sc (.int .u32 x0_2), .sc (.int .i64 x0_3), .sc (.int .i64 x0_4), .sc (.int .i64 x0_5), .sc (.int .i64 x0_6), .sc (.int .i64 x0_7), .sc (.int .u32 x0_8), .own 1 x0_9.length (encL c_i64 x0_9), .sc (.int .i64 x0_10), .sc (.int .i64 x0_11), .sc (.int .i64 x0_12), .sc (.int .i64 x0_13), .sc (.bool x0_14)]⟩), (.tmp 8 20, ⟨.lst, 5, encL c66 x0_15⟩), (.tmp 10 0, ⟨.box, 0, [.sc (.int .i64 ((rd z63 l1 x0_1).f0)), .sc (.int .i64 ((rd z63 l1 x0_1).f1)), .sc (.int .u32 ((rd z63 l1 x0_1).f2))]⟩)]) (s4 := [(.arg 0, ⟨.fz, 3, cs0⟩), (.tmp 19 0, ⟨.box, 0, [.sc (.int .u32 x0_2), .sc (.int .i64 x0_3), .sc (.int .i64 x0_4), .sc (.int .i64 x0_5), .sc (.int .i64 x0_6), .sc (.int .i64 x0_7), .sc (.int .u32 t54.2.2.2.2.2.1), .own 1 t54.2.2.2.2.2.2.1.length (encL c_i64 t54.2.2.2.2.2.2.1), .sc (.int .i64 t54.2.2.2.2.2.2.2.1), .sc (.int .i64 t54.2.2.2.2.2.2.2.2.1), .sc (.int .i64 t54.2.2.2.2.2.2.2.2.2.1), .sc (.int .i64 t54.2.2.2.2.2.2.2.2.2.2.1), .sc (.bool t54.2.2.2.2.2.2.2.2.2.2.2)]⟩), (.tmp 8 20, ⟨.lst, 5, encL c66 x0_15⟩), (.tmp 10 0, ⟨.box, 0, [.sc (.int .i64 ((rd z63 l1 x0_1).f0)), .sc (.int .i64 ((rd z63 l1 x0_1).f1)), .sc (.int .u32 ((rd z63 l1 x0_1).f2))]⟩), (.tmp 51 1, ⟨.lst, 1, encL c_i64 t54.2.2.1⟩), (.tmp 51 0, ⟨.lst, 3, encL c68 t54.2.1⟩)]) (t' := [(7, .c (.ptr (.tmp 19 0) [] 0)), (8, .c (.ref (.tmp 8 20) [] 0 x0_15.length)), (11, .c (.sc (.iface 221 (.agg #[.int .u32 ((rd z63 l1 x0_1).f2)])))), (20, .c (.ref (.arg 0) [] o0 l1.length)), (21, .c (.sc (.int .i64 x0_0))), (22, .c (.sc (.int .i64 x0_1))), (48, .c (.ref (.tmp 8 20) [] 0 x0_15.length)), (49, .c (.ptr (.tmp 19 0) [] 0)), (50, .c (.sc (.iface 221 (.agg #[.int .u32 ((rd z63 l1 x0_1).f2)]))))]) (m1' := []) (m2' := []) (v' := .g [.sc (.int .i64 t54.1), .ref (.tmp 51 0) [] 0 t54.2.1.length, .ref (.tmp 51 1) [] 0 t54.2.2.1.length, .sc (.int .i64 t54.2.2.2.1), .sc (.int .i64 t54.2.2.2.2.1)]) (by first | rfl | simp only [reduceCtorEq, Nat.reduceEqDiff, ak, akF, List.contains_nil, List.contains_cons, Nat.reduceBEq, b30]) (mrgL_whole (new' := [.sc (.int .u32 x0_2), .sc (.int .i64 x0_3), .sc (.int .i64 x0_4), .sc (.int .i64 x0_5), .sc (.int .i64 x0_6), .sc (.int .i64 x0_7), .sc (.int .u32 t54.2.2.2.2.2.1), .own 1 t54.2.2.2.2.2.2.1.length (encL c_i64 t54.2.2.2.2.2.2.1), .sc (.int .i64 t54.2.2.2.2.2.2.2.1), .sc (.int .i64 t54.2.2.2.2.2.2.2.2.1), .sc (.int .i64 t54.2.2.2.2.2.2.2.2.2.1), .sc (.int .i64 t54.2.2.2.2.2.2.2.2.2.2.1), .sc (.bool t54.2.2.2.2.2.2.2.2.2.2.2)]) (mrgL_nil' _ _ _) rfl (by rfl) (.inl ⟨rfl, by first | rfl | simp only [reduceCtorEq, Nat.reduceEqDiff, ak, akF, Nat.zero_add, List.append_nil, b30]⟩)) (by rfl) (by first | rfl | simp only [reduceCtorEq, Nat.reduceEqDiff, ak, akF, List.contains_nil, List.contains_cons, Nat.reduceBEq, b30]) (by rfl) (by rfl) (by first | rfl | simp only [reduceCtorEq, Nat.reduceEqDiff, ak, akF, Nat.zero_add, List.append_nil, b30]) ?_
          have g57 : (List.replicate 1 ([.int .i64 0, .slice none 0 0, .slice none 0 0, .int .i64 0, .int .i64 0] : List Value)).flatten = [.int .i64 0, .slice none 0 0, .slice none 0 0, .int .i64 0, .int .i64 0] := rfl
          have g58 : (encL c68 t54.2.1).length = t54.2.1.length * 3 := by simp [encL_length c68_w]
          have g59 : (encL c_i64 t54.2.2.1).length = t54.2.2.1.length * 1 := by simp [encL_length c_i64_w]
          have g60 : (⟨.lst, 5, [.sc (.int .i64 t54.1), .own 3 t54.2.1.length (encL c68 t54.2.1), .own 1 t54.2.2.1.length (encL c_i64 t54.2.2.1), .sc (.int .i64 t54.2.2.2.1), .sc (.int .i64 t54.2.2.2.2.1)]⟩ : Root) = ⟨.lst, 5, encL c66 ([(⟨t54.1, t54.2.1, t54.2.2.1, t54.2.2.2.1, t54.2.2.2.2.1⟩ : S66)] : List S66)⟩ := rfl
          have g61 : ([(⟨t54.1, t54.2.1, t54.2.2.1, t54.2.2.2.1, t54.2.2.2.2.1⟩ : S66)] : List S66).length = 1 := rfl
          simp +decide only [Nat.reduceAdd, Nat.reduceMul, Int.reduceToNat, ak, g57, g58, g59, g60, g61]
          refine gho_k (Weak.refl _ _) ?_
          have g62 : (encL c66 ([(⟨t54.1, t54.2.1, t54.2.2.1, t54.2.2.2.1, t54.2.2.2.2.1⟩ : S66)] : List S66)).length = 1 * 5 := by simp [encL_length c66_w]
          have g63 : (encL c66 ([(⟨t54.1, t54.2.1, t54.2.2.1, t54.2.2.2.1, t54.2.2.2.2.1⟩ : S66)] : List S66)).all nd = true := rfl
          obtain ⟨b64, h⟩ := of_guard h
          have g65 : appLim x0_15.length 1 72 := ⟨b64, by have := b64; omega⟩
          have g66 : (encL c66 x0_15).length = x0_15.length * 5 := by simp [encL_length c66_w]
          have g67 : encL c66 x0_15 ++ encL c66 ([(⟨t54.1, t54.2.1, t54.2.2.1, t54.2.2.2.1, t54.2.2.2.2.1⟩ : S66)] : List S66) = encL c66 (x0_15 ++ ([(⟨t54.1, t54.2.1, t54.2.2.1, t54.2.2.2.1, t54.2.2.2.2.1⟩ : S66)] : List S66)) := (encL_append _ _).symm
          simp +decide only [Nat.reduceAdd, Nat.reduceMul, Int.reduceToNat, ak, g62, g63, g65, g66, g67]
          refine B28n _ ?_
          obtain rfl := Option.some.inj h
          refine G27n _ _ (wk [7, 8, 20, 21, 22] [pI (.arg 0) .fz, pI (.tmp 19 0) .box, pI (.tmp 8 20) .lst] (h0 := by first | rfl | simp +decide only [ak, akF, b30, b64]) (h := by first | rfl | (simp +decide only [ak, akF, b30, b64]; done) | (simp +decide [ak, akF, b30, b64] <;> omega))) (hJ26 _ rfl)
        · replace c53 := of_decide_eq_false c53; rw [if_neg c53] at h
          refine sr_k fun J68 hJ68 => ?_
          simp +decide only [Nat.reduceAdd, Nat.reduceMul, Int.reduceToNat, ak]
          refine hJ68 _ ?_
          refine cond_k (b := decide ((rd z63 l1 x0_1).f0 = 3)) rfl (fun c69 => ?_) (fun c69 => ?_)
          · replace c69 := of_decide_eq_true c69; rw [if_pos c69] at h
            refine reg_k ?_
            simp +decide only [Nat.reduceAdd, Nat.reduceMul, Int.reduceToNat, ak]
            refine B35n _ ?_
            refine hJ33 _ ?_
            refine reg_k ?_
            simp +decide only [Nat.reduceAdd, Nat.reduceMul, Int.reduceToNat, ak]
            obtain ⟨t70, h71, h⟩ := of_bind h
            refine call_m [(.arg 0, ⟨(.tmp 19 0), [], none, .box⟩)] (s0 := [(.arg 0, ⟨.box, 0, [.sc (.int .u32 x0_2), .sc (.int .i64 x0_3), .sc (.int .i64 x0_4), .sc (.int .i64 x0_5), .sc (.int .i64 x0_6), .sc (.int .i64 x0_7), .sc (.int .u32 x0_8), .own 1 x0_9.length (encL c_i64 x0_9), .sc (.int .i64 x0_10), .sc (.int .i64 x0_11), .sc (.int .i64 x0_12), .sc (.int .i64 x0_13), .sc (.bool x0_14)]⟩)]) (by intro t ht; cases ht; decide) rfl rfl (by first | rfl | simp only [reduceCtorEq, Nat.reduceEqDiff, ak, akF, b30, g31]) (impl_sender_act_v1i223.tri x0_2 x0_3 x0_4 x0_5 x0_6 x0_7 x0_8 x0_9 x0_10 x0_11 x0_12 x0_13 x0_14 _ h71) (by first | rfl | simp only [reduceCtorEq, Nat.reduceEqDiff, ak, akF]) (by simp [bkOk2, memK]) (fun hl71 => ?_)
            refine call_st (s4 := [(.arg 0, ⟨.fz, 3, cs0⟩), (.tmp 19 0, ⟨.box, 0, [.sc (.int .u32 x0_2), .sc (.int .i64 x0_3), .sc (.int .i64 x0_4), .sc (.int .i64 x0_5), .sc (.int .i64 x0_6), .sc (.int .i64 x0_7), .sc (.int .u32 x0_8), .own 1 x0_9.length (encL c_i64 x0_9), .sc (.int .i64 t70.2.2.2.2.2.1), .sc (.int .i64 t70.2.2.2.2.2.2.1), .sc (.int .i64 t70.2.2.2.2.2.2.2.1), .sc (.int .i64 t70.2.2.2.2.2.2.2.2.1), .sc (.bool t70.2.2.2.2.2.2.2.2.2)]⟩), (.tmp 8 20, ⟨.lst, 5, encL c66 x0_15⟩), (.tmp 10 0, ⟨.box, 0, [.sc (.int .i64 ((rd z63 l1 x0_1).f0)), .sc (.int .i64 ((rd z63 l1 x0_1).f1)), .sc (.int .u32 ((rd z63 l1 x0_1).f2))]⟩), (.tmp 51 1, ⟨.lst, 1, encL c_i64 t70.2.2.1⟩), (.tmp 51 0, ⟨.lst, 3, encL c68 t70.2.1⟩)]) (m1' := []) (m2' := []) (v' := .g [.sc (.int .i64 t70.1), .ref (.tmp 51 0) [] 0 t70.2.1.length, .ref (.tmp 51 1) [] 0 t70.2.2.1.length, .sc (.int .i64 t70.2.2.2.1), .sc (.int .i64 t70.2.2.2.2.1)]) (Sto.mapN_killNil _ _) (mrgL_whole (new' := [.sc (.int .u32 x0_2), .sc (.int .i64 x0_3), .sc (.int .i64 x0_4), .sc (.int .i64 x0_5), .sc (.int .i64 x0_6), .sc (.int .i64 x0_7), .sc (.int .u32 x0_8), .own 1 x0_9.length (encL c_i64 x0_9), .sc (.int .i64 t70.2.2.2.2.2.1), .sc (.int .i64 t70.2.2.2.2.2.2.1), .sc (.int .i64 t70.2.2.2.2.2.2.2.1), .sc (.int .i64 t70.2.2.2.2.2.2.2.2.1), .sc (.bool t70.2.2.2.2.2.2.2.2.2)]) (mrgL_nil' _ _ _) rfl (by rfl) (.inl ⟨rfl, by first | rfl | simp only [reduceCtorEq, Nat.reduceEqDiff, ak, akF, Nat.zero_add, List.append_nil, b30]⟩)) (by rfl) (mapT_killNil _ _) (by rfl) (by rfl) (by first | rfl | simp only [reduceCtorEq, Nat.reduceEqDiff, ak, akF, Nat.zero_add, List.append_nil, b30]) ?_
            have g73 : (List.replicate 1 ([.int .i64 0, .slice none 0 0, .slice none 0 0, .int .i64 0, .int .i64 0] : List Value)).flatten = [.int .i64 0, .slice none 0 0, .slice none 0 0, .int .i64 0, .int .i64 0] := rfl
            have g74 : (encL c68 t70.2.1).length = t70.2.1.length * 3 := by simp [encL_length c68_w]
            have g75 : (encL c_i64 t70.2.2.1).length = t70.2.2.1.length * 1 := by simp [encL_length c_i64_w]
            have g76 : (⟨.lst, 5, [.sc (.int .i64 t70.1), .own 3 t70.2.1.length (encL c68 t70.2.1), .own 1 t70.2.2.1.length (encL c_i64 t70.2.2.1), .sc (.int .i64 t70.2.2.2.1), .sc (.int .i64 t70.2.2.2.2.1)]⟩ : Root) = ⟨.lst, 5, encL c66 ([(⟨t70.1, t70.2.1, t70.2.2.1, t70.2.2.2.1, t70.2.2.2.2.1⟩ : S66)] : List S66)⟩ := rfl
            have g77 : ([(⟨t70.1, t70.2.1, t70.2.2.1, t70.2.2.2.1, t70.2.2.2.2.1⟩ : S66)] : List S66).length = 1 := rfl
            simp +decide only [Nat.reduceAdd, Nat.reduceMul, Int.reduceToNat, ak, g73, g74, g75, g76, g77]
            refine gho_k (Weak.refl _ _) ?_
            have g78 : (encL c66 ([(⟨t70.1, t70.2.1, t70.2.2.1, t70.2.2.2.1, t70.2.2.2.2.1⟩ : S66)] : List S66)).length = 1 * 5 := by simp [encL_length c66_w]
            have g79 : (encL c66 ([(⟨t70.1, t70.2.1, t70.2.2.1, t70.2.2.2.1, t70.2.2.2.2.1⟩ : S66)] : List S66)).all nd = true := rfl
            obtain ⟨b80, h⟩ := of_guard h
            have g81 : appLim x0_15.length 1 72 := ⟨b80, by have := b80; omega⟩
            have g82 : (encL c66 x0_15).length = x0_15.length * 5 := by simp [encL_length c66_w]
            have g83 : encL c66 x0_15 ++ encL c66 ([(⟨t70.1, t70.2.1, t70.2.2.1, t70.2.2.2.1, t70.2.2.2.2.1⟩ : S66)] : List S66) = encL c66 (x0_15 ++ ([(⟨t70.1, t70.2.1, t70.2.2.1, t70.2.2.2.1, t70.2.2.2.2.1⟩ : S66)] : List S66)) := (encL_append _ _).symm
            simp +decide only [Nat.reduceAdd, Nat.reduceMul, Int.reduceToNat, ak, g78, g79, g81, g82, g83]
            refine B28n _ ?_
            obtain rfl := Option.some.inj h
            refine G27n _ _ (wk [7, 8, 20, 21, 22] [pI (.arg 0) .fz, pI (.tmp 19 0) .box, pI (.tmp 8 20) .lst] (h0 := by first | rfl | simp +decide only [ak, akF, b30, b80]) (h := by first | rfl | (simp +decide only [ak, akF, b30, b80]; done) | (simp +decide [ak, akF, b30, b80] <;> omega))) (hJ26 _ rfl)
          · replace c69 := of_decide_eq_false c69; rw [if_neg c69] at h
            refine sr_k fun J84 hJ84 => ?_
            simp +decide only [Nat.reduceAdd, Nat.reduceMul, Int.reduceToNat, ak]
            refine gho_k ((Weak.nmg' 29 1 (.tmp 29 21) 3 (encL c68 ([] : List S68)) rfl rfl rfl rfl).trans (Weak.nmg' 29 2 (.tmp 29 22) 1 (encL c_i64 ([] : List Int)) rfl rfl rfl rfl)) ?_
            have g85 : (List.replicate 1 ([.int .i64 0, .slice none 0 0, .slice none 0 0, .int .i64 0, .int .i64 0] : List Value)).flatten = [.int .i64 0, .slice none 0 0, .slice none 0 0, .int .i64 0, .int .i64 0] := rfl
            have g86 : (encL c68 ([] : List S68)).length = 0 * 3 := by simp [encL_length c68_w]
            have g87 : (encL c_i64 ([] : List Int)).length = 0 * 1 := by simp [encL_length c_i64_w]
            have g88 : (⟨.lst, 5, [.sc (.int .i64 1), .own 3 0 (encL c68 ([] : List S68)), .own 1 0 (encL c_i64 ([] : List Int)), .sc (.int .i64 0), .sc (.int .i64 0)]⟩ : Root) = ⟨.lst, 5, encL c66 ([(⟨1, ([] : List S68), ([] : List Int), 0, 0⟩ : S66)] : List S66)⟩ := rfl
            have g89 : ([(⟨1, ([] : List S68), ([] : List Int), 0, 0⟩ : S66)] : List S66).length = 1 := rfl
            simp +decide only [Nat.reduceAdd, Nat.reduceMul, Int.reduceToNat, ak, g85, g86, g87, g88, g89]
            refine gho_k (Weak.refl _ _) ?_
            have g90 : (encL c66 ([(⟨1, ([] : List S68), ([] : List Int), 0, 0⟩ : S66)] : List S66)).length = 1 * 5 := by simp [encL_length c66_w]
            have g91 : (encL c66 ([(⟨1, ([] : List S68), ([] : List Int), 0, 0⟩ : S66)] : List S66)).all nd = true := rfl
            obtain ⟨b92, h⟩ := of_guard h
            have g93 : appLim x0_15.length 1 72 := ⟨b92, by have := b92; omega⟩
            have g94 : (encL c66 x0_15).length = x0_15.length * 5 := by simp [encL_length c66_w]
            have g95 : encL c66 x0_15 ++ encL c66 ([(⟨1, ([] : List S68), ([] : List Int), 0, 0⟩ : S66)] : List S66) = encL c66 (x0_15 ++ ([(⟨1, ([] : List S68), ([] : List Int), 0, 0⟩ : S66)] : List S66)) := (encL_append _ _).symm
            simp +decide only [Nat.reduceAdd, Nat.reduceMul, Int.reduceToNat, ak, g90, g91, g93, g94, g95]
            refine hJ84 _ ?_
            refine B35j _ _ (by decide) ?_
            refine B28x _ ?_
            obtain rfl := Option.some.inj h
            refine G27n _ _ (wk [7, 8, 20, 21, 22] [pI (.arg 0) .fz, pI (.tmp 19 0) .box, pI (.tmp 8 20) .lst] (h0 := by first | rfl | simp +decide only [ak, akF, b30, b92]) (h := by first | rfl | (simp +decide only [ak, akF, b30, b92]; done) | (simp +decide [ak, akF, b30, b92] <;> omega))) (hJ26 _ rfl)
    · replace h := hn; clear hn h25
      rintro _ rfl
      refine reg_k ?_
      simp +decide only [Nat.reduceAdd, Nat.reduceMul, Int.reduceToNat, ak]
      refine G0n _ _ (wk [7, 8, 20, 21, 22] [pI (.arg 0) .fz, pI (.tmp 19 0) .box, pI (.tmp 8 20) .lst]) (ih _ _ _ _ _ _ _ _ _ _ h K hx0)
  · replace c23 := of_decide_eq_false c23; rw [if_neg c23] at h
    obtain rfl := Option.some.inj h
    refine gh_k (wk [7, 8] [pI (.arg 0) .fz, pI (.tmp 19 0) .box, pI (.tmp 8 20) .lst]) ?_
    refine G0x _ _ ?_
    exact hx0
theorem impl_subAfter.tri0 (cs0 : List Cell) (o0 : Nat) (l1 : List S63) (hv0 : Vw c63 3 cs0 o0 l1) (a0_0 : Int) (a0_1 : Int) (a0_2 : Int) (a0_3 : Int) (a0_4 : Int) (a0_5 : Int) (r : (Option (Int × Int × Int × Int × Int × Int × Int × (List Int) × Int × Int × Int × Int × Bool)) × (List S66) × Int) (h : impl_subAfter.f a0_0 a0_1 a0_2 a0_3 a0_4 a0_5 l1 = some r) (hp : r.1 = none) : Tri Try.prog 87 [.g [.sc (.int .u32 a0_0), .sc (.int .i64 a0_1), .sc (.int .i64 a0_2), .sc (.int .i64 a0_3), .sc (.int .i64 a0_4), .sc (.int .i64 a0_5)], .c (.ref (.arg 0) [] o0 l1.length)] [(.arg 0, ⟨.fz, 3, cs0⟩)] (fun o => o = ⟨.tup [(false, [.sc (.pointer none)]), (false, [.ref (.res 0) [] 0 r.2.1.length]), (false, [.sc (.int .i64 r.2.2)])], [(.arg 0, ⟨.fz, 3, cs0⟩), (.res 0, ⟨.lst, 5, encL c66 r.2.1⟩)], [], []⟩) := by
  refine tri_of_body (ac := C87) (xs := r87) Try.func87 (show Try.f87.body = some (Try.f87.body.getD .skip) from rfl) k87 q87 (Nat.le_of_ble_eq_true rfl) ?_
  refine body_of fun K hKn hKr => ?_
  unfold impl_subAfter.f at h
  unfold C87
  simp only [initT, Nat.reduceAdd]
  refine sr_k fun J1 hJ1 => ?_
  simp +decide only [Nat.reduceAdd, Nat.reduceMul, Int.reduceToNat, ak]
  refine gho_k (Weak.nm' 5 (.tmp 5 20) 5 (encL c66 ([] : List S66)) rfl rfl rfl) ?_
  simp +decide only [Nat.reduceAdd, Nat.reduceMul, Int.reduceToNat, ak]
  refine hJ1 _ ?_
  refine seq_k fun J2 hJ2 => ?_
  refine sr_k fun J3 hJ3 => ?_
  simp +decide only [Nat.reduceAdd, Nat.reduceMul, Int.reduceToNat, ak]
  obtain ⟨t4, h5, h⟩ := of_bind h
  refine call_m [] (s0 := []) (by intro t ht; cases ht; decide) rfl rfl (by first | rfl | simp only [reduceCtorEq, Nat.reduceEqDiff, ak, akF]) (impl_validSub.tri a0_0 a0_1 a0_2 a0_3 a0_4 a0_5 _ h5) (by first | rfl | simp only [reduceCtorEq, Nat.reduceEqDiff, ak, akF]) (by simp [bkOk2, memK]) (fun hl5 => ?_)
  refine call_st (s4 := [(.arg 0, ⟨.fz, 3, cs0⟩), (.tmp 2 0, ⟨.box, 0, [.sc (.int .u32 a0_0), .sc (.int .i64 a0_1), .sc (.int .i64 a0_2), .sc (.int .i64 a0_3), .sc (.int .i64 a0_4), .sc (.int .i64 a0_5)]⟩), (.tmp 5 20, ⟨.lst, 5, encL c66 ([] : List S66)⟩)]) (m1' := []) (m2' := []) (v' := .c (.sc (.bool t4))) (Sto.mapN_killNil _ _) (mrgL_nil' _ _ _) (by rfl) (mapT_killNil _ _) (by rfl) (by rfl) (by first | rfl | simp only [reduceCtorEq, Nat.reduceEqDiff, ak, akF, Nat.zero_add, List.append_nil]) ?_
  simp +decide only [Nat.reduceAdd, Nat.reduceMul, Int.reduceToNat, ak]
  refine hJ3 _ ?_
  refine cond_k (b := !t4) rfl (fun c7 => ?_) (fun c7 => ?_)
  · rw [if_pos c7] at h
    refine sr_k fun J8 hJ8 => ?_
    simp +decide only [Nat.reduceAdd, Nat.reduceMul, Int.reduceToNat, ak]
    refine gho_k ((Weak.drop [.tmp 5 20]).trans (Weak.nm' 5 (.tmp 5 20) 5 (encL c66 ([] : List S66)) rfl rfl rfl)) ?_
    simp +decide only [Nat.reduceAdd, Nat.reduceMul, Int.reduceToNat, ak]
    refine hJ8 _ ?_
    obtain rfl := Option.some.inj h
    refine hKr _ ⟨_, rfl, [⟨(.tmp 5 20), [], none, .lst⟩], _, rfl, rfl, ?_⟩
    first | rfl | (simp only [reduceCtorEq, Nat.reduceEqDiff, ak, akF]; done) | (simp [reduceCtorEq, Nat.reduceEqDiff, ak, akF] <;> omega)
  · rw [if_neg (Bool.eq_false_iff.1 c7)] at h
    refine hJ2 _ ?_
    refine seq_k fun J9 hJ9 => ?_
    refine sr_k fun J10 hJ10 => ?_
    simp +decide only [Nat.reduceAdd, Nat.reduceMul, Int.reduceToNat, ak]
    refine hJ10 _ ?_
    refine cond_k (b := decide ((l1.length : Int) > 4000)) rfl (fun c11 => ?_) (fun c11 => ?_)
    · replace c11 := of_decide_eq_true c11; rw [if_pos c11] at h
      refine sr_k fun J12 hJ12 => ?_
      simp +decide only [Nat.reduceAdd, Nat.reduceMul, Int.reduceToNat, ak]
      refine gho_k ((Weak.drop [.tmp 5 20]).trans (Weak.nm' 5 (.tmp 5 20) 5 (encL c66 ([] : List S66)) rfl rfl rfl)) ?_
      simp +decide only [Nat.reduceAdd, Nat.reduceMul, Int.reduceToNat, ak]
      refine hJ12 _ ?_
      obtain rfl := Option.some.inj h
      refine hKr _ ⟨_, rfl, [⟨(.tmp 5 20), [], none, .lst⟩], _, rfl, rfl, ?_⟩
      first | rfl | (simp only [reduceCtorEq, Nat.reduceEqDiff, ak, akF]; done) | (simp [reduceCtorEq, Nat.reduceEqDiff, ak, akF] <;> omega)
    · replace c11 := of_decide_eq_false c11; rw [if_neg c11] at h
      refine hJ9 _ ?_
      refine sr_k fun J13 hJ13 => ?_
      simp +decide only [Nat.reduceAdd, Nat.reduceMul, Int.reduceToNat, ak]
      obtain ⟨t14, h15, h⟩ := of_bind h
      refine call_m [] (s0 := []) (by intro t ht; cases ht; decide) rfl rfl (by first | rfl | simp only [reduceCtorEq, Nat.reduceEqDiff, ak, akF]) (impl_newSender.tri a0_0 a0_1 a0_2 a0_3 a0_4 a0_5 _ h15) (by first | rfl | simp only [reduceCtorEq, Nat.reduceEqDiff, ak, akF]) (by simp [bkOk2, memK]) (fun hl15 => ?_)
      refine call_st (s4 := [(.arg 0, ⟨.fz, 3, cs0⟩), (.tmp 2 0, ⟨.box, 0, [.sc (.int .u32 a0_0), .sc (.int .i64 a0_1), .sc (.int .i64 a0_2), .sc (.int .i64 a0_3), .sc (.int .i64 a0_4), .sc (.int .i64 a0_5)]⟩), (.tmp 5 20, ⟨.lst, 5, encL c66 ([] : List S66)⟩), (.tmp 19 0, ⟨.box, 0, [.sc (.int .u32 t14.1), .sc (.int .i64 t14.2.1), .sc (.int .i64 t14.2.2.1), .sc (.int .i64 t14.2.2.2.1), .sc (.int .i64 t14.2.2.2.2.1), .sc (.int .i64 t14.2.2.2.2.2.1), .sc (.int .u32 t14.2.2.2.2.2.2.1), .own 1 t14.2.2.2.2.2.2.2.1.length (encL c_i64 t14.2.2.2.2.2.2.2.1), .sc (.int .i64 t14.2.2.2.2.2.2.2.2.1), .sc (.int .i64 t14.2.2.2.2.2.2.2.2.2.1), .sc (.int .i64 t14.2.2.2.2.2.2.2.2.2.2.1), .sc (.int .i64 t14.2.2.2.2.2.2.2.2.2.2.2.1), .sc (.bool t14.2.2.2.2.2.2.2.2.2.2.2.2)]⟩)]) (m1' := []) (m2' := []) (v' := .c (.ptr (.tmp 19 0) [] 0)) (Sto.mapN_killNil _ _) (mrgL_nil' _ _ _) (by rfl) (mapT_killNil _ _) (by rfl) (by rfl) (by first | rfl | simp only [reduceCtorEq, Nat.reduceEqDiff, ak, akF, Nat.zero_add, List.append_nil]) ?_
      simp +decide only [Nat.reduceAdd, Nat.reduceMul, Int.reduceToNat, ak]
      refine hJ13 _ ?_
      refine sr_k fun J17 hJ17 => ?_
      simp +decide only [Nat.reduceAdd, Nat.reduceMul, Int.reduceToNat, ak]
      refine gho_k (Weak.nm' 8 (.tmp 8 20) 5 (encL c66 ([] : List S66)) rfl rfl rfl) ?_
      simp +decide only [Nat.reduceAdd, Nat.reduceMul, Int.reduceToNat, ak]
      refine hJ17 _ ?_
      refine seq_k fun J18 hJ18 => ?_
      refine sr_k fun J19 hJ19 => ?_
      simp +decide only [Nat.reduceAdd, Nat.reduceMul, Int.reduceToNat, ak]
      refine hJ19 _ ?_
      refine block_k fun B20 B20n B20x B20r B20j => ?_
      obtain ⟨y96, h97, h⟩ := of_bind h
      refine gh_k (st' := ⟨[(7, .c (.ptr (.tmp 19 0) [] 0)), (8, .c (.ref (.tmp 8 20) [] 0 (([] : List S66).length))), (20, .c (.ref (.arg 0) [] o0 l1.length)), (21, .c (.sc (.int .i64 (l1.length : Int)))), (22, .c (.sc (.int .i64 0)))], [(.arg 0, ⟨.fz, 3, cs0⟩), (.tmp 19 0, ⟨.box, 0, [.sc (.int .u32 t14.1), .sc (.int .i64 t14.2.1), .sc (.int .i64 t14.2.2.1), .sc (.int .i64 t14.2.2.2.1), .sc (.int .i64 t14.2.2.2.2.1), .sc (.int .i64 t14.2.2.2.2.2.1), .sc (.int .u32 t14.2.2.2.2.2.2.1), .own 1 t14.2.2.2.2.2.2.2.1.length (encL c_i64 t14.2.2.2.2.2.2.2.1), .sc (.int .i64 t14.2.2.2.2.2.2.2.2.1), .sc (.int .i64 t14.2.2.2.2.2.2.2.2.2.1), .sc (.int .i64 t14.2.2.2.2.2.2.2.2.2.2.1), .sc (.int .i64 t14.2.2.2.2.2.2.2.2.2.2.2.1), .sc (.bool t14.2.2.2.2.2.2.2.2.2.2.2.2)]⟩), (.tmp 8 20, ⟨.lst, 5, encL c66 ([] : List S66)⟩)], [], []⟩) (wk [7, 8, 20, 21, 22] [pI (.arg 0) .fz, pI (.tmp 19 0) .box, pI (.tmp 8 20) .lst] (h := by first | rfl | (simp +decide only [ak, akF]; done) | (simp +decide [ak, akF] <;> omega))) ?_
      rw [e_loop]
      refine impl_subAfter.l0_walk cs0 o0 l1 hv0 (l1.length : Int) t14.1 t14.2.1 t14.2.2.1 t14.2.2.2.1 t14.2.2.2.2.1 t14.2.2.2.2.2.1 0 t14.2.2.2.2.2.2.1 t14.2.2.2.2.2.2.2.1 t14.2.2.2.2.2.2.2.2.1 t14.2.2.2.2.2.2.2.2.2.1 t14.2.2.2.2.2.2.2.2.2.2.1 t14.2.2.2.2.2.2.2.2.2.2.2.1 t14.2.2.2.2.2.2.2.2.2.2.2.2 ([] : List S66) _ h97 _ ?_
      refine B20x _ ?_
      refine hJ18 _ ?_
      refine sr_k fun J98 hJ98 => ?_
      simp +decide only [Nat.reduceAdd, Nat.reduceMul, Int.reduceToNat, ak]
      refine hJ98 _ ?_
      obtain rfl := Option.some.inj h
      exact absurd hp (by simp)
theorem impl_subAfter.tri1 (cs0 : List Cell) (o0 : Nat) (l1 : List S63) (hv0 : Vw c63 3 cs0 o0 l1) (a0_0 : Int) (a0_1 : Int) (a0_2 : Int) (a0_3 : Int) (a0_4 : Int) (a0_5 : Int) (r : (Option (Int × Int × Int × Int × Int × Int × Int × (List Int) × Int × Int × Int × Int × Bool)) × (List S66) × Int) (h : impl_subAfter.f a0_0 a0_1 a0_2 a0_3 a0_4 a0_5 l1 = some r) (p : Int × Int × Int × Int × Int × Int × Int × (List Int) × Int × Int × Int × Int × Bool) (hp : r.1 = some p) : Tri Try.prog 87 [.g [.sc (.int .u32 a0_0), .sc (.int .i64 a0_1), .sc (.int .i64 a0_2), .sc (.int .i64 a0_3), .sc (.int .i64 a0_4), .sc (.int .i64 a0_5)], .c (.ref (.arg 0) [] o0 l1.length)] [(.arg 0, ⟨.fz, 3, cs0⟩)] (fun o => o = ⟨.tup [(false, [.ptr (.res 0) [] 0]), (false, [.ref (.res 1) [] 0 r.2.1.length]), (false, [.sc (.int .i64 r.2.2)])], [(.arg 0, ⟨.fz, 3, cs0⟩), (.res 0, ⟨.box, 0, [.sc (.int .u32 p.1), .sc (.int .i64 p.2.1), .sc (.int .i64 p.2.2.1), .sc (.int .i64 p.2.2.2.1), .sc (.int .i64 p.2.2.2.2.1), .sc (.int .i64 p.2.2.2.2.2.1), .sc (.int .u32 p.2.2.2.2.2.2.1), .own 1 p.2.2.2.2.2.2.2.1.length (encL c_i64 p.2.2.2.2.2.2.2.1), .sc (.int .i64 p.2.2.2.2.2.2.2.2.1), .sc (.int .i64 p.2.2.2.2.2.2.2.2.2.1), .sc (.int .i64 p.2.2.2.2.2.2.2.2.2.2.1), .sc (.int .i64 p.2.2.2.2.2.2.2.2.2.2.2.1), .sc (.bool p.2.2.2.2.2.2.2.2.2.2.2.2)]⟩), (.res 1, ⟨.lst, 5, encL c66 r.2.1⟩)], [], []⟩) := by
  refine tri_of_body (ac := C87) (xs := r87) Try.func87 (show Try.f87.body = some (Try.f87.body.getD .skip) from rfl) k87 q87 (Nat.le_of_ble_eq_true rfl) ?_
  refine body_of fun K hKn hKr => ?_
  unfold impl_subAfter.f at h
  unfold C87
  simp only [initT, Nat.reduceAdd]
  refine sr_k fun J1 hJ1 => ?_
  simp +decide only [Nat.reduceAdd, Nat.reduceMul, Int.reduceToNat, ak]
  refine gho_k (Weak.nm' 5 (.tmp 5 20) 5 (encL c66 ([] : List S66)) rfl rfl rfl) ?_
  simp +decide only [Nat.reduceAdd, Nat.reduceMul, Int.reduceToNat, ak]
  refine hJ1 _ ?_
  refine seq_k fun J2 hJ2 => ?_
  refine sr_k fun J3 hJ3 => ?_
  simp +decide only [Nat.reduceAdd, Nat.reduceMul, Int.reduceToNat, ak]
  obtain ⟨t4, h5, h⟩ := of_bind h
  refine call_m [] (s0 := []) (by intro t ht; cases ht; decide) rfl rfl (by first | rfl | simp only [reduceCtorEq, Nat.reduceEqDiff, ak, akF]) (impl_validSub.tri a0_0 a0_1 a0_2 a0_3 a0_4 a0_5 _ h5) (by first | rfl | simp only [reduceCtorEq, Nat.reduceEqDiff, ak, akF]) (by simp [bkOk2, memK]) (fun hl5 => ?_)
  refine call_st (s4 := [(.arg 0, ⟨.fz, 3, cs0⟩), (.tmp 2 0, ⟨.box, 0, [.sc (.int .u32 a0_0), .sc (.int .i64 a0_1), .sc (.int .i64 a0_2), .sc (.int .i64 a0_3), .sc (.int .i64 a0_4), .sc (.int .i64 a0_5)]⟩), (.tmp 5 20, ⟨.lst, 5, encL c66 ([] : List S66)⟩)]) (m1' := []) (m2' := []) (v' := .c (.sc (.bool t4))) (Sto.mapN_killNil _ _) (mrgL_nil' _ _ _) (by rfl) (mapT_killNil _ _) (by rfl) (by rfl) (by first | rfl | simp only [reduceCtorEq, Nat.reduceEqDiff, ak, akF, Nat.zero_add, List.append_nil]) ?_
  simp +decide only [Nat.reduceAdd, Nat.reduceMul, Int.reduceToNat, ak]
  refine hJ3 _ ?_
  refine cond_k (b := !t4) rfl (fun c7 => ?_) (fun c7 => ?_)
  · rw [if_pos c7] at h
    refine sr_k fun J8 hJ8 => ?_
    simp +decide only [Nat.reduceAdd, Nat.reduceMul, Int.reduceToNat, ak]
    refine gho_k ((Weak.drop [.tmp 5 20]).trans (Weak.nm' 5 (.tmp 5 20) 5 (encL c66 ([] : List S66)) rfl rfl rfl)) ?_
    simp +decide only [Nat.reduceAdd, Nat.reduceMul, Int.reduceToNat, ak]
    refine hJ8 _ ?_
    obtain rfl := Option.some.inj h
    exact absurd hp (by simp)
  · rw [if_neg (Bool.eq_false_iff.1 c7)] at h
    refine hJ2 _ ?_
    refine seq_k fun J9 hJ9 => ?_
    refine sr_k fun J10 hJ10 => ?_
    simp +decide only [Nat.reduceAdd, Nat.reduceMul, Int.reduceToNat, ak]
    refine hJ10 _ ?_
    refine cond_k (b := decide ((l1.length : Int) > 4000)) rfl (fun c11 => ?_) (fun c11 => ?_)
    · replace c11 := of_decide_eq_true c11; rw [if_pos c11] at h
      refine sr_k fun J12 hJ12 => ?_
      simp +decide only [Nat.reduceAdd, Nat.reduceMul, Int.reduceToNat, ak]
      refine gho_k ((Weak.drop [.tmp 5 20]).trans (Weak.nm' 5 (.tmp 5 20) 5 (encL c66 ([] : List S66)) rfl rfl rfl)) ?_
      simp +decide only [Nat.reduceAdd, Nat.reduceMul, Int.reduceToNat, ak]
      refine hJ12 _ ?_
      obtain rfl := Option.some.inj h
      exact absurd hp (by simp)
    · replace c11 := of_decide_eq_false c11; rw [if_neg c11] at h
      refine hJ9 _ ?_
      refine sr_k fun J13 hJ13 => ?_
      simp +decide only [Nat.reduceAdd, Nat.reduceMul, Int.reduceToNat, ak]
      obtain ⟨t14, h15, h⟩ := of_bind h
      refine call_m [] (s0 := []) (by intro t ht; cases ht; decide) rfl rfl (by first | rfl | simp only [reduceCtorEq, Nat.reduceEqDiff, ak, akF]) (impl_newSender.tri a0_0 a0_1 a0_2 a0_3 a0_4 a0_5 _ h15) (by first | rfl | simp only [reduceCtorEq, Nat.reduceEqDiff, ak, akF]) (by simp [bkOk2, memK]) (fun hl15 => ?_)
      refine call_st (s4 := [(.arg 0, ⟨.fz, 3, cs0⟩), (.tmp 2 0, ⟨.box, 0, [.sc (.int .u32 a0_0), .sc (.int .i64 a0_1), .sc (.int .i64 a0_2), .sc (.int .i64 a0_3), .sc (.int .i64 a0_4), .sc (.int .i64 a0_5)]⟩), (.tmp 5 20, ⟨.lst, 5, encL c66 ([] : List S66)⟩), (.tmp 19 0, ⟨.box, 0, [.sc (.int .u32 t14.1), .sc (.int .i64 t14.2.1), .sc (.int .i64 t14.2.2.1), .sc (.int .i64 t14.2.2.2.1), .sc (.int .i64 t14.2.2.2.2.1), .sc (.int .i64 t14.2.2.2.2.2.1), .sc (.int .u32 t14.2.2.2.2.2.2.1), .own 1 t14.2.2.2.2.2.2.2.1.length (encL c_i64 t14.2.2.2.2.2.2.2.1), .sc (.int .i64 t14.2.2.2.2.2.2.2.2.1), .sc (.int .i64 t14.2.2.2.2.2.2.2.2.2.1), .sc (.int .i64 t14.2.2.2.2.2.2.2.2.2.2.1), .sc (.int .i64 t14.2.2.2.2.2.2.2.2.2.2.2.1), .sc (.bool t14.2.2.2.2.2.2.2.2.2.2.2.2)]⟩)]) (m1' := []) (m2' := []) (v' := .c (.ptr (.tmp 19 0) [] 0)) (Sto.mapN_killNil _ _) (mrgL_nil' _ _ _) (by rfl) (mapT_killNil _ _) (by rfl) (by rfl) (by first | rfl | simp only [reduceCtorEq, Nat.reduceEqDiff, ak, akF, Nat.zero_add, List.append_nil]) ?_
      simp +decide only [Nat.reduceAdd, Nat.reduceMul, Int.reduceToNat, ak]
      refine hJ13 _ ?_
      refine sr_k fun J17 hJ17 => ?_
      simp +decide only [Nat.reduceAdd, Nat.reduceMul, Int.reduceToNat, ak]
      refine gho_k (Weak.nm' 8 (.tmp 8 20) 5 (encL c66 ([] : List S66)) rfl rfl rfl) ?_
      simp +decide only [Nat.reduceAdd, Nat.reduceMul, Int.reduceToNat, ak]
      refine hJ17 _ ?_
      refine seq_k fun J18 hJ18 => ?_
      refine sr_k fun J19 hJ19 => ?_
      simp +decide only [Nat.reduceAdd, Nat.reduceMul, Int.reduceToNat, ak]
      refine hJ19 _ ?_
      refine block_k fun B20 B20n B20x B20r B20j => ?_
      obtain ⟨y96, h97, h⟩ := of_bind h
      refine gh_k (st' := ⟨[(7, .c (.ptr (.tmp 19 0) [] 0)), (8, .c (.ref (.tmp 8 20) [] 0 (([] : List S66).length))), (20, .c (.ref (.arg 0) [] o0 l1.length)), (21, .c (.sc (.int .i64 (l1.length : Int)))), (22, .c (.sc (.int .i64 0)))], [(.arg 0, ⟨.fz, 3, cs0⟩), (.tmp 19 0, ⟨.box, 0, [.sc (.int .u32 t14.1), .sc (.int .i64 t14.2.1), .sc (.int .i64 t14.2.2.1), .sc (.int .i64 t14.2.2.2.1), .sc (.int .i64 t14.2.2.2.2.1), .sc (.int .i64 t14.2.2.2.2.2.1), .sc (.int .u32 t14.2.2.2.2.2.2.1), .own 1 t14.2.2.2.2.2.2.2.1.length (encL c_i64 t14.2.2.2.2.2.2.2.1), .sc (.int .i64 t14.2.2.2.2.2.2.2.2.1), .sc (.int .i64 t14.2.2.2.2.2.2.2.2.2.1), .sc (.int .i64 t14.2.2.2.2.2.2.2.2.2.2.1), .sc (.int .i64 t14.2.2.2.2.2.2.2.2.2.2.2.1), .sc (.bool t14.2.2.2.2.2.2.2.2.2.2.2.2)]⟩), (.tmp 8 20, ⟨.lst, 5, encL c66 ([] : List S66)⟩)], [], []⟩) (wk [7, 8, 20, 21, 22] [pI (.arg 0) .fz, pI (.tmp 19 0) .box, pI (.tmp 8 20) .lst] (h := by first | rfl | (simp +decide only [ak, akF]; done) | (simp +decide [ak, akF] <;> omega))) ?_
      rw [e_loop]
      refine impl_subAfter.l0_walk cs0 o0 l1 hv0 (l1.length : Int) t14.1 t14.2.1 t14.2.2.1 t14.2.2.2.1 t14.2.2.2.2.1 t14.2.2.2.2.2.1 0 t14.2.2.2.2.2.2.1 t14.2.2.2.2.2.2.2.1 t14.2.2.2.2.2.2.2.2.1 t14.2.2.2.2.2.2.2.2.2.1 t14.2.2.2.2.2.2.2.2.2.2.1 t14.2.2.2.2.2.2.2.2.2.2.2.1 t14.2.2.2.2.2.2.2.2.2.2.2.2 ([] : List S66) _ h97 _ ?_
      refine B20x _ ?_
      refine hJ18 _ ?_
      refine sr_k fun J98 hJ98 => ?_
      simp +decide only [Nat.reduceAdd, Nat.reduceMul, Int.reduceToNat, ak]
      refine hJ98 _ ?_
      obtain rfl := Option.some.inj h
      obtain rfl := Option.some.inj hp
      refine hKr _ ⟨_, rfl, [⟨(.tmp 19 0), [], none, .box⟩, ⟨(.tmp 8 20), [], none, .lst⟩], _, rfl, rfl, ?_⟩
      first | rfl | (simp only [reduceCtorEq, Nat.reduceEqDiff, ak, akF]; done) | (simp [reduceCtorEq, Nat.reduceEqDiff, ak, akF] <;> omega)
/-! ### impl.SubRun: function 31 -/
def C31 : AC := .seq (.reg [.op none (.box 2 (.tmp 0)), .op none (.mv 4 (.const (.slice none 0 0))), .gh, .op none (.mv 5 (.const (.int .i64 0))), .keep [1, 2]]) (.seq (.reg [.op none (.load 10 true 6 (.tmp 2)), .op none (.mv 11 (.tmp 1)), .call none (some 12) 87 [.tmp 10, .tmp 11], .op none (.mv 9 (.tmp 12)), .op none (.extr 13 (.tmp 9) 0), .op none (.extr 14 (.tmp 9) 1), .op none (.extr 15 (.tmp 9) 2), .op none (.mv 6 (.tmp 13)), .op none (.mv 7 (.tmp 14)), .op none (.mv 8 (.tmp 15)), .keep [7, 8]]) (.seq (.reg [.op none (.mv 16 (.tmp 7)), .op none (.mv 17 (.tmp 8)), .op none (.mv 4 (.tmp 16)), .op none (.mv 5 (.tmp 17)), .keep [4, 5]]) (.ret)))
def r31 : List RV := [.tmp 4, .tmp 5]
theorem k31 : compC Try.prog 18 C31 (Try.f31.body.getD .skip) = some C31.erase := by kernel_rfl
theorem q31 : rvsOf Try.prog Try.f31.results.toList = some r31 := by kernel_rfl
def impl_SubRun.f (a0_0 : Int) (a0_1 : Int) (a0_2 : Int) (a0_3 : Int) (a0_4 : Int) (a0_5 : Int) (l1 : List S63) : Option ((List S66) × Int) := (impl_subAfter.f a0_0 a0_1 a0_2 a0_3 a0_4 a0_5 l1 >>= fun t3 => (match t3.1 with | none => (some (t3.2.1, t3.2.2)) | some p7 => (some (t3.2.1, t3.2.2))))
theorem impl_SubRun.tri (cs0 : List Cell) (o0 : Nat) (l1 : List S63) (hv0 : Vw c63 3 cs0 o0 l1) (a0_0 : Int) (a0_1 : Int) (a0_2 : Int) (a0_3 : Int) (a0_4 : Int) (a0_5 : Int) (r : (List S66) × Int) (h : impl_SubRun.f a0_0 a0_1 a0_2 a0_3 a0_4 a0_5 l1 = some r) : Tri Try.prog 31 [.g [.sc (.int .u32 a0_0), .sc (.int .i64 a0_1), .sc (.int .i64 a0_2), .sc (.int .i64 a0_3), .sc (.int .i64 a0_4), .sc (.int .i64 a0_5)], .c (.ref (.arg 0) [] o0 l1.length)] [(.arg 0, ⟨.fz, 3, cs0⟩)] (fun o => o = ⟨.tup [(false, [.ref (.res 0) [] 0 r.1.length]), (false, [.sc (.int .i64 r.2)])], [(.arg 0, ⟨.fz, 3, cs0⟩), (.res 0, ⟨.lst, 5, encL c66 r.1⟩)], [], []⟩) := by
  refine tri_of_body (ac := C31) (xs := r31) Try.func31 (show Try.f31.body = some (Try.f31.body.getD .skip) from rfl) k31 q31 (Nat.le_of_ble_eq_true rfl) ?_
  refine body_of fun K hKn hKr => ?_
  unfold impl_SubRun.f at h
  unfold C31
  simp only [initT, Nat.reduceAdd]
  refine sr_k fun J1 hJ1 => ?_
  simp +decide only [Nat.reduceAdd, Nat.reduceMul, Int.reduceToNat, ak]
  refine gho_k (Weak.nm' 4 (.tmp 4 20) 5 (encL c66 ([] : List S66)) rfl rfl rfl) ?_
  simp +decide only [Nat.reduceAdd, Nat.reduceMul, Int.reduceToNat, ak]
  refine hJ1 _ ?_
  refine sr_k fun J2 hJ2 => ?_
  simp +decide only [Nat.reduceAdd, Nat.reduceMul, Int.reduceToNat, ak]
  obtain ⟨t3, h4, h⟩ := of_bind h
  rcases hpo : t3.1 with _ | p7
  · have hpp5 := hpo
    rw [hpo] at h; dsimp only at h
    refine call_m [(.arg 0, ⟨(.arg 0), [], none, .fz⟩)] (s0 := [(.arg 0, ⟨.fz, 3, cs0⟩)]) (by intro t ht; cases ht; decide) rfl rfl (by first | rfl | simp only [reduceCtorEq, Nat.reduceEqDiff, ak, akF]) (impl_subAfter.tri0 (cs0) o0 l1 hv0 a0_0 a0_1 a0_2 a0_3 a0_4 a0_5 _ h4 hpp5) (by first | rfl | simp only [reduceCtorEq, Nat.reduceEqDiff, ak, akF]) (by simp [bkOk2, memK]) (fun hl5 => ?_)
    refine call_st (s4 := [(.arg 0, ⟨.fz, 3, cs0⟩), (.tmp 2 0, ⟨.box, 0, [.sc (.int .u32 a0_0), .sc (.int .i64 a0_1), .sc (.int .i64 a0_2), .sc (.int .i64 a0_3), .sc (.int .i64 a0_4), .sc (.int .i64 a0_5)]⟩), (.tmp 4 20, ⟨.lst, 5, encL c66 ([] : List S66)⟩), (.tmp 12 0, ⟨.lst, 5, encL c66 t3.2.1⟩)]) (m1' := []) (m2' := []) (v' := .tup [(false, [.sc (.pointer none)]), (false, [.ref (.tmp 12 0) [] 0 t3.2.1.length]), (false, [.sc (.int .i64 t3.2.2)])]) (Sto.mapN_killNil _ _) (mrgL_fz (mrgL_nil' _ _ _) rfl (by first | rfl | simp only [reduceCtorEq, Nat.reduceEqDiff, ak]) rfl (by intro R hR hh; cases hR; cases hh.2)) (by rfl) (mapT_killNil _ _) (by rfl) (by rfl) (by first | rfl | simp only [reduceCtorEq, Nat.reduceEqDiff, ak, akF, Nat.zero_add, List.append_nil]) ?_
    simp +decide only [Nat.reduceAdd, Nat.reduceMul, Int.reduceToNat, ak]
    refine hJ2 _ ?_
    refine sr_k fun J9 hJ9 => ?_
    simp +decide only [Nat.reduceAdd, Nat.reduceMul, Int.reduceToNat, ak]
    refine hJ9 _ ?_
    obtain rfl := Option.some.inj h
    refine hKr _ ⟨_, rfl, [⟨(.tmp 12 0), [], none, .lst⟩], _, rfl, rfl, ?_⟩
    first | rfl | (simp only [reduceCtorEq, Nat.reduceEqDiff, ak, akF]; done) | (simp [reduceCtorEq, Nat.reduceEqDiff, ak, akF] <;> omega)
  · have hpp7 := hpo
    rw [hpo] at h; dsimp only at h
    refine call_m [(.arg 0, ⟨(.arg 0), [], none, .fz⟩)] (s0 := [(.arg 0, ⟨.fz, 3, cs0⟩)]) (by intro t ht; cases ht; decide) rfl rfl (by first | rfl | simp only [reduceCtorEq, Nat.reduceEqDiff, ak, akF]) (impl_subAfter.tri1 (cs0) o0 l1 hv0 a0_0 a0_1 a0_2 a0_3 a0_4 a0_5 _ h4 _ hpp7) (by first | rfl | simp only [reduceCtorEq, Nat.reduceEqDiff, ak, akF]) (by simp [bkOk2, memK]) (fun hl7 => ?_)
    refine call_st (s4 := [(.arg 0, ⟨.fz, 3, cs0⟩), (.tmp 2 0, ⟨.box, 0, [.sc (.int .u32 a0_0), .sc (.int .i64 a0_1), .sc (.int .i64 a0_2), .sc (.int .i64 a0_3), .sc (.int .i64 a0_4), .sc (.int .i64 a0_5)]⟩), (.tmp 4 20, ⟨.lst, 5, encL c66 ([] : List S66)⟩), (.tmp 12 1, ⟨.lst, 5, encL c66 t3.2.1⟩), (.tmp 12 0, ⟨.box, 0, [.sc (.int .u32 p7.1), .sc (.int .i64 p7.2.1), .sc (.int .i64 p7.2.2.1), .sc (.int .i64 p7.2.2.2.1), .sc (.int .i64 p7.2.2.2.2.1), .sc (.int .i64 p7.2.2.2.2.2.1), .sc (.int .u32 p7.2.2.2.2.2.2.1), .own 1 p7.2.2.2.2.2.2.2.1.length (encL c_i64 p7.2.2.2.2.2.2.2.1), .sc (.int .i64 p7.2.2.2.2.2.2.2.2.1), .sc (.int .i64 p7.2.2.2.2.2.2.2.2.2.1), .sc (.int .i64 p7.2.2.2.2.2.2.2.2.2.2.1), .sc (.int .i64 p7.2.2.2.2.2.2.2.2.2.2.2.1), .sc (.bool p7.2.2.2.2.2.2.2.2.2.2.2.2)]⟩)]) (m1' := []) (m2' := []) (v' := .tup [(false, [.ptr (.tmp 12 0) [] 0]), (false, [.ref (.tmp 12 1) [] 0 t3.2.1.length]), (false, [.sc (.int .i64 t3.2.2)])]) (Sto.mapN_killNil _ _) (mrgL_fz (mrgL_nil' _ _ _) rfl (by first | rfl | simp only [reduceCtorEq, Nat.reduceEqDiff, ak]) rfl (by intro R hR hh; cases hR; cases hh.2)) (by rfl) (mapT_killNil _ _) (by rfl) (by rfl) (by first | rfl | simp only [reduceCtorEq, Nat.reduceEqDiff, ak, akF, Nat.zero_add, List.append_nil]) ?_
    simp +decide only [Nat.reduceAdd, Nat.reduceMul, Int.reduceToNat, ak]
    refine hJ2 _ ?_
    refine sr_k fun J10 hJ10 => ?_
    simp +decide only [Nat.reduceAdd, Nat.reduceMul, Int.reduceToNat, ak]
    refine hJ10 _ ?_
    obtain rfl := Option.some.inj h
    refine hKr _ ⟨_, rfl, [⟨(.tmp 12 1), [], none, .lst⟩], _, rfl, rfl, ?_⟩
    first | rfl | (simp only [reduceCtorEq, Nat.reduceEqDiff, ak, akF]; done) | (simp [reduceCtorEq, Nat.reduceEqDiff, ak, akF] <;> omega)
/-! ### laws.FnDeath: function 6 -/
def C6_l0 : AC := .seq (.seq (.reg [.op none (.mv 59 (.tmp 11)), .op none (.mv 60 (.tmp 9)), .op none (.bin 61 .lss (.tmp 59) (.tmp 60)), .keep [3, 9, 10, 11, 61]]) (.cond (.tmp 61) (.skip) (.gh (.exit 0)))) (.seq (.block 1 (.reg [.op none (.mv 64 (.tmp 10)), .op none (.mv 65 (.tmp 11)), .op none (.bin 66 .mul (.const (.int .i64 7)) (.tmp 65)), .op none (.build 67 [.int .i64 0, .int .i64 0, .int .u32 0] [(0, 1, .const (.int .i64 1)), (1, 1, .tmp 66)]), .op none (.bslice 68 3 [.int .i64 0, .int .i64 0, .int .u32 0] 1 [(0, .tmp 67)]), .op none (.app 69 3 24 true (.tmp 64) (.tmp 68)), .op none (.mv 10 (.tmp 69)), .keep [3, 9, 10, 11]])) (.reg [.op none (.mv 62 (.tmp 11)), .op none (.bin 63 .add (.tmp 62) (.const (.int .i64 1))), .op none (.mv 11 (.tmp 63)), .keep [3, 9, 10, 11]]))
def C6_l1 : AC := .seq (.seq (.reg [.op none (.mv 73 (.tmp 15)), .op none (.faddr 74 4 (.tmp 3)), .op none (.load 75 false 1 (.tmp 74)), .op none (.bin 76 .lss (.tmp 73) (.tmp 75)), .keep [3, 9, 10, 12, 13, 14, 15, 76]]) (.cond (.tmp 76) (.skip) (.gh (.exit 2)))) (.seq (.ga (.block 3 (.seq (.reg [.op none (.mv 79 (.tmp 13)), .op none (.mv 80 (.tmp 14)), .op none (.bin 81 .add (.tmp 79) (.tmp 80)), .op none (.mv 13 (.tmp 81)), .keep [3, 9, 10, 12, 13, 14, 15]]) (.seq (.reg [.op none (.mv 82 (.tmp 12)), .op none (.mv 83 (.tmp 13)), .op none (.bslice 84 1 [.int .i64 0] 1 [(0, .tmp 83)]), .op none (.app 85 1 8 true (.tmp 82) (.tmp 84)), .op none (.mv 12 (.tmp 85)), .keep [3, 9, 10, 12, 13, 14, 15]]) (.seq (.reg [.op none (.mv 86 (.tmp 14)), .op none (.bin 87 .mul (.const (.int .i64 2)) (.tmp 86)), .op none (.mv 14 (.tmp 87)), .keep [3, 9, 10, 12, 13, 14, 15]]) (.seq (.reg [.op none (.mv 88 (.tmp 14)), .op none (.faddr 89 3 (.tmp 3)), .op none (.load 90 false 1 (.tmp 89)), .op none (.bin 91 .gtr (.tmp 88) (.tmp 90)), .keep [3, 9, 10, 12, 13, 14, 15, 91]]) (.cond (.tmp 91) (.reg [.op none (.faddr 92 3 (.tmp 3)), .op none (.load 93 false 1 (.tmp 92)), .op none (.mv 14 (.tmp 93)), .keep [3, 9, 10, 12, 13, 14, 15]]) (.skip)))))))) (.reg [.op none (.mv 77 (.tmp 15)), .op none (.bin 78 .add (.tmp 77) (.const (.int .i64 1))), .op none (.mv 15 (.tmp 78)), .keep [3, 9, 10, 12, 13, 14, 15]]))
def C6_l2 : AC := .seq (.seq (.reg [.op none (.mv 99 (.tmp 17)), .op none (.mv 100 (.tmp 16)), .op none (.bin 101 .lss (.tmp 99) (.tmp 100)), .keep [3, 9, 10, 12, 13, 16, 17, 101]]) (.cond (.tmp 101) (.skip) (.gh (.exit 4)))) (.seq (.block 5 (.reg [.op none (.mv 104 (.tmp 10)), .op none (.build 105 [.int .i64 0, .int .i64 0, .int .u32 0] [(0, 1, .const (.int .i64 3))]), .op none (.bslice 106 3 [.int .i64 0, .int .i64 0, .int .u32 0] 1 [(0, .tmp 105)]), .op none (.app 107 3 24 true (.tmp 104) (.tmp 106)), .op none (.mv 10 (.tmp 107)), .keep [3, 9, 10, 12, 13, 16, 17]])) (.reg [.op none (.mv 102 (.tmp 17)), .op none (.bin 103 .add (.tmp 102) (.const (.int .i64 1))), .op none (.mv 17 (.tmp 103)), .keep [3, 9, 10, 12, 13, 16, 17]]))
def C6_l4 : AC := .seq (.seq (.reg [.op none (.mv 193 (.tmp 26)), .op none (.mv 194 (.tmp 23)), .op none (.bin 195 .lss (.tmp 193) (.tmp 194)), .keep [3, 9, 12, 13, 16, 18, 20, 21, 22, 23, 24, 26, 195]]) (.cond (.tmp 195) (.skip) (.gh (.exit 8)))) (.seq (.block 9 (.seq (.reg [.op none (.faddr 198 1 (.tmp 22)), .op none (.load 199 false 1 (.tmp 198)), .op none (.mv 200 (.tmp 26)), .op none (.iaddr 201 3 (.tmp 199) (.tmp 200)), .op none (.load 202 true 3 (.tmp 201)), .op none (.alloc 27 [.int .i64 0, .int .u32 0, .int .i64 0]), .op none (.store 3 (.tmp 27) (.tmp 202)), .keep [3, 9, 12, 13, 16, 18, 20, 21, 22, 23, 24, 26, 27]]) (.seq (.ga (.reg [.op none (.faddr 203 0 (.tmp 27)), .op none (.load 204 false 1 (.tmp 203)), .op none (.mv 205 (.tmp 24)), .op none (.bin 206 .neq (.tmp 204) (.tmp 205)), .op none (.mv 207 (.tmp 206)), .op (some (207, false)) (.faddr 208 1 (.tmp 27)), .op (some (207, false)) (.load 209 false 1 (.tmp 208)), .op (some (207, false)) (.faddr 210 0 (.tmp 3)), .op (some (207, false)) (.load 211 false 1 (.tmp 210)), .op (some (207, false)) (.mv 212 (.tmp 26)), .op (some (207, false)) (.conv 213 .u32 (.tmp 212)), .op (some (207, false)) (.bin 214 .add (.tmp 211) (.tmp 213)), .op (some (207, false)) (.bin 215 .neq (.tmp 209) (.tmp 214)), .op none (.pick 216 (.tmp 207) (.const (.bool true)) (.tmp 215)), .op none (.mv 217 (.tmp 216)), .op (some (217, false)) (.mv 218 (.tmp 24)), .op (some (217, false)) (.bin 219 .eql (.tmp 218) (.const (.int .i64 2))), .op (some (217, false)) (.mv 220 (.tmp 219)), .op (some (220, true)) (.faddr 221 2 (.tmp 27)), .op (some (220, true)) (.load 222 false 1 (.tmp 221)), .op (some (220, true)) (.mv 223 (.tmp 26)), .op (some (220, true)) (.bin 224 .mul (.const (.int .i64 7)) (.tmp 223)), .op (some (220, true)) (.bin 225 .neq (.tmp 222) (.tmp 224)), .op (some (217, false)) (.pick 226 (.tmp 220) (.tmp 225) (.const (.bool false))), .op none (.pick 227 (.tmp 217) (.const (.bool true)) (.tmp 226)), .keep [3, 9, 12, 13, 16, 18, 20, 21, 22, 23, 24, 26, 227]])) (.cond (.tmp 227) (.seq (.reg [.op none (.mv 2 (.const (.bool false))), .keep [2]]) (.gh .ret)) (.skip))))) (.reg [.op none (.mv 196 (.tmp 26)), .op none (.bin 197 .add (.tmp 196) (.const (.int .i64 1))), .op none (.mv 26 (.tmp 197)), .keep [3, 9, 12, 13, 16, 18, 20, 21, 22, 23, 24, 26]]))
def C6_l3 : AC := .seq (.seq (.reg [.op none (.mv 134 (.tmp 21)), .op none (.mv 135 (.tmp 16)), .op none (.bin 136 .leq (.tmp 134) (.tmp 135)), .keep [3, 9, 12, 13, 16, 18, 20, 21, 136]]) (.cond (.tmp 136) (.skip) (.gh (.exit 6)))) (.seq (.block 7 (.seq (.reg [.op none (.mv 139 (.tmp 18)), .op none (.mv 140 (.tmp 9)), .op none (.mv 141 (.tmp 21)), .op none (.bin 142 .add (.tmp 140) (.tmp 141)), .op none (.bin 143 .sub (.tmp 142) (.const (.int .i64 1))), .op none (.iaddr 144 5 (.tmp 139) (.tmp 143)), .op none (.load 145 true 5 (.tmp 144)), .op none (.alloc 22 [.int .i64 0, .slice none 0 0, .slice none 0 0, .int .i64 0, .int .i64 0]), .gh, .op none (.store 5 (.tmp 22) (.tmp 145)), .keep [3, 9, 12, 13, 16, 18, 20, 21, 22]]) (.seq (.reg [.op none (.mv 23 (.const (.int .i64 0))), .keep [3, 9, 12, 13, 16, 18, 20, 21, 22, 23]]) (.seq (.reg [.op none (.mv 24 (.const (.int .i64 2))), .keep [3, 9, 12, 13, 16, 18, 20, 21, 22, 23, 24]]) (.seq (.reg [.op none (.mv 25 (.const (.int .i64 0))), .keep [3, 9, 12, 13, 16, 18, 20, 21, 22, 23, 24, 25]]) (.seq (.ga (.seq (.ga (.reg [.op none (.mv 146 (.tmp 20)), .op none (.mv 147 (.tmp 12)), .op none (.len 148 (.tmp 147)), .op none (.bin 149 .lss (.tmp 146) (.tmp 148)), .op none (.mv 150 (.tmp 149)), .op (some (150, true)) (.mv 151 (.tmp 12)), .op (some (150, true)) (.mv 152 (.tmp 20)), .op (some (150, true)) (.iaddr 153 1 (.tmp 151) (.tmp 152)), .op (some (150, true)) (.load 154 false 1 (.tmp 153)), .op (some (150, true)) (.mv 155 (.tmp 21)), .op (some (150, true)) (.bin 156 .eql (.tmp 154) (.tmp 155)), .op none (.pick 157 (.tmp 150) (.tmp 156) (.const (.bool false))), .keep [3, 9, 12, 13, 16, 18, 20, 21, 22, 23, 24, 25, 157]])) (.cond (.tmp 157) (.seq (.reg [.op none (.mv 158 (.tmp 20)), .op none (.bin 159 .add (.tmp 158) (.const (.int .i64 1))), .op none (.mv 20 (.tmp 159)), .keep [3, 9, 12, 13, 16, 18, 20, 21, 22, 24, 25]]) (.seq (.reg [.op none (.mv 160 (.tmp 9)), .op none (.mv 23 (.tmp 160)), .keep [3, 9, 12, 13, 16, 18, 20, 21, 22, 23, 24, 25]]) (.seq (.reg [.op none (.mv 161 (.tmp 20)), .op none (.mv 162 (.tmp 12)), .op none (.len 163 (.tmp 162)), .op none (.bin 164 .eql (.tmp 161) (.tmp 163)), .keep [3, 9, 12, 13, 16, 18, 20, 21, 22, 23, 24, 25, 164]]) (.cond (.tmp 164) (.seq (.reg [.op none (.mv 23 (.const (.int .i64 0))), .keep [3, 9, 12, 13, 16, 18, 20, 21, 22, 23, 24]]) (.reg [.op none (.mv 25 (.const (.int .i64 1))), .keep [3, 9, 12, 13, 16, 18, 20, 21, 22, 23, 24, 25]])) (.skip))))) (.seq (.ga (.reg [.op none (.mv 165 (.tmp 21)), .op none (.mv 166 (.tmp 13)), .op none (.bin 167 .gtr (.tmp 165) (.tmp 166)), .op none (.mv 168 (.tmp 167)), .op (some (168, true)) (.mv 169 (.tmp 21)), .op (some (168, true)) (.mv 170 (.tmp 13)), .op (some (168, true)) (.bin 171 .sub (.tmp 169) (.tmp 170)), .op (some (168, true)) (.faddr 172 5 (.tmp 3)), .op (some (168, true)) (.load 173 false 1 (.tmp 172)), .op (some (168, true)) (.bin 174 .rem (.tmp 171) (.tmp 173)), .op (some (168, true)) (.bin 175 .eql (.tmp 174) (.const (.int .i64 0))), .op none (.pick 176 (.tmp 168) (.tmp 175) (.const (.bool false))), .keep [3, 9, 12, 13, 16, 18, 20, 21, 22, 23, 24, 25, 176]])) (.cond (.tmp 176) (.seq (.reg [.op none (.mv 23 (.const (.int .i64 1))), .keep [3, 9, 12, 13, 16, 18, 20, 21, 22, 23, 25]]) (.reg [.op none (.mv 24 (.const (.int .i64 3))), .keep [3, 9, 12, 13, 16, 18, 20, 21, 22, 23, 24, 25]])) (.skip)))))) (.seq (.seq (.ga (.reg [.op none (.faddr 177 1 (.tmp 22)), .op none (.load 178 false 1 (.tmp 177)), .op none (.len 179 (.tmp 178)), .op none (.mv 180 (.tmp 23)), .op none (.bin 181 .neq (.tmp 179) (.tmp 180)), .op none (.mv 182 (.tmp 181)), .op (some (182, false)) (.faddr 183 3 (.tmp 22)), .op (some (182, false)) (.load 184 false 1 (.tmp 183)), .op (some (182, false)) (.mv 185 (.tmp 25)), .op (some (182, false)) (.bin 186 .neq (.tmp 184) (.tmp 185)), .op none (.pick 187 (.tmp 182) (.const (.bool true)) (.tmp 186)), .op none (.mv 188 (.tmp 187)), .op (some (188, false)) (.faddr 189 0 (.tmp 22)), .op (some (188, false)) (.load 190 false 1 (.tmp 189)), .op (some (188, false)) (.bin 191 .neq (.tmp 190) (.const (.int .i64 0))), .op none (.pick 192 (.tmp 188) (.const (.bool true)) (.tmp 191)), .keep [3, 9, 12, 13, 16, 18, 20, 21, 22, 23, 24, 192]])) (.cond (.tmp 192) (.seq (.reg [.op none (.mv 2 (.const (.bool false))), .keep [2]]) (.gh .ret)) (.skip))) (.seq (.reg [.op none (.mv 26 (.const (.int .i64 0))), .keep [3, 9, 12, 13, 16, 18, 20, 21, 22, 23, 24, 26]]) (.block 8 (.gh (.loop (.ga C6_l4)))))))))))) (.reg [.op none (.mv 137 (.tmp 21)), .op none (.bin 138 .add (.tmp 137) (.const (.int .i64 1))), .op none (.mv 21 (.tmp 138)), .keep [3, 9, 12, 13, 16, 18, 20, 21]]))
def C6_l5 : AC := .seq (.seq (.reg [.op none (.mv 268 (.tmp 29)), .op none (.mv 269 (.tmp 9)), .op none (.bin 270 .sub (.tmp 269) (.const (.int .i64 1))), .op none (.bin 271 .lss (.tmp 268) (.tmp 270)), .keep [9, 28, 29, 271]]) (.cond (.tmp 271) (.skip) (.gh (.exit 10)))) (.seq (.block 11 (.seq (.ga (.reg [.op none (.faddr 274 1 (.tmp 28)), .op none (.load 275 false 1 (.tmp 274)), .op none (.mv 276 (.tmp 29)), .op none (.iaddr 277 3 (.tmp 275) (.tmp 276)), .op none (.faddr 278 0 (.tmp 277)), .op none (.load 279 false 1 (.tmp 278)), .op none (.bin 280 .neq (.tmp 279) (.const (.int .i64 2))), .op none (.mv 281 (.tmp 280)), .op (some (281, false)) (.faddr 282 1 (.tmp 28)), .op (some (281, false)) (.load 283 false 1 (.tmp 282)), .op (some (281, false)) (.mv 284 (.tmp 29)), .op (some (281, false)) (.iaddr 285 3 (.tmp 283) (.tmp 284)), .op (some (281, false)) (.faddr 286 2 (.tmp 285)), .op (some (281, false)) (.load 287 false 1 (.tmp 286)), .op (some (281, false)) (.mv 288 (.tmp 29)), .op (some (281, false)) (.bin 289 .add (.tmp 288) (.const (.int .i64 1))), .op (some (281, false)) (.bin 290 .mul (.const (.int .i64 7)) (.tmp 289)), .op (some (281, false)) (.bin 291 .neq (.tmp 287) (.tmp 290)), .op none (.pick 292 (.tmp 281) (.const (.bool true)) (.tmp 291)), .keep [9, 28, 29, 292]])) (.cond (.tmp 292) (.seq (.reg [.op none (.mv 2 (.const (.bool false))), .keep [2]]) (.gh .ret)) (.skip)))) (.reg [.op none (.mv 272 (.tmp 29)), .op none (.bin 273 .add (.tmp 272) (.const (.int .i64 1))), .op none (.mv 29 (.tmp 273)), .keep [9, 28, 29]]))
def C6 : AC := .seq (.reg [.op none (.mv 2 (.const (.bool false))), .keep [0]]) (.seq (.seq (.reg [.op none (.mv 30 (.tmp 0)), .op none (.len 31 (.tmp 30)), .op none (.bin 32 .gtr (.tmp 31) (.const (.int .i64 1048576))), .keep [0, 32]]) (.cond (.tmp 32) (.seq (.reg [.op none (.mv 2 (.const (.bool true))), .keep [2]]) (.ret)) (.skip))) (.seq (.reg [.op none (.mv 34 (.tmp 0)), .call none (some 35) 29 [.tmp 34], .op none (.mv 33 (.tmp 35)), .op none (.extr 36 (.tmp 33) 0), .op none (.extr 37 (.tmp 33) 1), .op none (.alloc 3 [.int .u32 0, .int .i64 0, .int .i64 0, .int .i64 0, .int .i64 0, .int .i64 0]), .op none (.store 6 (.tmp 3) (.tmp 36)), .op none (.mv 4 (.tmp 37)), .keep [0, 3]]) (.seq (.reg [.op none (.load 39 true 6 (.tmp 3)), .call none (some 40) 30 [.tmp 39, .const (.slice none 0 0)], .op none (.mv 38 (.tmp 40)), .op none (.extr 41 (.tmp 38) 0), .op none (.extr 42 (.tmp 38) 1), .op none (.mv 5 (.tmp 41)), .op none (.mv 6 (.tmp 42)), .keep [0, 3, 6]]) (.seq (.seq (.reg [.op none (.mv 43 (.tmp 6)), .op none (.bin 44 .neq (.tmp 43) (.const (.int .i64 0))), .keep [0, 3, 44]]) (.cond (.tmp 44) (.seq (.reg [.op none (.load 46 true 6 (.tmp 3)), .call none (some 47) 31 [.tmp 46, .const (.slice none 0 0)], .op none (.mv 45 (.tmp 47)), .op none (.extr 48 (.tmp 45) 0), .op none (.extr 49 (.tmp 45) 1), .op none (.mv 7 (.tmp 48)), .op none (.mv 8 (.tmp 49)), .keep [8]]) (.seq (.reg [.op none (.mv 50 (.tmp 8)), .op none (.bin 51 .eql (.tmp 50) (.const (.int .i64 17))), .op none (.mv 2 (.tmp 51)), .keep [2]]) (.ret))) (.skip))) (.seq (.reg [.op none (.mv 52 (.tmp 0)), .op none (.len 53 (.tmp 52)), .op none (.faddr 54 1 (.tmp 3)), .op none (.load 55 false 1 (.tmp 54)), .op none (.bin 56 .rem (.tmp 53) (.tmp 55)), .op none (.bin 57 .add (.const (.int .i64 1)) (.tmp 56)), .op none (.mv 9 (.tmp 57)), .keep [3, 9]]) (.seq (.reg [.op none (.bslice 58 3 [.int .i64 0, .int .i64 0, .int .u32 0] 0 []), .op none (.mv 10 (.tmp 58)), .keep [3, 9, 10]]) (.seq (.seq (.reg [.op none (.mv 11 (.const (.int .i64 0))), .keep [3, 9, 10, 11]]) (.block 0 (.gh (.loop (.ga C6_l0))))) (.seq (.reg [.op none (.bslice 70 1 [.int .i64 0] 0 []), .op none (.mv 12 (.tmp 70)), .keep [3, 9, 10, 12]]) (.seq (.reg [.op none (.mv 13 (.const (.int .i64 0))), .keep [3, 9, 10, 12, 13]]) (.seq (.reg [.op none (.faddr 71 2 (.tmp 3)), .op none (.load 72 false 1 (.tmp 71)), .op none (.mv 14 (.tmp 72)), .keep [3, 9, 10, 12, 13, 14]]) (.seq (.seq (.reg [.op none (.mv 15 (.const (.int .i64 0))), .keep [3, 9, 10, 12, 13, 14, 15]]) (.block 2 (.gh (.loop (.ga C6_l1))))) (.seq (.reg [.op none (.mv 94 (.tmp 13)), .op none (.faddr 95 5 (.tmp 3)), .op none (.load 96 false 1 (.tmp 95)), .op none (.bin 97 .mul (.const (.int .i64 2)) (.tmp 96)), .op none (.bin 98 .add (.tmp 94) (.tmp 97)), .op none (.mv 16 (.tmp 98)), .keep [3, 9, 10, 12, 13, 16]]) (.seq (.seq (.reg [.op none (.mv 17 (.const (.int .i64 0))), .keep [3, 9, 10, 12, 13, 16, 17]]) (.block 4 (.gh (.loop (.ga C6_l2))))) (.seq (.reg [.op none (.mv 108 (.tmp 10)), .op none (.build 109 [.int .i64 0, .int .i64 0, .int .u32 0] [(0, 1, .const (.int .i64 1)), (1, 1, .const (.int .i64 99))]), .op none (.bslice 110 3 [.int .i64 0, .int .i64 0, .int .u32 0] 1 [(0, .tmp 109)]), .op none (.app 111 3 24 true (.tmp 108) (.tmp 110)), .op none (.mv 10 (.tmp 111)), .keep [3, 9, 10, 12, 13, 16]]) (.seq (.reg [.op none (.mv 112 (.tmp 10)), .op none (.faddr 113 0 (.tmp 3)), .op none (.load 114 false 1 (.tmp 113)), .op none (.bin 115 .add (.tmp 114) (.const (.int .u32 1))), .op none (.build 116 [.int .i64 0, .int .i64 0, .int .u32 0] [(0, 1, .const (.int .i64 2)), (2, 1, .tmp 115)]), .op none (.bslice 117 3 [.int .i64 0, .int .i64 0, .int .u32 0] 1 [(0, .tmp 116)]), .op none (.app 118 3 24 true (.tmp 112) (.tmp 117)), .op none (.mv 10 (.tmp 118)), .keep [3, 9, 10, 12, 13, 16]]) (.seq (.reg [.op none (.load 120 true 6 (.tmp 3)), .op none (.mv 121 (.tmp 10)), .call none (some 122) 31 [.tmp 120, .tmp 121], .op none (.mv 119 (.tmp 122)), .op none (.extr 123 (.tmp 119) 0), .op none (.extr 124 (.tmp 119) 1), .op none (.mv 18 (.tmp 123)), .op none (.mv 19 (.tmp 124)), .keep [3, 9, 10, 12, 13, 16, 18, 19]]) (.seq (.seq (.ga (.reg [.op none (.mv 125 (.tmp 19)), .op none (.bin 126 .neq (.tmp 125) (.const (.int .i64 0))), .op none (.mv 127 (.tmp 126)), .op (some (127, false)) (.mv 128 (.tmp 18)), .op (some (127, false)) (.len 129 (.tmp 128)), .op (some (127, false)) (.mv 130 (.tmp 10)), .op (some (127, false)) (.len 131 (.tmp 130)), .op (some (127, false)) (.bin 132 .neq (.tmp 129) (.tmp 131)), .op none (.pick 133 (.tmp 127) (.const (.bool true)) (.tmp 132)), .keep [3, 9, 12, 13, 16, 18, 133]])) (.cond (.tmp 133) (.seq (.reg [.op none (.mv 2 (.const (.bool false))), .keep [2]]) (.ret)) (.skip))) (.seq (.reg [.op none (.mv 20 (.const (.int .i64 0))), .keep [3, 9, 12, 13, 16, 18, 20]]) (.seq (.seq (.reg [.op none (.mv 21 (.const (.int .i64 1))), .keep [3, 9, 12, 13, 16, 18, 20, 21]]) (.block 6 (.gh (.loop (.ga C6_l3))))) (.seq (.reg [.op none (.mv 228 (.tmp 18)), .op none (.mv 229 (.tmp 18)), .op none (.len 230 (.tmp 229)), .op none (.bin 231 .sub (.tmp 230) (.const (.int .i64 1))), .op none (.iaddr 232 5 (.tmp 228) (.tmp 231)), .op none (.load 233 true 5 (.tmp 232)), .op none (.alloc 28 [.int .i64 0, .slice none 0 0, .slice none 0 0, .int .i64 0, .int .i64 0]), .gh, .op none (.store 5 (.tmp 28) (.tmp 233)), .keep [9, 18, 28]]) (.seq (.seq (.ga (.reg [.op none (.mv 234 (.tmp 18)), .op none (.mv 235 (.tmp 18)), .op none (.len 236 (.tmp 235)), .op none (.bin 237 .sub (.tmp 236) (.const (.int .i64 2))), .op none (.iaddr 238 5 (.tmp 234) (.tmp 237)), .op none (.faddr 239 0 (.tmp 238)), .op none (.load 240 false 1 (.tmp 239)), .op none (.bin 241 .neq (.tmp 240) (.const (.int .i64 10))), .op none (.mv 242 (.tmp 241)), .op (some (242, false)) (.faddr 243 4 (.tmp 28)), .op (some (242, false)) (.load 244 false 1 (.tmp 243)), .op (some (242, false)) (.bin 245 .neq (.tmp 244) (.const (.int .i64 1))), .op none (.pick 246 (.tmp 242) (.const (.bool true)) (.tmp 245)), .op none (.mv 247 (.tmp 246)), .op (some (247, false)) (.faddr 248 2 (.tmp 28)), .op (some (247, false)) (.load 249 false 1 (.tmp 248)), .op (some (247, false)) (.len 250 (.tmp 249)), .op (some (247, false)) (.bin 251 .neq (.tmp 250) (.const (.int .i64 1))), .op none (.pick 252 (.tmp 247) (.const (.bool true)) (.tmp 251)), .op none (.mv 253 (.tmp 252)), .op (some (253, false)) (.faddr 254 2 (.tmp 28)), .op (some (253, false)) (.load 255 false 1 (.tmp 254)), .op (some (253, false)) (.iaddr 256 1 (.tmp 255) (.const (.int .i64 0))), .op (some (253, false)) (.load 257 false 1 (.tmp 256)), .op (some (253, false)) (.bin 258 .neq (.tmp 257) (.const (.int .i64 0))), .op none (.pick 259 (.tmp 253) (.const (.bool true)) (.tmp 258)), .op none (.mv 260 (.tmp 259)), .op (some (260, false)) (.faddr 261 1 (.tmp 28)), .op (some (260, false)) (.load 262 false 1 (.tmp 261)), .op (some (260, false)) (.len 263 (.tmp 262)), .op (some (260, false)) (.mv 264 (.tmp 9)), .op (some (260, false)) (.bin 265 .sub (.tmp 264) (.const (.int .i64 1))), .op (some (260, false)) (.bin 266 .neq (.tmp 263) (.tmp 265)), .op none (.pick 267 (.tmp 260) (.const (.bool true)) (.tmp 266)), .keep [9, 28, 267]])) (.cond (.tmp 267) (.seq (.reg [.op none (.mv 2 (.const (.bool false))), .keep [2]]) (.ret)) (.skip))) (.seq (.seq (.reg [.op none (.mv 29 (.const (.int .i64 0))), .keep [9, 28, 29]]) (.block 10 (.gh (.loop (.ga C6_l5))))) (.seq (.reg [.op none (.mv 2 (.const (.bool true))), .keep [2]]) (.ret))))))))))))))))))))))))
def r6 : List RV := [.tmp 2]
theorem k6 : compC Try.prog 293 C6 (Try.f6.body.getD .skip) = some C6.erase := by kernel_rfl
theorem q6 : rvsOf Try.prog Try.f6.results.toList = some r6 := by kernel_rfl
def laws_FnDeath.l0 (l0 : List Int) (x0_0 : Int) (x0_2 : Int) (x0_3 : Int) (x0_4 : Int) (x0_5 : Int) (x0_6 : Int) (x0_7 : Int) (x0_1 : Int) (x0_8 : (List S63)) : Option (List S63) := (if x0_1 < x0_0 then (if (x0_8.length + 1) * 24 ≤ 140737488355328 then (laws_FnDeath.l0 l0 x0_0 x0_2 x0_3 x0_4 x0_5 x0_6 x0_7 (IntKind.i64.wrap (x0_1 + 1)) (x0_8 ++ ([(⟨1, IntKind.i64.wrap (7 * x0_1), 0⟩ : S63)] : List S63))) else none) else (some x0_8))
  partial_fixpoint
def laws_FnDeath.l1 (x1_0 : Int) (x1_4 : Int) (x1_5 : Int) (x1_6 : Int) (x1_7 : Int) (x1_8 : Int) (x1_9 : Int) (x1_10 : (List S63)) (x1_1 : Int) (x1_2 : Int) (x1_3 : Int) (x1_11 : (List Int)) : Option (Int × (List Int)) := (if x1_3 < x1_8 then ((if (x1_11.length + 1) * 8 ≤ 140737488355328 then (if IntKind.i64.wrap (2 * x1_2) > x1_7 then (some x1_7) else (some (IntKind.i64.wrap (2 * x1_2)))) else none) >>= fun (j59 : Int) => (laws_FnDeath.l1 x1_0 x1_4 x1_5 x1_6 x1_7 x1_8 x1_9 x1_10 (IntKind.i64.wrap (x1_1 + x1_2)) j59 (IntKind.i64.wrap (x1_3 + 1)) (x1_11 ++ ([IntKind.i64.wrap (x1_1 + x1_2)] : List Int)))) else (some (x1_1, x1_11)))
  partial_fixpoint
def laws_FnDeath.l2 (x2_0 : Int) (x2_1 : Int) (x2_2 : Int) (x2_4 : Int) (x2_5 : Int) (x2_6 : Int) (x2_7 : Int) (x2_8 : Int) (x2_9 : Int) (x2_11 : (List Int)) (x2_3 : Int) (x2_10 : (List S63)) : Option (List S63) := (if x2_3 < x2_2 then (if (x2_10.length + 1) * 24 ≤ 140737488355328 then (laws_FnDeath.l2 x2_0 x2_1 x2_2 x2_4 x2_5 x2_6 x2_7 x2_8 x2_9 x2_11 (IntKind.i64.wrap (x2_3 + 1)) (x2_10 ++ ([(⟨3, 0, 0⟩ : S63)] : List S63))) else none) else (some x2_10))
  partial_fixpoint
def laws_FnDeath.l4 (x4_0 : Int) (x4_1 : Int) (x4_2 : Int) (x4_3 : Int) (x4_4 : Int) (x4_5 : Int) (x4_6 : Int) (x4_8 : Int) (x4_9 : Int) (x4_10 : Int) (x4_11 : Int) (x4_12 : Int) (x4_13 : Int) (x4_14 : (List Int)) (x4_15 : (List S66)) (x4_16 : Int) (x4_17 : Nat) (x4_18 : (List S68)) (x4_19 : Nat) (x4_20 : (List Int)) (x4_21 : Int) (x4_22 : Int) (x4_7 : Int) : Option (Lp Unit Bool) := (if x4_7 < x4_5 then (if 0 ≤ x4_7 ∧ x4_7 < (x4_18.length : Int) then ((if (rd z68 x4_18 x4_7).f0 ≠ x4_6 then (some true) else (if (rd z68 x4_18 x4_7).f1 ≠ IntKind.u32.wrap (x4_8 + (IntKind.u32.wrap x4_7)) then (some true) else (if x4_6 = 2 then (some (decide ((rd z68 x4_18 x4_7).f2 ≠ IntKind.i64.wrap (7 * x4_7)))) else (some false)))) >>= fun (j202 : Bool) => (if j202 = true then (some (.b false)) else (laws_FnDeath.l4 x4_0 x4_1 x4_2 x4_3 x4_4 x4_5 x4_6 x4_8 x4_9 x4_10 x4_11 x4_12 x4_13 x4_14 x4_15 x4_16 x4_17 x4_18 x4_19 x4_20 x4_21 x4_22 (IntKind.i64.wrap (x4_7 + 1))))) else none) else (some (.a ())))
  partial_fixpoint
def laws_FnDeath.l3 (x3_0 : Int) (x3_1 : Int) (x3_2 : Int) (x3_5 : Int) (x3_6 : Int) (x3_7 : Int) (x3_8 : Int) (x3_9 : Int) (x3_10 : Int) (x3_11 : (List Int)) (x3_12 : (List S66)) (x3_3 : Int) (x3_4 : Int) : Option (Lp Unit Bool) := (if x3_4 ≤ x3_2 then (if 0 ≤ IntKind.i64.wrap ((IntKind.i64.wrap (x3_0 + x3_4)) - 1) ∧ IntKind.i64.wrap ((IntKind.i64.wrap (x3_0 + x3_4)) - 1) < (x3_12.length : Int) then (((if x3_3 < (x3_11.length : Int) then (if 0 ≤ x3_3 ∧ x3_3 < (x3_11.length : Int) then (some (decide ((rd 0 x3_11 x3_3) = x3_4))) else none) else (some false)) >>= fun (j152 : Bool) => (if j152 = true then (if IntKind.i64.wrap (x3_3 + 1) = (x3_11.length : Int) then (some (IntKind.i64.wrap (x3_3 + 1), 0, 2, 1)) else (some (IntKind.i64.wrap (x3_3 + 1), x3_0, 2, 0))) else ((if x3_4 > x3_1 then (if ¬ x3_10 = 0 then (some (decide ((IntKind.i64.wrap (x3_4 - x3_1)).tmod x3_10 = 0))) else none) else (some false)) >>= fun (j167 : Bool) => (if j167 = true then (some (x3_3, 1, 3, 0)) else (some (x3_3, 0, 2, 0)))))) >>= fun (j148 : Int × Int × Int × Int) => ((if (((rd z66 x3_12 (IntKind.i64.wrap ((IntKind.i64.wrap (x3_0 + x3_4)) - 1))).f1).length : Int) ≠ j148.2.1 then (some true) else (if (rd z66 x3_12 (IntKind.i64.wrap ((IntKind.i64.wrap (x3_0 + x3_4)) - 1))).f3 ≠ j148.2.2.2 then (some true) else (some (decide ((rd z66 x3_12 (IntKind.i64.wrap ((IntKind.i64.wrap (x3_0 + x3_4)) - 1))).f0 ≠ 0))))) >>= fun (j178 : Bool) => (if j178 = true then (some (.b false)) else (laws_FnDeath.l4 x3_0 x3_1 x3_2 j148.1 x3_4 j148.2.1 j148.2.2.1 x3_5 x3_6 x3_7 x3_8 x3_9 x3_10 x3_11 x3_12 ((rd z66 x3_12 (IntKind.i64.wrap ((IntKind.i64.wrap (x3_0 + x3_4)) - 1))).f0) (0 + (IntKind.i64.wrap ((IntKind.i64.wrap (x3_0 + x3_4)) - 1)).toNat * 5 + 1) ((rd z66 x3_12 (IntKind.i64.wrap ((IntKind.i64.wrap (x3_0 + x3_4)) - 1))).f1) (0 + (IntKind.i64.wrap ((IntKind.i64.wrap (x3_0 + x3_4)) - 1)).toNat * 5 + 1 + 1) ((rd z66 x3_12 (IntKind.i64.wrap ((IntKind.i64.wrap (x3_0 + x3_4)) - 1))).f2) ((rd z66 x3_12 (IntKind.i64.wrap ((IntKind.i64.wrap (x3_0 + x3_4)) - 1))).f3) ((rd z66 x3_12 (IntKind.i64.wrap ((IntKind.i64.wrap (x3_0 + x3_4)) - 1))).f4) 0 >>= fun (y217 : Lp Unit Bool) => match y217 with | .a x219 => (laws_FnDeath.l3 x3_0 x3_1 x3_2 x3_5 x3_6 x3_7 x3_8 x3_9 x3_10 x3_11 x3_12 j148.1 (IntKind.i64.wrap (x3_4 + 1))) | .b x219 => (some (.b x219)))))) else none) else (some (.a ())))
  partial_fixpoint
def laws_FnDeath.l5 (x5_0 : Int) (x5_2 : Int) (x5_3 : Nat) (x5_4 : (List S68)) (x5_5 : Nat) (x5_6 : (List Int)) (x5_7 : Int) (x5_8 : Int) (x5_9 : (List S66)) (x5_1 : Int) : Option (Lp Unit Bool) := (if x5_1 < IntKind.i64.wrap (x5_0 - 1) then ((if 0 ≤ x5_1 ∧ x5_1 < (x5_4.length : Int) then (if (rd z68 x5_4 x5_1).f0 ≠ 2 then (some true) else (some (decide ((rd z68 x5_4 x5_1).f2 ≠ IntKind.i64.wrap (7 * (IntKind.i64.wrap (x5_1 + 1))))))) else none) >>= fun (j261 : Bool) => (if j261 = true then (some (.b false)) else (laws_FnDeath.l5 x5_0 x5_2 x5_3 x5_4 x5_5 x5_6 x5_7 x5_8 x5_9 (IntKind.i64.wrap (x5_1 + 1))))) else (some (.a ())))
  partial_fixpoint
def laws_FnDeath.f (l0 : List Int) : Option Bool := (if (l0.length : Int) > 1048576 then (some true) else (spec_DrawSubRun.f l0 >>= fun t7 => (spec_SubRun_v1n.f t7.1 t7.2.1 t7.2.2.1 t7.2.2.2.1 t7.2.2.2.2.1 t7.2.2.2.2.2.1 >>= fun t11 => (if t11.2 ≠ 0 then (impl_SubRun_v1n.f t7.1 t7.2.1 t7.2.2.1 t7.2.2.2.1 t7.2.2.2.2.1 t7.2.2.2.2.2.1 >>= fun t18 => (some (decide (t18.2 = 17)))) else (if ¬ t7.2.1 = 0 then (laws_FnDeath.l0 l0 (IntKind.i64.wrap (1 + ((l0.length : Int).tmod t7.2.1))) t7.1 t7.2.1 t7.2.2.1 t7.2.2.2.1 t7.2.2.2.2.1 t7.2.2.2.2.2.1 0 ([] : List S63) >>= fun (y45 : (List S63)) => (laws_FnDeath.l1 (IntKind.i64.wrap (1 + ((l0.length : Int).tmod t7.2.1))) t7.1 t7.2.1 t7.2.2.1 t7.2.2.2.1 t7.2.2.2.2.1 t7.2.2.2.2.2.1 y45 0 t7.2.2.1 0 ([] : List Int) >>= fun (y78 : (Int × (List Int))) => (laws_FnDeath.l2 (IntKind.i64.wrap (1 + ((l0.length : Int).tmod t7.2.1))) y78.1 (IntKind.i64.wrap (y78.1 + (IntKind.i64.wrap (2 * t7.2.2.2.2.2.1)))) t7.1 t7.2.1 t7.2.2.1 t7.2.2.2.1 t7.2.2.2.2.1 t7.2.2.2.2.2.1 y78.2 0 y45 >>= fun (y98 : (List S63)) => (if (y98.length + 1) * 24 ≤ 140737488355328 then (if ((y98.length + 1) + 1) * 24 ≤ 140737488355328 then (impl_SubRun.f t7.1 t7.2.1 t7.2.2.1 t7.2.2.2.1 t7.2.2.2.2.1 t7.2.2.2.2.2.1 ((y98 ++ ([(⟨1, 99, 0⟩ : S63)] : List S63)) ++ ([(⟨2, 0, IntKind.u32.wrap (t7.1 + 1)⟩ : S63)] : List S63)) >>= fun t120 => ((if t120.2 ≠ 0 then (some true) else (some (decide ((t120.1.length : Int) ≠ ((y98.length + 1) + 1 : Int))))) >>= fun (j124 : Bool) => (if j124 = true then (some false) else (laws_FnDeath.l3 (IntKind.i64.wrap (1 + ((l0.length : Int).tmod t7.2.1))) y78.1 (IntKind.i64.wrap (y78.1 + (IntKind.i64.wrap (2 * t7.2.2.2.2.2.1)))) t7.1 t7.2.1 t7.2.2.1 t7.2.2.2.1 t7.2.2.2.2.1 t7.2.2.2.2.2.1 y78.2 t120.1 0 1 >>= fun (y220 : Lp Unit Bool) => match y220 with | .a x222 => (if 0 ≤ IntKind.i64.wrap ((t120.1.length : Int) - 1) ∧ IntKind.i64.wrap ((t120.1.length : Int) - 1) < (t120.1.length : Int) then ((if 0 ≤ IntKind.i64.wrap ((t120.1.length : Int) - 2) ∧ IntKind.i64.wrap ((t120.1.length : Int) - 2) < (t120.1.length : Int) then (if (rd z66 t120.1 (IntKind.i64.wrap ((t120.1.length : Int) - 2))).f0 ≠ 10 then (some true) else (if (rd z66 t120.1 (IntKind.i64.wrap ((t120.1.length : Int) - 1))).f4 ≠ 1 then (some true) else (if (((rd z66 t120.1 (IntKind.i64.wrap ((t120.1.length : Int) - 1))).f2).length : Int) ≠ 1 then (some true) else (if (0 : Int) ≤ 0 ∧ 0 < (((rd z66 t120.1 (IntKind.i64.wrap ((t120.1.length : Int) - 1))).f2).length : Int) then (if (rd 0 ((rd z66 t120.1 (IntKind.i64.wrap ((t120.1.length : Int) - 1))).f2) 0) ≠ 0 then (some true) else (some (decide ((((rd z66 t120.1 (IntKind.i64.wrap ((t120.1.length : Int) - 1))).f1).length : Int) ≠ IntKind.i64.wrap ((IntKind.i64.wrap (1 + ((l0.length : Int).tmod t7.2.1))) - 1))))) else none)))) else none) >>= fun (j227 : Bool) => (if j227 = true then (some false) else (laws_FnDeath.l5 (IntKind.i64.wrap (1 + ((l0.length : Int).tmod t7.2.1))) ((rd z66 t120.1 (IntKind.i64.wrap ((t120.1.length : Int) - 1))).f0) (0 + (IntKind.i64.wrap ((t120.1.length : Int) - 1)).toNat * 5 + 1) ((rd z66 t120.1 (IntKind.i64.wrap ((t120.1.length : Int) - 1))).f1) (0 + (IntKind.i64.wrap ((t120.1.length : Int) - 1)).toNat * 5 + 1 + 1) ((rd z66 t120.1 (IntKind.i64.wrap ((t120.1.length : Int) - 1))).f2) ((rd z66 t120.1 (IntKind.i64.wrap ((t120.1.length : Int) - 1))).f3) ((rd z66 t120.1 (IntKind.i64.wrap ((t120.1.length : Int) - 1))).f4) t120.1 0 >>= fun (y275 : Lp Unit Bool) => match y275 with | .a x277 => (some true) | .b x277 => (some x277)))) else none) | .b x222 => (some x222))))) else none) else none)))) else none)))))
def laws_FnDeath.l0_M (cs0 : List Cell) (o0 : Nat) (l0 : List Int) (hv0 : Vw c_u8 1 cs0 o0 l0) (x0_0 : Int) (x0_2 : Int) (x0_3 : Int) (x0_4 : Int) (x0_5 : Int) (x0_6 : Int) (x0_7 : Int) (x0_1 : Int) (x0_8 : (List S63)) (y : (List S63)) : Prop := ∀ (K : AE → St → Prop), (K (.exit 0) ⟨[(3, .c (.ptr (.tmp 3 0) [] 0)), (9, .c (.sc (.int .i64 x0_0))), (10, .c (.ref (.tmp 58 0) [] 0 y.length))], [(.arg 0, ⟨.fz, 1, cs0⟩), (.tmp 3 0, ⟨.box, 0, [.sc (.int .u32 x0_2), .sc (.int .i64 x0_3), .sc (.int .i64 x0_4), .sc (.int .i64 x0_5), .sc (.int .i64 x0_6), .sc (.int .i64 x0_7)]⟩), (.tmp 58 0, ⟨.lst, 3, encL c63 y⟩)], [], []⟩) → loopS Try.prog 293 (.ga C6_l0) K ⟨[(3, .c (.ptr (.tmp 3 0) [] 0)), (9, .c (.sc (.int .i64 x0_0))), (10, .c (.ref (.tmp 58 0) [] 0 x0_8.length)), (11, .c (.sc (.int .i64 x0_1)))], [(.arg 0, ⟨.fz, 1, cs0⟩), (.tmp 3 0, ⟨.box, 0, [.sc (.int .u32 x0_2), .sc (.int .i64 x0_3), .sc (.int .i64 x0_4), .sc (.int .i64 x0_5), .sc (.int .i64 x0_6), .sc (.int .i64 x0_7)]⟩), (.tmp 58 0, ⟨.lst, 3, encL c63 x0_8⟩)], [], []⟩
theorem laws_FnDeath.l0_walk (cs0 : List Cell) (o0 : Nat) (l0 : List Int) (hv0 : Vw c_u8 1 cs0 o0 l0) (x0_0 : Int) (x0_2 : Int) (x0_3 : Int) (x0_4 : Int) (x0_5 : Int) (x0_6 : Int) (x0_7 : Int) (x0_1 : Int) (x0_8 : (List S63)) (y : (List S63)) (h : laws_FnDeath.l0 l0 x0_0 x0_2 x0_3 x0_4 x0_5 x0_6 x0_7 x0_1 x0_8 = some y) : laws_FnDeath.l0_M cs0 o0 l0 hv0 x0_0 x0_2 x0_3 x0_4 x0_5 x0_6 x0_7 x0_1 x0_8 y := by
  refine laws_FnDeath.l0.partial_correctness l0 x0_0 x0_2 x0_3 x0_4 x0_5 x0_6 x0_7 (motive := fun x0_1 x0_8 y => laws_FnDeath.l0_M cs0 o0 l0 hv0 x0_0 x0_2 x0_3 x0_4 x0_5 x0_6 x0_7 x0_1 x0_8 y) ?_ x0_1 x0_8 y h
  clear h
  unfold laws_FnDeath.l0_M
  intro rec ih x0_1 x0_8 y h K hx0
  refine loop_unroll (ga_k fun G0 G0n G0r G0x => ?_)
  unfold C6_l0
  refine seq_k fun J31 hJ31 => ?_
  refine sr_k fun J32 hJ32 => ?_
  simp +decide only [Nat.reduceAdd, Nat.reduceMul, Int.reduceToNat, ak]
  refine hJ32 _ ?_
  refine cond_k (b := decide (x0_1 < x0_0)) rfl (fun c33 => ?_) (fun c33 => ?_)
  · replace c33 := of_decide_eq_true c33; rw [if_pos c33] at h
    refine hJ31 _ ?_
    refine seq_k fun J34 hJ34 => ?_
    refine block_k fun B35 B35n B35x B35r B35j => ?_
    refine reg_k ?_
    have g36 : (List.replicate 1 ([.int .i64 0, .int .i64 0, .int .u32 0] : List Value)).flatten = [.int .i64 0, .int .i64 0, .int .u32 0] := rfl
    have g37 : (⟨.lst, 3, [.sc (.int .i64 1), .sc (.int .i64 (IntKind.i64.wrap (7 * x0_1))), .sc (.int .u32 0)]⟩ : Root) = ⟨.lst, 3, encL c63 ([(⟨1, IntKind.i64.wrap (7 * x0_1), 0⟩ : S63)] : List S63)⟩ := rfl
    have g38 : ([(⟨1, IntKind.i64.wrap (7 * x0_1), 0⟩ : S63)] : List S63).length = 1 := rfl
    have g39 : (encL c63 ([(⟨1, IntKind.i64.wrap (7 * x0_1), 0⟩ : S63)] : List S63)).length = 1 * 3 := by simp [encL_length c63_w]
    have g40 : (encL c63 ([(⟨1, IntKind.i64.wrap (7 * x0_1), 0⟩ : S63)] : List S63)).all nd = true := rfl
    obtain ⟨b41, h⟩ := of_guard h
    have g42 : appLim x0_8.length 1 24 := ⟨b41, by have := b41; omega⟩
    have g43 : (encL c63 x0_8).length = x0_8.length * 3 := by simp [encL_length c63_w]
    have g44 : encL c63 x0_8 ++ encL c63 ([(⟨1, IntKind.i64.wrap (7 * x0_1), 0⟩ : S63)] : List S63) = encL c63 (x0_8 ++ ([(⟨1, IntKind.i64.wrap (7 * x0_1), 0⟩ : S63)] : List S63)) := (encL_append _ _).symm
    simp +decide only [Nat.reduceAdd, Nat.reduceMul, Int.reduceToNat, ak, g36, g37, g38, g39, g40, g42, g43, g44]
    refine B35n _ ?_
    refine hJ34 _ ?_
    refine reg_k ?_
    simp +decide only [Nat.reduceAdd, Nat.reduceMul, Int.reduceToNat, ak]
    refine G0n _ _ (wk [3, 9, 10, 11] [pI (.arg 0) .fz, pI (.tmp 3 0) .box, pI (.tmp 58 0) .lst] (h0 := by first | rfl | simp +decide only [ak, akF, b41]) (h := by first | rfl | (simp +decide only [ak, akF, b41]; done) | (simp +decide [ak, akF, b41] <;> omega))) (ih _ _ _ h K hx0)
  · replace c33 := of_decide_eq_false c33; rw [if_neg c33] at h
    obtain rfl := Option.some.inj h
    refine gh_k (wk [3, 9, 10] [pI (.arg 0) .fz, pI (.tmp 3 0) .box, pI (.tmp 58 0) .lst]) ?_
    refine G0x _ _ ?_
    exact hx0
def laws_FnDeath.l1_M (cs0 : List Cell) (o0 : Nat) (l0 : List Int) (hv0 : Vw c_u8 1 cs0 o0 l0) (x1_0 : Int) (x1_4 : Int) (x1_5 : Int) (x1_6 : Int) (x1_7 : Int) (x1_8 : Int) (x1_9 : Int) (x1_10 : (List S63)) (x1_1 : Int) (x1_2 : Int) (x1_3 : Int) (x1_11 : (List Int)) (y : (Int × (List Int))) : Prop := ∀ (K : AE → St → Prop), (K (.exit 2) ⟨[(3, .c (.ptr (.tmp 3 0) [] 0)), (9, .c (.sc (.int .i64 x1_0))), (10, .c (.ref (.tmp 58 0) [] 0 x1_10.length)), (12, .c (.ref (.tmp 70 0) [] 0 y.2.length)), (13, .c (.sc (.int .i64 y.1)))], [(.arg 0, ⟨.fz, 1, cs0⟩), (.tmp 3 0, ⟨.box, 0, [.sc (.int .u32 x1_4), .sc (.int .i64 x1_5), .sc (.int .i64 x1_6), .sc (.int .i64 x1_7), .sc (.int .i64 x1_8), .sc (.int .i64 x1_9)]⟩), (.tmp 58 0, ⟨.lst, 3, encL c63 x1_10⟩), (.tmp 70 0, ⟨.lst, 1, encL c_i64 y.2⟩)], [], []⟩) → loopS Try.prog 293 (.ga C6_l1) K ⟨[(3, .c (.ptr (.tmp 3 0) [] 0)), (9, .c (.sc (.int .i64 x1_0))), (10, .c (.ref (.tmp 58 0) [] 0 x1_10.length)), (12, .c (.ref (.tmp 70 0) [] 0 x1_11.length)), (13, .c (.sc (.int .i64 x1_1))), (14, .c (.sc (.int .i64 x1_2))), (15, .c (.sc (.int .i64 x1_3)))], [(.arg 0, ⟨.fz, 1, cs0⟩), (.tmp 3 0, ⟨.box, 0, [.sc (.int .u32 x1_4), .sc (.int .i64 x1_5), .sc (.int .i64 x1_6), .sc (.int .i64 x1_7), .sc (.int .i64 x1_8), .sc (.int .i64 x1_9)]⟩), (.tmp 58 0, ⟨.lst, 3, encL c63 x1_10⟩), (.tmp 70 0, ⟨.lst, 1, encL c_i64 x1_11⟩)], [], []⟩
theorem laws_FnDeath.l1_walk (cs0 : List Cell) (o0 : Nat) (l0 : List Int) (hv0 : Vw c_u8 1 cs0 o0 l0) (x1_0 : Int) (x1_4 : Int) (x1_5 : Int) (x1_6 : Int) (x1_7 : Int) (x1_8 : Int) (x1_9 : Int) (x1_10 : (List S63)) (x1_1 : Int) (x1_2 : Int) (x1_3 : Int) (x1_11 : (List Int)) (y : (Int × (List Int))) (h : laws_FnDeath.l1 x1_0 x1_4 x1_5 x1_6 x1_7 x1_8 x1_9 x1_10 x1_1 x1_2 x1_3 x1_11 = some y) : laws_FnDeath.l1_M cs0 o0 l0 hv0 x1_0 x1_4 x1_5 x1_6 x1_7 x1_8 x1_9 x1_10 x1_1 x1_2 x1_3 x1_11 y := by
  refine laws_FnDeath.l1.partial_correctness x1_0 x1_4 x1_5 x1_6 x1_7 x1_8 x1_9 x1_10 (motive := fun x1_1 x1_2 x1_3 x1_11 y => laws_FnDeath.l1_M cs0 o0 l0 hv0 x1_0 x1_4 x1_5 x1_6 x1_7 x1_8 x1_9 x1_10 x1_1 x1_2 x1_3 x1_11 y) ?_ x1_1 x1_2 x1_3 x1_11 y h
  clear h
  unfold laws_FnDeath.l1_M
  intro rec ih x1_1 x1_2 x1_3 x1_11 y h K hx0
  refine loop_unroll (ga_k fun G1 G1n G1r G1x => ?_)
  unfold C6_l1
  refine seq_k fun J56 hJ56 => ?_
  refine sr_k fun J57 hJ57 => ?_
  simp +decide only [Nat.reduceAdd, Nat.reduceMul, Int.reduceToNat, ak]
  refine hJ57 _ ?_
  refine cond_k (b := decide (x1_3 < x1_8)) rfl (fun c58 => ?_) (fun c58 => ?_)
  · replace c58 := of_decide_eq_true c58; rw [if_pos c58] at h
    refine hJ56 _ ?_
    obtain ⟨j59, h60, hn⟩ := of_bind h
    refine seq_j (fun st => st = ⟨[(3, .c (.ptr (.tmp 3 0) [] 0)), (9, .c (.sc (.int .i64 x1_0))), (10, .c (.ref (.tmp 58 0) [] 0 x1_10.length)), (12, .c (.ref (.tmp 70 0) [] 0 ((x1_11 ++ ([IntKind.i64.wrap (x1_1 + x1_2)] : List Int)).length))), (13, .c (.sc (.int .i64 (IntKind.i64.wrap (x1_1 + x1_2))))), (14, .c (.sc (.int .i64 j59))), (15, .c (.sc (.int .i64 x1_3)))], [(.arg 0, ⟨.fz, 1, cs0⟩), (.tmp 3 0, ⟨.box, 0, [.sc (.int .u32 x1_4), .sc (.int .i64 x1_5), .sc (.int .i64 x1_6), .sc (.int .i64 x1_7), .sc (.int .i64 x1_8), .sc (.int .i64 x1_9)]⟩), (.tmp 58 0, ⟨.lst, 3, encL c63 x1_10⟩), (.tmp 70 0, ⟨.lst, 1, encL c_i64 (x1_11 ++ ([IntKind.i64.wrap (x1_1 + x1_2)] : List Int))⟩)], [], []⟩) (fun J61 hJ61 => ?_) ?_
    · replace h := h60; clear hn
      refine ga_k fun G62 G62n G62r G62x => ?_
      refine block_k fun B63 B63n B63x B63r B63j => ?_
      refine sr_k fun J64 hJ64 => ?_
      simp +decide only [Nat.reduceAdd, Nat.reduceMul, Int.reduceToNat, ak]
      refine hJ64 _ ?_
      refine sr_k fun J65 hJ65 => ?_
      have g66 : (List.replicate 1 ([.int .i64 0] : List Value)).flatten = [.int .i64 0] := rfl
      have g67 : (⟨.lst, 1, [.sc (.int .i64 (IntKind.i64.wrap (x1_1 + x1_2)))]⟩ : Root) = ⟨.lst, 1, encL c_i64 ([IntKind.i64.wrap (x1_1 + x1_2)] : List Int)⟩ := rfl
      have g68 : ([IntKind.i64.wrap (x1_1 + x1_2)] : List Int).length = 1 := rfl
      have g69 : (encL c_i64 ([IntKind.i64.wrap (x1_1 + x1_2)] : List Int)).length = 1 * 1 := by simp [encL_length c_i64_w]
      have g70 : (encL c_i64 ([IntKind.i64.wrap (x1_1 + x1_2)] : List Int)).all nd = true := rfl
      obtain ⟨b71, h⟩ := of_guard h
      have g72 : appLim x1_11.length 1 8 := ⟨b71, by have := b71; omega⟩
      have g73 : (encL c_i64 x1_11).length = x1_11.length * 1 := by simp [encL_length c_i64_w]
      have g74 : encL c_i64 x1_11 ++ encL c_i64 ([IntKind.i64.wrap (x1_1 + x1_2)] : List Int) = encL c_i64 (x1_11 ++ ([IntKind.i64.wrap (x1_1 + x1_2)] : List Int)) := (encL_append _ _).symm
      simp +decide only [Nat.reduceAdd, Nat.reduceMul, Int.reduceToNat, ak, g66, g67, g68, g69, g70, g72, g73, g74]
      refine hJ65 _ ?_
      refine sr_k fun J75 hJ75 => ?_
      simp +decide only [Nat.reduceAdd, Nat.reduceMul, Int.reduceToNat, ak]
      refine hJ75 _ ?_
      refine sr_k fun J76 hJ76 => ?_
      simp +decide only [Nat.reduceAdd, Nat.reduceMul, Int.reduceToNat, ak]
      refine hJ76 _ ?_
      refine cond_k (b := decide (IntKind.i64.wrap (2 * x1_2) > x1_7)) rfl (fun c77 => ?_) (fun c77 => ?_)
      · replace c77 := of_decide_eq_true c77; rw [if_pos c77] at h
        refine reg_k ?_
        simp +decide only [Nat.reduceAdd, Nat.reduceMul, Int.reduceToNat, ak]
        refine B63n _ ?_
        obtain rfl := Option.some.inj h
        refine G62n _ _ (wk [3, 9, 10, 12, 13, 14, 15] [pI (.arg 0) .fz, pI (.tmp 3 0) .box, pI (.tmp 58 0) .lst, pI (.tmp 70 0) .lst] (h0 := by first | rfl | simp +decide only [ak, akF, b71]) (h := by first | rfl | (simp +decide only [ak, akF, b71]; done) | (simp +decide [ak, akF, b71] <;> omega))) (hJ61 _ rfl)
      · replace c77 := of_decide_eq_false c77; rw [if_neg c77] at h
        refine B63n _ ?_
        obtain rfl := Option.some.inj h
        refine G62n _ _ (wk [3, 9, 10, 12, 13, 14, 15] [pI (.arg 0) .fz, pI (.tmp 3 0) .box, pI (.tmp 58 0) .lst, pI (.tmp 70 0) .lst] (h0 := by first | rfl | simp +decide only [ak, akF, b71]) (h := by first | rfl | (simp +decide only [ak, akF, b71]; done) | (simp +decide [ak, akF, b71] <;> omega))) (hJ61 _ rfl)
    · replace h := hn; clear hn h60
      rintro _ rfl
      refine reg_k ?_
      simp +decide only [Nat.reduceAdd, Nat.reduceMul, Int.reduceToNat, ak]
      refine G1n _ _ (wk [3, 9, 10, 12, 13, 14, 15] [pI (.arg 0) .fz, pI (.tmp 3 0) .box, pI (.tmp 58 0) .lst, pI (.tmp 70 0) .lst]) (ih _ _ _ _ _ h K hx0)
  · replace c58 := of_decide_eq_false c58; rw [if_neg c58] at h
    obtain rfl := Option.some.inj h
    refine gh_k (wk [3, 9, 10, 12, 13] [pI (.arg 0) .fz, pI (.tmp 3 0) .box, pI (.tmp 58 0) .lst, pI (.tmp 70 0) .lst]) ?_
    refine G1x _ _ ?_
    exact hx0
def laws_FnDeath.l2_M (cs0 : List Cell) (o0 : Nat) (l0 : List Int) (hv0 : Vw c_u8 1 cs0 o0 l0) (x2_0 : Int) (x2_1 : Int) (x2_2 : Int) (x2_4 : Int) (x2_5 : Int) (x2_6 : Int) (x2_7 : Int) (x2_8 : Int) (x2_9 : Int) (x2_11 : (List Int)) (x2_3 : Int) (x2_10 : (List S63)) (y : (List S63)) : Prop := ∀ (K : AE → St → Prop), (K (.exit 4) ⟨[(3, .c (.ptr (.tmp 3 0) [] 0)), (9, .c (.sc (.int .i64 x2_0))), (10, .c (.ref (.tmp 58 0) [] 0 y.length)), (12, .c (.ref (.tmp 70 0) [] 0 x2_11.length)), (13, .c (.sc (.int .i64 x2_1))), (16, .c (.sc (.int .i64 x2_2)))], [(.arg 0, ⟨.fz, 1, cs0⟩), (.tmp 3 0, ⟨.box, 0, [.sc (.int .u32 x2_4), .sc (.int .i64 x2_5), .sc (.int .i64 x2_6), .sc (.int .i64 x2_7), .sc (.int .i64 x2_8), .sc (.int .i64 x2_9)]⟩), (.tmp 58 0, ⟨.lst, 3, encL c63 y⟩), (.tmp 70 0, ⟨.lst, 1, encL c_i64 x2_11⟩)], [], []⟩) → loopS Try.prog 293 (.ga C6_l2) K ⟨[(3, .c (.ptr (.tmp 3 0) [] 0)), (9, .c (.sc (.int .i64 x2_0))), (10, .c (.ref (.tmp 58 0) [] 0 x2_10.length)), (12, .c (.ref (.tmp 70 0) [] 0 x2_11.length)), (13, .c (.sc (.int .i64 x2_1))), (16, .c (.sc (.int .i64 x2_2))), (17, .c (.sc (.int .i64 x2_3)))], [(.arg 0, ⟨.fz, 1, cs0⟩), (.tmp 3 0, ⟨.box, 0, [.sc (.int .u32 x2_4), .sc (.int .i64 x2_5), .sc (.int .i64 x2_6), .sc (.int .i64 x2_7), .sc (.int .i64 x2_8), .sc (.int .i64 x2_9)]⟩), (.tmp 58 0, ⟨.lst, 3, encL c63 x2_10⟩), (.tmp 70 0, ⟨.lst, 1, encL c_i64 x2_11⟩)], [], []⟩
theorem laws_FnDeath.l2_walk (cs0 : List Cell) (o0 : Nat) (l0 : List Int) (hv0 : Vw c_u8 1 cs0 o0 l0) (x2_0 : Int) (x2_1 : Int) (x2_2 : Int) (x2_4 : Int) (x2_5 : Int) (x2_6 : Int) (x2_7 : Int) (x2_8 : Int) (x2_9 : Int) (x2_11 : (List Int)) (x2_3 : Int) (x2_10 : (List S63)) (y : (List S63)) (h : laws_FnDeath.l2 x2_0 x2_1 x2_2 x2_4 x2_5 x2_6 x2_7 x2_8 x2_9 x2_11 x2_3 x2_10 = some y) : laws_FnDeath.l2_M cs0 o0 l0 hv0 x2_0 x2_1 x2_2 x2_4 x2_5 x2_6 x2_7 x2_8 x2_9 x2_11 x2_3 x2_10 y := by
  refine laws_FnDeath.l2.partial_correctness x2_0 x2_1 x2_2 x2_4 x2_5 x2_6 x2_7 x2_8 x2_9 x2_11 (motive := fun x2_3 x2_10 y => laws_FnDeath.l2_M cs0 o0 l0 hv0 x2_0 x2_1 x2_2 x2_4 x2_5 x2_6 x2_7 x2_8 x2_9 x2_11 x2_3 x2_10 y) ?_ x2_3 x2_10 y h
  clear h
  unfold laws_FnDeath.l2_M
  intro rec ih x2_3 x2_10 y h K hx0
  refine loop_unroll (ga_k fun G2 G2n G2r G2x => ?_)
  unfold C6_l2
  refine seq_k fun J84 hJ84 => ?_
  refine sr_k fun J85 hJ85 => ?_
  simp +decide only [Nat.reduceAdd, Nat.reduceMul, Int.reduceToNat, ak]
  refine hJ85 _ ?_
  refine cond_k (b := decide (x2_3 < x2_2)) rfl (fun c86 => ?_) (fun c86 => ?_)
  · replace c86 := of_decide_eq_true c86; rw [if_pos c86] at h
    refine hJ84 _ ?_
    refine seq_k fun J87 hJ87 => ?_
    refine block_k fun B88 B88n B88x B88r B88j => ?_
    refine reg_k ?_
    have g89 : (List.replicate 1 ([.int .i64 0, .int .i64 0, .int .u32 0] : List Value)).flatten = [.int .i64 0, .int .i64 0, .int .u32 0] := rfl
    have g90 : (⟨.lst, 3, [.sc (.int .i64 3), .sc (.int .i64 0), .sc (.int .u32 0)]⟩ : Root) = ⟨.lst, 3, encL c63 ([(⟨3, 0, 0⟩ : S63)] : List S63)⟩ := rfl
    have g91 : ([(⟨3, 0, 0⟩ : S63)] : List S63).length = 1 := rfl
    have g92 : (encL c63 ([(⟨3, 0, 0⟩ : S63)] : List S63)).length = 1 * 3 := by simp [encL_length c63_w]
    have g93 : (encL c63 ([(⟨3, 0, 0⟩ : S63)] : List S63)).all nd = true := rfl
    obtain ⟨b94, h⟩ := of_guard h
    have g95 : appLim x2_10.length 1 24 := ⟨b94, by have := b94; omega⟩
    have g96 : (encL c63 x2_10).length = x2_10.length * 3 := by simp [encL_length c63_w]
    have g97 : encL c63 x2_10 ++ encL c63 ([(⟨3, 0, 0⟩ : S63)] : List S63) = encL c63 (x2_10 ++ ([(⟨3, 0, 0⟩ : S63)] : List S63)) := (encL_append _ _).symm
    simp +decide only [Nat.reduceAdd, Nat.reduceMul, Int.reduceToNat, ak, g89, g90, g91, g92, g93, g95, g96, g97]
    refine B88n _ ?_
    refine hJ87 _ ?_
    refine reg_k ?_
    simp +decide only [Nat.reduceAdd, Nat.reduceMul, Int.reduceToNat, ak]
    refine G2n _ _ (wk [3, 9, 10, 12, 13, 16, 17] [pI (.arg 0) .fz, pI (.tmp 3 0) .box, pI (.tmp 58 0) .lst, pI (.tmp 70 0) .lst] (h0 := by first | rfl | simp +decide only [ak, akF, b94]) (h := by first | rfl | (simp +decide only [ak, akF, b94]; done) | (simp +decide [ak, akF, b94] <;> omega))) (ih _ _ _ h K hx0)
  · replace c86 := of_decide_eq_false c86; rw [if_neg c86] at h
    obtain rfl := Option.some.inj h
    refine gh_k (wk [3, 9, 10, 12, 13, 16] [pI (.arg 0) .fz, pI (.tmp 3 0) .box, pI (.tmp 58 0) .lst, pI (.tmp 70 0) .lst]) ?_
    refine G2x _ _ ?_
    exact hx0
def laws_FnDeath.l4_M (cs0 : List Cell) (o0 : Nat) (l0 : List Int) (hv0 : Vw c_u8 1 cs0 o0 l0) (x4_0 : Int) (x4_1 : Int) (x4_2 : Int) (x4_3 : Int) (x4_4 : Int) (x4_5 : Int) (x4_6 : Int) (x4_8 : Int) (x4_9 : Int) (x4_10 : Int) (x4_11 : Int) (x4_12 : Int) (x4_13 : Int) (x4_14 : (List Int)) (x4_15 : (List S66)) (x4_16 : Int) (x4_17 : Nat) (x4_18 : (List S68)) (x4_19 : Nat) (x4_20 : (List Int)) (x4_21 : Int) (x4_22 : Int) (x4_7 : Int) (y : Lp Unit Bool) : Prop := ∀ (K : AE → St → Prop), (∀ x, y = .a x → K (.exit 8) ⟨[(3, .c (.ptr (.tmp 3 0) [] 0)), (9, .c (.sc (.int .i64 x4_0))), (12, .c (.ref (.tmp 70 0) [] 0 x4_14.length)), (13, .c (.sc (.int .i64 x4_1))), (16, .c (.sc (.int .i64 x4_2))), (18, .c (.ref (.tmp 122 0) [] 0 x4_15.length)), (20, .c (.sc (.int .i64 x4_3))), (21, .c (.sc (.int .i64 x4_4)))], [(.arg 0, ⟨.fz, 1, cs0⟩), (.tmp 3 0, ⟨.box, 0, [.sc (.int .u32 x4_8), .sc (.int .i64 x4_9), .sc (.int .i64 x4_10), .sc (.int .i64 x4_11), .sc (.int .i64 x4_12), .sc (.int .i64 x4_13)]⟩), (.tmp 70 0, ⟨.lst, 1, encL c_i64 x4_14⟩), (.tmp 122 0, ⟨.lst, 5, encL c66 x4_15⟩)], [], []⟩) → (∀ x, y = .b x → K .ret ⟨[(2, .c (.sc (.bool x)))], [(.arg 0, ⟨.fz, 1, cs0⟩)], [], []⟩) → loopS Try.prog 293 (.ga C6_l4) K ⟨[(3, .c (.ptr (.tmp 3 0) [] 0)), (9, .c (.sc (.int .i64 x4_0))), (12, .c (.ref (.tmp 70 0) [] 0 x4_14.length)), (13, .c (.sc (.int .i64 x4_1))), (16, .c (.sc (.int .i64 x4_2))), (18, .c (.ref (.tmp 122 0) [] 0 x4_15.length)), (20, .c (.sc (.int .i64 x4_3))), (21, .c (.sc (.int .i64 x4_4))), (22, .c (.ptr (.tmp 22 0) [] 0)), (23, .c (.sc (.int .i64 x4_5))), (24, .c (.sc (.int .i64 x4_6))), (26, .c (.sc (.int .i64 x4_7)))], [(.arg 0, ⟨.fz, 1, cs0⟩), (.tmp 3 0, ⟨.box, 0, [.sc (.int .u32 x4_8), .sc (.int .i64 x4_9), .sc (.int .i64 x4_10), .sc (.int .i64 x4_11), .sc (.int .i64 x4_12), .sc (.int .i64 x4_13)]⟩), (.tmp 70 0, ⟨.lst, 1, encL c_i64 x4_14⟩), (.tmp 122 0, ⟨.lst, 5, encL c66 x4_15⟩), (.tmp 22 0, ⟨.box, 0, [.sc (.int .i64 x4_16), .ref (.tmp 122 0) [x4_17] 0 x4_18.length, .ref (.tmp 122 0) [x4_19] 0 x4_20.length, .sc (.int .i64 x4_21), .sc (.int .i64 x4_22)]⟩)], [], []⟩
theorem laws_FnDeath.l4_walk (cs0 : List Cell) (o0 : Nat) (l0 : List Int) (hv0 : Vw c_u8 1 cs0 o0 l0) (x4_0 : Int) (x4_1 : Int) (x4_2 : Int) (x4_3 : Int) (x4_4 : Int) (x4_5 : Int) (x4_6 : Int) (x4_8 : Int) (x4_9 : Int) (x4_10 : Int) (x4_11 : Int) (x4_12 : Int) (x4_13 : Int) (x4_14 : (List Int)) (x4_15 : (List S66)) (x4_16 : Int) (x4_17 : Nat) (x4_18 : (List S68)) (x4_19 : Nat) (x4_20 : (List Int)) (x4_21 : Int) (x4_22 : Int) (x4_7 : Int) (hq_x4_17 : (encL c66 x4_15)[x4_17]? = some (.own 3 x4_18.length (encL c68 x4_18))) (hq_x4_19 : (encL c66 x4_15)[x4_19]? = some (.own 1 x4_20.length (encL c_i64 x4_20))) (y : Lp Unit Bool) (h : laws_FnDeath.l4 x4_0 x4_1 x4_2 x4_3 x4_4 x4_5 x4_6 x4_8 x4_9 x4_10 x4_11 x4_12 x4_13 x4_14 x4_15 x4_16 x4_17 x4_18 x4_19 x4_20 x4_21 x4_22 x4_7 = some y) : laws_FnDeath.l4_M cs0 o0 l0 hv0 x4_0 x4_1 x4_2 x4_3 x4_4 x4_5 x4_6 x4_8 x4_9 x4_10 x4_11 x4_12 x4_13 x4_14 x4_15 x4_16 x4_17 x4_18 x4_19 x4_20 x4_21 x4_22 x4_7 y := by
  refine laws_FnDeath.l4.partial_correctness x4_0 x4_1 x4_2 x4_3 x4_4 x4_5 x4_6 x4_8 x4_9 x4_10 x4_11 x4_12 x4_13 x4_14 x4_15 x4_16 x4_17 x4_18 x4_19 x4_20 x4_21 x4_22 (motive := fun x4_7 y => laws_FnDeath.l4_M cs0 o0 l0 hv0 x4_0 x4_1 x4_2 x4_3 x4_4 x4_5 x4_6 x4_8 x4_9 x4_10 x4_11 x4_12 x4_13 x4_14 x4_15 x4_16 x4_17 x4_18 x4_19 x4_20 x4_21 x4_22 x4_7 y) ?_ x4_7 y h
  clear h
  unfold laws_FnDeath.l4_M
  intro rec ih x4_7 y h K hx0 hx1
  refine loop_unroll (ga_k fun G4 G4n G4r G4x => ?_)
  unfold C6_l4
  refine seq_k fun J194 hJ194 => ?_
  refine sr_k fun J195 hJ195 => ?_
  simp +decide only [Nat.reduceAdd, Nat.reduceMul, Int.reduceToNat, ak]
  refine hJ195 _ ?_
  refine cond_k (b := decide (x4_7 < x4_5)) rfl (fun c196 => ?_) (fun c196 => ?_)
  · replace c196 := of_decide_eq_true c196; rw [if_pos c196] at h
    refine hJ194 _ ?_
    refine seq_k fun J197 hJ197 => ?_
    refine block_k fun B198 B198n B198x B198r B198j => ?_
    refine sr_k fun J199 hJ199 => ?_
    obtain ⟨b200, h⟩ := of_guard h
    have g201 : (List.drop (0 + x4_7.toNat * 3) (encL c68 x4_18)).take 3 = [.sc (.int .i64 ((rd z68 x4_18 x4_7).f0)), .sc (.int .u32 ((rd z68 x4_18 x4_7).f1)), .sc (.int .i64 ((rd z68 x4_18 x4_7).f2))] := (Vw.whole c68_w x4_18).stretch z68 b200.1 b200.2
    simp +decide only [Nat.reduceAdd, Nat.reduceMul, Int.reduceToNat, ak, b200, hq_x4_17, g201]
    refine hJ199 _ ?_
    obtain ⟨j202, h203, hn⟩ := of_bind h
    refine seq_j (fun st => st = ⟨[(3, .c (.ptr (.tmp 3 0) [] 0)), (9, .c (.sc (.int .i64 x4_0))), (12, .c (.ref (.tmp 70 0) [] 0 x4_14.length)), (13, .c (.sc (.int .i64 x4_1))), (16, .c (.sc (.int .i64 x4_2))), (18, .c (.ref (.tmp 122 0) [] 0 x4_15.length)), (20, .c (.sc (.int .i64 x4_3))), (21, .c (.sc (.int .i64 x4_4))), (22, .c (.ptr (.tmp 22 0) [] 0)), (23, .c (.sc (.int .i64 x4_5))), (24, .c (.sc (.int .i64 x4_6))), (26, .c (.sc (.int .i64 x4_7))), (227, .c (.sc (.bool j202)))], [(.arg 0, ⟨.fz, 1, cs0⟩), (.tmp 3 0, ⟨.box, 0, [.sc (.int .u32 x4_8), .sc (.int .i64 x4_9), .sc (.int .i64 x4_10), .sc (.int .i64 x4_11), .sc (.int .i64 x4_12), .sc (.int .i64 x4_13)]⟩), (.tmp 70 0, ⟨.lst, 1, encL c_i64 x4_14⟩), (.tmp 122 0, ⟨.lst, 5, encL c66 x4_15⟩), (.tmp 22 0, ⟨.box, 0, [.sc (.int .i64 x4_16), .ref (.tmp 122 0) [x4_17] 0 x4_18.length, .ref (.tmp 122 0) [x4_19] 0 x4_20.length, .sc (.int .i64 x4_21), .sc (.int .i64 x4_22)]⟩)], [], []⟩) (fun J204 hJ204 => ?_) ?_
    · replace h := h203; clear hn
      refine ga_k fun G205 G205n G205r G205x => ?_
      refine reg_k ?_
      simp +decide only [Nat.reduceAdd, Nat.reduceMul, Int.reduceToNat, ak]
      by_cases c206 : (rd z68 x4_18 x4_7).f0 ≠ x4_6
      · rw [if_pos c206] at h
        have e207 : decide ((rd z68 x4_18 x4_7).f0 ≠ x4_6) = true := decide_eq_true c206
        simp +decide only [Nat.reduceAdd, Nat.reduceMul, Int.reduceToNat, ak, e207]
        obtain rfl := Option.some.inj h
        refine G205n _ _ (wk [3, 9, 12, 13, 16, 18, 20, 21, 22, 23, 24, 26, 227] [pI (.arg 0) .fz, pI (.tmp 3 0) .box, pI (.tmp 70 0) .lst, pI (.tmp 122 0) .lst, pI (.tmp 22 0) .box] (h0 := by first | rfl | simp +decide only [ak, akF, b200, e207]) (h := by first | rfl | (simp +decide only [ak, akF, b200, e207]; done) | (simp +decide [ak, akF, b200, e207] <;> omega))) (hJ204 _ rfl)
      · rw [if_neg c206] at h
        have e208 : decide ((rd z68 x4_18 x4_7).f0 ≠ x4_6) = false := decide_eq_false c206
        simp +decide only [Nat.reduceAdd, Nat.reduceMul, Int.reduceToNat, ak, e208]
        by_cases c209 : (rd z68 x4_18 x4_7).f1 ≠ IntKind.u32.wrap (x4_8 + (IntKind.u32.wrap x4_7))
        · rw [if_pos c209] at h
          have e210 : decide ((rd z68 x4_18 x4_7).f1 ≠ IntKind.u32.wrap (x4_8 + (IntKind.u32.wrap x4_7))) = true := decide_eq_true c209
          simp +decide only [Nat.reduceAdd, Nat.reduceMul, Int.reduceToNat, ak, e210]
          obtain rfl := Option.some.inj h
          refine G205n _ _ (wk [3, 9, 12, 13, 16, 18, 20, 21, 22, 23, 24, 26, 227] [pI (.arg 0) .fz, pI (.tmp 3 0) .box, pI (.tmp 70 0) .lst, pI (.tmp 122 0) .lst, pI (.tmp 22 0) .box] (h0 := by first | rfl | simp +decide only [ak, akF, b200, e208, e210]) (h := by first | rfl | (simp +decide only [ak, akF, b200, e208, e210]; done) | (simp +decide [ak, akF, b200, e208, e210] <;> omega))) (hJ204 _ rfl)
        · rw [if_neg c209] at h
          have e211 : decide ((rd z68 x4_18 x4_7).f1 ≠ IntKind.u32.wrap (x4_8 + (IntKind.u32.wrap x4_7))) = false := decide_eq_false c209
          simp +decide only [Nat.reduceAdd, Nat.reduceMul, Int.reduceToNat, ak, e211]
          by_cases c212 : x4_6 = 2
          · rw [if_pos c212] at h
            have e213 : decide (x4_6 = 2) = true := decide_eq_true c212
            simp +decide only [Nat.reduceAdd, Nat.reduceMul, Int.reduceToNat, ak, e213]
            obtain rfl := Option.some.inj h
            refine G205n _ _ (wk [3, 9, 12, 13, 16, 18, 20, 21, 22, 23, 24, 26, 227] [pI (.arg 0) .fz, pI (.tmp 3 0) .box, pI (.tmp 70 0) .lst, pI (.tmp 122 0) .lst, pI (.tmp 22 0) .box] (h0 := by first | rfl | simp +decide only [ak, akF, b200, e208, e211, e213]) (h := by first | rfl | (simp +decide only [ak, akF, b200, e208, e211, e213]; done) | (simp +decide [ak, akF, b200, e208, e211, e213] <;> omega))) (hJ204 _ rfl)
          · rw [if_neg c212] at h
            have e214 : decide (x4_6 = 2) = false := decide_eq_false c212
            simp +decide only [Nat.reduceAdd, Nat.reduceMul, Int.reduceToNat, ak, e214]
            obtain rfl := Option.some.inj h
            refine G205n _ _ (wk [3, 9, 12, 13, 16, 18, 20, 21, 22, 23, 24, 26, 227] [pI (.arg 0) .fz, pI (.tmp 3 0) .box, pI (.tmp 70 0) .lst, pI (.tmp 122 0) .lst, pI (.tmp 22 0) .box] (h0 := by first | rfl | simp +decide only [ak, akF, b200, e208, e211, e214]) (h := by first | rfl | (simp +decide only [ak, akF, b200, e208, e211, e214]; done) | (simp +decide [ak, akF, b200, e208, e211, e214] <;> omega))) (hJ204 _ rfl)
    · replace h := hn; clear hn h203
      rintro _ rfl
      refine cond_k (b := j202) rfl (fun c215 => ?_) (fun c215 => ?_)
      · rw [if_pos c215] at h
        refine sr_k fun J216 hJ216 => ?_
        simp +decide only [Nat.reduceAdd, Nat.reduceMul, Int.reduceToNat, ak]
        refine hJ216 _ ?_
        obtain rfl := Option.some.inj h
        refine gh_k (wk [2] [pI (.arg 0) .fz]) ?_
        refine B198r _ ?_
        refine G4r _ ?_
        exact hx1 _ rfl
      · rw [if_neg (Bool.eq_false_iff.1 c215)] at h
        refine B198n _ ?_
        refine hJ197 _ ?_
        refine reg_k ?_
        simp +decide only [Nat.reduceAdd, Nat.reduceMul, Int.reduceToNat, ak]
        refine G4n _ _ (wk [3, 9, 12, 13, 16, 18, 20, 21, 22, 23, 24, 26] [pI (.arg 0) .fz, pI (.tmp 3 0) .box, pI (.tmp 70 0) .lst, pI (.tmp 122 0) .lst, pI (.tmp 22 0) .box]) (ih _ _ h K hx0 hx1)
  · replace c196 := of_decide_eq_false c196; rw [if_neg c196] at h
    obtain rfl := Option.some.inj h
    refine gh_k (wk [3, 9, 12, 13, 16, 18, 20, 21] [pI (.arg 0) .fz, pI (.tmp 3 0) .box, pI (.tmp 70 0) .lst, pI (.tmp 122 0) .lst]) ?_
    refine G4x _ _ ?_
    exact hx0 _ rfl
def laws_FnDeath.l3_M (cs0 : List Cell) (o0 : Nat) (l0 : List Int) (hv0 : Vw c_u8 1 cs0 o0 l0) (x3_0 : Int) (x3_1 : Int) (x3_2 : Int) (x3_5 : Int) (x3_6 : Int) (x3_7 : Int) (x3_8 : Int) (x3_9 : Int) (x3_10 : Int) (x3_11 : (List Int)) (x3_12 : (List S66)) (x3_3 : Int) (x3_4 : Int) (y : Lp Unit Bool) : Prop := ∀ (K : AE → St → Prop), (∀ x, y = .a x → K (.exit 6) ⟨[(9, .c (.sc (.int .i64 x3_0))), (18, .c (.ref (.tmp 122 0) [] 0 x3_12.length))], [(.arg 0, ⟨.fz, 1, cs0⟩), (.tmp 122 0, ⟨.lst, 5, encL c66 x3_12⟩)], [], []⟩) → (∀ x, y = .b x → K .ret ⟨[(2, .c (.sc (.bool x)))], [(.arg 0, ⟨.fz, 1, cs0⟩)], [], []⟩) → loopS Try.prog 293 (.ga C6_l3) K ⟨[(3, .c (.ptr (.tmp 3 0) [] 0)), (9, .c (.sc (.int .i64 x3_0))), (12, .c (.ref (.tmp 70 0) [] 0 x3_11.length)), (13, .c (.sc (.int .i64 x3_1))), (16, .c (.sc (.int .i64 x3_2))), (18, .c (.ref (.tmp 122 0) [] 0 x3_12.length)), (20, .c (.sc (.int .i64 x3_3))), (21, .c (.sc (.int .i64 x3_4)))], [(.arg 0, ⟨.fz, 1, cs0⟩), (.tmp 3 0, ⟨.box, 0, [.sc (.int .u32 x3_5), .sc (.int .i64 x3_6), .sc (.int .i64 x3_7), .sc (.int .i64 x3_8), .sc (.int .i64 x3_9), .sc (.int .i64 x3_10)]⟩), (.tmp 70 0, ⟨.lst, 1, encL c_i64 x3_11⟩), (.tmp 122 0, ⟨.lst, 5, encL c66 x3_12⟩)], [], []⟩
theorem laws_FnDeath.l3_walk (cs0 : List Cell) (o0 : Nat) (l0 : List Int) (hv0 : Vw c_u8 1 cs0 o0 l0) (x3_0 : Int) (x3_1 : Int) (x3_2 : Int) (x3_5 : Int) (x3_6 : Int) (x3_7 : Int) (x3_8 : Int) (x3_9 : Int) (x3_10 : Int) (x3_11 : (List Int)) (x3_12 : (List S66)) (x3_3 : Int) (x3_4 : Int) (y : Lp Unit Bool) (h : laws_FnDeath.l3 x3_0 x3_1 x3_2 x3_5 x3_6 x3_7 x3_8 x3_9 x3_10 x3_11 x3_12 x3_3 x3_4 = some y) : laws_FnDeath.l3_M cs0 o0 l0 hv0 x3_0 x3_1 x3_2 x3_5 x3_6 x3_7 x3_8 x3_9 x3_10 x3_11 x3_12 x3_3 x3_4 y := by
  refine laws_FnDeath.l3.partial_correctness x3_0 x3_1 x3_2 x3_5 x3_6 x3_7 x3_8 x3_9 x3_10 x3_11 x3_12 (motive := fun x3_3 x3_4 y => laws_FnDeath.l3_M cs0 o0 l0 hv0 x3_0 x3_1 x3_2 x3_5 x3_6 x3_7 x3_8 x3_9 x3_10 x3_11 x3_12 x3_3 x3_4 y) ?_ x3_3 x3_4 y h
  clear h
  unfold laws_FnDeath.l3_M
  intro rec ih x3_3 x3_4 y h K hx0 hx1
  refine loop_unroll (ga_k fun G3 G3n G3r G3x => ?_)
  unfold C6_l3
  refine seq_k fun J137 hJ137 => ?_
  refine sr_k fun J138 hJ138 => ?_
  simp +decide only [Nat.reduceAdd, Nat.reduceMul, Int.reduceToNat, ak]
  refine hJ138 _ ?_
  refine cond_k (b := decide (x3_4 ≤ x3_2)) rfl (fun c139 => ?_) (fun c139 => ?_)
  · replace c139 := of_decide_eq_true c139; rw [if_pos c139] at h
    refine hJ137 _ ?_
    refine seq_k fun J140 hJ140 => ?_
    refine block_k fun B141 B141n B141x B141r B141j => ?_
    refine sr_k fun J142 hJ142 => ?_
    obtain ⟨b143, h⟩ := of_guard h
    have g144 : (List.drop (0 + (IntKind.i64.wrap ((IntKind.i64.wrap (x3_0 + x3_4)) - 1)).toNat * 5) (encL c66 x3_12)).take 5 = [.sc (.int .i64 ((rd z66 x3_12 (IntKind.i64.wrap ((IntKind.i64.wrap (x3_0 + x3_4)) - 1))).f0)), .own 3 (((rd z66 x3_12 (IntKind.i64.wrap ((IntKind.i64.wrap (x3_0 + x3_4)) - 1))).f1).length) (encL c68 ((rd z66 x3_12 (IntKind.i64.wrap ((IntKind.i64.wrap (x3_0 + x3_4)) - 1))).f1)), .own 1 (((rd z66 x3_12 (IntKind.i64.wrap ((IntKind.i64.wrap (x3_0 + x3_4)) - 1))).f2).length) (encL c_i64 ((rd z66 x3_12 (IntKind.i64.wrap ((IntKind.i64.wrap (x3_0 + x3_4)) - 1))).f2)), .sc (.int .i64 ((rd z66 x3_12 (IntKind.i64.wrap ((IntKind.i64.wrap (x3_0 + x3_4)) - 1))).f3)), .sc (.int .i64 ((rd z66 x3_12 (IntKind.i64.wrap ((IntKind.i64.wrap (x3_0 + x3_4)) - 1))).f4))] := (Vw.whole c66_w x3_12).stretch z66 b143.1 b143.2
    simp +decide only [Nat.reduceAdd, Nat.reduceMul, Int.reduceToNat, ak, b143, g144]
    refine gho_k (Weak.own (.tmp 22 0) (cs' := [.sc (.int .i64 0), .own 3 (([] : List S68).length) (encL c68 ([] : List S68)), .own 1 (([] : List Int).length) (encL c_i64 ([] : List Int)), .sc (.int .i64 0), .sc (.int .i64 0)]) rfl ⟨.inl rfl, .inr ⟨rfl, _, rfl⟩, .inr ⟨rfl, _, rfl⟩, .inl rfl, .inl rfl, trivial⟩) ?_
    simp +decide only [Nat.reduceAdd, Nat.reduceMul, Int.reduceToNat, ak]
    refine hJ142 _ ?_
    refine sr_k fun J145 hJ145 => ?_
    simp +decide only [Nat.reduceAdd, Nat.reduceMul, Int.reduceToNat, ak]
    refine hJ145 _ ?_
    refine sr_k fun J146 hJ146 => ?_
    simp +decide only [Nat.reduceAdd, Nat.reduceMul, Int.reduceToNat, ak]
    refine hJ146 _ ?_
    refine sr_k fun J147 hJ147 => ?_
    simp +decide only [Nat.reduceAdd, Nat.reduceMul, Int.reduceToNat, ak]
    refine hJ147 _ ?_
    obtain ⟨j148, h149, hn⟩ := of_bind h
    refine seq_j (fun st => st = ⟨[(3, .c (.ptr (.tmp 3 0) [] 0)), (9, .c (.sc (.int .i64 x3_0))), (12, .c (.ref (.tmp 70 0) [] 0 x3_11.length)), (13, .c (.sc (.int .i64 x3_1))), (16, .c (.sc (.int .i64 x3_2))), (18, .c (.ref (.tmp 122 0) [] 0 x3_12.length)), (20, .c (.sc (.int .i64 j148.1))), (21, .c (.sc (.int .i64 x3_4))), (22, .c (.ptr (.tmp 22 0) [] 0)), (23, .c (.sc (.int .i64 j148.2.1))), (24, .c (.sc (.int .i64 j148.2.2.1))), (25, .c (.sc (.int .i64 j148.2.2.2)))], [(.arg 0, ⟨.fz, 1, cs0⟩), (.tmp 3 0, ⟨.box, 0, [.sc (.int .u32 x3_5), .sc (.int .i64 x3_6), .sc (.int .i64 x3_7), .sc (.int .i64 x3_8), .sc (.int .i64 x3_9), .sc (.int .i64 x3_10)]⟩), (.tmp 70 0, ⟨.lst, 1, encL c_i64 x3_11⟩), (.tmp 122 0, ⟨.lst, 5, encL c66 x3_12⟩), (.tmp 22 0, ⟨.box, 0, [.sc (.int .i64 ((rd z66 x3_12 (IntKind.i64.wrap ((IntKind.i64.wrap (x3_0 + x3_4)) - 1))).f0)), .ref (.tmp 122 0) [0 + (IntKind.i64.wrap ((IntKind.i64.wrap (x3_0 + x3_4)) - 1)).toNat * 5 + 1] 0 (((rd z66 x3_12 (IntKind.i64.wrap ((IntKind.i64.wrap (x3_0 + x3_4)) - 1))).f1).length), .ref (.tmp 122 0) [0 + (IntKind.i64.wrap ((IntKind.i64.wrap (x3_0 + x3_4)) - 1)).toNat * 5 + 1 + 1] 0 (((rd z66 x3_12 (IntKind.i64.wrap ((IntKind.i64.wrap (x3_0 + x3_4)) - 1))).f2).length), .sc (.int .i64 ((rd z66 x3_12 (IntKind.i64.wrap ((IntKind.i64.wrap (x3_0 + x3_4)) - 1))).f3)), .sc (.int .i64 ((rd z66 x3_12 (IntKind.i64.wrap ((IntKind.i64.wrap (x3_0 + x3_4)) - 1))).f4))]⟩)], [], []⟩) (fun J150 hJ150 => ?_) ?_
    · replace h := h149; clear hn
      refine ga_k fun G151 G151n G151r G151x => ?_
      obtain ⟨j152, h153, hn⟩ := of_bind h
      refine seq_j (fun st => st = ⟨[(3, .c (.ptr (.tmp 3 0) [] 0)), (9, .c (.sc (.int .i64 x3_0))), (12, .c (.ref (.tmp 70 0) [] 0 x3_11.length)), (13, .c (.sc (.int .i64 x3_1))), (16, .c (.sc (.int .i64 x3_2))), (18, .c (.ref (.tmp 122 0) [] 0 x3_12.length)), (20, .c (.sc (.int .i64 x3_3))), (21, .c (.sc (.int .i64 x3_4))), (22, .c (.ptr (.tmp 22 0) [] 0)), (23, .c (.sc (.int .i64 0))), (24, .c (.sc (.int .i64 2))), (25, .c (.sc (.int .i64 0))), (157, .c (.sc (.bool j152)))], [(.arg 0, ⟨.fz, 1, cs0⟩), (.tmp 3 0, ⟨.box, 0, [.sc (.int .u32 x3_5), .sc (.int .i64 x3_6), .sc (.int .i64 x3_7), .sc (.int .i64 x3_8), .sc (.int .i64 x3_9), .sc (.int .i64 x3_10)]⟩), (.tmp 70 0, ⟨.lst, 1, encL c_i64 x3_11⟩), (.tmp 122 0, ⟨.lst, 5, encL c66 x3_12⟩), (.tmp 22 0, ⟨.box, 0, [.sc (.int .i64 ((rd z66 x3_12 (IntKind.i64.wrap ((IntKind.i64.wrap (x3_0 + x3_4)) - 1))).f0)), .ref (.tmp 122 0) [0 + (IntKind.i64.wrap ((IntKind.i64.wrap (x3_0 + x3_4)) - 1)).toNat * 5 + 1] 0 (((rd z66 x3_12 (IntKind.i64.wrap ((IntKind.i64.wrap (x3_0 + x3_4)) - 1))).f1).length), .ref (.tmp 122 0) [0 + (IntKind.i64.wrap ((IntKind.i64.wrap (x3_0 + x3_4)) - 1)).toNat * 5 + 1 + 1] 0 (((rd z66 x3_12 (IntKind.i64.wrap ((IntKind.i64.wrap (x3_0 + x3_4)) - 1))).f2).length), .sc (.int .i64 ((rd z66 x3_12 (IntKind.i64.wrap ((IntKind.i64.wrap (x3_0 + x3_4)) - 1))).f3)), .sc (.int .i64 ((rd z66 x3_12 (IntKind.i64.wrap ((IntKind.i64.wrap (x3_0 + x3_4)) - 1))).f4))]⟩)], [], []⟩) (fun J154 hJ154 => ?_) ?_
      · replace h := h153; clear hn
        refine ga_k fun G155 G155n G155r G155x => ?_
        refine reg_k ?_
        simp +decide only [Nat.reduceAdd, Nat.reduceMul, Int.reduceToNat, ak]
        by_cases c156 : x3_3 < (x3_11.length : Int)
        · rw [if_pos c156] at h
          have e157 : decide (x3_3 < (x3_11.length : Int)) = true := decide_eq_true c156
          obtain ⟨b158, h⟩ := of_guard h
          have g159 : (encL c_i64 x3_11)[0 + x3_3.toNat * 1]? = some (.sc (.int .i64 (rd 0 x3_11 x3_3))) := (Vw.whole c_i64_w x3_11).get 0 0 b158.1 b158.2 (by decide)
          simp +decide only [Nat.reduceAdd, Nat.reduceMul, Int.reduceToNat, ak, e157, b158, g159]
          obtain rfl := Option.some.inj h
          refine G155n _ _ (wk [3, 9, 12, 13, 16, 18, 20, 21, 22, 23, 24, 25, 157] [pI (.arg 0) .fz, pI (.tmp 3 0) .box, pI (.tmp 70 0) .lst, pI (.tmp 122 0) .lst, pI (.tmp 22 0) .box] (h0 := by first | rfl | simp +decide only [ak, akF, b143, b158, e157]) (h := by first | rfl | (simp +decide only [ak, akF, b143, b158, e157]; done) | (simp +decide [ak, akF, b143, b158, e157] <;> omega))) (hJ154 _ rfl)
        · rw [if_neg c156] at h
          have e160 : decide (x3_3 < (x3_11.length : Int)) = false := decide_eq_false c156
          simp +decide only [Nat.reduceAdd, Nat.reduceMul, Int.reduceToNat, ak, e160]
          obtain rfl := Option.some.inj h
          refine G155n _ _ (wk [3, 9, 12, 13, 16, 18, 20, 21, 22, 23, 24, 25, 157] [pI (.arg 0) .fz, pI (.tmp 3 0) .box, pI (.tmp 70 0) .lst, pI (.tmp 122 0) .lst, pI (.tmp 22 0) .box] (h0 := by first | rfl | simp +decide only [ak, akF, b143, e160]) (h := by first | rfl | (simp +decide only [ak, akF, b143, e160]; done) | (simp +decide [ak, akF, b143, e160] <;> omega))) (hJ154 _ rfl)
      · replace h := hn; clear hn h153
        rintro _ rfl
        refine cond_k (b := j152) rfl (fun c161 => ?_) (fun c161 => ?_)
        · rw [if_pos c161] at h
          refine sr_k fun J162 hJ162 => ?_
          simp +decide only [Nat.reduceAdd, Nat.reduceMul, Int.reduceToNat, ak]
          refine hJ162 _ ?_
          refine sr_k fun J163 hJ163 => ?_
          simp +decide only [Nat.reduceAdd, Nat.reduceMul, Int.reduceToNat, ak]
          refine hJ163 _ ?_
          refine sr_k fun J164 hJ164 => ?_
          simp +decide only [Nat.reduceAdd, Nat.reduceMul, Int.reduceToNat, ak]
          refine hJ164 _ ?_
          refine cond_k (b := decide (IntKind.i64.wrap (x3_3 + 1) = (x3_11.length : Int))) rfl (fun c165 => ?_) (fun c165 => ?_)
          · replace c165 := of_decide_eq_true c165; rw [if_pos c165] at h
            refine sr_k fun J166 hJ166 => ?_
            simp +decide only [Nat.reduceAdd, Nat.reduceMul, Int.reduceToNat, ak]
            refine hJ166 _ ?_
            refine reg_k ?_
            simp +decide only [Nat.reduceAdd, Nat.reduceMul, Int.reduceToNat, ak]
            obtain rfl := Option.some.inj h
            refine G151n _ _ (wk [3, 9, 12, 13, 16, 18, 20, 21, 22, 23, 24, 25] [pI (.arg 0) .fz, pI (.tmp 3 0) .box, pI (.tmp 70 0) .lst, pI (.tmp 122 0) .lst, pI (.tmp 22 0) .box]) (hJ150 _ rfl)
          · replace c165 := of_decide_eq_false c165; rw [if_neg c165] at h
            obtain rfl := Option.some.inj h
            refine G151n _ _ (wk [3, 9, 12, 13, 16, 18, 20, 21, 22, 23, 24, 25] [pI (.arg 0) .fz, pI (.tmp 3 0) .box, pI (.tmp 70 0) .lst, pI (.tmp 122 0) .lst, pI (.tmp 22 0) .box]) (hJ150 _ rfl)
        · rw [if_neg (Bool.eq_false_iff.1 c161)] at h
          obtain ⟨j167, h168, hn⟩ := of_bind h
          refine seq_j (fun st => st = ⟨[(3, .c (.ptr (.tmp 3 0) [] 0)), (9, .c (.sc (.int .i64 x3_0))), (12, .c (.ref (.tmp 70 0) [] 0 x3_11.length)), (13, .c (.sc (.int .i64 x3_1))), (16, .c (.sc (.int .i64 x3_2))), (18, .c (.ref (.tmp 122 0) [] 0 x3_12.length)), (20, .c (.sc (.int .i64 x3_3))), (21, .c (.sc (.int .i64 x3_4))), (22, .c (.ptr (.tmp 22 0) [] 0)), (23, .c (.sc (.int .i64 0))), (24, .c (.sc (.int .i64 2))), (25, .c (.sc (.int .i64 0))), (176, .c (.sc (.bool j167)))], [(.arg 0, ⟨.fz, 1, cs0⟩), (.tmp 3 0, ⟨.box, 0, [.sc (.int .u32 x3_5), .sc (.int .i64 x3_6), .sc (.int .i64 x3_7), .sc (.int .i64 x3_8), .sc (.int .i64 x3_9), .sc (.int .i64 x3_10)]⟩), (.tmp 70 0, ⟨.lst, 1, encL c_i64 x3_11⟩), (.tmp 122 0, ⟨.lst, 5, encL c66 x3_12⟩), (.tmp 22 0, ⟨.box, 0, [.sc (.int .i64 ((rd z66 x3_12 (IntKind.i64.wrap ((IntKind.i64.wrap (x3_0 + x3_4)) - 1))).f0)), .ref (.tmp 122 0) [0 + (IntKind.i64.wrap ((IntKind.i64.wrap (x3_0 + x3_4)) - 1)).toNat * 5 + 1] 0 (((rd z66 x3_12 (IntKind.i64.wrap ((IntKind.i64.wrap (x3_0 + x3_4)) - 1))).f1).length), .ref (.tmp 122 0) [0 + (IntKind.i64.wrap ((IntKind.i64.wrap (x3_0 + x3_4)) - 1)).toNat * 5 + 1 + 1] 0 (((rd z66 x3_12 (IntKind.i64.wrap ((IntKind.i64.wrap (x3_0 + x3_4)) - 1))).f2).length), .sc (.int .i64 ((rd z66 x3_12 (IntKind.i64.wrap ((IntKind.i64.wrap (x3_0 + x3_4)) - 1))).f3)), .sc (.int .i64 ((rd z66 x3_12 (IntKind.i64.wrap ((IntKind.i64.wrap (x3_0 + x3_4)) - 1))).f4))]⟩)], [], []⟩) (fun J169 hJ169 => ?_) ?_
          · replace h := h168; clear hn
            refine ga_k fun G170 G170n G170r G170x => ?_
            refine reg_k ?_
            simp +decide only [Nat.reduceAdd, Nat.reduceMul, Int.reduceToNat, ak]
            by_cases c171 : x3_4 > x3_1
            · rw [if_pos c171] at h
              have e172 : decide (x3_4 > x3_1) = true := decide_eq_true c171
              obtain ⟨b173, h⟩ := of_guard h
              simp +decide only [Nat.reduceAdd, Nat.reduceMul, Int.reduceToNat, ak, e172, b173]
              obtain rfl := Option.some.inj h
              refine G170n _ _ (wk [3, 9, 12, 13, 16, 18, 20, 21, 22, 23, 24, 25, 176] [pI (.arg 0) .fz, pI (.tmp 3 0) .box, pI (.tmp 70 0) .lst, pI (.tmp 122 0) .lst, pI (.tmp 22 0) .box] (h0 := by first | rfl | simp +decide only [ak, akF, b143, b173, e172]) (h := by first | rfl | (simp +decide only [ak, akF, b143, b173, e172]; done) | (simp +decide [ak, akF, b143, b173, e172] <;> omega))) (hJ169 _ rfl)
            · rw [if_neg c171] at h
              have e174 : decide (x3_4 > x3_1) = false := decide_eq_false c171
              simp +decide only [Nat.reduceAdd, Nat.reduceMul, Int.reduceToNat, ak, e174]
              obtain rfl := Option.some.inj h
              refine G170n _ _ (wk [3, 9, 12, 13, 16, 18, 20, 21, 22, 23, 24, 25, 176] [pI (.arg 0) .fz, pI (.tmp 3 0) .box, pI (.tmp 70 0) .lst, pI (.tmp 122 0) .lst, pI (.tmp 22 0) .box] (h0 := by first | rfl | simp +decide only [ak, akF, b143, e174]) (h := by first | rfl | (simp +decide only [ak, akF, b143, e174]; done) | (simp +decide [ak, akF, b143, e174] <;> omega))) (hJ169 _ rfl)
          · replace h := hn; clear hn h168
            rintro _ rfl
            refine cond_k (b := j167) rfl (fun c175 => ?_) (fun c175 => ?_)
            · rw [if_pos c175] at h
              refine sr_k fun J176 hJ176 => ?_
              simp +decide only [Nat.reduceAdd, Nat.reduceMul, Int.reduceToNat, ak]
              refine hJ176 _ ?_
              refine reg_k ?_
              simp +decide only [Nat.reduceAdd, Nat.reduceMul, Int.reduceToNat, ak]
              obtain rfl := Option.some.inj h
              refine G151n _ _ (wk [3, 9, 12, 13, 16, 18, 20, 21, 22, 23, 24, 25] [pI (.arg 0) .fz, pI (.tmp 3 0) .box, pI (.tmp 70 0) .lst, pI (.tmp 122 0) .lst, pI (.tmp 22 0) .box]) (hJ150 _ rfl)
            · rw [if_neg (Bool.eq_false_iff.1 c175)] at h
              obtain rfl := Option.some.inj h
              refine G151n _ _ (wk [3, 9, 12, 13, 16, 18, 20, 21, 22, 23, 24, 25] [pI (.arg 0) .fz, pI (.tmp 3 0) .box, pI (.tmp 70 0) .lst, pI (.tmp 122 0) .lst, pI (.tmp 22 0) .box]) (hJ150 _ rfl)
    · replace h := hn; clear hn h149
      rintro _ rfl
      refine seq_k fun J177 hJ177 => ?_
      obtain ⟨j178, h179, hn⟩ := of_bind h
      refine seq_j (fun st => st = ⟨[(3, .c (.ptr (.tmp 3 0) [] 0)), (9, .c (.sc (.int .i64 x3_0))), (12, .c (.ref (.tmp 70 0) [] 0 x3_11.length)), (13, .c (.sc (.int .i64 x3_1))), (16, .c (.sc (.int .i64 x3_2))), (18, .c (.ref (.tmp 122 0) [] 0 x3_12.length)), (20, .c (.sc (.int .i64 j148.1))), (21, .c (.sc (.int .i64 x3_4))), (22, .c (.ptr (.tmp 22 0) [] 0)), (23, .c (.sc (.int .i64 j148.2.1))), (24, .c (.sc (.int .i64 j148.2.2.1))), (192, .c (.sc (.bool j178)))], [(.arg 0, ⟨.fz, 1, cs0⟩), (.tmp 3 0, ⟨.box, 0, [.sc (.int .u32 x3_5), .sc (.int .i64 x3_6), .sc (.int .i64 x3_7), .sc (.int .i64 x3_8), .sc (.int .i64 x3_9), .sc (.int .i64 x3_10)]⟩), (.tmp 70 0, ⟨.lst, 1, encL c_i64 x3_11⟩), (.tmp 122 0, ⟨.lst, 5, encL c66 x3_12⟩), (.tmp 22 0, ⟨.box, 0, [.sc (.int .i64 ((rd z66 x3_12 (IntKind.i64.wrap ((IntKind.i64.wrap (x3_0 + x3_4)) - 1))).f0)), .ref (.tmp 122 0) [0 + (IntKind.i64.wrap ((IntKind.i64.wrap (x3_0 + x3_4)) - 1)).toNat * 5 + 1] 0 (((rd z66 x3_12 (IntKind.i64.wrap ((IntKind.i64.wrap (x3_0 + x3_4)) - 1))).f1).length), .ref (.tmp 122 0) [0 + (IntKind.i64.wrap ((IntKind.i64.wrap (x3_0 + x3_4)) - 1)).toNat * 5 + 1 + 1] 0 (((rd z66 x3_12 (IntKind.i64.wrap ((IntKind.i64.wrap (x3_0 + x3_4)) - 1))).f2).length), .sc (.int .i64 ((rd z66 x3_12 (IntKind.i64.wrap ((IntKind.i64.wrap (x3_0 + x3_4)) - 1))).f3)), .sc (.int .i64 ((rd z66 x3_12 (IntKind.i64.wrap ((IntKind.i64.wrap (x3_0 + x3_4)) - 1))).f4))]⟩)], [], []⟩) (fun J180 hJ180 => ?_) ?_
      · replace h := h179; clear hn
        refine ga_k fun G181 G181n G181r G181x => ?_
        refine reg_k ?_
        simp +decide only [Nat.reduceAdd, Nat.reduceMul, Int.reduceToNat, ak]
        by_cases c182 : (((rd z66 x3_12 (IntKind.i64.wrap ((IntKind.i64.wrap (x3_0 + x3_4)) - 1))).f1).length : Int) ≠ j148.2.1
        · rw [if_pos c182] at h
          have e183 : decide ((((rd z66 x3_12 (IntKind.i64.wrap ((IntKind.i64.wrap (x3_0 + x3_4)) - 1))).f1).length : Int) ≠ j148.2.1) = true := decide_eq_true c182
          simp +decide only [Nat.reduceAdd, Nat.reduceMul, Int.reduceToNat, ak, e183]
          obtain rfl := Option.some.inj h
          refine G181n _ _ (wk [3, 9, 12, 13, 16, 18, 20, 21, 22, 23, 24, 192] [pI (.arg 0) .fz, pI (.tmp 3 0) .box, pI (.tmp 70 0) .lst, pI (.tmp 122 0) .lst, pI (.tmp 22 0) .box] (h0 := by first | rfl | simp +decide only [ak, akF, b143, e183]) (h := by first | rfl | (simp +decide only [ak, akF, b143, e183]; done) | (simp +decide [ak, akF, b143, e183] <;> omega))) (hJ180 _ rfl)
        · rw [if_neg c182] at h
          have e184 : decide ((((rd z66 x3_12 (IntKind.i64.wrap ((IntKind.i64.wrap (x3_0 + x3_4)) - 1))).f1).length : Int) ≠ j148.2.1) = false := decide_eq_false c182
          simp +decide only [Nat.reduceAdd, Nat.reduceMul, Int.reduceToNat, ak, e184]
          by_cases c185 : (rd z66 x3_12 (IntKind.i64.wrap ((IntKind.i64.wrap (x3_0 + x3_4)) - 1))).f3 ≠ j148.2.2.2
          · rw [if_pos c185] at h
            have e186 : decide ((rd z66 x3_12 (IntKind.i64.wrap ((IntKind.i64.wrap (x3_0 + x3_4)) - 1))).f3 ≠ j148.2.2.2) = true := decide_eq_true c185
            simp +decide only [Nat.reduceAdd, Nat.reduceMul, Int.reduceToNat, ak, e186]
            obtain rfl := Option.some.inj h
            refine G181n _ _ (wk [3, 9, 12, 13, 16, 18, 20, 21, 22, 23, 24, 192] [pI (.arg 0) .fz, pI (.tmp 3 0) .box, pI (.tmp 70 0) .lst, pI (.tmp 122 0) .lst, pI (.tmp 22 0) .box] (h0 := by first | rfl | simp +decide only [ak, akF, b143, e184, e186]) (h := by first | rfl | (simp +decide only [ak, akF, b143, e184, e186]; done) | (simp +decide [ak, akF, b143, e184, e186] <;> omega))) (hJ180 _ rfl)
          · rw [if_neg c185] at h
            have e187 : decide ((rd z66 x3_12 (IntKind.i64.wrap ((IntKind.i64.wrap (x3_0 + x3_4)) - 1))).f3 ≠ j148.2.2.2) = false := decide_eq_false c185
            simp +decide only [Nat.reduceAdd, Nat.reduceMul, Int.reduceToNat, ak, e187]
            obtain rfl := Option.some.inj h
            refine G181n _ _ (wk [3, 9, 12, 13, 16, 18, 20, 21, 22, 23, 24, 192] [pI (.arg 0) .fz, pI (.tmp 3 0) .box, pI (.tmp 70 0) .lst, pI (.tmp 122 0) .lst, pI (.tmp 22 0) .box] (h0 := by first | rfl | simp +decide only [ak, akF, b143, e184, e187]) (h := by first | rfl | (simp +decide only [ak, akF, b143, e184, e187]; done) | (simp +decide [ak, akF, b143, e184, e187] <;> omega))) (hJ180 _ rfl)
      · replace h := hn; clear hn h179
        rintro _ rfl
        refine cond_k (b := j178) rfl (fun c188 => ?_) (fun c188 => ?_)
        · rw [if_pos c188] at h
          refine sr_k fun J189 hJ189 => ?_
          simp +decide only [Nat.reduceAdd, Nat.reduceMul, Int.reduceToNat, ak]
          refine hJ189 _ ?_
          obtain rfl := Option.some.inj h
          refine gh_k (wk [2] [pI (.arg 0) .fz]) ?_
          refine B141r _ ?_
          refine G3r _ ?_
          exact hx1 _ rfl
        · rw [if_neg (Bool.eq_false_iff.1 c188)] at h
          refine hJ177 _ ?_
          refine sr_k fun J190 hJ190 => ?_
          simp +decide only [Nat.reduceAdd, Nat.reduceMul, Int.reduceToNat, ak]
          refine hJ190 _ ?_
          refine block_k fun B191 B191n B191x B191r B191j => ?_
          obtain ⟨y217, h218, h⟩ := of_bind h
          refine gh_k (wk [3, 9, 12, 13, 16, 18, 20, 21, 22, 23, 24, 26] [pI (.arg 0) .fz, pI (.tmp 3 0) .box, pI (.tmp 70 0) .lst, pI (.tmp 122 0) .lst, pI (.tmp 22 0) .box]) ?_
          rw [e_loop]
          have g192 : (encL c66 x3_12)[0 + (IntKind.i64.wrap ((IntKind.i64.wrap (x3_0 + x3_4)) - 1)).toNat * 5 + 1]? = some (.own 3 (((rd z66 x3_12 (IntKind.i64.wrap ((IntKind.i64.wrap (x3_0 + x3_4)) - 1))).f1).length) (encL c68 ((rd z66 x3_12 (IntKind.i64.wrap ((IntKind.i64.wrap (x3_0 + x3_4)) - 1))).f1))) := (Vw.whole c66_w x3_12).get z66 1 b143.1 b143.2 (by decide)
          have g193 : (encL c66 x3_12)[0 + (IntKind.i64.wrap ((IntKind.i64.wrap (x3_0 + x3_4)) - 1)).toNat * 5 + 1 + 1]? = some (.own 1 (((rd z66 x3_12 (IntKind.i64.wrap ((IntKind.i64.wrap (x3_0 + x3_4)) - 1))).f2).length) (encL c_i64 ((rd z66 x3_12 (IntKind.i64.wrap ((IntKind.i64.wrap (x3_0 + x3_4)) - 1))).f2))) := (Vw.whole c66_w x3_12).get z66 2 b143.1 b143.2 (by decide)
          refine laws_FnDeath.l4_walk cs0 o0 l0 hv0 x3_0 x3_1 x3_2 j148.1 x3_4 j148.2.1 j148.2.2.1 x3_5 x3_6 x3_7 x3_8 x3_9 x3_10 x3_11 x3_12 ((rd z66 x3_12 (IntKind.i64.wrap ((IntKind.i64.wrap (x3_0 + x3_4)) - 1))).f0) (0 + (IntKind.i64.wrap ((IntKind.i64.wrap (x3_0 + x3_4)) - 1)).toNat * 5 + 1) ((rd z66 x3_12 (IntKind.i64.wrap ((IntKind.i64.wrap (x3_0 + x3_4)) - 1))).f1) (0 + (IntKind.i64.wrap ((IntKind.i64.wrap (x3_0 + x3_4)) - 1)).toNat * 5 + 1 + 1) ((rd z66 x3_12 (IntKind.i64.wrap ((IntKind.i64.wrap (x3_0 + x3_4)) - 1))).f2) ((rd z66 x3_12 (IntKind.i64.wrap ((IntKind.i64.wrap (x3_0 + x3_4)) - 1))).f3) ((rd z66 x3_12 (IntKind.i64.wrap ((IntKind.i64.wrap (x3_0 + x3_4)) - 1))).f4) 0 g192 g193 _ h218 _ ?_ ?_
          · rintro x219 rfl
            dsimp only at h
            refine B191x _ ?_
            refine B141n _ ?_
            refine hJ140 _ ?_
            refine reg_k ?_
            simp +decide only [Nat.reduceAdd, Nat.reduceMul, Int.reduceToNat, ak]
            refine G3n _ _ (wk [3, 9, 12, 13, 16, 18, 20, 21] [pI (.arg 0) .fz, pI (.tmp 3 0) .box, pI (.tmp 70 0) .lst, pI (.tmp 122 0) .lst]) (ih _ _ _ h K hx0 hx1)
          · rintro x219 rfl
            dsimp only at h
            refine B191r _ ?_
            refine B141r _ ?_
            obtain rfl := Option.some.inj h
            refine G3r _ ?_
            exact hx1 _ rfl
  · replace c139 := of_decide_eq_false c139; rw [if_neg c139] at h
    obtain rfl := Option.some.inj h
    refine gh_k (wk [9, 18] [pI (.arg 0) .fz, pI (.tmp 122 0) .lst]) ?_
    refine G3x _ _ ?_
    exact hx0 _ rfl
def laws_FnDeath.l5_M (cs0 : List Cell) (o0 : Nat) (l0 : List Int) (hv0 : Vw c_u8 1 cs0 o0 l0) (x5_0 : Int) (x5_2 : Int) (x5_3 : Nat) (x5_4 : (List S68)) (x5_5 : Nat) (x5_6 : (List Int)) (x5_7 : Int) (x5_8 : Int) (x5_9 : (List S66)) (x5_1 : Int) (y : Lp Unit Bool) : Prop := ∀ (K : AE → St → Prop), (∀ x, y = .a x → K (.exit 10) ⟨[], [(.arg 0, ⟨.fz, 1, cs0⟩)], [], []⟩) → (∀ x, y = .b x → K .ret ⟨[(2, .c (.sc (.bool x)))], [(.arg 0, ⟨.fz, 1, cs0⟩)], [], []⟩) → loopS Try.prog 293 (.ga C6_l5) K ⟨[(9, .c (.sc (.int .i64 x5_0))), (28, .c (.ptr (.tmp 28 0) [] 0)), (29, .c (.sc (.int .i64 x5_1)))], [(.arg 0, ⟨.fz, 1, cs0⟩), (.tmp 28 0, ⟨.box, 0, [.sc (.int .i64 x5_2), .ref (.tmp 122 0) [x5_3] 0 x5_4.length, .ref (.tmp 122 0) [x5_5] 0 x5_6.length, .sc (.int .i64 x5_7), .sc (.int .i64 x5_8)]⟩), (.tmp 122 0, ⟨.lst, 5, encL c66 x5_9⟩)], [], []⟩
theorem laws_FnDeath.l5_walk (cs0 : List Cell) (o0 : Nat) (l0 : List Int) (hv0 : Vw c_u8 1 cs0 o0 l0) (x5_0 : Int) (x5_2 : Int) (x5_3 : Nat) (x5_4 : (List S68)) (x5_5 : Nat) (x5_6 : (List Int)) (x5_7 : Int) (x5_8 : Int) (x5_9 : (List S66)) (x5_1 : Int) (hq_x5_3 : (encL c66 x5_9)[x5_3]? = some (.own 3 x5_4.length (encL c68 x5_4))) (hq_x5_5 : (encL c66 x5_9)[x5_5]? = some (.own 1 x5_6.length (encL c_i64 x5_6))) (y : Lp Unit Bool) (h : laws_FnDeath.l5 x5_0 x5_2 x5_3 x5_4 x5_5 x5_6 x5_7 x5_8 x5_9 x5_1 = some y) : laws_FnDeath.l5_M cs0 o0 l0 hv0 x5_0 x5_2 x5_3 x5_4 x5_5 x5_6 x5_7 x5_8 x5_9 x5_1 y := by
  refine laws_FnDeath.l5.partial_correctness x5_0 x5_2 x5_3 x5_4 x5_5 x5_6 x5_7 x5_8 x5_9 (motive := fun x5_1 y => laws_FnDeath.l5_M cs0 o0 l0 hv0 x5_0 x5_2 x5_3 x5_4 x5_5 x5_6 x5_7 x5_8 x5_9 x5_1 y) ?_ x5_1 y h
  clear h
  unfold laws_FnDeath.l5_M
  intro rec ih x5_1 y h K hx0 hx1
  refine loop_unroll (ga_k fun G5 G5n G5r G5x => ?_)
  unfold C6_l5
  refine seq_k fun J256 hJ256 => ?_
  refine sr_k fun J257 hJ257 => ?_
  simp +decide only [Nat.reduceAdd, Nat.reduceMul, Int.reduceToNat, ak]
  refine hJ257 _ ?_
  refine cond_k (b := decide (x5_1 < IntKind.i64.wrap (x5_0 - 1))) rfl (fun c258 => ?_) (fun c258 => ?_)
  · replace c258 := of_decide_eq_true c258; rw [if_pos c258] at h
    refine hJ256 _ ?_
    refine seq_k fun J259 hJ259 => ?_
    refine block_k fun B260 B260n B260x B260r B260j => ?_
    obtain ⟨j261, h262, hn⟩ := of_bind h
    refine seq_j (fun st => st = ⟨[(9, .c (.sc (.int .i64 x5_0))), (28, .c (.ptr (.tmp 28 0) [] 0)), (29, .c (.sc (.int .i64 x5_1))), (292, .c (.sc (.bool j261)))], [(.arg 0, ⟨.fz, 1, cs0⟩), (.tmp 28 0, ⟨.box, 0, [.sc (.int .i64 x5_2), .ref (.tmp 122 0) [x5_3] 0 x5_4.length, .ref (.tmp 122 0) [x5_5] 0 x5_6.length, .sc (.int .i64 x5_7), .sc (.int .i64 x5_8)]⟩), (.tmp 122 0, ⟨.lst, 5, encL c66 x5_9⟩)], [], []⟩) (fun J263 hJ263 => ?_) ?_
    · replace h := h262; clear hn
      refine ga_k fun G264 G264n G264r G264x => ?_
      refine reg_k ?_
      obtain ⟨b265, h⟩ := of_guard h
      have g266 : 0 + x5_1.toNat * 3 + 0 ≤ (encL c68 x5_4).length := ((Vw.whole c68_w x5_4).len_le b265.1 b265.2 (by decide))
      have g267 : (encL c68 x5_4)[0 + x5_1.toNat * 3 + 0]? = some (.sc (.int .i64 ((rd z68 x5_4 x5_1).f0))) := (Vw.whole c68_w x5_4).get z68 0 b265.1 b265.2 (by decide)
      simp +decide only [Nat.reduceAdd, Nat.reduceMul, Int.reduceToNat, ak, b265, hq_x5_3, g266, g267]
      by_cases c268 : (rd z68 x5_4 x5_1).f0 ≠ 2
      · rw [if_pos c268] at h
        have e269 : decide ((rd z68 x5_4 x5_1).f0 ≠ 2) = true := decide_eq_true c268
        simp +decide only [Nat.reduceAdd, Nat.reduceMul, Int.reduceToNat, ak, e269]
        obtain rfl := Option.some.inj h
        refine G264n _ _ (wk [9, 28, 29, 292] [pI (.arg 0) .fz, pI (.tmp 28 0) .box, pI (.tmp 122 0) .lst] (h0 := by first | rfl | simp +decide only [ak, akF, b265, e269]) (h := by first | rfl | (simp +decide only [ak, akF, b265, e269]; done) | (simp +decide [ak, akF, b265, e269] <;> omega))) (hJ263 _ rfl)
      · rw [if_neg c268] at h
        have e270 : decide ((rd z68 x5_4 x5_1).f0 ≠ 2) = false := decide_eq_false c268
        have g271 : 0 + x5_1.toNat * 3 + 2 ≤ (encL c68 x5_4).length := ((Vw.whole c68_w x5_4).len_le b265.1 b265.2 (by decide))
        have g272 : (encL c68 x5_4)[0 + x5_1.toNat * 3 + 2]? = some (.sc (.int .i64 ((rd z68 x5_4 x5_1).f2))) := (Vw.whole c68_w x5_4).get z68 2 b265.1 b265.2 (by decide)
        simp +decide only [Nat.reduceAdd, Nat.reduceMul, Int.reduceToNat, ak, e270, b265, hq_x5_3, g271, g272]
        obtain rfl := Option.some.inj h
        refine G264n _ _ (wk [9, 28, 29, 292] [pI (.arg 0) .fz, pI (.tmp 28 0) .box, pI (.tmp 122 0) .lst] (h0 := by first | rfl | simp +decide only [ak, akF, b265, e270]) (h := by first | rfl | (simp +decide only [ak, akF, b265, e270]; done) | (simp +decide [ak, akF, b265, e270] <;> omega))) (hJ263 _ rfl)
    · replace h := hn; clear hn h262
      rintro _ rfl
      refine cond_k (b := j261) rfl (fun c273 => ?_) (fun c273 => ?_)
      · rw [if_pos c273] at h
        refine sr_k fun J274 hJ274 => ?_
        simp +decide only [Nat.reduceAdd, Nat.reduceMul, Int.reduceToNat, ak]
        refine hJ274 _ ?_
        obtain rfl := Option.some.inj h
        refine gh_k (wk [2] [pI (.arg 0) .fz]) ?_
        refine B260r _ ?_
        refine G5r _ ?_
        exact hx1 _ rfl
      · rw [if_neg (Bool.eq_false_iff.1 c273)] at h
        refine B260n _ ?_
        refine hJ259 _ ?_
        refine reg_k ?_
        simp +decide only [Nat.reduceAdd, Nat.reduceMul, Int.reduceToNat, ak]
        refine G5n _ _ (wk [9, 28, 29] [pI (.arg 0) .fz, pI (.tmp 28 0) .box, pI (.tmp 122 0) .lst]) (ih _ _ h K hx0 hx1)
  · replace c258 := of_decide_eq_false c258; rw [if_neg c258] at h
    obtain rfl := Option.some.inj h
    refine gh_k (wk [] [pI (.arg 0) .fz]) ?_
    refine G5x _ _ ?_
    exact hx0 _ rfl
theorem laws_FnDeath.tri (cs0 : List Cell) (o0 : Nat) (l0 : List Int) (hv0 : Vw c_u8 1 cs0 o0 l0) (r : Bool) (h : laws_FnDeath.f l0 = some r) : Tri Try.prog 6 [.c (.ref (.arg 0) [] o0 l0.length)] [(.arg 0, ⟨.fz, 1, cs0⟩)] (fun o => o = ⟨.c (.sc (.bool r)), [(.arg 0, ⟨.fz, 1, cs0⟩)], [], []⟩) := by
  refine tri_of_body (ac := C6) (xs := r6) Try.func6 (show Try.f6.body = some (Try.f6.body.getD .skip) from rfl) k6 q6 (Nat.le_of_ble_eq_true rfl) ?_
  refine body_of fun K hKn hKr => ?_
  unfold laws_FnDeath.f at h
  unfold C6
  simp only [initT, Nat.reduceAdd]
  refine sr_k fun J1 hJ1 => ?_
  simp +decide only [Nat.reduceAdd, Nat.reduceMul, Int.reduceToNat, ak]
  refine hJ1 _ ?_
  refine seq_k fun J2 hJ2 => ?_
  refine sr_k fun J3 hJ3 => ?_
  simp +decide only [Nat.reduceAdd, Nat.reduceMul, Int.reduceToNat, ak]
  refine hJ3 _ ?_
  refine cond_k (b := decide ((l0.length : Int) > 1048576)) rfl (fun c4 => ?_) (fun c4 => ?_)
  · replace c4 := of_decide_eq_true c4; rw [if_pos c4] at h
    refine sr_k fun J5 hJ5 => ?_
    simp +decide only [Nat.reduceAdd, Nat.reduceMul, Int.reduceToNat, ak]
    refine hJ5 _ ?_
    obtain rfl := Option.some.inj h
    refine hKr _ ⟨_, rfl, [], _, rfl, rfl, ?_⟩
    first | rfl | (simp only [reduceCtorEq, Nat.reduceEqDiff, ak, akF]; done) | (simp [reduceCtorEq, Nat.reduceEqDiff, ak, akF] <;> omega)
  · replace c4 := of_decide_eq_false c4; rw [if_neg c4] at h
    refine hJ2 _ ?_
    refine sr_k fun J6 hJ6 => ?_
    simp +decide only [Nat.reduceAdd, Nat.reduceMul, Int.reduceToNat, ak]
    obtain ⟨t7, h8, h⟩ := of_bind h
    refine call_m [(.arg 0, ⟨(.arg 0), [], none, .fz⟩)] (s0 := [(.arg 0, ⟨.fz, 1, cs0⟩)]) (by intro t ht; cases ht; decide) rfl rfl (by first | rfl | simp only [reduceCtorEq, Nat.reduceEqDiff, ak, akF]) (spec_DrawSubRun.tri (cs0) o0 l0 hv0 _ h8) (by first | rfl | simp only [reduceCtorEq, Nat.reduceEqDiff, ak, akF]) (by simp [bkOk2, memK]) (fun hl8 => ?_)
    refine call_st (s4 := [(.arg 0, ⟨.fz, 1, cs0⟩), (.tmp 35 0, ⟨.lst, 3, encL c63 t7.2.2.2.2.2.2⟩)]) (m1' := []) (m2' := []) (v' := .tup [(true, [.sc (.int .u32 t7.1), .sc (.int .i64 t7.2.1), .sc (.int .i64 t7.2.2.1), .sc (.int .i64 t7.2.2.2.1), .sc (.int .i64 t7.2.2.2.2.1), .sc (.int .i64 t7.2.2.2.2.2.1)]), (false, [.ref (.tmp 35 0) [] 0 t7.2.2.2.2.2.2.length])]) (Sto.mapN_killNil _ _) (mrgL_fz (mrgL_nil' _ _ _) rfl (by first | rfl | simp only [reduceCtorEq, Nat.reduceEqDiff, ak]) rfl (by intro R hR hh; cases hR; cases hh.2)) (by rfl) (mapT_killNil _ _) (by rfl) (by rfl) (by first | rfl | simp only [reduceCtorEq, Nat.reduceEqDiff, ak, akF, Nat.zero_add, List.append_nil]) ?_
    simp +decide only [Nat.reduceAdd, Nat.reduceMul, Int.reduceToNat, ak]
    refine hJ6 _ ?_
    refine sr_k fun J10 hJ10 => ?_
    simp +decide only [Nat.reduceAdd, Nat.reduceMul, Int.reduceToNat, ak]
    obtain ⟨t11, h12, h⟩ := of_bind h
    refine call_m [] (s0 := []) (by intro t ht; cases ht; decide) rfl rfl (by first | rfl | simp only [reduceCtorEq, Nat.reduceEqDiff, ak, akF]) (spec_SubRun_v1n.tri t7.1 t7.2.1 t7.2.2.1 t7.2.2.2.1 t7.2.2.2.2.1 t7.2.2.2.2.2.1 _ h12) (by first | rfl | simp only [reduceCtorEq, Nat.reduceEqDiff, ak, akF]) (by simp [bkOk2, memK]) (fun hl12 => ?_)
    refine call_st (s4 := [(.arg 0, ⟨.fz, 1, cs0⟩), (.tmp 35 0, ⟨.lst, 3, encL c63 t7.2.2.2.2.2.2⟩), (.tmp 3 0, ⟨.box, 0, [.sc (.int .u32 t7.1), .sc (.int .i64 t7.2.1), .sc (.int .i64 t7.2.2.1), .sc (.int .i64 t7.2.2.2.1), .sc (.int .i64 t7.2.2.2.2.1), .sc (.int .i64 t7.2.2.2.2.2.1)]⟩), (.tmp 40 0, ⟨.lst, 5, encL c66 t11.1⟩)]) (m1' := []) (m2' := []) (v' := .tup [(false, [.ref (.tmp 40 0) [] 0 t11.1.length]), (false, [.sc (.int .i64 t11.2)])]) (Sto.mapN_killNil _ _) (mrgL_nil' _ _ _) (by rfl) (mapT_killNil _ _) (by rfl) (by rfl) (by first | rfl | simp only [reduceCtorEq, Nat.reduceEqDiff, ak, akF, Nat.zero_add, List.append_nil]) ?_
    simp +decide only [Nat.reduceAdd, Nat.reduceMul, Int.reduceToNat, ak]
    refine hJ10 _ ?_
    refine seq_k fun J14 hJ14 => ?_
    refine sr_k fun J15 hJ15 => ?_
    simp +decide only [Nat.reduceAdd, Nat.reduceMul, Int.reduceToNat, ak]
    refine hJ15 _ ?_
    refine cond_k (b := decide (t11.2 ≠ 0)) rfl (fun c16 => ?_) (fun c16 => ?_)
    · replace c16 := of_decide_eq_true c16; rw [if_pos c16] at h
      refine sr_k fun J17 hJ17 => ?_
      simp +decide only [Nat.reduceAdd, Nat.reduceMul, Int.reduceToNat, ak]
      obtain ⟨t18, h19, h⟩ := of_bind h
      refine call_m [] (s0 := []) (by intro t ht; cases ht; decide) rfl rfl (by first | rfl | simp only [reduceCtorEq, Nat.reduceEqDiff, ak, akF]) (impl_SubRun_v1n.tri t7.1 t7.2.1 t7.2.2.1 t7.2.2.2.1 t7.2.2.2.2.1 t7.2.2.2.2.2.1 _ h19) (by first | rfl | simp only [reduceCtorEq, Nat.reduceEqDiff, ak, akF]) (by simp [bkOk2, memK]) (fun hl19 => ?_)
      refine call_st (s4 := [(.arg 0, ⟨.fz, 1, cs0⟩), (.tmp 35 0, ⟨.lst, 3, encL c63 t7.2.2.2.2.2.2⟩), (.tmp 3 0, ⟨.box, 0, [.sc (.int .u32 t7.1), .sc (.int .i64 t7.2.1), .sc (.int .i64 t7.2.2.1), .sc (.int .i64 t7.2.2.2.1), .sc (.int .i64 t7.2.2.2.2.1), .sc (.int .i64 t7.2.2.2.2.2.1)]⟩), (.tmp 40 0, ⟨.lst, 5, encL c66 t11.1⟩), (.tmp 47 0, ⟨.lst, 5, encL c66 t18.1⟩)]) (m1' := []) (m2' := []) (v' := .tup [(false, [.ref (.tmp 47 0) [] 0 t18.1.length]), (false, [.sc (.int .i64 t18.2)])]) (Sto.mapN_killNil _ _) (mrgL_nil' _ _ _) (by rfl) (mapT_killNil _ _) (by rfl) (by rfl) (by first | rfl | simp only [reduceCtorEq, Nat.reduceEqDiff, ak, akF, Nat.zero_add, List.append_nil]) ?_
      simp +decide only [Nat.reduceAdd, Nat.reduceMul, Int.reduceToNat, ak]
      refine hJ17 _ ?_
      refine sr_k fun J21 hJ21 => ?_
      simp +decide only [Nat.reduceAdd, Nat.reduceMul, Int.reduceToNat, ak]
      refine hJ21 _ ?_
      obtain rfl := Option.some.inj h
      refine hKr _ ⟨_, rfl, [], _, rfl, rfl, ?_⟩
      first | rfl | (simp only [reduceCtorEq, Nat.reduceEqDiff, ak, akF]; done) | (simp [reduceCtorEq, Nat.reduceEqDiff, ak, akF] <;> omega)
    · replace c16 := of_decide_eq_false c16; rw [if_neg c16] at h
      refine hJ14 _ ?_
      refine sr_k fun J22 hJ22 => ?_
      obtain ⟨b23, h⟩ := of_guard h
      simp +decide only [Nat.reduceAdd, Nat.reduceMul, Int.reduceToNat, ak, b23]
      refine hJ22 _ ?_
      refine sr_k fun J24 hJ24 => ?_
      have g25 : (List.replicate 0 ([.int .i64 0, .int .i64 0, .int .u32 0] : List Value)).flatten = [] := rfl
      have g26 : (⟨.lst, 3, []⟩ : Root) = ⟨.lst, 3, encL c63 ([] : List S63)⟩ := rfl
      have g27 : ([] : List S63).length = 0 := rfl
      simp +decide only [Nat.reduceAdd, Nat.reduceMul, Int.reduceToNat, ak, g25, g26, g27]
      refine hJ24 _ ?_
      refine seq_k fun J28 hJ28 => ?_
      refine sr_k fun J29 hJ29 => ?_
      simp +decide only [Nat.reduceAdd, Nat.reduceMul, Int.reduceToNat, ak]
      refine hJ29 _ ?_
      refine block_k fun B30 B30n B30x B30r B30j => ?_
      obtain ⟨y45, h46, h⟩ := of_bind h
      refine gh_k (st' := ⟨[(3, .c (.ptr (.tmp 3 0) [] 0)), (9, .c (.sc (.int .i64 (IntKind.i64.wrap (1 + ((l0.length : Int).tmod t7.2.1)))))), (10, .c (.ref (.tmp 58 0) [] 0 (([] : List S63).length))), (11, .c (.sc (.int .i64 0)))], [(.arg 0, ⟨.fz, 1, cs0⟩), (.tmp 3 0, ⟨.box, 0, [.sc (.int .u32 t7.1), .sc (.int .i64 t7.2.1), .sc (.int .i64 t7.2.2.1), .sc (.int .i64 t7.2.2.2.1), .sc (.int .i64 t7.2.2.2.2.1), .sc (.int .i64 t7.2.2.2.2.2.1)]⟩), (.tmp 58 0, ⟨.lst, 3, encL c63 ([] : List S63)⟩)], [], []⟩) (wk [3, 9, 10, 11] [pI (.arg 0) .fz, pI (.tmp 3 0) .box, pI (.tmp 58 0) .lst] (h0 := by first | rfl | simp +decide only [ak, akF, b23]) (h := by first | rfl | (simp +decide only [ak, akF, b23]; done) | (simp +decide [ak, akF, b23] <;> omega))) ?_
      rw [e_loop]
      refine laws_FnDeath.l0_walk cs0 o0 l0 hv0 (IntKind.i64.wrap (1 + ((l0.length : Int).tmod t7.2.1))) t7.1 t7.2.1 t7.2.2.1 t7.2.2.2.1 t7.2.2.2.2.1 t7.2.2.2.2.2.1 0 ([] : List S63) _ h46 _ ?_
      refine B30x _ ?_
      refine hJ28 _ ?_
      refine sr_k fun J47 hJ47 => ?_
      have g48 : (List.replicate 0 ([.int .i64 0] : List Value)).flatten = [] := rfl
      have g49 : (⟨.lst, 1, []⟩ : Root) = ⟨.lst, 1, encL c_i64 ([] : List Int)⟩ := rfl
      have g50 : ([] : List Int).length = 0 := rfl
      simp +decide only [Nat.reduceAdd, Nat.reduceMul, Int.reduceToNat, ak, g48, g49, g50]
      refine hJ47 _ ?_
      refine sr_k fun J51 hJ51 => ?_
      simp +decide only [Nat.reduceAdd, Nat.reduceMul, Int.reduceToNat, ak]
      refine hJ51 _ ?_
      refine sr_k fun J52 hJ52 => ?_
      simp +decide only [Nat.reduceAdd, Nat.reduceMul, Int.reduceToNat, ak]
      refine hJ52 _ ?_
      refine seq_k fun J53 hJ53 => ?_
      refine sr_k fun J54 hJ54 => ?_
      simp +decide only [Nat.reduceAdd, Nat.reduceMul, Int.reduceToNat, ak]
      refine hJ54 _ ?_
      refine block_k fun B55 B55n B55x B55r B55j => ?_
      obtain ⟨y78, h79, h⟩ := of_bind h
      refine gh_k (st' := ⟨[(3, .c (.ptr (.tmp 3 0) [] 0)), (9, .c (.sc (.int .i64 (IntKind.i64.wrap (1 + ((l0.length : Int).tmod t7.2.1)))))), (10, .c (.ref (.tmp 58 0) [] 0 y45.length)), (12, .c (.ref (.tmp 70 0) [] 0 (([] : List Int).length))), (13, .c (.sc (.int .i64 0))), (14, .c (.sc (.int .i64 t7.2.2.1))), (15, .c (.sc (.int .i64 0)))], [(.arg 0, ⟨.fz, 1, cs0⟩), (.tmp 3 0, ⟨.box, 0, [.sc (.int .u32 t7.1), .sc (.int .i64 t7.2.1), .sc (.int .i64 t7.2.2.1), .sc (.int .i64 t7.2.2.2.1), .sc (.int .i64 t7.2.2.2.2.1), .sc (.int .i64 t7.2.2.2.2.2.1)]⟩), (.tmp 58 0, ⟨.lst, 3, encL c63 y45⟩), (.tmp 70 0, ⟨.lst, 1, encL c_i64 ([] : List Int)⟩)], [], []⟩) (wk [3, 9, 10, 12, 13, 14, 15] [pI (.arg 0) .fz, pI (.tmp 3 0) .box, pI (.tmp 58 0) .lst, pI (.tmp 70 0) .lst] (h0 := by first | rfl | simp +decide only [ak, akF, b23]) (h := by first | rfl | (simp +decide only [ak, akF, b23]; done) | (simp +decide [ak, akF, b23] <;> omega))) ?_
      rw [e_loop]
      refine laws_FnDeath.l1_walk cs0 o0 l0 hv0 (IntKind.i64.wrap (1 + ((l0.length : Int).tmod t7.2.1))) t7.1 t7.2.1 t7.2.2.1 t7.2.2.2.1 t7.2.2.2.2.1 t7.2.2.2.2.2.1 y45 0 t7.2.2.1 0 ([] : List Int) _ h79 _ ?_
      refine B55x _ ?_
      refine hJ53 _ ?_
      refine sr_k fun J80 hJ80 => ?_
      simp +decide only [Nat.reduceAdd, Nat.reduceMul, Int.reduceToNat, ak]
      refine hJ80 _ ?_
      refine seq_k fun J81 hJ81 => ?_
      refine sr_k fun J82 hJ82 => ?_
      simp +decide only [Nat.reduceAdd, Nat.reduceMul, Int.reduceToNat, ak]
      refine hJ82 _ ?_
      refine block_k fun B83 B83n B83x B83r B83j => ?_
      obtain ⟨y98, h99, h⟩ := of_bind h
      refine gh_k (wk [3, 9, 10, 12, 13, 16, 17] [pI (.arg 0) .fz, pI (.tmp 3 0) .box, pI (.tmp 58 0) .lst, pI (.tmp 70 0) .lst]) ?_
      rw [e_loop]
      refine laws_FnDeath.l2_walk cs0 o0 l0 hv0 (IntKind.i64.wrap (1 + ((l0.length : Int).tmod t7.2.1))) y78.1 (IntKind.i64.wrap (y78.1 + (IntKind.i64.wrap (2 * t7.2.2.2.2.2.1)))) t7.1 t7.2.1 t7.2.2.1 t7.2.2.2.1 t7.2.2.2.2.1 t7.2.2.2.2.2.1 y78.2 0 y45 _ h99 _ ?_
      refine B83x _ ?_
      refine hJ81 _ ?_
      refine sr_k fun J100 hJ100 => ?_
      have g101 : (List.replicate 1 ([.int .i64 0, .int .i64 0, .int .u32 0] : List Value)).flatten = [.int .i64 0, .int .i64 0, .int .u32 0] := rfl
      have g102 : (⟨.lst, 3, [.sc (.int .i64 1), .sc (.int .i64 99), .sc (.int .u32 0)]⟩ : Root) = ⟨.lst, 3, encL c63 ([(⟨1, 99, 0⟩ : S63)] : List S63)⟩ := rfl
      have g103 : ([(⟨1, 99, 0⟩ : S63)] : List S63).length = 1 := rfl
      have g104 : (encL c63 ([(⟨1, 99, 0⟩ : S63)] : List S63)).length = 1 * 3 := by simp [encL_length c63_w]
      have g105 : (encL c63 ([(⟨1, 99, 0⟩ : S63)] : List S63)).all nd = true := rfl
      obtain ⟨b106, h⟩ := of_guard h
      have g107 : appLim y98.length 1 24 := ⟨b106, by have := b106; omega⟩
      have g108 : (encL c63 y98).length = y98.length * 3 := by simp [encL_length c63_w]
      have g109 : encL c63 y98 ++ encL c63 ([(⟨1, 99, 0⟩ : S63)] : List S63) = encL c63 (y98 ++ ([(⟨1, 99, 0⟩ : S63)] : List S63)) := (encL_append _ _).symm
      simp +decide only [Nat.reduceAdd, Nat.reduceMul, Int.reduceToNat, ak, g101, g102, g103, g104, g105, g107, g108, g109]
      refine hJ100 _ ?_
      refine sr_k fun J110 hJ110 => ?_
      have g111 : (⟨.lst, 3, [.sc (.int .i64 2), .sc (.int .i64 0), .sc (.int .u32 (IntKind.u32.wrap (t7.1 + 1)))]⟩ : Root) = ⟨.lst, 3, encL c63 ([(⟨2, 0, IntKind.u32.wrap (t7.1 + 1)⟩ : S63)] : List S63)⟩ := rfl
      have g112 : ([(⟨2, 0, IntKind.u32.wrap (t7.1 + 1)⟩ : S63)] : List S63).length = 1 := rfl
      have g113 : (encL c63 ([(⟨2, 0, IntKind.u32.wrap (t7.1 + 1)⟩ : S63)] : List S63)).length = 1 * 3 := by simp [encL_length c63_w]
      have g114 : (encL c63 ([(⟨2, 0, IntKind.u32.wrap (t7.1 + 1)⟩ : S63)] : List S63)).all nd = true := rfl
      obtain ⟨b115, h⟩ := of_guard h
      have g116 : appLim (y98.length + 1) 1 24 := ⟨b115, by have := b115; omega⟩
      have g117 : (encL c63 (y98 ++ ([(⟨1, 99, 0⟩ : S63)] : List S63))).length = (y98.length + 1) * 3 := by simp [encL_length c63_w]
      have g118 : encL c63 (y98 ++ ([(⟨1, 99, 0⟩ : S63)] : List S63)) ++ encL c63 ([(⟨2, 0, IntKind.u32.wrap (t7.1 + 1)⟩ : S63)] : List S63) = encL c63 ((y98 ++ ([(⟨1, 99, 0⟩ : S63)] : List S63)) ++ ([(⟨2, 0, IntKind.u32.wrap (t7.1 + 1)⟩ : S63)] : List S63)) := (encL_append _ _).symm
      simp +decide only [Nat.reduceAdd, Nat.reduceMul, Int.reduceToNat, ak, g101, g111, g112, g113, g114, g116, g117, g118]
      refine hJ110 _ ?_
      refine sr_k fun J119 hJ119 => ?_
      simp +decide only [Nat.reduceAdd, Nat.reduceMul, Int.reduceToNat, ak]
      obtain ⟨t120, h121, h⟩ := of_bind h
      refine call_m [(.arg 0, ⟨(.tmp 58 0), [], none, .fz⟩)] (s0 := [(.arg 0, ⟨.fz, 3, encL c63 ((y98 ++ ([(⟨1, 99, 0⟩ : S63)] : List S63)) ++ ([(⟨2, 0, IntKind.u32.wrap (t7.1 + 1)⟩ : S63)] : List S63))⟩)]) (by intro t ht; cases ht; decide) rfl rfl (by first | rfl | simp only [reduceCtorEq, Nat.reduceEqDiff, ak, akF, b23, b106, b115, g25, g26, g27, g48, g49, g50, g101, g102, g103, g104, g105, g107, g108, g109, g111, g112, g113, g114, g116, g117, g118, (show (y98.length + 1) + 1 = ((y98 ++ ([(⟨1, 99, 0⟩ : S63)] : List S63)) ++ ([(⟨2, 0, IntKind.u32.wrap (t7.1 + 1)⟩ : S63)] : List S63)).length by simp)]) (impl_SubRun.tri (encL c63 ((y98 ++ ([(⟨1, 99, 0⟩ : S63)] : List S63)) ++ ([(⟨2, 0, IntKind.u32.wrap (t7.1 + 1)⟩ : S63)] : List S63))) 0 ((y98 ++ ([(⟨1, 99, 0⟩ : S63)] : List S63)) ++ ([(⟨2, 0, IntKind.u32.wrap (t7.1 + 1)⟩ : S63)] : List S63)) (Vw.whole c63_w ((y98 ++ ([(⟨1, 99, 0⟩ : S63)] : List S63)) ++ ([(⟨2, 0, IntKind.u32.wrap (t7.1 + 1)⟩ : S63)] : List S63))) t7.1 t7.2.1 t7.2.2.1 t7.2.2.2.1 t7.2.2.2.2.1 t7.2.2.2.2.2.1 _ h121) (by first | rfl | simp only [reduceCtorEq, Nat.reduceEqDiff, ak, akF, (show (y98.length + 1) + 1 = ((y98 ++ ([(⟨1, 99, 0⟩ : S63)] : List S63)) ++ ([(⟨2, 0, IntKind.u32.wrap (t7.1 + 1)⟩ : S63)] : List S63)).length by simp)]) (by simp [bkOk2, memK]) (fun hl121 => ?_)
      refine call_st (s4 := [(.arg 0, ⟨.fz, 1, cs0⟩), (.tmp 3 0, ⟨.box, 0, [.sc (.int .u32 t7.1), .sc (.int .i64 t7.2.1), .sc (.int .i64 t7.2.2.1), .sc (.int .i64 t7.2.2.2.1), .sc (.int .i64 t7.2.2.2.2.1), .sc (.int .i64 t7.2.2.2.2.2.1)]⟩), (.tmp 58 0, ⟨.lst, 3, encL c63 ((y98 ++ ([(⟨1, 99, 0⟩ : S63)] : List S63)) ++ ([(⟨2, 0, IntKind.u32.wrap (t7.1 + 1)⟩ : S63)] : List S63))⟩), (.tmp 70 0, ⟨.lst, 1, encL c_i64 y78.2⟩), (.tmp 122 0, ⟨.lst, 5, encL c66 t120.1⟩)]) (m1' := []) (m2' := []) (v' := .tup [(false, [.ref (.tmp 122 0) [] 0 t120.1.length]), (false, [.sc (.int .i64 t120.2)])]) (Sto.mapN_killNil _ _) (mrgL_fz (mrgL_nil' _ _ _) rfl (by first | rfl | simp only [reduceCtorEq, Nat.reduceEqDiff, ak, b23, b106, b115, g25, g26, g27, g48, g49, g50, g101, g102, g103, g104, g105, g107, g108, g109, g111, g112, g113, g114, g116, g117, g118]) rfl (by intro R hR hh; cases hR; cases hh.2)) (by rfl) (mapT_killNil _ _) (by rfl) (by rfl) (by first | rfl | simp only [reduceCtorEq, Nat.reduceEqDiff, ak, akF, Nat.zero_add, List.append_nil, b23, b106, b115]) ?_
      simp +decide only [Nat.reduceAdd, Nat.reduceMul, Int.reduceToNat, ak]
      refine hJ119 _ ?_
      refine seq_k fun J123 hJ123 => ?_
      obtain ⟨j124, h125, hn⟩ := of_bind h
      refine seq_j (fun st => st = ⟨[(3, .c (.ptr (.tmp 3 0) [] 0)), (9, .c (.sc (.int .i64 (IntKind.i64.wrap (1 + ((l0.length : Int).tmod t7.2.1)))))), (12, .c (.ref (.tmp 70 0) [] 0 y78.2.length)), (13, .c (.sc (.int .i64 y78.1))), (16, .c (.sc (.int .i64 (IntKind.i64.wrap (y78.1 + (IntKind.i64.wrap (2 * t7.2.2.2.2.2.1))))))), (18, .c (.ref (.tmp 122 0) [] 0 t120.1.length)), (133, .c (.sc (.bool j124)))], [(.arg 0, ⟨.fz, 1, cs0⟩), (.tmp 3 0, ⟨.box, 0, [.sc (.int .u32 t7.1), .sc (.int .i64 t7.2.1), .sc (.int .i64 t7.2.2.1), .sc (.int .i64 t7.2.2.2.1), .sc (.int .i64 t7.2.2.2.2.1), .sc (.int .i64 t7.2.2.2.2.2.1)]⟩), (.tmp 70 0, ⟨.lst, 1, encL c_i64 y78.2⟩), (.tmp 122 0, ⟨.lst, 5, encL c66 t120.1⟩)], [], []⟩) (fun J126 hJ126 => ?_) ?_
      · replace h := h125; clear hn
        refine ga_k fun G127 G127n G127r G127x => ?_
        refine reg_k ?_
        simp +decide only [Nat.reduceAdd, Nat.reduceMul, Int.reduceToNat, ak]
        by_cases c128 : t120.2 ≠ 0
        · rw [if_pos c128] at h
          have e129 : decide (t120.2 ≠ 0) = true := decide_eq_true c128
          simp +decide only [Nat.reduceAdd, Nat.reduceMul, Int.reduceToNat, ak, e129]
          obtain rfl := Option.some.inj h
          refine G127n _ _ (wk [3, 9, 12, 13, 16, 18, 133] [pI (.arg 0) .fz, pI (.tmp 3 0) .box, pI (.tmp 70 0) .lst, pI (.tmp 122 0) .lst] (h0 := by first | rfl | simp +decide only [ak, akF, b23, b106, b115, e129]) (h := by first | rfl | (simp +decide only [ak, akF, b23, b106, b115, e129]; done) | (simp +decide [ak, akF, b23, b106, b115, e129] <;> omega))) (hJ126 _ rfl)
        · rw [if_neg c128] at h
          have e130 : decide (t120.2 ≠ 0) = false := decide_eq_false c128
          simp +decide only [Nat.reduceAdd, Nat.reduceMul, Int.reduceToNat, ak, e130]
          obtain rfl := Option.some.inj h
          refine G127n _ _ (wk [3, 9, 12, 13, 16, 18, 133] [pI (.arg 0) .fz, pI (.tmp 3 0) .box, pI (.tmp 70 0) .lst, pI (.tmp 122 0) .lst] (h0 := by first | rfl | simp +decide only [ak, akF, b23, b106, b115, e130]) (h := by first | rfl | (simp +decide only [ak, akF, b23, b106, b115, e130]; done) | (simp +decide [ak, akF, b23, b106, b115, e130] <;> omega))) (hJ126 _ rfl)
      · replace h := hn; clear hn h125
        rintro _ rfl
        refine cond_k (b := j124) rfl (fun c131 => ?_) (fun c131 => ?_)
        · rw [if_pos c131] at h
          refine sr_k fun J132 hJ132 => ?_
          simp +decide only [Nat.reduceAdd, Nat.reduceMul, Int.reduceToNat, ak]
          refine hJ132 _ ?_
          obtain rfl := Option.some.inj h
          refine hKr _ ⟨_, rfl, [], _, rfl, rfl, ?_⟩
          first | rfl | (simp only [reduceCtorEq, Nat.reduceEqDiff, ak, akF, b23, b106, b115]; done) | (simp [reduceCtorEq, Nat.reduceEqDiff, ak, akF, b23, b106, b115] <;> omega)
        · rw [if_neg (Bool.eq_false_iff.1 c131)] at h
          refine hJ123 _ ?_
          refine sr_k fun J133 hJ133 => ?_
          simp +decide only [Nat.reduceAdd, Nat.reduceMul, Int.reduceToNat, ak]
          refine hJ133 _ ?_
          refine seq_k fun J134 hJ134 => ?_
          refine sr_k fun J135 hJ135 => ?_
          simp +decide only [Nat.reduceAdd, Nat.reduceMul, Int.reduceToNat, ak]
          refine hJ135 _ ?_
          refine block_k fun B136 B136n B136x B136r B136j => ?_
          obtain ⟨y220, h221, h⟩ := of_bind h
          refine gh_k (wk [3, 9, 12, 13, 16, 18, 20, 21] [pI (.arg 0) .fz, pI (.tmp 3 0) .box, pI (.tmp 70 0) .lst, pI (.tmp 122 0) .lst]) ?_
          rw [e_loop]
          refine laws_FnDeath.l3_walk cs0 o0 l0 hv0 (IntKind.i64.wrap (1 + ((l0.length : Int).tmod t7.2.1))) y78.1 (IntKind.i64.wrap (y78.1 + (IntKind.i64.wrap (2 * t7.2.2.2.2.2.1)))) t7.1 t7.2.1 t7.2.2.1 t7.2.2.2.1 t7.2.2.2.2.1 t7.2.2.2.2.2.1 y78.2 t120.1 0 1 _ h221 _ ?_ ?_
          · rintro x222 rfl
            dsimp only at h
            refine B136x _ ?_
            refine hJ134 _ ?_
            refine sr_k fun J223 hJ223 => ?_
            obtain ⟨b224, h⟩ := of_guard h
            have g225 : (List.drop (0 + (IntKind.i64.wrap ((t120.1.length : Int) - 1)).toNat * 5) (encL c66 t120.1)).take 5 = [.sc (.int .i64 ((rd z66 t120.1 (IntKind.i64.wrap ((t120.1.length : Int) - 1))).f0)), .own 3 (((rd z66 t120.1 (IntKind.i64.wrap ((t120.1.length : Int) - 1))).f1).length) (encL c68 ((rd z66 t120.1 (IntKind.i64.wrap ((t120.1.length : Int) - 1))).f1)), .own 1 (((rd z66 t120.1 (IntKind.i64.wrap ((t120.1.length : Int) - 1))).f2).length) (encL c_i64 ((rd z66 t120.1 (IntKind.i64.wrap ((t120.1.length : Int) - 1))).f2)), .sc (.int .i64 ((rd z66 t120.1 (IntKind.i64.wrap ((t120.1.length : Int) - 1))).f3)), .sc (.int .i64 ((rd z66 t120.1 (IntKind.i64.wrap ((t120.1.length : Int) - 1))).f4))] := (Vw.whole c66_w t120.1).stretch z66 b224.1 b224.2
            simp +decide only [Nat.reduceAdd, Nat.reduceMul, Int.reduceToNat, ak, b224, g225]
            refine gho_k (Weak.own (.tmp 28 0) (cs' := [.sc (.int .i64 0), .own 3 (([] : List S68).length) (encL c68 ([] : List S68)), .own 1 (([] : List Int).length) (encL c_i64 ([] : List Int)), .sc (.int .i64 0), .sc (.int .i64 0)]) rfl ⟨.inl rfl, .inr ⟨rfl, _, rfl⟩, .inr ⟨rfl, _, rfl⟩, .inl rfl, .inl rfl, trivial⟩) ?_
            simp +decide only [Nat.reduceAdd, Nat.reduceMul, Int.reduceToNat, ak]
            refine hJ223 _ ?_
            refine seq_k fun J226 hJ226 => ?_
            obtain ⟨j227, h228, hn⟩ := of_bind h
            refine seq_j (fun st => st = ⟨[(9, .c (.sc (.int .i64 (IntKind.i64.wrap (1 + ((l0.length : Int).tmod t7.2.1)))))), (28, .c (.ptr (.tmp 28 0) [] 0)), (267, .c (.sc (.bool j227)))], [(.arg 0, ⟨.fz, 1, cs0⟩), (.tmp 28 0, ⟨.box, 0, [.sc (.int .i64 ((rd z66 t120.1 (IntKind.i64.wrap ((t120.1.length : Int) - 1))).f0)), .ref (.tmp 122 0) [0 + (IntKind.i64.wrap ((t120.1.length : Int) - 1)).toNat * 5 + 1] 0 (((rd z66 t120.1 (IntKind.i64.wrap ((t120.1.length : Int) - 1))).f1).length), .ref (.tmp 122 0) [0 + (IntKind.i64.wrap ((t120.1.length : Int) - 1)).toNat * 5 + 1 + 1] 0 (((rd z66 t120.1 (IntKind.i64.wrap ((t120.1.length : Int) - 1))).f2).length), .sc (.int .i64 ((rd z66 t120.1 (IntKind.i64.wrap ((t120.1.length : Int) - 1))).f3)), .sc (.int .i64 ((rd z66 t120.1 (IntKind.i64.wrap ((t120.1.length : Int) - 1))).f4))]⟩), (.tmp 122 0, ⟨.lst, 5, encL c66 t120.1⟩)], [], []⟩) (fun J229 hJ229 => ?_) ?_
            · replace h := h228; clear hn
              refine ga_k fun G230 G230n G230r G230x => ?_
              refine reg_k ?_
              obtain ⟨b231, h⟩ := of_guard h
              have g232 : 0 + (IntKind.i64.wrap ((t120.1.length : Int) - 2)).toNat * 5 + 0 ≤ (encL c66 t120.1).length := ((Vw.whole c66_w t120.1).len_le b231.1 b231.2 (by decide))
              have g233 : (encL c66 t120.1)[0 + (IntKind.i64.wrap ((t120.1.length : Int) - 2)).toNat * 5 + 0]? = some (.sc (.int .i64 ((rd z66 t120.1 (IntKind.i64.wrap ((t120.1.length : Int) - 2))).f0))) := (Vw.whole c66_w t120.1).get z66 0 b231.1 b231.2 (by decide)
              simp +decide only [Nat.reduceAdd, Nat.reduceMul, Int.reduceToNat, ak, b231, g232, g233]
              by_cases c234 : (rd z66 t120.1 (IntKind.i64.wrap ((t120.1.length : Int) - 2))).f0 ≠ 10
              · rw [if_pos c234] at h
                have e235 : decide ((rd z66 t120.1 (IntKind.i64.wrap ((t120.1.length : Int) - 2))).f0 ≠ 10) = true := decide_eq_true c234
                simp +decide only [Nat.reduceAdd, Nat.reduceMul, Int.reduceToNat, ak, e235]
                obtain rfl := Option.some.inj h
                refine G230n _ _ (wk [9, 28, 267] [pI (.arg 0) .fz, pI (.tmp 28 0) .box, pI (.tmp 122 0) .lst] (h0 := by first | rfl | simp +decide only [ak, akF, b23, b106, b115, b224, b231, e235]) (h := by first | rfl | (simp +decide only [ak, akF, b23, b106, b115, b224, b231, e235]; done) | (simp +decide [ak, akF, b23, b106, b115, b224, b231, e235] <;> omega))) (hJ229 _ rfl)
              · rw [if_neg c234] at h
                have e236 : decide ((rd z66 t120.1 (IntKind.i64.wrap ((t120.1.length : Int) - 2))).f0 ≠ 10) = false := decide_eq_false c234
                simp +decide only [Nat.reduceAdd, Nat.reduceMul, Int.reduceToNat, ak, e236]
                by_cases c237 : (rd z66 t120.1 (IntKind.i64.wrap ((t120.1.length : Int) - 1))).f4 ≠ 1
                · rw [if_pos c237] at h
                  have e238 : decide ((rd z66 t120.1 (IntKind.i64.wrap ((t120.1.length : Int) - 1))).f4 ≠ 1) = true := decide_eq_true c237
                  simp +decide only [Nat.reduceAdd, Nat.reduceMul, Int.reduceToNat, ak, e238]
                  obtain rfl := Option.some.inj h
                  refine G230n _ _ (wk [9, 28, 267] [pI (.arg 0) .fz, pI (.tmp 28 0) .box, pI (.tmp 122 0) .lst] (h0 := by first | rfl | simp +decide only [ak, akF, b23, b106, b115, b224, b231, e236, e238]) (h := by first | rfl | (simp +decide only [ak, akF, b23, b106, b115, b224, b231, e236, e238]; done) | (simp +decide [ak, akF, b23, b106, b115, b224, b231, e236, e238] <;> omega))) (hJ229 _ rfl)
                · rw [if_neg c237] at h
                  have e239 : decide ((rd z66 t120.1 (IntKind.i64.wrap ((t120.1.length : Int) - 1))).f4 ≠ 1) = false := decide_eq_false c237
                  simp +decide only [Nat.reduceAdd, Nat.reduceMul, Int.reduceToNat, ak, e239]
                  by_cases c240 : (((rd z66 t120.1 (IntKind.i64.wrap ((t120.1.length : Int) - 1))).f2).length : Int) ≠ 1
                  · rw [if_pos c240] at h
                    have e241 : decide ((((rd z66 t120.1 (IntKind.i64.wrap ((t120.1.length : Int) - 1))).f2).length : Int) ≠ 1) = true := decide_eq_true c240
                    simp +decide only [Nat.reduceAdd, Nat.reduceMul, Int.reduceToNat, ak, e241]
                    obtain rfl := Option.some.inj h
                    refine G230n _ _ (wk [9, 28, 267] [pI (.arg 0) .fz, pI (.tmp 28 0) .box, pI (.tmp 122 0) .lst] (h0 := by first | rfl | simp +decide only [ak, akF, b23, b106, b115, b224, b231, e236, e239, e241]) (h := by first | rfl | (simp +decide only [ak, akF, b23, b106, b115, b224, b231, e236, e239, e241]; done) | (simp +decide [ak, akF, b23, b106, b115, b224, b231, e236, e239, e241] <;> omega))) (hJ229 _ rfl)
                  · rw [if_neg c240] at h
                    have e242 : decide ((((rd z66 t120.1 (IntKind.i64.wrap ((t120.1.length : Int) - 1))).f2).length : Int) ≠ 1) = false := decide_eq_false c240
                    obtain ⟨b243, h⟩ := of_guard h
                    have g244 : (encL c66 t120.1)[0 + (IntKind.i64.wrap ((t120.1.length : Int) - 1)).toNat * 5 + 1 + 1]? = some (.own 1 (((rd z66 t120.1 (IntKind.i64.wrap ((t120.1.length : Int) - 1))).f2).length) (encL c_i64 ((rd z66 t120.1 (IntKind.i64.wrap ((t120.1.length : Int) - 1))).f2))) := (Vw.whole c66_w t120.1).get z66 2 b224.1 b224.2 (by decide)
                    have g245 : (encL c_i64 ((rd z66 t120.1 (IntKind.i64.wrap ((t120.1.length : Int) - 1))).f2))[0]? = some (.sc (.int .i64 (rd 0 ((rd z66 t120.1 (IntKind.i64.wrap ((t120.1.length : Int) - 1))).f2) 0))) := (by have := (Vw.whole c_i64_w ((rd z66 t120.1 (IntKind.i64.wrap ((t120.1.length : Int) - 1))).f2)).get 0 0 b243.1 b243.2 (by decide); first | exact this | simpa using this)
                    simp +decide only [Nat.reduceAdd, Nat.reduceMul, Int.reduceToNat, ak, e242, b243, b224, g244, g245]
                    by_cases c246 : (rd 0 ((rd z66 t120.1 (IntKind.i64.wrap ((t120.1.length : Int) - 1))).f2) 0) ≠ 0
                    · rw [if_pos c246] at h
                      have e247 : decide ((rd 0 ((rd z66 t120.1 (IntKind.i64.wrap ((t120.1.length : Int) - 1))).f2) 0) ≠ 0) = true := decide_eq_true c246
                      simp +decide only [Nat.reduceAdd, Nat.reduceMul, Int.reduceToNat, ak, e247]
                      obtain rfl := Option.some.inj h
                      refine G230n _ _ (wk [9, 28, 267] [pI (.arg 0) .fz, pI (.tmp 28 0) .box, pI (.tmp 122 0) .lst] (h0 := by first | rfl | simp +decide only [ak, akF, b23, b106, b115, b224, b231, b243, e236, e239, e242, e247]) (h := by first | rfl | (simp +decide only [ak, akF, b23, b106, b115, b224, b231, b243, e236, e239, e242, e247]; done) | (simp +decide [ak, akF, b23, b106, b115, b224, b231, b243, e236, e239, e242, e247] <;> omega))) (hJ229 _ rfl)
                    · rw [if_neg c246] at h
                      have e248 : decide ((rd 0 ((rd z66 t120.1 (IntKind.i64.wrap ((t120.1.length : Int) - 1))).f2) 0) ≠ 0) = false := decide_eq_false c246
                      simp +decide only [Nat.reduceAdd, Nat.reduceMul, Int.reduceToNat, ak, e248]
                      obtain rfl := Option.some.inj h
                      refine G230n _ _ (wk [9, 28, 267] [pI (.arg 0) .fz, pI (.tmp 28 0) .box, pI (.tmp 122 0) .lst] (h0 := by first | rfl | simp +decide only [ak, akF, b23, b106, b115, b224, b231, b243, e236, e239, e242, e248]) (h := by first | rfl | (simp +decide only [ak, akF, b23, b106, b115, b224, b231, b243, e236, e239, e242, e248]; done) | (simp +decide [ak, akF, b23, b106, b115, b224, b231, b243, e236, e239, e242, e248] <;> omega))) (hJ229 _ rfl)
            · replace h := hn; clear hn h228
              rintro _ rfl
              refine cond_k (b := j227) rfl (fun c249 => ?_) (fun c249 => ?_)
              · rw [if_pos c249] at h
                refine sr_k fun J250 hJ250 => ?_
                simp +decide only [Nat.reduceAdd, Nat.reduceMul, Int.reduceToNat, ak]
                refine hJ250 _ ?_
                obtain rfl := Option.some.inj h
                refine hKr _ ⟨_, rfl, [], _, rfl, rfl, ?_⟩
                first | rfl | (simp only [reduceCtorEq, Nat.reduceEqDiff, ak, akF, b23, b106, b115, b224]; done) | (simp [reduceCtorEq, Nat.reduceEqDiff, ak, akF, b23, b106, b115, b224] <;> omega)
              · rw [if_neg (Bool.eq_false_iff.1 c249)] at h
                refine hJ226 _ ?_
                refine seq_k fun J251 hJ251 => ?_
                refine sr_k fun J252 hJ252 => ?_
                simp +decide only [Nat.reduceAdd, Nat.reduceMul, Int.reduceToNat, ak]
                refine hJ252 _ ?_
                refine block_k fun B253 B253n B253x B253r B253j => ?_
                obtain ⟨y275, h276, h⟩ := of_bind h
                refine gh_k (wk [9, 28, 29] [pI (.arg 0) .fz, pI (.tmp 28 0) .box, pI (.tmp 122 0) .lst]) ?_
                rw [e_loop]
                have g254 : (encL c66 t120.1)[0 + (IntKind.i64.wrap ((t120.1.length : Int) - 1)).toNat * 5 + 1]? = some (.own 3 (((rd z66 t120.1 (IntKind.i64.wrap ((t120.1.length : Int) - 1))).f1).length) (encL c68 ((rd z66 t120.1 (IntKind.i64.wrap ((t120.1.length : Int) - 1))).f1))) := (Vw.whole c66_w t120.1).get z66 1 b224.1 b224.2 (by decide)
                have g255 : (encL c66 t120.1)[0 + (IntKind.i64.wrap ((t120.1.length : Int) - 1)).toNat * 5 + 1 + 1]? = some (.own 1 (((rd z66 t120.1 (IntKind.i64.wrap ((t120.1.length : Int) - 1))).f2).length) (encL c_i64 ((rd z66 t120.1 (IntKind.i64.wrap ((t120.1.length : Int) - 1))).f2))) := (Vw.whole c66_w t120.1).get z66 2 b224.1 b224.2 (by decide)
                refine laws_FnDeath.l5_walk cs0 o0 l0 hv0 (IntKind.i64.wrap (1 + ((l0.length : Int).tmod t7.2.1))) ((rd z66 t120.1 (IntKind.i64.wrap ((t120.1.length : Int) - 1))).f0) (0 + (IntKind.i64.wrap ((t120.1.length : Int) - 1)).toNat * 5 + 1) ((rd z66 t120.1 (IntKind.i64.wrap ((t120.1.length : Int) - 1))).f1) (0 + (IntKind.i64.wrap ((t120.1.length : Int) - 1)).toNat * 5 + 1 + 1) ((rd z66 t120.1 (IntKind.i64.wrap ((t120.1.length : Int) - 1))).f2) ((rd z66 t120.1 (IntKind.i64.wrap ((t120.1.length : Int) - 1))).f3) ((rd z66 t120.1 (IntKind.i64.wrap ((t120.1.length : Int) - 1))).f4) t120.1 0 g254 g255 _ h276 _ ?_ ?_
                · rintro x277 rfl
                  dsimp only at h
                  refine B253x _ ?_
                  refine hJ251 _ ?_
                  refine sr_k fun J278 hJ278 => ?_
                  simp +decide only [Nat.reduceAdd, Nat.reduceMul, Int.reduceToNat, ak]
                  refine hJ278 _ ?_
                  obtain rfl := Option.some.inj h
                  refine hKr _ ⟨_, rfl, [], _, rfl, rfl, ?_⟩
                  first | rfl | (simp only [reduceCtorEq, Nat.reduceEqDiff, ak, akF, b23, b106, b115, b224]; done) | (simp [reduceCtorEq, Nat.reduceEqDiff, ak, akF, b23, b106, b115, b224] <;> omega)
                · rintro x277 rfl
                  dsimp only at h
                  refine B253r _ ?_
                  obtain rfl := Option.some.inj h
                  refine hKr _ ⟨_, rfl, [], _, rfl, rfl, ?_⟩
                  first | rfl | (simp only [reduceCtorEq, Nat.reduceEqDiff, ak, akF, b23, b106, b115, b224]; done) | (simp [reduceCtorEq, Nat.reduceEqDiff, ak, akF, b23, b106, b115, b224] <;> omega)
          · rintro x222 rfl
            dsimp only at h
            refine B136r _ ?_
            obtain rfl := Option.some.inj h
            refine hKr _ ⟨_, rfl, [], _, rfl, rfl, ?_⟩
            first | rfl | (simp only [reduceCtorEq, Nat.reduceEqDiff, ak, akF, b23, b106, b115, b224]; done) | (simp [reduceCtorEq, Nat.reduceEqDiff, ak, akF, b23, b106, b115, b224] <;> omega)
end Go.AK
