-- by a program of this session (wip/ak/pw.py)
import Derived.Test.YtlladicdmmdboaaUReorderRun0
set_option linter.unusedVariables false
set_option linter.unusedSimpArgs false
namespace Go.AK
open Go Go.Proofs
/-! ### spec.l5Run: function 100 -/
def c100_l0 : AC := .seq (.seq (.reg [.op none (.mv 31 (.tmp 11)), .op none (.mv 32 (.tmp 2)), .op none (.len 33 (.tmp 32)), .op none (.bin 34 .lss (.tmp 31) (.tmp 33)), .keep [2, 6, 9, 10, 11, 34]]) (.cond (.tmp 34) (.skip) (.gh (.exit 0)))) (.seq (.block 1 (.reg [.op none (.mv 37 (.tmp 10)), .op none (.mv 38 (.tmp 2)), .op none (.mv 39 (.tmp 11)), .op none (.iaddr 40 4 (.tmp 38) (.tmp 39)), .op none (.load 41 true 4 (.tmp 40)), .call none (some 42) 137 [.tmp 9, .tmp 41], .op none (.bslice 43 3 [.int .i64 0, .int .i64 0, .slice none 0 0] 1 [(0, .tmp 42)]), .gh, .op none (.app 44 3 40 true (.tmp 37) (.tmp 43)), .op none (.mv 10 (.tmp 44)), .keep [2, 6, 9, 10, 11]])) (.reg [.op none (.mv 35 (.tmp 11)), .op none (.bin 36 .add (.tmp 35) (.const (.int .i64 1))), .op none (.mv 11 (.tmp 36)), .keep [2, 6, 9, 10, 11]]))
def c100 : AC := .seq (.reg [.op none (.alloc 6 [.int .u64 0, .int .i64 0, .slice none 0 0, .int .i64 0, .int .u64 0, .bool false]), .gh, .op none (.mv 7 (.const (.slice none 0 0))), .gh, .op none (.mv 8 (.const (.int .i64 0))), .keep [0, 1, 2, 6]]) (.seq (.seq (.ga (.reg [.op none (.mv 12 (.tmp 0)), .op none (.bin 13 .gtr (.tmp 12) (.const (.int .u64 4611686018427387904))), .op none (.mv 14 (.tmp 13)), .op (some (14, false)) (.mv 15 (.tmp 1)), .op (some (14, false)) (.bin 16 .lss (.tmp 15) (.const (.int .i64 1))), .op none (.pick 17 (.tmp 14) (.const (.bool true)) (.tmp 16)), .op none (.mv 18 (.tmp 17)), .op (some (18, false)) (.mv 19 (.tmp 1)), .op (some (18, false)) (.bin 20 .gtr (.tmp 19) (.const (.int .i64 4096))), .op none (.pick 21 (.tmp 18) (.const (.bool true)) (.tmp 20)), .keep [0, 1, 2, 6, 21]])) (.cond (.tmp 21) (.seq (.reg [.op none (.build 22 [.int .u64 0, .int .i64 0, .slice none 0 0, .int .i64 0, .int .u64 0, .bool false] []), .gh, .op none (.store 6 (.tmp 6) (.tmp 22)), .op none (.mv 7 (.const (.slice none 0 0))), .gh, .op none (.mv 8 (.const (.int .i64 17))), .keep [6, 7, 8]]) (.ret)) (.skip))) (.seq (.seq (.reg [.op none (.mv 23 (.tmp 2)), .op none (.len 24 (.tmp 23)), .op none (.bin 25 .gtr (.tmp 24) (.const (.int .i64 4000))), .keep [0, 1, 2, 6, 25]]) (.cond (.tmp 25) (.seq (.reg [.op none (.build 26 [.int .u64 0, .int .i64 0, .slice none 0 0, .int .i64 0, .int .u64 0, .bool false] []), .gh, .op none (.store 6 (.tmp 6) (.tmp 26)), .op none (.mv 7 (.const (.slice none 0 0))), .gh, .op none (.mv 8 (.const (.int .i64 5))), .keep [6, 7, 8]]) (.ret)) (.skip))) (.seq (.reg [.op none (.mv 27 (.tmp 0)), .op none (.mv 28 (.tmp 1)), .call none (some 29) 136 [.tmp 27, .tmp 28], .op none (.alloc 9 [.int .u64 0, .int .i64 0, .slice none 0 0, .int .i64 0, .int .u64 0, .bool false]), .gh, .op none (.store 6 (.tmp 9) (.tmp 29)), .keep [2, 6, 9]]) (.seq (.reg [.op none (.bslice 30 3 [.int .i64 0, .int .i64 0, .slice none 0 0] 0 []), .gh, .op none (.mv 10 (.tmp 30)), .keep [2, 6, 9, 10]]) (.seq (.seq (.reg [.op none (.mv 11 (.const (.int .i64 0))), .keep [2, 6, 9, 10, 11]]) (.block 0 (.gh (.loop (.ga c100_l0))))) (.seq (.reg [.op none (.load 45 true 6 (.tmp 9)), .op none (.mv 46 (.tmp 10)), .op none (.store 6 (.tmp 6) (.tmp 45)), .op none (.mv 7 (.tmp 46)), .op none (.mv 8 (.const (.int .i64 0))), .keep [6, 7, 8]]) (.ret)))))))
def r100 : List RV := [.cell 6 true 6, .tmp 7, .tmp 8]
theorem k100 : compC Try.prog 47 (Try.f100.body.getD .skip) = some c100.erase := by kernel_rfl
theorem q100 : rvsOf Try.prog Try.f100.results.toList = some r100 := by kernel_rfl
def spec_l5Run.l0 (l2 : List S116) (x0_1 : Int) (x0_2 : Int) (x0_3 : (List Int)) (x0_4 : Int) (x0_5 : Int) (x0_6 : Bool) (x0_7 : Int) (x0_8 : Int) (x0_0 : Int) (x0_9 : (List Int)) (x0_10 : Int) (x0_11 : Int) (x0_12 : Bool) (x0_13 : (List S118)) : Option ((List Int) × Int × Int × Bool × (List S118)) := (if x0_0 < (l2.length : Int) then (if 0 ≤ x0_0 ∧ x0_0 < (l2.length : Int) then (spec_l5Step.f x0_7 x0_8 x0_9 x0_10 x0_11 x0_12 ((rd z116 l2 x0_0).f0) ((rd z116 l2 x0_0).f1) ((rd z116 l2 x0_0).f2) ((rd z116 l2 x0_0).f3) >>= fun t41 => (if (x0_13.length + 1) * 40 ≤ 140737488355328 then (spec_l5Run.l0 l2 x0_1 x0_2 x0_3 x0_4 x0_5 x0_6 x0_7 x0_8 (IntKind.i64.wrap (x0_0 + 1)) t41.2.2.2.1 t41.2.2.2.2.1 t41.2.2.2.2.2.1 t41.2.2.2.2.2.2 (x0_13 ++ ([(⟨t41.1, t41.2.1, t41.2.2.1⟩ : S118)] : List S118))) else none)) else none) else (some (x0_9, x0_10, x0_11, x0_12, x0_13)))
  partial_fixpoint
def spec_l5Run.f (a0 : Int) (a1 : Int) (l2 : List S116) : Option (Int × Int × (List Int) × Int × Int × Bool × (List S118) × Int) := ((if a0 > 4611686018427387904 then (some true) else (if a1 < 1 then (some true) else (some (decide (a1 > 4096))))) >>= fun (j3 : Bool) => (if j3 = true then (some (0, 0, ([] : List Int), 0, 0, false, ([] : List S118), 17)) else (if (l2.length : Int) > 4000 then (some (0, 0, ([] : List Int), 0, 0, false, ([] : List S118), 5)) else (spec_l5Begin.f a0 a1 >>= fun t22 => (spec_l5Run.l0 l2 0 0 ([] : List Int) 0 0 false t22.1 t22.2.1 0 t22.2.2.1 t22.2.2.2.1 t22.2.2.2.2.1 t22.2.2.2.2.2 ([] : List S118) >>= fun (y54 : ((List Int) × Int × Int × Bool × (List S118))) => (some (t22.1, t22.2.1, y54.1, y54.2.1, y54.2.2.1, y54.2.2.2.1, y54.2.2.2.2, 0)))))))
set_option maxRecDepth 100000 in
set_option maxHeartbeats 4000000 in
theorem spec_l5Run.l0_walk (cs0 : List Cell) (o0 : Nat) (l2 : List S116) (hv0 : Vw c116 4 cs0 o0 l2) (x0_1 : Int) (x0_2 : Int) (x0_3 : (List Int)) (x0_4 : Int) (x0_5 : Int) (x0_6 : Bool) (x0_7 : Int) (x0_8 : Int) (x0_0 : Int) (x0_9 : (List Int)) (x0_10 : Int) (x0_11 : Int) (x0_12 : Bool) (x0_13 : (List S118)) (y : ((List Int) × Int × Int × Bool × (List S118))) (h : spec_l5Run.l0 l2 x0_1 x0_2 x0_3 x0_4 x0_5 x0_6 x0_7 x0_8 x0_0 x0_9 x0_10 x0_11 x0_12 x0_13 = some y) (K : AE → St → Prop) (hx0 : K (.exit 0) ⟨[(6, .c (.ptr (.tmp 6 0) [] 0)), (9, .c (.ptr (.tmp 9 0) [] 0)), (10, .c (.ref (.tmp 30 0) [] 0 y.2.2.2.2.length))], [(.arg 0, ⟨.fz, 4, cs0⟩), (.tmp 6 0, ⟨.box, 0, [.sc (.int .u64 x0_1), .sc (.int .i64 x0_2), .own 1 x0_3.length (encL c_i64 x0_3), .sc (.int .i64 x0_4), .sc (.int .u64 x0_5), .sc (.bool x0_6)]⟩), (.tmp 9 0, ⟨.box, 0, [.sc (.int .u64 x0_7), .sc (.int .i64 x0_8), .own 1 y.1.length (encL c_i64 y.1), .sc (.int .i64 y.2.1), .sc (.int .u64 y.2.2.1), .sc (.bool y.2.2.2.1)]⟩), (.tmp 30 0, ⟨.lst, 3, encL c118 y.2.2.2.2⟩)], [], []⟩) : loopS Try.prog 47 (.ga c100_l0) K ⟨[(2, .c (.ref (.arg 0) [] o0 l2.length)), (6, .c (.ptr (.tmp 6 0) [] 0)), (9, .c (.ptr (.tmp 9 0) [] 0)), (10, .c (.ref (.tmp 30 0) [] 0 x0_13.length)), (11, .c (.sc (.int .i64 x0_0)))], [(.arg 0, ⟨.fz, 4, cs0⟩), (.tmp 6 0, ⟨.box, 0, [.sc (.int .u64 x0_1), .sc (.int .i64 x0_2), .own 1 x0_3.length (encL c_i64 x0_3), .sc (.int .i64 x0_4), .sc (.int .u64 x0_5), .sc (.bool x0_6)]⟩), (.tmp 9 0, ⟨.box, 0, [.sc (.int .u64 x0_7), .sc (.int .i64 x0_8), .own 1 x0_9.length (encL c_i64 x0_9), .sc (.int .i64 x0_10), .sc (.int .u64 x0_11), .sc (.bool x0_12)]⟩), (.tmp 30 0, ⟨.lst, 3, encL c118 x0_13⟩)], [], []⟩ := by
  refine spec_l5Run.l0.partial_correctness l2 x0_1 x0_2 x0_3 x0_4 x0_5 x0_6 x0_7 x0_8 (motive := fun x0_0 x0_9 x0_10 x0_11 x0_12 x0_13 y => ∀ (K : AE → St → Prop), (K (.exit 0) ⟨[(6, .c (.ptr (.tmp 6 0) [] 0)), (9, .c (.ptr (.tmp 9 0) [] 0)), (10, .c (.ref (.tmp 30 0) [] 0 y.2.2.2.2.length))], [(.arg 0, ⟨.fz, 4, cs0⟩), (.tmp 6 0, ⟨.box, 0, [.sc (.int .u64 x0_1), .sc (.int .i64 x0_2), .own 1 x0_3.length (encL c_i64 x0_3), .sc (.int .i64 x0_4), .sc (.int .u64 x0_5), .sc (.bool x0_6)]⟩), (.tmp 9 0, ⟨.box, 0, [.sc (.int .u64 x0_7), .sc (.int .i64 x0_8), .own 1 y.1.length (encL c_i64 y.1), .sc (.int .i64 y.2.1), .sc (.int .u64 y.2.2.1), .sc (.bool y.2.2.2.1)]⟩), (.tmp 30 0, ⟨.lst, 3, encL c118 y.2.2.2.2⟩)], [], []⟩) → loopS Try.prog 47 (.ga c100_l0) K ⟨[(2, .c (.ref (.arg 0) [] o0 l2.length)), (6, .c (.ptr (.tmp 6 0) [] 0)), (9, .c (.ptr (.tmp 9 0) [] 0)), (10, .c (.ref (.tmp 30 0) [] 0 x0_13.length)), (11, .c (.sc (.int .i64 x0_0)))], [(.arg 0, ⟨.fz, 4, cs0⟩), (.tmp 6 0, ⟨.box, 0, [.sc (.int .u64 x0_1), .sc (.int .i64 x0_2), .own 1 x0_3.length (encL c_i64 x0_3), .sc (.int .i64 x0_4), .sc (.int .u64 x0_5), .sc (.bool x0_6)]⟩), (.tmp 9 0, ⟨.box, 0, [.sc (.int .u64 x0_7), .sc (.int .i64 x0_8), .own 1 x0_9.length (encL c_i64 x0_9), .sc (.int .i64 x0_10), .sc (.int .u64 x0_11), .sc (.bool x0_12)]⟩), (.tmp 30 0, ⟨.lst, 3, encL c118 x0_13⟩)], [], []⟩) ?_ x0_0 x0_9 x0_10 x0_11 x0_12 x0_13 y h K hx0
  clear h hx0
  intro rec ih x0_0 x0_9 x0_10 x0_11 x0_12 x0_13 y h K hx0
  refine loop_unroll (ga_k fun G0 G0n G0r G0x => ?_)
  unfold c100_l0
  refine seq_k fun J33 hJ33 => ?_
  refine seq_k fun J34 hJ34 => ?_
  refine reg_k ?_
  simp only [Nat.reduceEqDiff, Nat.reduceAdd, Nat.reduceMul, Nat.reduceLeDiff, Nat.reduceLT, Int.reduceLE, Int.reduceLT, Int.reduceGT, Int.reduceGE, Int.reduceEq, Int.reduceNe, Int.reduceToNat, reduceCtorEq, ak]
  refine hJ34 _ ?_
  refine cond_k (b := decide (x0_0 < (l2.length : Int))) rfl (fun c35 => ?_) (fun c35 => ?_)
  · replace c35 := of_decide_eq_true c35; rw [if_pos c35] at h
    refine hJ33 _ ?_
    refine seq_k fun J36 hJ36 => ?_
    refine block_k fun B37 B37n B37x B37r B37j => ?_
    refine reg_k ?_
    obtain ⟨b38, h⟩ := of_guard h
    have g39 : (List.drop (o0 + x0_0.toNat * 4) (cs0)).take 4 = [.sc (.int .i64 ((rd z116 l2 x0_0).f0)), .sc (.int .u64 ((rd z116 l2 x0_0).f1)), .own 1 (((rd z116 l2 x0_0).f2).length) (encL c_u8 ((rd z116 l2 x0_0).f2)), .sc (.int .i64 ((rd z116 l2 x0_0).f3))] := hv0.stretch z116 b38.1 b38.2
    simp only [Nat.reduceEqDiff, Nat.reduceAdd, Nat.reduceMul, Nat.reduceLeDiff, Nat.reduceLT, Int.reduceLE, Int.reduceLT, Int.reduceGT, Int.reduceGE, Int.reduceEq, Int.reduceNe, Int.reduceToNat, reduceCtorEq, ak, b38, g39]
    have g40 : (cs0)[o0 + x0_0.toNat * 4 + 1 + 1]? = some (.own 1 (((rd z116 l2 x0_0).f2).length) (encL c_u8 ((rd z116 l2 x0_0).f2))) := hv0.get z116 2 b38.1 b38.2 (by decide)
    obtain ⟨t41, h42, h⟩ := of_bind h
    refine call_m [(.arg 0, ⟨(.tmp 9 0), [], none, .box⟩), (.arg 1, ⟨(.arg 0), [o0 + x0_0.toNat * 4 + 1 + 1], none, .fz⟩)] (s0 := [(.arg 0, ⟨.box, 0, [.sc (.int .u64 x0_7), .sc (.int .i64 x0_8), .own 1 x0_9.length (encL c_i64 x0_9), .sc (.int .i64 x0_10), .sc (.int .u64 x0_11), .sc (.bool x0_12)]⟩), (.arg 1, ⟨.fz, 1, encL c_u8 ((rd z116 l2 x0_0).f2)⟩)]) (by intro t ht; cases ht; decide) rfl rfl (by first | rfl | simp only [reduceCtorEq, Nat.reduceEqDiff, ak, akF, b38, g39, g40]) (spec_l5Step.tri (encL c_u8 ((rd z116 l2 x0_0).f2)) 0 ((rd z116 l2 x0_0).f2) (Vw.whole c_u8_w ((rd z116 l2 x0_0).f2)) x0_7 x0_8 x0_9 x0_10 x0_11 x0_12 ((rd z116 l2 x0_0).f0) ((rd z116 l2 x0_0).f1) ((rd z116 l2 x0_0).f3) _ h42) (by first | rfl | simp only [reduceCtorEq, Nat.reduceEqDiff, ak, akF]) (by simp [bkOk2, memK]) (fun hl42 => ?_)
    refine call_st (s2 := [(.arg 0, ⟨.fz, 4, cs0⟩), (.tmp 6 0, ⟨.box, 0, [.sc (.int .u64 x0_1), .sc (.int .i64 x0_2), .own 1 x0_3.length (encL c_i64 x0_3), .sc (.int .i64 x0_4), .sc (.int .u64 x0_5), .sc (.bool x0_6)]⟩), (.tmp 9 0, ⟨.box, 0, [.sc (.int .u64 x0_7), .sc (.int .i64 x0_8), .own 1 x0_9.length (encL c_i64 x0_9), .sc (.int .i64 x0_10), .sc (.int .u64 x0_11), .sc (.bool x0_12)]⟩), (.tmp 30 0, ⟨.lst, 3, encL c118 x0_13⟩)]) (s4 := [(.arg 0, ⟨.fz, 4, cs0⟩), (.tmp 6 0, ⟨.box, 0, [.sc (.int .u64 x0_1), .sc (.int .i64 x0_2), .own 1 x0_3.length (encL c_i64 x0_3), .sc (.int .i64 x0_4), .sc (.int .u64 x0_5), .sc (.bool x0_6)]⟩), (.tmp 9 0, ⟨.box, 0, [.sc (.int .u64 x0_7), .sc (.int .i64 x0_8), .own 1 t41.2.2.2.1.length (encL c_i64 t41.2.2.2.1), .sc (.int .i64 t41.2.2.2.2.1), .sc (.int .u64 t41.2.2.2.2.2.1), .sc (.bool t41.2.2.2.2.2.2)]⟩), (.tmp 30 0, ⟨.lst, 3, encL c118 x0_13⟩), (.tmp 42 0, ⟨.lst, 1, encL c_u8 t41.2.2.1⟩)]) (t' := [(2, .c (.ref (.arg 0) [] o0 l2.length)), (6, .c (.ptr (.tmp 6 0) [] 0)), (9, .c (.ptr (.tmp 9 0) [] 0)), (10, .c (.ref (.tmp 30 0) [] 0 x0_13.length)), (11, .c (.sc (.int .i64 x0_0))), (34, .c (.sc (.bool (decide (x0_0 < (l2.length : Int)))))), (37, .c (.ref (.tmp 30 0) [] 0 x0_13.length)), (38, .c (.ref (.arg 0) [] o0 l2.length)), (39, .c (.sc (.int .i64 x0_0))), (40, .c (.ptr (.arg 0) [] (o0 + x0_0.toNat * 4))), (41, .g [.sc (.int .i64 ((rd z116 l2 x0_0).f0)), .sc (.int .u64 ((rd z116 l2 x0_0).f1)), .ref (.arg 0) [o0 + x0_0.toNat * 4 + 1 + 1] 0 (((rd z116 l2 x0_0).f2).length), .sc (.int .i64 ((rd z116 l2 x0_0).f3))])]) (m1' := []) (m2' := []) (v' := .g [.sc (.int .i64 t41.1), .sc (.int .i64 t41.2.1), .ref (.tmp 42 0) [] 0 t41.2.2.1.length]) (by first | rfl | simp only [reduceCtorEq, Nat.reduceEqDiff, ak, akF, List.contains_nil, List.contains_cons, Nat.reduceBEq, b38]) (mrgL_whole (new' := [.sc (.int .u64 x0_7), .sc (.int .i64 x0_8), .own 1 t41.2.2.2.1.length (encL c_i64 t41.2.2.2.1), .sc (.int .i64 t41.2.2.2.2.1), .sc (.int .u64 t41.2.2.2.2.2.1), .sc (.bool t41.2.2.2.2.2.2)]) (mrgL_fz (mrgL_nil' _ _ _) rfl (by first | rfl | simp only [reduceCtorEq, Nat.reduceEqDiff, ak, b38, g39, g40]) rfl (by intro R hR hh; cases hh.1)) rfl (by rfl) (.inl ⟨rfl, by first | rfl | simp only [reduceCtorEq, Nat.reduceEqDiff, ak, akF, Nat.zero_add, List.append_nil, b38]⟩)) (by rfl) (by first | rfl | simp only [reduceCtorEq, Nat.reduceEqDiff, ak, akF, List.contains_nil, List.contains_cons, Nat.reduceBEq, b38]) (by rfl) (by rfl) (by first | rfl | simp only [reduceCtorEq, Nat.reduceEqDiff, ak, akF, Nat.zero_add, List.append_nil, b38]) ?_
    have g44 : (List.replicate 1 ([.int .i64 0, .int .i64 0, .slice none 0 0] : List Value)).flatten = [.int .i64 0, .int .i64 0, .slice none 0 0] := rfl
    have g45 : (encL c_u8 t41.2.2.1).length = t41.2.2.1.length * 1 := by simp [encL_length c_u8_w]
    have g46 : (⟨.lst, 3, [.sc (.int .i64 t41.1), .sc (.int .i64 t41.2.1), .own 1 t41.2.2.1.length (encL c_u8 t41.2.2.1)]⟩ : Root) = ⟨.lst, 3, encL c118 ([(⟨t41.1, t41.2.1, t41.2.2.1⟩ : S118)] : List S118)⟩ := rfl
    have g47 : ([(⟨t41.1, t41.2.1, t41.2.2.1⟩ : S118)] : List S118).length = 1 := rfl
    simp only [Nat.reduceEqDiff, Nat.reduceAdd, Nat.reduceMul, Nat.reduceLeDiff, Nat.reduceLT, Int.reduceLE, Int.reduceLT, Int.reduceGT, Int.reduceGE, Int.reduceEq, Int.reduceNe, Int.reduceToNat, reduceCtorEq, ak, b38, g40, g44, g45, g46, g47]
    refine gho_k (Weak.refl _ _) ?_
    have g48 : (encL c118 ([(⟨t41.1, t41.2.1, t41.2.2.1⟩ : S118)] : List S118)).length = 1 * 3 := by simp [encL_length c118_w]
    have g49 : (encL c118 ([(⟨t41.1, t41.2.1, t41.2.2.1⟩ : S118)] : List S118)).all nd = true := rfl
    obtain ⟨b50, h⟩ := of_guard h
    have g51 : appLim x0_13.length 1 40 := ⟨b50, by have := b50; omega⟩
    have g52 : (encL c118 x0_13).length = x0_13.length * 3 := by simp [encL_length c118_w]
    have g53 : encL c118 x0_13 ++ encL c118 ([(⟨t41.1, t41.2.1, t41.2.2.1⟩ : S118)] : List S118) = encL c118 (x0_13 ++ ([(⟨t41.1, t41.2.1, t41.2.2.1⟩ : S118)] : List S118)) := (encL_append _ _).symm
    simp only [Nat.reduceEqDiff, Nat.reduceAdd, Nat.reduceMul, Nat.reduceLeDiff, Nat.reduceLT, Int.reduceLE, Int.reduceLT, Int.reduceGT, Int.reduceGE, Int.reduceEq, Int.reduceNe, Int.reduceToNat, reduceCtorEq, ak, g48, g49, g51, g52, g53]
    refine B37n _ ?_
    refine hJ36 _ ?_
    refine reg_k ?_
    simp only [Nat.reduceEqDiff, Nat.reduceAdd, Nat.reduceMul, Nat.reduceLeDiff, Nat.reduceLT, Int.reduceLE, Int.reduceLT, Int.reduceGT, Int.reduceGE, Int.reduceEq, Int.reduceNe, Int.reduceToNat, reduceCtorEq, ak]
    refine G0n _ (⟨[(2, .c (.ref (.arg 0) [] o0 l2.length)), (6, .c (.ptr (.tmp 6 0) [] 0)), (9, .c (.ptr (.tmp 9 0) [] 0)), (10, .c (.ref (.tmp 30 0) [] 0 ((x0_13 ++ ([(⟨t41.1, t41.2.1, t41.2.2.1⟩ : S118)] : List S118)).length))), (11, .c (.sc (.int .i64 (IntKind.i64.wrap (x0_0 + 1)))))], [(.arg 0, ⟨.fz, 4, cs0⟩), (.tmp 6 0, ⟨.box, 0, [.sc (.int .u64 x0_1), .sc (.int .i64 x0_2), .own 1 x0_3.length (encL c_i64 x0_3), .sc (.int .i64 x0_4), .sc (.int .u64 x0_5), .sc (.bool x0_6)]⟩), (.tmp 9 0, ⟨.box, 0, [.sc (.int .u64 x0_7), .sc (.int .i64 x0_8), .own 1 t41.2.2.2.1.length (encL c_i64 t41.2.2.2.1), .sc (.int .i64 t41.2.2.2.2.1), .sc (.int .u64 t41.2.2.2.2.2.1), .sc (.bool t41.2.2.2.2.2.2)]⟩), (.tmp 30 0, ⟨.lst, 3, encL c118 (x0_13 ++ ([(⟨t41.1, t41.2.1, t41.2.2.1⟩ : S118)] : List S118))⟩)], [], []⟩) (((Weak.keep [2, 6, 9, 10, 11]).trans ((Weak.foc [(.arg 0, ⟨(.arg 0), [], none, .fz⟩), (.tmp 6 0, ⟨(.tmp 6 0), [], none, .box⟩), (.tmp 9 0, ⟨(.tmp 9 0), [], none, .box⟩), (.tmp 30 0, ⟨(.tmp 30 0), [], none, .lst⟩)] rfl (by first | rfl | simp only [reduceCtorEq, Nat.reduceEqDiff, ak, akF, b38, b50]) (by simp [argK, akG, ak])).trans (Weak.of_eq (by first | rfl | (simp only [reduceCtorEq, Nat.reduceEqDiff, ak, akF, b38, b50]; done) | (simp [reduceCtorEq, Nat.reduceEqDiff, ak, akF, b38, b50]; done)))))) (ih _ _ _ _ _ _ _ h K hx0)
  · replace c35 := of_decide_eq_false c35; rw [if_neg c35] at h
    obtain rfl := Option.some.inj h
    refine gh_k (st' := ⟨[(6, .c (.ptr (.tmp 6 0) [] 0)), (9, .c (.ptr (.tmp 9 0) [] 0)), (10, .c (.ref (.tmp 30 0) [] 0 x0_13.length))], [(.arg 0, ⟨.fz, 4, cs0⟩), (.tmp 6 0, ⟨.box, 0, [.sc (.int .u64 x0_1), .sc (.int .i64 x0_2), .own 1 x0_3.length (encL c_i64 x0_3), .sc (.int .i64 x0_4), .sc (.int .u64 x0_5), .sc (.bool x0_6)]⟩), (.tmp 9 0, ⟨.box, 0, [.sc (.int .u64 x0_7), .sc (.int .i64 x0_8), .own 1 x0_9.length (encL c_i64 x0_9), .sc (.int .i64 x0_10), .sc (.int .u64 x0_11), .sc (.bool x0_12)]⟩), (.tmp 30 0, ⟨.lst, 3, encL c118 x0_13⟩)], [], []⟩) (((Weak.keep [6, 9, 10]).trans ((Weak.foc [(.arg 0, ⟨(.arg 0), [], none, .fz⟩), (.tmp 6 0, ⟨(.tmp 6 0), [], none, .box⟩), (.tmp 9 0, ⟨(.tmp 9 0), [], none, .box⟩), (.tmp 30 0, ⟨(.tmp 30 0), [], none, .lst⟩)] rfl (by first | rfl | simp only [reduceCtorEq, Nat.reduceEqDiff, ak, akF]) (by simp [argK, akG, ak])).trans (Weak.of_eq (by first | rfl | (simp only [reduceCtorEq, Nat.reduceEqDiff, ak, akF]; done) | (simp [reduceCtorEq, Nat.reduceEqDiff, ak, akF]; done)))))) ?_
    refine G0x _ _ ?_
    exact hx0
set_option maxRecDepth 100000 in
set_option maxHeartbeats 4000000 in
theorem spec_l5Run.tri (cs0 : List Cell) (o0 : Nat) (l2 : List S116) (hv0 : Vw c116 4 cs0 o0 l2) (a0 : Int) (a1 : Int) (r : Int × Int × (List Int) × Int × Int × Bool × (List S118) × Int) (h : spec_l5Run.f a0 a1 l2 = some r) : Tri Try.prog 100 [.c (.sc (.int .u64 a0)), .c (.sc (.int .i64 a1)), .c (.ref (.arg 0) [] o0 l2.length)] [(.arg 0, ⟨.fz, 4, cs0⟩)] (fun o => o = ⟨.tup [(true, [.sc (.int .u64 r.1), .sc (.int .i64 r.2.1), .ref (.res 0) [] 0 r.2.2.1.length, .sc (.int .i64 r.2.2.2.1), .sc (.int .u64 r.2.2.2.2.1), .sc (.bool r.2.2.2.2.2.1)]), (false, [.ref (.res 1) [] 0 r.2.2.2.2.2.2.1.length]), (false, [.sc (.int .i64 r.2.2.2.2.2.2.2)])], [(.arg 0, ⟨.fz, 4, cs0⟩), (.res 0, ⟨.lst, 1, encL c_i64 r.2.2.1⟩), (.res 1, ⟨.lst, 3, encL c118 r.2.2.2.2.2.2.1⟩)], [], []⟩) := by
  refine tri_of_body (ac := c100) (xs := r100) Try.func100 (show Try.f100.body = some (Try.f100.body.getD .skip) from rfl) k100 q100 (Nat.le_of_ble_eq_true rfl) ?_
  refine body_of fun K hKn hKr => ?_
  unfold spec_l5Run.f at h
  unfold c100
  simp only [initT, Nat.reduceAdd]
  refine seq_k fun J1 hJ1 => ?_
  refine reg_k ?_
  simp only [Nat.reduceEqDiff, Nat.reduceAdd, Nat.reduceMul, Nat.reduceLeDiff, Nat.reduceLT, Int.reduceLE, Int.reduceLT, Int.reduceGT, Int.reduceGE, Int.reduceEq, Int.reduceNe, Int.reduceToNat, reduceCtorEq, ak]
  refine gho_k (Weak.own (.tmp 6 0) (cs' := [.sc (.int .u64 0), .sc (.int .i64 0), .own 1 (([] : List Int).length) (encL c_i64 ([] : List Int)), .sc (.int .i64 0), .sc (.int .u64 0), .sc (.bool false)]) rfl ⟨.inl rfl, .inl rfl, .inr ⟨rfl, _, rfl⟩, .inl rfl, .inl rfl, .inl rfl, trivial⟩) ?_
  simp only [Nat.reduceEqDiff, Nat.reduceAdd, Nat.reduceMul, Nat.reduceLeDiff, Nat.reduceLT, Int.reduceLE, Int.reduceLT, Int.reduceGT, Int.reduceGE, Int.reduceEq, Int.reduceNe, Int.reduceToNat, reduceCtorEq, ak]
  refine gho_k (Weak.nm' 7 (.tmp 7 20) 3 (encL c118 ([] : List S118)) rfl rfl rfl) ?_
  simp only [Nat.reduceEqDiff, Nat.reduceAdd, Nat.reduceMul, Nat.reduceLeDiff, Nat.reduceLT, Int.reduceLE, Int.reduceLT, Int.reduceGT, Int.reduceGE, Int.reduceEq, Int.reduceNe, Int.reduceToNat, reduceCtorEq, ak]
  refine hJ1 _ ?_
  refine seq_k fun J2 hJ2 => ?_
  obtain ⟨j3, h4, hn⟩ := of_bind h
  refine seq_j (fun st => st = ⟨[(0, .c (.sc (.int .u64 a0))), (1, .c (.sc (.int .i64 a1))), (2, .c (.ref (.arg 0) [] o0 l2.length)), (6, .c (.ptr (.tmp 6 0) [] 0)), (21, .c (.sc (.bool j3)))], [(.arg 0, ⟨.fz, 4, cs0⟩), (.tmp 6 0, ⟨.box, 0, [.sc (.int .u64 0), .sc (.int .i64 0), .own 1 (([] : List Int).length) (encL c_i64 ([] : List Int)), .sc (.int .i64 0), .sc (.int .u64 0), .sc (.bool false)]⟩)], [], []⟩) (fun J5 hJ5 => ?_) ?_
  · replace h := h4; clear hn
    refine ga_k fun G6 G6n G6r G6x => ?_
    refine reg_k ?_
    simp only [Nat.reduceEqDiff, Nat.reduceAdd, Nat.reduceMul, Nat.reduceLeDiff, Nat.reduceLT, Int.reduceLE, Int.reduceLT, Int.reduceGT, Int.reduceGE, Int.reduceEq, Int.reduceNe, Int.reduceToNat, reduceCtorEq, ak]
    by_cases c7 : a0 > 4611686018427387904
    · rw [if_pos c7] at h
      have e8 : decide (a0 > 4611686018427387904) = true := decide_eq_true c7
      simp only [Nat.reduceEqDiff, Nat.reduceAdd, Nat.reduceMul, Nat.reduceLeDiff, Nat.reduceLT, Int.reduceLE, Int.reduceLT, Int.reduceGT, Int.reduceGE, Int.reduceEq, Int.reduceNe, Int.reduceToNat, reduceCtorEq, ak, e8]
      obtain rfl := Option.some.inj h
      refine G6n _ _ (((Weak.keep [0, 1, 2, 6, 21]).trans ((Weak.foc [(.arg 0, ⟨(.arg 0), [], none, .fz⟩), (.tmp 6 0, ⟨(.tmp 6 0), [], none, .box⟩)] rfl (by first | rfl | simp only [reduceCtorEq, Nat.reduceEqDiff, ak, akF, e8]) (by simp [argK, akG, ak])).trans (Weak.of_eq (by first | rfl | (simp only [reduceCtorEq, Nat.reduceEqDiff, ak, akF, e8]; done) | (simp [reduceCtorEq, Nat.reduceEqDiff, ak, akF, e8]; done)))))) (hJ5 _ rfl)
    · rw [if_neg c7] at h
      have e9 : decide (a0 > 4611686018427387904) = false := decide_eq_false c7
      simp only [Nat.reduceEqDiff, Nat.reduceAdd, Nat.reduceMul, Nat.reduceLeDiff, Nat.reduceLT, Int.reduceLE, Int.reduceLT, Int.reduceGT, Int.reduceGE, Int.reduceEq, Int.reduceNe, Int.reduceToNat, reduceCtorEq, ak, e9]
      by_cases c10 : a1 < 1
      · rw [if_pos c10] at h
        have e11 : decide (a1 < 1) = true := decide_eq_true c10
        simp only [Nat.reduceEqDiff, Nat.reduceAdd, Nat.reduceMul, Nat.reduceLeDiff, Nat.reduceLT, Int.reduceLE, Int.reduceLT, Int.reduceGT, Int.reduceGE, Int.reduceEq, Int.reduceNe, Int.reduceToNat, reduceCtorEq, ak, e11]
        obtain rfl := Option.some.inj h
        refine G6n _ _ (((Weak.keep [0, 1, 2, 6, 21]).trans ((Weak.foc [(.arg 0, ⟨(.arg 0), [], none, .fz⟩), (.tmp 6 0, ⟨(.tmp 6 0), [], none, .box⟩)] rfl (by first | rfl | simp only [reduceCtorEq, Nat.reduceEqDiff, ak, akF, e9, e11]) (by simp [argK, akG, ak])).trans (Weak.of_eq (by first | rfl | (simp only [reduceCtorEq, Nat.reduceEqDiff, ak, akF, e9, e11]; done) | (simp [reduceCtorEq, Nat.reduceEqDiff, ak, akF, e9, e11]; done)))))) (hJ5 _ rfl)
      · rw [if_neg c10] at h
        have e12 : decide (a1 < 1) = false := decide_eq_false c10
        simp only [Nat.reduceEqDiff, Nat.reduceAdd, Nat.reduceMul, Nat.reduceLeDiff, Nat.reduceLT, Int.reduceLE, Int.reduceLT, Int.reduceGT, Int.reduceGE, Int.reduceEq, Int.reduceNe, Int.reduceToNat, reduceCtorEq, ak, e12]
        obtain rfl := Option.some.inj h
        refine G6n _ _ (((Weak.keep [0, 1, 2, 6, 21]).trans ((Weak.foc [(.arg 0, ⟨(.arg 0), [], none, .fz⟩), (.tmp 6 0, ⟨(.tmp 6 0), [], none, .box⟩)] rfl (by first | rfl | simp only [reduceCtorEq, Nat.reduceEqDiff, ak, akF, e9, e12]) (by simp [argK, akG, ak])).trans (Weak.of_eq (by first | rfl | (simp only [reduceCtorEq, Nat.reduceEqDiff, ak, akF, e9, e12]; done) | (simp [reduceCtorEq, Nat.reduceEqDiff, ak, akF, e9, e12]; done)))))) (hJ5 _ rfl)
  · replace h := hn; clear hn h4
    rintro _ rfl
    refine cond_k (b := j3) rfl (fun c13 => ?_) (fun c13 => ?_)
    · rw [if_pos c13] at h
      refine seq_k fun J14 hJ14 => ?_
      refine reg_k ?_
      simp only [Nat.reduceEqDiff, Nat.reduceAdd, Nat.reduceMul, Nat.reduceLeDiff, Nat.reduceLT, Int.reduceLE, Int.reduceLT, Int.reduceGT, Int.reduceGE, Int.reduceEq, Int.reduceNe, Int.reduceToNat, reduceCtorEq, ak]
      refine gho_k (Weak.nmg' 22 2 (.tmp 22 22) 1 (encL c_i64 ([] : List Int)) rfl rfl rfl rfl) ?_
      have g15 : (encL c_i64 ([] : List Int)).length = 0 * 1 := by simp [encL_length c_i64_w]
      simp only [Nat.reduceEqDiff, Nat.reduceAdd, Nat.reduceMul, Nat.reduceLeDiff, Nat.reduceLT, Int.reduceLE, Int.reduceLT, Int.reduceGT, Int.reduceGE, Int.reduceEq, Int.reduceNe, Int.reduceToNat, reduceCtorEq, ak, g15]
      refine gho_k (Weak.nm' 7 (.tmp 7 20) 3 (encL c118 ([] : List S118)) rfl rfl rfl) ?_
      simp only [Nat.reduceEqDiff, Nat.reduceAdd, Nat.reduceMul, Nat.reduceLeDiff, Nat.reduceLT, Int.reduceLE, Int.reduceLT, Int.reduceGT, Int.reduceGE, Int.reduceEq, Int.reduceNe, Int.reduceToNat, reduceCtorEq, ak]
      refine hJ14 _ ?_
      obtain rfl := Option.some.inj h
      refine hKr _ ⟨_, rfl, [⟨(.tmp 6 0), [2], none, .lst⟩, ⟨(.tmp 7 20), [], none, .lst⟩], _, rfl, rfl, ?_⟩
      first | rfl | (simp only [reduceCtorEq, Nat.reduceEqDiff, ak, akF]; done) | (simp [reduceCtorEq, Nat.reduceEqDiff, ak, akF]; done)
    · rw [if_neg (Bool.eq_false_iff.1 c13)] at h
      refine hJ2 _ ?_
      refine seq_k fun J16 hJ16 => ?_
      refine seq_k fun J17 hJ17 => ?_
      refine reg_k ?_
      simp only [Nat.reduceEqDiff, Nat.reduceAdd, Nat.reduceMul, Nat.reduceLeDiff, Nat.reduceLT, Int.reduceLE, Int.reduceLT, Int.reduceGT, Int.reduceGE, Int.reduceEq, Int.reduceNe, Int.reduceToNat, reduceCtorEq, ak]
      refine hJ17 _ ?_
      refine cond_k (b := decide ((l2.length : Int) > 4000)) rfl (fun c18 => ?_) (fun c18 => ?_)
      · replace c18 := of_decide_eq_true c18; rw [if_pos c18] at h
        refine seq_k fun J19 hJ19 => ?_
        refine reg_k ?_
        simp only [Nat.reduceEqDiff, Nat.reduceAdd, Nat.reduceMul, Nat.reduceLeDiff, Nat.reduceLT, Int.reduceLE, Int.reduceLT, Int.reduceGT, Int.reduceGE, Int.reduceEq, Int.reduceNe, Int.reduceToNat, reduceCtorEq, ak]
        refine gho_k (Weak.nmg' 26 2 (.tmp 26 22) 1 (encL c_i64 ([] : List Int)) rfl rfl rfl rfl) ?_
        have g20 : (encL c_i64 ([] : List Int)).length = 0 * 1 := by simp [encL_length c_i64_w]
        simp only [Nat.reduceEqDiff, Nat.reduceAdd, Nat.reduceMul, Nat.reduceLeDiff, Nat.reduceLT, Int.reduceLE, Int.reduceLT, Int.reduceGT, Int.reduceGE, Int.reduceEq, Int.reduceNe, Int.reduceToNat, reduceCtorEq, ak, g20]
        refine gho_k (Weak.nm' 7 (.tmp 7 20) 3 (encL c118 ([] : List S118)) rfl rfl rfl) ?_
        simp only [Nat.reduceEqDiff, Nat.reduceAdd, Nat.reduceMul, Nat.reduceLeDiff, Nat.reduceLT, Int.reduceLE, Int.reduceLT, Int.reduceGT, Int.reduceGE, Int.reduceEq, Int.reduceNe, Int.reduceToNat, reduceCtorEq, ak]
        refine hJ19 _ ?_
        obtain rfl := Option.some.inj h
        refine hKr _ ⟨_, rfl, [⟨(.tmp 6 0), [2], none, .lst⟩, ⟨(.tmp 7 20), [], none, .lst⟩], _, rfl, rfl, ?_⟩
        first | rfl | (simp only [reduceCtorEq, Nat.reduceEqDiff, ak, akF]; done) | (simp [reduceCtorEq, Nat.reduceEqDiff, ak, akF]; done)
      · replace c18 := of_decide_eq_false c18; rw [if_neg c18] at h
        refine hJ16 _ ?_
        refine seq_k fun J21 hJ21 => ?_
        refine reg_k ?_
        simp only [Nat.reduceEqDiff, Nat.reduceAdd, Nat.reduceMul, Nat.reduceLeDiff, Nat.reduceLT, Int.reduceLE, Int.reduceLT, Int.reduceGT, Int.reduceGE, Int.reduceEq, Int.reduceNe, Int.reduceToNat, reduceCtorEq, ak]
        obtain ⟨t22, h23, h⟩ := of_bind h
        refine call_m [] (s0 := []) (by intro t ht; cases ht; decide) rfl rfl (by first | rfl | simp only [reduceCtorEq, Nat.reduceEqDiff, ak, akF]) (spec_l5Begin.tri a0 a1 _ h23) (by first | rfl | simp only [reduceCtorEq, Nat.reduceEqDiff, ak, akF]) (by simp [bkOk2, memK]) (fun hl23 => ?_)
        refine call_st (s4 := [(.arg 0, ⟨.fz, 4, cs0⟩), (.tmp 6 0, ⟨.box, 0, [.sc (.int .u64 0), .sc (.int .i64 0), .own 1 (([] : List Int).length) (encL c_i64 ([] : List Int)), .sc (.int .i64 0), .sc (.int .u64 0), .sc (.bool false)]⟩), (.tmp 29 0, ⟨.lst, 1, encL c_i64 t22.2.2.1⟩)]) (m1' := []) (m2' := []) (v' := .g [.sc (.int .u64 t22.1), .sc (.int .i64 t22.2.1), .ref (.tmp 29 0) [] 0 t22.2.2.1.length, .sc (.int .i64 t22.2.2.2.1), .sc (.int .u64 t22.2.2.2.2.1), .sc (.bool t22.2.2.2.2.2)]) (Sto.mapN_killNil _ _) (mrgL_nil' _ _ _) (by rfl) (mapT_killNil _ _) (by rfl) (by rfl) (by first | rfl | simp only [reduceCtorEq, Nat.reduceEqDiff, ak, akF, Nat.zero_add, List.append_nil]) ?_
        simp only [Nat.reduceEqDiff, Nat.reduceAdd, Nat.reduceMul, Nat.reduceLeDiff, Nat.reduceLT, Int.reduceLE, Int.reduceLT, Int.reduceGT, Int.reduceGE, Int.reduceEq, Int.reduceNe, Int.reduceToNat, reduceCtorEq, ak]
        refine gho_k (Weak.own (.tmp 9 0) (cs' := [.sc (.int .u64 0), .sc (.int .i64 0), .own 1 (([] : List Int).length) (encL c_i64 ([] : List Int)), .sc (.int .i64 0), .sc (.int .u64 0), .sc (.bool false)]) rfl ⟨.inl rfl, .inl rfl, .inr ⟨rfl, _, rfl⟩, .inl rfl, .inl rfl, .inl rfl, trivial⟩) ?_
        have g25 : (encL c_i64 t22.2.2.1).length = t22.2.2.1.length * 1 := by simp [encL_length c_i64_w]
        simp only [Nat.reduceEqDiff, Nat.reduceAdd, Nat.reduceMul, Nat.reduceLeDiff, Nat.reduceLT, Int.reduceLE, Int.reduceLT, Int.reduceGT, Int.reduceGE, Int.reduceEq, Int.reduceNe, Int.reduceToNat, reduceCtorEq, ak, g25]
        refine hJ21 _ ?_
        refine seq_k fun J26 hJ26 => ?_
        refine reg_k ?_
        have g27 : (List.replicate 0 ([.int .i64 0, .int .i64 0, .slice none 0 0] : List Value)).flatten = [] := rfl
        have g28 : (⟨.lst, 3, []⟩ : Root) = ⟨.lst, 3, encL c118 ([] : List S118)⟩ := rfl
        have g29 : ([] : List S118).length = 0 := rfl
        simp only [Nat.reduceEqDiff, Nat.reduceAdd, Nat.reduceMul, Nat.reduceLeDiff, Nat.reduceLT, Int.reduceLE, Int.reduceLT, Int.reduceGT, Int.reduceGE, Int.reduceEq, Int.reduceNe, Int.reduceToNat, reduceCtorEq, ak, g27, g28, g29]
        refine gho_k (Weak.refl _ _) ?_
        simp only [Nat.reduceEqDiff, Nat.reduceAdd, Nat.reduceMul, Nat.reduceLeDiff, Nat.reduceLT, Int.reduceLE, Int.reduceLT, Int.reduceGT, Int.reduceGE, Int.reduceEq, Int.reduceNe, Int.reduceToNat, reduceCtorEq, ak]
        refine hJ26 _ ?_
        refine seq_k fun J30 hJ30 => ?_
        refine seq_k fun J31 hJ31 => ?_
        refine reg_k ?_
        simp only [Nat.reduceEqDiff, Nat.reduceAdd, Nat.reduceMul, Nat.reduceLeDiff, Nat.reduceLT, Int.reduceLE, Int.reduceLT, Int.reduceGT, Int.reduceGE, Int.reduceEq, Int.reduceNe, Int.reduceToNat, reduceCtorEq, ak]
        refine hJ31 _ ?_
        refine block_k fun B32 B32n B32x B32r B32j => ?_
        obtain ⟨y54, h55, h⟩ := of_bind h
        refine gh_k (st' := ⟨[(2, .c (.ref (.arg 0) [] o0 l2.length)), (6, .c (.ptr (.tmp 6 0) [] 0)), (9, .c (.ptr (.tmp 9 0) [] 0)), (10, .c (.ref (.tmp 30 0) [] 0 (([] : List S118).length))), (11, .c (.sc (.int .i64 0)))], [(.arg 0, ⟨.fz, 4, cs0⟩), (.tmp 6 0, ⟨.box, 0, [.sc (.int .u64 0), .sc (.int .i64 0), .own 1 (([] : List Int).length) (encL c_i64 ([] : List Int)), .sc (.int .i64 0), .sc (.int .u64 0), .sc (.bool false)]⟩), (.tmp 9 0, ⟨.box, 0, [.sc (.int .u64 t22.1), .sc (.int .i64 t22.2.1), .own 1 t22.2.2.1.length (encL c_i64 t22.2.2.1), .sc (.int .i64 t22.2.2.2.1), .sc (.int .u64 t22.2.2.2.2.1), .sc (.bool t22.2.2.2.2.2)]⟩), (.tmp 30 0, ⟨.lst, 3, encL c118 ([] : List S118)⟩)], [], []⟩) (((Weak.keep [2, 6, 9, 10, 11]).trans ((Weak.foc [(.arg 0, ⟨(.arg 0), [], none, .fz⟩), (.tmp 6 0, ⟨(.tmp 6 0), [], none, .box⟩), (.tmp 9 0, ⟨(.tmp 9 0), [], none, .box⟩), (.tmp 30 0, ⟨(.tmp 30 0), [], none, .lst⟩)] rfl (by first | rfl | simp only [reduceCtorEq, Nat.reduceEqDiff, ak, akF]) (by simp [argK, akG, ak])).trans (Weak.of_eq (by first | rfl | (simp only [reduceCtorEq, Nat.reduceEqDiff, ak, akF]; done) | (simp [reduceCtorEq, Nat.reduceEqDiff, ak, akF]; done)))))) ?_
        rw [e_loop]
        refine spec_l5Run.l0_walk cs0 o0 l2 hv0 0 0 ([] : List Int) 0 0 false t22.1 t22.2.1 0 t22.2.2.1 t22.2.2.2.1 t22.2.2.2.2.1 t22.2.2.2.2.2 ([] : List S118) _ h55 _ ?_
        refine B32x _ ?_
        refine hJ30 _ ?_
        refine seq_k fun J56 hJ56 => ?_
        refine reg_k ?_
        simp only [Nat.reduceEqDiff, Nat.reduceAdd, Nat.reduceMul, Nat.reduceLeDiff, Nat.reduceLT, Int.reduceLE, Int.reduceLT, Int.reduceGT, Int.reduceGE, Int.reduceEq, Int.reduceNe, Int.reduceToNat, reduceCtorEq, ak]
        refine hJ56 _ ?_
        obtain rfl := Option.some.inj h
        refine hKr _ ⟨_, rfl, [⟨(.tmp 9 0), [2], none, .lst⟩, ⟨(.tmp 30 0), [], none, .lst⟩], _, rfl, rfl, ?_⟩
        first | rfl | (simp only [reduceCtorEq, Nat.reduceEqDiff, ak, akF]; done) | (simp [reduceCtorEq, Nat.reduceEqDiff, ak, akF]; done)
/-! ### spec.ReorderRun: function 48 -/
def c48 : AC := .seq (.reg [.op none (.mv 6 (.const (.slice none 0 0))), .gh, .op none (.mv 7 (.const (.int .i64 0))), .keep [0, 1, 2]]) (.seq (.reg [.op none (.mv 12 (.tmp 0)), .op none (.mv 13 (.tmp 1)), .op none (.mv 14 (.tmp 2)), .call none (some 15) 100 [.tmp 12, .tmp 13, .tmp 14], .op none (.mv 11 (.tmp 15)), .op none (.extr 16 (.tmp 11) 0), .op none (.extr 17 (.tmp 11) 1), .op none (.extr 18 (.tmp 11) 2), .op none (.alloc 8 [.int .u64 0, .int .i64 0, .slice none 0 0, .int .i64 0, .int .u64 0, .bool false]), .gh, .op none (.store 6 (.tmp 8) (.tmp 16)), .op none (.mv 9 (.tmp 17)), .op none (.mv 10 (.tmp 18)), .keep [9, 10]]) (.seq (.reg [.op none (.mv 19 (.tmp 9)), .op none (.mv 20 (.tmp 10)), .op none (.mv 6 (.tmp 19)), .op none (.mv 7 (.tmp 20)), .keep [6, 7]]) (.ret)))
def r48 : List RV := [.tmp 6, .tmp 7]
theorem k48 : compC Try.prog 21 (Try.f48.body.getD .skip) = some c48.erase := by kernel_rfl
theorem q48 : rvsOf Try.prog Try.f48.results.toList = some r48 := by kernel_rfl
def spec_ReorderRun.f (a0 : Int) (a1 : Int) (l2 : List S116) : Option ((List S118) × Int) := (spec_l5Run.f a0 a1 l2 >>= fun t3 => (some (t3.2.2.2.2.2.2.1, t3.2.2.2.2.2.2.2)))
set_option maxRecDepth 100000 in
set_option maxHeartbeats 4000000 in
theorem spec_ReorderRun.tri (cs0 : List Cell) (o0 : Nat) (l2 : List S116) (hv0 : Vw c116 4 cs0 o0 l2) (a0 : Int) (a1 : Int) (r : (List S118) × Int) (h : spec_ReorderRun.f a0 a1 l2 = some r) : Tri Try.prog 48 [.c (.sc (.int .u64 a0)), .c (.sc (.int .i64 a1)), .c (.ref (.arg 0) [] o0 l2.length)] [(.arg 0, ⟨.fz, 4, cs0⟩)] (fun o => o = ⟨.tup [(false, [.ref (.res 0) [] 0 r.1.length]), (false, [.sc (.int .i64 r.2)])], [(.arg 0, ⟨.fz, 4, cs0⟩), (.res 0, ⟨.lst, 3, encL c118 r.1⟩)], [], []⟩) := by
  refine tri_of_body (ac := c48) (xs := r48) Try.func48 (show Try.f48.body = some (Try.f48.body.getD .skip) from rfl) k48 q48 (Nat.le_of_ble_eq_true rfl) ?_
  refine body_of fun K hKn hKr => ?_
  unfold spec_ReorderRun.f at h
  unfold c48
  simp only [initT, Nat.reduceAdd]
  refine seq_k fun J1 hJ1 => ?_
  refine reg_k ?_
  simp only [Nat.reduceEqDiff, Nat.reduceAdd, Nat.reduceMul, Nat.reduceLeDiff, Nat.reduceLT, Int.reduceLE, Int.reduceLT, Int.reduceGT, Int.reduceGE, Int.reduceEq, Int.reduceNe, Int.reduceToNat, reduceCtorEq, ak]
  refine gho_k (Weak.nm' 6 (.tmp 6 20) 3 (encL c118 ([] : List S118)) rfl rfl rfl) ?_
  simp only [Nat.reduceEqDiff, Nat.reduceAdd, Nat.reduceMul, Nat.reduceLeDiff, Nat.reduceLT, Int.reduceLE, Int.reduceLT, Int.reduceGT, Int.reduceGE, Int.reduceEq, Int.reduceNe, Int.reduceToNat, reduceCtorEq, ak]
  refine hJ1 _ ?_
  refine seq_k fun J2 hJ2 => ?_
  refine reg_k ?_
  simp only [Nat.reduceEqDiff, Nat.reduceAdd, Nat.reduceMul, Nat.reduceLeDiff, Nat.reduceLT, Int.reduceLE, Int.reduceLT, Int.reduceGT, Int.reduceGE, Int.reduceEq, Int.reduceNe, Int.reduceToNat, reduceCtorEq, ak]
  obtain ⟨t3, h4, h⟩ := of_bind h
  refine call_m [(.arg 0, ⟨(.arg 0), [], none, .fz⟩)] (s0 := [(.arg 0, ⟨.fz, 4, cs0⟩)]) (by intro t ht; cases ht; decide) rfl rfl (by first | rfl | simp only [reduceCtorEq, Nat.reduceEqDiff, ak, akF]) (spec_l5Run.tri (cs0) o0 l2 hv0 a0 a1 _ h4) (by first | rfl | simp only [reduceCtorEq, Nat.reduceEqDiff, ak, akF]) (by simp [bkOk2, memK]) (fun hl4 => ?_)
  refine call_st (s4 := [(.arg 0, ⟨.fz, 4, cs0⟩), (.tmp 6 20, ⟨.lst, 3, encL c118 ([] : List S118)⟩), (.tmp 15 1, ⟨.lst, 3, encL c118 t3.2.2.2.2.2.2.1⟩), (.tmp 15 0, ⟨.lst, 1, encL c_i64 t3.2.2.1⟩)]) (m1' := []) (m2' := []) (v' := .tup [(true, [.sc (.int .u64 t3.1), .sc (.int .i64 t3.2.1), .ref (.tmp 15 0) [] 0 t3.2.2.1.length, .sc (.int .i64 t3.2.2.2.1), .sc (.int .u64 t3.2.2.2.2.1), .sc (.bool t3.2.2.2.2.2.1)]), (false, [.ref (.tmp 15 1) [] 0 t3.2.2.2.2.2.2.1.length]), (false, [.sc (.int .i64 t3.2.2.2.2.2.2.2)])]) (Sto.mapN_killNil _ _) (mrgL_fz (mrgL_nil' _ _ _) rfl (by first | rfl | simp only [reduceCtorEq, Nat.reduceEqDiff, ak]) rfl (by intro R hR hh; cases hR; cases hh.2)) (by rfl) (mapT_killNil _ _) (by rfl) (by rfl) (by first | rfl | simp only [reduceCtorEq, Nat.reduceEqDiff, ak, akF, Nat.zero_add, List.append_nil]) ?_
  simp only [Nat.reduceEqDiff, Nat.reduceAdd, Nat.reduceMul, Nat.reduceLeDiff, Nat.reduceLT, Int.reduceLE, Int.reduceLT, Int.reduceGT, Int.reduceGE, Int.reduceEq, Int.reduceNe, Int.reduceToNat, reduceCtorEq, ak]
  refine gho_k (Weak.own (.tmp 8 0) (cs' := [.sc (.int .u64 0), .sc (.int .i64 0), .own 1 (([] : List Int).length) (encL c_i64 ([] : List Int)), .sc (.int .i64 0), .sc (.int .u64 0), .sc (.bool false)]) rfl ⟨.inl rfl, .inl rfl, .inr ⟨rfl, _, rfl⟩, .inl rfl, .inl rfl, .inl rfl, trivial⟩) ?_
  have g6 : (encL c_i64 t3.2.2.1).length = t3.2.2.1.length * 1 := by simp [encL_length c_i64_w]
  simp only [Nat.reduceEqDiff, Nat.reduceAdd, Nat.reduceMul, Nat.reduceLeDiff, Nat.reduceLT, Int.reduceLE, Int.reduceLT, Int.reduceGT, Int.reduceGE, Int.reduceEq, Int.reduceNe, Int.reduceToNat, reduceCtorEq, ak, g6]
  refine hJ2 _ ?_
  refine seq_k fun J7 hJ7 => ?_
  refine reg_k ?_
  simp only [Nat.reduceEqDiff, Nat.reduceAdd, Nat.reduceMul, Nat.reduceLeDiff, Nat.reduceLT, Int.reduceLE, Int.reduceLT, Int.reduceGT, Int.reduceGE, Int.reduceEq, Int.reduceNe, Int.reduceToNat, reduceCtorEq, ak]
  refine hJ7 _ ?_
  obtain rfl := Option.some.inj h
  refine hKr _ ⟨_, rfl, [⟨(.tmp 15 1), [], none, .lst⟩], _, rfl, rfl, ?_⟩
  first | rfl | (simp only [reduceCtorEq, Nat.reduceEqDiff, ak, akF]; done) | (simp [reduceCtorEq, Nat.reduceEqDiff, ak, akF]; done)
/-! ### impl.newBuffer: function 138 -/
def c138 : AC := .seq (.reg [.op none (.mv 4 (.const (.pointer none))), .keep [0, 1]]) (.seq (.regD (.first (.op none (.mv 5 (.tmp 1))) (.first (.op none (.conv 6 .u64 (.tmp 5))) (.first (.op none (.mv 7 (.tmp 1))) (.first (.op none (.mv 9 (.tmp 1))) (.first (.op none (.mv 11 (.tmp 0))) (.alt (.op none (.mslice 8 1 1 [.int .u8 0] (.tmp 7))) (.alt (.op none (.mslice 10 1 1 [.bool false] (.tmp 9))) (.first (.op none (.build 12 [.int .u64 0, .slice none 0 0, .slice none 0 0, .int .u64 0, .bool false, .int .u64 0] [(0, 1, .tmp 6), (1, 1, .tmp 8), (2, 1, .tmp 10), (3, 1, .tmp 11)])) (.gh (.alt (.op none (.box 13 (.tmp 12))) (.first (.op none (.mv 4 (.tmp 13))) (.done)) (.stop)))) (.stop)) (.alt (.op none (.mslice 10 1 1 [.bool false] (.tmp 9))) (.alt (.op none (.mslice 8 1 1 [.int .u8 0] (.tmp 7))) (.first (.op none (.build 12 [.int .u64 0, .slice none 0 0, .slice none 0 0, .int .u64 0, .bool false, .int .u64 0] [(0, 1, .tmp 6), (1, 1, .tmp 8), (2, 1, .tmp 10), (3, 1, .tmp 11)])) (.gh (.alt (.op none (.box 13 (.tmp 12))) (.first (.op none (.mv 4 (.tmp 13))) (.done)) (.stop)))) (.stop)) (.stop)))))))) [4]) (.ret))
def r138 : List RV := [.tmp 4]
theorem k138 : compC Try.prog 14 (Try.f138.body.getD .skip) = some c138.erase := by kernel_rfl
theorem q138 : rvsOf Try.prog Try.f138.results.toList = some r138 := by kernel_rfl
def impl_newBuffer.f (a0 : Int) (a1 : Int) : Option (Int × (List Int) × (List Bool) × Int × Bool × Int) := (if 0 ≤ a1 ∧ a1 < 9223372036854775808 ∧ ((1 : Nat) : Int) * a1 ≤ 281474976710656 then (some (IntKind.u64.wrap a1, (List.replicate a1.toNat (0 : Int)), (List.replicate a1.toNat (false : Bool)), a0, false, 0)) else none)
set_option maxRecDepth 100000 in
set_option maxHeartbeats 4000000 in
theorem impl_newBuffer.tri (a0 : Int) (a1 : Int) (r : (Int × (List Int) × (List Bool) × Int × Bool × Int)) (h : impl_newBuffer.f a0 a1 = some r) : Tri Try.prog 138 [.c (.sc (.int .u64 a0)), .c (.sc (.int .i64 a1))] [] (fun o => o = ⟨.c (.ptr (.res 0) [] 0), [(.res 0, ⟨.box, 0, [.sc (.int .u64 r.1), .own 1 r.2.1.length (encL c_u8 r.2.1), .own 1 r.2.2.1.length (encL c_bool r.2.2.1), .sc (.int .u64 r.2.2.2.1), .sc (.bool r.2.2.2.2.1), .sc (.int .u64 r.2.2.2.2.2)]⟩)], [], []⟩) := by
  refine tri_of_body (ac := c138) (xs := r138) Try.func138 (show Try.f138.body = some (Try.f138.body.getD .skip) from rfl) k138 q138 (Nat.le_of_ble_eq_true rfl) ?_
  refine body_of fun K hKn hKr => ?_
  unfold impl_newBuffer.f at h
  unfold c138
  simp only [initT, Nat.reduceAdd]
  refine seq_k fun J1 hJ1 => ?_
  refine reg_k ?_
  simp only [Nat.reduceEqDiff, Nat.reduceAdd, Nat.reduceMul, Nat.reduceLeDiff, Nat.reduceLT, Int.reduceLE, Int.reduceLT, Int.reduceGT, Int.reduceGE, Int.reduceEq, Int.reduceNe, Int.reduceToNat, reduceCtorEq, ak]
  refine hJ1 _ ?_
  refine seq_k fun J2 hJ2 => ?_
  refine regD_k ?_
  simp only [Nat.reduceEqDiff, Nat.reduceAdd, Nat.reduceMul, Nat.reduceLeDiff, Nat.reduceLT, Int.reduceLE, Int.reduceLT, Int.reduceGT, Int.reduceGE, Int.reduceEq, Int.reduceNe, Int.reduceToNat, reduceCtorEq, ak]
  obtain ⟨b3, h⟩ := of_guard h
  refine alt_k ?_ (alt_k ?_ trivial)
  · have g15 : ((List.replicate a1.toNat [.int .u8 0]).flatten.map Cell.sc) = encL c_u8 (List.replicate a1.toNat (0 : Int)) := encL_zeros _ _ _ rfl
    simp only [Nat.reduceEqDiff, Nat.reduceAdd, Nat.reduceMul, Nat.reduceLeDiff, Nat.reduceLT, Int.reduceLE, Int.reduceLT, Int.reduceGT, Int.reduceGE, Int.reduceEq, Int.reduceNe, Int.reduceToNat, reduceCtorEq, ak, b3, g15]
    refine alt_k ?_ trivial
    · have g21 : ((List.replicate a1.toNat [.bool false]).flatten.map Cell.sc) = encL c_bool (List.replicate a1.toNat (false : Bool)) := encL_zeros _ _ _ rfl
      simp only [Nat.reduceEqDiff, Nat.reduceAdd, Nat.reduceMul, Nat.reduceLeDiff, Nat.reduceLT, Int.reduceLE, Int.reduceLT, Int.reduceGT, Int.reduceGE, Int.reduceEq, Int.reduceNe, Int.reduceToNat, reduceCtorEq, ak, b3, g21]
      refine ghp_k (Weak.refl _ _) ?_
      try simp only [Nat.reduceEqDiff, Nat.reduceAdd, Nat.reduceMul, Nat.reduceLeDiff, Nat.reduceLT, Int.reduceLE, Int.reduceLT, Int.reduceGT, Int.reduceGE, Int.reduceEq, Int.reduceNe, Int.reduceToNat, reduceCtorEq, ak]
      refine alt_k ?_ trivial
      · have g24 : (encL c_u8 (List.replicate a1.toNat (0 : Int))).length = a1.toNat * 1 := by simp [encL_length c_u8_w]
        have g25 : (encL c_bool (List.replicate a1.toNat (false : Bool))).length = a1.toNat * 1 := by simp [encL_length c_bool_w]
        simp only [Nat.reduceEqDiff, Nat.reduceAdd, Nat.reduceMul, Nat.reduceLeDiff, Nat.reduceLT, Int.reduceLE, Int.reduceLT, Int.reduceGT, Int.reduceGE, Int.reduceEq, Int.reduceNe, Int.reduceToNat, reduceCtorEq, ak, g24, g25]
        refine hJ2 _ ?_
        obtain rfl := Option.some.inj h
        refine hKr _ ⟨_, rfl, [⟨(.tmp 13 0), [], none, .box⟩], _, rfl, rfl, ?_⟩
        first | rfl | (simp only [reduceCtorEq, Nat.reduceEqDiff, ak, akF, b3]; done) | (simp [reduceCtorEq, Nat.reduceEqDiff, ak, akF, b3]; done)
  · have g26 : ((List.replicate a1.toNat [.bool false]).flatten.map Cell.sc) = encL c_bool (List.replicate a1.toNat (false : Bool)) := encL_zeros _ _ _ rfl
    simp only [Nat.reduceEqDiff, Nat.reduceAdd, Nat.reduceMul, Nat.reduceLeDiff, Nat.reduceLT, Int.reduceLE, Int.reduceLT, Int.reduceGT, Int.reduceGE, Int.reduceEq, Int.reduceNe, Int.reduceToNat, reduceCtorEq, ak, b3, g26]
    refine alt_k ?_ trivial
    · have g32 : ((List.replicate a1.toNat [.int .u8 0]).flatten.map Cell.sc) = encL c_u8 (List.replicate a1.toNat (0 : Int)) := encL_zeros _ _ _ rfl
      simp only [Nat.reduceEqDiff, Nat.reduceAdd, Nat.reduceMul, Nat.reduceLeDiff, Nat.reduceLT, Int.reduceLE, Int.reduceLT, Int.reduceGT, Int.reduceGE, Int.reduceEq, Int.reduceNe, Int.reduceToNat, reduceCtorEq, ak, b3, g32]
      refine ghp_k (Weak.refl _ _) ?_
      try simp only [Nat.reduceEqDiff, Nat.reduceAdd, Nat.reduceMul, Nat.reduceLeDiff, Nat.reduceLT, Int.reduceLE, Int.reduceLT, Int.reduceGT, Int.reduceGE, Int.reduceEq, Int.reduceNe, Int.reduceToNat, reduceCtorEq, ak]
      refine alt_k ?_ trivial
      · have g35 : (encL c_u8 (List.replicate a1.toNat (0 : Int))).length = a1.toNat * 1 := by simp [encL_length c_u8_w]
        have g36 : (encL c_bool (List.replicate a1.toNat (false : Bool))).length = a1.toNat * 1 := by simp [encL_length c_bool_w]
        simp only [Nat.reduceEqDiff, Nat.reduceAdd, Nat.reduceMul, Nat.reduceLeDiff, Nat.reduceLT, Int.reduceLE, Int.reduceLT, Int.reduceGT, Int.reduceGE, Int.reduceEq, Int.reduceNe, Int.reduceToNat, reduceCtorEq, ak, g35, g36]
        refine hJ2 _ ?_
        obtain rfl := Option.some.inj h
        refine hKr _ ⟨_, rfl, [⟨(.tmp 13 0), [], none, .box⟩], _, rfl, rfl, ?_⟩
        first | rfl | (simp only [reduceCtorEq, Nat.reduceEqDiff, ak, akF, b3]; done) | (simp [reduceCtorEq, Nat.reduceEqDiff, ak, akF, b3]; done)
/-! ### (*impl.buffer).put: function 158 -/
def c158_l0 : AC := .seq (.reg [.op none (.bin 61 .lss (.tmp 60) (.tmp 59)), .keep [0, 1, 6, 9, 58, 59, 60, 61]]) (.seq (.cond (.tmp 61) (.skip) (.gh (.exit 0))) (.seq (.ga (.block 1 (.seq (.reg [.op none (.mv 62 (.tmp 60)), .op none (.iaddr 63 1 (.tmp 58) (.tmp 60)), .op none (.load 64 false 1 (.tmp 63)), .op none (.mv 10 (.tmp 62)), .op none (.mv 11 (.tmp 64)), .keep [0, 1, 6, 9, 10, 11, 58, 59, 60]]) (.seq (.reg [.op none (.mv 65 (.tmp 1)), .op none (.mv 66 (.tmp 10)), .op none (.conv 67 .u64 (.tmp 66)), .op none (.bin 68 .add (.tmp 65) (.tmp 67)), .op none (.mv 12 (.tmp 68)), .keep [0, 1, 6, 9, 11, 12, 58, 59, 60]]) (.seq (.ga (.regD (.first (.op none (.mv 69 (.tmp 12))) (.first (.op none (.mv 70 (.tmp 0))) (.first (.op none (.nilc 71 (.tmp 70))) (.first (.op none (.faddr 72 3 (.tmp 71))) (.first (.op none (.load 73 false 1 (.tmp 72))) (.first (.op none (.bin 74 .geq (.tmp 69) (.tmp 73))) (.first (.op none (.mv 75 (.tmp 74))) (.first (.op (some (75, true)) (.mv 76 (.tmp 0))) (.first (.op (some (75, true)) (.nilc 77 (.tmp 76))) (.first (.op (some (75, true)) (.faddr 78 2 (.tmp 77))) (.first (.op (some (75, true)) (.load 79 false 1 (.tmp 78))) (.first (.op (some (75, true)) (.mv 80 (.tmp 12))) (.first (.op (some (75, true)) (.mv 81 (.tmp 0))) (.first (.op (some (75, true)) (.nilc 82 (.tmp 81))) (.first (.op (some (75, true)) (.faddr 83 0 (.tmp 82))) (.first (.op (some (75, true)) (.load 84 false 1 (.tmp 83))) (.first (.op (some (75, true)) (.bin 85 .rem (.tmp 80) (.tmp 84))) (.first (.op (some (75, true)) (.iaddr 86 1 (.tmp 79) (.tmp 85))) (.first (.op (some (75, true)) (.load 87 false 1 (.tmp 86))) (.first (.op (some (75, true)) (.un 88 .not (.tmp 87))) (.first (.op none (.pick 89 (.tmp 75) (.tmp 88) (.const (.bool false)))) (.done)))))))))))))))))))))) [0, 1, 6, 9, 11, 12, 58, 59, 60, 89])) (.cond (.tmp 89) (.seq (.regD (.first (.op none (.mv 90 (.tmp 0))) (.first (.op none (.nilc 91 (.tmp 90))) (.first (.op none (.faddr 92 2 (.tmp 91))) (.first (.op none (.load 93 false 1 (.tmp 92))) (.first (.op none (.mv 94 (.tmp 12))) (.first (.op none (.mv 95 (.tmp 0))) (.first (.op none (.nilc 96 (.tmp 95))) (.first (.op none (.faddr 97 0 (.tmp 96))) (.first (.op none (.load 98 false 1 (.tmp 97))) (.first (.op none (.bin 99 .rem (.tmp 94) (.tmp 98))) (.first (.op none (.iaddr 100 1 (.tmp 93) (.tmp 99))) (.alt (.op none (.store 1 (.tmp 100) (.const (.bool true)))) (.done) (.stop))))))))))))) [0, 1, 6, 9, 11, 12, 58, 59, 60]) (.seq (.regD (.first (.op none (.mv 101 (.tmp 0))) (.first (.op none (.nilc 102 (.tmp 101))) (.first (.op none (.faddr 103 1 (.tmp 102))) (.first (.op none (.load 104 false 1 (.tmp 103))) (.first (.op none (.mv 105 (.tmp 12))) (.first (.op none (.mv 106 (.tmp 0))) (.first (.op none (.nilc 107 (.tmp 106))) (.first (.op none (.faddr 108 0 (.tmp 107))) (.first (.op none (.load 109 false 1 (.tmp 108))) (.first (.op none (.bin 110 .rem (.tmp 105) (.tmp 109))) (.first (.op none (.mv 111 (.tmp 11))) (.first (.op none (.iaddr 112 1 (.tmp 104) (.tmp 110))) (.alt (.op none (.store 1 (.tmp 112) (.tmp 111))) (.done) (.stop)))))))))))))) [0, 1, 6, 9, 58, 59, 60]) (.reg [.op none (.mv 113 (.tmp 9)), .op none (.bin 114 .add (.tmp 113) (.const (.int .i64 1))), .op none (.mv 9 (.tmp 114)), .keep [0, 1, 6, 9, 58, 59, 60]]))) (.skip))))))) (.reg [.op none (.bin 115 .add (.tmp 60) (.const (.int .i64 1))), .op none (.mv 60 (.tmp 115)), .keep [0, 1, 6, 9, 58, 59, 60]])))
def c158 : AC := .seq (.reg [.op none (.alloc 6 [.int .i64 0, .int .i64 0, .slice none 0 0]), .gh, .keep [0, 1, 2, 6]]) (.seq (.reg [.op none (.mv 13 (.tmp 2)), .op none (.len 14 (.tmp 13)), .op none (.conv 15 .u64 (.tmp 14)), .op none (.mv 7 (.tmp 15)), .keep [0, 1, 2, 6, 7]]) (.seq (.seq (.ga (.reg [.op none (.mv 16 (.tmp 7)), .op none (.bin 17 .eql (.tmp 16) (.const (.int .u64 0))), .op none (.mv 18 (.tmp 17)), .op (some (18, false)) (.mv 19 (.tmp 7)), .op (some (18, false)) (.bin 20 .gtr (.tmp 19) (.const (.int .u64 32))), .op none (.pick 21 (.tmp 18) (.const (.bool true)) (.tmp 20)), .keep [0, 1, 2, 6, 7, 21]])) (.cond (.tmp 21) (.seq (.reg [.op none (.build 22 [.int .i64 0, .int .i64 0, .slice none 0 0] [(0, 1, .const (.int .i64 1))]), .gh, .op none (.store 3 (.tmp 6) (.tmp 22)), .keep [6]]) (.ret)) (.skip))) (.seq (.regD (.first (.op none (.mv 23 (.tmp 0))) (.first (.op none (.nilc 24 (.tmp 23))) (.first (.op none (.faddr 25 3 (.tmp 24))) (.first (.op none (.load 26 false 1 (.tmp 25))) (.first (.op none (.mv 27 (.tmp 0))) (.first (.op none (.nilc 28 (.tmp 27))) (.first (.op none (.faddr 29 0 (.tmp 28))) (.first (.op none (.load 30 false 1 (.tmp 29))) (.first (.op none (.bin 31 .add (.tmp 26) (.tmp 30))) (.first (.op none (.mv 8 (.tmp 31))) (.done))))))))))) [0, 1, 2, 6, 7, 8]) (.seq (.seq (.ga (.reg [.op none (.mv 32 (.tmp 1)), .op none (.mv 33 (.tmp 8)), .op none (.bin 34 .gtr (.tmp 32) (.tmp 33)), .op none (.mv 35 (.tmp 34)), .op (some (35, false)) (.mv 36 (.tmp 7)), .op (some (35, false)) (.mv 37 (.tmp 8)), .op (some (35, false)) (.mv 38 (.tmp 1)), .op (some (35, false)) (.bin 39 .sub (.tmp 37) (.tmp 38)), .op (some (35, false)) (.bin 40 .gtr (.tmp 36) (.tmp 39)), .op none (.pick 41 (.tmp 35) (.const (.bool true)) (.tmp 40)), .keep [0, 1, 2, 6, 7, 41]])) (.cond (.tmp 41) (.seq (.reg [.op none (.build 42 [.int .i64 0, .int .i64 0, .slice none 0 0] [(0, 1, .const (.int .i64 4))]), .gh, .op none (.store 3 (.tmp 6) (.tmp 42)), .keep [6]]) (.ret)) (.skip))) (.seq (.seq (.ga (.reg [.op none (.mv 43 (.tmp 0)), .op none (.nilc 44 (.tmp 43)), .op none (.faddr 45 4 (.tmp 44)), .op none (.load 46 false 1 (.tmp 45)), .op none (.mv 47 (.tmp 46)), .op (some (47, true)) (.mv 48 (.tmp 1)), .op (some (47, true)) (.mv 49 (.tmp 7)), .op (some (47, true)) (.bin 50 .add (.tmp 48) (.tmp 49)), .op (some (47, true)) (.mv 51 (.tmp 0)), .op (some (47, true)) (.nilc 52 (.tmp 51)), .op (some (47, true)) (.faddr 53 5 (.tmp 52)), .op (some (47, true)) (.load 54 false 1 (.tmp 53)), .op (some (47, true)) (.bin 55 .gtr (.tmp 50) (.tmp 54)), .op none (.pick 56 (.tmp 47) (.tmp 55) (.const (.bool false))), .keep [0, 1, 2, 6, 56]])) (.cond (.tmp 56) (.seq (.reg [.op none (.build 57 [.int .i64 0, .int .i64 0, .slice none 0 0] [(0, 1, .const (.int .i64 12))]), .gh, .op none (.store 3 (.tmp 6) (.tmp 57)), .keep [6]]) (.ret)) (.skip))) (.seq (.reg [.op none (.mv 9 (.const (.int .i64 0))), .keep [0, 1, 2, 6, 9]]) (.seq (.seq (.reg [.op none (.mv 58 (.tmp 2)), .op none (.len 59 (.tmp 58)), .op none (.mv 60 (.const (.int .i64 0))), .keep [0, 1, 6, 9, 58, 59, 60]]) (.block 0 (.gh (.loop (.ga c158_l0))))) (.seq (.reg [.op none (.mv 116 (.tmp 9)), .op none (.build 117 [.int .i64 0, .int .i64 0, .slice none 0 0] [(1, 1, .tmp 116)]), .gh, .op none (.store 3 (.tmp 6) (.tmp 117)), .keep [6]]) (.ret)))))))))
def r158 : List RV := [.cell 6 true 3]
theorem k158 : compC Try.prog 118 (Try.f158.body.getD .skip) = some c158.erase := by kernel_rfl
theorem q158 : rvsOf Try.prog Try.f158.results.toList = some r158 := by kernel_rfl
def impl_buffer_put.l0 (l2 : List Int) (x0_0 : Int) (x0_2 : Int) (x0_4 : Int) (x0_7 : Int) (x0_8 : Bool) (x0_9 : Int) (x0_10 : Int) (x0_11 : Int) (x0_12 : (List Int)) (x0_1 : Int) (x0_3 : Int) (x0_5 : (List Int)) (x0_6 : (List Bool)) : Option (Int × (List Int) × (List Bool)) := (if x0_3 < x0_2 then ((if 0 ≤ x0_3 ∧ x0_3 < (l2.length : Int) then ((if IntKind.u64.wrap (x0_0 + (IntKind.u64.wrap x0_3)) ≥ x0_7 then (if ¬ x0_4 = 0 then (if 0 ≤ (IntKind.u64.wrap (x0_0 + (IntKind.u64.wrap x0_3))).tmod x0_4 ∧ (IntKind.u64.wrap (x0_0 + (IntKind.u64.wrap x0_3))).tmod x0_4 < (x0_6.length : Int) then (some (!(rd false x0_6 ((IntKind.u64.wrap (x0_0 + (IntKind.u64.wrap x0_3))).tmod x0_4)))) else none) else none) else (some false)) >>= fun (j53 : Bool) => (if j53 = true then (if ¬ x0_4 = 0 then (if 0 ≤ (IntKind.u64.wrap (x0_0 + (IntKind.u64.wrap x0_3))).tmod x0_4 ∧ (IntKind.u64.wrap (x0_0 + (IntKind.u64.wrap x0_3))).tmod x0_4 < (x0_6.length : Int) then (if 0 ≤ (IntKind.u64.wrap (x0_0 + (IntKind.u64.wrap x0_3))).tmod x0_4 ∧ (IntKind.u64.wrap (x0_0 + (IntKind.u64.wrap x0_3))).tmod x0_4 < (x0_5.length : Int) then (some (IntKind.i64.wrap (x0_1 + 1), (x0_5.set ((IntKind.u64.wrap (x0_0 + (IntKind.u64.wrap x0_3))).tmod x0_4).toNat (rd 0 l2 x0_3)), (x0_6.set ((IntKind.u64.wrap (x0_0 + (IntKind.u64.wrap x0_3))).tmod x0_4).toNat true))) else none) else none) else none) else (some (x0_1, x0_5, x0_6)))) else none) >>= fun (j44 : Int × (List Int) × (List Bool)) => (impl_buffer_put.l0 l2 x0_0 x0_2 x0_4 x0_7 x0_8 x0_9 x0_10 x0_11 x0_12 j44.1 (IntKind.i64.wrap (x0_3 + 1)) j44.2.1 j44.2.2)) else (some (x0_1, x0_5, x0_6)))
  partial_fixpoint
def impl_buffer_put.f (a0_0 : Int) (l0_1 : List Int) (l0_2 : List Bool) (a0_3 : Int) (a0_4 : Bool) (a0_5 : Int) (a1 : Int) (l2 : List Int) : Option (Int × Int × (List Int) × (List Int) × (List Bool)) := ((if IntKind.u64.wrap (l2.length : Int) = 0 then (some true) else (some (decide (IntKind.u64.wrap (l2.length : Int) > 32)))) >>= fun (j4 : Bool) => (if j4 = true then (some (1, 0, ([] : List Int), l0_1, l0_2)) else ((if a1 > IntKind.u64.wrap (a0_3 + a0_0) then (some true) else (some (decide (IntKind.u64.wrap (l2.length : Int) > IntKind.u64.wrap ((IntKind.u64.wrap (a0_3 + a0_0)) - a1))))) >>= fun (j16 : Bool) => (if j16 = true then (some (4, 0, ([] : List Int), l0_1, l0_2)) else ((if a0_4 = true then (some (decide (IntKind.u64.wrap (a1 + (IntKind.u64.wrap (l2.length : Int))) > a0_5))) else (some false)) >>= fun (j27 : Bool) => (if j27 = true then (some (12, 0, ([] : List Int), l0_1, l0_2)) else (impl_buffer_put.l0 l2 a1 (l2.length : Int) a0_0 a0_3 a0_4 a0_5 0 0 ([] : List Int) 0 0 l0_1 l0_2 >>= fun (y85 : (Int × (List Int) × (List Bool))) => (some (0, y85.1, ([] : List Int), y85.2.1, y85.2.2)))))))))
set_option maxRecDepth 100000 in
set_option maxHeartbeats 4000000 in
theorem impl_buffer_put.l0_walk (cs1 : List Cell) (o1 : Nat) (l2 : List Int) (hv1 : Vw c_u8 1 cs1 o1 l2) (x0_0 : Int) (x0_2 : Int) (x0_4 : Int) (x0_7 : Int) (x0_8 : Bool) (x0_9 : Int) (x0_10 : Int) (x0_11 : Int) (x0_12 : (List Int)) (x0_1 : Int) (x0_3 : Int) (x0_5 : (List Int)) (x0_6 : (List Bool)) (y : (Int × (List Int) × (List Bool))) (h : impl_buffer_put.l0 l2 x0_0 x0_2 x0_4 x0_7 x0_8 x0_9 x0_10 x0_11 x0_12 x0_1 x0_3 x0_5 x0_6 = some y) (K : AE → St → Prop) (hx0 : K (.exit 0) ⟨[(6, .c (.ptr (.tmp 6 0) [] 0)), (9, .c (.sc (.int .i64 y.1)))], [(.arg 0, ⟨.box, 0, [.sc (.int .u64 x0_4), .own 1 y.2.1.length (encL c_u8 y.2.1), .own 1 y.2.2.length (encL c_bool y.2.2), .sc (.int .u64 x0_7), .sc (.bool x0_8), .sc (.int .u64 x0_9)]⟩), (.arg 1, ⟨.fz, 1, cs1⟩), (.tmp 6 0, ⟨.box, 0, [.sc (.int .i64 x0_10), .sc (.int .i64 x0_11), .own 1 x0_12.length (encL c_u8 x0_12)]⟩)], [], []⟩) : loopS Try.prog 118 (.ga c158_l0) K ⟨[(0, .c (.ptr (.arg 0) [] 0)), (1, .c (.sc (.int .u64 x0_0))), (6, .c (.ptr (.tmp 6 0) [] 0)), (9, .c (.sc (.int .i64 x0_1))), (58, .c (.ref (.arg 1) [] o1 l2.length)), (59, .c (.sc (.int .i64 x0_2))), (60, .c (.sc (.int .i64 x0_3)))], [(.arg 0, ⟨.box, 0, [.sc (.int .u64 x0_4), .own 1 x0_5.length (encL c_u8 x0_5), .own 1 x0_6.length (encL c_bool x0_6), .sc (.int .u64 x0_7), .sc (.bool x0_8), .sc (.int .u64 x0_9)]⟩), (.arg 1, ⟨.fz, 1, cs1⟩), (.tmp 6 0, ⟨.box, 0, [.sc (.int .i64 x0_10), .sc (.int .i64 x0_11), .own 1 x0_12.length (encL c_u8 x0_12)]⟩)], [], []⟩ := by
  refine impl_buffer_put.l0.partial_correctness l2 x0_0 x0_2 x0_4 x0_7 x0_8 x0_9 x0_10 x0_11 x0_12 (motive := fun x0_1 x0_3 x0_5 x0_6 y => ∀ (K : AE → St → Prop), (K (.exit 0) ⟨[(6, .c (.ptr (.tmp 6 0) [] 0)), (9, .c (.sc (.int .i64 y.1)))], [(.arg 0, ⟨.box, 0, [.sc (.int .u64 x0_4), .own 1 y.2.1.length (encL c_u8 y.2.1), .own 1 y.2.2.length (encL c_bool y.2.2), .sc (.int .u64 x0_7), .sc (.bool x0_8), .sc (.int .u64 x0_9)]⟩), (.arg 1, ⟨.fz, 1, cs1⟩), (.tmp 6 0, ⟨.box, 0, [.sc (.int .i64 x0_10), .sc (.int .i64 x0_11), .own 1 x0_12.length (encL c_u8 x0_12)]⟩)], [], []⟩) → loopS Try.prog 118 (.ga c158_l0) K ⟨[(0, .c (.ptr (.arg 0) [] 0)), (1, .c (.sc (.int .u64 x0_0))), (6, .c (.ptr (.tmp 6 0) [] 0)), (9, .c (.sc (.int .i64 x0_1))), (58, .c (.ref (.arg 1) [] o1 l2.length)), (59, .c (.sc (.int .i64 x0_2))), (60, .c (.sc (.int .i64 x0_3)))], [(.arg 0, ⟨.box, 0, [.sc (.int .u64 x0_4), .own 1 x0_5.length (encL c_u8 x0_5), .own 1 x0_6.length (encL c_bool x0_6), .sc (.int .u64 x0_7), .sc (.bool x0_8), .sc (.int .u64 x0_9)]⟩), (.arg 1, ⟨.fz, 1, cs1⟩), (.tmp 6 0, ⟨.box, 0, [.sc (.int .i64 x0_10), .sc (.int .i64 x0_11), .own 1 x0_12.length (encL c_u8 x0_12)]⟩)], [], []⟩) ?_ x0_1 x0_3 x0_5 x0_6 y h K hx0
  clear h hx0
  intro rec ih x0_1 x0_3 x0_5 x0_6 y h K hx0
  refine loop_unroll (ga_k fun G0 G0n G0r G0x => ?_)
  unfold c158_l0
  refine seq_k fun J41 hJ41 => ?_
  refine reg_k ?_
  simp only [Nat.reduceEqDiff, Nat.reduceAdd, Nat.reduceMul, Nat.reduceLeDiff, Nat.reduceLT, Int.reduceLE, Int.reduceLT, Int.reduceGT, Int.reduceGE, Int.reduceEq, Int.reduceNe, Int.reduceToNat, reduceCtorEq, ak]
  refine hJ41 _ ?_
  refine seq_k fun J42 hJ42 => ?_
  refine cond_k (b := decide (x0_3 < x0_2)) rfl (fun c43 => ?_) (fun c43 => ?_)
  · replace c43 := of_decide_eq_true c43; rw [if_pos c43] at h
    refine hJ42 _ ?_
    obtain ⟨j44, h45, hn⟩ := of_bind h
    refine seq_j (fun st => st = ⟨[(0, .c (.ptr (.arg 0) [] 0)), (1, .c (.sc (.int .u64 x0_0))), (6, .c (.ptr (.tmp 6 0) [] 0)), (9, .c (.sc (.int .i64 j44.1))), (58, .c (.ref (.arg 1) [] o1 l2.length)), (59, .c (.sc (.int .i64 x0_2))), (60, .c (.sc (.int .i64 x0_3)))], [(.arg 0, ⟨.box, 0, [.sc (.int .u64 x0_4), .own 1 j44.2.1.length (encL c_u8 j44.2.1), .own 1 j44.2.2.length (encL c_bool j44.2.2), .sc (.int .u64 x0_7), .sc (.bool x0_8), .sc (.int .u64 x0_9)]⟩), (.arg 1, ⟨.fz, 1, cs1⟩), (.tmp 6 0, ⟨.box, 0, [.sc (.int .i64 x0_10), .sc (.int .i64 x0_11), .own 1 x0_12.length (encL c_u8 x0_12)]⟩)], [], []⟩) (fun J46 hJ46 => ?_) ?_
    · replace h := h45; clear hn
      refine ga_k fun G47 G47n G47r G47x => ?_
      refine block_k fun B48 B48n B48x B48r B48j => ?_
      refine seq_k fun J49 hJ49 => ?_
      refine reg_k ?_
      obtain ⟨b50, h⟩ := of_guard h
      have g51 : (cs1)[o1 + x0_3.toNat * 1]? = some (.sc (.int .u8 (rd 0 l2 x0_3))) := hv1.get 0 0 b50.1 b50.2 (by decide)
      simp only [Nat.reduceEqDiff, Nat.reduceAdd, Nat.reduceMul, Nat.reduceLeDiff, Nat.reduceLT, Int.reduceLE, Int.reduceLT, Int.reduceGT, Int.reduceGE, Int.reduceEq, Int.reduceNe, Int.reduceToNat, reduceCtorEq, ak, b50, g51]
      refine hJ49 _ ?_
      refine seq_k fun J52 hJ52 => ?_
      refine reg_k ?_
      simp only [Nat.reduceEqDiff, Nat.reduceAdd, Nat.reduceMul, Nat.reduceLeDiff, Nat.reduceLT, Int.reduceLE, Int.reduceLT, Int.reduceGT, Int.reduceGE, Int.reduceEq, Int.reduceNe, Int.reduceToNat, reduceCtorEq, ak]
      refine hJ52 _ ?_
      obtain ⟨j53, h54, hn⟩ := of_bind h
      refine seq_j (fun st => st = ⟨[(0, .c (.ptr (.arg 0) [] 0)), (1, .c (.sc (.int .u64 x0_0))), (6, .c (.ptr (.tmp 6 0) [] 0)), (9, .c (.sc (.int .i64 x0_1))), (11, .c (.sc (.int .u8 (rd 0 l2 x0_3)))), (12, .c (.sc (.int .u64 (IntKind.u64.wrap (x0_0 + (IntKind.u64.wrap x0_3)))))), (58, .c (.ref (.arg 1) [] o1 l2.length)), (59, .c (.sc (.int .i64 x0_2))), (60, .c (.sc (.int .i64 x0_3))), (89, .c (.sc (.bool j53)))], [(.arg 0, ⟨.box, 0, [.sc (.int .u64 x0_4), .own 1 x0_5.length (encL c_u8 x0_5), .own 1 x0_6.length (encL c_bool x0_6), .sc (.int .u64 x0_7), .sc (.bool x0_8), .sc (.int .u64 x0_9)]⟩), (.arg 1, ⟨.fz, 1, cs1⟩), (.tmp 6 0, ⟨.box, 0, [.sc (.int .i64 x0_10), .sc (.int .i64 x0_11), .own 1 x0_12.length (encL c_u8 x0_12)]⟩)], [], []⟩) (fun J55 hJ55 => ?_) ?_
      · replace h := h54; clear hn
        refine ga_k fun G56 G56n G56r G56x => ?_
        refine regD_k ?_
        simp only [Nat.reduceEqDiff, Nat.reduceAdd, Nat.reduceMul, Nat.reduceLeDiff, Nat.reduceLT, Int.reduceLE, Int.reduceLT, Int.reduceGT, Int.reduceGE, Int.reduceEq, Int.reduceNe, Int.reduceToNat, reduceCtorEq, ak]
        by_cases c57 : IntKind.u64.wrap (x0_0 + (IntKind.u64.wrap x0_3)) ≥ x0_7
        · rw [if_pos c57] at h
          have e58 : decide (IntKind.u64.wrap (x0_0 + (IntKind.u64.wrap x0_3)) ≥ x0_7) = true := decide_eq_true c57
          obtain ⟨b59, h⟩ := of_guard h
          obtain ⟨b60, h⟩ := of_guard h
          have g61 : (encL c_bool x0_6)[0 + ((IntKind.u64.wrap (x0_0 + (IntKind.u64.wrap x0_3))).tmod x0_4).toNat * 1]? = some (.sc (.bool (rd false x0_6 ((IntKind.u64.wrap (x0_0 + (IntKind.u64.wrap x0_3))).tmod x0_4)))) := (Vw.whole c_bool_w x0_6).get false 0 b60.1 b60.2 (by decide)
          simp only [Nat.reduceEqDiff, Nat.reduceAdd, Nat.reduceMul, Nat.reduceLeDiff, Nat.reduceLT, Int.reduceLE, Int.reduceLT, Int.reduceGT, Int.reduceGE, Int.reduceEq, Int.reduceNe, Int.reduceToNat, reduceCtorEq, ak, e58, b59, b60, g61]
          obtain rfl := Option.some.inj h
          refine G56n _ _ (((Weak.keep [0, 1, 6, 9, 11, 12, 58, 59, 60, 89]).trans ((Weak.foc [(.arg 0, ⟨(.arg 0), [], none, .box⟩), (.arg 1, ⟨(.arg 1), [], none, .fz⟩), (.tmp 6 0, ⟨(.tmp 6 0), [], none, .box⟩)] rfl (by first | rfl | simp only [reduceCtorEq, Nat.reduceEqDiff, ak, akF, b50, b59, b60, e58]) (by simp [argK, akG, ak])).trans (Weak.of_eq (by first | rfl | (simp only [reduceCtorEq, Nat.reduceEqDiff, ak, akF, b50, b59, b60, e58]; done) | (simp [reduceCtorEq, Nat.reduceEqDiff, ak, akF, b50, b59, b60, e58]; done)))))) (hJ55 _ rfl)
        · rw [if_neg c57] at h
          have e62 : decide (IntKind.u64.wrap (x0_0 + (IntKind.u64.wrap x0_3)) ≥ x0_7) = false := decide_eq_false c57
          simp only [Nat.reduceEqDiff, Nat.reduceAdd, Nat.reduceMul, Nat.reduceLeDiff, Nat.reduceLT, Int.reduceLE, Int.reduceLT, Int.reduceGT, Int.reduceGE, Int.reduceEq, Int.reduceNe, Int.reduceToNat, reduceCtorEq, ak, e62]
          obtain rfl := Option.some.inj h
          refine G56n _ _ (((Weak.keep [0, 1, 6, 9, 11, 12, 58, 59, 60, 89]).trans ((Weak.foc [(.arg 0, ⟨(.arg 0), [], none, .box⟩), (.arg 1, ⟨(.arg 1), [], none, .fz⟩), (.tmp 6 0, ⟨(.tmp 6 0), [], none, .box⟩)] rfl (by first | rfl | simp only [reduceCtorEq, Nat.reduceEqDiff, ak, akF, b50, e62]) (by simp [argK, akG, ak])).trans (Weak.of_eq (by first | rfl | (simp only [reduceCtorEq, Nat.reduceEqDiff, ak, akF, b50, e62]; done) | (simp [reduceCtorEq, Nat.reduceEqDiff, ak, akF, b50, e62]; done)))))) (hJ55 _ rfl)
      · replace h := hn; clear hn h54
        rintro _ rfl
        refine cond_k (b := j53) rfl (fun c63 => ?_) (fun c63 => ?_)
        · rw [if_pos c63] at h
          refine seq_k fun J64 hJ64 => ?_
          refine regD_k ?_
          obtain ⟨b65, h⟩ := of_guard h
          obtain ⟨b66, h⟩ := of_guard h
          simp only [Nat.reduceEqDiff, Nat.reduceAdd, Nat.reduceMul, Nat.reduceLeDiff, Nat.reduceLT, Int.reduceLE, Int.reduceLT, Int.reduceGT, Int.reduceGE, Int.reduceEq, Int.reduceNe, Int.reduceToNat, reduceCtorEq, ak, b65, b66]
          refine alt_k ?_ trivial
          · have g71 : 0 + ((IntKind.u64.wrap (x0_0 + (IntKind.u64.wrap x0_3))).tmod x0_4).toNat * 1 + 1 ≤ (encL c_bool x0_6).length := (Vw.whole c_bool_w x0_6).le b66.1 b66.2 (j := 0) (q := 1) (by decide)
            have g72 : 0 + ((IntKind.u64.wrap (x0_0 + (IntKind.u64.wrap x0_3))).tmod x0_4).toNat * 1 < (encL c_bool x0_6).length := (Vw.whole c_bool_w x0_6).lt b66.1 b66.2 (j := 0) (by decide)
            have g73 : (encL c_bool x0_6)[0 + ((IntKind.u64.wrap (x0_0 + (IntKind.u64.wrap x0_3))).tmod x0_4).toNat * 1]? = some (.sc (.bool (rd false x0_6 ((IntKind.u64.wrap (x0_0 + (IntKind.u64.wrap x0_3))).tmod x0_4)))) := (Vw.whole c_bool_w x0_6).get false 0 b66.1 b66.2 (by decide)
            have g74 : (encL c_bool x0_6).set (0 + ((IntKind.u64.wrap (x0_0 + (IntKind.u64.wrap x0_3))).tmod x0_4).toNat * 1) (.sc (.bool true)) = encL c_bool (x0_6.set ((IntKind.u64.wrap (x0_0 + (IntKind.u64.wrap x0_3))).tmod x0_4).toNat true) := encL_put c_bool_w false b66.1 b66.2 (j := 0) (by decide) rfl
            simp only [Nat.reduceEqDiff, Nat.reduceAdd, Nat.reduceMul, Nat.reduceLeDiff, Nat.reduceLT, Int.reduceLE, Int.reduceLT, Int.reduceGT, Int.reduceGE, Int.reduceEq, Int.reduceNe, Int.reduceToNat, reduceCtorEq, ak, b66, g71, g72, g73, g74]
            refine hJ64 _ ?_
            refine seq_k fun J75 hJ75 => ?_
            refine regD_k ?_
            obtain ⟨b76, h⟩ := of_guard h
            simp only [Nat.reduceEqDiff, Nat.reduceAdd, Nat.reduceMul, Nat.reduceLeDiff, Nat.reduceLT, Int.reduceLE, Int.reduceLT, Int.reduceGT, Int.reduceGE, Int.reduceEq, Int.reduceNe, Int.reduceToNat, reduceCtorEq, ak, b65, b76]
            refine alt_k ?_ trivial
            · have g81 : 0 + ((IntKind.u64.wrap (x0_0 + (IntKind.u64.wrap x0_3))).tmod x0_4).toNat * 1 + 1 ≤ (encL c_u8 x0_5).length := (Vw.whole c_u8_w x0_5).le b76.1 b76.2 (j := 0) (q := 1) (by decide)
              have g82 : 0 + ((IntKind.u64.wrap (x0_0 + (IntKind.u64.wrap x0_3))).tmod x0_4).toNat * 1 < (encL c_u8 x0_5).length := (Vw.whole c_u8_w x0_5).lt b76.1 b76.2 (j := 0) (by decide)
              have g83 : (encL c_u8 x0_5)[0 + ((IntKind.u64.wrap (x0_0 + (IntKind.u64.wrap x0_3))).tmod x0_4).toNat * 1]? = some (.sc (.int .u8 (rd 0 x0_5 ((IntKind.u64.wrap (x0_0 + (IntKind.u64.wrap x0_3))).tmod x0_4)))) := (Vw.whole c_u8_w x0_5).get 0 0 b76.1 b76.2 (by decide)
              have g84 : (encL c_u8 x0_5).set (0 + ((IntKind.u64.wrap (x0_0 + (IntKind.u64.wrap x0_3))).tmod x0_4).toNat * 1) (.sc (.int .u8 (rd 0 l2 x0_3))) = encL c_u8 (x0_5.set ((IntKind.u64.wrap (x0_0 + (IntKind.u64.wrap x0_3))).tmod x0_4).toNat (rd 0 l2 x0_3)) := encL_put c_u8_w 0 b76.1 b76.2 (j := 0) (by decide) rfl
              simp only [Nat.reduceEqDiff, Nat.reduceAdd, Nat.reduceMul, Nat.reduceLeDiff, Nat.reduceLT, Int.reduceLE, Int.reduceLT, Int.reduceGT, Int.reduceGE, Int.reduceEq, Int.reduceNe, Int.reduceToNat, reduceCtorEq, ak, b76, g81, g82, g83, g84]
              refine hJ75 _ ?_
              refine reg_k ?_
              simp only [Nat.reduceEqDiff, Nat.reduceAdd, Nat.reduceMul, Nat.reduceLeDiff, Nat.reduceLT, Int.reduceLE, Int.reduceLT, Int.reduceGT, Int.reduceGE, Int.reduceEq, Int.reduceNe, Int.reduceToNat, reduceCtorEq, ak]
              refine B48n _ ?_
              obtain rfl := Option.some.inj h
              refine G47n _ _ (((Weak.keep [0, 1, 6, 9, 58, 59, 60]).trans ((Weak.foc [(.arg 0, ⟨(.arg 0), [], none, .box⟩), (.arg 1, ⟨(.arg 1), [], none, .fz⟩), (.tmp 6 0, ⟨(.tmp 6 0), [], none, .box⟩)] rfl (by first | rfl | simp only [reduceCtorEq, Nat.reduceEqDiff, ak, akF, b50, b65, b66, b76]) (by simp [argK, akG, ak])).trans (Weak.of_eq (by first | rfl | (simp only [reduceCtorEq, Nat.reduceEqDiff, ak, akF, b50, b65, b66, b76]; done) | (simp [reduceCtorEq, Nat.reduceEqDiff, ak, akF, b50, b65, b66, b76]; done)))))) (hJ46 _ rfl)
        · rw [if_neg (Bool.eq_false_iff.1 c63)] at h
          refine B48n _ ?_
          obtain rfl := Option.some.inj h
          refine G47n _ _ (((Weak.keep [0, 1, 6, 9, 58, 59, 60]).trans ((Weak.foc [(.arg 0, ⟨(.arg 0), [], none, .box⟩), (.arg 1, ⟨(.arg 1), [], none, .fz⟩), (.tmp 6 0, ⟨(.tmp 6 0), [], none, .box⟩)] rfl (by first | rfl | simp only [reduceCtorEq, Nat.reduceEqDiff, ak, akF, b50]) (by simp [argK, akG, ak])).trans (Weak.of_eq (by first | rfl | (simp only [reduceCtorEq, Nat.reduceEqDiff, ak, akF, b50]; done) | (simp [reduceCtorEq, Nat.reduceEqDiff, ak, akF, b50]; done)))))) (hJ46 _ rfl)
    · replace h := hn; clear hn h45
      rintro _ rfl
      refine reg_k ?_
      simp only [Nat.reduceEqDiff, Nat.reduceAdd, Nat.reduceMul, Nat.reduceLeDiff, Nat.reduceLT, Int.reduceLE, Int.reduceLT, Int.reduceGT, Int.reduceGE, Int.reduceEq, Int.reduceNe, Int.reduceToNat, reduceCtorEq, ak]
      refine G0n _ (⟨[(0, .c (.ptr (.arg 0) [] 0)), (1, .c (.sc (.int .u64 x0_0))), (6, .c (.ptr (.tmp 6 0) [] 0)), (9, .c (.sc (.int .i64 j44.1))), (58, .c (.ref (.arg 1) [] o1 l2.length)), (59, .c (.sc (.int .i64 x0_2))), (60, .c (.sc (.int .i64 (IntKind.i64.wrap (x0_3 + 1)))))], [(.arg 0, ⟨.box, 0, [.sc (.int .u64 x0_4), .own 1 j44.2.1.length (encL c_u8 j44.2.1), .own 1 j44.2.2.length (encL c_bool j44.2.2), .sc (.int .u64 x0_7), .sc (.bool x0_8), .sc (.int .u64 x0_9)]⟩), (.arg 1, ⟨.fz, 1, cs1⟩), (.tmp 6 0, ⟨.box, 0, [.sc (.int .i64 x0_10), .sc (.int .i64 x0_11), .own 1 x0_12.length (encL c_u8 x0_12)]⟩)], [], []⟩) (((Weak.keep [0, 1, 6, 9, 58, 59, 60]).trans ((Weak.foc [(.arg 0, ⟨(.arg 0), [], none, .box⟩), (.arg 1, ⟨(.arg 1), [], none, .fz⟩), (.tmp 6 0, ⟨(.tmp 6 0), [], none, .box⟩)] rfl (by first | rfl | simp only [reduceCtorEq, Nat.reduceEqDiff, ak, akF]) (by simp [argK, akG, ak])).trans (Weak.of_eq (by first | rfl | (simp only [reduceCtorEq, Nat.reduceEqDiff, ak, akF]; done) | (simp [reduceCtorEq, Nat.reduceEqDiff, ak, akF]; done)))))) (ih _ _ _ _ _ h K hx0)
  · replace c43 := of_decide_eq_false c43; rw [if_neg c43] at h
    obtain rfl := Option.some.inj h
    refine gh_k (st' := ⟨[(6, .c (.ptr (.tmp 6 0) [] 0)), (9, .c (.sc (.int .i64 x0_1)))], [(.arg 0, ⟨.box, 0, [.sc (.int .u64 x0_4), .own 1 x0_5.length (encL c_u8 x0_5), .own 1 x0_6.length (encL c_bool x0_6), .sc (.int .u64 x0_7), .sc (.bool x0_8), .sc (.int .u64 x0_9)]⟩), (.arg 1, ⟨.fz, 1, cs1⟩), (.tmp 6 0, ⟨.box, 0, [.sc (.int .i64 x0_10), .sc (.int .i64 x0_11), .own 1 x0_12.length (encL c_u8 x0_12)]⟩)], [], []⟩) (((Weak.keep [6, 9]).trans ((Weak.foc [(.arg 0, ⟨(.arg 0), [], none, .box⟩), (.arg 1, ⟨(.arg 1), [], none, .fz⟩), (.tmp 6 0, ⟨(.tmp 6 0), [], none, .box⟩)] rfl (by first | rfl | simp only [reduceCtorEq, Nat.reduceEqDiff, ak, akF]) (by simp [argK, akG, ak])).trans (Weak.of_eq (by first | rfl | (simp only [reduceCtorEq, Nat.reduceEqDiff, ak, akF]; done) | (simp [reduceCtorEq, Nat.reduceEqDiff, ak, akF]; done)))))) ?_
    refine G0x _ _ ?_
    exact hx0
set_option maxRecDepth 100000 in
set_option maxHeartbeats 4000000 in
theorem impl_buffer_put.tri (cs1 : List Cell) (o1 : Nat) (l2 : List Int) (hv1 : Vw c_u8 1 cs1 o1 l2) (a0_0 : Int) (l0_1 : List Int) (l0_2 : List Bool) (a0_3 : Int) (a0_4 : Bool) (a0_5 : Int) (a1 : Int) (r : Int × Int × (List Int) × (List Int) × (List Bool)) (h : impl_buffer_put.f a0_0 l0_1 l0_2 a0_3 a0_4 a0_5 a1 l2 = some r) : Tri Try.prog 158 [.c (.ptr (.arg 0) [] 0), .c (.sc (.int .u64 a1)), .c (.ref (.arg 1) [] o1 l2.length)] [(.arg 0, ⟨.box, 0, [.sc (.int .u64 a0_0), .own 1 l0_1.length (encL c_u8 l0_1), .own 1 l0_2.length (encL c_bool l0_2), .sc (.int .u64 a0_3), .sc (.bool a0_4), .sc (.int .u64 a0_5)]⟩), (.arg 1, ⟨.fz, 1, cs1⟩)] (fun o => o = ⟨.g [.sc (.int .i64 r.1), .sc (.int .i64 r.2.1), .ref (.res 0) [] 0 r.2.2.1.length], [(.arg 0, ⟨.box, 0, [.sc (.int .u64 a0_0), .own 1 r.2.2.2.1.length (encL c_u8 r.2.2.2.1), .own 1 r.2.2.2.2.length (encL c_bool r.2.2.2.2), .sc (.int .u64 a0_3), .sc (.bool a0_4), .sc (.int .u64 a0_5)]⟩), (.arg 1, ⟨.fz, 1, cs1⟩), (.res 0, ⟨.lst, 1, encL c_u8 r.2.2.1⟩)], [], []⟩) := by
  refine tri_of_body (ac := c158) (xs := r158) Try.func158 (show Try.f158.body = some (Try.f158.body.getD .skip) from rfl) k158 q158 (Nat.le_of_ble_eq_true rfl) ?_
  refine body_of fun K hKn hKr => ?_
  unfold impl_buffer_put.f at h
  unfold c158
  simp only [initT, Nat.reduceAdd]
  refine seq_k fun J1 hJ1 => ?_
  refine reg_k ?_
  simp only [Nat.reduceEqDiff, Nat.reduceAdd, Nat.reduceMul, Nat.reduceLeDiff, Nat.reduceLT, Int.reduceLE, Int.reduceLT, Int.reduceGT, Int.reduceGE, Int.reduceEq, Int.reduceNe, Int.reduceToNat, reduceCtorEq, ak]
  refine gho_k (Weak.own (.tmp 6 0) (cs' := [.sc (.int .i64 0), .sc (.int .i64 0), .own 1 (([] : List Int).length) (encL c_u8 ([] : List Int))]) rfl ⟨.inl rfl, .inl rfl, .inr ⟨rfl, _, rfl⟩, trivial⟩) ?_
  simp only [Nat.reduceEqDiff, Nat.reduceAdd, Nat.reduceMul, Nat.reduceLeDiff, Nat.reduceLT, Int.reduceLE, Int.reduceLT, Int.reduceGT, Int.reduceGE, Int.reduceEq, Int.reduceNe, Int.reduceToNat, reduceCtorEq, ak]
  refine hJ1 _ ?_
  refine seq_k fun J2 hJ2 => ?_
  refine reg_k ?_
  simp only [Nat.reduceEqDiff, Nat.reduceAdd, Nat.reduceMul, Nat.reduceLeDiff, Nat.reduceLT, Int.reduceLE, Int.reduceLT, Int.reduceGT, Int.reduceGE, Int.reduceEq, Int.reduceNe, Int.reduceToNat, reduceCtorEq, ak]
  refine hJ2 _ ?_
  refine seq_k fun J3 hJ3 => ?_
  obtain ⟨j4, h5, hn⟩ := of_bind h
  refine seq_j (fun st => st = ⟨[(0, .c (.ptr (.arg 0) [] 0)), (1, .c (.sc (.int .u64 a1))), (2, .c (.ref (.arg 1) [] o1 l2.length)), (6, .c (.ptr (.tmp 6 0) [] 0)), (7, .c (.sc (.int .u64 (IntKind.u64.wrap (l2.length : Int))))), (21, .c (.sc (.bool j4)))], [(.arg 0, ⟨.box, 0, [.sc (.int .u64 a0_0), .own 1 l0_1.length (encL c_u8 l0_1), .own 1 l0_2.length (encL c_bool l0_2), .sc (.int .u64 a0_3), .sc (.bool a0_4), .sc (.int .u64 a0_5)]⟩), (.arg 1, ⟨.fz, 1, cs1⟩), (.tmp 6 0, ⟨.box, 0, [.sc (.int .i64 0), .sc (.int .i64 0), .own 1 (([] : List Int).length) (encL c_u8 ([] : List Int))]⟩)], [], []⟩) (fun J6 hJ6 => ?_) ?_
  · replace h := h5; clear hn
    refine ga_k fun G7 G7n G7r G7x => ?_
    refine reg_k ?_
    simp only [Nat.reduceEqDiff, Nat.reduceAdd, Nat.reduceMul, Nat.reduceLeDiff, Nat.reduceLT, Int.reduceLE, Int.reduceLT, Int.reduceGT, Int.reduceGE, Int.reduceEq, Int.reduceNe, Int.reduceToNat, reduceCtorEq, ak]
    by_cases c8 : IntKind.u64.wrap (l2.length : Int) = 0
    · rw [if_pos c8] at h
      have e9 : decide (IntKind.u64.wrap (l2.length : Int) = 0) = true := decide_eq_true c8
      simp only [Nat.reduceEqDiff, Nat.reduceAdd, Nat.reduceMul, Nat.reduceLeDiff, Nat.reduceLT, Int.reduceLE, Int.reduceLT, Int.reduceGT, Int.reduceGE, Int.reduceEq, Int.reduceNe, Int.reduceToNat, reduceCtorEq, ak, e9]
      obtain rfl := Option.some.inj h
      refine G7n _ _ (((Weak.keep [0, 1, 2, 6, 7, 21]).trans ((Weak.foc [(.arg 0, ⟨(.arg 0), [], none, .box⟩), (.arg 1, ⟨(.arg 1), [], none, .fz⟩), (.tmp 6 0, ⟨(.tmp 6 0), [], none, .box⟩)] rfl (by first | rfl | simp only [reduceCtorEq, Nat.reduceEqDiff, ak, akF, e9]) (by simp [argK, akG, ak])).trans (Weak.of_eq (by first | rfl | (simp only [reduceCtorEq, Nat.reduceEqDiff, ak, akF, e9]; done) | (simp [reduceCtorEq, Nat.reduceEqDiff, ak, akF, e9]; done)))))) (hJ6 _ rfl)
    · rw [if_neg c8] at h
      have e10 : decide (IntKind.u64.wrap (l2.length : Int) = 0) = false := decide_eq_false c8
      simp only [Nat.reduceEqDiff, Nat.reduceAdd, Nat.reduceMul, Nat.reduceLeDiff, Nat.reduceLT, Int.reduceLE, Int.reduceLT, Int.reduceGT, Int.reduceGE, Int.reduceEq, Int.reduceNe, Int.reduceToNat, reduceCtorEq, ak, e10]
      obtain rfl := Option.some.inj h
      refine G7n _ _ (((Weak.keep [0, 1, 2, 6, 7, 21]).trans ((Weak.foc [(.arg 0, ⟨(.arg 0), [], none, .box⟩), (.arg 1, ⟨(.arg 1), [], none, .fz⟩), (.tmp 6 0, ⟨(.tmp 6 0), [], none, .box⟩)] rfl (by first | rfl | simp only [reduceCtorEq, Nat.reduceEqDiff, ak, akF, e10]) (by simp [argK, akG, ak])).trans (Weak.of_eq (by first | rfl | (simp only [reduceCtorEq, Nat.reduceEqDiff, ak, akF, e10]; done) | (simp [reduceCtorEq, Nat.reduceEqDiff, ak, akF, e10]; done)))))) (hJ6 _ rfl)
  · replace h := hn; clear hn h5
    rintro _ rfl
    refine cond_k (b := j4) rfl (fun c11 => ?_) (fun c11 => ?_)
    · rw [if_pos c11] at h
      refine seq_k fun J12 hJ12 => ?_
      refine reg_k ?_
      simp only [Nat.reduceEqDiff, Nat.reduceAdd, Nat.reduceMul, Nat.reduceLeDiff, Nat.reduceLT, Int.reduceLE, Int.reduceLT, Int.reduceGT, Int.reduceGE, Int.reduceEq, Int.reduceNe, Int.reduceToNat, reduceCtorEq, ak]
      refine gho_k (Weak.nmg' 22 2 (.tmp 22 22) 1 (encL c_u8 ([] : List Int)) rfl rfl rfl rfl) ?_
      have g13 : (encL c_u8 ([] : List Int)).length = 0 * 1 := by simp [encL_length c_u8_w]
      simp only [Nat.reduceEqDiff, Nat.reduceAdd, Nat.reduceMul, Nat.reduceLeDiff, Nat.reduceLT, Int.reduceLE, Int.reduceLT, Int.reduceGT, Int.reduceGE, Int.reduceEq, Int.reduceNe, Int.reduceToNat, reduceCtorEq, ak, g13]
      refine hJ12 _ ?_
      obtain rfl := Option.some.inj h
      refine hKr _ ⟨_, rfl, [⟨(.tmp 6 0), [2], none, .lst⟩], _, rfl, rfl, ?_⟩
      first | rfl | (simp only [reduceCtorEq, Nat.reduceEqDiff, ak, akF]; done) | (simp [reduceCtorEq, Nat.reduceEqDiff, ak, akF]; done)
    · rw [if_neg (Bool.eq_false_iff.1 c11)] at h
      refine hJ3 _ ?_
      refine seq_k fun J14 hJ14 => ?_
      refine regD_k ?_
      simp only [Nat.reduceEqDiff, Nat.reduceAdd, Nat.reduceMul, Nat.reduceLeDiff, Nat.reduceLT, Int.reduceLE, Int.reduceLT, Int.reduceGT, Int.reduceGE, Int.reduceEq, Int.reduceNe, Int.reduceToNat, reduceCtorEq, ak]
      refine hJ14 _ ?_
      refine seq_k fun J15 hJ15 => ?_
      obtain ⟨j16, h17, hn⟩ := of_bind h
      refine seq_j (fun st => st = ⟨[(0, .c (.ptr (.arg 0) [] 0)), (1, .c (.sc (.int .u64 a1))), (2, .c (.ref (.arg 1) [] o1 l2.length)), (6, .c (.ptr (.tmp 6 0) [] 0)), (7, .c (.sc (.int .u64 (IntKind.u64.wrap (l2.length : Int))))), (41, .c (.sc (.bool j16)))], [(.arg 0, ⟨.box, 0, [.sc (.int .u64 a0_0), .own 1 l0_1.length (encL c_u8 l0_1), .own 1 l0_2.length (encL c_bool l0_2), .sc (.int .u64 a0_3), .sc (.bool a0_4), .sc (.int .u64 a0_5)]⟩), (.arg 1, ⟨.fz, 1, cs1⟩), (.tmp 6 0, ⟨.box, 0, [.sc (.int .i64 0), .sc (.int .i64 0), .own 1 (([] : List Int).length) (encL c_u8 ([] : List Int))]⟩)], [], []⟩) (fun J18 hJ18 => ?_) ?_
      · replace h := h17; clear hn
        refine ga_k fun G19 G19n G19r G19x => ?_
        refine reg_k ?_
        simp only [Nat.reduceEqDiff, Nat.reduceAdd, Nat.reduceMul, Nat.reduceLeDiff, Nat.reduceLT, Int.reduceLE, Int.reduceLT, Int.reduceGT, Int.reduceGE, Int.reduceEq, Int.reduceNe, Int.reduceToNat, reduceCtorEq, ak]
        by_cases c20 : a1 > IntKind.u64.wrap (a0_3 + a0_0)
        · rw [if_pos c20] at h
          have e21 : decide (a1 > IntKind.u64.wrap (a0_3 + a0_0)) = true := decide_eq_true c20
          simp only [Nat.reduceEqDiff, Nat.reduceAdd, Nat.reduceMul, Nat.reduceLeDiff, Nat.reduceLT, Int.reduceLE, Int.reduceLT, Int.reduceGT, Int.reduceGE, Int.reduceEq, Int.reduceNe, Int.reduceToNat, reduceCtorEq, ak, e21]
          obtain rfl := Option.some.inj h
          refine G19n _ _ (((Weak.keep [0, 1, 2, 6, 7, 41]).trans ((Weak.foc [(.arg 0, ⟨(.arg 0), [], none, .box⟩), (.arg 1, ⟨(.arg 1), [], none, .fz⟩), (.tmp 6 0, ⟨(.tmp 6 0), [], none, .box⟩)] rfl (by first | rfl | simp only [reduceCtorEq, Nat.reduceEqDiff, ak, akF, e21]) (by simp [argK, akG, ak])).trans (Weak.of_eq (by first | rfl | (simp only [reduceCtorEq, Nat.reduceEqDiff, ak, akF, e21]; done) | (simp [reduceCtorEq, Nat.reduceEqDiff, ak, akF, e21]; done)))))) (hJ18 _ rfl)
        · rw [if_neg c20] at h
          have e22 : decide (a1 > IntKind.u64.wrap (a0_3 + a0_0)) = false := decide_eq_false c20
          simp only [Nat.reduceEqDiff, Nat.reduceAdd, Nat.reduceMul, Nat.reduceLeDiff, Nat.reduceLT, Int.reduceLE, Int.reduceLT, Int.reduceGT, Int.reduceGE, Int.reduceEq, Int.reduceNe, Int.reduceToNat, reduceCtorEq, ak, e22]
          obtain rfl := Option.some.inj h
          refine G19n _ _ (((Weak.keep [0, 1, 2, 6, 7, 41]).trans ((Weak.foc [(.arg 0, ⟨(.arg 0), [], none, .box⟩), (.arg 1, ⟨(.arg 1), [], none, .fz⟩), (.tmp 6 0, ⟨(.tmp 6 0), [], none, .box⟩)] rfl (by first | rfl | simp only [reduceCtorEq, Nat.reduceEqDiff, ak, akF, e22]) (by simp [argK, akG, ak])).trans (Weak.of_eq (by first | rfl | (simp only [reduceCtorEq, Nat.reduceEqDiff, ak, akF, e22]; done) | (simp [reduceCtorEq, Nat.reduceEqDiff, ak, akF, e22]; done)))))) (hJ18 _ rfl)
      · replace h := hn; clear hn h17
        rintro _ rfl
        refine cond_k (b := j16) rfl (fun c23 => ?_) (fun c23 => ?_)
        · rw [if_pos c23] at h
          refine seq_k fun J24 hJ24 => ?_
          refine reg_k ?_
          simp only [Nat.reduceEqDiff, Nat.reduceAdd, Nat.reduceMul, Nat.reduceLeDiff, Nat.reduceLT, Int.reduceLE, Int.reduceLT, Int.reduceGT, Int.reduceGE, Int.reduceEq, Int.reduceNe, Int.reduceToNat, reduceCtorEq, ak]
          refine gho_k (Weak.nmg' 42 2 (.tmp 42 22) 1 (encL c_u8 ([] : List Int)) rfl rfl rfl rfl) ?_
          have g25 : (encL c_u8 ([] : List Int)).length = 0 * 1 := by simp [encL_length c_u8_w]
          simp only [Nat.reduceEqDiff, Nat.reduceAdd, Nat.reduceMul, Nat.reduceLeDiff, Nat.reduceLT, Int.reduceLE, Int.reduceLT, Int.reduceGT, Int.reduceGE, Int.reduceEq, Int.reduceNe, Int.reduceToNat, reduceCtorEq, ak, g25]
          refine hJ24 _ ?_
          obtain rfl := Option.some.inj h
          refine hKr _ ⟨_, rfl, [⟨(.tmp 6 0), [2], none, .lst⟩], _, rfl, rfl, ?_⟩
          first | rfl | (simp only [reduceCtorEq, Nat.reduceEqDiff, ak, akF]; done) | (simp [reduceCtorEq, Nat.reduceEqDiff, ak, akF]; done)
        · rw [if_neg (Bool.eq_false_iff.1 c23)] at h
          refine hJ15 _ ?_
          refine seq_k fun J26 hJ26 => ?_
          obtain ⟨j27, h28, hn⟩ := of_bind h
          refine seq_j (fun st => st = ⟨[(0, .c (.ptr (.arg 0) [] 0)), (1, .c (.sc (.int .u64 a1))), (2, .c (.ref (.arg 1) [] o1 l2.length)), (6, .c (.ptr (.tmp 6 0) [] 0)), (56, .c (.sc (.bool j27)))], [(.arg 0, ⟨.box, 0, [.sc (.int .u64 a0_0), .own 1 l0_1.length (encL c_u8 l0_1), .own 1 l0_2.length (encL c_bool l0_2), .sc (.int .u64 a0_3), .sc (.bool a0_4), .sc (.int .u64 a0_5)]⟩), (.arg 1, ⟨.fz, 1, cs1⟩), (.tmp 6 0, ⟨.box, 0, [.sc (.int .i64 0), .sc (.int .i64 0), .own 1 (([] : List Int).length) (encL c_u8 ([] : List Int))]⟩)], [], []⟩) (fun J29 hJ29 => ?_) ?_
          · replace h := h28; clear hn
            refine ga_k fun G30 G30n G30r G30x => ?_
            refine reg_k ?_
            simp only [Nat.reduceEqDiff, Nat.reduceAdd, Nat.reduceMul, Nat.reduceLeDiff, Nat.reduceLT, Int.reduceLE, Int.reduceLT, Int.reduceGT, Int.reduceGE, Int.reduceEq, Int.reduceNe, Int.reduceToNat, reduceCtorEq, ak]
            by_cases c31 : a0_4 = true
            · rw [if_pos c31] at h
              have e32 : (a0_4) = true := c31
              simp only [Nat.reduceEqDiff, Nat.reduceAdd, Nat.reduceMul, Nat.reduceLeDiff, Nat.reduceLT, Int.reduceLE, Int.reduceLT, Int.reduceGT, Int.reduceGE, Int.reduceEq, Int.reduceNe, Int.reduceToNat, reduceCtorEq, ak, e32]
              obtain rfl := Option.some.inj h
              refine G30n _ _ (((Weak.keep [0, 1, 2, 6, 56]).trans ((Weak.foc [(.arg 0, ⟨(.arg 0), [], none, .box⟩), (.arg 1, ⟨(.arg 1), [], none, .fz⟩), (.tmp 6 0, ⟨(.tmp 6 0), [], none, .box⟩)] rfl (by first | rfl | simp only [reduceCtorEq, Nat.reduceEqDiff, ak, akF, e32]) (by simp [argK, akG, ak])).trans (Weak.of_eq (by first | rfl | (simp only [reduceCtorEq, Nat.reduceEqDiff, ak, akF, e32]; done) | (simp [reduceCtorEq, Nat.reduceEqDiff, ak, akF, e32]; done)))))) (hJ29 _ rfl)
            · rw [if_neg c31] at h
              have e33 : (a0_4) = false := Bool.eq_false_iff.2 c31
              simp only [Nat.reduceEqDiff, Nat.reduceAdd, Nat.reduceMul, Nat.reduceLeDiff, Nat.reduceLT, Int.reduceLE, Int.reduceLT, Int.reduceGT, Int.reduceGE, Int.reduceEq, Int.reduceNe, Int.reduceToNat, reduceCtorEq, ak, e33]
              obtain rfl := Option.some.inj h
              refine G30n _ _ (((Weak.keep [0, 1, 2, 6, 56]).trans ((Weak.foc [(.arg 0, ⟨(.arg 0), [], none, .box⟩), (.arg 1, ⟨(.arg 1), [], none, .fz⟩), (.tmp 6 0, ⟨(.tmp 6 0), [], none, .box⟩)] rfl (by first | rfl | simp only [reduceCtorEq, Nat.reduceEqDiff, ak, akF, e33]) (by simp [argK, akG, ak])).trans (Weak.of_eq (by first | rfl | (simp only [reduceCtorEq, Nat.reduceEqDiff, ak, akF, e33]; done) | (simp [reduceCtorEq, Nat.reduceEqDiff, ak, akF, e33]; done)))))) (hJ29 _ rfl)
          · replace h := hn; clear hn h28
            rintro _ rfl
            refine cond_k (b := j27) rfl (fun c34 => ?_) (fun c34 => ?_)
            · rw [if_pos c34] at h
              refine seq_k fun J35 hJ35 => ?_
              refine reg_k ?_
              simp only [Nat.reduceEqDiff, Nat.reduceAdd, Nat.reduceMul, Nat.reduceLeDiff, Nat.reduceLT, Int.reduceLE, Int.reduceLT, Int.reduceGT, Int.reduceGE, Int.reduceEq, Int.reduceNe, Int.reduceToNat, reduceCtorEq, ak]
              refine gho_k (Weak.nmg' 57 2 (.tmp 57 22) 1 (encL c_u8 ([] : List Int)) rfl rfl rfl rfl) ?_
              have g36 : (encL c_u8 ([] : List Int)).length = 0 * 1 := by simp [encL_length c_u8_w]
              simp only [Nat.reduceEqDiff, Nat.reduceAdd, Nat.reduceMul, Nat.reduceLeDiff, Nat.reduceLT, Int.reduceLE, Int.reduceLT, Int.reduceGT, Int.reduceGE, Int.reduceEq, Int.reduceNe, Int.reduceToNat, reduceCtorEq, ak, g36]
              refine hJ35 _ ?_
              obtain rfl := Option.some.inj h
              refine hKr _ ⟨_, rfl, [⟨(.tmp 6 0), [2], none, .lst⟩], _, rfl, rfl, ?_⟩
              first | rfl | (simp only [reduceCtorEq, Nat.reduceEqDiff, ak, akF]; done) | (simp [reduceCtorEq, Nat.reduceEqDiff, ak, akF]; done)
            · rw [if_neg (Bool.eq_false_iff.1 c34)] at h
              refine hJ26 _ ?_
              refine seq_k fun J37 hJ37 => ?_
              refine reg_k ?_
              simp only [Nat.reduceEqDiff, Nat.reduceAdd, Nat.reduceMul, Nat.reduceLeDiff, Nat.reduceLT, Int.reduceLE, Int.reduceLT, Int.reduceGT, Int.reduceGE, Int.reduceEq, Int.reduceNe, Int.reduceToNat, reduceCtorEq, ak]
              refine hJ37 _ ?_
              refine seq_k fun J38 hJ38 => ?_
              refine seq_k fun J39 hJ39 => ?_
              refine reg_k ?_
              simp only [Nat.reduceEqDiff, Nat.reduceAdd, Nat.reduceMul, Nat.reduceLeDiff, Nat.reduceLT, Int.reduceLE, Int.reduceLT, Int.reduceGT, Int.reduceGE, Int.reduceEq, Int.reduceNe, Int.reduceToNat, reduceCtorEq, ak]
              refine hJ39 _ ?_
              refine block_k fun B40 B40n B40x B40r B40j => ?_
              obtain ⟨y85, h86, h⟩ := of_bind h
              refine gh_k (st' := ⟨[(0, .c (.ptr (.arg 0) [] 0)), (1, .c (.sc (.int .u64 a1))), (6, .c (.ptr (.tmp 6 0) [] 0)), (9, .c (.sc (.int .i64 0))), (58, .c (.ref (.arg 1) [] o1 l2.length)), (59, .c (.sc (.int .i64 (l2.length : Int)))), (60, .c (.sc (.int .i64 0)))], [(.arg 0, ⟨.box, 0, [.sc (.int .u64 a0_0), .own 1 l0_1.length (encL c_u8 l0_1), .own 1 l0_2.length (encL c_bool l0_2), .sc (.int .u64 a0_3), .sc (.bool a0_4), .sc (.int .u64 a0_5)]⟩), (.arg 1, ⟨.fz, 1, cs1⟩), (.tmp 6 0, ⟨.box, 0, [.sc (.int .i64 0), .sc (.int .i64 0), .own 1 (([] : List Int).length) (encL c_u8 ([] : List Int))]⟩)], [], []⟩) (((Weak.keep [0, 1, 6, 9, 58, 59, 60]).trans ((Weak.foc [(.arg 0, ⟨(.arg 0), [], none, .box⟩), (.arg 1, ⟨(.arg 1), [], none, .fz⟩), (.tmp 6 0, ⟨(.tmp 6 0), [], none, .box⟩)] rfl (by first | rfl | simp only [reduceCtorEq, Nat.reduceEqDiff, ak, akF]) (by simp [argK, akG, ak])).trans (Weak.of_eq (by first | rfl | (simp only [reduceCtorEq, Nat.reduceEqDiff, ak, akF]; done) | (simp [reduceCtorEq, Nat.reduceEqDiff, ak, akF]; done)))))) ?_
              rw [e_loop]
              refine impl_buffer_put.l0_walk cs1 o1 l2 hv1 a1 (l2.length : Int) a0_0 a0_3 a0_4 a0_5 0 0 ([] : List Int) 0 0 l0_1 l0_2 _ h86 _ ?_
              refine B40x _ ?_
              refine hJ38 _ ?_
              refine seq_k fun J87 hJ87 => ?_
              refine reg_k ?_
              simp only [Nat.reduceEqDiff, Nat.reduceAdd, Nat.reduceMul, Nat.reduceLeDiff, Nat.reduceLT, Int.reduceLE, Int.reduceLT, Int.reduceGT, Int.reduceGE, Int.reduceEq, Int.reduceNe, Int.reduceToNat, reduceCtorEq, ak]
              refine gho_k (Weak.nmg' 117 2 (.tmp 117 22) 1 (encL c_u8 ([] : List Int)) rfl rfl rfl rfl) ?_
              have g88 : (encL c_u8 ([] : List Int)).length = 0 * 1 := by simp [encL_length c_u8_w]
              simp only [Nat.reduceEqDiff, Nat.reduceAdd, Nat.reduceMul, Nat.reduceLeDiff, Nat.reduceLT, Int.reduceLE, Int.reduceLT, Int.reduceGT, Int.reduceGE, Int.reduceEq, Int.reduceNe, Int.reduceToNat, reduceCtorEq, ak, g88]
              refine hJ87 _ ?_
              obtain rfl := Option.some.inj h
              refine hKr _ ⟨_, rfl, [⟨(.tmp 6 0), [2], none, .lst⟩], _, rfl, rfl, ?_⟩
              first | rfl | (simp only [reduceCtorEq, Nat.reduceEqDiff, ak, akF]; done) | (simp [reduceCtorEq, Nat.reduceEqDiff, ak, akF]; done)
/-! ### (*impl.buffer).end: function 159 -/
def c159_l0 : AC := .seq (.seq (.regD (.first (.op none (.mv 28 (.tmp 5))) (.first (.op none (.mv 29 (.tmp 0))) (.first (.op none (.nilc 30 (.tmp 29))) (.first (.op none (.faddr 31 3 (.tmp 30))) (.first (.op none (.load 32 false 1 (.tmp 31))) (.first (.op none (.mv 33 (.tmp 0))) (.first (.op none (.nilc 34 (.tmp 33))) (.first (.op none (.faddr 35 0 (.tmp 34))) (.first (.op none (.load 36 false 1 (.tmp 35))) (.first (.op none (.bin 37 .add (.tmp 32) (.tmp 36))) (.first (.op none (.bin 38 .lss (.tmp 28) (.tmp 37))) (.done)))))))))))) [0, 1, 4, 5, 38]) (.cond (.tmp 38) (.skip) (.gh (.exit 0)))) (.seq (.block 1 (.seq (.regD (.first (.op none (.mv 41 (.tmp 0))) (.first (.op none (.nilc 42 (.tmp 41))) (.first (.op none (.faddr 43 2 (.tmp 42))) (.first (.op none (.load 44 false 1 (.tmp 43))) (.first (.op none (.mv 45 (.tmp 5))) (.first (.op none (.mv 46 (.tmp 0))) (.first (.op none (.nilc 47 (.tmp 46))) (.first (.op none (.faddr 48 0 (.tmp 47))) (.first (.op none (.load 49 false 1 (.tmp 48))) (.first (.op none (.bin 50 .rem (.tmp 45) (.tmp 49))) (.first (.op none (.iaddr 51 1 (.tmp 44) (.tmp 50))) (.first (.op none (.load 52 false 1 (.tmp 51))) (.done))))))))))))) [0, 1, 4, 5, 52]) (.cond (.tmp 52) (.seq (.reg [.op none (.build 53 [.int .i64 0, .int .i64 0, .slice none 0 0] [(0, 1, .const (.int .i64 12))]), .gh, .op none (.store 3 (.tmp 4) (.tmp 53)), .keep [4]]) (.gh .ret)) (.skip)))) (.reg [.op none (.mv 39 (.tmp 5)), .op none (.bin 40 .add (.tmp 39) (.const (.int .u64 1))), .op none (.mv 5 (.tmp 40)), .keep [0, 1, 4, 5]]))
def c159 : AC := .seq (.reg [.op none (.alloc 4 [.int .i64 0, .int .i64 0, .slice none 0 0]), .gh, .keep [0, 1, 4]]) (.seq (.seq (.ga (.reg [.op none (.mv 6 (.tmp 0)), .op none (.nilc 7 (.tmp 6)), .op none (.faddr 8 4 (.tmp 7)), .op none (.load 9 false 1 (.tmp 8)), .op none (.mv 10 (.tmp 9)), .op (some (10, true)) (.mv 11 (.tmp 0)), .op (some (10, true)) (.nilc 12 (.tmp 11)), .op (some (10, true)) (.faddr 13 5 (.tmp 12)), .op (some (10, true)) (.load 14 false 1 (.tmp 13)), .op (some (10, true)) (.mv 15 (.tmp 1)), .op (some (10, true)) (.bin 16 .neq (.tmp 14) (.tmp 15)), .op none (.pick 17 (.tmp 10) (.tmp 16) (.const (.bool false))), .op none (.mv 18 (.tmp 17)), .op (some (18, false)) (.mv 19 (.tmp 1)), .op (some (18, false)) (.mv 20 (.tmp 0)), .op (some (18, false)) (.nilc 21 (.tmp 20)), .op (some (18, false)) (.faddr 22 3 (.tmp 21)), .op (some (18, false)) (.load 23 false 1 (.tmp 22)), .op (some (18, false)) (.bin 24 .lss (.tmp 19) (.tmp 23)), .op none (.pick 25 (.tmp 18) (.const (.bool true)) (.tmp 24)), .keep [0, 1, 4, 25]])) (.cond (.tmp 25) (.seq (.reg [.op none (.build 26 [.int .i64 0, .int .i64 0, .slice none 0 0] [(0, 1, .const (.int .i64 12))]), .gh, .op none (.store 3 (.tmp 4) (.tmp 26)), .keep [4]]) (.ret)) (.skip))) (.seq (.seq (.reg [.op none (.mv 27 (.tmp 1)), .op none (.mv 5 (.tmp 27)), .keep [0, 1, 4, 5]]) (.block 0 (.gh (.loop (.ga c159_l0))))) (.seq (.seq (.regD (.first (.op none (.mv 54 (.tmp 1))) (.first (.op none (.mv 55 (.tmp 0))) (.first (.op none (.nilc 56 (.tmp 55))) (.first (.op none (.faddr 57 3 (.tmp 56))) (.first (.op none (.load 58 false 1 (.tmp 57))) (.first (.op none (.mv 59 (.tmp 0))) (.first (.op none (.nilc 60 (.tmp 59))) (.first (.op none (.faddr 61 0 (.tmp 60))) (.first (.op none (.load 62 false 1 (.tmp 61))) (.first (.op none (.bin 63 .add (.tmp 58) (.tmp 62))) (.first (.op none (.bin 64 .gtr (.tmp 54) (.tmp 63))) (.done)))))))))))) [0, 1, 4, 64]) (.cond (.tmp 64) (.seq (.reg [.op none (.build 65 [.int .i64 0, .int .i64 0, .slice none 0 0] [(0, 1, .const (.int .i64 4))]), .gh, .op none (.store 3 (.tmp 4) (.tmp 65)), .keep [4]]) (.ret)) (.skip))) (.seq (.reg [.op none (.mv 66 (.tmp 0)), .op none (.nilc 67 (.tmp 66)), .op none (.faddr 68 4 (.tmp 67)), .op none (.store 1 (.tmp 68) (.const (.bool true))), .keep [0, 1, 4]]) (.seq (.reg [.op none (.mv 69 (.tmp 0)), .op none (.mv 70 (.tmp 1)), .op none (.nilc 71 (.tmp 69)), .op none (.faddr 72 5 (.tmp 71)), .op none (.store 1 (.tmp 72) (.tmp 70)), .keep [4]]) (.seq (.reg [.op none (.build 73 [.int .i64 0, .int .i64 0, .slice none 0 0] []), .gh, .op none (.store 3 (.tmp 4) (.tmp 73)), .keep [4]]) (.ret)))))))
def r159 : List RV := [.cell 4 true 3]
theorem k159 : compC Try.prog 74 (Try.f159.body.getD .skip) = some c159.erase := by kernel_rfl
theorem q159 : rvsOf Try.prog Try.f159.results.toList = some r159 := by kernel_rfl
def impl_buffer_end.l0 (x0_0 : Int) (x0_2 : Int) (x0_3 : (List Int)) (x0_4 : (List Bool)) (x0_5 : Int) (x0_6 : Bool) (x0_7 : Int) (x0_8 : Int) (x0_9 : Int) (x0_10 : (List Int)) (x0_1 : Int) : Option (Lp Unit (List Int)) := (if x0_1 < IntKind.u64.wrap (x0_5 + x0_2) then (if ¬ x0_2 = 0 then (if 0 ≤ x0_1.tmod x0_2 ∧ x0_1.tmod x0_2 < (x0_4.length : Int) then (if (rd false x0_4 (x0_1.tmod x0_2)) = true then (some (.b ([] : List Int))) else (impl_buffer_end.l0 x0_0 x0_2 x0_3 x0_4 x0_5 x0_6 x0_7 x0_8 x0_9 x0_10 (IntKind.u64.wrap (x0_1 + 1)))) else none) else none) else (some (.a ())))
  partial_fixpoint
def impl_buffer_end.f (a0_0 : Int) (l0_1 : List Int) (l0_2 : List Bool) (a0_3 : Int) (a0_4 : Bool) (a0_5 : Int) (a1 : Int) : Option (Int × Int × (List Int) × Bool × Int) := ((if a0_4 = true then (if a0_5 ≠ a1 then (some true) else (some (decide (a1 < a0_3)))) else (some (decide (a1 < a0_3)))) >>= fun (j3 : Bool) => (if j3 = true then (some (12, 0, ([] : List Int), a0_4, a0_5)) else (impl_buffer_end.l0 a1 a0_0 l0_1 l0_2 a0_3 a0_4 a0_5 0 0 ([] : List Int) a1 >>= fun (y31 : Lp Unit (List Int)) => match y31 with | .a x33 => (if a1 > IntKind.u64.wrap (a0_3 + a0_0) then (some (4, 0, ([] : List Int), a0_4, a0_5)) else (some (0, 0, ([] : List Int), true, a1))) | .b x33 => (some (12, 0, x33, a0_4, a0_5)))))
set_option maxRecDepth 100000 in
set_option maxHeartbeats 4000000 in
theorem impl_buffer_end.l0_walk (x0_0 : Int) (x0_2 : Int) (x0_3 : (List Int)) (x0_4 : (List Bool)) (x0_5 : Int) (x0_6 : Bool) (x0_7 : Int) (x0_8 : Int) (x0_9 : Int) (x0_10 : (List Int)) (x0_1 : Int) (y : Lp Unit (List Int)) (h : impl_buffer_end.l0 x0_0 x0_2 x0_3 x0_4 x0_5 x0_6 x0_7 x0_8 x0_9 x0_10 x0_1 = some y) (K : AE → St → Prop) (hx0 : ∀ x, y = .a x → K (.exit 0) ⟨[(0, .c (.ptr (.arg 0) [] 0)), (1, .c (.sc (.int .u64 x0_0))), (4, .c (.ptr (.tmp 4 0) [] 0))], [(.arg 0, ⟨.box, 0, [.sc (.int .u64 x0_2), .own 1 x0_3.length (encL c_u8 x0_3), .own 1 x0_4.length (encL c_bool x0_4), .sc (.int .u64 x0_5), .sc (.bool x0_6), .sc (.int .u64 x0_7)]⟩), (.tmp 4 0, ⟨.box, 0, [.sc (.int .i64 x0_8), .sc (.int .i64 x0_9), .own 1 x0_10.length (encL c_u8 x0_10)]⟩)], [], []⟩) (hx1 : ∀ x, y = .b x → K .ret ⟨[(4, .c (.ptr (.tmp 4 0) [] 0))], [(.arg 0, ⟨.box, 0, [.sc (.int .u64 x0_2), .own 1 x0_3.length (encL c_u8 x0_3), .own 1 x0_4.length (encL c_bool x0_4), .sc (.int .u64 x0_5), .sc (.bool x0_6), .sc (.int .u64 x0_7)]⟩), (.tmp 4 0, ⟨.box, 0, [.sc (.int .i64 12), .sc (.int .i64 0), .own 1 x.length (encL c_u8 x)]⟩)], [], []⟩) : loopS Try.prog 74 (.ga c159_l0) K ⟨[(0, .c (.ptr (.arg 0) [] 0)), (1, .c (.sc (.int .u64 x0_0))), (4, .c (.ptr (.tmp 4 0) [] 0)), (5, .c (.sc (.int .u64 x0_1)))], [(.arg 0, ⟨.box, 0, [.sc (.int .u64 x0_2), .own 1 x0_3.length (encL c_u8 x0_3), .own 1 x0_4.length (encL c_bool x0_4), .sc (.int .u64 x0_5), .sc (.bool x0_6), .sc (.int .u64 x0_7)]⟩), (.tmp 4 0, ⟨.box, 0, [.sc (.int .i64 x0_8), .sc (.int .i64 x0_9), .own 1 x0_10.length (encL c_u8 x0_10)]⟩)], [], []⟩ := by
  refine impl_buffer_end.l0.partial_correctness x0_0 x0_2 x0_3 x0_4 x0_5 x0_6 x0_7 x0_8 x0_9 x0_10 (motive := fun x0_1 y => ∀ (K : AE → St → Prop), (∀ x, y = .a x → K (.exit 0) ⟨[(0, .c (.ptr (.arg 0) [] 0)), (1, .c (.sc (.int .u64 x0_0))), (4, .c (.ptr (.tmp 4 0) [] 0))], [(.arg 0, ⟨.box, 0, [.sc (.int .u64 x0_2), .own 1 x0_3.length (encL c_u8 x0_3), .own 1 x0_4.length (encL c_bool x0_4), .sc (.int .u64 x0_5), .sc (.bool x0_6), .sc (.int .u64 x0_7)]⟩), (.tmp 4 0, ⟨.box, 0, [.sc (.int .i64 x0_8), .sc (.int .i64 x0_9), .own 1 x0_10.length (encL c_u8 x0_10)]⟩)], [], []⟩) → (∀ x, y = .b x → K .ret ⟨[(4, .c (.ptr (.tmp 4 0) [] 0))], [(.arg 0, ⟨.box, 0, [.sc (.int .u64 x0_2), .own 1 x0_3.length (encL c_u8 x0_3), .own 1 x0_4.length (encL c_bool x0_4), .sc (.int .u64 x0_5), .sc (.bool x0_6), .sc (.int .u64 x0_7)]⟩), (.tmp 4 0, ⟨.box, 0, [.sc (.int .i64 12), .sc (.int .i64 0), .own 1 x.length (encL c_u8 x)]⟩)], [], []⟩) → loopS Try.prog 74 (.ga c159_l0) K ⟨[(0, .c (.ptr (.arg 0) [] 0)), (1, .c (.sc (.int .u64 x0_0))), (4, .c (.ptr (.tmp 4 0) [] 0)), (5, .c (.sc (.int .u64 x0_1)))], [(.arg 0, ⟨.box, 0, [.sc (.int .u64 x0_2), .own 1 x0_3.length (encL c_u8 x0_3), .own 1 x0_4.length (encL c_bool x0_4), .sc (.int .u64 x0_5), .sc (.bool x0_6), .sc (.int .u64 x0_7)]⟩), (.tmp 4 0, ⟨.box, 0, [.sc (.int .i64 x0_8), .sc (.int .i64 x0_9), .own 1 x0_10.length (encL c_u8 x0_10)]⟩)], [], []⟩) ?_ x0_1 y h K hx0 hx1
  clear h hx0 hx1
  intro rec ih x0_1 y h K hx0 hx1
  refine loop_unroll (ga_k fun G0 G0n G0r G0x => ?_)
  unfold c159_l0
  refine seq_k fun J19 hJ19 => ?_
  refine seq_k fun J20 hJ20 => ?_
  refine regD_k ?_
  simp only [Nat.reduceEqDiff, Nat.reduceAdd, Nat.reduceMul, Nat.reduceLeDiff, Nat.reduceLT, Int.reduceLE, Int.reduceLT, Int.reduceGT, Int.reduceGE, Int.reduceEq, Int.reduceNe, Int.reduceToNat, reduceCtorEq, ak]
  refine hJ20 _ ?_
  refine cond_k (b := decide (x0_1 < IntKind.u64.wrap (x0_5 + x0_2))) rfl (fun c21 => ?_) (fun c21 => ?_)
  · replace c21 := of_decide_eq_true c21; rw [if_pos c21] at h
    refine hJ19 _ ?_
    refine seq_k fun J22 hJ22 => ?_
    refine block_k fun B23 B23n B23x B23r B23j => ?_
    refine seq_k fun J24 hJ24 => ?_
    refine regD_k ?_
    obtain ⟨b25, h⟩ := of_guard h
    obtain ⟨b26, h⟩ := of_guard h
    have g27 : (encL c_bool x0_4)[0 + (x0_1.tmod x0_2).toNat * 1]? = some (.sc (.bool (rd false x0_4 (x0_1.tmod x0_2)))) := (Vw.whole c_bool_w x0_4).get false 0 b26.1 b26.2 (by decide)
    simp only [Nat.reduceEqDiff, Nat.reduceAdd, Nat.reduceMul, Nat.reduceLeDiff, Nat.reduceLT, Int.reduceLE, Int.reduceLT, Int.reduceGT, Int.reduceGE, Int.reduceEq, Int.reduceNe, Int.reduceToNat, reduceCtorEq, ak, b25, b26, g27]
    refine hJ24 _ ?_
    refine cond_k (b := (rd false x0_4 (x0_1.tmod x0_2))) rfl (fun c28 => ?_) (fun c28 => ?_)
    · rw [if_pos c28] at h
      refine seq_k fun J29 hJ29 => ?_
      refine reg_k ?_
      simp only [Nat.reduceEqDiff, Nat.reduceAdd, Nat.reduceMul, Nat.reduceLeDiff, Nat.reduceLT, Int.reduceLE, Int.reduceLT, Int.reduceGT, Int.reduceGE, Int.reduceEq, Int.reduceNe, Int.reduceToNat, reduceCtorEq, ak]
      refine gho_k (Weak.nmg' 53 2 (.tmp 53 22) 1 (encL c_u8 ([] : List Int)) rfl rfl rfl rfl) ?_
      have g30 : (encL c_u8 ([] : List Int)).length = 0 * 1 := by simp [encL_length c_u8_w]
      simp only [Nat.reduceEqDiff, Nat.reduceAdd, Nat.reduceMul, Nat.reduceLeDiff, Nat.reduceLT, Int.reduceLE, Int.reduceLT, Int.reduceGT, Int.reduceGE, Int.reduceEq, Int.reduceNe, Int.reduceToNat, reduceCtorEq, ak, g30]
      refine hJ29 _ ?_
      obtain rfl := Option.some.inj h
      refine gh_k (st' := ⟨[(4, .c (.ptr (.tmp 4 0) [] 0))], [(.arg 0, ⟨.box, 0, [.sc (.int .u64 x0_2), .own 1 x0_3.length (encL c_u8 x0_3), .own 1 x0_4.length (encL c_bool x0_4), .sc (.int .u64 x0_5), .sc (.bool x0_6), .sc (.int .u64 x0_7)]⟩), (.tmp 4 0, ⟨.box, 0, [.sc (.int .i64 12), .sc (.int .i64 0), .own 1 (([] : List Int).length) (encL c_u8 ([] : List Int))]⟩)], [], []⟩) (((Weak.keep [4]).trans ((Weak.foc [(.arg 0, ⟨(.arg 0), [], none, .box⟩), (.tmp 4 0, ⟨(.tmp 4 0), [], none, .box⟩)] rfl (by first | rfl | simp only [reduceCtorEq, Nat.reduceEqDiff, ak, akF, b25, b26]) (by simp [argK, akG, ak])).trans (Weak.of_eq (by first | rfl | (simp only [reduceCtorEq, Nat.reduceEqDiff, ak, akF, b25, b26]; done) | (simp [reduceCtorEq, Nat.reduceEqDiff, ak, akF, b25, b26]; done)))))) ?_
      refine B23r _ ?_
      refine G0r _ ?_
      exact hx1 _ rfl
    · rw [if_neg (Bool.eq_false_iff.1 c28)] at h
      refine B23n _ ?_
      refine hJ22 _ ?_
      refine reg_k ?_
      simp only [Nat.reduceEqDiff, Nat.reduceAdd, Nat.reduceMul, Nat.reduceLeDiff, Nat.reduceLT, Int.reduceLE, Int.reduceLT, Int.reduceGT, Int.reduceGE, Int.reduceEq, Int.reduceNe, Int.reduceToNat, reduceCtorEq, ak]
      refine G0n _ (⟨[(0, .c (.ptr (.arg 0) [] 0)), (1, .c (.sc (.int .u64 x0_0))), (4, .c (.ptr (.tmp 4 0) [] 0)), (5, .c (.sc (.int .u64 (IntKind.u64.wrap (x0_1 + 1)))))], [(.arg 0, ⟨.box, 0, [.sc (.int .u64 x0_2), .own 1 x0_3.length (encL c_u8 x0_3), .own 1 x0_4.length (encL c_bool x0_4), .sc (.int .u64 x0_5), .sc (.bool x0_6), .sc (.int .u64 x0_7)]⟩), (.tmp 4 0, ⟨.box, 0, [.sc (.int .i64 x0_8), .sc (.int .i64 x0_9), .own 1 x0_10.length (encL c_u8 x0_10)]⟩)], [], []⟩) (((Weak.keep [0, 1, 4, 5]).trans ((Weak.foc [(.arg 0, ⟨(.arg 0), [], none, .box⟩), (.tmp 4 0, ⟨(.tmp 4 0), [], none, .box⟩)] rfl (by first | rfl | simp only [reduceCtorEq, Nat.reduceEqDiff, ak, akF, b25, b26]) (by simp [argK, akG, ak])).trans (Weak.of_eq (by first | rfl | (simp only [reduceCtorEq, Nat.reduceEqDiff, ak, akF, b25, b26]; done) | (simp [reduceCtorEq, Nat.reduceEqDiff, ak, akF, b25, b26]; done)))))) (ih _ _ h K hx0 hx1)
  · replace c21 := of_decide_eq_false c21; rw [if_neg c21] at h
    obtain rfl := Option.some.inj h
    refine gh_k (st' := ⟨[(0, .c (.ptr (.arg 0) [] 0)), (1, .c (.sc (.int .u64 x0_0))), (4, .c (.ptr (.tmp 4 0) [] 0))], [(.arg 0, ⟨.box, 0, [.sc (.int .u64 x0_2), .own 1 x0_3.length (encL c_u8 x0_3), .own 1 x0_4.length (encL c_bool x0_4), .sc (.int .u64 x0_5), .sc (.bool x0_6), .sc (.int .u64 x0_7)]⟩), (.tmp 4 0, ⟨.box, 0, [.sc (.int .i64 x0_8), .sc (.int .i64 x0_9), .own 1 x0_10.length (encL c_u8 x0_10)]⟩)], [], []⟩) (((Weak.keep [0, 1, 4]).trans ((Weak.foc [(.arg 0, ⟨(.arg 0), [], none, .box⟩), (.tmp 4 0, ⟨(.tmp 4 0), [], none, .box⟩)] rfl (by first | rfl | simp only [reduceCtorEq, Nat.reduceEqDiff, ak, akF]) (by simp [argK, akG, ak])).trans (Weak.of_eq (by first | rfl | (simp only [reduceCtorEq, Nat.reduceEqDiff, ak, akF]; done) | (simp [reduceCtorEq, Nat.reduceEqDiff, ak, akF]; done)))))) ?_
    refine G0x _ _ ?_
    exact hx0 _ rfl
set_option maxRecDepth 100000 in
set_option maxHeartbeats 4000000 in
theorem impl_buffer_end.tri (a0_0 : Int) (l0_1 : List Int) (l0_2 : List Bool) (a0_3 : Int) (a0_4 : Bool) (a0_5 : Int) (a1 : Int) (r : Int × Int × (List Int) × Bool × Int) (h : impl_buffer_end.f a0_0 l0_1 l0_2 a0_3 a0_4 a0_5 a1 = some r) : Tri Try.prog 159 [.c (.ptr (.arg 0) [] 0), .c (.sc (.int .u64 a1))] [(.arg 0, ⟨.box, 0, [.sc (.int .u64 a0_0), .own 1 l0_1.length (encL c_u8 l0_1), .own 1 l0_2.length (encL c_bool l0_2), .sc (.int .u64 a0_3), .sc (.bool a0_4), .sc (.int .u64 a0_5)]⟩)] (fun o => o = ⟨.g [.sc (.int .i64 r.1), .sc (.int .i64 r.2.1), .ref (.res 0) [] 0 r.2.2.1.length], [(.arg 0, ⟨.box, 0, [.sc (.int .u64 a0_0), .own 1 l0_1.length (encL c_u8 l0_1), .own 1 l0_2.length (encL c_bool l0_2), .sc (.int .u64 a0_3), .sc (.bool r.2.2.2.1), .sc (.int .u64 r.2.2.2.2)]⟩), (.res 0, ⟨.lst, 1, encL c_u8 r.2.2.1⟩)], [], []⟩) := by
  refine tri_of_body (ac := c159) (xs := r159) Try.func159 (show Try.f159.body = some (Try.f159.body.getD .skip) from rfl) k159 q159 (Nat.le_of_ble_eq_true rfl) ?_
  refine body_of fun K hKn hKr => ?_
  unfold impl_buffer_end.f at h
  unfold c159
  simp only [initT, Nat.reduceAdd]
  refine seq_k fun J1 hJ1 => ?_
  refine reg_k ?_
  simp only [Nat.reduceEqDiff, Nat.reduceAdd, Nat.reduceMul, Nat.reduceLeDiff, Nat.reduceLT, Int.reduceLE, Int.reduceLT, Int.reduceGT, Int.reduceGE, Int.reduceEq, Int.reduceNe, Int.reduceToNat, reduceCtorEq, ak]
  refine gho_k (Weak.own (.tmp 4 0) (cs' := [.sc (.int .i64 0), .sc (.int .i64 0), .own 1 (([] : List Int).length) (encL c_u8 ([] : List Int))]) rfl ⟨.inl rfl, .inl rfl, .inr ⟨rfl, _, rfl⟩, trivial⟩) ?_
  simp only [Nat.reduceEqDiff, Nat.reduceAdd, Nat.reduceMul, Nat.reduceLeDiff, Nat.reduceLT, Int.reduceLE, Int.reduceLT, Int.reduceGT, Int.reduceGE, Int.reduceEq, Int.reduceNe, Int.reduceToNat, reduceCtorEq, ak]
  refine hJ1 _ ?_
  refine seq_k fun J2 hJ2 => ?_
  obtain ⟨j3, h4, hn⟩ := of_bind h
  refine seq_j (fun st => st = ⟨[(0, .c (.ptr (.arg 0) [] 0)), (1, .c (.sc (.int .u64 a1))), (4, .c (.ptr (.tmp 4 0) [] 0)), (25, .c (.sc (.bool j3)))], [(.arg 0, ⟨.box, 0, [.sc (.int .u64 a0_0), .own 1 l0_1.length (encL c_u8 l0_1), .own 1 l0_2.length (encL c_bool l0_2), .sc (.int .u64 a0_3), .sc (.bool a0_4), .sc (.int .u64 a0_5)]⟩), (.tmp 4 0, ⟨.box, 0, [.sc (.int .i64 0), .sc (.int .i64 0), .own 1 (([] : List Int).length) (encL c_u8 ([] : List Int))]⟩)], [], []⟩) (fun J5 hJ5 => ?_) ?_
  · replace h := h4; clear hn
    refine ga_k fun G6 G6n G6r G6x => ?_
    refine reg_k ?_
    simp only [Nat.reduceEqDiff, Nat.reduceAdd, Nat.reduceMul, Nat.reduceLeDiff, Nat.reduceLT, Int.reduceLE, Int.reduceLT, Int.reduceGT, Int.reduceGE, Int.reduceEq, Int.reduceNe, Int.reduceToNat, reduceCtorEq, ak]
    by_cases c7 : a0_4 = true
    · rw [if_pos c7] at h
      have e8 : (a0_4) = true := c7
      simp only [Nat.reduceEqDiff, Nat.reduceAdd, Nat.reduceMul, Nat.reduceLeDiff, Nat.reduceLT, Int.reduceLE, Int.reduceLT, Int.reduceGT, Int.reduceGE, Int.reduceEq, Int.reduceNe, Int.reduceToNat, reduceCtorEq, ak, e8]
      by_cases c9 : a0_5 ≠ a1
      · rw [if_pos c9] at h
        have e10 : decide (a0_5 ≠ a1) = true := decide_eq_true c9
        simp only [Nat.reduceEqDiff, Nat.reduceAdd, Nat.reduceMul, Nat.reduceLeDiff, Nat.reduceLT, Int.reduceLE, Int.reduceLT, Int.reduceGT, Int.reduceGE, Int.reduceEq, Int.reduceNe, Int.reduceToNat, reduceCtorEq, ak, e10]
        obtain rfl := Option.some.inj h
        refine G6n _ _ (((Weak.keep [0, 1, 4, 25]).trans ((Weak.foc [(.arg 0, ⟨(.arg 0), [], none, .box⟩), (.tmp 4 0, ⟨(.tmp 4 0), [], none, .box⟩)] rfl (by first | rfl | simp only [reduceCtorEq, Nat.reduceEqDiff, ak, akF, e8, e10]) (by simp [argK, akG, ak])).trans (Weak.of_eq (by first | rfl | (simp only [reduceCtorEq, Nat.reduceEqDiff, ak, akF, e8, e10]; done) | (simp [reduceCtorEq, Nat.reduceEqDiff, ak, akF, e8, e10]; done)))))) (hJ5 _ rfl)
      · rw [if_neg c9] at h
        have e11 : decide (a0_5 ≠ a1) = false := decide_eq_false c9
        simp only [Nat.reduceEqDiff, Nat.reduceAdd, Nat.reduceMul, Nat.reduceLeDiff, Nat.reduceLT, Int.reduceLE, Int.reduceLT, Int.reduceGT, Int.reduceGE, Int.reduceEq, Int.reduceNe, Int.reduceToNat, reduceCtorEq, ak, e11]
        obtain rfl := Option.some.inj h
        refine G6n _ _ (((Weak.keep [0, 1, 4, 25]).trans ((Weak.foc [(.arg 0, ⟨(.arg 0), [], none, .box⟩), (.tmp 4 0, ⟨(.tmp 4 0), [], none, .box⟩)] rfl (by first | rfl | simp only [reduceCtorEq, Nat.reduceEqDiff, ak, akF, e8, e11]) (by simp [argK, akG, ak])).trans (Weak.of_eq (by first | rfl | (simp only [reduceCtorEq, Nat.reduceEqDiff, ak, akF, e8, e11]; done) | (simp [reduceCtorEq, Nat.reduceEqDiff, ak, akF, e8, e11]; done)))))) (hJ5 _ rfl)
    · rw [if_neg c7] at h
      have e12 : (a0_4) = false := Bool.eq_false_iff.2 c7
      simp only [Nat.reduceEqDiff, Nat.reduceAdd, Nat.reduceMul, Nat.reduceLeDiff, Nat.reduceLT, Int.reduceLE, Int.reduceLT, Int.reduceGT, Int.reduceGE, Int.reduceEq, Int.reduceNe, Int.reduceToNat, reduceCtorEq, ak, e12]
      obtain rfl := Option.some.inj h
      refine G6n _ _ (((Weak.keep [0, 1, 4, 25]).trans ((Weak.foc [(.arg 0, ⟨(.arg 0), [], none, .box⟩), (.tmp 4 0, ⟨(.tmp 4 0), [], none, .box⟩)] rfl (by first | rfl | simp only [reduceCtorEq, Nat.reduceEqDiff, ak, akF, e12]) (by simp [argK, akG, ak])).trans (Weak.of_eq (by first | rfl | (simp only [reduceCtorEq, Nat.reduceEqDiff, ak, akF, e12]; done) | (simp [reduceCtorEq, Nat.reduceEqDiff, ak, akF, e12]; done)))))) (hJ5 _ rfl)
  · replace h := hn; clear hn h4
    rintro _ rfl
    refine cond_k (b := j3) rfl (fun c13 => ?_) (fun c13 => ?_)
    · rw [if_pos c13] at h
      refine seq_k fun J14 hJ14 => ?_
      refine reg_k ?_
      simp only [Nat.reduceEqDiff, Nat.reduceAdd, Nat.reduceMul, Nat.reduceLeDiff, Nat.reduceLT, Int.reduceLE, Int.reduceLT, Int.reduceGT, Int.reduceGE, Int.reduceEq, Int.reduceNe, Int.reduceToNat, reduceCtorEq, ak]
      refine gho_k (Weak.nmg' 26 2 (.tmp 26 22) 1 (encL c_u8 ([] : List Int)) rfl rfl rfl rfl) ?_
      have g15 : (encL c_u8 ([] : List Int)).length = 0 * 1 := by simp [encL_length c_u8_w]
      simp only [Nat.reduceEqDiff, Nat.reduceAdd, Nat.reduceMul, Nat.reduceLeDiff, Nat.reduceLT, Int.reduceLE, Int.reduceLT, Int.reduceGT, Int.reduceGE, Int.reduceEq, Int.reduceNe, Int.reduceToNat, reduceCtorEq, ak, g15]
      refine hJ14 _ ?_
      obtain rfl := Option.some.inj h
      refine hKr _ ⟨_, rfl, [⟨(.tmp 4 0), [2], none, .lst⟩], _, rfl, rfl, ?_⟩
      first | rfl | (simp only [reduceCtorEq, Nat.reduceEqDiff, ak, akF]; done) | (simp [reduceCtorEq, Nat.reduceEqDiff, ak, akF]; done)
    · rw [if_neg (Bool.eq_false_iff.1 c13)] at h
      refine hJ2 _ ?_
      refine seq_k fun J16 hJ16 => ?_
      refine seq_k fun J17 hJ17 => ?_
      refine reg_k ?_
      simp only [Nat.reduceEqDiff, Nat.reduceAdd, Nat.reduceMul, Nat.reduceLeDiff, Nat.reduceLT, Int.reduceLE, Int.reduceLT, Int.reduceGT, Int.reduceGE, Int.reduceEq, Int.reduceNe, Int.reduceToNat, reduceCtorEq, ak]
      refine hJ17 _ ?_
      refine block_k fun B18 B18n B18x B18r B18j => ?_
      obtain ⟨y31, h32, h⟩ := of_bind h
      refine gh_k (st' := ⟨[(0, .c (.ptr (.arg 0) [] 0)), (1, .c (.sc (.int .u64 a1))), (4, .c (.ptr (.tmp 4 0) [] 0)), (5, .c (.sc (.int .u64 a1)))], [(.arg 0, ⟨.box, 0, [.sc (.int .u64 a0_0), .own 1 l0_1.length (encL c_u8 l0_1), .own 1 l0_2.length (encL c_bool l0_2), .sc (.int .u64 a0_3), .sc (.bool a0_4), .sc (.int .u64 a0_5)]⟩), (.tmp 4 0, ⟨.box, 0, [.sc (.int .i64 0), .sc (.int .i64 0), .own 1 (([] : List Int).length) (encL c_u8 ([] : List Int))]⟩)], [], []⟩) (((Weak.keep [0, 1, 4, 5]).trans ((Weak.foc [(.arg 0, ⟨(.arg 0), [], none, .box⟩), (.tmp 4 0, ⟨(.tmp 4 0), [], none, .box⟩)] rfl (by first | rfl | simp only [reduceCtorEq, Nat.reduceEqDiff, ak, akF]) (by simp [argK, akG, ak])).trans (Weak.of_eq (by first | rfl | (simp only [reduceCtorEq, Nat.reduceEqDiff, ak, akF]; done) | (simp [reduceCtorEq, Nat.reduceEqDiff, ak, akF]; done)))))) ?_
      rw [e_loop]
      refine impl_buffer_end.l0_walk a1 a0_0 l0_1 l0_2 a0_3 a0_4 a0_5 0 0 ([] : List Int) a1 _ h32 _ ?_ ?_
      · rintro x33 rfl
        dsimp only at h
        refine B18x _ ?_
        refine hJ16 _ ?_
        refine seq_k fun J34 hJ34 => ?_
        refine seq_k fun J35 hJ35 => ?_
        refine regD_k ?_
        simp only [Nat.reduceEqDiff, Nat.reduceAdd, Nat.reduceMul, Nat.reduceLeDiff, Nat.reduceLT, Int.reduceLE, Int.reduceLT, Int.reduceGT, Int.reduceGE, Int.reduceEq, Int.reduceNe, Int.reduceToNat, reduceCtorEq, ak]
        refine hJ35 _ ?_
        refine cond_k (b := decide (a1 > IntKind.u64.wrap (a0_3 + a0_0))) rfl (fun c36 => ?_) (fun c36 => ?_)
        · replace c36 := of_decide_eq_true c36; rw [if_pos c36] at h
          refine seq_k fun J37 hJ37 => ?_
          refine reg_k ?_
          simp only [Nat.reduceEqDiff, Nat.reduceAdd, Nat.reduceMul, Nat.reduceLeDiff, Nat.reduceLT, Int.reduceLE, Int.reduceLT, Int.reduceGT, Int.reduceGE, Int.reduceEq, Int.reduceNe, Int.reduceToNat, reduceCtorEq, ak]
          refine gho_k (Weak.nmg' 65 2 (.tmp 65 22) 1 (encL c_u8 ([] : List Int)) rfl rfl rfl rfl) ?_
          have g38 : (encL c_u8 ([] : List Int)).length = 0 * 1 := by simp [encL_length c_u8_w]
          simp only [Nat.reduceEqDiff, Nat.reduceAdd, Nat.reduceMul, Nat.reduceLeDiff, Nat.reduceLT, Int.reduceLE, Int.reduceLT, Int.reduceGT, Int.reduceGE, Int.reduceEq, Int.reduceNe, Int.reduceToNat, reduceCtorEq, ak, g38]
          refine hJ37 _ ?_
          obtain rfl := Option.some.inj h
          refine hKr _ ⟨_, rfl, [⟨(.tmp 4 0), [2], none, .lst⟩], _, rfl, rfl, ?_⟩
          first | rfl | (simp only [reduceCtorEq, Nat.reduceEqDiff, ak, akF]; done) | (simp [reduceCtorEq, Nat.reduceEqDiff, ak, akF]; done)
        · replace c36 := of_decide_eq_false c36; rw [if_neg c36] at h
          refine hJ34 _ ?_
          refine seq_k fun J39 hJ39 => ?_
          refine reg_k ?_
          simp only [Nat.reduceEqDiff, Nat.reduceAdd, Nat.reduceMul, Nat.reduceLeDiff, Nat.reduceLT, Int.reduceLE, Int.reduceLT, Int.reduceGT, Int.reduceGE, Int.reduceEq, Int.reduceNe, Int.reduceToNat, reduceCtorEq, ak]
          refine hJ39 _ ?_
          refine seq_k fun J40 hJ40 => ?_
          refine reg_k ?_
          simp only [Nat.reduceEqDiff, Nat.reduceAdd, Nat.reduceMul, Nat.reduceLeDiff, Nat.reduceLT, Int.reduceLE, Int.reduceLT, Int.reduceGT, Int.reduceGE, Int.reduceEq, Int.reduceNe, Int.reduceToNat, reduceCtorEq, ak]
          refine hJ40 _ ?_
          refine seq_k fun J41 hJ41 => ?_
          refine reg_k ?_
          simp only [Nat.reduceEqDiff, Nat.reduceAdd, Nat.reduceMul, Nat.reduceLeDiff, Nat.reduceLT, Int.reduceLE, Int.reduceLT, Int.reduceGT, Int.reduceGE, Int.reduceEq, Int.reduceNe, Int.reduceToNat, reduceCtorEq, ak]
          refine gho_k (Weak.nmg' 73 2 (.tmp 73 22) 1 (encL c_u8 ([] : List Int)) rfl rfl rfl rfl) ?_
          have g42 : (encL c_u8 ([] : List Int)).length = 0 * 1 := by simp [encL_length c_u8_w]
          simp only [Nat.reduceEqDiff, Nat.reduceAdd, Nat.reduceMul, Nat.reduceLeDiff, Nat.reduceLT, Int.reduceLE, Int.reduceLT, Int.reduceGT, Int.reduceGE, Int.reduceEq, Int.reduceNe, Int.reduceToNat, reduceCtorEq, ak, g42]
          refine hJ41 _ ?_
          obtain rfl := Option.some.inj h
          refine hKr _ ⟨_, rfl, [⟨(.tmp 4 0), [2], none, .lst⟩], _, rfl, rfl, ?_⟩
          first | rfl | (simp only [reduceCtorEq, Nat.reduceEqDiff, ak, akF]; done) | (simp [reduceCtorEq, Nat.reduceEqDiff, ak, akF]; done)
      · rintro x33 rfl
        dsimp only at h
        refine B18r _ ?_
        obtain rfl := Option.some.inj h
        refine hKr _ ⟨_, rfl, [⟨(.tmp 4 0), [2], none, .lst⟩], _, rfl, rfl, ?_⟩
        first | rfl | (simp only [reduceCtorEq, Nat.reduceEqDiff, ak, akF]; done) | (simp [reduceCtorEq, Nat.reduceEqDiff, ak, akF]; done)
/-! ### (*impl.buffer).next: function 142 -/
def c142_l0 : AC := .seq (.seq (.ga (.regD (.first (.op none (.mv 8 (.tmp 3))) (.first (.op none (.mv 9 (.tmp 0))) (.first (.op none (.nilc 10 (.tmp 9))) (.first (.op none (.faddr 11 3 (.tmp 10))) (.first (.op none (.load 12 false 1 (.tmp 11))) (.first (.op none (.mv 13 (.tmp 0))) (.first (.op none (.nilc 14 (.tmp 13))) (.first (.op none (.faddr 15 0 (.tmp 14))) (.first (.op none (.load 16 false 1 (.tmp 15))) (.first (.op none (.bin 17 .add (.tmp 12) (.tmp 16))) (.first (.op none (.bin 18 .lss (.tmp 8) (.tmp 17))) (.first (.op none (.mv 19 (.tmp 18))) (.first (.op (some (19, true)) (.mv 20 (.tmp 0))) (.first (.op (some (19, true)) (.nilc 21 (.tmp 20))) (.first (.op (some (19, true)) (.faddr 22 2 (.tmp 21))) (.first (.op (some (19, true)) (.load 23 false 1 (.tmp 22))) (.first (.op (some (19, true)) (.mv 24 (.tmp 3))) (.first (.op (some (19, true)) (.mv 25 (.tmp 0))) (.first (.op (some (19, true)) (.nilc 26 (.tmp 25))) (.first (.op (some (19, true)) (.faddr 27 0 (.tmp 26))) (.first (.op (some (19, true)) (.load 28 false 1 (.tmp 27))) (.first (.op (some (19, true)) (.bin 29 .rem (.tmp 24) (.tmp 28))) (.first (.op (some (19, true)) (.iaddr 30 1 (.tmp 23) (.tmp 29))) (.first (.op (some (19, true)) (.load 31 false 1 (.tmp 30))) (.first (.op none (.pick 32 (.tmp 19) (.tmp 31) (.const (.bool false)))) (.done)))))))))))))))))))))))))) [0, 3, 32])) (.cond (.tmp 32) (.skip) (.gh (.exit 0)))) (.block 1 (.reg [.op none (.mv 33 (.tmp 3)), .op none (.bin 34 .add (.tmp 33) (.const (.int .u64 1))), .op none (.mv 3 (.tmp 34)), .keep [0, 3]]))
def c142 : AC := .seq (.reg [.op none (.mv 2 (.const (.int .u64 0))), .keep [0]]) (.seq (.reg [.op none (.mv 4 (.tmp 0)), .op none (.nilc 5 (.tmp 4)), .op none (.faddr 6 3 (.tmp 5)), .op none (.load 7 false 1 (.tmp 6)), .op none (.mv 3 (.tmp 7)), .keep [0, 3]]) (.seq (.block 0 (.gh (.loop (.ga c142_l0)))) (.seq (.reg [.op none (.mv 35 (.tmp 3)), .op none (.mv 2 (.tmp 35)), .keep [2]]) (.ret))))
def r142 : List RV := [.tmp 2]
theorem k142 : compC Try.prog 36 (Try.f142.body.getD .skip) = some c142.erase := by kernel_rfl
theorem q142 : rvsOf Try.prog Try.f142.results.toList = some r142 := by kernel_rfl
def impl_buffer_next.l0 (x0_1 : Int) (x0_2 : (List Int)) (x0_3 : (List Bool)) (x0_4 : Int) (x0_5 : Bool) (x0_6 : Int) (x0_0 : Int) : Option Int := ((if x0_0 < IntKind.u64.wrap (x0_4 + x0_1) then (if ¬ x0_1 = 0 then (if 0 ≤ x0_0.tmod x0_1 ∧ x0_0.tmod x0_1 < (x0_3.length : Int) then (some (rd false x0_3 (x0_0.tmod x0_1))) else none) else none) else (some false)) >>= fun (j6 : Bool) => (if j6 = true then (impl_buffer_next.l0 x0_1 x0_2 x0_3 x0_4 x0_5 x0_6 (IntKind.u64.wrap (x0_0 + 1))) else (some x0_0)))
  partial_fixpoint
def impl_buffer_next.f (a0_0 : Int) (l0_1 : List Int) (l0_2 : List Bool) (a0_3 : Int) (a0_4 : Bool) (a0_5 : Int) : Option Int := (impl_buffer_next.l0 a0_0 l0_1 l0_2 a0_3 a0_4 a0_5 a0_3 >>= fun (y18 : Int) => (some y18))
set_option maxRecDepth 100000 in
set_option maxHeartbeats 4000000 in
theorem impl_buffer_next.l0_walk (x0_1 : Int) (x0_2 : (List Int)) (x0_3 : (List Bool)) (x0_4 : Int) (x0_5 : Bool) (x0_6 : Int) (x0_0 : Int) (y : Int) (h : impl_buffer_next.l0 x0_1 x0_2 x0_3 x0_4 x0_5 x0_6 x0_0 = some y) (K : AE → St → Prop) (hx0 : K (.exit 0) ⟨[(3, .c (.sc (.int .u64 y)))], [(.arg 0, ⟨.box, 0, [.sc (.int .u64 x0_1), .own 1 x0_2.length (encL c_u8 x0_2), .own 1 x0_3.length (encL c_bool x0_3), .sc (.int .u64 x0_4), .sc (.bool x0_5), .sc (.int .u64 x0_6)]⟩)], [], []⟩) : loopS Try.prog 36 (.ga c142_l0) K ⟨[(0, .c (.ptr (.arg 0) [] 0)), (3, .c (.sc (.int .u64 x0_0)))], [(.arg 0, ⟨.box, 0, [.sc (.int .u64 x0_1), .own 1 x0_2.length (encL c_u8 x0_2), .own 1 x0_3.length (encL c_bool x0_3), .sc (.int .u64 x0_4), .sc (.bool x0_5), .sc (.int .u64 x0_6)]⟩)], [], []⟩ := by
  refine impl_buffer_next.l0.partial_correctness x0_1 x0_2 x0_3 x0_4 x0_5 x0_6 (motive := fun x0_0 y => ∀ (K : AE → St → Prop), (K (.exit 0) ⟨[(3, .c (.sc (.int .u64 y)))], [(.arg 0, ⟨.box, 0, [.sc (.int .u64 x0_1), .own 1 x0_2.length (encL c_u8 x0_2), .own 1 x0_3.length (encL c_bool x0_3), .sc (.int .u64 x0_4), .sc (.bool x0_5), .sc (.int .u64 x0_6)]⟩)], [], []⟩) → loopS Try.prog 36 (.ga c142_l0) K ⟨[(0, .c (.ptr (.arg 0) [] 0)), (3, .c (.sc (.int .u64 x0_0)))], [(.arg 0, ⟨.box, 0, [.sc (.int .u64 x0_1), .own 1 x0_2.length (encL c_u8 x0_2), .own 1 x0_3.length (encL c_bool x0_3), .sc (.int .u64 x0_4), .sc (.bool x0_5), .sc (.int .u64 x0_6)]⟩)], [], []⟩) ?_ x0_0 y h K hx0
  clear h hx0
  intro rec ih x0_0 y h K hx0
  refine loop_unroll (ga_k fun G0 G0n G0r G0x => ?_)
  unfold c142_l0
  refine seq_k fun J5 hJ5 => ?_
  obtain ⟨j6, h7, hn⟩ := of_bind h
  refine seq_j (fun st => st = ⟨[(0, .c (.ptr (.arg 0) [] 0)), (3, .c (.sc (.int .u64 x0_0))), (32, .c (.sc (.bool j6)))], [(.arg 0, ⟨.box, 0, [.sc (.int .u64 x0_1), .own 1 x0_2.length (encL c_u8 x0_2), .own 1 x0_3.length (encL c_bool x0_3), .sc (.int .u64 x0_4), .sc (.bool x0_5), .sc (.int .u64 x0_6)]⟩)], [], []⟩) (fun J8 hJ8 => ?_) ?_
  · replace h := h7; clear hn
    refine ga_k fun G9 G9n G9r G9x => ?_
    refine regD_k ?_
    simp only [Nat.reduceEqDiff, Nat.reduceAdd, Nat.reduceMul, Nat.reduceLeDiff, Nat.reduceLT, Int.reduceLE, Int.reduceLT, Int.reduceGT, Int.reduceGE, Int.reduceEq, Int.reduceNe, Int.reduceToNat, reduceCtorEq, ak]
    by_cases c10 : x0_0 < IntKind.u64.wrap (x0_4 + x0_1)
    · rw [if_pos c10] at h
      have e11 : decide (x0_0 < IntKind.u64.wrap (x0_4 + x0_1)) = true := decide_eq_true c10
      obtain ⟨b12, h⟩ := of_guard h
      obtain ⟨b13, h⟩ := of_guard h
      have g14 : (encL c_bool x0_3)[0 + (x0_0.tmod x0_1).toNat * 1]? = some (.sc (.bool (rd false x0_3 (x0_0.tmod x0_1)))) := (Vw.whole c_bool_w x0_3).get false 0 b13.1 b13.2 (by decide)
      simp only [Nat.reduceEqDiff, Nat.reduceAdd, Nat.reduceMul, Nat.reduceLeDiff, Nat.reduceLT, Int.reduceLE, Int.reduceLT, Int.reduceGT, Int.reduceGE, Int.reduceEq, Int.reduceNe, Int.reduceToNat, reduceCtorEq, ak, e11, b12, b13, g14]
      obtain rfl := Option.some.inj h
      refine G9n _ _ (((Weak.keep [0, 3, 32]).trans ((Weak.foc [(.arg 0, ⟨(.arg 0), [], none, .box⟩)] rfl (by first | rfl | simp only [reduceCtorEq, Nat.reduceEqDiff, ak, akF, b12, b13, e11]) (by simp [argK, akG, ak])).trans (Weak.of_eq (by first | rfl | (simp only [reduceCtorEq, Nat.reduceEqDiff, ak, akF, b12, b13, e11]; done) | (simp [reduceCtorEq, Nat.reduceEqDiff, ak, akF, b12, b13, e11]; done)))))) (hJ8 _ rfl)
    · rw [if_neg c10] at h
      have e15 : decide (x0_0 < IntKind.u64.wrap (x0_4 + x0_1)) = false := decide_eq_false c10
      simp only [Nat.reduceEqDiff, Nat.reduceAdd, Nat.reduceMul, Nat.reduceLeDiff, Nat.reduceLT, Int.reduceLE, Int.reduceLT, Int.reduceGT, Int.reduceGE, Int.reduceEq, Int.reduceNe, Int.reduceToNat, reduceCtorEq, ak, e15]
      obtain rfl := Option.some.inj h
      refine G9n _ _ (((Weak.keep [0, 3, 32]).trans ((Weak.foc [(.arg 0, ⟨(.arg 0), [], none, .box⟩)] rfl (by first | rfl | simp only [reduceCtorEq, Nat.reduceEqDiff, ak, akF, e15]) (by simp [argK, akG, ak])).trans (Weak.of_eq (by first | rfl | (simp only [reduceCtorEq, Nat.reduceEqDiff, ak, akF, e15]; done) | (simp [reduceCtorEq, Nat.reduceEqDiff, ak, akF, e15]; done)))))) (hJ8 _ rfl)
  · replace h := hn; clear hn h7
    rintro _ rfl
    refine cond_k (b := j6) rfl (fun c16 => ?_) (fun c16 => ?_)
    · rw [if_pos c16] at h
      refine hJ5 _ ?_
      refine block_k fun B17 B17n B17x B17r B17j => ?_
      refine reg_k ?_
      simp only [Nat.reduceEqDiff, Nat.reduceAdd, Nat.reduceMul, Nat.reduceLeDiff, Nat.reduceLT, Int.reduceLE, Int.reduceLT, Int.reduceGT, Int.reduceGE, Int.reduceEq, Int.reduceNe, Int.reduceToNat, reduceCtorEq, ak]
      refine B17n _ ?_
      refine G0n _ (⟨[(0, .c (.ptr (.arg 0) [] 0)), (3, .c (.sc (.int .u64 (IntKind.u64.wrap (x0_0 + 1)))))], [(.arg 0, ⟨.box, 0, [.sc (.int .u64 x0_1), .own 1 x0_2.length (encL c_u8 x0_2), .own 1 x0_3.length (encL c_bool x0_3), .sc (.int .u64 x0_4), .sc (.bool x0_5), .sc (.int .u64 x0_6)]⟩)], [], []⟩) (((Weak.keep [0, 3]).trans ((Weak.foc [(.arg 0, ⟨(.arg 0), [], none, .box⟩)] rfl (by first | rfl | simp only [reduceCtorEq, Nat.reduceEqDiff, ak, akF]) (by simp [argK, akG, ak])).trans (Weak.of_eq (by first | rfl | (simp only [reduceCtorEq, Nat.reduceEqDiff, ak, akF]; done) | (simp [reduceCtorEq, Nat.reduceEqDiff, ak, akF]; done)))))) (ih _ _ h K hx0)
    · rw [if_neg (Bool.eq_false_iff.1 c16)] at h
      obtain rfl := Option.some.inj h
      refine gh_k (st' := ⟨[(3, .c (.sc (.int .u64 x0_0)))], [(.arg 0, ⟨.box, 0, [.sc (.int .u64 x0_1), .own 1 x0_2.length (encL c_u8 x0_2), .own 1 x0_3.length (encL c_bool x0_3), .sc (.int .u64 x0_4), .sc (.bool x0_5), .sc (.int .u64 x0_6)]⟩)], [], []⟩) (((Weak.keep [3]).trans ((Weak.foc [(.arg 0, ⟨(.arg 0), [], none, .box⟩)] rfl (by first | rfl | simp only [reduceCtorEq, Nat.reduceEqDiff, ak, akF]) (by simp [argK, akG, ak])).trans (Weak.of_eq (by first | rfl | (simp only [reduceCtorEq, Nat.reduceEqDiff, ak, akF]; done) | (simp [reduceCtorEq, Nat.reduceEqDiff, ak, akF]; done)))))) ?_
      refine G0x _ _ ?_
      exact hx0
set_option maxRecDepth 100000 in
set_option maxHeartbeats 4000000 in
theorem impl_buffer_next.tri (a0_0 : Int) (l0_1 : List Int) (l0_2 : List Bool) (a0_3 : Int) (a0_4 : Bool) (a0_5 : Int) (r : Int) (h : impl_buffer_next.f a0_0 l0_1 l0_2 a0_3 a0_4 a0_5 = some r) : Tri Try.prog 142 [.c (.ptr (.arg 0) [] 0)] [(.arg 0, ⟨.box, 0, [.sc (.int .u64 a0_0), .own 1 l0_1.length (encL c_u8 l0_1), .own 1 l0_2.length (encL c_bool l0_2), .sc (.int .u64 a0_3), .sc (.bool a0_4), .sc (.int .u64 a0_5)]⟩)] (fun o => o = ⟨.c (.sc (.int .u64 r)), [(.arg 0, ⟨.box, 0, [.sc (.int .u64 a0_0), .own 1 l0_1.length (encL c_u8 l0_1), .own 1 l0_2.length (encL c_bool l0_2), .sc (.int .u64 a0_3), .sc (.bool a0_4), .sc (.int .u64 a0_5)]⟩)], [], []⟩) := by
  refine tri_of_body (ac := c142) (xs := r142) Try.func142 (show Try.f142.body = some (Try.f142.body.getD .skip) from rfl) k142 q142 (Nat.le_of_ble_eq_true rfl) ?_
  refine body_of fun K hKn hKr => ?_
  unfold impl_buffer_next.f at h
  unfold c142
  simp only [initT, Nat.reduceAdd]
  refine seq_k fun J1 hJ1 => ?_
  refine reg_k ?_
  simp only [Nat.reduceEqDiff, Nat.reduceAdd, Nat.reduceMul, Nat.reduceLeDiff, Nat.reduceLT, Int.reduceLE, Int.reduceLT, Int.reduceGT, Int.reduceGE, Int.reduceEq, Int.reduceNe, Int.reduceToNat, reduceCtorEq, ak]
  refine hJ1 _ ?_
  refine seq_k fun J2 hJ2 => ?_
  refine reg_k ?_
  simp only [Nat.reduceEqDiff, Nat.reduceAdd, Nat.reduceMul, Nat.reduceLeDiff, Nat.reduceLT, Int.reduceLE, Int.reduceLT, Int.reduceGT, Int.reduceGE, Int.reduceEq, Int.reduceNe, Int.reduceToNat, reduceCtorEq, ak]
  refine hJ2 _ ?_
  refine seq_k fun J3 hJ3 => ?_
  refine block_k fun B4 B4n B4x B4r B4j => ?_
  obtain ⟨y18, h19, h⟩ := of_bind h
  refine gh_k (st' := ⟨[(0, .c (.ptr (.arg 0) [] 0)), (3, .c (.sc (.int .u64 a0_3)))], [(.arg 0, ⟨.box, 0, [.sc (.int .u64 a0_0), .own 1 l0_1.length (encL c_u8 l0_1), .own 1 l0_2.length (encL c_bool l0_2), .sc (.int .u64 a0_3), .sc (.bool a0_4), .sc (.int .u64 a0_5)]⟩)], [], []⟩) (((Weak.keep [0, 3]).trans ((Weak.foc [(.arg 0, ⟨(.arg 0), [], none, .box⟩)] rfl (by first | rfl | simp only [reduceCtorEq, Nat.reduceEqDiff, ak, akF]) (by simp [argK, akG, ak])).trans (Weak.of_eq (by first | rfl | (simp only [reduceCtorEq, Nat.reduceEqDiff, ak, akF]; done) | (simp [reduceCtorEq, Nat.reduceEqDiff, ak, akF]; done)))))) ?_
  rw [e_loop]
  refine impl_buffer_next.l0_walk a0_0 l0_1 l0_2 a0_3 a0_4 a0_5 a0_3 _ h19 _ ?_
  refine B4x _ ?_
  refine hJ3 _ ?_
  refine seq_k fun J20 hJ20 => ?_
  refine reg_k ?_
  simp only [Nat.reduceEqDiff, Nat.reduceAdd, Nat.reduceMul, Nat.reduceLeDiff, Nat.reduceLT, Int.reduceLE, Int.reduceLT, Int.reduceGT, Int.reduceGE, Int.reduceEq, Int.reduceNe, Int.reduceToNat, reduceCtorEq, ak]
  refine hJ20 _ ?_
  obtain rfl := Option.some.inj h
  refine hKr _ ⟨_, rfl, [], _, rfl, rfl, ?_⟩
  first | rfl | (simp only [reduceCtorEq, Nat.reduceEqDiff, ak, akF]; done) | (simp [reduceCtorEq, Nat.reduceEqDiff, ak, akF]; done)
/-! ### (*impl.buffer).get: function 160 -/
def c160_l0 : AC := .seq (.reg [.op none (.bin 21 .lss (.tmp 20) (.tmp 19)), .keep [0, 4, 5, 6, 19, 20, 21]]) (.seq (.cond (.tmp 21) (.skip) (.gh (.exit 0))) (.seq (.block 1 (.seq (.regD (.first (.op none (.mv 22 (.tmp 6))) (.first (.op none (.mv 23 (.tmp 0))) (.first (.op none (.nilc 24 (.tmp 23))) (.first (.op none (.faddr 25 1 (.tmp 24))) (.first (.op none (.load 26 false 1 (.tmp 25))) (.first (.op none (.mv 27 (.tmp 0))) (.first (.op none (.nilc 28 (.tmp 27))) (.first (.op none (.faddr 29 3 (.tmp 28))) (.first (.op none (.load 30 false 1 (.tmp 29))) (.first (.op none (.mv 31 (.tmp 0))) (.first (.op none (.nilc 32 (.tmp 31))) (.first (.op none (.faddr 33 0 (.tmp 32))) (.first (.op none (.load 34 false 1 (.tmp 33))) (.first (.op none (.bin 35 .rem (.tmp 30) (.tmp 34))) (.first (.op none (.iaddr 36 1 (.tmp 26) (.tmp 35))) (.first (.op none (.load 37 false 1 (.tmp 36))) (.alt (.op none (.bslice 38 1 [.int .u8 0] 1 [(0, .tmp 37)])) (.alt (.op none (.app 39 1 1 false (.tmp 22) (.tmp 38))) (.first (.op none (.mv 6 (.tmp 39))) (.done)) (.stop)) (.stop)))))))))))))))))) [0, 4, 5, 6, 19, 20]) (.seq (.regD (.first (.op none (.mv 40 (.tmp 0))) (.first (.op none (.nilc 41 (.tmp 40))) (.first (.op none (.faddr 42 2 (.tmp 41))) (.first (.op none (.load 43 false 1 (.tmp 42))) (.first (.op none (.mv 44 (.tmp 0))) (.first (.op none (.nilc 45 (.tmp 44))) (.first (.op none (.faddr 46 3 (.tmp 45))) (.first (.op none (.load 47 false 1 (.tmp 46))) (.first (.op none (.mv 48 (.tmp 0))) (.first (.op none (.nilc 49 (.tmp 48))) (.first (.op none (.faddr 50 0 (.tmp 49))) (.first (.op none (.load 51 false 1 (.tmp 50))) (.first (.op none (.bin 52 .rem (.tmp 47) (.tmp 51))) (.first (.op none (.iaddr 53 1 (.tmp 43) (.tmp 52))) (.alt (.op none (.store 1 (.tmp 53) (.const (.bool false)))) (.done) (.stop)))))))))))))))) [0, 4, 5, 6, 19, 20]) (.reg [.op none (.mv 54 (.tmp 0)), .op none (.nilc 55 (.tmp 54)), .op none (.faddr 56 3 (.tmp 55)), .op none (.load 57 false 1 (.tmp 56)), .op none (.bin 58 .add (.tmp 57) (.const (.int .u64 1))), .op none (.nilc 59 (.tmp 54)), .op none (.faddr 60 3 (.tmp 59)), .op none (.store 1 (.tmp 60) (.tmp 58)), .keep [0, 4, 5, 6, 19, 20]])))) (.reg [.op none (.bin 61 .add (.tmp 20) (.const (.int .u64 1))), .op none (.mv 20 (.tmp 61)), .keep [0, 4, 5, 6, 19, 20]])))
def c160 : AC := .seq (.reg [.op none (.alloc 4 [.int .i64 0, .int .i64 0, .slice none 0 0]), .gh, .keep [0, 1, 4]]) (.seq (.ga (.regD (.first (.op none (.mv 8 (.tmp 1))) (.first (.op none (.mm 9 true [.tmp 8, .const (.int .i64 0)])) (.first (.op none (.conv 10 .u64 (.tmp 9))) (.first (.op none (.mv 11 (.tmp 0))) (.first (.op none (.mv 13 (.tmp 0))) (.first (.op none (.nilc 14 (.tmp 13))) (.first (.op none (.faddr 15 3 (.tmp 14))) (.alt (.call none (some 12) 142 [.tmp 11]) (.first (.op none (.load 16 false 1 (.tmp 15))) (.first (.op none (.bin 17 .sub (.tmp 12) (.tmp 16))) (.first (.op none (.mm 18 false [.tmp 10, .tmp 17])) (.first (.op none (.mv 5 (.tmp 18))) (.done))))) (.alt (.op none (.load 16 false 1 (.tmp 15))) (.alt (.call none (some 12) 142 [.tmp 11]) (.first (.op none (.bin 17 .sub (.tmp 12) (.tmp 16))) (.first (.op none (.mm 18 false [.tmp 10, .tmp 17])) (.first (.op none (.mv 5 (.tmp 18))) (.done)))) (.stop)) (.stop)))))))))) [0, 4, 5])) (.seq (.reg [.op none (.mv 6 (.const (.slice none 0 0))), .gh, .keep [0, 4, 5, 6]]) (.seq (.seq (.reg [.op none (.mv 19 (.tmp 5)), .op none (.mv 20 (.const (.int .u64 0))), .keep [0, 4, 5, 6, 19, 20]]) (.block 0 (.gh (.loop (.ga c160_l0))))) (.seq (.reg [.op none (.mv 7 (.const (.int .i64 0))), .keep [0, 4, 5, 6, 7]]) (.seq (.ga (.seq (.ga (.regD (.first (.op none (.mv 62 (.tmp 5))) (.first (.op none (.bin 63 .eql (.tmp 62) (.const (.int .u64 0)))) (.first (.op none (.mv 64 (.tmp 63))) (.first (.op (some (64, true)) (.mv 65 (.tmp 0))) (.first (.op (some (64, true)) (.nilc 66 (.tmp 65))) (.first (.op (some (64, true)) (.faddr 67 4 (.tmp 66))) (.first (.op (some (64, true)) (.load 68 false 1 (.tmp 67))) (.first (.op none (.pick 69 (.tmp 64) (.tmp 68) (.const (.bool false)))) (.first (.op none (.mv 70 (.tmp 69))) (.first (.op (some (70, true)) (.mv 71 (.tmp 0))) (.first (.op (some (70, true)) (.nilc 72 (.tmp 71))) (.first (.op (some (70, true)) (.faddr 73 3 (.tmp 72))) (.first (.op (some (70, true)) (.load 74 false 1 (.tmp 73))) (.first (.op (some (70, true)) (.mv 75 (.tmp 0))) (.first (.op (some (70, true)) (.nilc 76 (.tmp 75))) (.first (.op (some (70, true)) (.faddr 77 5 (.tmp 76))) (.first (.op (some (70, true)) (.load 78 false 1 (.tmp 77))) (.first (.op (some (70, true)) (.bin 79 .eql (.tmp 74) (.tmp 78))) (.first (.op none (.pick 80 (.tmp 70) (.tmp 79) (.const (.bool false)))) (.done)))))))))))))))))))) [4, 5, 6, 7, 80])) (.cond (.tmp 80) (.reg [.op none (.mv 7 (.const (.int .i64 15))), .keep [4, 5, 6, 7]]) (.skip)))) (.seq (.reg [.op none (.mv 81 (.tmp 7)), .op none (.mv 82 (.tmp 5)), .op none (.conv 83 .i64 (.tmp 82)), .op none (.mv 84 (.tmp 6)), .op none (.build 85 [.int .i64 0, .int .i64 0, .slice none 0 0] [(0, 1, .tmp 81), (1, 1, .tmp 83), (2, 1, .tmp 84)]), .gh, .op none (.store 3 (.tmp 4) (.tmp 85)), .keep [4]]) (.ret)))))))
def r160 : List RV := [.cell 4 true 3]
theorem k160 : compC Try.prog 86 (Try.f160.body.getD .skip) = some c160.erase := by kernel_rfl
theorem q160 : rvsOf Try.prog Try.f160.results.toList = some r160 := by kernel_rfl
def impl_buffer_get.l0 (x0_0 : Int) (x0_1 : Int) (x0_3 : Int) (x0_4 : (List Int)) (x0_7 : Bool) (x0_8 : Int) (x0_9 : Int) (x0_10 : Int) (x0_11 : (List Int)) (x0_2 : Int) (x0_5 : (List Bool)) (x0_6 : Int) (x0_12 : (List Int)) : Option ((List Bool) × Int × (List Int)) := (if x0_2 < x0_1 then (if ¬ x0_3 = 0 then (if 0 ≤ x0_6.tmod x0_3 ∧ x0_6.tmod x0_3 < (x0_4.length : Int) then (if (x0_12.length + 1) * 1 ≤ 140737488355328 then (if 0 ≤ x0_6.tmod x0_3 ∧ x0_6.tmod x0_3 < (x0_5.length : Int) then (impl_buffer_get.l0 x0_0 x0_1 x0_3 x0_4 x0_7 x0_8 x0_9 x0_10 x0_11 (IntKind.u64.wrap (x0_2 + 1)) (x0_5.set (x0_6.tmod x0_3).toNat false) (IntKind.u64.wrap (x0_6 + 1)) (x0_12 ++ ([(rd 0 x0_4 (x0_6.tmod x0_3))] : List Int))) else none) else none) else none) else none) else (some (x0_5, x0_6, x0_12)))
  partial_fixpoint
def impl_buffer_get.f (a0_0 : Int) (l0_1 : List Int) (l0_2 : List Bool) (a0_3 : Int) (a0_4 : Bool) (a0_5 : Int) (a1 : Int) : Option (Int × Int × (List Int) × (List Bool) × Int) := ((impl_buffer_next.f a0_0 l0_1 l0_2 a0_3 a0_4 a0_5 >>= fun t6 => (some (if (IntKind.u64.wrap (t6 - a0_3)) < (IntKind.u64.wrap (if 0 > a1 then 0 else a1)) then IntKind.u64.wrap (t6 - a0_3) else IntKind.u64.wrap (if 0 > a1 then 0 else a1)))) >>= fun (j2 : Int) => (impl_buffer_get.l0 j2 j2 a0_0 l0_1 a0_4 a0_5 0 0 ([] : List Int) 0 l0_2 a0_3 ([] : List Int) >>= fun (y62 : ((List Bool) × Int × (List Int))) => (((if j2 = 0 then (if a0_4 = true then (some (decide (y62.2.1 = a0_5))) else (some false)) else (some false)) >>= fun (j69 : Bool) => (if j69 = true then (some 15) else (some 0))) >>= fun (j65 : Int) => (some (j65, IntKind.i64.wrap j2, y62.2.2, y62.1, y62.2.1)))))
set_option maxRecDepth 100000 in
set_option maxHeartbeats 4000000 in
theorem impl_buffer_get.l0_walk (x0_0 : Int) (x0_1 : Int) (x0_3 : Int) (x0_4 : (List Int)) (x0_7 : Bool) (x0_8 : Int) (x0_9 : Int) (x0_10 : Int) (x0_11 : (List Int)) (x0_2 : Int) (x0_5 : (List Bool)) (x0_6 : Int) (x0_12 : (List Int)) (y : ((List Bool) × Int × (List Int))) (h : impl_buffer_get.l0 x0_0 x0_1 x0_3 x0_4 x0_7 x0_8 x0_9 x0_10 x0_11 x0_2 x0_5 x0_6 x0_12 = some y) (K : AE → St → Prop) (hx0 : K (.exit 0) ⟨[(0, .c (.ptr (.arg 0) [] 0)), (4, .c (.ptr (.tmp 4 0) [] 0)), (5, .c (.sc (.int .u64 x0_0))), (6, .c (.ref (.tmp 6 20) [] 0 y.2.2.length))], [(.arg 0, ⟨.box, 0, [.sc (.int .u64 x0_3), .own 1 x0_4.length (encL c_u8 x0_4), .own 1 y.1.length (encL c_bool y.1), .sc (.int .u64 y.2.1), .sc (.bool x0_7), .sc (.int .u64 x0_8)]⟩), (.tmp 4 0, ⟨.box, 0, [.sc (.int .i64 x0_9), .sc (.int .i64 x0_10), .own 1 x0_11.length (encL c_u8 x0_11)]⟩), (.tmp 6 20, ⟨.lst, 1, encL c_u8 y.2.2⟩)], [], []⟩) : loopS Try.prog 86 (.ga c160_l0) K ⟨[(0, .c (.ptr (.arg 0) [] 0)), (4, .c (.ptr (.tmp 4 0) [] 0)), (5, .c (.sc (.int .u64 x0_0))), (6, .c (.ref (.tmp 6 20) [] 0 x0_12.length)), (19, .c (.sc (.int .u64 x0_1))), (20, .c (.sc (.int .u64 x0_2)))], [(.arg 0, ⟨.box, 0, [.sc (.int .u64 x0_3), .own 1 x0_4.length (encL c_u8 x0_4), .own 1 x0_5.length (encL c_bool x0_5), .sc (.int .u64 x0_6), .sc (.bool x0_7), .sc (.int .u64 x0_8)]⟩), (.tmp 4 0, ⟨.box, 0, [.sc (.int .i64 x0_9), .sc (.int .i64 x0_10), .own 1 x0_11.length (encL c_u8 x0_11)]⟩), (.tmp 6 20, ⟨.lst, 1, encL c_u8 x0_12⟩)], [], []⟩ := by
  refine impl_buffer_get.l0.partial_correctness x0_0 x0_1 x0_3 x0_4 x0_7 x0_8 x0_9 x0_10 x0_11 (motive := fun x0_2 x0_5 x0_6 x0_12 y => ∀ (K : AE → St → Prop), (K (.exit 0) ⟨[(0, .c (.ptr (.arg 0) [] 0)), (4, .c (.ptr (.tmp 4 0) [] 0)), (5, .c (.sc (.int .u64 x0_0))), (6, .c (.ref (.tmp 6 20) [] 0 y.2.2.length))], [(.arg 0, ⟨.box, 0, [.sc (.int .u64 x0_3), .own 1 x0_4.length (encL c_u8 x0_4), .own 1 y.1.length (encL c_bool y.1), .sc (.int .u64 y.2.1), .sc (.bool x0_7), .sc (.int .u64 x0_8)]⟩), (.tmp 4 0, ⟨.box, 0, [.sc (.int .i64 x0_9), .sc (.int .i64 x0_10), .own 1 x0_11.length (encL c_u8 x0_11)]⟩), (.tmp 6 20, ⟨.lst, 1, encL c_u8 y.2.2⟩)], [], []⟩) → loopS Try.prog 86 (.ga c160_l0) K ⟨[(0, .c (.ptr (.arg 0) [] 0)), (4, .c (.ptr (.tmp 4 0) [] 0)), (5, .c (.sc (.int .u64 x0_0))), (6, .c (.ref (.tmp 6 20) [] 0 x0_12.length)), (19, .c (.sc (.int .u64 x0_1))), (20, .c (.sc (.int .u64 x0_2)))], [(.arg 0, ⟨.box, 0, [.sc (.int .u64 x0_3), .own 1 x0_4.length (encL c_u8 x0_4), .own 1 x0_5.length (encL c_bool x0_5), .sc (.int .u64 x0_6), .sc (.bool x0_7), .sc (.int .u64 x0_8)]⟩), (.tmp 4 0, ⟨.box, 0, [.sc (.int .i64 x0_9), .sc (.int .i64 x0_10), .own 1 x0_11.length (encL c_u8 x0_11)]⟩), (.tmp 6 20, ⟨.lst, 1, encL c_u8 x0_12⟩)], [], []⟩) ?_ x0_2 x0_5 x0_6 x0_12 y h K hx0
  clear h hx0
  intro rec ih x0_2 x0_5 x0_6 x0_12 y h K hx0
  refine loop_unroll (ga_k fun G0 G0n G0r G0x => ?_)
  unfold c160_l0
  refine seq_k fun J16 hJ16 => ?_
  refine reg_k ?_
  simp only [Nat.reduceEqDiff, Nat.reduceAdd, Nat.reduceMul, Nat.reduceLeDiff, Nat.reduceLT, Int.reduceLE, Int.reduceLT, Int.reduceGT, Int.reduceGE, Int.reduceEq, Int.reduceNe, Int.reduceToNat, reduceCtorEq, ak]
  refine hJ16 _ ?_
  refine seq_k fun J17 hJ17 => ?_
  refine cond_k (b := decide (x0_2 < x0_1)) rfl (fun c18 => ?_) (fun c18 => ?_)
  · replace c18 := of_decide_eq_true c18; rw [if_pos c18] at h
    refine hJ17 _ ?_
    refine seq_k fun J19 hJ19 => ?_
    refine block_k fun B20 B20n B20x B20r B20j => ?_
    refine seq_k fun J21 hJ21 => ?_
    refine regD_k ?_
    obtain ⟨b22, h⟩ := of_guard h
    obtain ⟨b23, h⟩ := of_guard h
    have g24 : (encL c_u8 x0_4)[0 + (x0_6.tmod x0_3).toNat * 1]? = some (.sc (.int .u8 (rd 0 x0_4 (x0_6.tmod x0_3)))) := (Vw.whole c_u8_w x0_4).get 0 0 b23.1 b23.2 (by decide)
    simp only [Nat.reduceEqDiff, Nat.reduceAdd, Nat.reduceMul, Nat.reduceLeDiff, Nat.reduceLT, Int.reduceLE, Int.reduceLT, Int.reduceGT, Int.reduceGE, Int.reduceEq, Int.reduceNe, Int.reduceToNat, reduceCtorEq, ak, b22, b23, g24]
    obtain ⟨b30, h⟩ := of_guard h
    refine alt_k ?_ trivial
    · have g39 : (List.replicate 1 ([.int .u8 0] : List Value)).flatten = [.int .u8 0] := rfl
      have g40 : (⟨.lst, 1, [.sc (.int .u8 (rd 0 x0_4 (x0_6.tmod x0_3)))]⟩ : Root) = ⟨.lst, 1, encL c_u8 ([(rd 0 x0_4 (x0_6.tmod x0_3))] : List Int)⟩ := rfl
      have g41 : ([(rd 0 x0_4 (x0_6.tmod x0_3))] : List Int).length = 1 := rfl
      simp only [Nat.reduceEqDiff, Nat.reduceAdd, Nat.reduceMul, Nat.reduceLeDiff, Nat.reduceLT, Int.reduceLE, Int.reduceLT, Int.reduceGT, Int.reduceGE, Int.reduceEq, Int.reduceNe, Int.reduceToNat, reduceCtorEq, ak, g39, g40, g41]
      refine alt_k ?_ trivial
      · have g47 : (encL c_u8 ([(rd 0 x0_4 (x0_6.tmod x0_3))] : List Int)).take 1 = encL c_u8 ([(rd 0 x0_4 (x0_6.tmod x0_3))] : List Int) := by simpa using (Vw.whole c_u8_w ([(rd 0 x0_4 (x0_6.tmod x0_3))] : List Int)).all
        have g48 : (encL c_u8 ([(rd 0 x0_4 (x0_6.tmod x0_3))] : List Int)).all isSc = true := encL_all (fun _ => rfl) _
        have g49 : appLim x0_12.length 1 1 := ⟨b30, by have := b30; omega⟩
        have g50 : (encL c_u8 x0_12).length = x0_12.length * 1 := by simp [encL_length c_u8_w]
        have g51 : encL c_u8 x0_12 ++ encL c_u8 ([(rd 0 x0_4 (x0_6.tmod x0_3))] : List Int) = encL c_u8 (x0_12 ++ ([(rd 0 x0_4 (x0_6.tmod x0_3))] : List Int)) := (encL_append _ _).symm
        simp only [Nat.reduceEqDiff, Nat.reduceAdd, Nat.reduceMul, Nat.reduceLeDiff, Nat.reduceLT, Int.reduceLE, Int.reduceLT, Int.reduceGT, Int.reduceGE, Int.reduceEq, Int.reduceNe, Int.reduceToNat, reduceCtorEq, ak, g47, g48, g49, g50, g51]
        refine hJ21 _ ?_
        refine seq_k fun J52 hJ52 => ?_
        refine regD_k ?_
        obtain ⟨b53, h⟩ := of_guard h
        simp only [Nat.reduceEqDiff, Nat.reduceAdd, Nat.reduceMul, Nat.reduceLeDiff, Nat.reduceLT, Int.reduceLE, Int.reduceLT, Int.reduceGT, Int.reduceGE, Int.reduceEq, Int.reduceNe, Int.reduceToNat, reduceCtorEq, ak, b22, b53]
        refine alt_k ?_ trivial
        · have g58 : 0 + (x0_6.tmod x0_3).toNat * 1 + 1 ≤ (encL c_bool x0_5).length := (Vw.whole c_bool_w x0_5).le b53.1 b53.2 (j := 0) (q := 1) (by decide)
          have g59 : 0 + (x0_6.tmod x0_3).toNat * 1 < (encL c_bool x0_5).length := (Vw.whole c_bool_w x0_5).lt b53.1 b53.2 (j := 0) (by decide)
          have g60 : (encL c_bool x0_5)[0 + (x0_6.tmod x0_3).toNat * 1]? = some (.sc (.bool (rd false x0_5 (x0_6.tmod x0_3)))) := (Vw.whole c_bool_w x0_5).get false 0 b53.1 b53.2 (by decide)
          have g61 : (encL c_bool x0_5).set (0 + (x0_6.tmod x0_3).toNat * 1) (.sc (.bool false)) = encL c_bool (x0_5.set (x0_6.tmod x0_3).toNat false) := encL_put c_bool_w false b53.1 b53.2 (j := 0) (by decide) rfl
          simp only [Nat.reduceEqDiff, Nat.reduceAdd, Nat.reduceMul, Nat.reduceLeDiff, Nat.reduceLT, Int.reduceLE, Int.reduceLT, Int.reduceGT, Int.reduceGE, Int.reduceEq, Int.reduceNe, Int.reduceToNat, reduceCtorEq, ak, b53, g58, g59, g60, g61]
          refine hJ52 _ ?_
          refine reg_k ?_
          simp only [Nat.reduceEqDiff, Nat.reduceAdd, Nat.reduceMul, Nat.reduceLeDiff, Nat.reduceLT, Int.reduceLE, Int.reduceLT, Int.reduceGT, Int.reduceGE, Int.reduceEq, Int.reduceNe, Int.reduceToNat, reduceCtorEq, ak]
          refine B20n _ ?_
          refine hJ19 _ ?_
          refine reg_k ?_
          simp only [Nat.reduceEqDiff, Nat.reduceAdd, Nat.reduceMul, Nat.reduceLeDiff, Nat.reduceLT, Int.reduceLE, Int.reduceLT, Int.reduceGT, Int.reduceGE, Int.reduceEq, Int.reduceNe, Int.reduceToNat, reduceCtorEq, ak]
          refine G0n _ (⟨[(0, .c (.ptr (.arg 0) [] 0)), (4, .c (.ptr (.tmp 4 0) [] 0)), (5, .c (.sc (.int .u64 x0_0))), (6, .c (.ref (.tmp 6 20) [] 0 ((x0_12 ++ ([(rd 0 x0_4 (x0_6.tmod x0_3))] : List Int)).length))), (19, .c (.sc (.int .u64 x0_1))), (20, .c (.sc (.int .u64 (IntKind.u64.wrap (x0_2 + 1)))))], [(.arg 0, ⟨.box, 0, [.sc (.int .u64 x0_3), .own 1 x0_4.length (encL c_u8 x0_4), .own 1 ((x0_5.set (x0_6.tmod x0_3).toNat false).length) (encL c_bool (x0_5.set (x0_6.tmod x0_3).toNat false)), .sc (.int .u64 (IntKind.u64.wrap (x0_6 + 1))), .sc (.bool x0_7), .sc (.int .u64 x0_8)]⟩), (.tmp 4 0, ⟨.box, 0, [.sc (.int .i64 x0_9), .sc (.int .i64 x0_10), .own 1 x0_11.length (encL c_u8 x0_11)]⟩), (.tmp 6 20, ⟨.lst, 1, encL c_u8 (x0_12 ++ ([(rd 0 x0_4 (x0_6.tmod x0_3))] : List Int))⟩)], [], []⟩) (((Weak.keep [0, 4, 5, 6, 19, 20]).trans ((Weak.foc [(.arg 0, ⟨(.arg 0), [], none, .box⟩), (.tmp 4 0, ⟨(.tmp 4 0), [], none, .box⟩), (.tmp 6 20, ⟨(.tmp 6 20), [], none, .lst⟩)] rfl (by first | rfl | simp only [reduceCtorEq, Nat.reduceEqDiff, ak, akF, b22, b23, b30, b53]) (by simp [argK, akG, ak])).trans (Weak.of_eq (by first | rfl | (simp only [reduceCtorEq, Nat.reduceEqDiff, ak, akF, b22, b23, b30, b53]; done) | (simp [reduceCtorEq, Nat.reduceEqDiff, ak, akF, b22, b23, b30, b53]; done)))))) (ih _ _ _ _ _ h K hx0)
  · replace c18 := of_decide_eq_false c18; rw [if_neg c18] at h
    obtain rfl := Option.some.inj h
    refine gh_k (st' := ⟨[(0, .c (.ptr (.arg 0) [] 0)), (4, .c (.ptr (.tmp 4 0) [] 0)), (5, .c (.sc (.int .u64 x0_0))), (6, .c (.ref (.tmp 6 20) [] 0 x0_12.length))], [(.arg 0, ⟨.box, 0, [.sc (.int .u64 x0_3), .own 1 x0_4.length (encL c_u8 x0_4), .own 1 x0_5.length (encL c_bool x0_5), .sc (.int .u64 x0_6), .sc (.bool x0_7), .sc (.int .u64 x0_8)]⟩), (.tmp 4 0, ⟨.box, 0, [.sc (.int .i64 x0_9), .sc (.int .i64 x0_10), .own 1 x0_11.length (encL c_u8 x0_11)]⟩), (.tmp 6 20, ⟨.lst, 1, encL c_u8 x0_12⟩)], [], []⟩) (((Weak.keep [0, 4, 5, 6]).trans ((Weak.foc [(.arg 0, ⟨(.arg 0), [], none, .box⟩), (.tmp 4 0, ⟨(.tmp 4 0), [], none, .box⟩), (.tmp 6 20, ⟨(.tmp 6 20), [], none, .lst⟩)] rfl (by first | rfl | simp only [reduceCtorEq, Nat.reduceEqDiff, ak, akF]) (by simp [argK, akG, ak])).trans (Weak.of_eq (by first | rfl | (simp only [reduceCtorEq, Nat.reduceEqDiff, ak, akF]; done) | (simp [reduceCtorEq, Nat.reduceEqDiff, ak, akF]; done)))))) ?_
    refine G0x _ _ ?_
    exact hx0
set_option maxRecDepth 100000 in
set_option maxHeartbeats 4000000 in
theorem impl_buffer_get.tri (a0_0 : Int) (l0_1 : List Int) (l0_2 : List Bool) (a0_3 : Int) (a0_4 : Bool) (a0_5 : Int) (a1 : Int) (r : Int × Int × (List Int) × (List Bool) × Int) (h : impl_buffer_get.f a0_0 l0_1 l0_2 a0_3 a0_4 a0_5 a1 = some r) : Tri Try.prog 160 [.c (.ptr (.arg 0) [] 0), .c (.sc (.int .i64 a1))] [(.arg 0, ⟨.box, 0, [.sc (.int .u64 a0_0), .own 1 l0_1.length (encL c_u8 l0_1), .own 1 l0_2.length (encL c_bool l0_2), .sc (.int .u64 a0_3), .sc (.bool a0_4), .sc (.int .u64 a0_5)]⟩)] (fun o => o = ⟨.g [.sc (.int .i64 r.1), .sc (.int .i64 r.2.1), .ref (.res 0) [] 0 r.2.2.1.length], [(.arg 0, ⟨.box, 0, [.sc (.int .u64 a0_0), .own 1 l0_1.length (encL c_u8 l0_1), .own 1 r.2.2.2.1.length (encL c_bool r.2.2.2.1), .sc (.int .u64 r.2.2.2.2), .sc (.bool a0_4), .sc (.int .u64 a0_5)]⟩), (.res 0, ⟨.lst, 1, encL c_u8 r.2.2.1⟩)], [], []⟩) := by
  refine tri_of_body (ac := c160) (xs := r160) Try.func160 (show Try.f160.body = some (Try.f160.body.getD .skip) from rfl) k160 q160 (Nat.le_of_ble_eq_true rfl) ?_
  refine body_of fun K hKn hKr => ?_
  unfold impl_buffer_get.f at h
  unfold c160
  simp only [initT, Nat.reduceAdd]
  refine seq_k fun J1 hJ1 => ?_
  refine reg_k ?_
  simp only [Nat.reduceEqDiff, Nat.reduceAdd, Nat.reduceMul, Nat.reduceLeDiff, Nat.reduceLT, Int.reduceLE, Int.reduceLT, Int.reduceGT, Int.reduceGE, Int.reduceEq, Int.reduceNe, Int.reduceToNat, reduceCtorEq, ak]
  refine gho_k (Weak.own (.tmp 4 0) (cs' := [.sc (.int .i64 0), .sc (.int .i64 0), .own 1 (([] : List Int).length) (encL c_u8 ([] : List Int))]) rfl ⟨.inl rfl, .inl rfl, .inr ⟨rfl, _, rfl⟩, trivial⟩) ?_
  simp only [Nat.reduceEqDiff, Nat.reduceAdd, Nat.reduceMul, Nat.reduceLeDiff, Nat.reduceLT, Int.reduceLE, Int.reduceLT, Int.reduceGT, Int.reduceGE, Int.reduceEq, Int.reduceNe, Int.reduceToNat, reduceCtorEq, ak]
  refine hJ1 _ ?_
  obtain ⟨j2, h3, hn⟩ := of_bind h
  refine seq_j (fun st => st = ⟨[(0, .c (.ptr (.arg 0) [] 0)), (4, .c (.ptr (.tmp 4 0) [] 0)), (5, .c (.sc (.int .u64 j2)))], [(.arg 0, ⟨.box, 0, [.sc (.int .u64 a0_0), .own 1 l0_1.length (encL c_u8 l0_1), .own 1 l0_2.length (encL c_bool l0_2), .sc (.int .u64 a0_3), .sc (.bool a0_4), .sc (.int .u64 a0_5)]⟩), (.tmp 4 0, ⟨.box, 0, [.sc (.int .i64 0), .sc (.int .i64 0), .own 1 (([] : List Int).length) (encL c_u8 ([] : List Int))]⟩)], [], []⟩) (fun J4 hJ4 => ?_) ?_
  · replace h := h3; clear hn
    refine ga_k fun G5 G5n G5r G5x => ?_
    refine regD_k ?_
    simp only [Nat.reduceEqDiff, Nat.reduceAdd, Nat.reduceMul, Nat.reduceLeDiff, Nat.reduceLT, Int.reduceLE, Int.reduceLT, Int.reduceGT, Int.reduceGE, Int.reduceEq, Int.reduceNe, Int.reduceToNat, reduceCtorEq, ak, mmF, mm2, scv, List.foldl]
    obtain ⟨t6, h7, h⟩ := of_bind h
    refine alt_k ?_ (alt_k ?_ trivial)
    · simp only [Nat.reduceEqDiff, Nat.reduceAdd, Nat.reduceMul, Nat.reduceLeDiff, Nat.reduceLT, Int.reduceLE, Int.reduceLT, Int.reduceGT, Int.reduceGE, Int.reduceEq, Int.reduceNe, Int.reduceToNat, reduceCtorEq, ak]
      refine call_m [(.arg 0, ⟨(.arg 0), [], none, .box⟩)] (s0 := [(.arg 0, ⟨.box, 0, [.sc (.int .u64 a0_0), .own 1 l0_1.length (encL c_u8 l0_1), .own 1 l0_2.length (encL c_bool l0_2), .sc (.int .u64 a0_3), .sc (.bool a0_4), .sc (.int .u64 a0_5)]⟩)]) (by intro t ht; cases ht; decide) rfl rfl (by first | rfl | simp only [reduceCtorEq, Nat.reduceEqDiff, ak, akF]) (impl_buffer_next.tri a0_0 l0_1 l0_2 a0_3 a0_4 a0_5 _ h7) (by first | rfl | simp only [reduceCtorEq, Nat.reduceEqDiff, ak, akF]) (by simp [bkOk2, memK]) (fun hl8 => ?_)
      refine call_st (s4 := [(.arg 0, ⟨.box, 0, [.sc (.int .u64 a0_0), .own 1 l0_1.length (encL c_u8 l0_1), .own 1 l0_2.length (encL c_bool l0_2), .sc (.int .u64 a0_3), .sc (.bool a0_4), .sc (.int .u64 a0_5)]⟩), (.tmp 4 0, ⟨.box, 0, [.sc (.int .i64 0), .sc (.int .i64 0), .own 1 (([] : List Int).length) (encL c_u8 ([] : List Int))]⟩)]) (m1' := []) (m2' := []) (v' := .c (.sc (.int .u64 t6))) (Sto.mapN_killNil _ _) (mrgL_whole (new' := [.sc (.int .u64 a0_0), .own 1 l0_1.length (encL c_u8 l0_1), .own 1 l0_2.length (encL c_bool l0_2), .sc (.int .u64 a0_3), .sc (.bool a0_4), .sc (.int .u64 a0_5)]) (mrgL_nil' _ _ _) rfl (by rfl) (.inl ⟨rfl, by first | rfl | simp only [reduceCtorEq, Nat.reduceEqDiff, ak, akF, Nat.zero_add, List.append_nil]⟩)) (by rfl) (mapT_killNil _ _) (by rfl) (by rfl) (by first | rfl | simp only [reduceCtorEq, Nat.reduceEqDiff, ak, akF, Nat.zero_add, List.append_nil]) ?_
      simp only [Nat.reduceEqDiff, Nat.reduceAdd, Nat.reduceMul, Nat.reduceLeDiff, Nat.reduceLT, Int.reduceLE, Int.reduceLT, Int.reduceGT, Int.reduceGE, Int.reduceEq, Int.reduceNe, Int.reduceToNat, reduceCtorEq, ak, mmF, mm2, scv, List.foldl]
      obtain rfl := Option.some.inj h
      refine G5n _ _ (((Weak.keep [0, 4, 5]).trans ((Weak.foc [(.arg 0, ⟨(.arg 0), [], none, .box⟩), (.tmp 4 0, ⟨(.tmp 4 0), [], none, .box⟩)] rfl (by first | rfl | simp only [reduceCtorEq, Nat.reduceEqDiff, ak, akF]) (by simp [argK, akG, ak])).trans (Weak.of_eq (by first | rfl | (simp only [reduceCtorEq, Nat.reduceEqDiff, ak, akF]; done) | (simp [reduceCtorEq, Nat.reduceEqDiff, ak, akF]; done)))))) (hJ4 _ rfl)
    · simp only [Nat.reduceEqDiff, Nat.reduceAdd, Nat.reduceMul, Nat.reduceLeDiff, Nat.reduceLT, Int.reduceLE, Int.reduceLT, Int.reduceGT, Int.reduceGE, Int.reduceEq, Int.reduceNe, Int.reduceToNat, reduceCtorEq, ak]
      refine alt_k ?_ trivial
      · simp only [Nat.reduceEqDiff, Nat.reduceAdd, Nat.reduceMul, Nat.reduceLeDiff, Nat.reduceLT, Int.reduceLE, Int.reduceLT, Int.reduceGT, Int.reduceGE, Int.reduceEq, Int.reduceNe, Int.reduceToNat, reduceCtorEq, ak]
        refine call_m [(.arg 0, ⟨(.arg 0), [], none, .box⟩)] (s0 := [(.arg 0, ⟨.box, 0, [.sc (.int .u64 a0_0), .own 1 l0_1.length (encL c_u8 l0_1), .own 1 l0_2.length (encL c_bool l0_2), .sc (.int .u64 a0_3), .sc (.bool a0_4), .sc (.int .u64 a0_5)]⟩)]) (by intro t ht; cases ht; decide) rfl rfl (by first | rfl | simp only [reduceCtorEq, Nat.reduceEqDiff, ak, akF]) (impl_buffer_next.tri a0_0 l0_1 l0_2 a0_3 a0_4 a0_5 _ h7) (by first | rfl | simp only [reduceCtorEq, Nat.reduceEqDiff, ak, akF]) (by simp [bkOk2, memK]) (fun hl10 => ?_)
        refine call_st (s4 := [(.arg 0, ⟨.box, 0, [.sc (.int .u64 a0_0), .own 1 l0_1.length (encL c_u8 l0_1), .own 1 l0_2.length (encL c_bool l0_2), .sc (.int .u64 a0_3), .sc (.bool a0_4), .sc (.int .u64 a0_5)]⟩), (.tmp 4 0, ⟨.box, 0, [.sc (.int .i64 0), .sc (.int .i64 0), .own 1 (([] : List Int).length) (encL c_u8 ([] : List Int))]⟩)]) (m1' := []) (m2' := []) (v' := .c (.sc (.int .u64 t6))) (Sto.mapN_killNil _ _) (mrgL_whole (new' := [.sc (.int .u64 a0_0), .own 1 l0_1.length (encL c_u8 l0_1), .own 1 l0_2.length (encL c_bool l0_2), .sc (.int .u64 a0_3), .sc (.bool a0_4), .sc (.int .u64 a0_5)]) (mrgL_nil' _ _ _) rfl (by rfl) (.inl ⟨rfl, by first | rfl | simp only [reduceCtorEq, Nat.reduceEqDiff, ak, akF, Nat.zero_add, List.append_nil]⟩)) (by rfl) (mapT_killNil _ _) (by rfl) (by rfl) (by first | rfl | simp only [reduceCtorEq, Nat.reduceEqDiff, ak, akF, Nat.zero_add, List.append_nil]) ?_
        simp only [Nat.reduceEqDiff, Nat.reduceAdd, Nat.reduceMul, Nat.reduceLeDiff, Nat.reduceLT, Int.reduceLE, Int.reduceLT, Int.reduceGT, Int.reduceGE, Int.reduceEq, Int.reduceNe, Int.reduceToNat, reduceCtorEq, ak, mmF, mm2, scv, List.foldl]
        obtain rfl := Option.some.inj h
        refine G5n _ _ (((Weak.keep [0, 4, 5]).trans ((Weak.foc [(.arg 0, ⟨(.arg 0), [], none, .box⟩), (.tmp 4 0, ⟨(.tmp 4 0), [], none, .box⟩)] rfl (by first | rfl | simp only [reduceCtorEq, Nat.reduceEqDiff, ak, akF]) (by simp [argK, akG, ak])).trans (Weak.of_eq (by first | rfl | (simp only [reduceCtorEq, Nat.reduceEqDiff, ak, akF]; done) | (simp [reduceCtorEq, Nat.reduceEqDiff, ak, akF]; done)))))) (hJ4 _ rfl)
  · replace h := hn; clear hn h3
    rintro _ rfl
    refine seq_k fun J12 hJ12 => ?_
    refine reg_k ?_
    simp only [Nat.reduceEqDiff, Nat.reduceAdd, Nat.reduceMul, Nat.reduceLeDiff, Nat.reduceLT, Int.reduceLE, Int.reduceLT, Int.reduceGT, Int.reduceGE, Int.reduceEq, Int.reduceNe, Int.reduceToNat, reduceCtorEq, ak]
    refine gho_k (Weak.nm' 6 (.tmp 6 20) 1 (encL c_u8 ([] : List Int)) rfl rfl rfl) ?_
    simp only [Nat.reduceEqDiff, Nat.reduceAdd, Nat.reduceMul, Nat.reduceLeDiff, Nat.reduceLT, Int.reduceLE, Int.reduceLT, Int.reduceGT, Int.reduceGE, Int.reduceEq, Int.reduceNe, Int.reduceToNat, reduceCtorEq, ak]
    refine hJ12 _ ?_
    refine seq_k fun J13 hJ13 => ?_
    refine seq_k fun J14 hJ14 => ?_
    refine reg_k ?_
    simp only [Nat.reduceEqDiff, Nat.reduceAdd, Nat.reduceMul, Nat.reduceLeDiff, Nat.reduceLT, Int.reduceLE, Int.reduceLT, Int.reduceGT, Int.reduceGE, Int.reduceEq, Int.reduceNe, Int.reduceToNat, reduceCtorEq, ak]
    refine hJ14 _ ?_
    refine block_k fun B15 B15n B15x B15r B15j => ?_
    obtain ⟨y62, h63, h⟩ := of_bind h
    refine gh_k (st' := ⟨[(0, .c (.ptr (.arg 0) [] 0)), (4, .c (.ptr (.tmp 4 0) [] 0)), (5, .c (.sc (.int .u64 j2))), (6, .c (.ref (.tmp 6 20) [] 0 (([] : List Int).length))), (19, .c (.sc (.int .u64 j2))), (20, .c (.sc (.int .u64 0)))], [(.arg 0, ⟨.box, 0, [.sc (.int .u64 a0_0), .own 1 l0_1.length (encL c_u8 l0_1), .own 1 l0_2.length (encL c_bool l0_2), .sc (.int .u64 a0_3), .sc (.bool a0_4), .sc (.int .u64 a0_5)]⟩), (.tmp 4 0, ⟨.box, 0, [.sc (.int .i64 0), .sc (.int .i64 0), .own 1 (([] : List Int).length) (encL c_u8 ([] : List Int))]⟩), (.tmp 6 20, ⟨.lst, 1, encL c_u8 ([] : List Int)⟩)], [], []⟩) (((Weak.keep [0, 4, 5, 6, 19, 20]).trans ((Weak.foc [(.arg 0, ⟨(.arg 0), [], none, .box⟩), (.tmp 4 0, ⟨(.tmp 4 0), [], none, .box⟩), (.tmp 6 20, ⟨(.tmp 6 20), [], none, .lst⟩)] rfl (by first | rfl | simp only [reduceCtorEq, Nat.reduceEqDiff, ak, akF]) (by simp [argK, akG, ak])).trans (Weak.of_eq (by first | rfl | (simp only [reduceCtorEq, Nat.reduceEqDiff, ak, akF]; done) | (simp [reduceCtorEq, Nat.reduceEqDiff, ak, akF]; done)))))) ?_
    rw [e_loop]
    refine impl_buffer_get.l0_walk j2 j2 a0_0 l0_1 a0_4 a0_5 0 0 ([] : List Int) 0 l0_2 a0_3 ([] : List Int) _ h63 _ ?_
    refine B15x _ ?_
    refine hJ13 _ ?_
    refine seq_k fun J64 hJ64 => ?_
    refine reg_k ?_
    simp only [Nat.reduceEqDiff, Nat.reduceAdd, Nat.reduceMul, Nat.reduceLeDiff, Nat.reduceLT, Int.reduceLE, Int.reduceLT, Int.reduceGT, Int.reduceGE, Int.reduceEq, Int.reduceNe, Int.reduceToNat, reduceCtorEq, ak]
    refine hJ64 _ ?_
    obtain ⟨j65, h66, hn⟩ := of_bind h
    refine seq_j (fun st => st = ⟨[(4, .c (.ptr (.tmp 4 0) [] 0)), (5, .c (.sc (.int .u64 j2))), (6, .c (.ref (.tmp 6 20) [] 0 y62.2.2.length)), (7, .c (.sc (.int .i64 j65)))], [(.arg 0, ⟨.box, 0, [.sc (.int .u64 a0_0), .own 1 l0_1.length (encL c_u8 l0_1), .own 1 y62.1.length (encL c_bool y62.1), .sc (.int .u64 y62.2.1), .sc (.bool a0_4), .sc (.int .u64 a0_5)]⟩), (.tmp 4 0, ⟨.box, 0, [.sc (.int .i64 0), .sc (.int .i64 0), .own 1 (([] : List Int).length) (encL c_u8 ([] : List Int))]⟩), (.tmp 6 20, ⟨.lst, 1, encL c_u8 y62.2.2⟩)], [], []⟩) (fun J67 hJ67 => ?_) ?_
    · replace h := h66; clear hn
      refine ga_k fun G68 G68n G68r G68x => ?_
      obtain ⟨j69, h70, hn⟩ := of_bind h
      refine seq_j (fun st => st = ⟨[(4, .c (.ptr (.tmp 4 0) [] 0)), (5, .c (.sc (.int .u64 j2))), (6, .c (.ref (.tmp 6 20) [] 0 y62.2.2.length)), (7, .c (.sc (.int .i64 0))), (80, .c (.sc (.bool j69)))], [(.arg 0, ⟨.box, 0, [.sc (.int .u64 a0_0), .own 1 l0_1.length (encL c_u8 l0_1), .own 1 y62.1.length (encL c_bool y62.1), .sc (.int .u64 y62.2.1), .sc (.bool a0_4), .sc (.int .u64 a0_5)]⟩), (.tmp 4 0, ⟨.box, 0, [.sc (.int .i64 0), .sc (.int .i64 0), .own 1 (([] : List Int).length) (encL c_u8 ([] : List Int))]⟩), (.tmp 6 20, ⟨.lst, 1, encL c_u8 y62.2.2⟩)], [], []⟩) (fun J71 hJ71 => ?_) ?_
      · replace h := h70; clear hn
        refine ga_k fun G72 G72n G72r G72x => ?_
        refine regD_k ?_
        simp only [Nat.reduceEqDiff, Nat.reduceAdd, Nat.reduceMul, Nat.reduceLeDiff, Nat.reduceLT, Int.reduceLE, Int.reduceLT, Int.reduceGT, Int.reduceGE, Int.reduceEq, Int.reduceNe, Int.reduceToNat, reduceCtorEq, ak]
        by_cases c73 : j2 = 0
        · rw [if_pos c73] at h
          have e74 : decide (j2 = 0) = true := decide_eq_true c73
          simp only [Nat.reduceEqDiff, Nat.reduceAdd, Nat.reduceMul, Nat.reduceLeDiff, Nat.reduceLT, Int.reduceLE, Int.reduceLT, Int.reduceGT, Int.reduceGE, Int.reduceEq, Int.reduceNe, Int.reduceToNat, reduceCtorEq, ak, e74]
          by_cases c75 : a0_4 = true
          · rw [if_pos c75] at h
            have e76 : (a0_4) = true := c75
            simp only [Nat.reduceEqDiff, Nat.reduceAdd, Nat.reduceMul, Nat.reduceLeDiff, Nat.reduceLT, Int.reduceLE, Int.reduceLT, Int.reduceGT, Int.reduceGE, Int.reduceEq, Int.reduceNe, Int.reduceToNat, reduceCtorEq, ak, e76]
            obtain rfl := Option.some.inj h
            refine G72n _ _ (((Weak.keep [4, 5, 6, 7, 80]).trans ((Weak.foc [(.arg 0, ⟨(.arg 0), [], none, .box⟩), (.tmp 4 0, ⟨(.tmp 4 0), [], none, .box⟩), (.tmp 6 20, ⟨(.tmp 6 20), [], none, .lst⟩)] rfl (by first | rfl | simp only [reduceCtorEq, Nat.reduceEqDiff, ak, akF, e74, e76]) (by simp [argK, akG, ak])).trans (Weak.of_eq (by first | rfl | (simp only [reduceCtorEq, Nat.reduceEqDiff, ak, akF, e74, e76]; done) | (simp [reduceCtorEq, Nat.reduceEqDiff, ak, akF, e74, e76]; done)))))) (hJ71 _ rfl)
          · rw [if_neg c75] at h
            have e77 : (a0_4) = false := Bool.eq_false_iff.2 c75
            simp only [Nat.reduceEqDiff, Nat.reduceAdd, Nat.reduceMul, Nat.reduceLeDiff, Nat.reduceLT, Int.reduceLE, Int.reduceLT, Int.reduceGT, Int.reduceGE, Int.reduceEq, Int.reduceNe, Int.reduceToNat, reduceCtorEq, ak, e77]
            obtain rfl := Option.some.inj h
            refine G72n _ _ (((Weak.keep [4, 5, 6, 7, 80]).trans ((Weak.foc [(.arg 0, ⟨(.arg 0), [], none, .box⟩), (.tmp 4 0, ⟨(.tmp 4 0), [], none, .box⟩), (.tmp 6 20, ⟨(.tmp 6 20), [], none, .lst⟩)] rfl (by first | rfl | simp only [reduceCtorEq, Nat.reduceEqDiff, ak, akF, e74, e77]) (by simp [argK, akG, ak])).trans (Weak.of_eq (by first | rfl | (simp only [reduceCtorEq, Nat.reduceEqDiff, ak, akF, e74, e77]; done) | (simp [reduceCtorEq, Nat.reduceEqDiff, ak, akF, e74, e77]; done)))))) (hJ71 _ rfl)
        · rw [if_neg c73] at h
          have e78 : decide (j2 = 0) = false := decide_eq_false c73
          simp only [Nat.reduceEqDiff, Nat.reduceAdd, Nat.reduceMul, Nat.reduceLeDiff, Nat.reduceLT, Int.reduceLE, Int.reduceLT, Int.reduceGT, Int.reduceGE, Int.reduceEq, Int.reduceNe, Int.reduceToNat, reduceCtorEq, ak, e78]
          obtain rfl := Option.some.inj h
          refine G72n _ _ (((Weak.keep [4, 5, 6, 7, 80]).trans ((Weak.foc [(.arg 0, ⟨(.arg 0), [], none, .box⟩), (.tmp 4 0, ⟨(.tmp 4 0), [], none, .box⟩), (.tmp 6 20, ⟨(.tmp 6 20), [], none, .lst⟩)] rfl (by first | rfl | simp only [reduceCtorEq, Nat.reduceEqDiff, ak, akF, e78]) (by simp [argK, akG, ak])).trans (Weak.of_eq (by first | rfl | (simp only [reduceCtorEq, Nat.reduceEqDiff, ak, akF, e78]; done) | (simp [reduceCtorEq, Nat.reduceEqDiff, ak, akF, e78]; done)))))) (hJ71 _ rfl)
      · replace h := hn; clear hn h70
        rintro _ rfl
        refine cond_k (b := j69) rfl (fun c79 => ?_) (fun c79 => ?_)
        · rw [if_pos c79] at h
          refine reg_k ?_
          simp only [Nat.reduceEqDiff, Nat.reduceAdd, Nat.reduceMul, Nat.reduceLeDiff, Nat.reduceLT, Int.reduceLE, Int.reduceLT, Int.reduceGT, Int.reduceGE, Int.reduceEq, Int.reduceNe, Int.reduceToNat, reduceCtorEq, ak]
          obtain rfl := Option.some.inj h
          refine G68n _ _ (((Weak.keep [4, 5, 6, 7]).trans ((Weak.foc [(.arg 0, ⟨(.arg 0), [], none, .box⟩), (.tmp 4 0, ⟨(.tmp 4 0), [], none, .box⟩), (.tmp 6 20, ⟨(.tmp 6 20), [], none, .lst⟩)] rfl (by first | rfl | simp only [reduceCtorEq, Nat.reduceEqDiff, ak, akF]) (by simp [argK, akG, ak])).trans (Weak.of_eq (by first | rfl | (simp only [reduceCtorEq, Nat.reduceEqDiff, ak, akF]; done) | (simp [reduceCtorEq, Nat.reduceEqDiff, ak, akF]; done)))))) (hJ67 _ rfl)
        · rw [if_neg (Bool.eq_false_iff.1 c79)] at h
          obtain rfl := Option.some.inj h
          refine G68n _ _ (((Weak.keep [4, 5, 6, 7]).trans ((Weak.foc [(.arg 0, ⟨(.arg 0), [], none, .box⟩), (.tmp 4 0, ⟨(.tmp 4 0), [], none, .box⟩), (.tmp 6 20, ⟨(.tmp 6 20), [], none, .lst⟩)] rfl (by first | rfl | simp only [reduceCtorEq, Nat.reduceEqDiff, ak, akF]) (by simp [argK, akG, ak])).trans (Weak.of_eq (by first | rfl | (simp only [reduceCtorEq, Nat.reduceEqDiff, ak, akF]; done) | (simp [reduceCtorEq, Nat.reduceEqDiff, ak, akF]; done)))))) (hJ67 _ rfl)
    · replace h := hn; clear hn h66
      rintro _ rfl
      refine seq_k fun J80 hJ80 => ?_
      refine reg_k ?_
      simp only [Nat.reduceEqDiff, Nat.reduceAdd, Nat.reduceMul, Nat.reduceLeDiff, Nat.reduceLT, Int.reduceLE, Int.reduceLT, Int.reduceGT, Int.reduceGE, Int.reduceEq, Int.reduceNe, Int.reduceToNat, reduceCtorEq, ak]
      refine gho_k (Weak.refl _ _) ?_
      have g81 : (encL c_u8 y62.2.2).length = y62.2.2.length * 1 := by simp [encL_length c_u8_w]
      simp only [Nat.reduceEqDiff, Nat.reduceAdd, Nat.reduceMul, Nat.reduceLeDiff, Nat.reduceLT, Int.reduceLE, Int.reduceLT, Int.reduceGT, Int.reduceGE, Int.reduceEq, Int.reduceNe, Int.reduceToNat, reduceCtorEq, ak, g81]
      refine hJ80 _ ?_
      obtain rfl := Option.some.inj h
      refine hKr _ ⟨_, rfl, [⟨(.tmp 4 0), [2], none, .lst⟩], _, rfl, rfl, ?_⟩
      first | rfl | (simp only [reduceCtorEq, Nat.reduceEqDiff, ak, akF]; done) | (simp [reduceCtorEq, Nat.reduceEqDiff, ak, akF]; done)
/-! ### (*impl.buffer).act: function 139 -/
def c139 : AC := .seq (.reg [.op none (.box 3 (.tmp 1)), .op none (.alloc 4 [.int .i64 0, .int .i64 0, .slice none 0 0]), .gh, .keep [0, 3, 4]]) (.seq (.seq (.reg [.op none (.faddr 5 0 (.tmp 3)), .op none (.load 6 false 1 (.tmp 5)), .keep [0, 3, 4, 6]]) (.block 0 (.seq (.reg [.op none (.bin 8 .eql (.tmp 6) (.const (.int .i64 1))), .op none (.mv 7 (.tmp 8)), .keep [0, 3, 4, 6, 7]]) (.cond (.tmp 7) (.seq (.reg [.op none (.mv 9 (.tmp 0)), .op none (.faddr 10 1 (.tmp 3)), .op none (.load 11 false 1 (.tmp 10)), .op none (.faddr 12 2 (.tmp 3)), .op none (.load 13 false 1 (.tmp 12)), .call none (some 14) 158 [.tmp 9, .tmp 11, .tmp 13], .op none (.store 3 (.tmp 4) (.tmp 14)), .keep [4]]) (.ret)) (.seq (.reg [.op none (.bin 16 .eql (.tmp 6) (.const (.int .i64 3))), .op none (.mv 15 (.tmp 16)), .keep [0, 3, 4, 6, 15]]) (.cond (.tmp 15) (.seq (.reg [.op none (.mv 17 (.tmp 0)), .op none (.faddr 18 1 (.tmp 3)), .op none (.load 19 false 1 (.tmp 18)), .call none (some 20) 159 [.tmp 17, .tmp 19], .op none (.store 3 (.tmp 4) (.tmp 20)), .keep [4]]) (.ret)) (.seq (.reg [.op none (.bin 22 .eql (.tmp 6) (.const (.int .i64 2))), .op none (.mv 21 (.tmp 22)), .keep [0, 3, 4, 21]]) (.cond (.tmp 21) (.seq (.reg [.op none (.mv 23 (.tmp 0)), .op none (.faddr 24 3 (.tmp 3)), .op none (.load 25 false 1 (.tmp 24)), .call none (some 26) 160 [.tmp 23, .tmp 25], .op none (.store 3 (.tmp 4) (.tmp 26)), .keep [4]]) (.ret)) (.skip))))))))) (.seq (.reg [.op none (.build 27 [.int .i64 0, .int .i64 0, .slice none 0 0] [(0, 1, .const (.int .i64 1))]), .gh, .op none (.store 3 (.tmp 4) (.tmp 27)), .keep [4]]) (.ret)))
def r139 : List RV := [.cell 4 true 3]
theorem k139 : compC Try.prog 28 (Try.f139.body.getD .skip) = some c139.erase := by kernel_rfl
theorem q139 : rvsOf Try.prog Try.f139.results.toList = some r139 := by kernel_rfl
def impl_buffer_act.f (a0_0 : Int) (l0_1 : List Int) (l0_2 : List Bool) (a0_3 : Int) (a0_4 : Bool) (a0_5 : Int) (a1_0 : Int) (a1_1 : Int) (l1_2 : List Int) (a1_3 : Int) : Option (Int × Int × (List Int) × (List Int) × (List Bool) × Int × Bool × Int) := (if a1_0 = 1 then (impl_buffer_put.f a0_0 l0_1 l0_2 a0_3 a0_4 a0_5 a1_1 l1_2 >>= fun t8 => (some (t8.1, t8.2.1, t8.2.2.1, t8.2.2.2.1, t8.2.2.2.2, a0_3, a0_4, a0_5))) else (if a1_0 = 3 then (impl_buffer_end.f a0_0 l0_1 l0_2 a0_3 a0_4 a0_5 a1_1 >>= fun t15 => (some (t15.1, t15.2.1, t15.2.2.1, l0_1, l0_2, a0_3, t15.2.2.2.1, t15.2.2.2.2))) else (if a1_0 = 2 then (impl_buffer_get.f a0_0 l0_1 l0_2 a0_3 a0_4 a0_5 a1_3 >>= fun t22 => (some (t22.1, t22.2.1, t22.2.2.1, l0_1, t22.2.2.2.1, t22.2.2.2.2, a0_4, a0_5))) else (some (1, 0, ([] : List Int), l0_1, l0_2, a0_3, a0_4, a0_5)))))
set_option maxRecDepth 100000 in
set_option maxHeartbeats 4000000 in
theorem impl_buffer_act.tri (cs1 : List Cell) (o1 : Nat) (l1_2 : List Int) (hv1 : Vw c_u8 1 cs1 o1 l1_2) (a0_0 : Int) (l0_1 : List Int) (l0_2 : List Bool) (a0_3 : Int) (a0_4 : Bool) (a0_5 : Int) (a1_0 : Int) (a1_1 : Int) (a1_3 : Int) (r : Int × Int × (List Int) × (List Int) × (List Bool) × Int × Bool × Int) (h : impl_buffer_act.f a0_0 l0_1 l0_2 a0_3 a0_4 a0_5 a1_0 a1_1 l1_2 a1_3 = some r) : Tri Try.prog 139 [.c (.ptr (.arg 0) [] 0), .g [.sc (.int .i64 a1_0), .sc (.int .u64 a1_1), .ref (.arg 1) [] o1 l1_2.length, .sc (.int .i64 a1_3)]] [(.arg 0, ⟨.box, 0, [.sc (.int .u64 a0_0), .own 1 l0_1.length (encL c_u8 l0_1), .own 1 l0_2.length (encL c_bool l0_2), .sc (.int .u64 a0_3), .sc (.bool a0_4), .sc (.int .u64 a0_5)]⟩), (.arg 1, ⟨.fz, 1, cs1⟩)] (fun o => o = ⟨.g [.sc (.int .i64 r.1), .sc (.int .i64 r.2.1), .ref (.res 0) [] 0 r.2.2.1.length], [(.arg 0, ⟨.box, 0, [.sc (.int .u64 a0_0), .own 1 r.2.2.2.1.length (encL c_u8 r.2.2.2.1), .own 1 r.2.2.2.2.1.length (encL c_bool r.2.2.2.2.1), .sc (.int .u64 r.2.2.2.2.2.1), .sc (.bool r.2.2.2.2.2.2.1), .sc (.int .u64 r.2.2.2.2.2.2.2)]⟩), (.arg 1, ⟨.fz, 1, cs1⟩), (.res 0, ⟨.lst, 1, encL c_u8 r.2.2.1⟩)], [], []⟩) := by
  refine tri_of_body (ac := c139) (xs := r139) Try.func139 (show Try.f139.body = some (Try.f139.body.getD .skip) from rfl) k139 q139 (Nat.le_of_ble_eq_true rfl) ?_
  refine body_of fun K hKn hKr => ?_
  unfold impl_buffer_act.f at h
  unfold c139
  simp only [initT, Nat.reduceAdd]
  refine seq_k fun J1 hJ1 => ?_
  refine reg_k ?_
  simp only [Nat.reduceEqDiff, Nat.reduceAdd, Nat.reduceMul, Nat.reduceLeDiff, Nat.reduceLT, Int.reduceLE, Int.reduceLT, Int.reduceGT, Int.reduceGE, Int.reduceEq, Int.reduceNe, Int.reduceToNat, reduceCtorEq, ak]
  refine gho_k (Weak.own (.tmp 4 0) (cs' := [.sc (.int .i64 0), .sc (.int .i64 0), .own 1 (([] : List Int).length) (encL c_u8 ([] : List Int))]) rfl ⟨.inl rfl, .inl rfl, .inr ⟨rfl, _, rfl⟩, trivial⟩) ?_
  simp only [Nat.reduceEqDiff, Nat.reduceAdd, Nat.reduceMul, Nat.reduceLeDiff, Nat.reduceLT, Int.reduceLE, Int.reduceLT, Int.reduceGT, Int.reduceGE, Int.reduceEq, Int.reduceNe, Int.reduceToNat, reduceCtorEq, ak]
  refine hJ1 _ ?_
  refine seq_k fun J2 hJ2 => ?_
  refine seq_k fun J3 hJ3 => ?_
  refine reg_k ?_
  simp only [Nat.reduceEqDiff, Nat.reduceAdd, Nat.reduceMul, Nat.reduceLeDiff, Nat.reduceLT, Int.reduceLE, Int.reduceLT, Int.reduceGT, Int.reduceGE, Int.reduceEq, Int.reduceNe, Int.reduceToNat, reduceCtorEq, ak]
  refine hJ3 _ ?_
  refine block_k fun B4 B4n B4x B4r B4j => ?_
  refine seq_k fun J5 hJ5 => ?_
  refine reg_k ?_
  simp only [Nat.reduceEqDiff, Nat.reduceAdd, Nat.reduceMul, Nat.reduceLeDiff, Nat.reduceLT, Int.reduceLE, Int.reduceLT, Int.reduceGT, Int.reduceGE, Int.reduceEq, Int.reduceNe, Int.reduceToNat, reduceCtorEq, ak]
  refine hJ5 _ ?_
  refine cond_k (b := decide (a1_0 = 1)) rfl (fun c6 => ?_) (fun c6 => ?_)
  · replace c6 := of_decide_eq_true c6; rw [if_pos c6] at h
    refine seq_k fun J7 hJ7 => ?_
    refine reg_k ?_
    simp only [Nat.reduceEqDiff, Nat.reduceAdd, Nat.reduceMul, Nat.reduceLeDiff, Nat.reduceLT, Int.reduceLE, Int.reduceLT, Int.reduceGT, Int.reduceGE, Int.reduceEq, Int.reduceNe, Int.reduceToNat, reduceCtorEq, ak]
    obtain ⟨t8, h9, h⟩ := of_bind h
    refine call_m [(.arg 0, ⟨(.arg 0), [], none, .box⟩), (.arg 1, ⟨(.arg 1), [], none, .fz⟩)] (s0 := [(.arg 0, ⟨.box, 0, [.sc (.int .u64 a0_0), .own 1 l0_1.length (encL c_u8 l0_1), .own 1 l0_2.length (encL c_bool l0_2), .sc (.int .u64 a0_3), .sc (.bool a0_4), .sc (.int .u64 a0_5)]⟩), (.arg 1, ⟨.fz, 1, cs1⟩)]) (by intro t ht; cases ht; decide) rfl rfl (by first | rfl | simp only [reduceCtorEq, Nat.reduceEqDiff, ak, akF]) (impl_buffer_put.tri (cs1) o1 l1_2 hv1 a0_0 l0_1 l0_2 a0_3 a0_4 a0_5 a1_1 _ h9) (by first | rfl | simp only [reduceCtorEq, Nat.reduceEqDiff, ak, akF]) (by simp [bkOk2, memK]) (fun hl9 => ?_)
    refine call_st (s4 := [(.arg 0, ⟨.box, 0, [.sc (.int .u64 a0_0), .own 1 t8.2.2.2.1.length (encL c_u8 t8.2.2.2.1), .own 1 t8.2.2.2.2.length (encL c_bool t8.2.2.2.2), .sc (.int .u64 a0_3), .sc (.bool a0_4), .sc (.int .u64 a0_5)]⟩), (.arg 1, ⟨.fz, 1, cs1⟩), (.tmp 3 0, ⟨.box, 0, [.sc (.int .i64 a1_0), .sc (.int .u64 a1_1), .ref (.arg 1) [] o1 l1_2.length, .sc (.int .i64 a1_3)]⟩), (.tmp 4 0, ⟨.box, 0, [.sc (.int .i64 0), .sc (.int .i64 0), .own 1 (([] : List Int).length) (encL c_u8 ([] : List Int))]⟩), (.tmp 14 0, ⟨.lst, 1, encL c_u8 t8.2.2.1⟩)]) (m1' := []) (m2' := []) (v' := .g [.sc (.int .i64 t8.1), .sc (.int .i64 t8.2.1), .ref (.tmp 14 0) [] 0 t8.2.2.1.length]) (Sto.mapN_killNil _ _) (mrgL_whole (new' := [.sc (.int .u64 a0_0), .own 1 t8.2.2.2.1.length (encL c_u8 t8.2.2.2.1), .own 1 t8.2.2.2.2.length (encL c_bool t8.2.2.2.2), .sc (.int .u64 a0_3), .sc (.bool a0_4), .sc (.int .u64 a0_5)]) (mrgL_fz (mrgL_nil' _ _ _) rfl (by first | rfl | simp only [reduceCtorEq, Nat.reduceEqDiff, ak]) rfl (by intro R hR hh; cases hR; cases hh.2)) rfl (by rfl) (.inl ⟨rfl, by first | rfl | simp only [reduceCtorEq, Nat.reduceEqDiff, ak, akF, Nat.zero_add, List.append_nil]⟩)) (by rfl) (mapT_killNil _ _) (by rfl) (by rfl) (by first | rfl | simp only [reduceCtorEq, Nat.reduceEqDiff, ak, akF, Nat.zero_add, List.append_nil]) ?_
    have g11 : (encL c_u8 t8.2.2.1).length = t8.2.2.1.length * 1 := by simp [encL_length c_u8_w]
    simp only [Nat.reduceEqDiff, Nat.reduceAdd, Nat.reduceMul, Nat.reduceLeDiff, Nat.reduceLT, Int.reduceLE, Int.reduceLT, Int.reduceGT, Int.reduceGE, Int.reduceEq, Int.reduceNe, Int.reduceToNat, reduceCtorEq, ak, g11]
    refine hJ7 _ ?_
    refine B4r _ ?_
    obtain rfl := Option.some.inj h
    refine hKr _ ⟨_, rfl, [⟨(.tmp 4 0), [2], none, .lst⟩], _, rfl, rfl, ?_⟩
    first | rfl | (simp only [reduceCtorEq, Nat.reduceEqDiff, ak, akF]; done) | (simp [reduceCtorEq, Nat.reduceEqDiff, ak, akF]; done)
  · replace c6 := of_decide_eq_false c6; rw [if_neg c6] at h
    refine seq_k fun J12 hJ12 => ?_
    refine reg_k ?_
    simp only [Nat.reduceEqDiff, Nat.reduceAdd, Nat.reduceMul, Nat.reduceLeDiff, Nat.reduceLT, Int.reduceLE, Int.reduceLT, Int.reduceGT, Int.reduceGE, Int.reduceEq, Int.reduceNe, Int.reduceToNat, reduceCtorEq, ak]
    refine hJ12 _ ?_
    refine cond_k (b := decide (a1_0 = 3)) rfl (fun c13 => ?_) (fun c13 => ?_)
    · replace c13 := of_decide_eq_true c13; rw [if_pos c13] at h
      refine seq_k fun J14 hJ14 => ?_
      refine reg_k ?_
      simp only [Nat.reduceEqDiff, Nat.reduceAdd, Nat.reduceMul, Nat.reduceLeDiff, Nat.reduceLT, Int.reduceLE, Int.reduceLT, Int.reduceGT, Int.reduceGE, Int.reduceEq, Int.reduceNe, Int.reduceToNat, reduceCtorEq, ak]
      obtain ⟨t15, h16, h⟩ := of_bind h
      refine call_m [(.arg 0, ⟨(.arg 0), [], none, .box⟩)] (s0 := [(.arg 0, ⟨.box, 0, [.sc (.int .u64 a0_0), .own 1 l0_1.length (encL c_u8 l0_1), .own 1 l0_2.length (encL c_bool l0_2), .sc (.int .u64 a0_3), .sc (.bool a0_4), .sc (.int .u64 a0_5)]⟩)]) (by intro t ht; cases ht; decide) rfl rfl (by first | rfl | simp only [reduceCtorEq, Nat.reduceEqDiff, ak, akF]) (impl_buffer_end.tri a0_0 l0_1 l0_2 a0_3 a0_4 a0_5 a1_1 _ h16) (by first | rfl | simp only [reduceCtorEq, Nat.reduceEqDiff, ak, akF]) (by simp [bkOk2, memK]) (fun hl16 => ?_)
      refine call_st (s4 := [(.arg 0, ⟨.box, 0, [.sc (.int .u64 a0_0), .own 1 l0_1.length (encL c_u8 l0_1), .own 1 l0_2.length (encL c_bool l0_2), .sc (.int .u64 a0_3), .sc (.bool t15.2.2.2.1), .sc (.int .u64 t15.2.2.2.2)]⟩), (.arg 1, ⟨.fz, 1, cs1⟩), (.tmp 3 0, ⟨.box, 0, [.sc (.int .i64 a1_0), .sc (.int .u64 a1_1), .ref (.arg 1) [] o1 l1_2.length, .sc (.int .i64 a1_3)]⟩), (.tmp 4 0, ⟨.box, 0, [.sc (.int .i64 0), .sc (.int .i64 0), .own 1 (([] : List Int).length) (encL c_u8 ([] : List Int))]⟩), (.tmp 20 0, ⟨.lst, 1, encL c_u8 t15.2.2.1⟩)]) (m1' := []) (m2' := []) (v' := .g [.sc (.int .i64 t15.1), .sc (.int .i64 t15.2.1), .ref (.tmp 20 0) [] 0 t15.2.2.1.length]) (Sto.mapN_killNil _ _) (mrgL_whole (new' := [.sc (.int .u64 a0_0), .own 1 l0_1.length (encL c_u8 l0_1), .own 1 l0_2.length (encL c_bool l0_2), .sc (.int .u64 a0_3), .sc (.bool t15.2.2.2.1), .sc (.int .u64 t15.2.2.2.2)]) (mrgL_nil' _ _ _) rfl (by rfl) (.inl ⟨rfl, by first | rfl | simp only [reduceCtorEq, Nat.reduceEqDiff, ak, akF, Nat.zero_add, List.append_nil]⟩)) (by rfl) (mapT_killNil _ _) (by rfl) (by rfl) (by first | rfl | simp only [reduceCtorEq, Nat.reduceEqDiff, ak, akF, Nat.zero_add, List.append_nil]) ?_
      have g18 : (encL c_u8 t15.2.2.1).length = t15.2.2.1.length * 1 := by simp [encL_length c_u8_w]
      simp only [Nat.reduceEqDiff, Nat.reduceAdd, Nat.reduceMul, Nat.reduceLeDiff, Nat.reduceLT, Int.reduceLE, Int.reduceLT, Int.reduceGT, Int.reduceGE, Int.reduceEq, Int.reduceNe, Int.reduceToNat, reduceCtorEq, ak, g18]
      refine hJ14 _ ?_
      refine B4r _ ?_
      obtain rfl := Option.some.inj h
      refine hKr _ ⟨_, rfl, [⟨(.tmp 4 0), [2], none, .lst⟩], _, rfl, rfl, ?_⟩
      first | rfl | (simp only [reduceCtorEq, Nat.reduceEqDiff, ak, akF]; done) | (simp [reduceCtorEq, Nat.reduceEqDiff, ak, akF]; done)
    · replace c13 := of_decide_eq_false c13; rw [if_neg c13] at h
      refine seq_k fun J19 hJ19 => ?_
      refine reg_k ?_
      simp only [Nat.reduceEqDiff, Nat.reduceAdd, Nat.reduceMul, Nat.reduceLeDiff, Nat.reduceLT, Int.reduceLE, Int.reduceLT, Int.reduceGT, Int.reduceGE, Int.reduceEq, Int.reduceNe, Int.reduceToNat, reduceCtorEq, ak]
      refine hJ19 _ ?_
      refine cond_k (b := decide (a1_0 = 2)) rfl (fun c20 => ?_) (fun c20 => ?_)
      · replace c20 := of_decide_eq_true c20; rw [if_pos c20] at h
        refine seq_k fun J21 hJ21 => ?_
        refine reg_k ?_
        simp only [Nat.reduceEqDiff, Nat.reduceAdd, Nat.reduceMul, Nat.reduceLeDiff, Nat.reduceLT, Int.reduceLE, Int.reduceLT, Int.reduceGT, Int.reduceGE, Int.reduceEq, Int.reduceNe, Int.reduceToNat, reduceCtorEq, ak]
        obtain ⟨t22, h23, h⟩ := of_bind h
        refine call_m [(.arg 0, ⟨(.arg 0), [], none, .box⟩)] (s0 := [(.arg 0, ⟨.box, 0, [.sc (.int .u64 a0_0), .own 1 l0_1.length (encL c_u8 l0_1), .own 1 l0_2.length (encL c_bool l0_2), .sc (.int .u64 a0_3), .sc (.bool a0_4), .sc (.int .u64 a0_5)]⟩)]) (by intro t ht; cases ht; decide) rfl rfl (by first | rfl | simp only [reduceCtorEq, Nat.reduceEqDiff, ak, akF]) (impl_buffer_get.tri a0_0 l0_1 l0_2 a0_3 a0_4 a0_5 a1_3 _ h23) (by first | rfl | simp only [reduceCtorEq, Nat.reduceEqDiff, ak, akF]) (by simp [bkOk2, memK]) (fun hl23 => ?_)
        refine call_st (s4 := [(.arg 0, ⟨.box, 0, [.sc (.int .u64 a0_0), .own 1 l0_1.length (encL c_u8 l0_1), .own 1 t22.2.2.2.1.length (encL c_bool t22.2.2.2.1), .sc (.int .u64 t22.2.2.2.2), .sc (.bool a0_4), .sc (.int .u64 a0_5)]⟩), (.arg 1, ⟨.fz, 1, cs1⟩), (.tmp 3 0, ⟨.box, 0, [.sc (.int .i64 a1_0), .sc (.int .u64 a1_1), .ref (.arg 1) [] o1 l1_2.length, .sc (.int .i64 a1_3)]⟩), (.tmp 4 0, ⟨.box, 0, [.sc (.int .i64 0), .sc (.int .i64 0), .own 1 (([] : List Int).length) (encL c_u8 ([] : List Int))]⟩), (.tmp 26 0, ⟨.lst, 1, encL c_u8 t22.2.2.1⟩)]) (m1' := []) (m2' := []) (v' := .g [.sc (.int .i64 t22.1), .sc (.int .i64 t22.2.1), .ref (.tmp 26 0) [] 0 t22.2.2.1.length]) (Sto.mapN_killNil _ _) (mrgL_whole (new' := [.sc (.int .u64 a0_0), .own 1 l0_1.length (encL c_u8 l0_1), .own 1 t22.2.2.2.1.length (encL c_bool t22.2.2.2.1), .sc (.int .u64 t22.2.2.2.2), .sc (.bool a0_4), .sc (.int .u64 a0_5)]) (mrgL_nil' _ _ _) rfl (by rfl) (.inl ⟨rfl, by first | rfl | simp only [reduceCtorEq, Nat.reduceEqDiff, ak, akF, Nat.zero_add, List.append_nil]⟩)) (by rfl) (mapT_killNil _ _) (by rfl) (by rfl) (by first | rfl | simp only [reduceCtorEq, Nat.reduceEqDiff, ak, akF, Nat.zero_add, List.append_nil]) ?_
        have g25 : (encL c_u8 t22.2.2.1).length = t22.2.2.1.length * 1 := by simp [encL_length c_u8_w]
        simp only [Nat.reduceEqDiff, Nat.reduceAdd, Nat.reduceMul, Nat.reduceLeDiff, Nat.reduceLT, Int.reduceLE, Int.reduceLT, Int.reduceGT, Int.reduceGE, Int.reduceEq, Int.reduceNe, Int.reduceToNat, reduceCtorEq, ak, g25]
        refine hJ21 _ ?_
        refine B4r _ ?_
        obtain rfl := Option.some.inj h
        refine hKr _ ⟨_, rfl, [⟨(.tmp 4 0), [2], none, .lst⟩], _, rfl, rfl, ?_⟩
        first | rfl | (simp only [reduceCtorEq, Nat.reduceEqDiff, ak, akF]; done) | (simp [reduceCtorEq, Nat.reduceEqDiff, ak, akF]; done)
      · replace c20 := of_decide_eq_false c20; rw [if_neg c20] at h
        refine B4n _ ?_
        refine hJ2 _ ?_
        refine seq_k fun J26 hJ26 => ?_
        refine reg_k ?_
        simp only [Nat.reduceEqDiff, Nat.reduceAdd, Nat.reduceMul, Nat.reduceLeDiff, Nat.reduceLT, Int.reduceLE, Int.reduceLT, Int.reduceGT, Int.reduceGE, Int.reduceEq, Int.reduceNe, Int.reduceToNat, reduceCtorEq, ak]
        refine gho_k (Weak.nmg' 27 2 (.tmp 27 22) 1 (encL c_u8 ([] : List Int)) rfl rfl rfl rfl) ?_
        have g27 : (encL c_u8 ([] : List Int)).length = 0 * 1 := by simp [encL_length c_u8_w]
        simp only [Nat.reduceEqDiff, Nat.reduceAdd, Nat.reduceMul, Nat.reduceLeDiff, Nat.reduceLT, Int.reduceLE, Int.reduceLT, Int.reduceGT, Int.reduceGE, Int.reduceEq, Int.reduceNe, Int.reduceToNat, reduceCtorEq, ak, g27]
        refine hJ26 _ ?_
        obtain rfl := Option.some.inj h
        refine hKr _ ⟨_, rfl, [⟨(.tmp 4 0), [2], none, .lst⟩], _, rfl, rfl, ?_⟩
        first | rfl | (simp only [reduceCtorEq, Nat.reduceEqDiff, ak, akF]; done) | (simp [reduceCtorEq, Nat.reduceEqDiff, ak, akF]; done)
/-! ### impl.reorderAfter: function 102 -/
def c102_l0 : AC := .seq (.reg [.op none (.bin 32 .lss (.tmp 31) (.tmp 30)), .keep [9, 10, 29, 30, 31, 32]]) (.seq (.cond (.tmp 32) (.skip) (.gh (.exit 0))) (.seq (.block 1 (.seq (.reg [.op none (.iaddr 33 4 (.tmp 29) (.tmp 31)), .op none (.load 34 true 4 (.tmp 33)), .op none (.alloc 12 [.int .i64 0, .int .u64 0, .slice none 0 0, .int .i64 0]), .gh, .op none (.store 4 (.tmp 12) (.tmp 34)), .keep [9, 10, 12, 29, 30, 31]]) (.reg [.op none (.mv 35 (.tmp 10)), .op none (.mv 36 (.tmp 9)), .op none (.load 37 true 4 (.tmp 12)), .call none (some 38) 139 [.tmp 36, .tmp 37], .op none (.bslice 39 3 [.int .i64 0, .int .i64 0, .slice none 0 0] 1 [(0, .tmp 38)]), .gh, .op none (.app 40 3 40 true (.tmp 35) (.tmp 39)), .op none (.mv 10 (.tmp 40)), .keep [9, 10, 29, 30, 31]]))) (.reg [.op none (.bin 41 .add (.tmp 31) (.const (.int .i64 1))), .op none (.mv 31 (.tmp 41)), .keep [9, 10, 29, 30, 31]])))
def c102 : AC := .seq (.reg [.op none (.mv 6 (.const (.pointer none))), .op none (.mv 7 (.const (.slice none 0 0))), .gh, .op none (.mv 8 (.const (.int .i64 0))), .keep [0, 1, 2]]) (.seq (.seq (.ga (.reg [.op none (.mv 13 (.tmp 0)), .op none (.bin 14 .gtr (.tmp 13) (.const (.int .u64 4611686018427387904))), .op none (.mv 15 (.tmp 14)), .op (some (15, false)) (.mv 16 (.tmp 1)), .op (some (15, false)) (.bin 17 .lss (.tmp 16) (.const (.int .i64 1))), .op none (.pick 18 (.tmp 15) (.const (.bool true)) (.tmp 17)), .op none (.mv 19 (.tmp 18)), .op (some (19, false)) (.mv 20 (.tmp 1)), .op (some (19, false)) (.bin 21 .gtr (.tmp 20) (.const (.int .i64 4096))), .op none (.pick 22 (.tmp 19) (.const (.bool true)) (.tmp 21)), .keep [0, 1, 2, 22]])) (.cond (.tmp 22) (.seq (.reg [.op none (.mv 6 (.const (.pointer none))), .op none (.mv 7 (.const (.slice none 0 0))), .gh, .op none (.mv 8 (.const (.int .i64 17))), .keep [6, 7, 8]]) (.ret)) (.skip))) (.seq (.seq (.reg [.op none (.mv 23 (.tmp 2)), .op none (.len 24 (.tmp 23)), .op none (.bin 25 .gtr (.tmp 24) (.const (.int .i64 4000))), .keep [0, 1, 2, 25]]) (.cond (.tmp 25) (.seq (.reg [.op none (.mv 6 (.const (.pointer none))), .op none (.mv 7 (.const (.slice none 0 0))), .gh, .op none (.mv 8 (.const (.int .i64 5))), .keep [6, 7, 8]]) (.ret)) (.skip))) (.seq (.reg [.op none (.mv 26 (.tmp 0)), .op none (.mv 27 (.tmp 1)), .call none (some 28) 138 [.tmp 26, .tmp 27], .op none (.mv 9 (.tmp 28)), .keep [2, 9]]) (.seq (.reg [.op none (.mv 10 (.const (.slice none 0 0))), .gh, .keep [2, 9, 10]]) (.seq (.seq (.reg [.op none (.mv 29 (.tmp 2)), .op none (.len 30 (.tmp 29)), .op none (.mv 31 (.const (.int .i64 0))), .keep [9, 10, 29, 30, 31]]) (.block 0 (.gh (.loop (.ga c102_l0))))) (.seq (.reg [.op none (.mv 42 (.tmp 9)), .op none (.mv 43 (.tmp 10)), .op none (.mv 6 (.tmp 42)), .op none (.mv 7 (.tmp 43)), .op none (.mv 8 (.const (.int .i64 0))), .keep [6, 7, 8]]) (.ret)))))))
def r102 : List RV := [.tmp 6, .tmp 7, .tmp 8]
theorem k102 : compC Try.prog 44 (Try.f102.body.getD .skip) = some c102.erase := by kernel_rfl
theorem q102 : rvsOf Try.prog Try.f102.results.toList = some r102 := by kernel_rfl
def impl_reorderAfter.l0 (l2 : List S116) (x0_0 : Int) (x0_2 : Int) (x0_1 : Int) (x0_3 : (List Int)) (x0_4 : (List Bool)) (x0_5 : Int) (x0_6 : Bool) (x0_7 : Int) (x0_8 : (List S118)) : Option ((List Int) × (List Bool) × Int × Bool × Int × (List S118)) := (if x0_1 < x0_0 then (if 0 ≤ x0_1 ∧ x0_1 < (l2.length : Int) then (impl_buffer_act.f x0_2 x0_3 x0_4 x0_5 x0_6 x0_7 ((rd z116 l2 x0_1).f0) ((rd z116 l2 x0_1).f1) ((rd z116 l2 x0_1).f2) ((rd z116 l2 x0_1).f3) >>= fun t36 => (if (x0_8.length + 1) * 40 ≤ 140737488355328 then (impl_reorderAfter.l0 l2 x0_0 x0_2 (IntKind.i64.wrap (x0_1 + 1)) t36.2.2.2.1 t36.2.2.2.2.1 t36.2.2.2.2.2.1 t36.2.2.2.2.2.2.1 t36.2.2.2.2.2.2.2 (x0_8 ++ ([(⟨t36.1, t36.2.1, t36.2.2.1⟩ : S118)] : List S118))) else none)) else none) else (some (x0_3, x0_4, x0_5, x0_6, x0_7, x0_8)))
  partial_fixpoint
def impl_reorderAfter.f (a0 : Int) (a1 : Int) (l2 : List S116) : Option ((Option (Int × (List Int) × (List Bool) × Int × Bool × Int)) × (List S118) × Int) := ((if a0 > 4611686018427387904 then (some true) else (if a1 < 1 then (some true) else (some (decide (a1 > 4096))))) >>= fun (j3 : Bool) => (if j3 = true then (some (none, ([] : List S118), 17)) else (if (l2.length : Int) > 4000 then (some (none, ([] : List S118), 5)) else (impl_newBuffer.f a0 a1 >>= fun t20 => (impl_reorderAfter.l0 l2 (l2.length : Int) t20.1 0 t20.2.1 t20.2.2.1 t20.2.2.2.1 t20.2.2.2.2.1 t20.2.2.2.2.2 ([] : List S118) >>= fun (y49 : ((List Int) × (List Bool) × Int × Bool × Int × (List S118))) => (some ((some (t20.1, y49.1, y49.2.1, y49.2.2.1, y49.2.2.2.1, y49.2.2.2.2.1)), y49.2.2.2.2.2, 0)))))))
set_option maxRecDepth 100000 in
set_option maxHeartbeats 4000000 in
theorem impl_reorderAfter.l0_walk (cs0 : List Cell) (o0 : Nat) (l2 : List S116) (hv0 : Vw c116 4 cs0 o0 l2) (x0_0 : Int) (x0_2 : Int) (x0_1 : Int) (x0_3 : (List Int)) (x0_4 : (List Bool)) (x0_5 : Int) (x0_6 : Bool) (x0_7 : Int) (x0_8 : (List S118)) (y : ((List Int) × (List Bool) × Int × Bool × Int × (List S118))) (h : impl_reorderAfter.l0 l2 x0_0 x0_2 x0_1 x0_3 x0_4 x0_5 x0_6 x0_7 x0_8 = some y) (K : AE → St → Prop) (hx0 : K (.exit 0) ⟨[(9, .c (.ptr (.tmp 28 0) [] 0)), (10, .c (.ref (.tmp 10 20) [] 0 y.2.2.2.2.2.length))], [(.arg 0, ⟨.fz, 4, cs0⟩), (.tmp 28 0, ⟨.box, 0, [.sc (.int .u64 x0_2), .own 1 y.1.length (encL c_u8 y.1), .own 1 y.2.1.length (encL c_bool y.2.1), .sc (.int .u64 y.2.2.1), .sc (.bool y.2.2.2.1), .sc (.int .u64 y.2.2.2.2.1)]⟩), (.tmp 10 20, ⟨.lst, 3, encL c118 y.2.2.2.2.2⟩)], [], []⟩) : loopS Try.prog 44 (.ga c102_l0) K ⟨[(9, .c (.ptr (.tmp 28 0) [] 0)), (10, .c (.ref (.tmp 10 20) [] 0 x0_8.length)), (29, .c (.ref (.arg 0) [] o0 l2.length)), (30, .c (.sc (.int .i64 x0_0))), (31, .c (.sc (.int .i64 x0_1)))], [(.arg 0, ⟨.fz, 4, cs0⟩), (.tmp 28 0, ⟨.box, 0, [.sc (.int .u64 x0_2), .own 1 x0_3.length (encL c_u8 x0_3), .own 1 x0_4.length (encL c_bool x0_4), .sc (.int .u64 x0_5), .sc (.bool x0_6), .sc (.int .u64 x0_7)]⟩), (.tmp 10 20, ⟨.lst, 3, encL c118 x0_8⟩)], [], []⟩ := by
  refine impl_reorderAfter.l0.partial_correctness l2 x0_0 x0_2 (motive := fun x0_1 x0_3 x0_4 x0_5 x0_6 x0_7 x0_8 y => ∀ (K : AE → St → Prop), (K (.exit 0) ⟨[(9, .c (.ptr (.tmp 28 0) [] 0)), (10, .c (.ref (.tmp 10 20) [] 0 y.2.2.2.2.2.length))], [(.arg 0, ⟨.fz, 4, cs0⟩), (.tmp 28 0, ⟨.box, 0, [.sc (.int .u64 x0_2), .own 1 y.1.length (encL c_u8 y.1), .own 1 y.2.1.length (encL c_bool y.2.1), .sc (.int .u64 y.2.2.1), .sc (.bool y.2.2.2.1), .sc (.int .u64 y.2.2.2.2.1)]⟩), (.tmp 10 20, ⟨.lst, 3, encL c118 y.2.2.2.2.2⟩)], [], []⟩) → loopS Try.prog 44 (.ga c102_l0) K ⟨[(9, .c (.ptr (.tmp 28 0) [] 0)), (10, .c (.ref (.tmp 10 20) [] 0 x0_8.length)), (29, .c (.ref (.arg 0) [] o0 l2.length)), (30, .c (.sc (.int .i64 x0_0))), (31, .c (.sc (.int .i64 x0_1)))], [(.arg 0, ⟨.fz, 4, cs0⟩), (.tmp 28 0, ⟨.box, 0, [.sc (.int .u64 x0_2), .own 1 x0_3.length (encL c_u8 x0_3), .own 1 x0_4.length (encL c_bool x0_4), .sc (.int .u64 x0_5), .sc (.bool x0_6), .sc (.int .u64 x0_7)]⟩), (.tmp 10 20, ⟨.lst, 3, encL c118 x0_8⟩)], [], []⟩) ?_ x0_1 x0_3 x0_4 x0_5 x0_6 x0_7 x0_8 y h K hx0
  clear h hx0
  intro rec ih x0_1 x0_3 x0_4 x0_5 x0_6 x0_7 x0_8 y h K hx0
  refine loop_unroll (ga_k fun G0 G0n G0r G0x => ?_)
  unfold c102_l0
  refine seq_k fun J27 hJ27 => ?_
  refine reg_k ?_
  simp only [Nat.reduceEqDiff, Nat.reduceAdd, Nat.reduceMul, Nat.reduceLeDiff, Nat.reduceLT, Int.reduceLE, Int.reduceLT, Int.reduceGT, Int.reduceGE, Int.reduceEq, Int.reduceNe, Int.reduceToNat, reduceCtorEq, ak]
  refine hJ27 _ ?_
  refine seq_k fun J28 hJ28 => ?_
  refine cond_k (b := decide (x0_1 < x0_0)) rfl (fun c29 => ?_) (fun c29 => ?_)
  · replace c29 := of_decide_eq_true c29; rw [if_pos c29] at h
    refine hJ28 _ ?_
    refine seq_k fun J30 hJ30 => ?_
    refine block_k fun B31 B31n B31x B31r B31j => ?_
    refine seq_k fun J32 hJ32 => ?_
    refine reg_k ?_
    obtain ⟨b33, h⟩ := of_guard h
    have g34 : (List.drop (o0 + x0_1.toNat * 4) (cs0)).take 4 = [.sc (.int .i64 ((rd z116 l2 x0_1).f0)), .sc (.int .u64 ((rd z116 l2 x0_1).f1)), .own 1 (((rd z116 l2 x0_1).f2).length) (encL c_u8 ((rd z116 l2 x0_1).f2)), .sc (.int .i64 ((rd z116 l2 x0_1).f3))] := hv0.stretch z116 b33.1 b33.2
    simp only [Nat.reduceEqDiff, Nat.reduceAdd, Nat.reduceMul, Nat.reduceLeDiff, Nat.reduceLT, Int.reduceLE, Int.reduceLT, Int.reduceGT, Int.reduceGE, Int.reduceEq, Int.reduceNe, Int.reduceToNat, reduceCtorEq, ak, b33, g34]
    refine gho_k (Weak.own (.tmp 12 0) (cs' := [.sc (.int .i64 0), .sc (.int .u64 0), .own 1 (([] : List Int).length) (encL c_u8 ([] : List Int)), .sc (.int .i64 0)]) rfl ⟨.inl rfl, .inl rfl, .inr ⟨rfl, _, rfl⟩, .inl rfl, trivial⟩) ?_
    simp only [Nat.reduceEqDiff, Nat.reduceAdd, Nat.reduceMul, Nat.reduceLeDiff, Nat.reduceLT, Int.reduceLE, Int.reduceLT, Int.reduceGT, Int.reduceGE, Int.reduceEq, Int.reduceNe, Int.reduceToNat, reduceCtorEq, ak]
    refine hJ32 _ ?_
    refine reg_k ?_
    simp only [Nat.reduceEqDiff, Nat.reduceAdd, Nat.reduceMul, Nat.reduceLeDiff, Nat.reduceLT, Int.reduceLE, Int.reduceLT, Int.reduceGT, Int.reduceGE, Int.reduceEq, Int.reduceNe, Int.reduceToNat, reduceCtorEq, ak]
    have g35 : (cs0)[o0 + x0_1.toNat * 4 + 1 + 1]? = some (.own 1 (((rd z116 l2 x0_1).f2).length) (encL c_u8 ((rd z116 l2 x0_1).f2))) := hv0.get z116 2 b33.1 b33.2 (by decide)
    obtain ⟨t36, h37, h⟩ := of_bind h
    refine call_m [(.arg 0, ⟨(.tmp 28 0), [], none, .box⟩), (.arg 1, ⟨(.arg 0), [o0 + x0_1.toNat * 4 + 1 + 1], none, .fz⟩)] (s0 := [(.arg 0, ⟨.box, 0, [.sc (.int .u64 x0_2), .own 1 x0_3.length (encL c_u8 x0_3), .own 1 x0_4.length (encL c_bool x0_4), .sc (.int .u64 x0_5), .sc (.bool x0_6), .sc (.int .u64 x0_7)]⟩), (.arg 1, ⟨.fz, 1, encL c_u8 ((rd z116 l2 x0_1).f2)⟩)]) (by intro t ht; cases ht; decide) rfl rfl (by first | rfl | simp only [reduceCtorEq, Nat.reduceEqDiff, ak, akF, b33, g34, g35]) (impl_buffer_act.tri (encL c_u8 ((rd z116 l2 x0_1).f2)) 0 ((rd z116 l2 x0_1).f2) (Vw.whole c_u8_w ((rd z116 l2 x0_1).f2)) x0_2 x0_3 x0_4 x0_5 x0_6 x0_7 ((rd z116 l2 x0_1).f0) ((rd z116 l2 x0_1).f1) ((rd z116 l2 x0_1).f3) _ h37) (by first | rfl | simp only [reduceCtorEq, Nat.reduceEqDiff, ak, akF]) (by simp [bkOk2, memK]) (fun hl37 => ?_)
    refine call_st (s4 := [(.arg 0, ⟨.fz, 4, cs0⟩), (.tmp 28 0, ⟨.box, 0, [.sc (.int .u64 x0_2), .own 1 t36.2.2.2.1.length (encL c_u8 t36.2.2.2.1), .own 1 t36.2.2.2.2.1.length (encL c_bool t36.2.2.2.2.1), .sc (.int .u64 t36.2.2.2.2.2.1), .sc (.bool t36.2.2.2.2.2.2.1), .sc (.int .u64 t36.2.2.2.2.2.2.2)]⟩), (.tmp 10 20, ⟨.lst, 3, encL c118 x0_8⟩), (.tmp 12 0, ⟨.box, 0, [.sc (.int .i64 ((rd z116 l2 x0_1).f0)), .sc (.int .u64 ((rd z116 l2 x0_1).f1)), .ref (.arg 0) [o0 + x0_1.toNat * 4 + 1 + 1] 0 (((rd z116 l2 x0_1).f2).length), .sc (.int .i64 ((rd z116 l2 x0_1).f3))]⟩), (.tmp 38 0, ⟨.lst, 1, encL c_u8 t36.2.2.1⟩)]) (m1' := []) (m2' := []) (v' := .g [.sc (.int .i64 t36.1), .sc (.int .i64 t36.2.1), .ref (.tmp 38 0) [] 0 t36.2.2.1.length]) (Sto.mapN_killNil _ _) (mrgL_whole (new' := [.sc (.int .u64 x0_2), .own 1 t36.2.2.2.1.length (encL c_u8 t36.2.2.2.1), .own 1 t36.2.2.2.2.1.length (encL c_bool t36.2.2.2.2.1), .sc (.int .u64 t36.2.2.2.2.2.1), .sc (.bool t36.2.2.2.2.2.2.1), .sc (.int .u64 t36.2.2.2.2.2.2.2)]) (mrgL_fz (mrgL_nil' _ _ _) rfl (by first | rfl | simp only [reduceCtorEq, Nat.reduceEqDiff, ak, b33, g34, g35]) rfl (by intro R hR hh; cases hh.1)) rfl (by rfl) (.inl ⟨rfl, by first | rfl | simp only [reduceCtorEq, Nat.reduceEqDiff, ak, akF, Nat.zero_add, List.append_nil, b33]⟩)) (by rfl) (mapT_killNil _ _) (by rfl) (by rfl) (by first | rfl | simp only [reduceCtorEq, Nat.reduceEqDiff, ak, akF, Nat.zero_add, List.append_nil, b33]) ?_
    have g39 : (List.replicate 1 ([.int .i64 0, .int .i64 0, .slice none 0 0] : List Value)).flatten = [.int .i64 0, .int .i64 0, .slice none 0 0] := rfl
    have g40 : (encL c_u8 t36.2.2.1).length = t36.2.2.1.length * 1 := by simp [encL_length c_u8_w]
    have g41 : (⟨.lst, 3, [.sc (.int .i64 t36.1), .sc (.int .i64 t36.2.1), .own 1 t36.2.2.1.length (encL c_u8 t36.2.2.1)]⟩ : Root) = ⟨.lst, 3, encL c118 ([(⟨t36.1, t36.2.1, t36.2.2.1⟩ : S118)] : List S118)⟩ := rfl
    have g42 : ([(⟨t36.1, t36.2.1, t36.2.2.1⟩ : S118)] : List S118).length = 1 := rfl
    simp only [Nat.reduceEqDiff, Nat.reduceAdd, Nat.reduceMul, Nat.reduceLeDiff, Nat.reduceLT, Int.reduceLE, Int.reduceLT, Int.reduceGT, Int.reduceGE, Int.reduceEq, Int.reduceNe, Int.reduceToNat, reduceCtorEq, ak, b33, g35, g39, g40, g41, g42]
    refine gho_k (Weak.refl _ _) ?_
    have g43 : (encL c118 ([(⟨t36.1, t36.2.1, t36.2.2.1⟩ : S118)] : List S118)).length = 1 * 3 := by simp [encL_length c118_w]
    have g44 : (encL c118 ([(⟨t36.1, t36.2.1, t36.2.2.1⟩ : S118)] : List S118)).all nd = true := rfl
    obtain ⟨b45, h⟩ := of_guard h
    have g46 : appLim x0_8.length 1 40 := ⟨b45, by have := b45; omega⟩
    have g47 : (encL c118 x0_8).length = x0_8.length * 3 := by simp [encL_length c118_w]
    have g48 : encL c118 x0_8 ++ encL c118 ([(⟨t36.1, t36.2.1, t36.2.2.1⟩ : S118)] : List S118) = encL c118 (x0_8 ++ ([(⟨t36.1, t36.2.1, t36.2.2.1⟩ : S118)] : List S118)) := (encL_append _ _).symm
    simp only [Nat.reduceEqDiff, Nat.reduceAdd, Nat.reduceMul, Nat.reduceLeDiff, Nat.reduceLT, Int.reduceLE, Int.reduceLT, Int.reduceGT, Int.reduceGE, Int.reduceEq, Int.reduceNe, Int.reduceToNat, reduceCtorEq, ak, g43, g44, g46, g47, g48]
    refine B31n _ ?_
    refine hJ30 _ ?_
    refine reg_k ?_
    simp only [Nat.reduceEqDiff, Nat.reduceAdd, Nat.reduceMul, Nat.reduceLeDiff, Nat.reduceLT, Int.reduceLE, Int.reduceLT, Int.reduceGT, Int.reduceGE, Int.reduceEq, Int.reduceNe, Int.reduceToNat, reduceCtorEq, ak]
    refine G0n _ (⟨[(9, .c (.ptr (.tmp 28 0) [] 0)), (10, .c (.ref (.tmp 10 20) [] 0 ((x0_8 ++ ([(⟨t36.1, t36.2.1, t36.2.2.1⟩ : S118)] : List S118)).length))), (29, .c (.ref (.arg 0) [] o0 l2.length)), (30, .c (.sc (.int .i64 x0_0))), (31, .c (.sc (.int .i64 (IntKind.i64.wrap (x0_1 + 1)))))], [(.arg 0, ⟨.fz, 4, cs0⟩), (.tmp 28 0, ⟨.box, 0, [.sc (.int .u64 x0_2), .own 1 t36.2.2.2.1.length (encL c_u8 t36.2.2.2.1), .own 1 t36.2.2.2.2.1.length (encL c_bool t36.2.2.2.2.1), .sc (.int .u64 t36.2.2.2.2.2.1), .sc (.bool t36.2.2.2.2.2.2.1), .sc (.int .u64 t36.2.2.2.2.2.2.2)]⟩), (.tmp 10 20, ⟨.lst, 3, encL c118 (x0_8 ++ ([(⟨t36.1, t36.2.1, t36.2.2.1⟩ : S118)] : List S118))⟩)], [], []⟩) (((Weak.keep [9, 10, 29, 30, 31]).trans ((Weak.foc [(.arg 0, ⟨(.arg 0), [], none, .fz⟩), (.tmp 28 0, ⟨(.tmp 28 0), [], none, .box⟩), (.tmp 10 20, ⟨(.tmp 10 20), [], none, .lst⟩)] rfl (by first | rfl | simp only [reduceCtorEq, Nat.reduceEqDiff, ak, akF, b33, b45]) (by simp [argK, akG, ak])).trans (Weak.of_eq (by first | rfl | (simp only [reduceCtorEq, Nat.reduceEqDiff, ak, akF, b33, b45]; done) | (simp [reduceCtorEq, Nat.reduceEqDiff, ak, akF, b33, b45]; done)))))) (ih _ _ _ _ _ _ _ _ h K hx0)
  · replace c29 := of_decide_eq_false c29; rw [if_neg c29] at h
    obtain rfl := Option.some.inj h
    refine gh_k (st' := ⟨[(9, .c (.ptr (.tmp 28 0) [] 0)), (10, .c (.ref (.tmp 10 20) [] 0 x0_8.length))], [(.arg 0, ⟨.fz, 4, cs0⟩), (.tmp 28 0, ⟨.box, 0, [.sc (.int .u64 x0_2), .own 1 x0_3.length (encL c_u8 x0_3), .own 1 x0_4.length (encL c_bool x0_4), .sc (.int .u64 x0_5), .sc (.bool x0_6), .sc (.int .u64 x0_7)]⟩), (.tmp 10 20, ⟨.lst, 3, encL c118 x0_8⟩)], [], []⟩) (((Weak.keep [9, 10]).trans ((Weak.foc [(.arg 0, ⟨(.arg 0), [], none, .fz⟩), (.tmp 28 0, ⟨(.tmp 28 0), [], none, .box⟩), (.tmp 10 20, ⟨(.tmp 10 20), [], none, .lst⟩)] rfl (by first | rfl | simp only [reduceCtorEq, Nat.reduceEqDiff, ak, akF]) (by simp [argK, akG, ak])).trans (Weak.of_eq (by first | rfl | (simp only [reduceCtorEq, Nat.reduceEqDiff, ak, akF]; done) | (simp [reduceCtorEq, Nat.reduceEqDiff, ak, akF]; done)))))) ?_
    refine G0x _ _ ?_
    exact hx0
set_option maxRecDepth 100000 in
set_option maxHeartbeats 4000000 in
theorem impl_reorderAfter.tri0 (cs0 : List Cell) (o0 : Nat) (l2 : List S116) (hv0 : Vw c116 4 cs0 o0 l2) (a0 : Int) (a1 : Int) (r : (Option (Int × (List Int) × (List Bool) × Int × Bool × Int)) × (List S118) × Int) (h : impl_reorderAfter.f a0 a1 l2 = some r) (hp : r.1 = none) : Tri Try.prog 102 [.c (.sc (.int .u64 a0)), .c (.sc (.int .i64 a1)), .c (.ref (.arg 0) [] o0 l2.length)] [(.arg 0, ⟨.fz, 4, cs0⟩)] (fun o => o = ⟨.tup [(false, [.sc (.pointer none)]), (false, [.ref (.res 0) [] 0 r.2.1.length]), (false, [.sc (.int .i64 r.2.2)])], [(.arg 0, ⟨.fz, 4, cs0⟩), (.res 0, ⟨.lst, 3, encL c118 r.2.1⟩)], [], []⟩) := by
  refine tri_of_body (ac := c102) (xs := r102) Try.func102 (show Try.f102.body = some (Try.f102.body.getD .skip) from rfl) k102 q102 (Nat.le_of_ble_eq_true rfl) ?_
  refine body_of fun K hKn hKr => ?_
  unfold impl_reorderAfter.f at h
  unfold c102
  simp only [initT, Nat.reduceAdd]
  refine seq_k fun J1 hJ1 => ?_
  refine reg_k ?_
  simp only [Nat.reduceEqDiff, Nat.reduceAdd, Nat.reduceMul, Nat.reduceLeDiff, Nat.reduceLT, Int.reduceLE, Int.reduceLT, Int.reduceGT, Int.reduceGE, Int.reduceEq, Int.reduceNe, Int.reduceToNat, reduceCtorEq, ak]
  refine gho_k (Weak.nm' 7 (.tmp 7 20) 3 (encL c118 ([] : List S118)) rfl rfl rfl) ?_
  simp only [Nat.reduceEqDiff, Nat.reduceAdd, Nat.reduceMul, Nat.reduceLeDiff, Nat.reduceLT, Int.reduceLE, Int.reduceLT, Int.reduceGT, Int.reduceGE, Int.reduceEq, Int.reduceNe, Int.reduceToNat, reduceCtorEq, ak]
  refine hJ1 _ ?_
  refine seq_k fun J2 hJ2 => ?_
  obtain ⟨j3, h4, hn⟩ := of_bind h
  refine seq_j (fun st => st = ⟨[(0, .c (.sc (.int .u64 a0))), (1, .c (.sc (.int .i64 a1))), (2, .c (.ref (.arg 0) [] o0 l2.length)), (22, .c (.sc (.bool j3)))], [(.arg 0, ⟨.fz, 4, cs0⟩)], [], []⟩) (fun J5 hJ5 => ?_) ?_
  · replace h := h4; clear hn
    refine ga_k fun G6 G6n G6r G6x => ?_
    refine reg_k ?_
    simp only [Nat.reduceEqDiff, Nat.reduceAdd, Nat.reduceMul, Nat.reduceLeDiff, Nat.reduceLT, Int.reduceLE, Int.reduceLT, Int.reduceGT, Int.reduceGE, Int.reduceEq, Int.reduceNe, Int.reduceToNat, reduceCtorEq, ak]
    by_cases c7 : a0 > 4611686018427387904
    · rw [if_pos c7] at h
      have e8 : decide (a0 > 4611686018427387904) = true := decide_eq_true c7
      simp only [Nat.reduceEqDiff, Nat.reduceAdd, Nat.reduceMul, Nat.reduceLeDiff, Nat.reduceLT, Int.reduceLE, Int.reduceLT, Int.reduceGT, Int.reduceGE, Int.reduceEq, Int.reduceNe, Int.reduceToNat, reduceCtorEq, ak, e8]
      obtain rfl := Option.some.inj h
      refine G6n _ _ (((Weak.keep [0, 1, 2, 22]).trans ((Weak.foc [(.arg 0, ⟨(.arg 0), [], none, .fz⟩)] rfl (by first | rfl | simp only [reduceCtorEq, Nat.reduceEqDiff, ak, akF, e8]) (by simp [argK, akG, ak])).trans (Weak.of_eq (by first | rfl | (simp only [reduceCtorEq, Nat.reduceEqDiff, ak, akF, e8]; done) | (simp [reduceCtorEq, Nat.reduceEqDiff, ak, akF, e8]; done)))))) (hJ5 _ rfl)
    · rw [if_neg c7] at h
      have e9 : decide (a0 > 4611686018427387904) = false := decide_eq_false c7
      simp only [Nat.reduceEqDiff, Nat.reduceAdd, Nat.reduceMul, Nat.reduceLeDiff, Nat.reduceLT, Int.reduceLE, Int.reduceLT, Int.reduceGT, Int.reduceGE, Int.reduceEq, Int.reduceNe, Int.reduceToNat, reduceCtorEq, ak, e9]
      by_cases c10 : a1 < 1
      · rw [if_pos c10] at h
        have e11 : decide (a1 < 1) = true := decide_eq_true c10
        simp only [Nat.reduceEqDiff, Nat.reduceAdd, Nat.reduceMul, Nat.reduceLeDiff, Nat.reduceLT, Int.reduceLE, Int.reduceLT, Int.reduceGT, Int.reduceGE, Int.reduceEq, Int.reduceNe, Int.reduceToNat, reduceCtorEq, ak, e11]
        obtain rfl := Option.some.inj h
        refine G6n _ _ (((Weak.keep [0, 1, 2, 22]).trans ((Weak.foc [(.arg 0, ⟨(.arg 0), [], none, .fz⟩)] rfl (by first | rfl | simp only [reduceCtorEq, Nat.reduceEqDiff, ak, akF, e9, e11]) (by simp [argK, akG, ak])).trans (Weak.of_eq (by first | rfl | (simp only [reduceCtorEq, Nat.reduceEqDiff, ak, akF, e9, e11]; done) | (simp [reduceCtorEq, Nat.reduceEqDiff, ak, akF, e9, e11]; done)))))) (hJ5 _ rfl)
      · rw [if_neg c10] at h
        have e12 : decide (a1 < 1) = false := decide_eq_false c10
        simp only [Nat.reduceEqDiff, Nat.reduceAdd, Nat.reduceMul, Nat.reduceLeDiff, Nat.reduceLT, Int.reduceLE, Int.reduceLT, Int.reduceGT, Int.reduceGE, Int.reduceEq, Int.reduceNe, Int.reduceToNat, reduceCtorEq, ak, e12]
        obtain rfl := Option.some.inj h
        refine G6n _ _ (((Weak.keep [0, 1, 2, 22]).trans ((Weak.foc [(.arg 0, ⟨(.arg 0), [], none, .fz⟩)] rfl (by first | rfl | simp only [reduceCtorEq, Nat.reduceEqDiff, ak, akF, e9, e12]) (by simp [argK, akG, ak])).trans (Weak.of_eq (by first | rfl | (simp only [reduceCtorEq, Nat.reduceEqDiff, ak, akF, e9, e12]; done) | (simp [reduceCtorEq, Nat.reduceEqDiff, ak, akF, e9, e12]; done)))))) (hJ5 _ rfl)
  · replace h := hn; clear hn h4
    rintro _ rfl
    refine cond_k (b := j3) rfl (fun c13 => ?_) (fun c13 => ?_)
    · rw [if_pos c13] at h
      refine seq_k fun J14 hJ14 => ?_
      refine reg_k ?_
      simp only [Nat.reduceEqDiff, Nat.reduceAdd, Nat.reduceMul, Nat.reduceLeDiff, Nat.reduceLT, Int.reduceLE, Int.reduceLT, Int.reduceGT, Int.reduceGE, Int.reduceEq, Int.reduceNe, Int.reduceToNat, reduceCtorEq, ak]
      refine gho_k (Weak.nm' 7 (.tmp 7 20) 3 (encL c118 ([] : List S118)) rfl rfl rfl) ?_
      simp only [Nat.reduceEqDiff, Nat.reduceAdd, Nat.reduceMul, Nat.reduceLeDiff, Nat.reduceLT, Int.reduceLE, Int.reduceLT, Int.reduceGT, Int.reduceGE, Int.reduceEq, Int.reduceNe, Int.reduceToNat, reduceCtorEq, ak]
      refine hJ14 _ ?_
      obtain rfl := Option.some.inj h
      refine hKr _ ⟨_, rfl, [⟨(.tmp 7 20), [], none, .lst⟩], _, rfl, rfl, ?_⟩
      first | rfl | (simp only [reduceCtorEq, Nat.reduceEqDiff, ak, akF]; done) | (simp [reduceCtorEq, Nat.reduceEqDiff, ak, akF]; done)
    · rw [if_neg (Bool.eq_false_iff.1 c13)] at h
      refine hJ2 _ ?_
      refine seq_k fun J15 hJ15 => ?_
      refine seq_k fun J16 hJ16 => ?_
      refine reg_k ?_
      simp only [Nat.reduceEqDiff, Nat.reduceAdd, Nat.reduceMul, Nat.reduceLeDiff, Nat.reduceLT, Int.reduceLE, Int.reduceLT, Int.reduceGT, Int.reduceGE, Int.reduceEq, Int.reduceNe, Int.reduceToNat, reduceCtorEq, ak]
      refine hJ16 _ ?_
      refine cond_k (b := decide ((l2.length : Int) > 4000)) rfl (fun c17 => ?_) (fun c17 => ?_)
      · replace c17 := of_decide_eq_true c17; rw [if_pos c17] at h
        refine seq_k fun J18 hJ18 => ?_
        refine reg_k ?_
        simp only [Nat.reduceEqDiff, Nat.reduceAdd, Nat.reduceMul, Nat.reduceLeDiff, Nat.reduceLT, Int.reduceLE, Int.reduceLT, Int.reduceGT, Int.reduceGE, Int.reduceEq, Int.reduceNe, Int.reduceToNat, reduceCtorEq, ak]
        refine gho_k (Weak.nm' 7 (.tmp 7 20) 3 (encL c118 ([] : List S118)) rfl rfl rfl) ?_
        simp only [Nat.reduceEqDiff, Nat.reduceAdd, Nat.reduceMul, Nat.reduceLeDiff, Nat.reduceLT, Int.reduceLE, Int.reduceLT, Int.reduceGT, Int.reduceGE, Int.reduceEq, Int.reduceNe, Int.reduceToNat, reduceCtorEq, ak]
        refine hJ18 _ ?_
        obtain rfl := Option.some.inj h
        refine hKr _ ⟨_, rfl, [⟨(.tmp 7 20), [], none, .lst⟩], _, rfl, rfl, ?_⟩
        first | rfl | (simp only [reduceCtorEq, Nat.reduceEqDiff, ak, akF]; done) | (simp [reduceCtorEq, Nat.reduceEqDiff, ak, akF]; done)
      · replace c17 := of_decide_eq_false c17; rw [if_neg c17] at h
        refine hJ15 _ ?_
        refine seq_k fun J19 hJ19 => ?_
        refine reg_k ?_
        simp only [Nat.reduceEqDiff, Nat.reduceAdd, Nat.reduceMul, Nat.reduceLeDiff, Nat.reduceLT, Int.reduceLE, Int.reduceLT, Int.reduceGT, Int.reduceGE, Int.reduceEq, Int.reduceNe, Int.reduceToNat, reduceCtorEq, ak]
        obtain ⟨t20, h21, h⟩ := of_bind h
        refine call_m [] (s0 := []) (by intro t ht; cases ht; decide) rfl rfl (by first | rfl | simp only [reduceCtorEq, Nat.reduceEqDiff, ak, akF]) (impl_newBuffer.tri a0 a1 _ h21) (by first | rfl | simp only [reduceCtorEq, Nat.reduceEqDiff, ak, akF]) (by simp [bkOk2, memK]) (fun hl21 => ?_)
        refine call_st (s4 := [(.arg 0, ⟨.fz, 4, cs0⟩), (.tmp 28 0, ⟨.box, 0, [.sc (.int .u64 t20.1), .own 1 t20.2.1.length (encL c_u8 t20.2.1), .own 1 t20.2.2.1.length (encL c_bool t20.2.2.1), .sc (.int .u64 t20.2.2.2.1), .sc (.bool t20.2.2.2.2.1), .sc (.int .u64 t20.2.2.2.2.2)]⟩)]) (m1' := []) (m2' := []) (v' := .c (.ptr (.tmp 28 0) [] 0)) (Sto.mapN_killNil _ _) (mrgL_nil' _ _ _) (by rfl) (mapT_killNil _ _) (by rfl) (by rfl) (by first | rfl | simp only [reduceCtorEq, Nat.reduceEqDiff, ak, akF, Nat.zero_add, List.append_nil]) ?_
        simp only [Nat.reduceEqDiff, Nat.reduceAdd, Nat.reduceMul, Nat.reduceLeDiff, Nat.reduceLT, Int.reduceLE, Int.reduceLT, Int.reduceGT, Int.reduceGE, Int.reduceEq, Int.reduceNe, Int.reduceToNat, reduceCtorEq, ak]
        refine hJ19 _ ?_
        refine seq_k fun J23 hJ23 => ?_
        refine reg_k ?_
        simp only [Nat.reduceEqDiff, Nat.reduceAdd, Nat.reduceMul, Nat.reduceLeDiff, Nat.reduceLT, Int.reduceLE, Int.reduceLT, Int.reduceGT, Int.reduceGE, Int.reduceEq, Int.reduceNe, Int.reduceToNat, reduceCtorEq, ak]
        refine gho_k (Weak.nm' 10 (.tmp 10 20) 3 (encL c118 ([] : List S118)) rfl rfl rfl) ?_
        simp only [Nat.reduceEqDiff, Nat.reduceAdd, Nat.reduceMul, Nat.reduceLeDiff, Nat.reduceLT, Int.reduceLE, Int.reduceLT, Int.reduceGT, Int.reduceGE, Int.reduceEq, Int.reduceNe, Int.reduceToNat, reduceCtorEq, ak]
        refine hJ23 _ ?_
        refine seq_k fun J24 hJ24 => ?_
        refine seq_k fun J25 hJ25 => ?_
        refine reg_k ?_
        simp only [Nat.reduceEqDiff, Nat.reduceAdd, Nat.reduceMul, Nat.reduceLeDiff, Nat.reduceLT, Int.reduceLE, Int.reduceLT, Int.reduceGT, Int.reduceGE, Int.reduceEq, Int.reduceNe, Int.reduceToNat, reduceCtorEq, ak]
        refine hJ25 _ ?_
        refine block_k fun B26 B26n B26x B26r B26j => ?_
        obtain ⟨y49, h50, h⟩ := of_bind h
        refine gh_k (st' := ⟨[(9, .c (.ptr (.tmp 28 0) [] 0)), (10, .c (.ref (.tmp 10 20) [] 0 (([] : List S118).length))), (29, .c (.ref (.arg 0) [] o0 l2.length)), (30, .c (.sc (.int .i64 (l2.length : Int)))), (31, .c (.sc (.int .i64 0)))], [(.arg 0, ⟨.fz, 4, cs0⟩), (.tmp 28 0, ⟨.box, 0, [.sc (.int .u64 t20.1), .own 1 t20.2.1.length (encL c_u8 t20.2.1), .own 1 t20.2.2.1.length (encL c_bool t20.2.2.1), .sc (.int .u64 t20.2.2.2.1), .sc (.bool t20.2.2.2.2.1), .sc (.int .u64 t20.2.2.2.2.2)]⟩), (.tmp 10 20, ⟨.lst, 3, encL c118 ([] : List S118)⟩)], [], []⟩) (((Weak.keep [9, 10, 29, 30, 31]).trans ((Weak.foc [(.arg 0, ⟨(.arg 0), [], none, .fz⟩), (.tmp 28 0, ⟨(.tmp 28 0), [], none, .box⟩), (.tmp 10 20, ⟨(.tmp 10 20), [], none, .lst⟩)] rfl (by first | rfl | simp only [reduceCtorEq, Nat.reduceEqDiff, ak, akF]) (by simp [argK, akG, ak])).trans (Weak.of_eq (by first | rfl | (simp only [reduceCtorEq, Nat.reduceEqDiff, ak, akF]; done) | (simp [reduceCtorEq, Nat.reduceEqDiff, ak, akF]; done)))))) ?_
        rw [e_loop]
        refine impl_reorderAfter.l0_walk cs0 o0 l2 hv0 (l2.length : Int) t20.1 0 t20.2.1 t20.2.2.1 t20.2.2.2.1 t20.2.2.2.2.1 t20.2.2.2.2.2 ([] : List S118) _ h50 _ ?_
        refine B26x _ ?_
        refine hJ24 _ ?_
        refine seq_k fun J51 hJ51 => ?_
        refine reg_k ?_
        simp only [Nat.reduceEqDiff, Nat.reduceAdd, Nat.reduceMul, Nat.reduceLeDiff, Nat.reduceLT, Int.reduceLE, Int.reduceLT, Int.reduceGT, Int.reduceGE, Int.reduceEq, Int.reduceNe, Int.reduceToNat, reduceCtorEq, ak]
        refine hJ51 _ ?_
        obtain rfl := Option.some.inj h
        exact absurd hp (by simp)
set_option maxRecDepth 100000 in
set_option maxHeartbeats 4000000 in
theorem impl_reorderAfter.tri1 (cs0 : List Cell) (o0 : Nat) (l2 : List S116) (hv0 : Vw c116 4 cs0 o0 l2) (a0 : Int) (a1 : Int) (r : (Option (Int × (List Int) × (List Bool) × Int × Bool × Int)) × (List S118) × Int) (h : impl_reorderAfter.f a0 a1 l2 = some r) (p : Int × (List Int) × (List Bool) × Int × Bool × Int) (hp : r.1 = some p) : Tri Try.prog 102 [.c (.sc (.int .u64 a0)), .c (.sc (.int .i64 a1)), .c (.ref (.arg 0) [] o0 l2.length)] [(.arg 0, ⟨.fz, 4, cs0⟩)] (fun o => o = ⟨.tup [(false, [.ptr (.res 0) [] 0]), (false, [.ref (.res 1) [] 0 r.2.1.length]), (false, [.sc (.int .i64 r.2.2)])], [(.arg 0, ⟨.fz, 4, cs0⟩), (.res 0, ⟨.box, 0, [.sc (.int .u64 p.1), .own 1 p.2.1.length (encL c_u8 p.2.1), .own 1 p.2.2.1.length (encL c_bool p.2.2.1), .sc (.int .u64 p.2.2.2.1), .sc (.bool p.2.2.2.2.1), .sc (.int .u64 p.2.2.2.2.2)]⟩), (.res 1, ⟨.lst, 3, encL c118 r.2.1⟩)], [], []⟩) := by
  refine tri_of_body (ac := c102) (xs := r102) Try.func102 (show Try.f102.body = some (Try.f102.body.getD .skip) from rfl) k102 q102 (Nat.le_of_ble_eq_true rfl) ?_
  refine body_of fun K hKn hKr => ?_
  unfold impl_reorderAfter.f at h
  unfold c102
  simp only [initT, Nat.reduceAdd]
  refine seq_k fun J1 hJ1 => ?_
  refine reg_k ?_
  simp only [Nat.reduceEqDiff, Nat.reduceAdd, Nat.reduceMul, Nat.reduceLeDiff, Nat.reduceLT, Int.reduceLE, Int.reduceLT, Int.reduceGT, Int.reduceGE, Int.reduceEq, Int.reduceNe, Int.reduceToNat, reduceCtorEq, ak]
  refine gho_k (Weak.nm' 7 (.tmp 7 20) 3 (encL c118 ([] : List S118)) rfl rfl rfl) ?_
  simp only [Nat.reduceEqDiff, Nat.reduceAdd, Nat.reduceMul, Nat.reduceLeDiff, Nat.reduceLT, Int.reduceLE, Int.reduceLT, Int.reduceGT, Int.reduceGE, Int.reduceEq, Int.reduceNe, Int.reduceToNat, reduceCtorEq, ak]
  refine hJ1 _ ?_
  refine seq_k fun J2 hJ2 => ?_
  obtain ⟨j3, h4, hn⟩ := of_bind h
  refine seq_j (fun st => st = ⟨[(0, .c (.sc (.int .u64 a0))), (1, .c (.sc (.int .i64 a1))), (2, .c (.ref (.arg 0) [] o0 l2.length)), (22, .c (.sc (.bool j3)))], [(.arg 0, ⟨.fz, 4, cs0⟩)], [], []⟩) (fun J5 hJ5 => ?_) ?_
  · replace h := h4; clear hn
    refine ga_k fun G6 G6n G6r G6x => ?_
    refine reg_k ?_
    simp only [Nat.reduceEqDiff, Nat.reduceAdd, Nat.reduceMul, Nat.reduceLeDiff, Nat.reduceLT, Int.reduceLE, Int.reduceLT, Int.reduceGT, Int.reduceGE, Int.reduceEq, Int.reduceNe, Int.reduceToNat, reduceCtorEq, ak]
    by_cases c7 : a0 > 4611686018427387904
    · rw [if_pos c7] at h
      have e8 : decide (a0 > 4611686018427387904) = true := decide_eq_true c7
      simp only [Nat.reduceEqDiff, Nat.reduceAdd, Nat.reduceMul, Nat.reduceLeDiff, Nat.reduceLT, Int.reduceLE, Int.reduceLT, Int.reduceGT, Int.reduceGE, Int.reduceEq, Int.reduceNe, Int.reduceToNat, reduceCtorEq, ak, e8]
      obtain rfl := Option.some.inj h
      refine G6n _ _ (((Weak.keep [0, 1, 2, 22]).trans ((Weak.foc [(.arg 0, ⟨(.arg 0), [], none, .fz⟩)] rfl (by first | rfl | simp only [reduceCtorEq, Nat.reduceEqDiff, ak, akF, e8]) (by simp [argK, akG, ak])).trans (Weak.of_eq (by first | rfl | (simp only [reduceCtorEq, Nat.reduceEqDiff, ak, akF, e8]; done) | (simp [reduceCtorEq, Nat.reduceEqDiff, ak, akF, e8]; done)))))) (hJ5 _ rfl)
    · rw [if_neg c7] at h
      have e9 : decide (a0 > 4611686018427387904) = false := decide_eq_false c7
      simp only [Nat.reduceEqDiff, Nat.reduceAdd, Nat.reduceMul, Nat.reduceLeDiff, Nat.reduceLT, Int.reduceLE, Int.reduceLT, Int.reduceGT, Int.reduceGE, Int.reduceEq, Int.reduceNe, Int.reduceToNat, reduceCtorEq, ak, e9]
      by_cases c10 : a1 < 1
      · rw [if_pos c10] at h
        have e11 : decide (a1 < 1) = true := decide_eq_true c10
        simp only [Nat.reduceEqDiff, Nat.reduceAdd, Nat.reduceMul, Nat.reduceLeDiff, Nat.reduceLT, Int.reduceLE, Int.reduceLT, Int.reduceGT, Int.reduceGE, Int.reduceEq, Int.reduceNe, Int.reduceToNat, reduceCtorEq, ak, e11]
        obtain rfl := Option.some.inj h
        refine G6n _ _ (((Weak.keep [0, 1, 2, 22]).trans ((Weak.foc [(.arg 0, ⟨(.arg 0), [], none, .fz⟩)] rfl (by first | rfl | simp only [reduceCtorEq, Nat.reduceEqDiff, ak, akF, e9, e11]) (by simp [argK, akG, ak])).trans (Weak.of_eq (by first | rfl | (simp only [reduceCtorEq, Nat.reduceEqDiff, ak, akF, e9, e11]; done) | (simp [reduceCtorEq, Nat.reduceEqDiff, ak, akF, e9, e11]; done)))))) (hJ5 _ rfl)
      · rw [if_neg c10] at h
        have e12 : decide (a1 < 1) = false := decide_eq_false c10
        simp only [Nat.reduceEqDiff, Nat.reduceAdd, Nat.reduceMul, Nat.reduceLeDiff, Nat.reduceLT, Int.reduceLE, Int.reduceLT, Int.reduceGT, Int.reduceGE, Int.reduceEq, Int.reduceNe, Int.reduceToNat, reduceCtorEq, ak, e12]
        obtain rfl := Option.some.inj h
        refine G6n _ _ (((Weak.keep [0, 1, 2, 22]).trans ((Weak.foc [(.arg 0, ⟨(.arg 0), [], none, .fz⟩)] rfl (by first | rfl | simp only [reduceCtorEq, Nat.reduceEqDiff, ak, akF, e9, e12]) (by simp [argK, akG, ak])).trans (Weak.of_eq (by first | rfl | (simp only [reduceCtorEq, Nat.reduceEqDiff, ak, akF, e9, e12]; done) | (simp [reduceCtorEq, Nat.reduceEqDiff, ak, akF, e9, e12]; done)))))) (hJ5 _ rfl)
  · replace h := hn; clear hn h4
    rintro _ rfl
    refine cond_k (b := j3) rfl (fun c13 => ?_) (fun c13 => ?_)
    · rw [if_pos c13] at h
      refine seq_k fun J14 hJ14 => ?_
      refine reg_k ?_
      simp only [Nat.reduceEqDiff, Nat.reduceAdd, Nat.reduceMul, Nat.reduceLeDiff, Nat.reduceLT, Int.reduceLE, Int.reduceLT, Int.reduceGT, Int.reduceGE, Int.reduceEq, Int.reduceNe, Int.reduceToNat, reduceCtorEq, ak]
      refine gho_k (Weak.nm' 7 (.tmp 7 20) 3 (encL c118 ([] : List S118)) rfl rfl rfl) ?_
      simp only [Nat.reduceEqDiff, Nat.reduceAdd, Nat.reduceMul, Nat.reduceLeDiff, Nat.reduceLT, Int.reduceLE, Int.reduceLT, Int.reduceGT, Int.reduceGE, Int.reduceEq, Int.reduceNe, Int.reduceToNat, reduceCtorEq, ak]
      refine hJ14 _ ?_
      obtain rfl := Option.some.inj h
      exact absurd hp (by simp)
    · rw [if_neg (Bool.eq_false_iff.1 c13)] at h
      refine hJ2 _ ?_
      refine seq_k fun J15 hJ15 => ?_
      refine seq_k fun J16 hJ16 => ?_
      refine reg_k ?_
      simp only [Nat.reduceEqDiff, Nat.reduceAdd, Nat.reduceMul, Nat.reduceLeDiff, Nat.reduceLT, Int.reduceLE, Int.reduceLT, Int.reduceGT, Int.reduceGE, Int.reduceEq, Int.reduceNe, Int.reduceToNat, reduceCtorEq, ak]
      refine hJ16 _ ?_
      refine cond_k (b := decide ((l2.length : Int) > 4000)) rfl (fun c17 => ?_) (fun c17 => ?_)
      · replace c17 := of_decide_eq_true c17; rw [if_pos c17] at h
        refine seq_k fun J18 hJ18 => ?_
        refine reg_k ?_
        simp only [Nat.reduceEqDiff, Nat.reduceAdd, Nat.reduceMul, Nat.reduceLeDiff, Nat.reduceLT, Int.reduceLE, Int.reduceLT, Int.reduceGT, Int.reduceGE, Int.reduceEq, Int.reduceNe, Int.reduceToNat, reduceCtorEq, ak]
        refine gho_k (Weak.nm' 7 (.tmp 7 20) 3 (encL c118 ([] : List S118)) rfl rfl rfl) ?_
        simp only [Nat.reduceEqDiff, Nat.reduceAdd, Nat.reduceMul, Nat.reduceLeDiff, Nat.reduceLT, Int.reduceLE, Int.reduceLT, Int.reduceGT, Int.reduceGE, Int.reduceEq, Int.reduceNe, Int.reduceToNat, reduceCtorEq, ak]
        refine hJ18 _ ?_
        obtain rfl := Option.some.inj h
        exact absurd hp (by simp)
      · replace c17 := of_decide_eq_false c17; rw [if_neg c17] at h
        refine hJ15 _ ?_
        refine seq_k fun J19 hJ19 => ?_
        refine reg_k ?_
        simp only [Nat.reduceEqDiff, Nat.reduceAdd, Nat.reduceMul, Nat.reduceLeDiff, Nat.reduceLT, Int.reduceLE, Int.reduceLT, Int.reduceGT, Int.reduceGE, Int.reduceEq, Int.reduceNe, Int.reduceToNat, reduceCtorEq, ak]
        obtain ⟨t20, h21, h⟩ := of_bind h
        refine call_m [] (s0 := []) (by intro t ht; cases ht; decide) rfl rfl (by first | rfl | simp only [reduceCtorEq, Nat.reduceEqDiff, ak, akF]) (impl_newBuffer.tri a0 a1 _ h21) (by first | rfl | simp only [reduceCtorEq, Nat.reduceEqDiff, ak, akF]) (by simp [bkOk2, memK]) (fun hl21 => ?_)
        refine call_st (s4 := [(.arg 0, ⟨.fz, 4, cs0⟩), (.tmp 28 0, ⟨.box, 0, [.sc (.int .u64 t20.1), .own 1 t20.2.1.length (encL c_u8 t20.2.1), .own 1 t20.2.2.1.length (encL c_bool t20.2.2.1), .sc (.int .u64 t20.2.2.2.1), .sc (.bool t20.2.2.2.2.1), .sc (.int .u64 t20.2.2.2.2.2)]⟩)]) (m1' := []) (m2' := []) (v' := .c (.ptr (.tmp 28 0) [] 0)) (Sto.mapN_killNil _ _) (mrgL_nil' _ _ _) (by rfl) (mapT_killNil _ _) (by rfl) (by rfl) (by first | rfl | simp only [reduceCtorEq, Nat.reduceEqDiff, ak, akF, Nat.zero_add, List.append_nil]) ?_
        simp only [Nat.reduceEqDiff, Nat.reduceAdd, Nat.reduceMul, Nat.reduceLeDiff, Nat.reduceLT, Int.reduceLE, Int.reduceLT, Int.reduceGT, Int.reduceGE, Int.reduceEq, Int.reduceNe, Int.reduceToNat, reduceCtorEq, ak]
        refine hJ19 _ ?_
        refine seq_k fun J23 hJ23 => ?_
        refine reg_k ?_
        simp only [Nat.reduceEqDiff, Nat.reduceAdd, Nat.reduceMul, Nat.reduceLeDiff, Nat.reduceLT, Int.reduceLE, Int.reduceLT, Int.reduceGT, Int.reduceGE, Int.reduceEq, Int.reduceNe, Int.reduceToNat, reduceCtorEq, ak]
        refine gho_k (Weak.nm' 10 (.tmp 10 20) 3 (encL c118 ([] : List S118)) rfl rfl rfl) ?_
        simp only [Nat.reduceEqDiff, Nat.reduceAdd, Nat.reduceMul, Nat.reduceLeDiff, Nat.reduceLT, Int.reduceLE, Int.reduceLT, Int.reduceGT, Int.reduceGE, Int.reduceEq, Int.reduceNe, Int.reduceToNat, reduceCtorEq, ak]
        refine hJ23 _ ?_
        refine seq_k fun J24 hJ24 => ?_
        refine seq_k fun J25 hJ25 => ?_
        refine reg_k ?_
        simp only [Nat.reduceEqDiff, Nat.reduceAdd, Nat.reduceMul, Nat.reduceLeDiff, Nat.reduceLT, Int.reduceLE, Int.reduceLT, Int.reduceGT, Int.reduceGE, Int.reduceEq, Int.reduceNe, Int.reduceToNat, reduceCtorEq, ak]
        refine hJ25 _ ?_
        refine block_k fun B26 B26n B26x B26r B26j => ?_
        obtain ⟨y49, h50, h⟩ := of_bind h
        refine gh_k (st' := ⟨[(9, .c (.ptr (.tmp 28 0) [] 0)), (10, .c (.ref (.tmp 10 20) [] 0 (([] : List S118).length))), (29, .c (.ref (.arg 0) [] o0 l2.length)), (30, .c (.sc (.int .i64 (l2.length : Int)))), (31, .c (.sc (.int .i64 0)))], [(.arg 0, ⟨.fz, 4, cs0⟩), (.tmp 28 0, ⟨.box, 0, [.sc (.int .u64 t20.1), .own 1 t20.2.1.length (encL c_u8 t20.2.1), .own 1 t20.2.2.1.length (encL c_bool t20.2.2.1), .sc (.int .u64 t20.2.2.2.1), .sc (.bool t20.2.2.2.2.1), .sc (.int .u64 t20.2.2.2.2.2)]⟩), (.tmp 10 20, ⟨.lst, 3, encL c118 ([] : List S118)⟩)], [], []⟩) (((Weak.keep [9, 10, 29, 30, 31]).trans ((Weak.foc [(.arg 0, ⟨(.arg 0), [], none, .fz⟩), (.tmp 28 0, ⟨(.tmp 28 0), [], none, .box⟩), (.tmp 10 20, ⟨(.tmp 10 20), [], none, .lst⟩)] rfl (by first | rfl | simp only [reduceCtorEq, Nat.reduceEqDiff, ak, akF]) (by simp [argK, akG, ak])).trans (Weak.of_eq (by first | rfl | (simp only [reduceCtorEq, Nat.reduceEqDiff, ak, akF]; done) | (simp [reduceCtorEq, Nat.reduceEqDiff, ak, akF]; done)))))) ?_
        rw [e_loop]
        refine impl_reorderAfter.l0_walk cs0 o0 l2 hv0 (l2.length : Int) t20.1 0 t20.2.1 t20.2.2.1 t20.2.2.2.1 t20.2.2.2.2.1 t20.2.2.2.2.2 ([] : List S118) _ h50 _ ?_
        refine B26x _ ?_
        refine hJ24 _ ?_
        refine seq_k fun J51 hJ51 => ?_
        refine reg_k ?_
        simp only [Nat.reduceEqDiff, Nat.reduceAdd, Nat.reduceMul, Nat.reduceLeDiff, Nat.reduceLT, Int.reduceLE, Int.reduceLT, Int.reduceGT, Int.reduceGE, Int.reduceEq, Int.reduceNe, Int.reduceToNat, reduceCtorEq, ak]
        refine hJ51 _ ?_
        obtain rfl := Option.some.inj h
        obtain rfl := Option.some.inj hp
        refine hKr _ ⟨_, rfl, [⟨(.tmp 28 0), [], none, .box⟩, ⟨(.tmp 10 20), [], none, .lst⟩], _, rfl, rfl, ?_⟩
        first | rfl | (simp only [reduceCtorEq, Nat.reduceEqDiff, ak, akF]; done) | (simp [reduceCtorEq, Nat.reduceEqDiff, ak, akF]; done)
/-! ### impl.ReorderRun: function 50 -/
def c50 : AC := .seq (.reg [.op none (.mv 6 (.const (.slice none 0 0))), .gh, .op none (.mv 7 (.const (.int .i64 0))), .keep [0, 1, 2]]) (.seq (.reg [.op none (.mv 12 (.tmp 0)), .op none (.mv 13 (.tmp 1)), .op none (.mv 14 (.tmp 2)), .call none (some 15) 102 [.tmp 12, .tmp 13, .tmp 14], .op none (.mv 11 (.tmp 15)), .op none (.extr 16 (.tmp 11) 0), .op none (.extr 17 (.tmp 11) 1), .op none (.extr 18 (.tmp 11) 2), .op none (.mv 8 (.tmp 16)), .op none (.mv 9 (.tmp 17)), .op none (.mv 10 (.tmp 18)), .keep [9, 10]]) (.seq (.reg [.op none (.mv 19 (.tmp 9)), .op none (.mv 20 (.tmp 10)), .op none (.mv 6 (.tmp 19)), .op none (.mv 7 (.tmp 20)), .keep [6, 7]]) (.ret)))
def r50 : List RV := [.tmp 6, .tmp 7]
theorem k50 : compC Try.prog 21 (Try.f50.body.getD .skip) = some c50.erase := by kernel_rfl
theorem q50 : rvsOf Try.prog Try.f50.results.toList = some r50 := by kernel_rfl
def impl_ReorderRun.f (a0 : Int) (a1 : Int) (l2 : List S116) : Option ((List S118) × Int) := (impl_reorderAfter.f a0 a1 l2 >>= fun t3 => (match t3.1 with | none => (some (t3.2.1, t3.2.2)) | some p7 => (some (t3.2.1, t3.2.2))))
set_option maxRecDepth 100000 in
set_option maxHeartbeats 4000000 in
theorem impl_ReorderRun.tri (cs0 : List Cell) (o0 : Nat) (l2 : List S116) (hv0 : Vw c116 4 cs0 o0 l2) (a0 : Int) (a1 : Int) (r : (List S118) × Int) (h : impl_ReorderRun.f a0 a1 l2 = some r) : Tri Try.prog 50 [.c (.sc (.int .u64 a0)), .c (.sc (.int .i64 a1)), .c (.ref (.arg 0) [] o0 l2.length)] [(.arg 0, ⟨.fz, 4, cs0⟩)] (fun o => o = ⟨.tup [(false, [.ref (.res 0) [] 0 r.1.length]), (false, [.sc (.int .i64 r.2)])], [(.arg 0, ⟨.fz, 4, cs0⟩), (.res 0, ⟨.lst, 3, encL c118 r.1⟩)], [], []⟩) := by
  refine tri_of_body (ac := c50) (xs := r50) Try.func50 (show Try.f50.body = some (Try.f50.body.getD .skip) from rfl) k50 q50 (Nat.le_of_ble_eq_true rfl) ?_
  refine body_of fun K hKn hKr => ?_
  unfold impl_ReorderRun.f at h
  unfold c50
  simp only [initT, Nat.reduceAdd]
  refine seq_k fun J1 hJ1 => ?_
  refine reg_k ?_
  simp only [Nat.reduceEqDiff, Nat.reduceAdd, Nat.reduceMul, Nat.reduceLeDiff, Nat.reduceLT, Int.reduceLE, Int.reduceLT, Int.reduceGT, Int.reduceGE, Int.reduceEq, Int.reduceNe, Int.reduceToNat, reduceCtorEq, ak]
  refine gho_k (Weak.nm' 6 (.tmp 6 20) 3 (encL c118 ([] : List S118)) rfl rfl rfl) ?_
  simp only [Nat.reduceEqDiff, Nat.reduceAdd, Nat.reduceMul, Nat.reduceLeDiff, Nat.reduceLT, Int.reduceLE, Int.reduceLT, Int.reduceGT, Int.reduceGE, Int.reduceEq, Int.reduceNe, Int.reduceToNat, reduceCtorEq, ak]
  refine hJ1 _ ?_
  refine seq_k fun J2 hJ2 => ?_
  refine reg_k ?_
  simp only [Nat.reduceEqDiff, Nat.reduceAdd, Nat.reduceMul, Nat.reduceLeDiff, Nat.reduceLT, Int.reduceLE, Int.reduceLT, Int.reduceGT, Int.reduceGE, Int.reduceEq, Int.reduceNe, Int.reduceToNat, reduceCtorEq, ak]
  obtain ⟨t3, h4, h⟩ := of_bind h
  rcases hpo : t3.1 with _ | p7
  · have hpp5 := hpo
    rw [hpo] at h; dsimp only at h
    refine call_m [(.arg 0, ⟨(.arg 0), [], none, .fz⟩)] (s0 := [(.arg 0, ⟨.fz, 4, cs0⟩)]) (by intro t ht; cases ht; decide) rfl rfl (by first | rfl | simp only [reduceCtorEq, Nat.reduceEqDiff, ak, akF]) (impl_reorderAfter.tri0 (cs0) o0 l2 hv0 a0 a1 _ h4 hpp5) (by first | rfl | simp only [reduceCtorEq, Nat.reduceEqDiff, ak, akF]) (by simp [bkOk2, memK]) (fun hl5 => ?_)
    refine call_st (s4 := [(.arg 0, ⟨.fz, 4, cs0⟩), (.tmp 6 20, ⟨.lst, 3, encL c118 ([] : List S118)⟩), (.tmp 15 0, ⟨.lst, 3, encL c118 t3.2.1⟩)]) (m1' := []) (m2' := []) (v' := .tup [(false, [.sc (.pointer none)]), (false, [.ref (.tmp 15 0) [] 0 t3.2.1.length]), (false, [.sc (.int .i64 t3.2.2)])]) (Sto.mapN_killNil _ _) (mrgL_fz (mrgL_nil' _ _ _) rfl (by first | rfl | simp only [reduceCtorEq, Nat.reduceEqDiff, ak]) rfl (by intro R hR hh; cases hR; cases hh.2)) (by rfl) (mapT_killNil _ _) (by rfl) (by rfl) (by first | rfl | simp only [reduceCtorEq, Nat.reduceEqDiff, ak, akF, Nat.zero_add, List.append_nil]) ?_
    simp only [Nat.reduceEqDiff, Nat.reduceAdd, Nat.reduceMul, Nat.reduceLeDiff, Nat.reduceLT, Int.reduceLE, Int.reduceLT, Int.reduceGT, Int.reduceGE, Int.reduceEq, Int.reduceNe, Int.reduceToNat, reduceCtorEq, ak]
    refine hJ2 _ ?_
    refine seq_k fun J9 hJ9 => ?_
    refine reg_k ?_
    simp only [Nat.reduceEqDiff, Nat.reduceAdd, Nat.reduceMul, Nat.reduceLeDiff, Nat.reduceLT, Int.reduceLE, Int.reduceLT, Int.reduceGT, Int.reduceGE, Int.reduceEq, Int.reduceNe, Int.reduceToNat, reduceCtorEq, ak]
    refine hJ9 _ ?_
    obtain rfl := Option.some.inj h
    refine hKr _ ⟨_, rfl, [⟨(.tmp 15 0), [], none, .lst⟩], _, rfl, rfl, ?_⟩
    first | rfl | (simp only [reduceCtorEq, Nat.reduceEqDiff, ak, akF]; done) | (simp [reduceCtorEq, Nat.reduceEqDiff, ak, akF]; done)
  · have hpp7 := hpo
    rw [hpo] at h; dsimp only at h
    refine call_m [(.arg 0, ⟨(.arg 0), [], none, .fz⟩)] (s0 := [(.arg 0, ⟨.fz, 4, cs0⟩)]) (by intro t ht; cases ht; decide) rfl rfl (by first | rfl | simp only [reduceCtorEq, Nat.reduceEqDiff, ak, akF]) (impl_reorderAfter.tri1 (cs0) o0 l2 hv0 a0 a1 _ h4 _ hpp7) (by first | rfl | simp only [reduceCtorEq, Nat.reduceEqDiff, ak, akF]) (by simp [bkOk2, memK]) (fun hl7 => ?_)
    refine call_st (s4 := [(.arg 0, ⟨.fz, 4, cs0⟩), (.tmp 6 20, ⟨.lst, 3, encL c118 ([] : List S118)⟩), (.tmp 15 1, ⟨.lst, 3, encL c118 t3.2.1⟩), (.tmp 15 0, ⟨.box, 0, [.sc (.int .u64 p7.1), .own 1 p7.2.1.length (encL c_u8 p7.2.1), .own 1 p7.2.2.1.length (encL c_bool p7.2.2.1), .sc (.int .u64 p7.2.2.2.1), .sc (.bool p7.2.2.2.2.1), .sc (.int .u64 p7.2.2.2.2.2)]⟩)]) (m1' := []) (m2' := []) (v' := .tup [(false, [.ptr (.tmp 15 0) [] 0]), (false, [.ref (.tmp 15 1) [] 0 t3.2.1.length]), (false, [.sc (.int .i64 t3.2.2)])]) (Sto.mapN_killNil _ _) (mrgL_fz (mrgL_nil' _ _ _) rfl (by first | rfl | simp only [reduceCtorEq, Nat.reduceEqDiff, ak]) rfl (by intro R hR hh; cases hR; cases hh.2)) (by rfl) (mapT_killNil _ _) (by rfl) (by rfl) (by first | rfl | simp only [reduceCtorEq, Nat.reduceEqDiff, ak, akF, Nat.zero_add, List.append_nil]) ?_
    simp only [Nat.reduceEqDiff, Nat.reduceAdd, Nat.reduceMul, Nat.reduceLeDiff, Nat.reduceLT, Int.reduceLE, Int.reduceLT, Int.reduceGT, Int.reduceGE, Int.reduceEq, Int.reduceNe, Int.reduceToNat, reduceCtorEq, ak]
    refine hJ2 _ ?_
    refine seq_k fun J10 hJ10 => ?_
    refine reg_k ?_
    simp only [Nat.reduceEqDiff, Nat.reduceAdd, Nat.reduceMul, Nat.reduceLeDiff, Nat.reduceLT, Int.reduceLE, Int.reduceLT, Int.reduceGT, Int.reduceGE, Int.reduceEq, Int.reduceNe, Int.reduceToNat, reduceCtorEq, ak]
    refine hJ10 _ ?_
    obtain rfl := Option.some.inj h
    refine hKr _ ⟨_, rfl, [⟨(.tmp 15 1), [], none, .lst⟩], _, rfl, rfl, ?_⟩
    first | rfl | (simp only [reduceCtorEq, Nat.reduceEqDiff, ak, akF]; done) | (simp [reduceCtorEq, Nat.reduceEqDiff, ak, akF]; done)
end Go.AK
