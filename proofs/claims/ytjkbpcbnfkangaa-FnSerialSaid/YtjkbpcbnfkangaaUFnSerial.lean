-- by a program of this session (wip/ak/pw.py)
import Derived.Test.YtjkbpcbnfkangaaAk2
import Derived.KernelRfl
import Derived.Test.YtjkbpcbnfkangaaChecked
set_option linter.unusedVariables false
set_option linter.unusedSimpArgs false
namespace Go.AK
open Go Go.Proofs
def c_u8 (x : Int) : List Cell := [.sc (.int .u8 x)]
theorem c_u8_w (x : Int) : (c_u8 x).length = 1 := rfl
/-! ### spec.l1Begin: function 52 -/
def c52_l0 : AC := .seq (.seq (.reg [.op none (.mv 8 (.tmp 4)), .op none (.mv 9 (.tmp 0)), .op none (.len 10 (.tmp 9)), .op none (.bin 11 .lss (.tmp 8) (.tmp 10)), .keep [0, 2, 3, 4, 11]]) (.cond (.tmp 11) (.skip) (.gh (.exit 0)))) (.seq (.block 1 (.regD (.first (.op none (.faddr 14 2 (.tmp 3))) (.first (.op none (.load 15 false 1 (.tmp 14))) (.first (.op none (.mv 16 (.tmp 0))) (.first (.op none (.mv 17 (.tmp 4))) (.first (.op none (.iaddr 18 1 (.tmp 16) (.tmp 17))) (.first (.op none (.load 19 false 1 (.tmp 18))) (.first (.op none (.conv 20 .u64 (.tmp 19))) (.first (.op none (.bin 21 .xor (.tmp 15) (.tmp 20))) (.first (.op none (.bin 22 .mul (.tmp 21) (.const (.int .u64 1099511628211)))) (.first (.op none (.faddr 23 2 (.tmp 3))) (.alt (.op none (.store 1 (.tmp 23) (.tmp 22))) (.done) (.stop)))))))))))) [0, 2, 3, 4])) (.reg [.op none (.mv 12 (.tmp 4)), .op none (.bin 13 .add (.tmp 12) (.const (.int .i64 1))), .op none (.mv 4 (.tmp 13)), .keep [0, 2, 3, 4]]))
def c52 : AC := .seq (.reg [.op none (.alloc 2 [.slice none 0 0, .int .i64 0, .int .u64 0]), .keep [0, 2]]) (.seq (.reg [.op none (.mv 5 (.tmp 0)), .op none (.build 6 [.slice none 0 0, .int .i64 0, .int .u64 0] [(0, 1, .tmp 5)]), .op none (.alloc 3 [.slice none 0 0, .int .i64 0, .int .u64 0]), .op none (.store 3 (.tmp 3) (.tmp 6)), .keep [0, 2, 3]]) (.seq (.reg [.op none (.faddr 7 2 (.tmp 3)), .op none (.store 1 (.tmp 7) (.const (.int .u64 1469598103934665603))), .keep [0, 2, 3]]) (.seq (.seq (.reg [.op none (.mv 4 (.const (.int .i64 0))), .keep [0, 2, 3, 4]]) (.block 0 (.gh (.loop (.ga c52_l0))))) (.seq (.reg [.op none (.load 24 true 3 (.tmp 3)), .op none (.store 3 (.tmp 2) (.tmp 24)), .keep [2]]) (.ret)))))
def r52 : List RV := [.cell 2 true 3]
theorem k52 : compC Try.prog 25 (Try.f52.body.getD .skip) = some c52.erase := by kernel_rfl
theorem q52 : rvsOf Try.prog Try.f52.results.toList = some r52 := by kernel_rfl
def spec_l1Begin.l0 (l0 : List Int) (x0_1 : Int) (x0_2 : Int) (x0_3 : Int) (x0_0 : Int) (x0_4 : Int) : Option Int := (if x0_0 < (l0.length : Int) then (if 0 ≤ x0_0 ∧ x0_0 < (l0.length : Int) then (spec_l1Begin.l0 l0 x0_1 x0_2 x0_3 (IntKind.i64.wrap (x0_0 + 1)) (IntKind.u64.wrap ((bits .xor .u64 x0_4 (IntKind.u64.wrap (rd 0 l0 x0_0))) * 1099511628211))) else none) else (some x0_4))
  partial_fixpoint
def spec_l1Begin.f (l0 : List Int) : Option (Int × Int) := (spec_l1Begin.l0 l0 0 0 0 0 1469598103934665603 >>= fun (y14 : Int) => (some (0, y14)))
set_option maxRecDepth 100000 in
set_option maxHeartbeats 4000000 in
theorem spec_l1Begin.l0_walk (cs0 : List Cell) (o0 : Nat) (l0 : List Int) (hv0 : Vw c_u8 1 cs0 o0 l0) (x0_1 : Int) (x0_2 : Int) (x0_3 : Int) (x0_0 : Int) (x0_4 : Int) (y : Int) (h : spec_l1Begin.l0 l0 x0_1 x0_2 x0_3 x0_0 x0_4 = some y) (K : AE → St → Prop) (hx0 : K (.exit 0) ⟨[(2, .c (.ptr (.tmp 2 0) [] 0)), (3, .c (.ptr (.tmp 3 0) [] 0))], [(.arg 0, ⟨.fz, 1, cs0⟩), (.tmp 2 0, ⟨.box, 0, [.sc (.slice none 0 0), .sc (.int .i64 x0_1), .sc (.int .u64 x0_2)]⟩), (.tmp 3 0, ⟨.box, 0, [.ref (.arg 0) [] o0 l0.length, .sc (.int .i64 x0_3), .sc (.int .u64 y)]⟩)], [], []⟩) : loopS Try.prog 25 (.ga c52_l0) K ⟨[(0, .c (.ref (.arg 0) [] o0 l0.length)), (2, .c (.ptr (.tmp 2 0) [] 0)), (3, .c (.ptr (.tmp 3 0) [] 0)), (4, .c (.sc (.int .i64 x0_0)))], [(.arg 0, ⟨.fz, 1, cs0⟩), (.tmp 2 0, ⟨.box, 0, [.sc (.slice none 0 0), .sc (.int .i64 x0_1), .sc (.int .u64 x0_2)]⟩), (.tmp 3 0, ⟨.box, 0, [.ref (.arg 0) [] o0 l0.length, .sc (.int .i64 x0_3), .sc (.int .u64 x0_4)]⟩)], [], []⟩ := by
  refine spec_l1Begin.l0.partial_correctness l0 x0_1 x0_2 x0_3 (motive := fun x0_0 x0_4 y => ∀ (K : AE → St → Prop), (K (.exit 0) ⟨[(2, .c (.ptr (.tmp 2 0) [] 0)), (3, .c (.ptr (.tmp 3 0) [] 0))], [(.arg 0, ⟨.fz, 1, cs0⟩), (.tmp 2 0, ⟨.box, 0, [.sc (.slice none 0 0), .sc (.int .i64 x0_1), .sc (.int .u64 x0_2)]⟩), (.tmp 3 0, ⟨.box, 0, [.ref (.arg 0) [] o0 l0.length, .sc (.int .i64 x0_3), .sc (.int .u64 y)]⟩)], [], []⟩) → loopS Try.prog 25 (.ga c52_l0) K ⟨[(0, .c (.ref (.arg 0) [] o0 l0.length)), (2, .c (.ptr (.tmp 2 0) [] 0)), (3, .c (.ptr (.tmp 3 0) [] 0)), (4, .c (.sc (.int .i64 x0_0)))], [(.arg 0, ⟨.fz, 1, cs0⟩), (.tmp 2 0, ⟨.box, 0, [.sc (.slice none 0 0), .sc (.int .i64 x0_1), .sc (.int .u64 x0_2)]⟩), (.tmp 3 0, ⟨.box, 0, [.ref (.arg 0) [] o0 l0.length, .sc (.int .i64 x0_3), .sc (.int .u64 x0_4)]⟩)], [], []⟩) ?_ x0_0 x0_4 y h K hx0
  clear h hx0
  intro rec ih x0_0 x0_4 y h K hx0
  refine loop_unroll (ga_k fun G0 G0n G0r G0x => ?_)
  unfold c52_l0
  refine seq_k fun J7 hJ7 => ?_
  refine seq_k fun J8 hJ8 => ?_
  refine reg_k ?_
  simp only [Nat.reduceEqDiff, Nat.reduceAdd, Nat.reduceMul, Nat.reduceLeDiff, Nat.reduceLT, Int.reduceLE, Int.reduceLT, Int.reduceGT, Int.reduceGE, Int.reduceEq, Int.reduceNe, Int.reduceToNat, reduceCtorEq, ak]
  refine hJ8 _ ?_
  refine cond_k (b := decide (x0_0 < (l0.length : Int))) rfl (fun c9 => ?_) (fun c9 => ?_)
  · replace c9 := of_decide_eq_true c9; rw [if_pos c9] at h
    refine hJ7 _ ?_
    refine seq_k fun J10 hJ10 => ?_
    refine block_k fun B11 B11n B11x B11r B11j => ?_
    refine regD_k ?_
    obtain ⟨b12, h⟩ := of_guard h
    have g13 : (cs0)[o0 + x0_0.toNat * 1]? = some (.sc (.int .u8 (rd 0 l0 x0_0))) := hv0.get 0 0 b12.1 b12.2 (by decide)
    simp only [Nat.reduceEqDiff, Nat.reduceAdd, Nat.reduceMul, Nat.reduceLeDiff, Nat.reduceLT, Int.reduceLE, Int.reduceLT, Int.reduceGT, Int.reduceGE, Int.reduceEq, Int.reduceNe, Int.reduceToNat, reduceCtorEq, ak, b12, g13]
    refine B11n _ ?_
    refine hJ10 _ ?_
    refine reg_k ?_
    simp only [Nat.reduceEqDiff, Nat.reduceAdd, Nat.reduceMul, Nat.reduceLeDiff, Nat.reduceLT, Int.reduceLE, Int.reduceLT, Int.reduceGT, Int.reduceGE, Int.reduceEq, Int.reduceNe, Int.reduceToNat, reduceCtorEq, ak]
    refine G0n _ (⟨[(0, .c (.ref (.arg 0) [] o0 l0.length)), (2, .c (.ptr (.tmp 2 0) [] 0)), (3, .c (.ptr (.tmp 3 0) [] 0)), (4, .c (.sc (.int .i64 (IntKind.i64.wrap (x0_0 + 1)))))], [(.arg 0, ⟨.fz, 1, cs0⟩), (.tmp 2 0, ⟨.box, 0, [.sc (.slice none 0 0), .sc (.int .i64 x0_1), .sc (.int .u64 x0_2)]⟩), (.tmp 3 0, ⟨.box, 0, [.ref (.arg 0) [] o0 l0.length, .sc (.int .i64 x0_3), .sc (.int .u64 (IntKind.u64.wrap ((bits .xor .u64 x0_4 (IntKind.u64.wrap (rd 0 l0 x0_0))) * 1099511628211)))]⟩)], [], []⟩) ((Weak.keep [0, 2, 3, 4]).trans ((Weak.foc [(.arg 0, ⟨(.arg 0), [], none, .fz⟩), (.tmp 2 0, ⟨(.tmp 2 0), [], none, .box⟩), (.tmp 3 0, ⟨(.tmp 3 0), [], none, .box⟩)] rfl (by first | rfl | simp only [reduceCtorEq, Nat.reduceEqDiff, ak, akG, foc, focL, focR, fits, seg, mapN, mapN1, fwd, fwdR, fwd1, fwdQ, fwdP, isAt, inR, shOf, strip, reR, reP]) (by simp [argK, akG, ak])).trans (Weak.of_eq (by first | rfl | (simp only [reduceCtorEq, Nat.reduceEqDiff, ak, akG, foc, focL, focR, fits, seg, mapN, mapN1, fwd, fwdR, fwd1, fwdQ, fwdP, isAt, inR, shOf, strip, reR, reP]; done) | (simp [reduceCtorEq, Nat.reduceEqDiff, ak, akG, foc, focL, focR, fits, seg, mapN, mapN1, fwd, fwdR, fwd1, fwdQ, fwdP, isAt, inR, shOf, strip, reR, reP]; done))))) (ih _ _ _ h K hx0)
  · replace c9 := of_decide_eq_false c9; rw [if_neg c9] at h
    obtain rfl := Option.some.inj h
    refine gh_k (st' := ⟨[(2, .c (.ptr (.tmp 2 0) [] 0)), (3, .c (.ptr (.tmp 3 0) [] 0))], [(.arg 0, ⟨.fz, 1, cs0⟩), (.tmp 2 0, ⟨.box, 0, [.sc (.slice none 0 0), .sc (.int .i64 x0_1), .sc (.int .u64 x0_2)]⟩), (.tmp 3 0, ⟨.box, 0, [.ref (.arg 0) [] o0 l0.length, .sc (.int .i64 x0_3), .sc (.int .u64 x0_4)]⟩)], [], []⟩) ((Weak.keep [2, 3]).trans ((Weak.foc [(.arg 0, ⟨(.arg 0), [], none, .fz⟩), (.tmp 2 0, ⟨(.tmp 2 0), [], none, .box⟩), (.tmp 3 0, ⟨(.tmp 3 0), [], none, .box⟩)] rfl (by first | rfl | simp only [reduceCtorEq, Nat.reduceEqDiff, ak, akG, foc, focL, focR, fits, seg, mapN, mapN1, fwd, fwdR, fwd1, fwdQ, fwdP, isAt, inR, shOf, strip, reR, reP]) (by simp [argK, akG, ak])).trans (Weak.of_eq (by first | rfl | (simp only [reduceCtorEq, Nat.reduceEqDiff, ak, akG, foc, focL, focR, fits, seg, mapN, mapN1, fwd, fwdR, fwd1, fwdQ, fwdP, isAt, inR, shOf, strip, reR, reP]; done) | (simp [reduceCtorEq, Nat.reduceEqDiff, ak, akG, foc, focL, focR, fits, seg, mapN, mapN1, fwd, fwdR, fwd1, fwdQ, fwdP, isAt, inR, shOf, strip, reR, reP]; done))))) ?_
    refine G0x _ _ ?_
    exact hx0
set_option maxRecDepth 100000 in
set_option maxHeartbeats 4000000 in
theorem spec_l1Begin.tri (cs0 : List Cell) (o0 : Nat) (l0 : List Int) (hv0 : Vw c_u8 1 cs0 o0 l0) (r : Int × Int) (h : spec_l1Begin.f l0 = some r) : Tri Try.prog 52 [.c (.ref (.arg 0) [] o0 l0.length)] [(.arg 0, ⟨.fz, 1, cs0⟩)] (fun o => o = ⟨.g [.ref (.arg 0) [] o0 l0.length, .sc (.int .i64 r.1), .sc (.int .u64 r.2)], [(.arg 0, ⟨.fz, 1, cs0⟩)], [], []⟩) := by
  refine tri_of_body (ac := c52) (xs := r52) Try.func52 (show Try.f52.body = some (Try.f52.body.getD .skip) from rfl) k52 q52 (Nat.le_of_ble_eq_true rfl) ?_
  refine body_of fun K hKn hKr => ?_
  unfold spec_l1Begin.f at h
  unfold c52
  simp only [initT, Nat.reduceAdd]
  refine seq_k fun J1 hJ1 => ?_
  refine reg_k ?_
  simp only [Nat.reduceEqDiff, Nat.reduceAdd, Nat.reduceMul, Nat.reduceLeDiff, Nat.reduceLT, Int.reduceLE, Int.reduceLT, Int.reduceGT, Int.reduceGE, Int.reduceEq, Int.reduceNe, Int.reduceToNat, reduceCtorEq, ak]
  refine hJ1 _ ?_
  refine seq_k fun J2 hJ2 => ?_
  refine reg_k ?_
  simp only [Nat.reduceEqDiff, Nat.reduceAdd, Nat.reduceMul, Nat.reduceLeDiff, Nat.reduceLT, Int.reduceLE, Int.reduceLT, Int.reduceGT, Int.reduceGE, Int.reduceEq, Int.reduceNe, Int.reduceToNat, reduceCtorEq, ak]
  refine hJ2 _ ?_
  refine seq_k fun J3 hJ3 => ?_
  refine reg_k ?_
  simp only [Nat.reduceEqDiff, Nat.reduceAdd, Nat.reduceMul, Nat.reduceLeDiff, Nat.reduceLT, Int.reduceLE, Int.reduceLT, Int.reduceGT, Int.reduceGE, Int.reduceEq, Int.reduceNe, Int.reduceToNat, reduceCtorEq, ak]
  refine hJ3 _ ?_
  refine seq_k fun J4 hJ4 => ?_
  refine seq_k fun J5 hJ5 => ?_
  refine reg_k ?_
  simp only [Nat.reduceEqDiff, Nat.reduceAdd, Nat.reduceMul, Nat.reduceLeDiff, Nat.reduceLT, Int.reduceLE, Int.reduceLT, Int.reduceGT, Int.reduceGE, Int.reduceEq, Int.reduceNe, Int.reduceToNat, reduceCtorEq, ak]
  refine hJ5 _ ?_
  refine block_k fun B6 B6n B6x B6r B6j => ?_
  obtain ⟨y14, h15, h⟩ := of_bind h
  refine gh_k (st' := ⟨[(0, .c (.ref (.arg 0) [] o0 l0.length)), (2, .c (.ptr (.tmp 2 0) [] 0)), (3, .c (.ptr (.tmp 3 0) [] 0)), (4, .c (.sc (.int .i64 0)))], [(.arg 0, ⟨.fz, 1, cs0⟩), (.tmp 2 0, ⟨.box, 0, [.sc (.slice none 0 0), .sc (.int .i64 0), .sc (.int .u64 0)]⟩), (.tmp 3 0, ⟨.box, 0, [.ref (.arg 0) [] o0 l0.length, .sc (.int .i64 0), .sc (.int .u64 1469598103934665603)]⟩)], [], []⟩) ((Weak.keep [0, 2, 3, 4]).trans ((Weak.foc [(.arg 0, ⟨(.arg 0), [], none, .fz⟩), (.tmp 2 0, ⟨(.tmp 2 0), [], none, .box⟩), (.tmp 3 0, ⟨(.tmp 3 0), [], none, .box⟩)] rfl (by first | rfl | simp only [reduceCtorEq, Nat.reduceEqDiff, ak, akG, foc, focL, focR, fits, seg, mapN, mapN1, fwd, fwdR, fwd1, fwdQ, fwdP, isAt, inR, shOf, strip, reR, reP]) (by simp [argK, akG, ak])).trans (Weak.of_eq (by first | rfl | (simp only [reduceCtorEq, Nat.reduceEqDiff, ak, akG, foc, focL, focR, fits, seg, mapN, mapN1, fwd, fwdR, fwd1, fwdQ, fwdP, isAt, inR, shOf, strip, reR, reP]; done) | (simp [reduceCtorEq, Nat.reduceEqDiff, ak, akG, foc, focL, focR, fits, seg, mapN, mapN1, fwd, fwdR, fwd1, fwdQ, fwdP, isAt, inR, shOf, strip, reR, reP]; done))))) ?_
  rw [e_loop]
  refine spec_l1Begin.l0_walk cs0 o0 l0 hv0 0 0 0 0 1469598103934665603 _ h15 _ ?_
  refine B6x _ ?_
  refine hJ4 _ ?_
  refine seq_k fun J16 hJ16 => ?_
  refine reg_k ?_
  simp only [Nat.reduceEqDiff, Nat.reduceAdd, Nat.reduceMul, Nat.reduceLeDiff, Nat.reduceLT, Int.reduceLE, Int.reduceLT, Int.reduceGT, Int.reduceGE, Int.reduceEq, Int.reduceNe, Int.reduceToNat, reduceCtorEq, ak]
  refine hJ16 _ ?_
  obtain rfl := Option.some.inj h
  refine hKr _ ⟨_, rfl, [], _, rfl, rfl, ?_⟩
  first | rfl | (simp only [reduceCtorEq, Nat.reduceEqDiff, ak, akG, mapN, mapN1, fwd, fwdR, fwd1, fwdQ, fwdP, isAt, inR, shOf, strip, reR, reP, outPl, argPl, resPl]; done) | (simp [reduceCtorEq, Nat.reduceEqDiff, ak, akG, mapN, mapN1, fwd, fwdR, fwd1, fwdQ, fwdP, isAt, inR, shOf, strip, reR, reP, outPl, argPl, resPl]; done)
/-! ### spec.l1Next: function 54 -/
def c54 : AC := .seq (.reg [.op none (.mv 4 (.const (.int .i64 0))), .keep [0, 1]]) (.seq (.seq (.reg [.op none (.mv 6 (.tmp 1)), .op none (.bin 7 .leq (.tmp 6) (.const (.int .i64 0))), .keep [0, 1, 7]]) (.cond (.tmp 7) (.seq (.reg [.op none (.mv 4 (.const (.int .i64 0))), .keep [4]]) (.ret)) (.skip))) (.seq (.reg [.op none (.mv 8 (.tmp 0)), .op none (.mv 9 (.tmp 0)), .op none (.nilc 10 (.tmp 9)), .op none (.faddr 11 2 (.tmp 10)), .op none (.load 12 false 1 (.tmp 11)), .op none (.bin 13 .mul (.tmp 12) (.const (.int .u64 6364136223846793005))), .op none (.bin 14 .add (.tmp 13) (.const (.int .u64 1442695040888963407))), .op none (.nilc 15 (.tmp 8)), .op none (.faddr 16 2 (.tmp 15)), .op none (.store 1 (.tmp 16) (.tmp 14)), .keep [0, 1]]) (.seq (.reg [.op none (.mv 17 (.tmp 0)), .op none (.nilc 18 (.tmp 17)), .op none (.faddr 19 2 (.tmp 18)), .op none (.load 20 false 1 (.tmp 19)), .op none (.bin 21 .shr (.tmp 20) (.const (.int .u64 33))), .op none (.mv 5 (.tmp 21)), .keep [0, 1, 5]]) (.seq (.ga (.seq (.regD (.first (.op none (.mv 22 (.tmp 0))) (.first (.op none (.nilc 23 (.tmp 22))) (.first (.op none (.faddr 24 1 (.tmp 23))) (.first (.op none (.load 25 false 1 (.tmp 24))) (.first (.op none (.mv 26 (.tmp 0))) (.first (.op none (.nilc 27 (.tmp 26))) (.first (.op none (.faddr 28 0 (.tmp 27))) (.first (.op none (.load 29 false 1 (.tmp 28))) (.first (.op none (.len 30 (.tmp 29))) (.first (.op none (.bin 31 .lss (.tmp 25) (.tmp 30))) (.done))))))))))) [0, 1, 5, 31]) (.cond (.tmp 31) (.seq (.regD (.first (.op none (.mv 32 (.tmp 5))) (.first (.op none (.mv 33 (.tmp 0))) (.first (.op none (.nilc 34 (.tmp 33))) (.first (.op none (.faddr 35 0 (.tmp 34))) (.first (.op none (.load 36 false 1 (.tmp 35))) (.first (.op none (.mv 37 (.tmp 0))) (.first (.op none (.nilc 38 (.tmp 37))) (.first (.op none (.faddr 39 1 (.tmp 38))) (.first (.op none (.load 40 false 1 (.tmp 39))) (.first (.op none (.iaddr 41 1 (.tmp 36) (.tmp 40))) (.first (.op none (.load 42 false 1 (.tmp 41))) (.first (.op none (.conv 43 .u64 (.tmp 42))) (.first (.op none (.bin 44 .xor (.tmp 32) (.tmp 43))) (.first (.op none (.mv 5 (.tmp 44))) (.done))))))))))))))) [0, 1, 5]) (.reg [.op none (.mv 45 (.tmp 0)), .op none (.mv 46 (.tmp 0)), .op none (.nilc 47 (.tmp 46)), .op none (.faddr 48 1 (.tmp 47)), .op none (.load 49 false 1 (.tmp 48)), .op none (.bin 50 .add (.tmp 49) (.const (.int .i64 1))), .op none (.nilc 51 (.tmp 45)), .op none (.faddr 52 1 (.tmp 51)), .op none (.store 1 (.tmp 52) (.tmp 50)), .keep [1, 5]])) (.skip)))) (.seq (.reg [.op none (.mv 53 (.tmp 5)), .op none (.mv 54 (.tmp 1)), .op none (.conv 55 .u64 (.tmp 54)), .op none (.bin 56 .rem (.tmp 53) (.tmp 55)), .op none (.conv 57 .i64 (.tmp 56)), .op none (.mv 4 (.tmp 57)), .keep [4]]) (.ret))))))
def r54 : List RV := [.tmp 4]
theorem k54 : compC Try.prog 58 (Try.f54.body.getD .skip) = some c54.erase := by kernel_rfl
theorem q54 : rvsOf Try.prog Try.f54.results.toList = some r54 := by kernel_rfl
def spec_l1Next.f (l0_0 : List Int) (a0_1 : Int) (a0_2 : Int) (a1 : Int) : Option (Int × Int × Int) := (if a1 ≤ 0 then (some (0, a0_1, a0_2)) else ((if a0_1 < (l0_0.length : Int) then (if 0 ≤ a0_1 ∧ a0_1 < (l0_0.length : Int) then (some (bits .xor .u64 ((IntKind.u64.wrap ((IntKind.u64.wrap (a0_2 * 6364136223846793005)) + 1442695040888963407)).fdiv (2 ^ 33)) (IntKind.u64.wrap (rd 0 l0_0 a0_1)), IntKind.i64.wrap (a0_1 + 1))) else none) else (some ((IntKind.u64.wrap ((IntKind.u64.wrap (a0_2 * 6364136223846793005)) + 1442695040888963407)).fdiv (2 ^ 33), a0_1))) >>= fun (j9 : Int × Int) => (if ¬ IntKind.u64.wrap a1 = 0 then (some (IntKind.i64.wrap (j9.1.tmod (IntKind.u64.wrap a1)), j9.2, IntKind.u64.wrap ((IntKind.u64.wrap (a0_2 * 6364136223846793005)) + 1442695040888963407))) else none)))
set_option maxRecDepth 100000 in
set_option maxHeartbeats 4000000 in
theorem spec_l1Next.tri (cs1 : List Cell) (o1 : Nat) (l0_0 : List Int) (hv1 : Vw c_u8 1 cs1 o1 l0_0) (a0_1 : Int) (a0_2 : Int) (a1 : Int) (r : Int × Int × Int) (h : spec_l1Next.f l0_0 a0_1 a0_2 a1 = some r) : Tri Try.prog 54 [.c (.ptr (.arg 0) [] 0), .c (.sc (.int .i64 a1))] [(.arg 0, ⟨.box, 0, [.ref (.arg 1) [] o1 l0_0.length, .sc (.int .i64 a0_1), .sc (.int .u64 a0_2)]⟩), (.arg 1, ⟨.fz, 1, cs1⟩)] (fun o => o = ⟨.c (.sc (.int .i64 r.1)), [(.arg 0, ⟨.box, 0, [.ref (.arg 1) [] o1 l0_0.length, .sc (.int .i64 r.2.1), .sc (.int .u64 r.2.2)]⟩), (.arg 1, ⟨.fz, 1, cs1⟩)], [], []⟩) := by
  refine tri_of_body (ac := c54) (xs := r54) Try.func54 (show Try.f54.body = some (Try.f54.body.getD .skip) from rfl) k54 q54 (Nat.le_of_ble_eq_true rfl) ?_
  refine body_of fun K hKn hKr => ?_
  unfold spec_l1Next.f at h
  unfold c54
  simp only [initT, Nat.reduceAdd]
  refine seq_k fun J1 hJ1 => ?_
  refine reg_k ?_
  simp only [Nat.reduceEqDiff, Nat.reduceAdd, Nat.reduceMul, Nat.reduceLeDiff, Nat.reduceLT, Int.reduceLE, Int.reduceLT, Int.reduceGT, Int.reduceGE, Int.reduceEq, Int.reduceNe, Int.reduceToNat, reduceCtorEq, ak]
  refine hJ1 _ ?_
  refine seq_k fun J2 hJ2 => ?_
  refine seq_k fun J3 hJ3 => ?_
  refine reg_k ?_
  simp only [Nat.reduceEqDiff, Nat.reduceAdd, Nat.reduceMul, Nat.reduceLeDiff, Nat.reduceLT, Int.reduceLE, Int.reduceLT, Int.reduceGT, Int.reduceGE, Int.reduceEq, Int.reduceNe, Int.reduceToNat, reduceCtorEq, ak]
  refine hJ3 _ ?_
  refine cond_k (b := decide (a1 ≤ 0)) rfl (fun c4 => ?_) (fun c4 => ?_)
  · replace c4 := of_decide_eq_true c4; rw [if_pos c4] at h
    refine seq_k fun J5 hJ5 => ?_
    refine reg_k ?_
    simp only [Nat.reduceEqDiff, Nat.reduceAdd, Nat.reduceMul, Nat.reduceLeDiff, Nat.reduceLT, Int.reduceLE, Int.reduceLT, Int.reduceGT, Int.reduceGE, Int.reduceEq, Int.reduceNe, Int.reduceToNat, reduceCtorEq, ak]
    refine hJ5 _ ?_
    obtain rfl := Option.some.inj h
    refine hKr _ ⟨_, rfl, [], _, rfl, rfl, ?_⟩
    first | rfl | (simp only [reduceCtorEq, Nat.reduceEqDiff, ak, akG, mapN, mapN1, fwd, fwdR, fwd1, fwdQ, fwdP, isAt, inR, shOf, strip, reR, reP, outPl, argPl, resPl]; done) | (simp [reduceCtorEq, Nat.reduceEqDiff, ak, akG, mapN, mapN1, fwd, fwdR, fwd1, fwdQ, fwdP, isAt, inR, shOf, strip, reR, reP, outPl, argPl, resPl]; done)
  · replace c4 := of_decide_eq_false c4; rw [if_neg c4] at h
    refine hJ2 _ ?_
    refine seq_k fun J6 hJ6 => ?_
    refine reg_k ?_
    simp only [Nat.reduceEqDiff, Nat.reduceAdd, Nat.reduceMul, Nat.reduceLeDiff, Nat.reduceLT, Int.reduceLE, Int.reduceLT, Int.reduceGT, Int.reduceGE, Int.reduceEq, Int.reduceNe, Int.reduceToNat, reduceCtorEq, ak]
    refine hJ6 _ ?_
    refine seq_k fun J7 hJ7 => ?_
    refine reg_k ?_
    have g8 : ∀ a, abin .shr (.int .u64 a) (.int .u64 33) = some (.int .u64 (a.fdiv (2 ^ 33))) := fun a => akShrL _ _ a 33 (by decide)
    simp only [Nat.reduceEqDiff, Nat.reduceAdd, Nat.reduceMul, Nat.reduceLeDiff, Nat.reduceLT, Int.reduceLE, Int.reduceLT, Int.reduceGT, Int.reduceGE, Int.reduceEq, Int.reduceNe, Int.reduceToNat, reduceCtorEq, ak, g8]
    refine hJ7 _ ?_
    obtain ⟨j9, h10, hn⟩ := of_bind h
    refine seq_j (fun st => st = ⟨[(1, .c (.sc (.int .i64 a1))), (5, .c (.sc (.int .u64 j9.1)))], [(.arg 0, ⟨.box, 0, [.ref (.arg 1) [] o1 l0_0.length, .sc (.int .i64 j9.2), .sc (.int .u64 (IntKind.u64.wrap ((IntKind.u64.wrap (a0_2 * 6364136223846793005)) + 1442695040888963407)))]⟩), (.arg 1, ⟨.fz, 1, cs1⟩)], [], []⟩) (fun J11 hJ11 => ?_) ?_
    · replace h := h10; clear hn
      refine ga_k fun G12 G12n G12r G12x => ?_
      refine seq_k fun J13 hJ13 => ?_
      refine regD_k ?_
      simp only [Nat.reduceEqDiff, Nat.reduceAdd, Nat.reduceMul, Nat.reduceLeDiff, Nat.reduceLT, Int.reduceLE, Int.reduceLT, Int.reduceGT, Int.reduceGE, Int.reduceEq, Int.reduceNe, Int.reduceToNat, reduceCtorEq, ak]
      refine hJ13 _ ?_
      refine cond_k (b := decide (a0_1 < (l0_0.length : Int))) rfl (fun c14 => ?_) (fun c14 => ?_)
      · replace c14 := of_decide_eq_true c14; rw [if_pos c14] at h
        refine seq_k fun J15 hJ15 => ?_
        refine regD_k ?_
        obtain ⟨b16, h⟩ := of_guard h
        have g17 : (cs1)[o1 + a0_1.toNat * 1]? = some (.sc (.int .u8 (rd 0 l0_0 a0_1))) := hv1.get 0 0 b16.1 b16.2 (by decide)
        simp only [Nat.reduceEqDiff, Nat.reduceAdd, Nat.reduceMul, Nat.reduceLeDiff, Nat.reduceLT, Int.reduceLE, Int.reduceLT, Int.reduceGT, Int.reduceGE, Int.reduceEq, Int.reduceNe, Int.reduceToNat, reduceCtorEq, ak, b16, g17]
        refine hJ15 _ ?_
        refine reg_k ?_
        simp only [Nat.reduceEqDiff, Nat.reduceAdd, Nat.reduceMul, Nat.reduceLeDiff, Nat.reduceLT, Int.reduceLE, Int.reduceLT, Int.reduceGT, Int.reduceGE, Int.reduceEq, Int.reduceNe, Int.reduceToNat, reduceCtorEq, ak]
        obtain rfl := Option.some.inj h
        refine G12n _ _ ((Weak.keep [1, 5]).trans ((Weak.foc [(.arg 0, ⟨(.arg 0), [], none, .box⟩), (.arg 1, ⟨(.arg 1), [], none, .fz⟩)] rfl (by first | rfl | simp only [reduceCtorEq, Nat.reduceEqDiff, ak, akG, foc, focL, focR, fits, seg, mapN, mapN1, fwd, fwdR, fwd1, fwdQ, fwdP, isAt, inR, shOf, strip, reR, reP]) (by simp [argK, akG, ak])).trans (Weak.of_eq (by first | rfl | (simp only [reduceCtorEq, Nat.reduceEqDiff, ak, akG, foc, focL, focR, fits, seg, mapN, mapN1, fwd, fwdR, fwd1, fwdQ, fwdP, isAt, inR, shOf, strip, reR, reP]; done) | (simp [reduceCtorEq, Nat.reduceEqDiff, ak, akG, foc, focL, focR, fits, seg, mapN, mapN1, fwd, fwdR, fwd1, fwdQ, fwdP, isAt, inR, shOf, strip, reR, reP]; done))))) (hJ11 _ rfl)
      · replace c14 := of_decide_eq_false c14; rw [if_neg c14] at h
        obtain rfl := Option.some.inj h
        refine G12n _ _ ((Weak.keep [1, 5]).trans ((Weak.foc [(.arg 0, ⟨(.arg 0), [], none, .box⟩), (.arg 1, ⟨(.arg 1), [], none, .fz⟩)] rfl (by first | rfl | simp only [reduceCtorEq, Nat.reduceEqDiff, ak, akG, foc, focL, focR, fits, seg, mapN, mapN1, fwd, fwdR, fwd1, fwdQ, fwdP, isAt, inR, shOf, strip, reR, reP]) (by simp [argK, akG, ak])).trans (Weak.of_eq (by first | rfl | (simp only [reduceCtorEq, Nat.reduceEqDiff, ak, akG, foc, focL, focR, fits, seg, mapN, mapN1, fwd, fwdR, fwd1, fwdQ, fwdP, isAt, inR, shOf, strip, reR, reP]; done) | (simp [reduceCtorEq, Nat.reduceEqDiff, ak, akG, foc, focL, focR, fits, seg, mapN, mapN1, fwd, fwdR, fwd1, fwdQ, fwdP, isAt, inR, shOf, strip, reR, reP]; done))))) (hJ11 _ rfl)
    · replace h := hn; clear hn h10
      rintro _ rfl
      refine seq_k fun J18 hJ18 => ?_
      refine reg_k ?_
      obtain ⟨b19, h⟩ := of_guard h
      simp only [Nat.reduceEqDiff, Nat.reduceAdd, Nat.reduceMul, Nat.reduceLeDiff, Nat.reduceLT, Int.reduceLE, Int.reduceLT, Int.reduceGT, Int.reduceGE, Int.reduceEq, Int.reduceNe, Int.reduceToNat, reduceCtorEq, ak, b19]
      refine hJ18 _ ?_
      obtain rfl := Option.some.inj h
      refine hKr _ ⟨_, rfl, [], _, rfl, rfl, ?_⟩
      first | rfl | (simp only [reduceCtorEq, Nat.reduceEqDiff, ak, akG, mapN, mapN1, fwd, fwdR, fwd1, fwdQ, fwdP, isAt, inR, shOf, strip, reR, reP, outPl, argPl, resPl]; done) | (simp [reduceCtorEq, Nat.reduceEqDiff, ak, akG, mapN, mapN1, fwd, fwdR, fwd1, fwdQ, fwdP, isAt, inR, shOf, strip, reR, reP, outPl, argPl, resPl]; done)
/-! ### spec.l1Word: function 53 -/
def c53 : AC := .seq (.reg [.op none (.mv 2 (.const (.int .u64 0))), .keep [0]]) (.seq (.reg [.op none (.mv 3 (.tmp 0)), .call none (some 4) 54 [.tmp 3, .const (.int .i64 2147483648)], .op none (.conv 5 .u64 (.tmp 4)), .op none (.bin 6 .shl (.tmp 5) (.const (.int .u64 40))), .op none (.mv 7 (.tmp 0)), .call none (some 8) 54 [.tmp 7, .const (.int .i64 2147483648)], .op none (.conv 9 .u64 (.tmp 8)), .op none (.bin 10 .shl (.tmp 9) (.const (.int .u64 20))), .op none (.bin 11 .xor (.tmp 6) (.tmp 10)), .op none (.mv 12 (.tmp 0)), .call none (some 13) 54 [.tmp 12, .const (.int .i64 2147483648)], .op none (.conv 14 .u64 (.tmp 13)), .op none (.bin 15 .xor (.tmp 11) (.tmp 14)), .op none (.mv 2 (.tmp 15)), .keep [2]]) (.ret))
def r53 : List RV := [.tmp 2]
theorem k53 : compC Try.prog 16 (Try.f53.body.getD .skip) = some c53.erase := by kernel_rfl
theorem q53 : rvsOf Try.prog Try.f53.results.toList = some r53 := by kernel_rfl
def spec_l1Word.f (l0_0 : List Int) (a0_1 : Int) (a0_2 : Int) : Option (Int × Int × Int) := (spec_l1Next.f l0_0 a0_1 a0_2 2147483648 >>= fun t3 => (spec_l1Next.f l0_0 t3.2.1 t3.2.2 2147483648 >>= fun t6 => (spec_l1Next.f l0_0 t6.2.1 t6.2.2 2147483648 >>= fun t9 => (some (bits .xor .u64 (bits .xor .u64 (IntKind.u64.wrap ((IntKind.u64.wrap t3.1) * 2 ^ 40)) (IntKind.u64.wrap ((IntKind.u64.wrap t6.1) * 2 ^ 20))) (IntKind.u64.wrap t9.1), t9.2.1, t9.2.2)))))
set_option maxRecDepth 100000 in
set_option maxHeartbeats 4000000 in
theorem spec_l1Word.tri (cs1 : List Cell) (o1 : Nat) (l0_0 : List Int) (hv1 : Vw c_u8 1 cs1 o1 l0_0) (a0_1 : Int) (a0_2 : Int) (r : Int × Int × Int) (h : spec_l1Word.f l0_0 a0_1 a0_2 = some r) : Tri Try.prog 53 [.c (.ptr (.arg 0) [] 0)] [(.arg 0, ⟨.box, 0, [.ref (.arg 1) [] o1 l0_0.length, .sc (.int .i64 a0_1), .sc (.int .u64 a0_2)]⟩), (.arg 1, ⟨.fz, 1, cs1⟩)] (fun o => o = ⟨.c (.sc (.int .u64 r.1)), [(.arg 0, ⟨.box, 0, [.ref (.arg 1) [] o1 l0_0.length, .sc (.int .i64 r.2.1), .sc (.int .u64 r.2.2)]⟩), (.arg 1, ⟨.fz, 1, cs1⟩)], [], []⟩) := by
  refine tri_of_body (ac := c53) (xs := r53) Try.func53 (show Try.f53.body = some (Try.f53.body.getD .skip) from rfl) k53 q53 (Nat.le_of_ble_eq_true rfl) ?_
  refine body_of fun K hKn hKr => ?_
  unfold spec_l1Word.f at h
  unfold c53
  simp only [initT, Nat.reduceAdd]
  refine seq_k fun J1 hJ1 => ?_
  refine reg_k ?_
  simp only [Nat.reduceEqDiff, Nat.reduceAdd, Nat.reduceMul, Nat.reduceLeDiff, Nat.reduceLT, Int.reduceLE, Int.reduceLT, Int.reduceGT, Int.reduceGE, Int.reduceEq, Int.reduceNe, Int.reduceToNat, reduceCtorEq, ak]
  refine hJ1 _ ?_
  refine seq_k fun J2 hJ2 => ?_
  refine reg_k ?_
  simp only [Nat.reduceEqDiff, Nat.reduceAdd, Nat.reduceMul, Nat.reduceLeDiff, Nat.reduceLT, Int.reduceLE, Int.reduceLT, Int.reduceGT, Int.reduceGE, Int.reduceEq, Int.reduceNe, Int.reduceToNat, reduceCtorEq, ak]
  obtain ⟨t3, h4, h⟩ := of_bind h
  refine call_k [(.arg 0, ⟨(.arg 0), [], none, .box⟩), (.arg 1, ⟨(.arg 1), [], none, .fz⟩)] (s0 := [(.arg 0, ⟨.box, 0, [.ref (.arg 1) [] o1 l0_0.length, .sc (.int .i64 a0_1), .sc (.int .u64 a0_2)]⟩), (.arg 1, ⟨.fz, 1, cs1⟩)]) (s4 := [(.arg 0, ⟨.box, 0, [.ref (.arg 1) [] o1 l0_0.length, .sc (.int .i64 t3.2.1), .sc (.int .u64 t3.2.2)]⟩), (.arg 1, ⟨.fz, 1, cs1⟩)]) (v' := .c (.sc (.int .i64 t3.1))) (by intro t ht; cases ht; decide) rfl rfl (by first | rfl | simp only [reduceCtorEq, Nat.reduceEqDiff, ak, foc, focL, focR, fits, seg, mapN, mapN1, fwd, fwdR, fwd1, fwdQ, fwdP, isAt, inR, strip, reR, reP]) (spec_l1Next.tri (cs1) o1 l0_0 hv1 a0_1 a0_2 2147483648 _ h4) (by first | rfl | simp only [reduceCtorEq, Nat.reduceEqDiff, ak, mapN, mapN1, fwd, fwdR, fwd1, fwdQ, fwdP, isAt, inR, strip, reR, reP]) (by simp [bkOk]) (mrgL_whole (new' := [.ref (.arg 1) [] o1 l0_0.length, .sc (.int .i64 t3.2.1), .sc (.int .u64 t3.2.2)]) (mrgL_fz (mrgL_nil' _ _ _) rfl (by first | rfl | simp only [reduceCtorEq, Nat.reduceEqDiff, ak]) rfl (by intro R hR hh; cases hR; cases hh.2)) rfl (by rfl) (.inl ⟨rfl, by first | rfl | simp only [reduceCtorEq, Nat.reduceEqDiff, ak, mapN, mapN1, bwd, bwdR, upP, shOf, akG, reR, reP, Nat.zero_add, List.append_nil]⟩)) (by first | rfl | simp only [reduceCtorEq, Nat.reduceEqDiff, ak, mapN, mapN1, bwd, bwdR, upP, shOf, akG, reR, reP, Nat.zero_add, List.append_nil]) (by first | rfl | simp only [reduceCtorEq, Nat.reduceEqDiff, ak, mapN, mapN1, bwd, bwdR, upP, shOf, akG, reR, reP, Nat.zero_add, List.append_nil]) ?_
  have g5 : ∀ a, abin .shl (.int .u64 a) (.int .u64 40) = some (.int .u64 (IntKind.u64.wrap (a * 2 ^ 40))) := fun a => akShlL _ _ a 40 (by decide)
  simp only [Nat.reduceEqDiff, Nat.reduceAdd, Nat.reduceMul, Nat.reduceLeDiff, Nat.reduceLT, Int.reduceLE, Int.reduceLT, Int.reduceGT, Int.reduceGE, Int.reduceEq, Int.reduceNe, Int.reduceToNat, reduceCtorEq, ak, g5]
  obtain ⟨t6, h7, h⟩ := of_bind h
  refine call_k [(.arg 0, ⟨(.arg 0), [], none, .box⟩), (.arg 1, ⟨(.arg 1), [], none, .fz⟩)] (s0 := [(.arg 0, ⟨.box, 0, [.ref (.arg 1) [] o1 l0_0.length, .sc (.int .i64 t3.2.1), .sc (.int .u64 t3.2.2)]⟩), (.arg 1, ⟨.fz, 1, cs1⟩)]) (s4 := [(.arg 0, ⟨.box, 0, [.ref (.arg 1) [] o1 l0_0.length, .sc (.int .i64 t6.2.1), .sc (.int .u64 t6.2.2)]⟩), (.arg 1, ⟨.fz, 1, cs1⟩)]) (v' := .c (.sc (.int .i64 t6.1))) (by intro t ht; cases ht; decide) rfl rfl (by first | rfl | simp only [reduceCtorEq, Nat.reduceEqDiff, ak, foc, focL, focR, fits, seg, mapN, mapN1, fwd, fwdR, fwd1, fwdQ, fwdP, isAt, inR, strip, reR, reP, g5]) (spec_l1Next.tri (cs1) o1 l0_0 hv1 t3.2.1 t3.2.2 2147483648 _ h7) (by first | rfl | simp only [reduceCtorEq, Nat.reduceEqDiff, ak, mapN, mapN1, fwd, fwdR, fwd1, fwdQ, fwdP, isAt, inR, strip, reR, reP]) (by simp [bkOk]) (mrgL_whole (new' := [.ref (.arg 1) [] o1 l0_0.length, .sc (.int .i64 t6.2.1), .sc (.int .u64 t6.2.2)]) (mrgL_fz (mrgL_nil' _ _ _) rfl (by first | rfl | simp only [reduceCtorEq, Nat.reduceEqDiff, ak, g5]) rfl (by intro R hR hh; cases hR; cases hh.2)) rfl (by rfl) (.inl ⟨rfl, by first | rfl | simp only [reduceCtorEq, Nat.reduceEqDiff, ak, mapN, mapN1, bwd, bwdR, upP, shOf, akG, reR, reP, Nat.zero_add, List.append_nil]⟩)) (by first | rfl | simp only [reduceCtorEq, Nat.reduceEqDiff, ak, mapN, mapN1, bwd, bwdR, upP, shOf, akG, reR, reP, Nat.zero_add, List.append_nil]) (by first | rfl | simp only [reduceCtorEq, Nat.reduceEqDiff, ak, mapN, mapN1, bwd, bwdR, upP, shOf, akG, reR, reP, Nat.zero_add, List.append_nil]) ?_
  have g8 : ∀ a, abin .shl (.int .u64 a) (.int .u64 20) = some (.int .u64 (IntKind.u64.wrap (a * 2 ^ 20))) := fun a => akShlL _ _ a 20 (by decide)
  simp only [Nat.reduceEqDiff, Nat.reduceAdd, Nat.reduceMul, Nat.reduceLeDiff, Nat.reduceLT, Int.reduceLE, Int.reduceLT, Int.reduceGT, Int.reduceGE, Int.reduceEq, Int.reduceNe, Int.reduceToNat, reduceCtorEq, ak, g8]
  obtain ⟨t9, h10, h⟩ := of_bind h
  refine call_k [(.arg 0, ⟨(.arg 0), [], none, .box⟩), (.arg 1, ⟨(.arg 1), [], none, .fz⟩)] (s0 := [(.arg 0, ⟨.box, 0, [.ref (.arg 1) [] o1 l0_0.length, .sc (.int .i64 t6.2.1), .sc (.int .u64 t6.2.2)]⟩), (.arg 1, ⟨.fz, 1, cs1⟩)]) (s4 := [(.arg 0, ⟨.box, 0, [.ref (.arg 1) [] o1 l0_0.length, .sc (.int .i64 t9.2.1), .sc (.int .u64 t9.2.2)]⟩), (.arg 1, ⟨.fz, 1, cs1⟩)]) (v' := .c (.sc (.int .i64 t9.1))) (by intro t ht; cases ht; decide) rfl rfl (by first | rfl | simp only [reduceCtorEq, Nat.reduceEqDiff, ak, foc, focL, focR, fits, seg, mapN, mapN1, fwd, fwdR, fwd1, fwdQ, fwdP, isAt, inR, strip, reR, reP, g5, g8]) (spec_l1Next.tri (cs1) o1 l0_0 hv1 t6.2.1 t6.2.2 2147483648 _ h10) (by first | rfl | simp only [reduceCtorEq, Nat.reduceEqDiff, ak, mapN, mapN1, fwd, fwdR, fwd1, fwdQ, fwdP, isAt, inR, strip, reR, reP]) (by simp [bkOk]) (mrgL_whole (new' := [.ref (.arg 1) [] o1 l0_0.length, .sc (.int .i64 t9.2.1), .sc (.int .u64 t9.2.2)]) (mrgL_fz (mrgL_nil' _ _ _) rfl (by first | rfl | simp only [reduceCtorEq, Nat.reduceEqDiff, ak, g5, g8]) rfl (by intro R hR hh; cases hR; cases hh.2)) rfl (by rfl) (.inl ⟨rfl, by first | rfl | simp only [reduceCtorEq, Nat.reduceEqDiff, ak, mapN, mapN1, bwd, bwdR, upP, shOf, akG, reR, reP, Nat.zero_add, List.append_nil]⟩)) (by first | rfl | simp only [reduceCtorEq, Nat.reduceEqDiff, ak, mapN, mapN1, bwd, bwdR, upP, shOf, akG, reR, reP, Nat.zero_add, List.append_nil]) (by first | rfl | simp only [reduceCtorEq, Nat.reduceEqDiff, ak, mapN, mapN1, bwd, bwdR, upP, shOf, akG, reR, reP, Nat.zero_add, List.append_nil]) ?_
  simp only [Nat.reduceEqDiff, Nat.reduceAdd, Nat.reduceMul, Nat.reduceLeDiff, Nat.reduceLT, Int.reduceLE, Int.reduceLT, Int.reduceGT, Int.reduceGE, Int.reduceEq, Int.reduceNe, Int.reduceToNat, reduceCtorEq, ak]
  refine hJ2 _ ?_
  obtain rfl := Option.some.inj h
  refine hKr _ ⟨_, rfl, [], _, rfl, rfl, ?_⟩
  first | rfl | (simp only [reduceCtorEq, Nat.reduceEqDiff, ak, akG, mapN, mapN1, fwd, fwdR, fwd1, fwdQ, fwdP, isAt, inR, shOf, strip, reR, reP, outPl, argPl, resPl]; done) | (simp [reduceCtorEq, Nat.reduceEqDiff, ak, akG, mapN, mapN1, fwd, fwdR, fwd1, fwdQ, fwdP, isAt, inR, shOf, strip, reR, reP, outPl, argPl, resPl]; done)
/-! ### spec.DrawSerialDistance: function 25 -/
def c25 : AC := .seq (.reg [.op none (.mv 2 (.const (.int .u32 0))), .op none (.mv 3 (.const (.int .u32 0))), .keep [0]]) (.seq (.reg [.op none (.mv 8 (.tmp 0)), .call none (some 9) 52 [.tmp 8], .op none (.alloc 4 [.slice none 0 0, .int .i64 0, .int .u64 0]), .op none (.store 3 (.tmp 4) (.tmp 9)), .keep [4]]) (.seq (.reg [.call none (some 10) 53 [.tmp 4], .op none (.conv 11 .u32 (.tmp 10)), .op none (.mv 5 (.tmp 11)), .keep [4, 5]]) (.seq (.reg [.call none (some 12) 54 [.tmp 4, .const (.int .i64 6)], .op none (.mv 6 (.tmp 12)), .keep [4, 5, 6]]) (.seq (.reg [.call none (some 13) 54 [.tmp 4, .const (.int .i64 7)], .op none (.conv 14 .u32 (.tmp 13)), .op none (.bin 15 .sub (.tmp 14) (.const (.int .u32 3))), .op none (.mv 7 (.tmp 15)), .keep [4, 5, 6, 7]]) (.seq (.seq (.reg [.op none (.mv 16 (.tmp 6)), .op none (.bin 17 .eql (.tmp 16) (.const (.int .i64 0))), .keep [4, 5, 6, 7, 17]]) (.cond (.tmp 17) (.seq (.reg [.op none (.mv 18 (.tmp 5)), .op none (.mv 19 (.tmp 5)), .op none (.mv 20 (.tmp 7)), .op none (.bin 21 .add (.tmp 19) (.tmp 20)), .op none (.mv 2 (.tmp 18)), .op none (.mv 3 (.tmp 21)), .keep [2, 3]]) (.ret)) (.skip))) (.seq (.seq (.reg [.op none (.mv 22 (.tmp 6)), .op none (.bin 23 .eql (.tmp 22) (.const (.int .i64 1))), .keep [4, 5, 6, 7, 23]]) (.cond (.tmp 23) (.seq (.reg [.op none (.mv 24 (.tmp 5)), .op none (.mv 25 (.tmp 5)), .op none (.bin 26 .add (.tmp 25) (.const (.int .u32 2147483648))), .op none (.mv 27 (.tmp 7)), .op none (.bin 28 .add (.tmp 26) (.tmp 27)), .op none (.mv 2 (.tmp 24)), .op none (.mv 3 (.tmp 28)), .keep [2, 3]]) (.ret)) (.skip))) (.seq (.seq (.reg [.op none (.mv 29 (.tmp 6)), .op none (.bin 30 .eql (.tmp 29) (.const (.int .i64 2))), .keep [4, 5, 30]]) (.cond (.tmp 30) (.seq (.reg [.call none (some 31) 54 [.tmp 4, .const (.int .i64 3)], .op none (.conv 32 .u32 (.tmp 31)), .op none (.bin 33 .sub (.const (.int .u32 4294967295)) (.tmp 32)), .call none (some 34) 54 [.tmp 4, .const (.int .i64 3)], .op none (.conv 35 .u32 (.tmp 34)), .op none (.mv 2 (.tmp 33)), .op none (.mv 3 (.tmp 35)), .keep [2, 3]]) (.ret)) (.skip))) (.seq (.reg [.op none (.mv 36 (.tmp 5)), .call none (some 37) 53 [.tmp 4], .op none (.conv 38 .u32 (.tmp 37)), .op none (.mv 2 (.tmp 36)), .op none (.mv 3 (.tmp 38)), .keep [2, 3]]) (.ret)))))))))
def r25 : List RV := [.tmp 2, .tmp 3]
theorem k25 : compC Try.prog 39 (Try.f25.body.getD .skip) = some c25.erase := by kernel_rfl
theorem q25 : rvsOf Try.prog Try.f25.results.toList = some r25 := by kernel_rfl
def spec_DrawSerialDistance.f (l0 : List Int) : Option (Int × Int) := (spec_l1Begin.f l0 >>= fun t3 => (spec_l1Word.f l0 t3.1 t3.2 >>= fun t6 => (spec_l1Next.f l0 t6.2.1 t6.2.2 6 >>= fun t9 => (spec_l1Next.f l0 t9.2.1 t9.2.2 7 >>= fun t12 => (if t9.1 = 0 then (some (IntKind.u32.wrap t6.1, IntKind.u32.wrap ((IntKind.u32.wrap t6.1) + (IntKind.u32.wrap ((IntKind.u32.wrap t12.1) - 3))))) else (if t9.1 = 1 then (some (IntKind.u32.wrap t6.1, IntKind.u32.wrap ((IntKind.u32.wrap ((IntKind.u32.wrap t6.1) + 2147483648)) + (IntKind.u32.wrap ((IntKind.u32.wrap t12.1) - 3))))) else (if t9.1 = 2 then (spec_l1Next.f l0 t12.2.1 t12.2.2 3 >>= fun t26 => (spec_l1Next.f l0 t26.2.1 t26.2.2 3 >>= fun t28 => (some (IntKind.u32.wrap (4294967295 - (IntKind.u32.wrap t26.1)), IntKind.u32.wrap t28.1)))) else (spec_l1Word.f l0 t12.2.1 t12.2.2 >>= fun t31 => (some (IntKind.u32.wrap t6.1, IntKind.u32.wrap t31.1))))))))))
set_option maxRecDepth 100000 in
set_option maxHeartbeats 4000000 in
theorem spec_DrawSerialDistance.tri (cs0 : List Cell) (o0 : Nat) (l0 : List Int) (hv0 : Vw c_u8 1 cs0 o0 l0) (r : Int × Int) (h : spec_DrawSerialDistance.f l0 = some r) : Tri Try.prog 25 [.c (.ref (.arg 0) [] o0 l0.length)] [(.arg 0, ⟨.fz, 1, cs0⟩)] (fun o => o = ⟨.tup [(false, [.sc (.int .u32 r.1)]), (false, [.sc (.int .u32 r.2)])], [(.arg 0, ⟨.fz, 1, cs0⟩)], [], []⟩) := by
  refine tri_of_body (ac := c25) (xs := r25) Try.func25 (show Try.f25.body = some (Try.f25.body.getD .skip) from rfl) k25 q25 (Nat.le_of_ble_eq_true rfl) ?_
  refine body_of fun K hKn hKr => ?_
  unfold spec_DrawSerialDistance.f at h
  unfold c25
  simp only [initT, Nat.reduceAdd]
  refine seq_k fun J1 hJ1 => ?_
  refine reg_k ?_
  simp only [Nat.reduceEqDiff, Nat.reduceAdd, Nat.reduceMul, Nat.reduceLeDiff, Nat.reduceLT, Int.reduceLE, Int.reduceLT, Int.reduceGT, Int.reduceGE, Int.reduceEq, Int.reduceNe, Int.reduceToNat, reduceCtorEq, ak]
  refine hJ1 _ ?_
  refine seq_k fun J2 hJ2 => ?_
  refine reg_k ?_
  simp only [Nat.reduceEqDiff, Nat.reduceAdd, Nat.reduceMul, Nat.reduceLeDiff, Nat.reduceLT, Int.reduceLE, Int.reduceLT, Int.reduceGT, Int.reduceGE, Int.reduceEq, Int.reduceNe, Int.reduceToNat, reduceCtorEq, ak]
  obtain ⟨t3, h4, h⟩ := of_bind h
  refine call_k [(.arg 0, ⟨(.arg 0), [], none, .fz⟩)] (s0 := [(.arg 0, ⟨.fz, 1, cs0⟩)]) (s4 := [(.arg 0, ⟨.fz, 1, cs0⟩)]) (v' := .g [.ref (.arg 0) [] o0 l0.length, .sc (.int .i64 t3.1), .sc (.int .u64 t3.2)]) (by intro t ht; cases ht; decide) rfl rfl (by first | rfl | simp only [reduceCtorEq, Nat.reduceEqDiff, ak, foc, focL, focR, fits, seg, mapN, mapN1, fwd, fwdR, fwd1, fwdQ, fwdP, isAt, inR, strip, reR, reP]) (spec_l1Begin.tri (cs0) o0 l0 hv0 _ h4) (by first | rfl | simp only [reduceCtorEq, Nat.reduceEqDiff, ak, mapN, mapN1, fwd, fwdR, fwd1, fwdQ, fwdP, isAt, inR, strip, reR, reP]) (by simp [bkOk]) (mrgL_fz (mrgL_nil' _ _ _) rfl (by first | rfl | simp only [reduceCtorEq, Nat.reduceEqDiff, ak]) rfl (by intro R hR hh; cases hR; cases hh.2)) (by first | rfl | simp only [reduceCtorEq, Nat.reduceEqDiff, ak, mapN, mapN1, bwd, bwdR, upP, shOf, akG, reR, reP, Nat.zero_add, List.append_nil]) (by first | rfl | simp only [reduceCtorEq, Nat.reduceEqDiff, ak, mapN, mapN1, bwd, bwdR, upP, shOf, akG, reR, reP, Nat.zero_add, List.append_nil]) ?_
  simp only [Nat.reduceEqDiff, Nat.reduceAdd, Nat.reduceMul, Nat.reduceLeDiff, Nat.reduceLT, Int.reduceLE, Int.reduceLT, Int.reduceGT, Int.reduceGE, Int.reduceEq, Int.reduceNe, Int.reduceToNat, reduceCtorEq, ak]
  refine hJ2 _ ?_
  refine seq_k fun J5 hJ5 => ?_
  refine reg_k ?_
  simp only [Nat.reduceEqDiff, Nat.reduceAdd, Nat.reduceMul, Nat.reduceLeDiff, Nat.reduceLT, Int.reduceLE, Int.reduceLT, Int.reduceGT, Int.reduceGE, Int.reduceEq, Int.reduceNe, Int.reduceToNat, reduceCtorEq, ak]
  obtain ⟨t6, h7, h⟩ := of_bind h
  refine call_k [(.arg 0, ⟨(.tmp 4 0), [], none, .box⟩), (.arg 1, ⟨(.arg 0), [], none, .fz⟩)] (s0 := [(.arg 0, ⟨.box, 0, [.ref (.arg 1) [] o0 l0.length, .sc (.int .i64 t3.1), .sc (.int .u64 t3.2)]⟩), (.arg 1, ⟨.fz, 1, cs0⟩)]) (s4 := [(.arg 0, ⟨.fz, 1, cs0⟩), (.tmp 4 0, ⟨.box, 0, [.ref (.arg 0) [] o0 l0.length, .sc (.int .i64 t6.2.1), .sc (.int .u64 t6.2.2)]⟩)]) (v' := .c (.sc (.int .u64 t6.1))) (by intro t ht; cases ht; decide) rfl rfl (by first | rfl | simp only [reduceCtorEq, Nat.reduceEqDiff, ak, foc, focL, focR, fits, seg, mapN, mapN1, fwd, fwdR, fwd1, fwdQ, fwdP, isAt, inR, strip, reR, reP]) (spec_l1Word.tri (cs0) o0 l0 hv0 t3.1 t3.2 _ h7) (by first | rfl | simp only [reduceCtorEq, Nat.reduceEqDiff, ak, mapN, mapN1, fwd, fwdR, fwd1, fwdQ, fwdP, isAt, inR, strip, reR, reP]) (by simp [bkOk]) (mrgL_whole (new' := [.ref (.arg 0) [] o0 l0.length, .sc (.int .i64 t6.2.1), .sc (.int .u64 t6.2.2)]) (mrgL_fz (mrgL_nil' _ _ _) rfl (by first | rfl | simp only [reduceCtorEq, Nat.reduceEqDiff, ak]) rfl (by intro R hR hh; cases hR; cases hh.2)) rfl (by rfl) (.inl ⟨rfl, by first | rfl | simp only [reduceCtorEq, Nat.reduceEqDiff, ak, mapN, mapN1, bwd, bwdR, upP, shOf, akG, reR, reP, Nat.zero_add, List.append_nil]⟩)) (by first | rfl | simp only [reduceCtorEq, Nat.reduceEqDiff, ak, mapN, mapN1, bwd, bwdR, upP, shOf, akG, reR, reP, Nat.zero_add, List.append_nil]) (by first | rfl | simp only [reduceCtorEq, Nat.reduceEqDiff, ak, mapN, mapN1, bwd, bwdR, upP, shOf, akG, reR, reP, Nat.zero_add, List.append_nil]) ?_
  simp only [Nat.reduceEqDiff, Nat.reduceAdd, Nat.reduceMul, Nat.reduceLeDiff, Nat.reduceLT, Int.reduceLE, Int.reduceLT, Int.reduceGT, Int.reduceGE, Int.reduceEq, Int.reduceNe, Int.reduceToNat, reduceCtorEq, ak]
  refine hJ5 _ ?_
  refine seq_k fun J8 hJ8 => ?_
  refine reg_k ?_
  simp only [Nat.reduceEqDiff, Nat.reduceAdd, Nat.reduceMul, Nat.reduceLeDiff, Nat.reduceLT, Int.reduceLE, Int.reduceLT, Int.reduceGT, Int.reduceGE, Int.reduceEq, Int.reduceNe, Int.reduceToNat, reduceCtorEq, ak]
  obtain ⟨t9, h10, h⟩ := of_bind h
  refine call_k [(.arg 0, ⟨(.tmp 4 0), [], none, .box⟩), (.arg 1, ⟨(.arg 0), [], none, .fz⟩)] (s0 := [(.arg 0, ⟨.box, 0, [.ref (.arg 1) [] o0 l0.length, .sc (.int .i64 t6.2.1), .sc (.int .u64 t6.2.2)]⟩), (.arg 1, ⟨.fz, 1, cs0⟩)]) (s4 := [(.arg 0, ⟨.fz, 1, cs0⟩), (.tmp 4 0, ⟨.box, 0, [.ref (.arg 0) [] o0 l0.length, .sc (.int .i64 t9.2.1), .sc (.int .u64 t9.2.2)]⟩)]) (v' := .c (.sc (.int .i64 t9.1))) (by intro t ht; cases ht; decide) rfl rfl (by first | rfl | simp only [reduceCtorEq, Nat.reduceEqDiff, ak, foc, focL, focR, fits, seg, mapN, mapN1, fwd, fwdR, fwd1, fwdQ, fwdP, isAt, inR, strip, reR, reP]) (spec_l1Next.tri (cs0) o0 l0 hv0 t6.2.1 t6.2.2 6 _ h10) (by first | rfl | simp only [reduceCtorEq, Nat.reduceEqDiff, ak, mapN, mapN1, fwd, fwdR, fwd1, fwdQ, fwdP, isAt, inR, strip, reR, reP]) (by simp [bkOk]) (mrgL_whole (new' := [.ref (.arg 0) [] o0 l0.length, .sc (.int .i64 t9.2.1), .sc (.int .u64 t9.2.2)]) (mrgL_fz (mrgL_nil' _ _ _) rfl (by first | rfl | simp only [reduceCtorEq, Nat.reduceEqDiff, ak]) rfl (by intro R hR hh; cases hR; cases hh.2)) rfl (by rfl) (.inl ⟨rfl, by first | rfl | simp only [reduceCtorEq, Nat.reduceEqDiff, ak, mapN, mapN1, bwd, bwdR, upP, shOf, akG, reR, reP, Nat.zero_add, List.append_nil]⟩)) (by first | rfl | simp only [reduceCtorEq, Nat.reduceEqDiff, ak, mapN, mapN1, bwd, bwdR, upP, shOf, akG, reR, reP, Nat.zero_add, List.append_nil]) (by first | rfl | simp only [reduceCtorEq, Nat.reduceEqDiff, ak, mapN, mapN1, bwd, bwdR, upP, shOf, akG, reR, reP, Nat.zero_add, List.append_nil]) ?_
  simp only [Nat.reduceEqDiff, Nat.reduceAdd, Nat.reduceMul, Nat.reduceLeDiff, Nat.reduceLT, Int.reduceLE, Int.reduceLT, Int.reduceGT, Int.reduceGE, Int.reduceEq, Int.reduceNe, Int.reduceToNat, reduceCtorEq, ak]
  refine hJ8 _ ?_
  refine seq_k fun J11 hJ11 => ?_
  refine reg_k ?_
  simp only [Nat.reduceEqDiff, Nat.reduceAdd, Nat.reduceMul, Nat.reduceLeDiff, Nat.reduceLT, Int.reduceLE, Int.reduceLT, Int.reduceGT, Int.reduceGE, Int.reduceEq, Int.reduceNe, Int.reduceToNat, reduceCtorEq, ak]
  obtain ⟨t12, h13, h⟩ := of_bind h
  refine call_k [(.arg 0, ⟨(.tmp 4 0), [], none, .box⟩), (.arg 1, ⟨(.arg 0), [], none, .fz⟩)] (s0 := [(.arg 0, ⟨.box, 0, [.ref (.arg 1) [] o0 l0.length, .sc (.int .i64 t9.2.1), .sc (.int .u64 t9.2.2)]⟩), (.arg 1, ⟨.fz, 1, cs0⟩)]) (s4 := [(.arg 0, ⟨.fz, 1, cs0⟩), (.tmp 4 0, ⟨.box, 0, [.ref (.arg 0) [] o0 l0.length, .sc (.int .i64 t12.2.1), .sc (.int .u64 t12.2.2)]⟩)]) (v' := .c (.sc (.int .i64 t12.1))) (by intro t ht; cases ht; decide) rfl rfl (by first | rfl | simp only [reduceCtorEq, Nat.reduceEqDiff, ak, foc, focL, focR, fits, seg, mapN, mapN1, fwd, fwdR, fwd1, fwdQ, fwdP, isAt, inR, strip, reR, reP]) (spec_l1Next.tri (cs0) o0 l0 hv0 t9.2.1 t9.2.2 7 _ h13) (by first | rfl | simp only [reduceCtorEq, Nat.reduceEqDiff, ak, mapN, mapN1, fwd, fwdR, fwd1, fwdQ, fwdP, isAt, inR, strip, reR, reP]) (by simp [bkOk]) (mrgL_whole (new' := [.ref (.arg 0) [] o0 l0.length, .sc (.int .i64 t12.2.1), .sc (.int .u64 t12.2.2)]) (mrgL_fz (mrgL_nil' _ _ _) rfl (by first | rfl | simp only [reduceCtorEq, Nat.reduceEqDiff, ak]) rfl (by intro R hR hh; cases hR; cases hh.2)) rfl (by rfl) (.inl ⟨rfl, by first | rfl | simp only [reduceCtorEq, Nat.reduceEqDiff, ak, mapN, mapN1, bwd, bwdR, upP, shOf, akG, reR, reP, Nat.zero_add, List.append_nil]⟩)) (by first | rfl | simp only [reduceCtorEq, Nat.reduceEqDiff, ak, mapN, mapN1, bwd, bwdR, upP, shOf, akG, reR, reP, Nat.zero_add, List.append_nil]) (by first | rfl | simp only [reduceCtorEq, Nat.reduceEqDiff, ak, mapN, mapN1, bwd, bwdR, upP, shOf, akG, reR, reP, Nat.zero_add, List.append_nil]) ?_
  simp only [Nat.reduceEqDiff, Nat.reduceAdd, Nat.reduceMul, Nat.reduceLeDiff, Nat.reduceLT, Int.reduceLE, Int.reduceLT, Int.reduceGT, Int.reduceGE, Int.reduceEq, Int.reduceNe, Int.reduceToNat, reduceCtorEq, ak]
  refine hJ11 _ ?_
  refine seq_k fun J14 hJ14 => ?_
  refine seq_k fun J15 hJ15 => ?_
  refine reg_k ?_
  simp only [Nat.reduceEqDiff, Nat.reduceAdd, Nat.reduceMul, Nat.reduceLeDiff, Nat.reduceLT, Int.reduceLE, Int.reduceLT, Int.reduceGT, Int.reduceGE, Int.reduceEq, Int.reduceNe, Int.reduceToNat, reduceCtorEq, ak]
  refine hJ15 _ ?_
  refine cond_k (b := decide (t9.1 = 0)) rfl (fun c16 => ?_) (fun c16 => ?_)
  · replace c16 := of_decide_eq_true c16; rw [if_pos c16] at h
    refine seq_k fun J17 hJ17 => ?_
    refine reg_k ?_
    simp only [Nat.reduceEqDiff, Nat.reduceAdd, Nat.reduceMul, Nat.reduceLeDiff, Nat.reduceLT, Int.reduceLE, Int.reduceLT, Int.reduceGT, Int.reduceGE, Int.reduceEq, Int.reduceNe, Int.reduceToNat, reduceCtorEq, ak]
    refine hJ17 _ ?_
    obtain rfl := Option.some.inj h
    refine hKr _ ⟨_, rfl, [], _, rfl, rfl, ?_⟩
    first | rfl | (simp only [reduceCtorEq, Nat.reduceEqDiff, ak, akG, mapN, mapN1, fwd, fwdR, fwd1, fwdQ, fwdP, isAt, inR, shOf, strip, reR, reP, outPl, argPl, resPl]; done) | (simp [reduceCtorEq, Nat.reduceEqDiff, ak, akG, mapN, mapN1, fwd, fwdR, fwd1, fwdQ, fwdP, isAt, inR, shOf, strip, reR, reP, outPl, argPl, resPl]; done)
  · replace c16 := of_decide_eq_false c16; rw [if_neg c16] at h
    refine hJ14 _ ?_
    refine seq_k fun J18 hJ18 => ?_
    refine seq_k fun J19 hJ19 => ?_
    refine reg_k ?_
    simp only [Nat.reduceEqDiff, Nat.reduceAdd, Nat.reduceMul, Nat.reduceLeDiff, Nat.reduceLT, Int.reduceLE, Int.reduceLT, Int.reduceGT, Int.reduceGE, Int.reduceEq, Int.reduceNe, Int.reduceToNat, reduceCtorEq, ak]
    refine hJ19 _ ?_
    refine cond_k (b := decide (t9.1 = 1)) rfl (fun c20 => ?_) (fun c20 => ?_)
    · replace c20 := of_decide_eq_true c20; rw [if_pos c20] at h
      refine seq_k fun J21 hJ21 => ?_
      refine reg_k ?_
      simp only [Nat.reduceEqDiff, Nat.reduceAdd, Nat.reduceMul, Nat.reduceLeDiff, Nat.reduceLT, Int.reduceLE, Int.reduceLT, Int.reduceGT, Int.reduceGE, Int.reduceEq, Int.reduceNe, Int.reduceToNat, reduceCtorEq, ak]
      refine hJ21 _ ?_
      obtain rfl := Option.some.inj h
      refine hKr _ ⟨_, rfl, [], _, rfl, rfl, ?_⟩
      first | rfl | (simp only [reduceCtorEq, Nat.reduceEqDiff, ak, akG, mapN, mapN1, fwd, fwdR, fwd1, fwdQ, fwdP, isAt, inR, shOf, strip, reR, reP, outPl, argPl, resPl]; done) | (simp [reduceCtorEq, Nat.reduceEqDiff, ak, akG, mapN, mapN1, fwd, fwdR, fwd1, fwdQ, fwdP, isAt, inR, shOf, strip, reR, reP, outPl, argPl, resPl]; done)
    · replace c20 := of_decide_eq_false c20; rw [if_neg c20] at h
      refine hJ18 _ ?_
      refine seq_k fun J22 hJ22 => ?_
      refine seq_k fun J23 hJ23 => ?_
      refine reg_k ?_
      simp only [Nat.reduceEqDiff, Nat.reduceAdd, Nat.reduceMul, Nat.reduceLeDiff, Nat.reduceLT, Int.reduceLE, Int.reduceLT, Int.reduceGT, Int.reduceGE, Int.reduceEq, Int.reduceNe, Int.reduceToNat, reduceCtorEq, ak]
      refine hJ23 _ ?_
      refine cond_k (b := decide (t9.1 = 2)) rfl (fun c24 => ?_) (fun c24 => ?_)
      · replace c24 := of_decide_eq_true c24; rw [if_pos c24] at h
        refine seq_k fun J25 hJ25 => ?_
        refine reg_k ?_
        simp only [Nat.reduceEqDiff, Nat.reduceAdd, Nat.reduceMul, Nat.reduceLeDiff, Nat.reduceLT, Int.reduceLE, Int.reduceLT, Int.reduceGT, Int.reduceGE, Int.reduceEq, Int.reduceNe, Int.reduceToNat, reduceCtorEq, ak]
        obtain ⟨t26, h27, h⟩ := of_bind h
        refine call_k [(.arg 0, ⟨(.tmp 4 0), [], none, .box⟩), (.arg 1, ⟨(.arg 0), [], none, .fz⟩)] (s0 := [(.arg 0, ⟨.box, 0, [.ref (.arg 1) [] o0 l0.length, .sc (.int .i64 t12.2.1), .sc (.int .u64 t12.2.2)]⟩), (.arg 1, ⟨.fz, 1, cs0⟩)]) (s4 := [(.arg 0, ⟨.fz, 1, cs0⟩), (.tmp 4 0, ⟨.box, 0, [.ref (.arg 0) [] o0 l0.length, .sc (.int .i64 t26.2.1), .sc (.int .u64 t26.2.2)]⟩)]) (v' := .c (.sc (.int .i64 t26.1))) (by intro t ht; cases ht; decide) rfl rfl (by first | rfl | simp only [reduceCtorEq, Nat.reduceEqDiff, ak, foc, focL, focR, fits, seg, mapN, mapN1, fwd, fwdR, fwd1, fwdQ, fwdP, isAt, inR, strip, reR, reP]) (spec_l1Next.tri (cs0) o0 l0 hv0 t12.2.1 t12.2.2 3 _ h27) (by first | rfl | simp only [reduceCtorEq, Nat.reduceEqDiff, ak, mapN, mapN1, fwd, fwdR, fwd1, fwdQ, fwdP, isAt, inR, strip, reR, reP]) (by simp [bkOk]) (mrgL_whole (new' := [.ref (.arg 0) [] o0 l0.length, .sc (.int .i64 t26.2.1), .sc (.int .u64 t26.2.2)]) (mrgL_fz (mrgL_nil' _ _ _) rfl (by first | rfl | simp only [reduceCtorEq, Nat.reduceEqDiff, ak]) rfl (by intro R hR hh; cases hR; cases hh.2)) rfl (by rfl) (.inl ⟨rfl, by first | rfl | simp only [reduceCtorEq, Nat.reduceEqDiff, ak, mapN, mapN1, bwd, bwdR, upP, shOf, akG, reR, reP, Nat.zero_add, List.append_nil]⟩)) (by first | rfl | simp only [reduceCtorEq, Nat.reduceEqDiff, ak, mapN, mapN1, bwd, bwdR, upP, shOf, akG, reR, reP, Nat.zero_add, List.append_nil]) (by first | rfl | simp only [reduceCtorEq, Nat.reduceEqDiff, ak, mapN, mapN1, bwd, bwdR, upP, shOf, akG, reR, reP, Nat.zero_add, List.append_nil]) ?_
        simp only [Nat.reduceEqDiff, Nat.reduceAdd, Nat.reduceMul, Nat.reduceLeDiff, Nat.reduceLT, Int.reduceLE, Int.reduceLT, Int.reduceGT, Int.reduceGE, Int.reduceEq, Int.reduceNe, Int.reduceToNat, reduceCtorEq, ak]
        obtain ⟨t28, h29, h⟩ := of_bind h
        refine call_k [(.arg 0, ⟨(.tmp 4 0), [], none, .box⟩), (.arg 1, ⟨(.arg 0), [], none, .fz⟩)] (s0 := [(.arg 0, ⟨.box, 0, [.ref (.arg 1) [] o0 l0.length, .sc (.int .i64 t26.2.1), .sc (.int .u64 t26.2.2)]⟩), (.arg 1, ⟨.fz, 1, cs0⟩)]) (s4 := [(.arg 0, ⟨.fz, 1, cs0⟩), (.tmp 4 0, ⟨.box, 0, [.ref (.arg 0) [] o0 l0.length, .sc (.int .i64 t28.2.1), .sc (.int .u64 t28.2.2)]⟩)]) (v' := .c (.sc (.int .i64 t28.1))) (by intro t ht; cases ht; decide) rfl rfl (by first | rfl | simp only [reduceCtorEq, Nat.reduceEqDiff, ak, foc, focL, focR, fits, seg, mapN, mapN1, fwd, fwdR, fwd1, fwdQ, fwdP, isAt, inR, strip, reR, reP]) (spec_l1Next.tri (cs0) o0 l0 hv0 t26.2.1 t26.2.2 3 _ h29) (by first | rfl | simp only [reduceCtorEq, Nat.reduceEqDiff, ak, mapN, mapN1, fwd, fwdR, fwd1, fwdQ, fwdP, isAt, inR, strip, reR, reP]) (by simp [bkOk]) (mrgL_whole (new' := [.ref (.arg 0) [] o0 l0.length, .sc (.int .i64 t28.2.1), .sc (.int .u64 t28.2.2)]) (mrgL_fz (mrgL_nil' _ _ _) rfl (by first | rfl | simp only [reduceCtorEq, Nat.reduceEqDiff, ak]) rfl (by intro R hR hh; cases hR; cases hh.2)) rfl (by rfl) (.inl ⟨rfl, by first | rfl | simp only [reduceCtorEq, Nat.reduceEqDiff, ak, mapN, mapN1, bwd, bwdR, upP, shOf, akG, reR, reP, Nat.zero_add, List.append_nil]⟩)) (by first | rfl | simp only [reduceCtorEq, Nat.reduceEqDiff, ak, mapN, mapN1, bwd, bwdR, upP, shOf, akG, reR, reP, Nat.zero_add, List.append_nil]) (by first | rfl | simp only [reduceCtorEq, Nat.reduceEqDiff, ak, mapN, mapN1, bwd, bwdR, upP, shOf, akG, reR, reP, Nat.zero_add, List.append_nil]) ?_
        simp only [Nat.reduceEqDiff, Nat.reduceAdd, Nat.reduceMul, Nat.reduceLeDiff, Nat.reduceLT, Int.reduceLE, Int.reduceLT, Int.reduceGT, Int.reduceGE, Int.reduceEq, Int.reduceNe, Int.reduceToNat, reduceCtorEq, ak]
        refine hJ25 _ ?_
        obtain rfl := Option.some.inj h
        refine hKr _ ⟨_, rfl, [], _, rfl, rfl, ?_⟩
        first | rfl | (simp only [reduceCtorEq, Nat.reduceEqDiff, ak, akG, mapN, mapN1, fwd, fwdR, fwd1, fwdQ, fwdP, isAt, inR, shOf, strip, reR, reP, outPl, argPl, resPl]; done) | (simp [reduceCtorEq, Nat.reduceEqDiff, ak, akG, mapN, mapN1, fwd, fwdR, fwd1, fwdQ, fwdP, isAt, inR, shOf, strip, reR, reP, outPl, argPl, resPl]; done)
      · replace c24 := of_decide_eq_false c24; rw [if_neg c24] at h
        refine hJ22 _ ?_
        refine seq_k fun J30 hJ30 => ?_
        refine reg_k ?_
        simp only [Nat.reduceEqDiff, Nat.reduceAdd, Nat.reduceMul, Nat.reduceLeDiff, Nat.reduceLT, Int.reduceLE, Int.reduceLT, Int.reduceGT, Int.reduceGE, Int.reduceEq, Int.reduceNe, Int.reduceToNat, reduceCtorEq, ak]
        obtain ⟨t31, h32, h⟩ := of_bind h
        refine call_k [(.arg 0, ⟨(.tmp 4 0), [], none, .box⟩), (.arg 1, ⟨(.arg 0), [], none, .fz⟩)] (s0 := [(.arg 0, ⟨.box, 0, [.ref (.arg 1) [] o0 l0.length, .sc (.int .i64 t12.2.1), .sc (.int .u64 t12.2.2)]⟩), (.arg 1, ⟨.fz, 1, cs0⟩)]) (s4 := [(.arg 0, ⟨.fz, 1, cs0⟩), (.tmp 4 0, ⟨.box, 0, [.ref (.arg 0) [] o0 l0.length, .sc (.int .i64 t31.2.1), .sc (.int .u64 t31.2.2)]⟩)]) (v' := .c (.sc (.int .u64 t31.1))) (by intro t ht; cases ht; decide) rfl rfl (by first | rfl | simp only [reduceCtorEq, Nat.reduceEqDiff, ak, foc, focL, focR, fits, seg, mapN, mapN1, fwd, fwdR, fwd1, fwdQ, fwdP, isAt, inR, strip, reR, reP]) (spec_l1Word.tri (cs0) o0 l0 hv0 t12.2.1 t12.2.2 _ h32) (by first | rfl | simp only [reduceCtorEq, Nat.reduceEqDiff, ak, mapN, mapN1, fwd, fwdR, fwd1, fwdQ, fwdP, isAt, inR, strip, reR, reP]) (by simp [bkOk]) (mrgL_whole (new' := [.ref (.arg 0) [] o0 l0.length, .sc (.int .i64 t31.2.1), .sc (.int .u64 t31.2.2)]) (mrgL_fz (mrgL_nil' _ _ _) rfl (by first | rfl | simp only [reduceCtorEq, Nat.reduceEqDiff, ak]) rfl (by intro R hR hh; cases hR; cases hh.2)) rfl (by rfl) (.inl ⟨rfl, by first | rfl | simp only [reduceCtorEq, Nat.reduceEqDiff, ak, mapN, mapN1, bwd, bwdR, upP, shOf, akG, reR, reP, Nat.zero_add, List.append_nil]⟩)) (by first | rfl | simp only [reduceCtorEq, Nat.reduceEqDiff, ak, mapN, mapN1, bwd, bwdR, upP, shOf, akG, reR, reP, Nat.zero_add, List.append_nil]) (by first | rfl | simp only [reduceCtorEq, Nat.reduceEqDiff, ak, mapN, mapN1, bwd, bwdR, upP, shOf, akG, reR, reP, Nat.zero_add, List.append_nil]) ?_
        simp only [Nat.reduceEqDiff, Nat.reduceAdd, Nat.reduceMul, Nat.reduceLeDiff, Nat.reduceLT, Int.reduceLE, Int.reduceLT, Int.reduceGT, Int.reduceGE, Int.reduceEq, Int.reduceNe, Int.reduceToNat, reduceCtorEq, ak]
        refine hJ30 _ ?_
        obtain rfl := Option.some.inj h
        refine hKr _ ⟨_, rfl, [], _, rfl, rfl, ?_⟩
        first | rfl | (simp only [reduceCtorEq, Nat.reduceEqDiff, ak, akG, mapN, mapN1, fwd, fwdR, fwd1, fwdQ, fwdP, isAt, inR, shOf, strip, reR, reP, outPl, argPl, resPl]; done) | (simp [reduceCtorEq, Nat.reduceEqDiff, ak, akG, mapN, mapN1, fwd, fwdR, fwd1, fwdQ, fwdP, isAt, inR, shOf, strip, reR, reP, outPl, argPl, resPl]; done)
/-! ### impl.SerialDistance: function 16 -/
def c16 : AC := .seq (.reg [.op none (.mv 4 (.const (.int .i64 0))), .keep [0, 1]]) (.seq (.reg [.op none (.mv 5 (.tmp 1)), .op none (.mv 6 (.tmp 0)), .op none (.bin 7 .sub (.tmp 5) (.tmp 6)), .op none (.conv 8 .i32 (.tmp 7)), .op none (.conv 9 .i64 (.tmp 8)), .op none (.mv 4 (.tmp 9)), .keep [4]]) (.ret))
def r16 : List RV := [.tmp 4]
theorem k16 : compC Try.prog 10 (Try.f16.body.getD .skip) = some c16.erase := by kernel_rfl
theorem q16 : rvsOf Try.prog Try.f16.results.toList = some r16 := by kernel_rfl
def impl_SerialDistance.f (a0 : Int) (a1 : Int) : Option Int := (some (IntKind.i64.wrap (IntKind.i32.wrap (IntKind.u32.wrap (a1 - a0)))))
set_option maxRecDepth 100000 in
set_option maxHeartbeats 4000000 in
theorem impl_SerialDistance.tri (a0 : Int) (a1 : Int) (r : Int) (h : impl_SerialDistance.f a0 a1 = some r) : Tri Try.prog 16 [.c (.sc (.int .u32 a0)), .c (.sc (.int .u32 a1))] [] (fun o => o = ⟨.c (.sc (.int .i64 r)), [], [], []⟩) := by
  refine tri_of_body (ac := c16) (xs := r16) Try.func16 (show Try.f16.body = some (Try.f16.body.getD .skip) from rfl) k16 q16 (Nat.le_of_ble_eq_true rfl) ?_
  refine body_of fun K hKn hKr => ?_
  unfold impl_SerialDistance.f at h
  unfold c16
  simp only [initT, Nat.reduceAdd]
  refine seq_k fun J1 hJ1 => ?_
  refine reg_k ?_
  simp only [Nat.reduceEqDiff, Nat.reduceAdd, Nat.reduceMul, Nat.reduceLeDiff, Nat.reduceLT, Int.reduceLE, Int.reduceLT, Int.reduceGT, Int.reduceGE, Int.reduceEq, Int.reduceNe, Int.reduceToNat, reduceCtorEq, ak]
  refine hJ1 _ ?_
  refine seq_k fun J2 hJ2 => ?_
  refine reg_k ?_
  simp only [Nat.reduceEqDiff, Nat.reduceAdd, Nat.reduceMul, Nat.reduceLeDiff, Nat.reduceLT, Int.reduceLE, Int.reduceLT, Int.reduceGT, Int.reduceGE, Int.reduceEq, Int.reduceNe, Int.reduceToNat, reduceCtorEq, ak]
  refine hJ2 _ ?_
  obtain rfl := Option.some.inj h
  refine hKr _ ⟨_, rfl, [], _, rfl, rfl, ?_⟩
  first | rfl | (simp only [reduceCtorEq, Nat.reduceEqDiff, ak, akG, mapN, mapN1, fwd, fwdR, fwd1, fwdQ, fwdP, isAt, inR, shOf, strip, reR, reP, outPl, argPl, resPl]; done) | (simp [reduceCtorEq, Nat.reduceEqDiff, ak, akG, mapN, mapN1, fwd, fwdR, fwd1, fwdQ, fwdP, isAt, inR, shOf, strip, reR, reP, outPl, argPl, resPl]; done)
/-! ### impl.SerialLess: function 18 -/
def c18 : AC := .seq (.reg [.op none (.mv 4 (.const (.bool false))), .keep [0, 1]]) (.seq (.reg [.op none (.mv 5 (.tmp 0)), .op none (.mv 6 (.tmp 1)), .call none (some 7) 16 [.tmp 5, .tmp 6], .op none (.bin 8 .gtr (.tmp 7) (.const (.int .i64 0))), .op none (.mv 4 (.tmp 8)), .keep [4]]) (.ret))
def r18 : List RV := [.tmp 4]
theorem k18 : compC Try.prog 9 (Try.f18.body.getD .skip) = some c18.erase := by kernel_rfl
theorem q18 : rvsOf Try.prog Try.f18.results.toList = some r18 := by kernel_rfl
def impl_SerialLess.f (a0 : Int) (a1 : Int) : Option Bool := (impl_SerialDistance.f a0 a1 >>= fun t3 => (some (decide (t3 > 0))))
set_option maxRecDepth 100000 in
set_option maxHeartbeats 4000000 in
theorem impl_SerialLess.tri (a0 : Int) (a1 : Int) (r : Bool) (h : impl_SerialLess.f a0 a1 = some r) : Tri Try.prog 18 [.c (.sc (.int .u32 a0)), .c (.sc (.int .u32 a1))] [] (fun o => o = ⟨.c (.sc (.bool r)), [], [], []⟩) := by
  refine tri_of_body (ac := c18) (xs := r18) Try.func18 (show Try.f18.body = some (Try.f18.body.getD .skip) from rfl) k18 q18 (Nat.le_of_ble_eq_true rfl) ?_
  refine body_of fun K hKn hKr => ?_
  unfold impl_SerialLess.f at h
  unfold c18
  simp only [initT, Nat.reduceAdd]
  refine seq_k fun J1 hJ1 => ?_
  refine reg_k ?_
  simp only [Nat.reduceEqDiff, Nat.reduceAdd, Nat.reduceMul, Nat.reduceLeDiff, Nat.reduceLT, Int.reduceLE, Int.reduceLT, Int.reduceGT, Int.reduceGE, Int.reduceEq, Int.reduceNe, Int.reduceToNat, reduceCtorEq, ak]
  refine hJ1 _ ?_
  refine seq_k fun J2 hJ2 => ?_
  refine reg_k ?_
  simp only [Nat.reduceEqDiff, Nat.reduceAdd, Nat.reduceMul, Nat.reduceLeDiff, Nat.reduceLT, Int.reduceLE, Int.reduceLT, Int.reduceGT, Int.reduceGE, Int.reduceEq, Int.reduceNe, Int.reduceToNat, reduceCtorEq, ak]
  obtain ⟨t3, h4, h⟩ := of_bind h
  refine call_k [] (s0 := []) (s4 := []) (v' := .c (.sc (.int .i64 t3))) (by intro t ht; cases ht; decide) rfl rfl (by first | rfl | simp only [reduceCtorEq, Nat.reduceEqDiff, ak, foc, focL, focR, fits, seg, mapN, mapN1, fwd, fwdR, fwd1, fwdQ, fwdP, isAt, inR, strip, reR, reP]) (impl_SerialDistance.tri a0 a1 _ h4) (by first | rfl | simp only [reduceCtorEq, Nat.reduceEqDiff, ak, mapN, mapN1, fwd, fwdR, fwd1, fwdQ, fwdP, isAt, inR, strip, reR, reP]) (by simp [bkOk]) (mrgL_nil' _ _ _) (by first | rfl | simp only [reduceCtorEq, Nat.reduceEqDiff, ak, mapN, mapN1, bwd, bwdR, upP, shOf, akG, reR, reP, Nat.zero_add, List.append_nil]) (by first | rfl | simp only [reduceCtorEq, Nat.reduceEqDiff, ak, mapN, mapN1, bwd, bwdR, upP, shOf, akG, reR, reP, Nat.zero_add, List.append_nil]) ?_
  simp only [Nat.reduceEqDiff, Nat.reduceAdd, Nat.reduceMul, Nat.reduceLeDiff, Nat.reduceLT, Int.reduceLE, Int.reduceLT, Int.reduceGT, Int.reduceGE, Int.reduceEq, Int.reduceNe, Int.reduceToNat, reduceCtorEq, ak]
  refine hJ2 _ ?_
  obtain rfl := Option.some.inj h
  refine hKr _ ⟨_, rfl, [], _, rfl, rfl, ?_⟩
  first | rfl | (simp only [reduceCtorEq, Nat.reduceEqDiff, ak, akG, mapN, mapN1, fwd, fwdR, fwd1, fwdQ, fwdP, isAt, inR, shOf, strip, reR, reP, outPl, argPl, resPl]; done) | (simp [reduceCtorEq, Nat.reduceEqDiff, ak, akG, mapN, mapN1, fwd, fwdR, fwd1, fwdQ, fwdP, isAt, inR, shOf, strip, reR, reP, outPl, argPl, resPl]; done)
/-! ### spec.DrawLift: function 26 -/
def c26 : AC := .seq (.reg [.op none (.mv 2 (.const (.int .u64 0))), .op none (.mv 3 (.const (.int .u32 0))), .keep [0]]) (.seq (.reg [.op none (.mv 9 (.tmp 0)), .call none (some 10) 52 [.tmp 9], .op none (.alloc 4 [.slice none 0 0, .int .i64 0, .int .u64 0]), .op none (.store 3 (.tmp 4) (.tmp 10)), .keep [4]]) (.seq (.reg [.call none (some 11) 53 [.tmp 4], .call none (some 12) 54 [.tmp 4, .const (.int .i64 12)], .op none (.conv 13 .u64 (.tmp 12)), .op none (.bin 14 .shl (.tmp 11) (.tmp 13)), .op none (.mv 5 (.tmp 14)), .keep [4, 5]]) (.seq (.reg [.call none (some 15) 54 [.tmp 4, .const (.int .i64 8)], .op none (.mv 6 (.tmp 15)), .keep [4, 5, 6]]) (.seq (.ga (.seq (.reg [.op none (.mv 16 (.tmp 6)), .op none (.bin 17 .lss (.tmp 16) (.const (.int .i64 2))), .keep [4, 5, 6, 17]]) (.cond (.tmp 17) (.reg [.call none (some 18) 54 [.tmp 4, .const (.int .i64 2)], .op none (.conv 19 .u64 (.tmp 18)), .op none (.bin 20 .shl (.tmp 19) (.const (.int .u64 31))), .op none (.mv 5 (.tmp 20)), .keep [4, 5]]) (.seq (.reg [.op none (.mv 21 (.tmp 6)), .op none (.bin 22 .lss (.tmp 21) (.const (.int .i64 4))), .keep [4, 5, 6, 22]]) (.cond (.tmp 22) (.reg [.call none (some 23) 54 [.tmp 4, .const (.int .i64 2)], .op none (.conv 24 .u64 (.tmp 23)), .op none (.bin 25 .shl (.tmp 24) (.const (.int .u64 30))), .op none (.bin 26 .sub (.const (.int .u64 18446744073709551615)) (.tmp 25)), .op none (.mv 5 (.tmp 26)), .keep [4, 5]]) (.seq (.reg [.op none (.mv 27 (.tmp 6)), .op none (.bin 28 .eql (.tmp 27) (.const (.int .i64 4))), .keep [4, 5, 28]]) (.cond (.tmp 28) (.reg [.call none (some 29) 54 [.tmp 4, .const (.int .i64 5)], .op none (.conv 30 .u64 (.tmp 29)), .op none (.bin 31 .shl (.tmp 30) (.const (.int .u64 32))), .call none (some 32) 54 [.tmp 4, .const (.int .i64 3)], .op none (.conv 33 .u64 (.tmp 32)), .op none (.bin 34 .sub (.tmp 31) (.tmp 33)), .op none (.mv 5 (.tmp 34)), .keep [4, 5]]) (.skip)))))))) (.seq (.reg [.op none (.mv 35 (.tmp 5)), .op none (.conv 36 .u32 (.tmp 35)), .op none (.mv 7 (.tmp 36)), .keep [4, 5, 7]]) (.seq (.reg [.call none (some 37) 54 [.tmp 4, .const (.int .i64 4)], .op none (.mv 6 (.tmp 37)), .keep [4, 5, 6, 7]]) (.seq (.reg [.call none (some 38) 54 [.tmp 4, .const (.int .i64 9)], .op none (.conv 39 .u32 (.tmp 38)), .op none (.bin 40 .sub (.tmp 39) (.const (.int .u32 4))), .op none (.mv 8 (.tmp 40)), .keep [4, 5, 6, 7, 8]]) (.seq (.seq (.reg [.op none (.mv 41 (.tmp 6)), .op none (.bin 42 .eql (.tmp 41) (.const (.int .i64 0))), .keep [4, 5, 6, 7, 8, 42]]) (.cond (.tmp 42) (.seq (.reg [.op none (.mv 43 (.tmp 5)), .op none (.mv 44 (.tmp 7)), .op none (.mv 45 (.tmp 8)), .op none (.bin 46 .add (.tmp 44) (.tmp 45)), .op none (.mv 2 (.tmp 43)), .op none (.mv 3 (.tmp 46)), .keep [2, 3]]) (.ret)) (.skip))) (.seq (.seq (.reg [.op none (.mv 47 (.tmp 6)), .op none (.bin 48 .eql (.tmp 47) (.const (.int .i64 1))), .keep [4, 5, 7, 8, 48]]) (.cond (.tmp 48) (.seq (.reg [.op none (.mv 49 (.tmp 5)), .op none (.mv 50 (.tmp 7)), .op none (.bin 51 .add (.tmp 50) (.const (.int .u32 2147483648))), .op none (.mv 52 (.tmp 8)), .op none (.bin 53 .add (.tmp 51) (.tmp 52)), .op none (.mv 2 (.tmp 49)), .op none (.mv 3 (.tmp 53)), .keep [2, 3]]) (.ret)) (.skip))) (.seq (.reg [.op none (.mv 54 (.tmp 5)), .call none (some 55) 53 [.tmp 4], .op none (.conv 56 .u32 (.tmp 55)), .op none (.mv 2 (.tmp 54)), .op none (.mv 3 (.tmp 56)), .keep [2, 3]]) (.ret)))))))))))
def r26 : List RV := [.tmp 2, .tmp 3]
theorem k26 : compC Try.prog 57 (Try.f26.body.getD .skip) = some c26.erase := by kernel_rfl
theorem q26 : rvsOf Try.prog Try.f26.results.toList = some r26 := by kernel_rfl
def spec_DrawLift.f (l0 : List Int) : Option (Int × Int) := (spec_l1Begin.f l0 >>= fun t3 => (spec_l1Word.f l0 t3.1 t3.2 >>= fun t6 => (spec_l1Next.f l0 t6.2.1 t6.2.2 12 >>= fun t8 => (if ¬ IntKind.u64.wrap t8.1 < 0 then (spec_l1Next.f l0 t8.2.1 t8.2.2 8 >>= fun t13 => ((if t13.1 < 2 then (spec_l1Next.f l0 t13.2.1 t13.2.2 2 >>= fun t21 => (some (IntKind.u64.wrap ((IntKind.u64.wrap t21.1) * 2 ^ 31), t21.2.1, t21.2.2))) else (if t13.1 < 4 then (spec_l1Next.f l0 t13.2.1 t13.2.2 2 >>= fun t26 => (some (IntKind.u64.wrap (18446744073709551615 - (IntKind.u64.wrap ((IntKind.u64.wrap t26.1) * 2 ^ 30))), t26.2.1, t26.2.2))) else (if t13.1 = 4 then (spec_l1Next.f l0 t13.2.1 t13.2.2 5 >>= fun t31 => (spec_l1Next.f l0 t31.2.1 t31.2.2 3 >>= fun t34 => (some (IntKind.u64.wrap ((IntKind.u64.wrap ((IntKind.u64.wrap t31.1) * 2 ^ 32)) - (IntKind.u64.wrap t34.1)), t34.2.1, t34.2.2)))) else (some (IntKind.u64.wrap (t6.1 * 2 ^ (min (IntKind.u64.wrap t8.1).toNat 64)), t13.2.1, t13.2.2))))) >>= fun (j15 : Int × Int × Int) => (spec_l1Next.f l0 j15.2.1 j15.2.2 4 >>= fun t38 => (spec_l1Next.f l0 t38.2.1 t38.2.2 9 >>= fun t41 => (if t38.1 = 0 then (some (j15.1, IntKind.u32.wrap ((IntKind.u32.wrap j15.1) + (IntKind.u32.wrap ((IntKind.u32.wrap t41.1) - 4))))) else (if t38.1 = 1 then (some (j15.1, IntKind.u32.wrap ((IntKind.u32.wrap ((IntKind.u32.wrap j15.1) + 2147483648)) + (IntKind.u32.wrap ((IntKind.u32.wrap t41.1) - 4))))) else (spec_l1Word.f l0 t41.2.1 t41.2.2 >>= fun t52 => (some (j15.1, IntKind.u32.wrap t52.1))))))))) else none))))
set_option maxRecDepth 100000 in
set_option maxHeartbeats 4000000 in
theorem spec_DrawLift.tri (cs0 : List Cell) (o0 : Nat) (l0 : List Int) (hv0 : Vw c_u8 1 cs0 o0 l0) (r : Int × Int) (h : spec_DrawLift.f l0 = some r) : Tri Try.prog 26 [.c (.ref (.arg 0) [] o0 l0.length)] [(.arg 0, ⟨.fz, 1, cs0⟩)] (fun o => o = ⟨.tup [(false, [.sc (.int .u64 r.1)]), (false, [.sc (.int .u32 r.2)])], [(.arg 0, ⟨.fz, 1, cs0⟩)], [], []⟩) := by
  refine tri_of_body (ac := c26) (xs := r26) Try.func26 (show Try.f26.body = some (Try.f26.body.getD .skip) from rfl) k26 q26 (Nat.le_of_ble_eq_true rfl) ?_
  refine body_of fun K hKn hKr => ?_
  unfold spec_DrawLift.f at h
  unfold c26
  simp only [initT, Nat.reduceAdd]
  refine seq_k fun J1 hJ1 => ?_
  refine reg_k ?_
  simp only [Nat.reduceEqDiff, Nat.reduceAdd, Nat.reduceMul, Nat.reduceLeDiff, Nat.reduceLT, Int.reduceLE, Int.reduceLT, Int.reduceGT, Int.reduceGE, Int.reduceEq, Int.reduceNe, Int.reduceToNat, reduceCtorEq, ak]
  refine hJ1 _ ?_
  refine seq_k fun J2 hJ2 => ?_
  refine reg_k ?_
  simp only [Nat.reduceEqDiff, Nat.reduceAdd, Nat.reduceMul, Nat.reduceLeDiff, Nat.reduceLT, Int.reduceLE, Int.reduceLT, Int.reduceGT, Int.reduceGE, Int.reduceEq, Int.reduceNe, Int.reduceToNat, reduceCtorEq, ak]
  obtain ⟨t3, h4, h⟩ := of_bind h
  refine call_k [(.arg 0, ⟨(.arg 0), [], none, .fz⟩)] (s0 := [(.arg 0, ⟨.fz, 1, cs0⟩)]) (s4 := [(.arg 0, ⟨.fz, 1, cs0⟩)]) (v' := .g [.ref (.arg 0) [] o0 l0.length, .sc (.int .i64 t3.1), .sc (.int .u64 t3.2)]) (by intro t ht; cases ht; decide) rfl rfl (by first | rfl | simp only [reduceCtorEq, Nat.reduceEqDiff, ak, foc, focL, focR, fits, seg, mapN, mapN1, fwd, fwdR, fwd1, fwdQ, fwdP, isAt, inR, strip, reR, reP]) (spec_l1Begin.tri (cs0) o0 l0 hv0 _ h4) (by first | rfl | simp only [reduceCtorEq, Nat.reduceEqDiff, ak, mapN, mapN1, fwd, fwdR, fwd1, fwdQ, fwdP, isAt, inR, strip, reR, reP]) (by simp [bkOk]) (mrgL_fz (mrgL_nil' _ _ _) rfl (by first | rfl | simp only [reduceCtorEq, Nat.reduceEqDiff, ak]) rfl (by intro R hR hh; cases hR; cases hh.2)) (by first | rfl | simp only [reduceCtorEq, Nat.reduceEqDiff, ak, mapN, mapN1, bwd, bwdR, upP, shOf, akG, reR, reP, Nat.zero_add, List.append_nil]) (by first | rfl | simp only [reduceCtorEq, Nat.reduceEqDiff, ak, mapN, mapN1, bwd, bwdR, upP, shOf, akG, reR, reP, Nat.zero_add, List.append_nil]) ?_
  simp only [Nat.reduceEqDiff, Nat.reduceAdd, Nat.reduceMul, Nat.reduceLeDiff, Nat.reduceLT, Int.reduceLE, Int.reduceLT, Int.reduceGT, Int.reduceGE, Int.reduceEq, Int.reduceNe, Int.reduceToNat, reduceCtorEq, ak]
  refine hJ2 _ ?_
  refine seq_k fun J5 hJ5 => ?_
  refine reg_k ?_
  simp only [Nat.reduceEqDiff, Nat.reduceAdd, Nat.reduceMul, Nat.reduceLeDiff, Nat.reduceLT, Int.reduceLE, Int.reduceLT, Int.reduceGT, Int.reduceGE, Int.reduceEq, Int.reduceNe, Int.reduceToNat, reduceCtorEq, ak]
  obtain ⟨t6, h7, h⟩ := of_bind h
  refine call_k [(.arg 0, ⟨(.tmp 4 0), [], none, .box⟩), (.arg 1, ⟨(.arg 0), [], none, .fz⟩)] (s0 := [(.arg 0, ⟨.box, 0, [.ref (.arg 1) [] o0 l0.length, .sc (.int .i64 t3.1), .sc (.int .u64 t3.2)]⟩), (.arg 1, ⟨.fz, 1, cs0⟩)]) (s4 := [(.arg 0, ⟨.fz, 1, cs0⟩), (.tmp 4 0, ⟨.box, 0, [.ref (.arg 0) [] o0 l0.length, .sc (.int .i64 t6.2.1), .sc (.int .u64 t6.2.2)]⟩)]) (v' := .c (.sc (.int .u64 t6.1))) (by intro t ht; cases ht; decide) rfl rfl (by first | rfl | simp only [reduceCtorEq, Nat.reduceEqDiff, ak, foc, focL, focR, fits, seg, mapN, mapN1, fwd, fwdR, fwd1, fwdQ, fwdP, isAt, inR, strip, reR, reP]) (spec_l1Word.tri (cs0) o0 l0 hv0 t3.1 t3.2 _ h7) (by first | rfl | simp only [reduceCtorEq, Nat.reduceEqDiff, ak, mapN, mapN1, fwd, fwdR, fwd1, fwdQ, fwdP, isAt, inR, strip, reR, reP]) (by simp [bkOk]) (mrgL_whole (new' := [.ref (.arg 0) [] o0 l0.length, .sc (.int .i64 t6.2.1), .sc (.int .u64 t6.2.2)]) (mrgL_fz (mrgL_nil' _ _ _) rfl (by first | rfl | simp only [reduceCtorEq, Nat.reduceEqDiff, ak]) rfl (by intro R hR hh; cases hR; cases hh.2)) rfl (by rfl) (.inl ⟨rfl, by first | rfl | simp only [reduceCtorEq, Nat.reduceEqDiff, ak, mapN, mapN1, bwd, bwdR, upP, shOf, akG, reR, reP, Nat.zero_add, List.append_nil]⟩)) (by first | rfl | simp only [reduceCtorEq, Nat.reduceEqDiff, ak, mapN, mapN1, bwd, bwdR, upP, shOf, akG, reR, reP, Nat.zero_add, List.append_nil]) (by first | rfl | simp only [reduceCtorEq, Nat.reduceEqDiff, ak, mapN, mapN1, bwd, bwdR, upP, shOf, akG, reR, reP, Nat.zero_add, List.append_nil]) ?_
  simp only [Nat.reduceEqDiff, Nat.reduceAdd, Nat.reduceMul, Nat.reduceLeDiff, Nat.reduceLT, Int.reduceLE, Int.reduceLT, Int.reduceGT, Int.reduceGE, Int.reduceEq, Int.reduceNe, Int.reduceToNat, reduceCtorEq, ak]
  obtain ⟨t8, h9, h⟩ := of_bind h
  refine call_k [(.arg 0, ⟨(.tmp 4 0), [], none, .box⟩), (.arg 1, ⟨(.arg 0), [], none, .fz⟩)] (s0 := [(.arg 0, ⟨.box, 0, [.ref (.arg 1) [] o0 l0.length, .sc (.int .i64 t6.2.1), .sc (.int .u64 t6.2.2)]⟩), (.arg 1, ⟨.fz, 1, cs0⟩)]) (s4 := [(.arg 0, ⟨.fz, 1, cs0⟩), (.tmp 4 0, ⟨.box, 0, [.ref (.arg 0) [] o0 l0.length, .sc (.int .i64 t8.2.1), .sc (.int .u64 t8.2.2)]⟩)]) (v' := .c (.sc (.int .i64 t8.1))) (by intro t ht; cases ht; decide) rfl rfl (by first | rfl | simp only [reduceCtorEq, Nat.reduceEqDiff, ak, foc, focL, focR, fits, seg, mapN, mapN1, fwd, fwdR, fwd1, fwdQ, fwdP, isAt, inR, strip, reR, reP]) (spec_l1Next.tri (cs0) o0 l0 hv0 t6.2.1 t6.2.2 12 _ h9) (by first | rfl | simp only [reduceCtorEq, Nat.reduceEqDiff, ak, mapN, mapN1, fwd, fwdR, fwd1, fwdQ, fwdP, isAt, inR, strip, reR, reP]) (by simp [bkOk]) (mrgL_whole (new' := [.ref (.arg 0) [] o0 l0.length, .sc (.int .i64 t8.2.1), .sc (.int .u64 t8.2.2)]) (mrgL_fz (mrgL_nil' _ _ _) rfl (by first | rfl | simp only [reduceCtorEq, Nat.reduceEqDiff, ak]) rfl (by intro R hR hh; cases hR; cases hh.2)) rfl (by rfl) (.inl ⟨rfl, by first | rfl | simp only [reduceCtorEq, Nat.reduceEqDiff, ak, mapN, mapN1, bwd, bwdR, upP, shOf, akG, reR, reP, Nat.zero_add, List.append_nil]⟩)) (by first | rfl | simp only [reduceCtorEq, Nat.reduceEqDiff, ak, mapN, mapN1, bwd, bwdR, upP, shOf, akG, reR, reP, Nat.zero_add, List.append_nil]) (by first | rfl | simp only [reduceCtorEq, Nat.reduceEqDiff, ak, mapN, mapN1, bwd, bwdR, upP, shOf, akG, reR, reP, Nat.zero_add, List.append_nil]) ?_
  obtain ⟨b10, h⟩ := of_guard h
  have g11 : ∀ a, abin .shl (.int .u64 a) (.int .u64 (IntKind.u64.wrap t8.1)) = some (.int .u64 (IntKind.u64.wrap (a * 2 ^ (min (IntKind.u64.wrap t8.1).toNat 64)))) := fun a => akShl _ _ a _ b10
  simp only [Nat.reduceEqDiff, Nat.reduceAdd, Nat.reduceMul, Nat.reduceLeDiff, Nat.reduceLT, Int.reduceLE, Int.reduceLT, Int.reduceGT, Int.reduceGE, Int.reduceEq, Int.reduceNe, Int.reduceToNat, reduceCtorEq, ak, g11]
  refine hJ5 _ ?_
  refine seq_k fun J12 hJ12 => ?_
  refine reg_k ?_
  simp only [Nat.reduceEqDiff, Nat.reduceAdd, Nat.reduceMul, Nat.reduceLeDiff, Nat.reduceLT, Int.reduceLE, Int.reduceLT, Int.reduceGT, Int.reduceGE, Int.reduceEq, Int.reduceNe, Int.reduceToNat, reduceCtorEq, ak]
  obtain ⟨t13, h14, h⟩ := of_bind h
  refine call_k [(.arg 0, ⟨(.tmp 4 0), [], none, .box⟩), (.arg 1, ⟨(.arg 0), [], none, .fz⟩)] (s0 := [(.arg 0, ⟨.box, 0, [.ref (.arg 1) [] o0 l0.length, .sc (.int .i64 t8.2.1), .sc (.int .u64 t8.2.2)]⟩), (.arg 1, ⟨.fz, 1, cs0⟩)]) (s4 := [(.arg 0, ⟨.fz, 1, cs0⟩), (.tmp 4 0, ⟨.box, 0, [.ref (.arg 0) [] o0 l0.length, .sc (.int .i64 t13.2.1), .sc (.int .u64 t13.2.2)]⟩)]) (v' := .c (.sc (.int .i64 t13.1))) (by intro t ht; cases ht; decide) rfl rfl (by first | rfl | simp only [reduceCtorEq, Nat.reduceEqDiff, ak, foc, focL, focR, fits, seg, mapN, mapN1, fwd, fwdR, fwd1, fwdQ, fwdP, isAt, inR, strip, reR, reP, g11]) (spec_l1Next.tri (cs0) o0 l0 hv0 t8.2.1 t8.2.2 8 _ h14) (by first | rfl | simp only [reduceCtorEq, Nat.reduceEqDiff, ak, mapN, mapN1, fwd, fwdR, fwd1, fwdQ, fwdP, isAt, inR, strip, reR, reP]) (by simp [bkOk]) (mrgL_whole (new' := [.ref (.arg 0) [] o0 l0.length, .sc (.int .i64 t13.2.1), .sc (.int .u64 t13.2.2)]) (mrgL_fz (mrgL_nil' _ _ _) rfl (by first | rfl | simp only [reduceCtorEq, Nat.reduceEqDiff, ak, g11]) rfl (by intro R hR hh; cases hR; cases hh.2)) rfl (by rfl) (.inl ⟨rfl, by first | rfl | simp only [reduceCtorEq, Nat.reduceEqDiff, ak, mapN, mapN1, bwd, bwdR, upP, shOf, akG, reR, reP, Nat.zero_add, List.append_nil]⟩)) (by first | rfl | simp only [reduceCtorEq, Nat.reduceEqDiff, ak, mapN, mapN1, bwd, bwdR, upP, shOf, akG, reR, reP, Nat.zero_add, List.append_nil]) (by first | rfl | simp only [reduceCtorEq, Nat.reduceEqDiff, ak, mapN, mapN1, bwd, bwdR, upP, shOf, akG, reR, reP, Nat.zero_add, List.append_nil]) ?_
  simp only [Nat.reduceEqDiff, Nat.reduceAdd, Nat.reduceMul, Nat.reduceLeDiff, Nat.reduceLT, Int.reduceLE, Int.reduceLT, Int.reduceGT, Int.reduceGE, Int.reduceEq, Int.reduceNe, Int.reduceToNat, reduceCtorEq, ak]
  refine hJ12 _ ?_
  obtain ⟨j15, h16, hn⟩ := of_bind h
  refine seq_j (fun st => st = ⟨[(4, .c (.ptr (.tmp 4 0) [] 0)), (5, .c (.sc (.int .u64 j15.1)))], [(.arg 0, ⟨.fz, 1, cs0⟩), (.tmp 4 0, ⟨.box, 0, [.ref (.arg 0) [] o0 l0.length, .sc (.int .i64 j15.2.1), .sc (.int .u64 j15.2.2)]⟩)], [], []⟩) (fun J17 hJ17 => ?_) ?_
  · replace h := h16; clear hn
    refine ga_k fun G18 G18n G18r G18x => ?_
    refine seq_k fun J19 hJ19 => ?_
    refine reg_k ?_
    simp only [Nat.reduceEqDiff, Nat.reduceAdd, Nat.reduceMul, Nat.reduceLeDiff, Nat.reduceLT, Int.reduceLE, Int.reduceLT, Int.reduceGT, Int.reduceGE, Int.reduceEq, Int.reduceNe, Int.reduceToNat, reduceCtorEq, ak]
    refine hJ19 _ ?_
    refine cond_k (b := decide (t13.1 < 2)) rfl (fun c20 => ?_) (fun c20 => ?_)
    · replace c20 := of_decide_eq_true c20; rw [if_pos c20] at h
      refine reg_k ?_
      simp only [Nat.reduceEqDiff, Nat.reduceAdd, Nat.reduceMul, Nat.reduceLeDiff, Nat.reduceLT, Int.reduceLE, Int.reduceLT, Int.reduceGT, Int.reduceGE, Int.reduceEq, Int.reduceNe, Int.reduceToNat, reduceCtorEq, ak]
      obtain ⟨t21, h22, h⟩ := of_bind h
      refine call_k [(.arg 0, ⟨(.tmp 4 0), [], none, .box⟩), (.arg 1, ⟨(.arg 0), [], none, .fz⟩)] (s0 := [(.arg 0, ⟨.box, 0, [.ref (.arg 1) [] o0 l0.length, .sc (.int .i64 t13.2.1), .sc (.int .u64 t13.2.2)]⟩), (.arg 1, ⟨.fz, 1, cs0⟩)]) (s4 := [(.arg 0, ⟨.fz, 1, cs0⟩), (.tmp 4 0, ⟨.box, 0, [.ref (.arg 0) [] o0 l0.length, .sc (.int .i64 t21.2.1), .sc (.int .u64 t21.2.2)]⟩)]) (v' := .c (.sc (.int .i64 t21.1))) (by intro t ht; cases ht; decide) rfl rfl (by first | rfl | simp only [reduceCtorEq, Nat.reduceEqDiff, ak, foc, focL, focR, fits, seg, mapN, mapN1, fwd, fwdR, fwd1, fwdQ, fwdP, isAt, inR, strip, reR, reP, g11]) (spec_l1Next.tri (cs0) o0 l0 hv0 t13.2.1 t13.2.2 2 _ h22) (by first | rfl | simp only [reduceCtorEq, Nat.reduceEqDiff, ak, mapN, mapN1, fwd, fwdR, fwd1, fwdQ, fwdP, isAt, inR, strip, reR, reP]) (by simp [bkOk]) (mrgL_whole (new' := [.ref (.arg 0) [] o0 l0.length, .sc (.int .i64 t21.2.1), .sc (.int .u64 t21.2.2)]) (mrgL_fz (mrgL_nil' _ _ _) rfl (by first | rfl | simp only [reduceCtorEq, Nat.reduceEqDiff, ak, g11]) rfl (by intro R hR hh; cases hR; cases hh.2)) rfl (by rfl) (.inl ⟨rfl, by first | rfl | simp only [reduceCtorEq, Nat.reduceEqDiff, ak, mapN, mapN1, bwd, bwdR, upP, shOf, akG, reR, reP, Nat.zero_add, List.append_nil]⟩)) (by first | rfl | simp only [reduceCtorEq, Nat.reduceEqDiff, ak, mapN, mapN1, bwd, bwdR, upP, shOf, akG, reR, reP, Nat.zero_add, List.append_nil]) (by first | rfl | simp only [reduceCtorEq, Nat.reduceEqDiff, ak, mapN, mapN1, bwd, bwdR, upP, shOf, akG, reR, reP, Nat.zero_add, List.append_nil]) ?_
      have g23 : ∀ a, abin .shl (.int .u64 a) (.int .u64 31) = some (.int .u64 (IntKind.u64.wrap (a * 2 ^ 31))) := fun a => akShlL _ _ a 31 (by decide)
      simp only [Nat.reduceEqDiff, Nat.reduceAdd, Nat.reduceMul, Nat.reduceLeDiff, Nat.reduceLT, Int.reduceLE, Int.reduceLT, Int.reduceGT, Int.reduceGE, Int.reduceEq, Int.reduceNe, Int.reduceToNat, reduceCtorEq, ak, g23]
      obtain rfl := Option.some.inj h
      refine G18n _ _ ((Weak.keep [4, 5]).trans ((Weak.foc [(.arg 0, ⟨(.arg 0), [], none, .fz⟩), (.tmp 4 0, ⟨(.tmp 4 0), [], none, .box⟩)] rfl (by first | rfl | simp only [reduceCtorEq, Nat.reduceEqDiff, ak, akG, foc, focL, focR, fits, seg, mapN, mapN1, fwd, fwdR, fwd1, fwdQ, fwdP, isAt, inR, shOf, strip, reR, reP]) (by simp [argK, akG, ak])).trans (Weak.of_eq (by first | rfl | (simp only [reduceCtorEq, Nat.reduceEqDiff, ak, akG, foc, focL, focR, fits, seg, mapN, mapN1, fwd, fwdR, fwd1, fwdQ, fwdP, isAt, inR, shOf, strip, reR, reP]; done) | (simp [reduceCtorEq, Nat.reduceEqDiff, ak, akG, foc, focL, focR, fits, seg, mapN, mapN1, fwd, fwdR, fwd1, fwdQ, fwdP, isAt, inR, shOf, strip, reR, reP]; done))))) (hJ17 _ rfl)
    · replace c20 := of_decide_eq_false c20; rw [if_neg c20] at h
      refine seq_k fun J24 hJ24 => ?_
      refine reg_k ?_
      simp only [Nat.reduceEqDiff, Nat.reduceAdd, Nat.reduceMul, Nat.reduceLeDiff, Nat.reduceLT, Int.reduceLE, Int.reduceLT, Int.reduceGT, Int.reduceGE, Int.reduceEq, Int.reduceNe, Int.reduceToNat, reduceCtorEq, ak]
      refine hJ24 _ ?_
      refine cond_k (b := decide (t13.1 < 4)) rfl (fun c25 => ?_) (fun c25 => ?_)
      · replace c25 := of_decide_eq_true c25; rw [if_pos c25] at h
        refine reg_k ?_
        simp only [Nat.reduceEqDiff, Nat.reduceAdd, Nat.reduceMul, Nat.reduceLeDiff, Nat.reduceLT, Int.reduceLE, Int.reduceLT, Int.reduceGT, Int.reduceGE, Int.reduceEq, Int.reduceNe, Int.reduceToNat, reduceCtorEq, ak]
        obtain ⟨t26, h27, h⟩ := of_bind h
        refine call_k [(.arg 0, ⟨(.tmp 4 0), [], none, .box⟩), (.arg 1, ⟨(.arg 0), [], none, .fz⟩)] (s0 := [(.arg 0, ⟨.box, 0, [.ref (.arg 1) [] o0 l0.length, .sc (.int .i64 t13.2.1), .sc (.int .u64 t13.2.2)]⟩), (.arg 1, ⟨.fz, 1, cs0⟩)]) (s4 := [(.arg 0, ⟨.fz, 1, cs0⟩), (.tmp 4 0, ⟨.box, 0, [.ref (.arg 0) [] o0 l0.length, .sc (.int .i64 t26.2.1), .sc (.int .u64 t26.2.2)]⟩)]) (v' := .c (.sc (.int .i64 t26.1))) (by intro t ht; cases ht; decide) rfl rfl (by first | rfl | simp only [reduceCtorEq, Nat.reduceEqDiff, ak, foc, focL, focR, fits, seg, mapN, mapN1, fwd, fwdR, fwd1, fwdQ, fwdP, isAt, inR, strip, reR, reP, g11]) (spec_l1Next.tri (cs0) o0 l0 hv0 t13.2.1 t13.2.2 2 _ h27) (by first | rfl | simp only [reduceCtorEq, Nat.reduceEqDiff, ak, mapN, mapN1, fwd, fwdR, fwd1, fwdQ, fwdP, isAt, inR, strip, reR, reP]) (by simp [bkOk]) (mrgL_whole (new' := [.ref (.arg 0) [] o0 l0.length, .sc (.int .i64 t26.2.1), .sc (.int .u64 t26.2.2)]) (mrgL_fz (mrgL_nil' _ _ _) rfl (by first | rfl | simp only [reduceCtorEq, Nat.reduceEqDiff, ak, g11]) rfl (by intro R hR hh; cases hR; cases hh.2)) rfl (by rfl) (.inl ⟨rfl, by first | rfl | simp only [reduceCtorEq, Nat.reduceEqDiff, ak, mapN, mapN1, bwd, bwdR, upP, shOf, akG, reR, reP, Nat.zero_add, List.append_nil]⟩)) (by first | rfl | simp only [reduceCtorEq, Nat.reduceEqDiff, ak, mapN, mapN1, bwd, bwdR, upP, shOf, akG, reR, reP, Nat.zero_add, List.append_nil]) (by first | rfl | simp only [reduceCtorEq, Nat.reduceEqDiff, ak, mapN, mapN1, bwd, bwdR, upP, shOf, akG, reR, reP, Nat.zero_add, List.append_nil]) ?_
        have g28 : ∀ a, abin .shl (.int .u64 a) (.int .u64 30) = some (.int .u64 (IntKind.u64.wrap (a * 2 ^ 30))) := fun a => akShlL _ _ a 30 (by decide)
        simp only [Nat.reduceEqDiff, Nat.reduceAdd, Nat.reduceMul, Nat.reduceLeDiff, Nat.reduceLT, Int.reduceLE, Int.reduceLT, Int.reduceGT, Int.reduceGE, Int.reduceEq, Int.reduceNe, Int.reduceToNat, reduceCtorEq, ak, g28]
        obtain rfl := Option.some.inj h
        refine G18n _ _ ((Weak.keep [4, 5]).trans ((Weak.foc [(.arg 0, ⟨(.arg 0), [], none, .fz⟩), (.tmp 4 0, ⟨(.tmp 4 0), [], none, .box⟩)] rfl (by first | rfl | simp only [reduceCtorEq, Nat.reduceEqDiff, ak, akG, foc, focL, focR, fits, seg, mapN, mapN1, fwd, fwdR, fwd1, fwdQ, fwdP, isAt, inR, shOf, strip, reR, reP]) (by simp [argK, akG, ak])).trans (Weak.of_eq (by first | rfl | (simp only [reduceCtorEq, Nat.reduceEqDiff, ak, akG, foc, focL, focR, fits, seg, mapN, mapN1, fwd, fwdR, fwd1, fwdQ, fwdP, isAt, inR, shOf, strip, reR, reP]; done) | (simp [reduceCtorEq, Nat.reduceEqDiff, ak, akG, foc, focL, focR, fits, seg, mapN, mapN1, fwd, fwdR, fwd1, fwdQ, fwdP, isAt, inR, shOf, strip, reR, reP]; done))))) (hJ17 _ rfl)
      · replace c25 := of_decide_eq_false c25; rw [if_neg c25] at h
        refine seq_k fun J29 hJ29 => ?_
        refine reg_k ?_
        simp only [Nat.reduceEqDiff, Nat.reduceAdd, Nat.reduceMul, Nat.reduceLeDiff, Nat.reduceLT, Int.reduceLE, Int.reduceLT, Int.reduceGT, Int.reduceGE, Int.reduceEq, Int.reduceNe, Int.reduceToNat, reduceCtorEq, ak]
        refine hJ29 _ ?_
        refine cond_k (b := decide (t13.1 = 4)) rfl (fun c30 => ?_) (fun c30 => ?_)
        · replace c30 := of_decide_eq_true c30; rw [if_pos c30] at h
          refine reg_k ?_
          simp only [Nat.reduceEqDiff, Nat.reduceAdd, Nat.reduceMul, Nat.reduceLeDiff, Nat.reduceLT, Int.reduceLE, Int.reduceLT, Int.reduceGT, Int.reduceGE, Int.reduceEq, Int.reduceNe, Int.reduceToNat, reduceCtorEq, ak]
          obtain ⟨t31, h32, h⟩ := of_bind h
          refine call_k [(.arg 0, ⟨(.tmp 4 0), [], none, .box⟩), (.arg 1, ⟨(.arg 0), [], none, .fz⟩)] (s0 := [(.arg 0, ⟨.box, 0, [.ref (.arg 1) [] o0 l0.length, .sc (.int .i64 t13.2.1), .sc (.int .u64 t13.2.2)]⟩), (.arg 1, ⟨.fz, 1, cs0⟩)]) (s4 := [(.arg 0, ⟨.fz, 1, cs0⟩), (.tmp 4 0, ⟨.box, 0, [.ref (.arg 0) [] o0 l0.length, .sc (.int .i64 t31.2.1), .sc (.int .u64 t31.2.2)]⟩)]) (v' := .c (.sc (.int .i64 t31.1))) (by intro t ht; cases ht; decide) rfl rfl (by first | rfl | simp only [reduceCtorEq, Nat.reduceEqDiff, ak, foc, focL, focR, fits, seg, mapN, mapN1, fwd, fwdR, fwd1, fwdQ, fwdP, isAt, inR, strip, reR, reP, g11]) (spec_l1Next.tri (cs0) o0 l0 hv0 t13.2.1 t13.2.2 5 _ h32) (by first | rfl | simp only [reduceCtorEq, Nat.reduceEqDiff, ak, mapN, mapN1, fwd, fwdR, fwd1, fwdQ, fwdP, isAt, inR, strip, reR, reP]) (by simp [bkOk]) (mrgL_whole (new' := [.ref (.arg 0) [] o0 l0.length, .sc (.int .i64 t31.2.1), .sc (.int .u64 t31.2.2)]) (mrgL_fz (mrgL_nil' _ _ _) rfl (by first | rfl | simp only [reduceCtorEq, Nat.reduceEqDiff, ak, g11]) rfl (by intro R hR hh; cases hR; cases hh.2)) rfl (by rfl) (.inl ⟨rfl, by first | rfl | simp only [reduceCtorEq, Nat.reduceEqDiff, ak, mapN, mapN1, bwd, bwdR, upP, shOf, akG, reR, reP, Nat.zero_add, List.append_nil]⟩)) (by first | rfl | simp only [reduceCtorEq, Nat.reduceEqDiff, ak, mapN, mapN1, bwd, bwdR, upP, shOf, akG, reR, reP, Nat.zero_add, List.append_nil]) (by first | rfl | simp only [reduceCtorEq, Nat.reduceEqDiff, ak, mapN, mapN1, bwd, bwdR, upP, shOf, akG, reR, reP, Nat.zero_add, List.append_nil]) ?_
          have g33 : ∀ a, abin .shl (.int .u64 a) (.int .u64 32) = some (.int .u64 (IntKind.u64.wrap (a * 2 ^ 32))) := fun a => akShlL _ _ a 32 (by decide)
          simp only [Nat.reduceEqDiff, Nat.reduceAdd, Nat.reduceMul, Nat.reduceLeDiff, Nat.reduceLT, Int.reduceLE, Int.reduceLT, Int.reduceGT, Int.reduceGE, Int.reduceEq, Int.reduceNe, Int.reduceToNat, reduceCtorEq, ak, g33]
          obtain ⟨t34, h35, h⟩ := of_bind h
          refine call_k [(.arg 0, ⟨(.tmp 4 0), [], none, .box⟩), (.arg 1, ⟨(.arg 0), [], none, .fz⟩)] (s0 := [(.arg 0, ⟨.box, 0, [.ref (.arg 1) [] o0 l0.length, .sc (.int .i64 t31.2.1), .sc (.int .u64 t31.2.2)]⟩), (.arg 1, ⟨.fz, 1, cs0⟩)]) (s4 := [(.arg 0, ⟨.fz, 1, cs0⟩), (.tmp 4 0, ⟨.box, 0, [.ref (.arg 0) [] o0 l0.length, .sc (.int .i64 t34.2.1), .sc (.int .u64 t34.2.2)]⟩)]) (v' := .c (.sc (.int .i64 t34.1))) (by intro t ht; cases ht; decide) rfl rfl (by first | rfl | simp only [reduceCtorEq, Nat.reduceEqDiff, ak, foc, focL, focR, fits, seg, mapN, mapN1, fwd, fwdR, fwd1, fwdQ, fwdP, isAt, inR, strip, reR, reP, g11, g33]) (spec_l1Next.tri (cs0) o0 l0 hv0 t31.2.1 t31.2.2 3 _ h35) (by first | rfl | simp only [reduceCtorEq, Nat.reduceEqDiff, ak, mapN, mapN1, fwd, fwdR, fwd1, fwdQ, fwdP, isAt, inR, strip, reR, reP]) (by simp [bkOk]) (mrgL_whole (new' := [.ref (.arg 0) [] o0 l0.length, .sc (.int .i64 t34.2.1), .sc (.int .u64 t34.2.2)]) (mrgL_fz (mrgL_nil' _ _ _) rfl (by first | rfl | simp only [reduceCtorEq, Nat.reduceEqDiff, ak, g11, g33]) rfl (by intro R hR hh; cases hR; cases hh.2)) rfl (by rfl) (.inl ⟨rfl, by first | rfl | simp only [reduceCtorEq, Nat.reduceEqDiff, ak, mapN, mapN1, bwd, bwdR, upP, shOf, akG, reR, reP, Nat.zero_add, List.append_nil]⟩)) (by first | rfl | simp only [reduceCtorEq, Nat.reduceEqDiff, ak, mapN, mapN1, bwd, bwdR, upP, shOf, akG, reR, reP, Nat.zero_add, List.append_nil]) (by first | rfl | simp only [reduceCtorEq, Nat.reduceEqDiff, ak, mapN, mapN1, bwd, bwdR, upP, shOf, akG, reR, reP, Nat.zero_add, List.append_nil]) ?_
          simp only [Nat.reduceEqDiff, Nat.reduceAdd, Nat.reduceMul, Nat.reduceLeDiff, Nat.reduceLT, Int.reduceLE, Int.reduceLT, Int.reduceGT, Int.reduceGE, Int.reduceEq, Int.reduceNe, Int.reduceToNat, reduceCtorEq, ak]
          obtain rfl := Option.some.inj h
          refine G18n _ _ ((Weak.keep [4, 5]).trans ((Weak.foc [(.arg 0, ⟨(.arg 0), [], none, .fz⟩), (.tmp 4 0, ⟨(.tmp 4 0), [], none, .box⟩)] rfl (by first | rfl | simp only [reduceCtorEq, Nat.reduceEqDiff, ak, akG, foc, focL, focR, fits, seg, mapN, mapN1, fwd, fwdR, fwd1, fwdQ, fwdP, isAt, inR, shOf, strip, reR, reP]) (by simp [argK, akG, ak])).trans (Weak.of_eq (by first | rfl | (simp only [reduceCtorEq, Nat.reduceEqDiff, ak, akG, foc, focL, focR, fits, seg, mapN, mapN1, fwd, fwdR, fwd1, fwdQ, fwdP, isAt, inR, shOf, strip, reR, reP]; done) | (simp [reduceCtorEq, Nat.reduceEqDiff, ak, akG, foc, focL, focR, fits, seg, mapN, mapN1, fwd, fwdR, fwd1, fwdQ, fwdP, isAt, inR, shOf, strip, reR, reP]; done))))) (hJ17 _ rfl)
        · replace c30 := of_decide_eq_false c30; rw [if_neg c30] at h
          obtain rfl := Option.some.inj h
          refine G18n _ _ ((Weak.keep [4, 5]).trans ((Weak.foc [(.arg 0, ⟨(.arg 0), [], none, .fz⟩), (.tmp 4 0, ⟨(.tmp 4 0), [], none, .box⟩)] rfl (by first | rfl | simp only [reduceCtorEq, Nat.reduceEqDiff, ak, akG, foc, focL, focR, fits, seg, mapN, mapN1, fwd, fwdR, fwd1, fwdQ, fwdP, isAt, inR, shOf, strip, reR, reP]) (by simp [argK, akG, ak])).trans (Weak.of_eq (by first | rfl | (simp only [reduceCtorEq, Nat.reduceEqDiff, ak, akG, foc, focL, focR, fits, seg, mapN, mapN1, fwd, fwdR, fwd1, fwdQ, fwdP, isAt, inR, shOf, strip, reR, reP]; done) | (simp [reduceCtorEq, Nat.reduceEqDiff, ak, akG, foc, focL, focR, fits, seg, mapN, mapN1, fwd, fwdR, fwd1, fwdQ, fwdP, isAt, inR, shOf, strip, reR, reP]; done))))) (hJ17 _ rfl)
  · replace h := hn; clear hn h16
    rintro _ rfl
    refine seq_k fun J36 hJ36 => ?_
    refine reg_k ?_
    simp only [Nat.reduceEqDiff, Nat.reduceAdd, Nat.reduceMul, Nat.reduceLeDiff, Nat.reduceLT, Int.reduceLE, Int.reduceLT, Int.reduceGT, Int.reduceGE, Int.reduceEq, Int.reduceNe, Int.reduceToNat, reduceCtorEq, ak]
    refine hJ36 _ ?_
    refine seq_k fun J37 hJ37 => ?_
    refine reg_k ?_
    simp only [Nat.reduceEqDiff, Nat.reduceAdd, Nat.reduceMul, Nat.reduceLeDiff, Nat.reduceLT, Int.reduceLE, Int.reduceLT, Int.reduceGT, Int.reduceGE, Int.reduceEq, Int.reduceNe, Int.reduceToNat, reduceCtorEq, ak]
    obtain ⟨t38, h39, h⟩ := of_bind h
    refine call_k [(.arg 0, ⟨(.tmp 4 0), [], none, .box⟩), (.arg 1, ⟨(.arg 0), [], none, .fz⟩)] (s0 := [(.arg 0, ⟨.box, 0, [.ref (.arg 1) [] o0 l0.length, .sc (.int .i64 j15.2.1), .sc (.int .u64 j15.2.2)]⟩), (.arg 1, ⟨.fz, 1, cs0⟩)]) (s4 := [(.arg 0, ⟨.fz, 1, cs0⟩), (.tmp 4 0, ⟨.box, 0, [.ref (.arg 0) [] o0 l0.length, .sc (.int .i64 t38.2.1), .sc (.int .u64 t38.2.2)]⟩)]) (v' := .c (.sc (.int .i64 t38.1))) (by intro t ht; cases ht; decide) rfl rfl (by first | rfl | simp only [reduceCtorEq, Nat.reduceEqDiff, ak, foc, focL, focR, fits, seg, mapN, mapN1, fwd, fwdR, fwd1, fwdQ, fwdP, isAt, inR, strip, reR, reP, g11]) (spec_l1Next.tri (cs0) o0 l0 hv0 j15.2.1 j15.2.2 4 _ h39) (by first | rfl | simp only [reduceCtorEq, Nat.reduceEqDiff, ak, mapN, mapN1, fwd, fwdR, fwd1, fwdQ, fwdP, isAt, inR, strip, reR, reP]) (by simp [bkOk]) (mrgL_whole (new' := [.ref (.arg 0) [] o0 l0.length, .sc (.int .i64 t38.2.1), .sc (.int .u64 t38.2.2)]) (mrgL_fz (mrgL_nil' _ _ _) rfl (by first | rfl | simp only [reduceCtorEq, Nat.reduceEqDiff, ak, g11]) rfl (by intro R hR hh; cases hR; cases hh.2)) rfl (by rfl) (.inl ⟨rfl, by first | rfl | simp only [reduceCtorEq, Nat.reduceEqDiff, ak, mapN, mapN1, bwd, bwdR, upP, shOf, akG, reR, reP, Nat.zero_add, List.append_nil]⟩)) (by first | rfl | simp only [reduceCtorEq, Nat.reduceEqDiff, ak, mapN, mapN1, bwd, bwdR, upP, shOf, akG, reR, reP, Nat.zero_add, List.append_nil]) (by first | rfl | simp only [reduceCtorEq, Nat.reduceEqDiff, ak, mapN, mapN1, bwd, bwdR, upP, shOf, akG, reR, reP, Nat.zero_add, List.append_nil]) ?_
    simp only [Nat.reduceEqDiff, Nat.reduceAdd, Nat.reduceMul, Nat.reduceLeDiff, Nat.reduceLT, Int.reduceLE, Int.reduceLT, Int.reduceGT, Int.reduceGE, Int.reduceEq, Int.reduceNe, Int.reduceToNat, reduceCtorEq, ak]
    refine hJ37 _ ?_
    refine seq_k fun J40 hJ40 => ?_
    refine reg_k ?_
    simp only [Nat.reduceEqDiff, Nat.reduceAdd, Nat.reduceMul, Nat.reduceLeDiff, Nat.reduceLT, Int.reduceLE, Int.reduceLT, Int.reduceGT, Int.reduceGE, Int.reduceEq, Int.reduceNe, Int.reduceToNat, reduceCtorEq, ak]
    obtain ⟨t41, h42, h⟩ := of_bind h
    refine call_k [(.arg 0, ⟨(.tmp 4 0), [], none, .box⟩), (.arg 1, ⟨(.arg 0), [], none, .fz⟩)] (s0 := [(.arg 0, ⟨.box, 0, [.ref (.arg 1) [] o0 l0.length, .sc (.int .i64 t38.2.1), .sc (.int .u64 t38.2.2)]⟩), (.arg 1, ⟨.fz, 1, cs0⟩)]) (s4 := [(.arg 0, ⟨.fz, 1, cs0⟩), (.tmp 4 0, ⟨.box, 0, [.ref (.arg 0) [] o0 l0.length, .sc (.int .i64 t41.2.1), .sc (.int .u64 t41.2.2)]⟩)]) (v' := .c (.sc (.int .i64 t41.1))) (by intro t ht; cases ht; decide) rfl rfl (by first | rfl | simp only [reduceCtorEq, Nat.reduceEqDiff, ak, foc, focL, focR, fits, seg, mapN, mapN1, fwd, fwdR, fwd1, fwdQ, fwdP, isAt, inR, strip, reR, reP, g11]) (spec_l1Next.tri (cs0) o0 l0 hv0 t38.2.1 t38.2.2 9 _ h42) (by first | rfl | simp only [reduceCtorEq, Nat.reduceEqDiff, ak, mapN, mapN1, fwd, fwdR, fwd1, fwdQ, fwdP, isAt, inR, strip, reR, reP]) (by simp [bkOk]) (mrgL_whole (new' := [.ref (.arg 0) [] o0 l0.length, .sc (.int .i64 t41.2.1), .sc (.int .u64 t41.2.2)]) (mrgL_fz (mrgL_nil' _ _ _) rfl (by first | rfl | simp only [reduceCtorEq, Nat.reduceEqDiff, ak, g11]) rfl (by intro R hR hh; cases hR; cases hh.2)) rfl (by rfl) (.inl ⟨rfl, by first | rfl | simp only [reduceCtorEq, Nat.reduceEqDiff, ak, mapN, mapN1, bwd, bwdR, upP, shOf, akG, reR, reP, Nat.zero_add, List.append_nil]⟩)) (by first | rfl | simp only [reduceCtorEq, Nat.reduceEqDiff, ak, mapN, mapN1, bwd, bwdR, upP, shOf, akG, reR, reP, Nat.zero_add, List.append_nil]) (by first | rfl | simp only [reduceCtorEq, Nat.reduceEqDiff, ak, mapN, mapN1, bwd, bwdR, upP, shOf, akG, reR, reP, Nat.zero_add, List.append_nil]) ?_
    simp only [Nat.reduceEqDiff, Nat.reduceAdd, Nat.reduceMul, Nat.reduceLeDiff, Nat.reduceLT, Int.reduceLE, Int.reduceLT, Int.reduceGT, Int.reduceGE, Int.reduceEq, Int.reduceNe, Int.reduceToNat, reduceCtorEq, ak]
    refine hJ40 _ ?_
    refine seq_k fun J43 hJ43 => ?_
    refine seq_k fun J44 hJ44 => ?_
    refine reg_k ?_
    simp only [Nat.reduceEqDiff, Nat.reduceAdd, Nat.reduceMul, Nat.reduceLeDiff, Nat.reduceLT, Int.reduceLE, Int.reduceLT, Int.reduceGT, Int.reduceGE, Int.reduceEq, Int.reduceNe, Int.reduceToNat, reduceCtorEq, ak]
    refine hJ44 _ ?_
    refine cond_k (b := decide (t38.1 = 0)) rfl (fun c45 => ?_) (fun c45 => ?_)
    · replace c45 := of_decide_eq_true c45; rw [if_pos c45] at h
      refine seq_k fun J46 hJ46 => ?_
      refine reg_k ?_
      simp only [Nat.reduceEqDiff, Nat.reduceAdd, Nat.reduceMul, Nat.reduceLeDiff, Nat.reduceLT, Int.reduceLE, Int.reduceLT, Int.reduceGT, Int.reduceGE, Int.reduceEq, Int.reduceNe, Int.reduceToNat, reduceCtorEq, ak]
      refine hJ46 _ ?_
      obtain rfl := Option.some.inj h
      refine hKr _ ⟨_, rfl, [], _, rfl, rfl, ?_⟩
      first | rfl | (simp only [reduceCtorEq, Nat.reduceEqDiff, ak, akG, mapN, mapN1, fwd, fwdR, fwd1, fwdQ, fwdP, isAt, inR, shOf, strip, reR, reP, outPl, argPl, resPl]; done) | (simp [reduceCtorEq, Nat.reduceEqDiff, ak, akG, mapN, mapN1, fwd, fwdR, fwd1, fwdQ, fwdP, isAt, inR, shOf, strip, reR, reP, outPl, argPl, resPl]; done)
    · replace c45 := of_decide_eq_false c45; rw [if_neg c45] at h
      refine hJ43 _ ?_
      refine seq_k fun J47 hJ47 => ?_
      refine seq_k fun J48 hJ48 => ?_
      refine reg_k ?_
      simp only [Nat.reduceEqDiff, Nat.reduceAdd, Nat.reduceMul, Nat.reduceLeDiff, Nat.reduceLT, Int.reduceLE, Int.reduceLT, Int.reduceGT, Int.reduceGE, Int.reduceEq, Int.reduceNe, Int.reduceToNat, reduceCtorEq, ak]
      refine hJ48 _ ?_
      refine cond_k (b := decide (t38.1 = 1)) rfl (fun c49 => ?_) (fun c49 => ?_)
      · replace c49 := of_decide_eq_true c49; rw [if_pos c49] at h
        refine seq_k fun J50 hJ50 => ?_
        refine reg_k ?_
        simp only [Nat.reduceEqDiff, Nat.reduceAdd, Nat.reduceMul, Nat.reduceLeDiff, Nat.reduceLT, Int.reduceLE, Int.reduceLT, Int.reduceGT, Int.reduceGE, Int.reduceEq, Int.reduceNe, Int.reduceToNat, reduceCtorEq, ak]
        refine hJ50 _ ?_
        obtain rfl := Option.some.inj h
        refine hKr _ ⟨_, rfl, [], _, rfl, rfl, ?_⟩
        first | rfl | (simp only [reduceCtorEq, Nat.reduceEqDiff, ak, akG, mapN, mapN1, fwd, fwdR, fwd1, fwdQ, fwdP, isAt, inR, shOf, strip, reR, reP, outPl, argPl, resPl]; done) | (simp [reduceCtorEq, Nat.reduceEqDiff, ak, akG, mapN, mapN1, fwd, fwdR, fwd1, fwdQ, fwdP, isAt, inR, shOf, strip, reR, reP, outPl, argPl, resPl]; done)
      · replace c49 := of_decide_eq_false c49; rw [if_neg c49] at h
        refine hJ47 _ ?_
        refine seq_k fun J51 hJ51 => ?_
        refine reg_k ?_
        simp only [Nat.reduceEqDiff, Nat.reduceAdd, Nat.reduceMul, Nat.reduceLeDiff, Nat.reduceLT, Int.reduceLE, Int.reduceLT, Int.reduceGT, Int.reduceGE, Int.reduceEq, Int.reduceNe, Int.reduceToNat, reduceCtorEq, ak]
        obtain ⟨t52, h53, h⟩ := of_bind h
        refine call_k [(.arg 0, ⟨(.tmp 4 0), [], none, .box⟩), (.arg 1, ⟨(.arg 0), [], none, .fz⟩)] (s0 := [(.arg 0, ⟨.box, 0, [.ref (.arg 1) [] o0 l0.length, .sc (.int .i64 t41.2.1), .sc (.int .u64 t41.2.2)]⟩), (.arg 1, ⟨.fz, 1, cs0⟩)]) (s4 := [(.arg 0, ⟨.fz, 1, cs0⟩), (.tmp 4 0, ⟨.box, 0, [.ref (.arg 0) [] o0 l0.length, .sc (.int .i64 t52.2.1), .sc (.int .u64 t52.2.2)]⟩)]) (v' := .c (.sc (.int .u64 t52.1))) (by intro t ht; cases ht; decide) rfl rfl (by first | rfl | simp only [reduceCtorEq, Nat.reduceEqDiff, ak, foc, focL, focR, fits, seg, mapN, mapN1, fwd, fwdR, fwd1, fwdQ, fwdP, isAt, inR, strip, reR, reP, g11]) (spec_l1Word.tri (cs0) o0 l0 hv0 t41.2.1 t41.2.2 _ h53) (by first | rfl | simp only [reduceCtorEq, Nat.reduceEqDiff, ak, mapN, mapN1, fwd, fwdR, fwd1, fwdQ, fwdP, isAt, inR, strip, reR, reP]) (by simp [bkOk]) (mrgL_whole (new' := [.ref (.arg 0) [] o0 l0.length, .sc (.int .i64 t52.2.1), .sc (.int .u64 t52.2.2)]) (mrgL_fz (mrgL_nil' _ _ _) rfl (by first | rfl | simp only [reduceCtorEq, Nat.reduceEqDiff, ak, g11]) rfl (by intro R hR hh; cases hR; cases hh.2)) rfl (by rfl) (.inl ⟨rfl, by first | rfl | simp only [reduceCtorEq, Nat.reduceEqDiff, ak, mapN, mapN1, bwd, bwdR, upP, shOf, akG, reR, reP, Nat.zero_add, List.append_nil]⟩)) (by first | rfl | simp only [reduceCtorEq, Nat.reduceEqDiff, ak, mapN, mapN1, bwd, bwdR, upP, shOf, akG, reR, reP, Nat.zero_add, List.append_nil]) (by first | rfl | simp only [reduceCtorEq, Nat.reduceEqDiff, ak, mapN, mapN1, bwd, bwdR, upP, shOf, akG, reR, reP, Nat.zero_add, List.append_nil]) ?_
        simp only [Nat.reduceEqDiff, Nat.reduceAdd, Nat.reduceMul, Nat.reduceLeDiff, Nat.reduceLT, Int.reduceLE, Int.reduceLT, Int.reduceGT, Int.reduceGE, Int.reduceEq, Int.reduceNe, Int.reduceToNat, reduceCtorEq, ak]
        refine hJ51 _ ?_
        obtain rfl := Option.some.inj h
        refine hKr _ ⟨_, rfl, [], _, rfl, rfl, ?_⟩
        first | rfl | (simp only [reduceCtorEq, Nat.reduceEqDiff, ak, akG, mapN, mapN1, fwd, fwdR, fwd1, fwdQ, fwdP, isAt, inR, shOf, strip, reR, reP, outPl, argPl, resPl]; done) | (simp [reduceCtorEq, Nat.reduceEqDiff, ak, akG, mapN, mapN1, fwd, fwdR, fwd1, fwdQ, fwdP, isAt, inR, shOf, strip, reR, reP, outPl, argPl, resPl]; done)
/-! ### impl.Lift: function 20 -/
def c20 : AC := .seq (.reg [.op none (.mv 4 (.const (.int .u64 0))), .op none (.mv 5 (.const (.int .i64 0))), .keep [0, 1]]) (.seq (.reg [.op none (.mv 7 (.tmp 0)), .op none (.conv 8 .u32 (.tmp 7)), .op none (.mv 9 (.tmp 1)), .call none (some 10) 16 [.tmp 8, .tmp 9], .op none (.mv 6 (.tmp 10)), .keep [0, 6]]) (.seq (.seq (.ga (.reg [.op none (.mv 11 (.tmp 6)), .op none (.bin 12 .lss (.tmp 11) (.const (.int .i64 0))), .op none (.mv 13 (.tmp 12)), .op (some (13, true)) (.mv 14 (.tmp 0)), .op (some (13, true)) (.mv 15 (.tmp 6)), .op (some (13, true)) (.un 16 .neg (.tmp 15)), .op (some (13, true)) (.conv 17 .u64 (.tmp 16)), .op (some (13, true)) (.bin 18 .lss (.tmp 14) (.tmp 17)), .op none (.pick 19 (.tmp 13) (.tmp 18) (.const (.bool false))), .op none (.mv 20 (.tmp 19)), .op (some (20, false)) (.mv 21 (.tmp 6)), .op (some (20, false)) (.bin 22 .gtr (.tmp 21) (.const (.int .i64 0))), .op (some (20, false)) (.mv 23 (.tmp 22)), .op (some (23, true)) (.mv 24 (.tmp 0)), .op (some (23, true)) (.mv 25 (.tmp 6)), .op (some (23, true)) (.conv 26 .u64 (.tmp 25)), .op (some (23, true)) (.bin 27 .sub (.const (.int .u64 18446744073709551615)) (.tmp 26)), .op (some (23, true)) (.bin 28 .gtr (.tmp 24) (.tmp 27)), .op (some (20, false)) (.pick 29 (.tmp 23) (.tmp 28) (.const (.bool false))), .op none (.pick 30 (.tmp 20) (.const (.bool true)) (.tmp 29)), .keep [0, 6, 30]])) (.cond (.tmp 30) (.seq (.reg [.op none (.mv 4 (.const (.int .u64 0))), .op none (.mv 5 (.const (.int .i64 4))), .keep [4, 5]]) (.ret)) (.skip))) (.seq (.reg [.op none (.mv 31 (.tmp 0)), .op none (.mv 32 (.tmp 6)), .op none (.conv 33 .u64 (.tmp 32)), .op none (.bin 34 .add (.tmp 31) (.tmp 33)), .op none (.mv 4 (.tmp 34)), .op none (.mv 5 (.const (.int .i64 0))), .keep [4, 5]]) (.ret))))
def r20 : List RV := [.tmp 4, .tmp 5]
theorem k20 : compC Try.prog 35 (Try.f20.body.getD .skip) = some c20.erase := by kernel_rfl
theorem q20 : rvsOf Try.prog Try.f20.results.toList = some r20 := by kernel_rfl
def impl_Lift.f (a0 : Int) (a1 : Int) : Option (Int × Int) := (impl_SerialDistance.f (IntKind.u32.wrap a0) a1 >>= fun t3 => ((if t3 < 0 then (if a0 < IntKind.u64.wrap (IntKind.i64.wrap (0 - t3)) then (some true) else (if t3 > 0 then (some (decide (a0 > IntKind.u64.wrap (18446744073709551615 - (IntKind.u64.wrap t3))))) else (some false))) else (if t3 > 0 then (some (decide (a0 > IntKind.u64.wrap (18446744073709551615 - (IntKind.u64.wrap t3))))) else (some false))) >>= fun (j6 : Bool) => (if j6 = true then (some (0, 4)) else (some (IntKind.u64.wrap (a0 + (IntKind.u64.wrap t3)), 0)))))
set_option maxRecDepth 100000 in
set_option maxHeartbeats 4000000 in
theorem impl_Lift.tri (a0 : Int) (a1 : Int) (r : Int × Int) (h : impl_Lift.f a0 a1 = some r) : Tri Try.prog 20 [.c (.sc (.int .u64 a0)), .c (.sc (.int .u32 a1))] [] (fun o => o = ⟨.tup [(false, [.sc (.int .u64 r.1)]), (false, [.sc (.int .i64 r.2)])], [], [], []⟩) := by
  refine tri_of_body (ac := c20) (xs := r20) Try.func20 (show Try.f20.body = some (Try.f20.body.getD .skip) from rfl) k20 q20 (Nat.le_of_ble_eq_true rfl) ?_
  refine body_of fun K hKn hKr => ?_
  unfold impl_Lift.f at h
  unfold c20
  simp only [initT, Nat.reduceAdd]
  refine seq_k fun J1 hJ1 => ?_
  refine reg_k ?_
  simp only [Nat.reduceEqDiff, Nat.reduceAdd, Nat.reduceMul, Nat.reduceLeDiff, Nat.reduceLT, Int.reduceLE, Int.reduceLT, Int.reduceGT, Int.reduceGE, Int.reduceEq, Int.reduceNe, Int.reduceToNat, reduceCtorEq, ak]
  refine hJ1 _ ?_
  refine seq_k fun J2 hJ2 => ?_
  refine reg_k ?_
  simp only [Nat.reduceEqDiff, Nat.reduceAdd, Nat.reduceMul, Nat.reduceLeDiff, Nat.reduceLT, Int.reduceLE, Int.reduceLT, Int.reduceGT, Int.reduceGE, Int.reduceEq, Int.reduceNe, Int.reduceToNat, reduceCtorEq, ak]
  obtain ⟨t3, h4, h⟩ := of_bind h
  refine call_k [] (s0 := []) (s4 := []) (v' := .c (.sc (.int .i64 t3))) (by intro t ht; cases ht; decide) rfl rfl (by first | rfl | simp only [reduceCtorEq, Nat.reduceEqDiff, ak, foc, focL, focR, fits, seg, mapN, mapN1, fwd, fwdR, fwd1, fwdQ, fwdP, isAt, inR, strip, reR, reP]) (impl_SerialDistance.tri (IntKind.u32.wrap a0) a1 _ h4) (by first | rfl | simp only [reduceCtorEq, Nat.reduceEqDiff, ak, mapN, mapN1, fwd, fwdR, fwd1, fwdQ, fwdP, isAt, inR, strip, reR, reP]) (by simp [bkOk]) (mrgL_nil' _ _ _) (by first | rfl | simp only [reduceCtorEq, Nat.reduceEqDiff, ak, mapN, mapN1, bwd, bwdR, upP, shOf, akG, reR, reP, Nat.zero_add, List.append_nil]) (by first | rfl | simp only [reduceCtorEq, Nat.reduceEqDiff, ak, mapN, mapN1, bwd, bwdR, upP, shOf, akG, reR, reP, Nat.zero_add, List.append_nil]) ?_
  simp only [Nat.reduceEqDiff, Nat.reduceAdd, Nat.reduceMul, Nat.reduceLeDiff, Nat.reduceLT, Int.reduceLE, Int.reduceLT, Int.reduceGT, Int.reduceGE, Int.reduceEq, Int.reduceNe, Int.reduceToNat, reduceCtorEq, ak]
  refine hJ2 _ ?_
  refine seq_k fun J5 hJ5 => ?_
  obtain ⟨j6, h7, hn⟩ := of_bind h
  refine seq_j (fun st => st = ⟨[(0, .c (.sc (.int .u64 a0))), (6, .c (.sc (.int .i64 t3))), (30, .c (.sc (.bool j6)))], [], [], []⟩) (fun J8 hJ8 => ?_) ?_
  · replace h := h7; clear hn
    refine ga_k fun G9 G9n G9r G9x => ?_
    refine reg_k ?_
    simp only [Nat.reduceEqDiff, Nat.reduceAdd, Nat.reduceMul, Nat.reduceLeDiff, Nat.reduceLT, Int.reduceLE, Int.reduceLT, Int.reduceGT, Int.reduceGE, Int.reduceEq, Int.reduceNe, Int.reduceToNat, reduceCtorEq, ak]
    by_cases c10 : t3 < 0
    · rw [if_pos c10] at h
      have e11 : decide (t3 < 0) = true := decide_eq_true c10
      simp only [Nat.reduceEqDiff, Nat.reduceAdd, Nat.reduceMul, Nat.reduceLeDiff, Nat.reduceLT, Int.reduceLE, Int.reduceLT, Int.reduceGT, Int.reduceGE, Int.reduceEq, Int.reduceNe, Int.reduceToNat, reduceCtorEq, ak, e11]
      by_cases c12 : a0 < IntKind.u64.wrap (IntKind.i64.wrap (0 - t3))
      · rw [if_pos c12] at h
        have e13 : decide (a0 < IntKind.u64.wrap (IntKind.i64.wrap (0 - t3))) = true := decide_eq_true c12
        simp only [Nat.reduceEqDiff, Nat.reduceAdd, Nat.reduceMul, Nat.reduceLeDiff, Nat.reduceLT, Int.reduceLE, Int.reduceLT, Int.reduceGT, Int.reduceGE, Int.reduceEq, Int.reduceNe, Int.reduceToNat, reduceCtorEq, ak, e13]
        obtain rfl := Option.some.inj h
        refine G9n _ _ ((Weak.keep [0, 6, 30]).trans ((Weak.foc [] rfl (by first | rfl | simp only [reduceCtorEq, Nat.reduceEqDiff, ak, akG, foc, focL, focR, fits, seg, mapN, mapN1, fwd, fwdR, fwd1, fwdQ, fwdP, isAt, inR, shOf, strip, reR, reP]) (by simp [argK, akG, ak])).trans (Weak.of_eq (by first | rfl | (simp only [reduceCtorEq, Nat.reduceEqDiff, ak, akG, foc, focL, focR, fits, seg, mapN, mapN1, fwd, fwdR, fwd1, fwdQ, fwdP, isAt, inR, shOf, strip, reR, reP]; done) | (simp [reduceCtorEq, Nat.reduceEqDiff, ak, akG, foc, focL, focR, fits, seg, mapN, mapN1, fwd, fwdR, fwd1, fwdQ, fwdP, isAt, inR, shOf, strip, reR, reP]; done))))) (hJ8 _ rfl)
      · rw [if_neg c12] at h
        have e14 : decide (a0 < IntKind.u64.wrap (IntKind.i64.wrap (0 - t3))) = false := decide_eq_false c12
        simp only [Nat.reduceEqDiff, Nat.reduceAdd, Nat.reduceMul, Nat.reduceLeDiff, Nat.reduceLT, Int.reduceLE, Int.reduceLT, Int.reduceGT, Int.reduceGE, Int.reduceEq, Int.reduceNe, Int.reduceToNat, reduceCtorEq, ak, e14]
        by_cases c15 : t3 > 0
        · rw [if_pos c15] at h
          have e16 : decide (t3 > 0) = true := decide_eq_true c15
          simp only [Nat.reduceEqDiff, Nat.reduceAdd, Nat.reduceMul, Nat.reduceLeDiff, Nat.reduceLT, Int.reduceLE, Int.reduceLT, Int.reduceGT, Int.reduceGE, Int.reduceEq, Int.reduceNe, Int.reduceToNat, reduceCtorEq, ak, e16]
          obtain rfl := Option.some.inj h
          refine G9n _ _ ((Weak.keep [0, 6, 30]).trans ((Weak.foc [] rfl (by first | rfl | simp only [reduceCtorEq, Nat.reduceEqDiff, ak, akG, foc, focL, focR, fits, seg, mapN, mapN1, fwd, fwdR, fwd1, fwdQ, fwdP, isAt, inR, shOf, strip, reR, reP]) (by simp [argK, akG, ak])).trans (Weak.of_eq (by first | rfl | (simp only [reduceCtorEq, Nat.reduceEqDiff, ak, akG, foc, focL, focR, fits, seg, mapN, mapN1, fwd, fwdR, fwd1, fwdQ, fwdP, isAt, inR, shOf, strip, reR, reP]; done) | (simp [reduceCtorEq, Nat.reduceEqDiff, ak, akG, foc, focL, focR, fits, seg, mapN, mapN1, fwd, fwdR, fwd1, fwdQ, fwdP, isAt, inR, shOf, strip, reR, reP]; done))))) (hJ8 _ rfl)
        · rw [if_neg c15] at h
          have e17 : decide (t3 > 0) = false := decide_eq_false c15
          simp only [Nat.reduceEqDiff, Nat.reduceAdd, Nat.reduceMul, Nat.reduceLeDiff, Nat.reduceLT, Int.reduceLE, Int.reduceLT, Int.reduceGT, Int.reduceGE, Int.reduceEq, Int.reduceNe, Int.reduceToNat, reduceCtorEq, ak, e17]
          obtain rfl := Option.some.inj h
          refine G9n _ _ ((Weak.keep [0, 6, 30]).trans ((Weak.foc [] rfl (by first | rfl | simp only [reduceCtorEq, Nat.reduceEqDiff, ak, akG, foc, focL, focR, fits, seg, mapN, mapN1, fwd, fwdR, fwd1, fwdQ, fwdP, isAt, inR, shOf, strip, reR, reP]) (by simp [argK, akG, ak])).trans (Weak.of_eq (by first | rfl | (simp only [reduceCtorEq, Nat.reduceEqDiff, ak, akG, foc, focL, focR, fits, seg, mapN, mapN1, fwd, fwdR, fwd1, fwdQ, fwdP, isAt, inR, shOf, strip, reR, reP]; done) | (simp [reduceCtorEq, Nat.reduceEqDiff, ak, akG, foc, focL, focR, fits, seg, mapN, mapN1, fwd, fwdR, fwd1, fwdQ, fwdP, isAt, inR, shOf, strip, reR, reP]; done))))) (hJ8 _ rfl)
    · rw [if_neg c10] at h
      have e18 : decide (t3 < 0) = false := decide_eq_false c10
      simp only [Nat.reduceEqDiff, Nat.reduceAdd, Nat.reduceMul, Nat.reduceLeDiff, Nat.reduceLT, Int.reduceLE, Int.reduceLT, Int.reduceGT, Int.reduceGE, Int.reduceEq, Int.reduceNe, Int.reduceToNat, reduceCtorEq, ak, e18]
      by_cases c19 : t3 > 0
      · rw [if_pos c19] at h
        have e20 : decide (t3 > 0) = true := decide_eq_true c19
        simp only [Nat.reduceEqDiff, Nat.reduceAdd, Nat.reduceMul, Nat.reduceLeDiff, Nat.reduceLT, Int.reduceLE, Int.reduceLT, Int.reduceGT, Int.reduceGE, Int.reduceEq, Int.reduceNe, Int.reduceToNat, reduceCtorEq, ak, e20]
        obtain rfl := Option.some.inj h
        refine G9n _ _ ((Weak.keep [0, 6, 30]).trans ((Weak.foc [] rfl (by first | rfl | simp only [reduceCtorEq, Nat.reduceEqDiff, ak, akG, foc, focL, focR, fits, seg, mapN, mapN1, fwd, fwdR, fwd1, fwdQ, fwdP, isAt, inR, shOf, strip, reR, reP]) (by simp [argK, akG, ak])).trans (Weak.of_eq (by first | rfl | (simp only [reduceCtorEq, Nat.reduceEqDiff, ak, akG, foc, focL, focR, fits, seg, mapN, mapN1, fwd, fwdR, fwd1, fwdQ, fwdP, isAt, inR, shOf, strip, reR, reP]; done) | (simp [reduceCtorEq, Nat.reduceEqDiff, ak, akG, foc, focL, focR, fits, seg, mapN, mapN1, fwd, fwdR, fwd1, fwdQ, fwdP, isAt, inR, shOf, strip, reR, reP]; done))))) (hJ8 _ rfl)
      · rw [if_neg c19] at h
        have e21 : decide (t3 > 0) = false := decide_eq_false c19
        simp only [Nat.reduceEqDiff, Nat.reduceAdd, Nat.reduceMul, Nat.reduceLeDiff, Nat.reduceLT, Int.reduceLE, Int.reduceLT, Int.reduceGT, Int.reduceGE, Int.reduceEq, Int.reduceNe, Int.reduceToNat, reduceCtorEq, ak, e21]
        obtain rfl := Option.some.inj h
        refine G9n _ _ ((Weak.keep [0, 6, 30]).trans ((Weak.foc [] rfl (by first | rfl | simp only [reduceCtorEq, Nat.reduceEqDiff, ak, akG, foc, focL, focR, fits, seg, mapN, mapN1, fwd, fwdR, fwd1, fwdQ, fwdP, isAt, inR, shOf, strip, reR, reP]) (by simp [argK, akG, ak])).trans (Weak.of_eq (by first | rfl | (simp only [reduceCtorEq, Nat.reduceEqDiff, ak, akG, foc, focL, focR, fits, seg, mapN, mapN1, fwd, fwdR, fwd1, fwdQ, fwdP, isAt, inR, shOf, strip, reR, reP]; done) | (simp [reduceCtorEq, Nat.reduceEqDiff, ak, akG, foc, focL, focR, fits, seg, mapN, mapN1, fwd, fwdR, fwd1, fwdQ, fwdP, isAt, inR, shOf, strip, reR, reP]; done))))) (hJ8 _ rfl)
  · replace h := hn; clear hn h7
    rintro _ rfl
    refine cond_k (b := j6) rfl (fun c22 => ?_) (fun c22 => ?_)
    · rw [if_pos c22] at h
      refine seq_k fun J23 hJ23 => ?_
      refine reg_k ?_
      simp only [Nat.reduceEqDiff, Nat.reduceAdd, Nat.reduceMul, Nat.reduceLeDiff, Nat.reduceLT, Int.reduceLE, Int.reduceLT, Int.reduceGT, Int.reduceGE, Int.reduceEq, Int.reduceNe, Int.reduceToNat, reduceCtorEq, ak]
      refine hJ23 _ ?_
      obtain rfl := Option.some.inj h
      refine hKr _ ⟨_, rfl, [], _, rfl, rfl, ?_⟩
      first | rfl | (simp only [reduceCtorEq, Nat.reduceEqDiff, ak, akG, mapN, mapN1, fwd, fwdR, fwd1, fwdQ, fwdP, isAt, inR, shOf, strip, reR, reP, outPl, argPl, resPl]; done) | (simp [reduceCtorEq, Nat.reduceEqDiff, ak, akG, mapN, mapN1, fwd, fwdR, fwd1, fwdQ, fwdP, isAt, inR, shOf, strip, reR, reP, outPl, argPl, resPl]; done)
    · rw [if_neg (Bool.eq_false_iff.1 c22)] at h
      refine hJ5 _ ?_
      refine seq_k fun J24 hJ24 => ?_
      refine reg_k ?_
      simp only [Nat.reduceEqDiff, Nat.reduceAdd, Nat.reduceMul, Nat.reduceLeDiff, Nat.reduceLT, Int.reduceLE, Int.reduceLT, Int.reduceGT, Int.reduceGE, Int.reduceEq, Int.reduceNe, Int.reduceToNat, reduceCtorEq, ak]
      refine hJ24 _ ?_
      obtain rfl := Option.some.inj h
      refine hKr _ ⟨_, rfl, [], _, rfl, rfl, ?_⟩
      first | rfl | (simp only [reduceCtorEq, Nat.reduceEqDiff, ak, akG, mapN, mapN1, fwd, fwdR, fwd1, fwdQ, fwdP, isAt, inR, shOf, strip, reR, reP, outPl, argPl, resPl]; done) | (simp [reduceCtorEq, Nat.reduceEqDiff, ak, akG, mapN, mapN1, fwd, fwdR, fwd1, fwdQ, fwdP, isAt, inR, shOf, strip, reR, reP, outPl, argPl, resPl]; done)
/-! ### laws.FnSerial: function 8 -/
def c8 : AC := .seq (.reg [.op none (.mv 4 (.const (.bool false))), .keep [0, 1]]) (.seq (.seq (.ga (.reg [.op none (.mv 14 (.tmp 0)), .op none (.len 15 (.tmp 14)), .op none (.bin 16 .gtr (.tmp 15) (.const (.int .i64 1048576))), .op none (.mv 17 (.tmp 16)), .op (some (17, false)) (.mv 18 (.tmp 1)), .op (some (17, false)) (.len 19 (.tmp 18)), .op (some (17, false)) (.bin 20 .gtr (.tmp 19) (.const (.int .i64 1048576))), .op none (.pick 21 (.tmp 17) (.const (.bool true)) (.tmp 20)), .keep [0, 1, 21]])) (.cond (.tmp 21) (.seq (.reg [.op none (.mv 4 (.const (.bool true))), .keep [4]]) (.ret)) (.skip))) (.seq (.reg [.op none (.mv 23 (.tmp 0)), .call none (some 24) 25 [.tmp 23], .op none (.mv 22 (.tmp 24)), .op none (.extr 25 (.tmp 22) 0), .op none (.extr 26 (.tmp 22) 1), .op none (.mv 5 (.tmp 25)), .op none (.mv 6 (.tmp 26)), .keep [1, 5, 6]]) (.seq (.reg [.op none (.mv 27 (.tmp 5)), .op none (.mv 28 (.tmp 6)), .call none (some 29) 16 [.tmp 27, .tmp 28], .op none (.mv 7 (.tmp 29)), .keep [1, 5, 6, 7]]) (.seq (.seq (.ga (.reg [.op none (.mv 30 (.tmp 5)), .op none (.mv 31 (.tmp 7)), .op none (.conv 32 .u32 (.tmp 31)), .op none (.bin 33 .add (.tmp 30) (.tmp 32)), .op none (.mv 34 (.tmp 6)), .op none (.bin 35 .neq (.tmp 33) (.tmp 34)), .op none (.mv 36 (.tmp 35)), .op (some (36, false)) (.mv 37 (.tmp 7)), .op (some (36, false)) (.bin 38 .lss (.tmp 37) (.const (.int .i64 (-2147483648)))), .op none (.pick 39 (.tmp 36) (.const (.bool true)) (.tmp 38)), .op none (.mv 40 (.tmp 39)), .op (some (40, false)) (.mv 41 (.tmp 7)), .op (some (40, false)) (.bin 42 .geq (.tmp 41) (.const (.int .i64 2147483648))), .op none (.pick 43 (.tmp 40) (.const (.bool true)) (.tmp 42)), .keep [1, 5, 6, 7, 43]])) (.cond (.tmp 43) (.seq (.reg [.op none (.mv 4 (.const (.bool false))), .keep [4]]) (.ret)) (.skip))) (.seq (.seq (.ga (.reg [.op none (.mv 44 (.tmp 5)), .op none (.mv 45 (.tmp 6)), .op none (.bin 46 .neq (.tmp 44) (.tmp 45)), .op none (.mv 47 (.tmp 46)), .op (some (47, true)) (.mv 48 (.tmp 5)), .op (some (47, true)) (.mv 49 (.tmp 6)), .op (some (47, true)) (.bin 50 .sub (.tmp 48) (.tmp 49)), .op (some (47, true)) (.bin 51 .neq (.tmp 50) (.const (.int .u32 2147483648))), .op none (.pick 52 (.tmp 47) (.tmp 51) (.const (.bool false))), .op none (.mv 53 (.tmp 52)), .op (some (53, true)) (.mv 54 (.tmp 5)), .op (some (53, true)) (.mv 55 (.tmp 6)), .call (some (53, true)) (some 56) 18 [.tmp 54, .tmp 55], .op (some (53, true)) (.mv 57 (.tmp 6)), .op (some (53, true)) (.mv 58 (.tmp 5)), .call (some (53, true)) (some 59) 18 [.tmp 57, .tmp 58], .op (some (53, true)) (.beq 60 false (.tmp 56) (.tmp 59)), .op none (.pick 61 (.tmp 53) (.tmp 60) (.const (.bool false))), .op none (.mv 62 (.tmp 61)), .op (some (62, false)) (.mv 63 (.tmp 5)), .op (some (62, false)) (.mv 64 (.tmp 6)), .op (some (62, false)) (.bin 65 .eql (.tmp 63) (.tmp 64)), .op (some (62, false)) (.mv 66 (.tmp 65)), .op (some (66, true)) (.mv 67 (.tmp 5)), .op (some (66, true)) (.mv 68 (.tmp 6)), .call (some (66, true)) (some 69) 18 [.tmp 67, .tmp 68], .op (some (62, false)) (.pick 70 (.tmp 66) (.tmp 69) (.const (.bool false))), .op none (.pick 71 (.tmp 62) (.const (.bool true)) (.tmp 70)), .keep [1, 5, 6, 7, 71]])) (.cond (.tmp 71) (.seq (.reg [.op none (.mv 4 (.const (.bool false))), .keep [4]]) (.ret)) (.skip))) (.seq (.seq (.reg [.op none (.mv 72 (.tmp 5)), .op none (.mv 73 (.tmp 6)), .call none (some 74) 18 [.tmp 72, .tmp 73], .op none (.mv 75 (.tmp 7)), .op none (.bin 76 .gtr (.tmp 75) (.const (.int .i64 0))), .op none (.beq 77 true (.tmp 74) (.tmp 76)), .keep [1, 7, 77]]) (.cond (.tmp 77) (.seq (.reg [.op none (.mv 4 (.const (.bool false))), .keep [4]]) (.ret)) (.skip))) (.seq (.reg [.op none (.mv 79 (.tmp 1)), .call none (some 80) 26 [.tmp 79], .op none (.mv 78 (.tmp 80)), .op none (.extr 81 (.tmp 78) 0), .op none (.extr 82 (.tmp 78) 1), .op none (.mv 8 (.tmp 81)), .op none (.mv 9 (.tmp 82)), .keep [7, 8]]) (.seq (.reg [.op none (.mv 83 (.tmp 8)), .op none (.mv 84 (.tmp 7)), .op none (.conv 85 .u64 (.tmp 84)), .op none (.bin 86 .add (.tmp 83) (.tmp 85)), .op none (.mv 10 (.tmp 86)), .keep [7, 8, 10]]) (.seq (.reg [.op none (.mv 88 (.tmp 8)), .op none (.mv 89 (.tmp 10)), .op none (.conv 90 .u32 (.tmp 89)), .call none (some 91) 20 [.tmp 88, .tmp 90], .op none (.mv 87 (.tmp 91)), .op none (.extr 92 (.tmp 87) 0), .op none (.extr 93 (.tmp 87) 1), .op none (.mv 11 (.tmp 92)), .op none (.mv 12 (.tmp 93)), .keep [7, 8, 10, 11, 12]]) (.seq (.ga (.reg [.op none (.mv 94 (.tmp 7)), .op none (.bin 95 .geq (.tmp 94) (.const (.int .i64 0))), .op none (.mv 96 (.tmp 95)), .op (some (96, true)) (.mv 97 (.tmp 10)), .op (some (96, true)) (.mv 98 (.tmp 8)), .op (some (96, true)) (.bin 99 .lss (.tmp 97) (.tmp 98)), .op none (.pick 100 (.tmp 96) (.tmp 99) (.const (.bool false))), .op none (.mv 101 (.tmp 100)), .op (some (101, false)) (.mv 102 (.tmp 7)), .op (some (101, false)) (.bin 103 .lss (.tmp 102) (.const (.int .i64 0))), .op (some (101, false)) (.mv 104 (.tmp 103)), .op (some (104, true)) (.mv 105 (.tmp 10)), .op (some (104, true)) (.mv 106 (.tmp 8)), .op (some (104, true)) (.bin 107 .gtr (.tmp 105) (.tmp 106)), .op (some (101, false)) (.pick 108 (.tmp 104) (.tmp 107) (.const (.bool false))), .op none (.pick 109 (.tmp 101) (.const (.bool true)) (.tmp 108)), .op none (.mv 13 (.tmp 109)), .keep [10, 11, 12, 13]])) (.seq (.seq (.reg [.op none (.mv 110 (.tmp 13)), .keep [10, 11, 12, 110]]) (.cond (.tmp 110) (.seq (.reg [.op none (.mv 111 (.tmp 12)), .op none (.bin 112 .eql (.tmp 111) (.const (.int .i64 4))), .op none (.mv 4 (.tmp 112)), .keep [4]]) (.ret)) (.skip))) (.seq (.reg [.op none (.mv 113 (.tmp 12)), .op none (.bin 114 .eql (.tmp 113) (.const (.int .i64 0))), .op none (.mv 115 (.tmp 114)), .op (some (115, true)) (.mv 116 (.tmp 11)), .op (some (115, true)) (.mv 117 (.tmp 10)), .op (some (115, true)) (.bin 118 .eql (.tmp 116) (.tmp 117)), .op none (.pick 119 (.tmp 115) (.tmp 118) (.const (.bool false))), .op none (.mv 4 (.tmp 119)), .keep [4]]) (.ret)))))))))))))
def r8 : List RV := [.tmp 4]
theorem k8 : compC Try.prog 120 (Try.f8.body.getD .skip) = some c8.erase := by kernel_rfl
theorem q8 : rvsOf Try.prog Try.f8.results.toList = some r8 := by kernel_rfl
def laws_FnSerial.f (l0 : List Int) (l1 : List Int) : Option Bool := ((if (l0.length : Int) > 1048576 then (some true) else (some (decide ((l1.length : Int) > 1048576)))) >>= fun (j3 : Bool) => (if j3 = true then (some true) else (spec_DrawSerialDistance.f l0 >>= fun t13 => (impl_SerialDistance.f t13.1 t13.2 >>= fun t16 => ((if IntKind.u32.wrap (t13.1 + (IntKind.u32.wrap t16)) ≠ t13.2 then (some true) else (if t16 < (-2147483648) then (some true) else (some (decide (t16 ≥ 2147483648))))) >>= fun (j19 : Bool) => (if j19 = true then (some false) else ((if t13.1 ≠ t13.2 then (if IntKind.u32.wrap (t13.1 - t13.2) ≠ 2147483648 then (impl_SerialLess.f t13.1 t13.2 >>= fun t40 => (impl_SerialLess.f t13.2 t13.1 >>= fun t42 => (if (t40 == t42) = true then (some true) else (if t13.1 = t13.2 then (impl_SerialLess.f t13.1 t13.2 >>= fun t49 => (some t49)) else (some false))))) else (if t13.1 = t13.2 then (impl_SerialLess.f t13.1 t13.2 >>= fun t55 => (some t55)) else (some false))) else (if t13.1 = t13.2 then (impl_SerialLess.f t13.1 t13.2 >>= fun t61 => (some t61)) else (some false))) >>= fun (j32 : Bool) => (if j32 = true then (some false) else (impl_SerialLess.f t13.1 t13.2 >>= fun t68 => (if (!(t68 == (decide (t16 > 0)))) = true then (some false) else (spec_DrawLift.f l1 >>= fun t73 => (impl_Lift.f t73.1 (IntKind.u32.wrap (IntKind.u64.wrap (t73.1 + (IntKind.u64.wrap t16)))) >>= fun t77 => ((if t16 ≥ 0 then (if IntKind.u64.wrap (t73.1 + (IntKind.u64.wrap t16)) < t73.1 then (some true) else (if t16 < 0 then (some (decide (IntKind.u64.wrap (t73.1 + (IntKind.u64.wrap t16)) > t73.1))) else (some false))) else (if t16 < 0 then (some (decide (IntKind.u64.wrap (t73.1 + (IntKind.u64.wrap t16)) > t73.1))) else (some false))) >>= fun (j79 : Bool) => (if j79 = true then (some (decide (t77.2 = 4))) else (if t77.2 = 0 then (some (decide (t77.1 = IntKind.u64.wrap (t73.1 + (IntKind.u64.wrap t16))))) else (some false))))))))))))))))
set_option maxRecDepth 100000 in
set_option maxHeartbeats 4000000 in
theorem laws_FnSerial.tri (cs0 : List Cell) (o0 : Nat) (l0 : List Int) (hv0 : Vw c_u8 1 cs0 o0 l0) (cs1 : List Cell) (o1 : Nat) (l1 : List Int) (hv1 : Vw c_u8 1 cs1 o1 l1) (r : Bool) (h : laws_FnSerial.f l0 l1 = some r) : Tri Try.prog 8 [.c (.ref (.arg 0) [] o0 l0.length), .c (.ref (.arg 1) [] o1 l1.length)] [(.arg 0, ⟨.fz, 1, cs0⟩), (.arg 1, ⟨.fz, 1, cs1⟩)] (fun o => o = ⟨.c (.sc (.bool r)), [(.arg 0, ⟨.fz, 1, cs0⟩), (.arg 1, ⟨.fz, 1, cs1⟩)], [], []⟩) := by
  refine tri_of_body (ac := c8) (xs := r8) Try.func8 (show Try.f8.body = some (Try.f8.body.getD .skip) from rfl) k8 q8 (Nat.le_of_ble_eq_true rfl) ?_
  refine body_of fun K hKn hKr => ?_
  unfold laws_FnSerial.f at h
  unfold c8
  simp only [initT, Nat.reduceAdd]
  refine seq_k fun J1 hJ1 => ?_
  refine reg_k ?_
  simp only [Nat.reduceEqDiff, Nat.reduceAdd, Nat.reduceMul, Nat.reduceLeDiff, Nat.reduceLT, Int.reduceLE, Int.reduceLT, Int.reduceGT, Int.reduceGE, Int.reduceEq, Int.reduceNe, Int.reduceToNat, reduceCtorEq, ak]
  refine hJ1 _ ?_
  refine seq_k fun J2 hJ2 => ?_
  obtain ⟨j3, h4, hn⟩ := of_bind h
  refine seq_j (fun st => st = ⟨[(0, .c (.ref (.arg 0) [] o0 l0.length)), (1, .c (.ref (.arg 1) [] o1 l1.length)), (21, .c (.sc (.bool j3)))], [(.arg 0, ⟨.fz, 1, cs0⟩), (.arg 1, ⟨.fz, 1, cs1⟩)], [], []⟩) (fun J5 hJ5 => ?_) ?_
  · replace h := h4; clear hn
    refine ga_k fun G6 G6n G6r G6x => ?_
    refine reg_k ?_
    simp only [Nat.reduceEqDiff, Nat.reduceAdd, Nat.reduceMul, Nat.reduceLeDiff, Nat.reduceLT, Int.reduceLE, Int.reduceLT, Int.reduceGT, Int.reduceGE, Int.reduceEq, Int.reduceNe, Int.reduceToNat, reduceCtorEq, ak]
    by_cases c7 : (l0.length : Int) > 1048576
    · rw [if_pos c7] at h
      have e8 : decide ((l0.length : Int) > 1048576) = true := decide_eq_true c7
      simp only [Nat.reduceEqDiff, Nat.reduceAdd, Nat.reduceMul, Nat.reduceLeDiff, Nat.reduceLT, Int.reduceLE, Int.reduceLT, Int.reduceGT, Int.reduceGE, Int.reduceEq, Int.reduceNe, Int.reduceToNat, reduceCtorEq, ak, e8]
      obtain rfl := Option.some.inj h
      refine G6n _ _ ((Weak.keep [0, 1, 21]).trans ((Weak.foc [(.arg 0, ⟨(.arg 0), [], none, .fz⟩), (.arg 1, ⟨(.arg 1), [], none, .fz⟩)] rfl (by first | rfl | simp only [reduceCtorEq, Nat.reduceEqDiff, ak, akG, foc, focL, focR, fits, seg, mapN, mapN1, fwd, fwdR, fwd1, fwdQ, fwdP, isAt, inR, shOf, strip, reR, reP]) (by simp [argK, akG, ak])).trans (Weak.of_eq (by first | rfl | (simp only [reduceCtorEq, Nat.reduceEqDiff, ak, akG, foc, focL, focR, fits, seg, mapN, mapN1, fwd, fwdR, fwd1, fwdQ, fwdP, isAt, inR, shOf, strip, reR, reP]; done) | (simp [reduceCtorEq, Nat.reduceEqDiff, ak, akG, foc, focL, focR, fits, seg, mapN, mapN1, fwd, fwdR, fwd1, fwdQ, fwdP, isAt, inR, shOf, strip, reR, reP]; done))))) (hJ5 _ rfl)
    · rw [if_neg c7] at h
      have e9 : decide ((l0.length : Int) > 1048576) = false := decide_eq_false c7
      simp only [Nat.reduceEqDiff, Nat.reduceAdd, Nat.reduceMul, Nat.reduceLeDiff, Nat.reduceLT, Int.reduceLE, Int.reduceLT, Int.reduceGT, Int.reduceGE, Int.reduceEq, Int.reduceNe, Int.reduceToNat, reduceCtorEq, ak, e9]
      obtain rfl := Option.some.inj h
      refine G6n _ _ ((Weak.keep [0, 1, 21]).trans ((Weak.foc [(.arg 0, ⟨(.arg 0), [], none, .fz⟩), (.arg 1, ⟨(.arg 1), [], none, .fz⟩)] rfl (by first | rfl | simp only [reduceCtorEq, Nat.reduceEqDiff, ak, akG, foc, focL, focR, fits, seg, mapN, mapN1, fwd, fwdR, fwd1, fwdQ, fwdP, isAt, inR, shOf, strip, reR, reP]) (by simp [argK, akG, ak])).trans (Weak.of_eq (by first | rfl | (simp only [reduceCtorEq, Nat.reduceEqDiff, ak, akG, foc, focL, focR, fits, seg, mapN, mapN1, fwd, fwdR, fwd1, fwdQ, fwdP, isAt, inR, shOf, strip, reR, reP]; done) | (simp [reduceCtorEq, Nat.reduceEqDiff, ak, akG, foc, focL, focR, fits, seg, mapN, mapN1, fwd, fwdR, fwd1, fwdQ, fwdP, isAt, inR, shOf, strip, reR, reP]; done))))) (hJ5 _ rfl)
  · replace h := hn; clear hn h4
    rintro _ rfl
    refine cond_k (b := j3) rfl (fun c10 => ?_) (fun c10 => ?_)
    · rw [if_pos c10] at h
      refine seq_k fun J11 hJ11 => ?_
      refine reg_k ?_
      simp only [Nat.reduceEqDiff, Nat.reduceAdd, Nat.reduceMul, Nat.reduceLeDiff, Nat.reduceLT, Int.reduceLE, Int.reduceLT, Int.reduceGT, Int.reduceGE, Int.reduceEq, Int.reduceNe, Int.reduceToNat, reduceCtorEq, ak]
      refine hJ11 _ ?_
      obtain rfl := Option.some.inj h
      refine hKr _ ⟨_, rfl, [], _, rfl, rfl, ?_⟩
      first | rfl | (simp only [reduceCtorEq, Nat.reduceEqDiff, ak, akG, mapN, mapN1, fwd, fwdR, fwd1, fwdQ, fwdP, isAt, inR, shOf, strip, reR, reP, outPl, argPl, resPl]; done) | (simp [reduceCtorEq, Nat.reduceEqDiff, ak, akG, mapN, mapN1, fwd, fwdR, fwd1, fwdQ, fwdP, isAt, inR, shOf, strip, reR, reP, outPl, argPl, resPl]; done)
    · rw [if_neg (Bool.eq_false_iff.1 c10)] at h
      refine hJ2 _ ?_
      refine seq_k fun J12 hJ12 => ?_
      refine reg_k ?_
      simp only [Nat.reduceEqDiff, Nat.reduceAdd, Nat.reduceMul, Nat.reduceLeDiff, Nat.reduceLT, Int.reduceLE, Int.reduceLT, Int.reduceGT, Int.reduceGE, Int.reduceEq, Int.reduceNe, Int.reduceToNat, reduceCtorEq, ak]
      obtain ⟨t13, h14, h⟩ := of_bind h
      refine call_k [(.arg 0, ⟨(.arg 0), [], none, .fz⟩)] (s0 := [(.arg 0, ⟨.fz, 1, cs0⟩)]) (s4 := [(.arg 0, ⟨.fz, 1, cs0⟩), (.arg 1, ⟨.fz, 1, cs1⟩)]) (v' := .tup [(false, [.sc (.int .u32 t13.1)]), (false, [.sc (.int .u32 t13.2)])]) (by intro t ht; cases ht; decide) rfl rfl (by first | rfl | simp only [reduceCtorEq, Nat.reduceEqDiff, ak, foc, focL, focR, fits, seg, mapN, mapN1, fwd, fwdR, fwd1, fwdQ, fwdP, isAt, inR, strip, reR, reP]) (spec_DrawSerialDistance.tri (cs0) o0 l0 hv0 _ h14) (by first | rfl | simp only [reduceCtorEq, Nat.reduceEqDiff, ak, mapN, mapN1, fwd, fwdR, fwd1, fwdQ, fwdP, isAt, inR, strip, reR, reP]) (by simp [bkOk]) (mrgL_fz (mrgL_nil' _ _ _) rfl (by first | rfl | simp only [reduceCtorEq, Nat.reduceEqDiff, ak]) rfl (by intro R hR hh; cases hR; cases hh.2)) (by first | rfl | simp only [reduceCtorEq, Nat.reduceEqDiff, ak, mapN, mapN1, bwd, bwdR, upP, shOf, akG, reR, reP, Nat.zero_add, List.append_nil]) (by first | rfl | simp only [reduceCtorEq, Nat.reduceEqDiff, ak, mapN, mapN1, bwd, bwdR, upP, shOf, akG, reR, reP, Nat.zero_add, List.append_nil]) ?_
      simp only [Nat.reduceEqDiff, Nat.reduceAdd, Nat.reduceMul, Nat.reduceLeDiff, Nat.reduceLT, Int.reduceLE, Int.reduceLT, Int.reduceGT, Int.reduceGE, Int.reduceEq, Int.reduceNe, Int.reduceToNat, reduceCtorEq, ak]
      refine hJ12 _ ?_
      refine seq_k fun J15 hJ15 => ?_
      refine reg_k ?_
      simp only [Nat.reduceEqDiff, Nat.reduceAdd, Nat.reduceMul, Nat.reduceLeDiff, Nat.reduceLT, Int.reduceLE, Int.reduceLT, Int.reduceGT, Int.reduceGE, Int.reduceEq, Int.reduceNe, Int.reduceToNat, reduceCtorEq, ak]
      obtain ⟨t16, h17, h⟩ := of_bind h
      refine call_k [] (s0 := []) (s4 := [(.arg 0, ⟨.fz, 1, cs0⟩), (.arg 1, ⟨.fz, 1, cs1⟩)]) (v' := .c (.sc (.int .i64 t16))) (by intro t ht; cases ht; decide) rfl rfl (by first | rfl | simp only [reduceCtorEq, Nat.reduceEqDiff, ak, foc, focL, focR, fits, seg, mapN, mapN1, fwd, fwdR, fwd1, fwdQ, fwdP, isAt, inR, strip, reR, reP]) (impl_SerialDistance.tri t13.1 t13.2 _ h17) (by first | rfl | simp only [reduceCtorEq, Nat.reduceEqDiff, ak, mapN, mapN1, fwd, fwdR, fwd1, fwdQ, fwdP, isAt, inR, strip, reR, reP]) (by simp [bkOk]) (mrgL_nil' _ _ _) (by first | rfl | simp only [reduceCtorEq, Nat.reduceEqDiff, ak, mapN, mapN1, bwd, bwdR, upP, shOf, akG, reR, reP, Nat.zero_add, List.append_nil]) (by first | rfl | simp only [reduceCtorEq, Nat.reduceEqDiff, ak, mapN, mapN1, bwd, bwdR, upP, shOf, akG, reR, reP, Nat.zero_add, List.append_nil]) ?_
      simp only [Nat.reduceEqDiff, Nat.reduceAdd, Nat.reduceMul, Nat.reduceLeDiff, Nat.reduceLT, Int.reduceLE, Int.reduceLT, Int.reduceGT, Int.reduceGE, Int.reduceEq, Int.reduceNe, Int.reduceToNat, reduceCtorEq, ak]
      refine hJ15 _ ?_
      refine seq_k fun J18 hJ18 => ?_
      obtain ⟨j19, h20, hn⟩ := of_bind h
      refine seq_j (fun st => st = ⟨[(1, .c (.ref (.arg 1) [] o1 l1.length)), (5, .c (.sc (.int .u32 t13.1))), (6, .c (.sc (.int .u32 t13.2))), (7, .c (.sc (.int .i64 t16))), (43, .c (.sc (.bool j19)))], [(.arg 0, ⟨.fz, 1, cs0⟩), (.arg 1, ⟨.fz, 1, cs1⟩)], [], []⟩) (fun J21 hJ21 => ?_) ?_
      · replace h := h20; clear hn
        refine ga_k fun G22 G22n G22r G22x => ?_
        refine reg_k ?_
        simp only [Nat.reduceEqDiff, Nat.reduceAdd, Nat.reduceMul, Nat.reduceLeDiff, Nat.reduceLT, Int.reduceLE, Int.reduceLT, Int.reduceGT, Int.reduceGE, Int.reduceEq, Int.reduceNe, Int.reduceToNat, reduceCtorEq, ak]
        by_cases c23 : IntKind.u32.wrap (t13.1 + (IntKind.u32.wrap t16)) ≠ t13.2
        · rw [if_pos c23] at h
          have e24 : decide (IntKind.u32.wrap (t13.1 + (IntKind.u32.wrap t16)) ≠ t13.2) = true := decide_eq_true c23
          simp only [Nat.reduceEqDiff, Nat.reduceAdd, Nat.reduceMul, Nat.reduceLeDiff, Nat.reduceLT, Int.reduceLE, Int.reduceLT, Int.reduceGT, Int.reduceGE, Int.reduceEq, Int.reduceNe, Int.reduceToNat, reduceCtorEq, ak, e24]
          obtain rfl := Option.some.inj h
          refine G22n _ _ ((Weak.keep [1, 5, 6, 7, 43]).trans ((Weak.foc [(.arg 0, ⟨(.arg 0), [], none, .fz⟩), (.arg 1, ⟨(.arg 1), [], none, .fz⟩)] rfl (by first | rfl | simp only [reduceCtorEq, Nat.reduceEqDiff, ak, akG, foc, focL, focR, fits, seg, mapN, mapN1, fwd, fwdR, fwd1, fwdQ, fwdP, isAt, inR, shOf, strip, reR, reP]) (by simp [argK, akG, ak])).trans (Weak.of_eq (by first | rfl | (simp only [reduceCtorEq, Nat.reduceEqDiff, ak, akG, foc, focL, focR, fits, seg, mapN, mapN1, fwd, fwdR, fwd1, fwdQ, fwdP, isAt, inR, shOf, strip, reR, reP]; done) | (simp [reduceCtorEq, Nat.reduceEqDiff, ak, akG, foc, focL, focR, fits, seg, mapN, mapN1, fwd, fwdR, fwd1, fwdQ, fwdP, isAt, inR, shOf, strip, reR, reP]; done))))) (hJ21 _ rfl)
        · rw [if_neg c23] at h
          have e25 : decide (IntKind.u32.wrap (t13.1 + (IntKind.u32.wrap t16)) ≠ t13.2) = false := decide_eq_false c23
          simp only [Nat.reduceEqDiff, Nat.reduceAdd, Nat.reduceMul, Nat.reduceLeDiff, Nat.reduceLT, Int.reduceLE, Int.reduceLT, Int.reduceGT, Int.reduceGE, Int.reduceEq, Int.reduceNe, Int.reduceToNat, reduceCtorEq, ak, e25]
          by_cases c26 : t16 < (-2147483648)
          · rw [if_pos c26] at h
            have e27 : decide (t16 < (-2147483648)) = true := decide_eq_true c26
            simp only [Nat.reduceEqDiff, Nat.reduceAdd, Nat.reduceMul, Nat.reduceLeDiff, Nat.reduceLT, Int.reduceLE, Int.reduceLT, Int.reduceGT, Int.reduceGE, Int.reduceEq, Int.reduceNe, Int.reduceToNat, reduceCtorEq, ak, e27]
            obtain rfl := Option.some.inj h
            refine G22n _ _ ((Weak.keep [1, 5, 6, 7, 43]).trans ((Weak.foc [(.arg 0, ⟨(.arg 0), [], none, .fz⟩), (.arg 1, ⟨(.arg 1), [], none, .fz⟩)] rfl (by first | rfl | simp only [reduceCtorEq, Nat.reduceEqDiff, ak, akG, foc, focL, focR, fits, seg, mapN, mapN1, fwd, fwdR, fwd1, fwdQ, fwdP, isAt, inR, shOf, strip, reR, reP]) (by simp [argK, akG, ak])).trans (Weak.of_eq (by first | rfl | (simp only [reduceCtorEq, Nat.reduceEqDiff, ak, akG, foc, focL, focR, fits, seg, mapN, mapN1, fwd, fwdR, fwd1, fwdQ, fwdP, isAt, inR, shOf, strip, reR, reP]; done) | (simp [reduceCtorEq, Nat.reduceEqDiff, ak, akG, foc, focL, focR, fits, seg, mapN, mapN1, fwd, fwdR, fwd1, fwdQ, fwdP, isAt, inR, shOf, strip, reR, reP]; done))))) (hJ21 _ rfl)
          · rw [if_neg c26] at h
            have e28 : decide (t16 < (-2147483648)) = false := decide_eq_false c26
            simp only [Nat.reduceEqDiff, Nat.reduceAdd, Nat.reduceMul, Nat.reduceLeDiff, Nat.reduceLT, Int.reduceLE, Int.reduceLT, Int.reduceGT, Int.reduceGE, Int.reduceEq, Int.reduceNe, Int.reduceToNat, reduceCtorEq, ak, e28]
            obtain rfl := Option.some.inj h
            refine G22n _ _ ((Weak.keep [1, 5, 6, 7, 43]).trans ((Weak.foc [(.arg 0, ⟨(.arg 0), [], none, .fz⟩), (.arg 1, ⟨(.arg 1), [], none, .fz⟩)] rfl (by first | rfl | simp only [reduceCtorEq, Nat.reduceEqDiff, ak, akG, foc, focL, focR, fits, seg, mapN, mapN1, fwd, fwdR, fwd1, fwdQ, fwdP, isAt, inR, shOf, strip, reR, reP]) (by simp [argK, akG, ak])).trans (Weak.of_eq (by first | rfl | (simp only [reduceCtorEq, Nat.reduceEqDiff, ak, akG, foc, focL, focR, fits, seg, mapN, mapN1, fwd, fwdR, fwd1, fwdQ, fwdP, isAt, inR, shOf, strip, reR, reP]; done) | (simp [reduceCtorEq, Nat.reduceEqDiff, ak, akG, foc, focL, focR, fits, seg, mapN, mapN1, fwd, fwdR, fwd1, fwdQ, fwdP, isAt, inR, shOf, strip, reR, reP]; done))))) (hJ21 _ rfl)
      · replace h := hn; clear hn h20
        rintro _ rfl
        refine cond_k (b := j19) rfl (fun c29 => ?_) (fun c29 => ?_)
        · rw [if_pos c29] at h
          refine seq_k fun J30 hJ30 => ?_
          refine reg_k ?_
          simp only [Nat.reduceEqDiff, Nat.reduceAdd, Nat.reduceMul, Nat.reduceLeDiff, Nat.reduceLT, Int.reduceLE, Int.reduceLT, Int.reduceGT, Int.reduceGE, Int.reduceEq, Int.reduceNe, Int.reduceToNat, reduceCtorEq, ak]
          refine hJ30 _ ?_
          obtain rfl := Option.some.inj h
          refine hKr _ ⟨_, rfl, [], _, rfl, rfl, ?_⟩
          first | rfl | (simp only [reduceCtorEq, Nat.reduceEqDiff, ak, akG, mapN, mapN1, fwd, fwdR, fwd1, fwdQ, fwdP, isAt, inR, shOf, strip, reR, reP, outPl, argPl, resPl]; done) | (simp [reduceCtorEq, Nat.reduceEqDiff, ak, akG, mapN, mapN1, fwd, fwdR, fwd1, fwdQ, fwdP, isAt, inR, shOf, strip, reR, reP, outPl, argPl, resPl]; done)
        · rw [if_neg (Bool.eq_false_iff.1 c29)] at h
          refine hJ18 _ ?_
          refine seq_k fun J31 hJ31 => ?_
          obtain ⟨j32, h33, hn⟩ := of_bind h
          refine seq_j (fun st => st = ⟨[(1, .c (.ref (.arg 1) [] o1 l1.length)), (5, .c (.sc (.int .u32 t13.1))), (6, .c (.sc (.int .u32 t13.2))), (7, .c (.sc (.int .i64 t16))), (71, .c (.sc (.bool j32)))], [(.arg 0, ⟨.fz, 1, cs0⟩), (.arg 1, ⟨.fz, 1, cs1⟩)], [], []⟩) (fun J34 hJ34 => ?_) ?_
          · replace h := h33; clear hn
            refine ga_k fun G35 G35n G35r G35x => ?_
            refine reg_k ?_
            simp only [Nat.reduceEqDiff, Nat.reduceAdd, Nat.reduceMul, Nat.reduceLeDiff, Nat.reduceLT, Int.reduceLE, Int.reduceLT, Int.reduceGT, Int.reduceGE, Int.reduceEq, Int.reduceNe, Int.reduceToNat, reduceCtorEq, ak]
            by_cases c36 : t13.1 ≠ t13.2
            · rw [if_pos c36] at h
              have e37 : decide (t13.1 ≠ t13.2) = true := decide_eq_true c36
              simp only [Nat.reduceEqDiff, Nat.reduceAdd, Nat.reduceMul, Nat.reduceLeDiff, Nat.reduceLT, Int.reduceLE, Int.reduceLT, Int.reduceGT, Int.reduceGE, Int.reduceEq, Int.reduceNe, Int.reduceToNat, reduceCtorEq, ak, e37]
              by_cases c38 : IntKind.u32.wrap (t13.1 - t13.2) ≠ 2147483648
              · rw [if_pos c38] at h
                have e39 : decide (IntKind.u32.wrap (t13.1 - t13.2) ≠ 2147483648) = true := decide_eq_true c38
                simp only [Nat.reduceEqDiff, Nat.reduceAdd, Nat.reduceMul, Nat.reduceLeDiff, Nat.reduceLT, Int.reduceLE, Int.reduceLT, Int.reduceGT, Int.reduceGE, Int.reduceEq, Int.reduceNe, Int.reduceToNat, reduceCtorEq, ak, e39]
                obtain ⟨t40, h41, h⟩ := of_bind h
                refine call_k [] (s0 := []) (s4 := [(.arg 0, ⟨.fz, 1, cs0⟩), (.arg 1, ⟨.fz, 1, cs1⟩)]) (v' := .c (.sc (.bool t40))) (by intro t ht; cases ht; decide) rfl rfl (by first | rfl | simp only [reduceCtorEq, Nat.reduceEqDiff, ak, foc, focL, focR, fits, seg, mapN, mapN1, fwd, fwdR, fwd1, fwdQ, fwdP, isAt, inR, strip, reR, reP]) (impl_SerialLess.tri t13.1 t13.2 _ h41) (by first | rfl | simp only [reduceCtorEq, Nat.reduceEqDiff, ak, mapN, mapN1, fwd, fwdR, fwd1, fwdQ, fwdP, isAt, inR, strip, reR, reP]) (by simp [bkOk]) (mrgL_nil' _ _ _) (by first | rfl | simp only [reduceCtorEq, Nat.reduceEqDiff, ak, mapN, mapN1, bwd, bwdR, upP, shOf, akG, reR, reP, Nat.zero_add, List.append_nil]) (by first | rfl | simp only [reduceCtorEq, Nat.reduceEqDiff, ak, mapN, mapN1, bwd, bwdR, upP, shOf, akG, reR, reP, Nat.zero_add, List.append_nil]) ?_
                simp only [Nat.reduceEqDiff, Nat.reduceAdd, Nat.reduceMul, Nat.reduceLeDiff, Nat.reduceLT, Int.reduceLE, Int.reduceLT, Int.reduceGT, Int.reduceGE, Int.reduceEq, Int.reduceNe, Int.reduceToNat, reduceCtorEq, ak]
                obtain ⟨t42, h43, h⟩ := of_bind h
                refine call_k [] (s0 := []) (s4 := [(.arg 0, ⟨.fz, 1, cs0⟩), (.arg 1, ⟨.fz, 1, cs1⟩)]) (v' := .c (.sc (.bool t42))) (by intro t ht; cases ht; decide) rfl rfl (by first | rfl | simp only [reduceCtorEq, Nat.reduceEqDiff, ak, foc, focL, focR, fits, seg, mapN, mapN1, fwd, fwdR, fwd1, fwdQ, fwdP, isAt, inR, strip, reR, reP]) (impl_SerialLess.tri t13.2 t13.1 _ h43) (by first | rfl | simp only [reduceCtorEq, Nat.reduceEqDiff, ak, mapN, mapN1, fwd, fwdR, fwd1, fwdQ, fwdP, isAt, inR, strip, reR, reP]) (by simp [bkOk]) (mrgL_nil' _ _ _) (by first | rfl | simp only [reduceCtorEq, Nat.reduceEqDiff, ak, mapN, mapN1, bwd, bwdR, upP, shOf, akG, reR, reP, Nat.zero_add, List.append_nil]) (by first | rfl | simp only [reduceCtorEq, Nat.reduceEqDiff, ak, mapN, mapN1, bwd, bwdR, upP, shOf, akG, reR, reP, Nat.zero_add, List.append_nil]) ?_
                simp only [Nat.reduceEqDiff, Nat.reduceAdd, Nat.reduceMul, Nat.reduceLeDiff, Nat.reduceLT, Int.reduceLE, Int.reduceLT, Int.reduceGT, Int.reduceGE, Int.reduceEq, Int.reduceNe, Int.reduceToNat, reduceCtorEq, ak]
                by_cases c44 : (t40 == t42) = true
                · rw [if_pos c44] at h
                  have e45 : (t40 == t42) = true := c44
                  simp only [Nat.reduceEqDiff, Nat.reduceAdd, Nat.reduceMul, Nat.reduceLeDiff, Nat.reduceLT, Int.reduceLE, Int.reduceLT, Int.reduceGT, Int.reduceGE, Int.reduceEq, Int.reduceNe, Int.reduceToNat, reduceCtorEq, ak, e45]
                  obtain rfl := Option.some.inj h
                  refine G35n _ _ ((Weak.keep [1, 5, 6, 7, 71]).trans ((Weak.foc [(.arg 0, ⟨(.arg 0), [], none, .fz⟩), (.arg 1, ⟨(.arg 1), [], none, .fz⟩)] rfl (by first | rfl | simp only [reduceCtorEq, Nat.reduceEqDiff, ak, akG, foc, focL, focR, fits, seg, mapN, mapN1, fwd, fwdR, fwd1, fwdQ, fwdP, isAt, inR, shOf, strip, reR, reP]) (by simp [argK, akG, ak])).trans (Weak.of_eq (by first | rfl | (simp only [reduceCtorEq, Nat.reduceEqDiff, ak, akG, foc, focL, focR, fits, seg, mapN, mapN1, fwd, fwdR, fwd1, fwdQ, fwdP, isAt, inR, shOf, strip, reR, reP]; done) | (simp [reduceCtorEq, Nat.reduceEqDiff, ak, akG, foc, focL, focR, fits, seg, mapN, mapN1, fwd, fwdR, fwd1, fwdQ, fwdP, isAt, inR, shOf, strip, reR, reP]; done))))) (hJ34 _ rfl)
                · rw [if_neg c44] at h
                  have e46 : (t40 == t42) = false := Bool.eq_false_iff.2 c44
                  simp only [Nat.reduceEqDiff, Nat.reduceAdd, Nat.reduceMul, Nat.reduceLeDiff, Nat.reduceLT, Int.reduceLE, Int.reduceLT, Int.reduceGT, Int.reduceGE, Int.reduceEq, Int.reduceNe, Int.reduceToNat, reduceCtorEq, ak, e46]
                  by_cases c47 : t13.1 = t13.2
                  · rw [if_pos c47] at h
                    have e48 : decide (t13.1 = t13.2) = true := decide_eq_true c47
                    simp only [Nat.reduceEqDiff, Nat.reduceAdd, Nat.reduceMul, Nat.reduceLeDiff, Nat.reduceLT, Int.reduceLE, Int.reduceLT, Int.reduceGT, Int.reduceGE, Int.reduceEq, Int.reduceNe, Int.reduceToNat, reduceCtorEq, ak, e48]
                    obtain ⟨t49, h50, h⟩ := of_bind h
                    refine call_k [] (s0 := []) (s4 := [(.arg 0, ⟨.fz, 1, cs0⟩), (.arg 1, ⟨.fz, 1, cs1⟩)]) (v' := .c (.sc (.bool t49))) (by intro t ht; cases ht; decide) rfl rfl (by first | rfl | simp only [reduceCtorEq, Nat.reduceEqDiff, ak, foc, focL, focR, fits, seg, mapN, mapN1, fwd, fwdR, fwd1, fwdQ, fwdP, isAt, inR, strip, reR, reP]) (impl_SerialLess.tri t13.1 t13.2 _ h50) (by first | rfl | simp only [reduceCtorEq, Nat.reduceEqDiff, ak, mapN, mapN1, fwd, fwdR, fwd1, fwdQ, fwdP, isAt, inR, strip, reR, reP]) (by simp [bkOk]) (mrgL_nil' _ _ _) (by first | rfl | simp only [reduceCtorEq, Nat.reduceEqDiff, ak, mapN, mapN1, bwd, bwdR, upP, shOf, akG, reR, reP, Nat.zero_add, List.append_nil]) (by first | rfl | simp only [reduceCtorEq, Nat.reduceEqDiff, ak, mapN, mapN1, bwd, bwdR, upP, shOf, akG, reR, reP, Nat.zero_add, List.append_nil]) ?_
                    simp only [Nat.reduceEqDiff, Nat.reduceAdd, Nat.reduceMul, Nat.reduceLeDiff, Nat.reduceLT, Int.reduceLE, Int.reduceLT, Int.reduceGT, Int.reduceGE, Int.reduceEq, Int.reduceNe, Int.reduceToNat, reduceCtorEq, ak]
                    obtain rfl := Option.some.inj h
                    refine G35n _ _ ((Weak.keep [1, 5, 6, 7, 71]).trans ((Weak.foc [(.arg 0, ⟨(.arg 0), [], none, .fz⟩), (.arg 1, ⟨(.arg 1), [], none, .fz⟩)] rfl (by first | rfl | simp only [reduceCtorEq, Nat.reduceEqDiff, ak, akG, foc, focL, focR, fits, seg, mapN, mapN1, fwd, fwdR, fwd1, fwdQ, fwdP, isAt, inR, shOf, strip, reR, reP]) (by simp [argK, akG, ak])).trans (Weak.of_eq (by first | rfl | (simp only [reduceCtorEq, Nat.reduceEqDiff, ak, akG, foc, focL, focR, fits, seg, mapN, mapN1, fwd, fwdR, fwd1, fwdQ, fwdP, isAt, inR, shOf, strip, reR, reP]; done) | (simp [reduceCtorEq, Nat.reduceEqDiff, ak, akG, foc, focL, focR, fits, seg, mapN, mapN1, fwd, fwdR, fwd1, fwdQ, fwdP, isAt, inR, shOf, strip, reR, reP]; done))))) (hJ34 _ rfl)
                  · rw [if_neg c47] at h
                    have e51 : decide (t13.1 = t13.2) = false := decide_eq_false c47
                    simp only [Nat.reduceEqDiff, Nat.reduceAdd, Nat.reduceMul, Nat.reduceLeDiff, Nat.reduceLT, Int.reduceLE, Int.reduceLT, Int.reduceGT, Int.reduceGE, Int.reduceEq, Int.reduceNe, Int.reduceToNat, reduceCtorEq, ak, e51]
                    obtain rfl := Option.some.inj h
                    refine G35n _ _ ((Weak.keep [1, 5, 6, 7, 71]).trans ((Weak.foc [(.arg 0, ⟨(.arg 0), [], none, .fz⟩), (.arg 1, ⟨(.arg 1), [], none, .fz⟩)] rfl (by first | rfl | simp only [reduceCtorEq, Nat.reduceEqDiff, ak, akG, foc, focL, focR, fits, seg, mapN, mapN1, fwd, fwdR, fwd1, fwdQ, fwdP, isAt, inR, shOf, strip, reR, reP]) (by simp [argK, akG, ak])).trans (Weak.of_eq (by first | rfl | (simp only [reduceCtorEq, Nat.reduceEqDiff, ak, akG, foc, focL, focR, fits, seg, mapN, mapN1, fwd, fwdR, fwd1, fwdQ, fwdP, isAt, inR, shOf, strip, reR, reP]; done) | (simp [reduceCtorEq, Nat.reduceEqDiff, ak, akG, foc, focL, focR, fits, seg, mapN, mapN1, fwd, fwdR, fwd1, fwdQ, fwdP, isAt, inR, shOf, strip, reR, reP]; done))))) (hJ34 _ rfl)
              · rw [if_neg c38] at h
                have e52 : decide (IntKind.u32.wrap (t13.1 - t13.2) ≠ 2147483648) = false := decide_eq_false c38
                simp only [Nat.reduceEqDiff, Nat.reduceAdd, Nat.reduceMul, Nat.reduceLeDiff, Nat.reduceLT, Int.reduceLE, Int.reduceLT, Int.reduceGT, Int.reduceGE, Int.reduceEq, Int.reduceNe, Int.reduceToNat, reduceCtorEq, ak, e52]
                by_cases c53 : t13.1 = t13.2
                · rw [if_pos c53] at h
                  have e54 : decide (t13.1 = t13.2) = true := decide_eq_true c53
                  simp only [Nat.reduceEqDiff, Nat.reduceAdd, Nat.reduceMul, Nat.reduceLeDiff, Nat.reduceLT, Int.reduceLE, Int.reduceLT, Int.reduceGT, Int.reduceGE, Int.reduceEq, Int.reduceNe, Int.reduceToNat, reduceCtorEq, ak, e54]
                  obtain ⟨t55, h56, h⟩ := of_bind h
                  refine call_k [] (s0 := []) (s4 := [(.arg 0, ⟨.fz, 1, cs0⟩), (.arg 1, ⟨.fz, 1, cs1⟩)]) (v' := .c (.sc (.bool t55))) (by intro t ht; cases ht; decide) rfl rfl (by first | rfl | simp only [reduceCtorEq, Nat.reduceEqDiff, ak, foc, focL, focR, fits, seg, mapN, mapN1, fwd, fwdR, fwd1, fwdQ, fwdP, isAt, inR, strip, reR, reP]) (impl_SerialLess.tri t13.1 t13.2 _ h56) (by first | rfl | simp only [reduceCtorEq, Nat.reduceEqDiff, ak, mapN, mapN1, fwd, fwdR, fwd1, fwdQ, fwdP, isAt, inR, strip, reR, reP]) (by simp [bkOk]) (mrgL_nil' _ _ _) (by first | rfl | simp only [reduceCtorEq, Nat.reduceEqDiff, ak, mapN, mapN1, bwd, bwdR, upP, shOf, akG, reR, reP, Nat.zero_add, List.append_nil]) (by first | rfl | simp only [reduceCtorEq, Nat.reduceEqDiff, ak, mapN, mapN1, bwd, bwdR, upP, shOf, akG, reR, reP, Nat.zero_add, List.append_nil]) ?_
                  simp only [Nat.reduceEqDiff, Nat.reduceAdd, Nat.reduceMul, Nat.reduceLeDiff, Nat.reduceLT, Int.reduceLE, Int.reduceLT, Int.reduceGT, Int.reduceGE, Int.reduceEq, Int.reduceNe, Int.reduceToNat, reduceCtorEq, ak]
                  obtain rfl := Option.some.inj h
                  refine G35n _ _ ((Weak.keep [1, 5, 6, 7, 71]).trans ((Weak.foc [(.arg 0, ⟨(.arg 0), [], none, .fz⟩), (.arg 1, ⟨(.arg 1), [], none, .fz⟩)] rfl (by first | rfl | simp only [reduceCtorEq, Nat.reduceEqDiff, ak, akG, foc, focL, focR, fits, seg, mapN, mapN1, fwd, fwdR, fwd1, fwdQ, fwdP, isAt, inR, shOf, strip, reR, reP]) (by simp [argK, akG, ak])).trans (Weak.of_eq (by first | rfl | (simp only [reduceCtorEq, Nat.reduceEqDiff, ak, akG, foc, focL, focR, fits, seg, mapN, mapN1, fwd, fwdR, fwd1, fwdQ, fwdP, isAt, inR, shOf, strip, reR, reP]; done) | (simp [reduceCtorEq, Nat.reduceEqDiff, ak, akG, foc, focL, focR, fits, seg, mapN, mapN1, fwd, fwdR, fwd1, fwdQ, fwdP, isAt, inR, shOf, strip, reR, reP]; done))))) (hJ34 _ rfl)
                · rw [if_neg c53] at h
                  have e57 : decide (t13.1 = t13.2) = false := decide_eq_false c53
                  simp only [Nat.reduceEqDiff, Nat.reduceAdd, Nat.reduceMul, Nat.reduceLeDiff, Nat.reduceLT, Int.reduceLE, Int.reduceLT, Int.reduceGT, Int.reduceGE, Int.reduceEq, Int.reduceNe, Int.reduceToNat, reduceCtorEq, ak, e57]
                  obtain rfl := Option.some.inj h
                  refine G35n _ _ ((Weak.keep [1, 5, 6, 7, 71]).trans ((Weak.foc [(.arg 0, ⟨(.arg 0), [], none, .fz⟩), (.arg 1, ⟨(.arg 1), [], none, .fz⟩)] rfl (by first | rfl | simp only [reduceCtorEq, Nat.reduceEqDiff, ak, akG, foc, focL, focR, fits, seg, mapN, mapN1, fwd, fwdR, fwd1, fwdQ, fwdP, isAt, inR, shOf, strip, reR, reP]) (by simp [argK, akG, ak])).trans (Weak.of_eq (by first | rfl | (simp only [reduceCtorEq, Nat.reduceEqDiff, ak, akG, foc, focL, focR, fits, seg, mapN, mapN1, fwd, fwdR, fwd1, fwdQ, fwdP, isAt, inR, shOf, strip, reR, reP]; done) | (simp [reduceCtorEq, Nat.reduceEqDiff, ak, akG, foc, focL, focR, fits, seg, mapN, mapN1, fwd, fwdR, fwd1, fwdQ, fwdP, isAt, inR, shOf, strip, reR, reP]; done))))) (hJ34 _ rfl)
            · rw [if_neg c36] at h
              have e58 : decide (t13.1 ≠ t13.2) = false := decide_eq_false c36
              simp only [Nat.reduceEqDiff, Nat.reduceAdd, Nat.reduceMul, Nat.reduceLeDiff, Nat.reduceLT, Int.reduceLE, Int.reduceLT, Int.reduceGT, Int.reduceGE, Int.reduceEq, Int.reduceNe, Int.reduceToNat, reduceCtorEq, ak, e58]
              by_cases c59 : t13.1 = t13.2
              · rw [if_pos c59] at h
                have e60 : decide (t13.1 = t13.2) = true := decide_eq_true c59
                simp only [Nat.reduceEqDiff, Nat.reduceAdd, Nat.reduceMul, Nat.reduceLeDiff, Nat.reduceLT, Int.reduceLE, Int.reduceLT, Int.reduceGT, Int.reduceGE, Int.reduceEq, Int.reduceNe, Int.reduceToNat, reduceCtorEq, ak, e60]
                obtain ⟨t61, h62, h⟩ := of_bind h
                refine call_k [] (s0 := []) (s4 := [(.arg 0, ⟨.fz, 1, cs0⟩), (.arg 1, ⟨.fz, 1, cs1⟩)]) (v' := .c (.sc (.bool t61))) (by intro t ht; cases ht; decide) rfl rfl (by first | rfl | simp only [reduceCtorEq, Nat.reduceEqDiff, ak, foc, focL, focR, fits, seg, mapN, mapN1, fwd, fwdR, fwd1, fwdQ, fwdP, isAt, inR, strip, reR, reP]) (impl_SerialLess.tri t13.1 t13.2 _ h62) (by first | rfl | simp only [reduceCtorEq, Nat.reduceEqDiff, ak, mapN, mapN1, fwd, fwdR, fwd1, fwdQ, fwdP, isAt, inR, strip, reR, reP]) (by simp [bkOk]) (mrgL_nil' _ _ _) (by first | rfl | simp only [reduceCtorEq, Nat.reduceEqDiff, ak, mapN, mapN1, bwd, bwdR, upP, shOf, akG, reR, reP, Nat.zero_add, List.append_nil]) (by first | rfl | simp only [reduceCtorEq, Nat.reduceEqDiff, ak, mapN, mapN1, bwd, bwdR, upP, shOf, akG, reR, reP, Nat.zero_add, List.append_nil]) ?_
                simp only [Nat.reduceEqDiff, Nat.reduceAdd, Nat.reduceMul, Nat.reduceLeDiff, Nat.reduceLT, Int.reduceLE, Int.reduceLT, Int.reduceGT, Int.reduceGE, Int.reduceEq, Int.reduceNe, Int.reduceToNat, reduceCtorEq, ak]
                obtain rfl := Option.some.inj h
                refine G35n _ _ ((Weak.keep [1, 5, 6, 7, 71]).trans ((Weak.foc [(.arg 0, ⟨(.arg 0), [], none, .fz⟩), (.arg 1, ⟨(.arg 1), [], none, .fz⟩)] rfl (by first | rfl | simp only [reduceCtorEq, Nat.reduceEqDiff, ak, akG, foc, focL, focR, fits, seg, mapN, mapN1, fwd, fwdR, fwd1, fwdQ, fwdP, isAt, inR, shOf, strip, reR, reP]) (by simp [argK, akG, ak])).trans (Weak.of_eq (by first | rfl | (simp only [reduceCtorEq, Nat.reduceEqDiff, ak, akG, foc, focL, focR, fits, seg, mapN, mapN1, fwd, fwdR, fwd1, fwdQ, fwdP, isAt, inR, shOf, strip, reR, reP]; done) | (simp [reduceCtorEq, Nat.reduceEqDiff, ak, akG, foc, focL, focR, fits, seg, mapN, mapN1, fwd, fwdR, fwd1, fwdQ, fwdP, isAt, inR, shOf, strip, reR, reP]; done))))) (hJ34 _ rfl)
              · rw [if_neg c59] at h
                have e63 : decide (t13.1 = t13.2) = false := decide_eq_false c59
                simp only [Nat.reduceEqDiff, Nat.reduceAdd, Nat.reduceMul, Nat.reduceLeDiff, Nat.reduceLT, Int.reduceLE, Int.reduceLT, Int.reduceGT, Int.reduceGE, Int.reduceEq, Int.reduceNe, Int.reduceToNat, reduceCtorEq, ak, e63]
                obtain rfl := Option.some.inj h
                refine G35n _ _ ((Weak.keep [1, 5, 6, 7, 71]).trans ((Weak.foc [(.arg 0, ⟨(.arg 0), [], none, .fz⟩), (.arg 1, ⟨(.arg 1), [], none, .fz⟩)] rfl (by first | rfl | simp only [reduceCtorEq, Nat.reduceEqDiff, ak, akG, foc, focL, focR, fits, seg, mapN, mapN1, fwd, fwdR, fwd1, fwdQ, fwdP, isAt, inR, shOf, strip, reR, reP]) (by simp [argK, akG, ak])).trans (Weak.of_eq (by first | rfl | (simp only [reduceCtorEq, Nat.reduceEqDiff, ak, akG, foc, focL, focR, fits, seg, mapN, mapN1, fwd, fwdR, fwd1, fwdQ, fwdP, isAt, inR, shOf, strip, reR, reP]; done) | (simp [reduceCtorEq, Nat.reduceEqDiff, ak, akG, foc, focL, focR, fits, seg, mapN, mapN1, fwd, fwdR, fwd1, fwdQ, fwdP, isAt, inR, shOf, strip, reR, reP]; done))))) (hJ34 _ rfl)
          · replace h := hn; clear hn h33
            rintro _ rfl
            refine cond_k (b := j32) rfl (fun c64 => ?_) (fun c64 => ?_)
            · rw [if_pos c64] at h
              refine seq_k fun J65 hJ65 => ?_
              refine reg_k ?_
              simp only [Nat.reduceEqDiff, Nat.reduceAdd, Nat.reduceMul, Nat.reduceLeDiff, Nat.reduceLT, Int.reduceLE, Int.reduceLT, Int.reduceGT, Int.reduceGE, Int.reduceEq, Int.reduceNe, Int.reduceToNat, reduceCtorEq, ak]
              refine hJ65 _ ?_
              obtain rfl := Option.some.inj h
              refine hKr _ ⟨_, rfl, [], _, rfl, rfl, ?_⟩
              first | rfl | (simp only [reduceCtorEq, Nat.reduceEqDiff, ak, akG, mapN, mapN1, fwd, fwdR, fwd1, fwdQ, fwdP, isAt, inR, shOf, strip, reR, reP, outPl, argPl, resPl]; done) | (simp [reduceCtorEq, Nat.reduceEqDiff, ak, akG, mapN, mapN1, fwd, fwdR, fwd1, fwdQ, fwdP, isAt, inR, shOf, strip, reR, reP, outPl, argPl, resPl]; done)
            · rw [if_neg (Bool.eq_false_iff.1 c64)] at h
              refine hJ31 _ ?_
              refine seq_k fun J66 hJ66 => ?_
              refine seq_k fun J67 hJ67 => ?_
              refine reg_k ?_
              simp only [Nat.reduceEqDiff, Nat.reduceAdd, Nat.reduceMul, Nat.reduceLeDiff, Nat.reduceLT, Int.reduceLE, Int.reduceLT, Int.reduceGT, Int.reduceGE, Int.reduceEq, Int.reduceNe, Int.reduceToNat, reduceCtorEq, ak]
              obtain ⟨t68, h69, h⟩ := of_bind h
              refine call_k [] (s0 := []) (s4 := [(.arg 0, ⟨.fz, 1, cs0⟩), (.arg 1, ⟨.fz, 1, cs1⟩)]) (v' := .c (.sc (.bool t68))) (by intro t ht; cases ht; decide) rfl rfl (by first | rfl | simp only [reduceCtorEq, Nat.reduceEqDiff, ak, foc, focL, focR, fits, seg, mapN, mapN1, fwd, fwdR, fwd1, fwdQ, fwdP, isAt, inR, strip, reR, reP]) (impl_SerialLess.tri t13.1 t13.2 _ h69) (by first | rfl | simp only [reduceCtorEq, Nat.reduceEqDiff, ak, mapN, mapN1, fwd, fwdR, fwd1, fwdQ, fwdP, isAt, inR, strip, reR, reP]) (by simp [bkOk]) (mrgL_nil' _ _ _) (by first | rfl | simp only [reduceCtorEq, Nat.reduceEqDiff, ak, mapN, mapN1, bwd, bwdR, upP, shOf, akG, reR, reP, Nat.zero_add, List.append_nil]) (by first | rfl | simp only [reduceCtorEq, Nat.reduceEqDiff, ak, mapN, mapN1, bwd, bwdR, upP, shOf, akG, reR, reP, Nat.zero_add, List.append_nil]) ?_
              simp only [Nat.reduceEqDiff, Nat.reduceAdd, Nat.reduceMul, Nat.reduceLeDiff, Nat.reduceLT, Int.reduceLE, Int.reduceLT, Int.reduceGT, Int.reduceGE, Int.reduceEq, Int.reduceNe, Int.reduceToNat, reduceCtorEq, ak]
              refine hJ67 _ ?_
              refine cond_k (b := !(t68 == (decide (t16 > 0)))) rfl (fun c70 => ?_) (fun c70 => ?_)
              · rw [if_pos c70] at h
                refine seq_k fun J71 hJ71 => ?_
                refine reg_k ?_
                simp only [Nat.reduceEqDiff, Nat.reduceAdd, Nat.reduceMul, Nat.reduceLeDiff, Nat.reduceLT, Int.reduceLE, Int.reduceLT, Int.reduceGT, Int.reduceGE, Int.reduceEq, Int.reduceNe, Int.reduceToNat, reduceCtorEq, ak]
                refine hJ71 _ ?_
                obtain rfl := Option.some.inj h
                refine hKr _ ⟨_, rfl, [], _, rfl, rfl, ?_⟩
                first | rfl | (simp only [reduceCtorEq, Nat.reduceEqDiff, ak, akG, mapN, mapN1, fwd, fwdR, fwd1, fwdQ, fwdP, isAt, inR, shOf, strip, reR, reP, outPl, argPl, resPl]; done) | (simp [reduceCtorEq, Nat.reduceEqDiff, ak, akG, mapN, mapN1, fwd, fwdR, fwd1, fwdQ, fwdP, isAt, inR, shOf, strip, reR, reP, outPl, argPl, resPl]; done)
              · rw [if_neg (Bool.eq_false_iff.1 c70)] at h
                refine hJ66 _ ?_
                refine seq_k fun J72 hJ72 => ?_
                refine reg_k ?_
                simp only [Nat.reduceEqDiff, Nat.reduceAdd, Nat.reduceMul, Nat.reduceLeDiff, Nat.reduceLT, Int.reduceLE, Int.reduceLT, Int.reduceGT, Int.reduceGE, Int.reduceEq, Int.reduceNe, Int.reduceToNat, reduceCtorEq, ak]
                obtain ⟨t73, h74, h⟩ := of_bind h
                refine call_k [(.arg 0, ⟨(.arg 1), [], none, .fz⟩)] (s0 := [(.arg 0, ⟨.fz, 1, cs1⟩)]) (s4 := [(.arg 0, ⟨.fz, 1, cs0⟩), (.arg 1, ⟨.fz, 1, cs1⟩)]) (v' := .tup [(false, [.sc (.int .u64 t73.1)]), (false, [.sc (.int .u32 t73.2)])]) (by intro t ht; cases ht; decide) rfl rfl (by first | rfl | simp only [reduceCtorEq, Nat.reduceEqDiff, ak, foc, focL, focR, fits, seg, mapN, mapN1, fwd, fwdR, fwd1, fwdQ, fwdP, isAt, inR, strip, reR, reP]) (spec_DrawLift.tri (cs1) o1 l1 hv1 _ h74) (by first | rfl | simp only [reduceCtorEq, Nat.reduceEqDiff, ak, mapN, mapN1, fwd, fwdR, fwd1, fwdQ, fwdP, isAt, inR, strip, reR, reP]) (by simp [bkOk]) (mrgL_fz (mrgL_nil' _ _ _) rfl (by first | rfl | simp only [reduceCtorEq, Nat.reduceEqDiff, ak]) rfl (by intro R hR hh; cases hR; cases hh.2)) (by first | rfl | simp only [reduceCtorEq, Nat.reduceEqDiff, ak, mapN, mapN1, bwd, bwdR, upP, shOf, akG, reR, reP, Nat.zero_add, List.append_nil]) (by first | rfl | simp only [reduceCtorEq, Nat.reduceEqDiff, ak, mapN, mapN1, bwd, bwdR, upP, shOf, akG, reR, reP, Nat.zero_add, List.append_nil]) ?_
                simp only [Nat.reduceEqDiff, Nat.reduceAdd, Nat.reduceMul, Nat.reduceLeDiff, Nat.reduceLT, Int.reduceLE, Int.reduceLT, Int.reduceGT, Int.reduceGE, Int.reduceEq, Int.reduceNe, Int.reduceToNat, reduceCtorEq, ak]
                refine hJ72 _ ?_
                refine seq_k fun J75 hJ75 => ?_
                refine reg_k ?_
                simp only [Nat.reduceEqDiff, Nat.reduceAdd, Nat.reduceMul, Nat.reduceLeDiff, Nat.reduceLT, Int.reduceLE, Int.reduceLT, Int.reduceGT, Int.reduceGE, Int.reduceEq, Int.reduceNe, Int.reduceToNat, reduceCtorEq, ak]
                refine hJ75 _ ?_
                refine seq_k fun J76 hJ76 => ?_
                refine reg_k ?_
                simp only [Nat.reduceEqDiff, Nat.reduceAdd, Nat.reduceMul, Nat.reduceLeDiff, Nat.reduceLT, Int.reduceLE, Int.reduceLT, Int.reduceGT, Int.reduceGE, Int.reduceEq, Int.reduceNe, Int.reduceToNat, reduceCtorEq, ak]
                obtain ⟨t77, h78, h⟩ := of_bind h
                refine call_k [] (s0 := []) (s4 := [(.arg 0, ⟨.fz, 1, cs0⟩), (.arg 1, ⟨.fz, 1, cs1⟩)]) (v' := .tup [(false, [.sc (.int .u64 t77.1)]), (false, [.sc (.int .i64 t77.2)])]) (by intro t ht; cases ht; decide) rfl rfl (by first | rfl | simp only [reduceCtorEq, Nat.reduceEqDiff, ak, foc, focL, focR, fits, seg, mapN, mapN1, fwd, fwdR, fwd1, fwdQ, fwdP, isAt, inR, strip, reR, reP]) (impl_Lift.tri t73.1 (IntKind.u32.wrap (IntKind.u64.wrap (t73.1 + (IntKind.u64.wrap t16)))) _ h78) (by first | rfl | simp only [reduceCtorEq, Nat.reduceEqDiff, ak, mapN, mapN1, fwd, fwdR, fwd1, fwdQ, fwdP, isAt, inR, strip, reR, reP]) (by simp [bkOk]) (mrgL_nil' _ _ _) (by first | rfl | simp only [reduceCtorEq, Nat.reduceEqDiff, ak, mapN, mapN1, bwd, bwdR, upP, shOf, akG, reR, reP, Nat.zero_add, List.append_nil]) (by first | rfl | simp only [reduceCtorEq, Nat.reduceEqDiff, ak, mapN, mapN1, bwd, bwdR, upP, shOf, akG, reR, reP, Nat.zero_add, List.append_nil]) ?_
                simp only [Nat.reduceEqDiff, Nat.reduceAdd, Nat.reduceMul, Nat.reduceLeDiff, Nat.reduceLT, Int.reduceLE, Int.reduceLT, Int.reduceGT, Int.reduceGE, Int.reduceEq, Int.reduceNe, Int.reduceToNat, reduceCtorEq, ak]
                refine hJ76 _ ?_
                obtain ⟨j79, h80, hn⟩ := of_bind h
                refine seq_j (fun st => st = ⟨[(10, .c (.sc (.int .u64 (IntKind.u64.wrap (t73.1 + (IntKind.u64.wrap t16)))))), (11, .c (.sc (.int .u64 t77.1))), (12, .c (.sc (.int .i64 t77.2))), (13, .c (.sc (.bool j79)))], [(.arg 0, ⟨.fz, 1, cs0⟩), (.arg 1, ⟨.fz, 1, cs1⟩)], [], []⟩) (fun J81 hJ81 => ?_) ?_
                · replace h := h80; clear hn
                  refine ga_k fun G82 G82n G82r G82x => ?_
                  refine reg_k ?_
                  simp only [Nat.reduceEqDiff, Nat.reduceAdd, Nat.reduceMul, Nat.reduceLeDiff, Nat.reduceLT, Int.reduceLE, Int.reduceLT, Int.reduceGT, Int.reduceGE, Int.reduceEq, Int.reduceNe, Int.reduceToNat, reduceCtorEq, ak]
                  by_cases c83 : t16 ≥ 0
                  · rw [if_pos c83] at h
                    have e84 : decide (t16 ≥ 0) = true := decide_eq_true c83
                    simp only [Nat.reduceEqDiff, Nat.reduceAdd, Nat.reduceMul, Nat.reduceLeDiff, Nat.reduceLT, Int.reduceLE, Int.reduceLT, Int.reduceGT, Int.reduceGE, Int.reduceEq, Int.reduceNe, Int.reduceToNat, reduceCtorEq, ak, e84]
                    by_cases c85 : IntKind.u64.wrap (t73.1 + (IntKind.u64.wrap t16)) < t73.1
                    · rw [if_pos c85] at h
                      have e86 : decide (IntKind.u64.wrap (t73.1 + (IntKind.u64.wrap t16)) < t73.1) = true := decide_eq_true c85
                      simp only [Nat.reduceEqDiff, Nat.reduceAdd, Nat.reduceMul, Nat.reduceLeDiff, Nat.reduceLT, Int.reduceLE, Int.reduceLT, Int.reduceGT, Int.reduceGE, Int.reduceEq, Int.reduceNe, Int.reduceToNat, reduceCtorEq, ak, e86]
                      obtain rfl := Option.some.inj h
                      refine G82n _ _ ((Weak.keep [10, 11, 12, 13]).trans ((Weak.foc [(.arg 0, ⟨(.arg 0), [], none, .fz⟩), (.arg 1, ⟨(.arg 1), [], none, .fz⟩)] rfl (by first | rfl | simp only [reduceCtorEq, Nat.reduceEqDiff, ak, akG, foc, focL, focR, fits, seg, mapN, mapN1, fwd, fwdR, fwd1, fwdQ, fwdP, isAt, inR, shOf, strip, reR, reP]) (by simp [argK, akG, ak])).trans (Weak.of_eq (by first | rfl | (simp only [reduceCtorEq, Nat.reduceEqDiff, ak, akG, foc, focL, focR, fits, seg, mapN, mapN1, fwd, fwdR, fwd1, fwdQ, fwdP, isAt, inR, shOf, strip, reR, reP]; done) | (simp [reduceCtorEq, Nat.reduceEqDiff, ak, akG, foc, focL, focR, fits, seg, mapN, mapN1, fwd, fwdR, fwd1, fwdQ, fwdP, isAt, inR, shOf, strip, reR, reP]; done))))) (hJ81 _ rfl)
                    · rw [if_neg c85] at h
                      have e87 : decide (IntKind.u64.wrap (t73.1 + (IntKind.u64.wrap t16)) < t73.1) = false := decide_eq_false c85
                      simp only [Nat.reduceEqDiff, Nat.reduceAdd, Nat.reduceMul, Nat.reduceLeDiff, Nat.reduceLT, Int.reduceLE, Int.reduceLT, Int.reduceGT, Int.reduceGE, Int.reduceEq, Int.reduceNe, Int.reduceToNat, reduceCtorEq, ak, e87]
                      by_cases c88 : t16 < 0
                      · rw [if_pos c88] at h
                        have e89 : decide (t16 < 0) = true := decide_eq_true c88
                        simp only [Nat.reduceEqDiff, Nat.reduceAdd, Nat.reduceMul, Nat.reduceLeDiff, Nat.reduceLT, Int.reduceLE, Int.reduceLT, Int.reduceGT, Int.reduceGE, Int.reduceEq, Int.reduceNe, Int.reduceToNat, reduceCtorEq, ak, e89]
                        obtain rfl := Option.some.inj h
                        refine G82n _ _ ((Weak.keep [10, 11, 12, 13]).trans ((Weak.foc [(.arg 0, ⟨(.arg 0), [], none, .fz⟩), (.arg 1, ⟨(.arg 1), [], none, .fz⟩)] rfl (by first | rfl | simp only [reduceCtorEq, Nat.reduceEqDiff, ak, akG, foc, focL, focR, fits, seg, mapN, mapN1, fwd, fwdR, fwd1, fwdQ, fwdP, isAt, inR, shOf, strip, reR, reP]) (by simp [argK, akG, ak])).trans (Weak.of_eq (by first | rfl | (simp only [reduceCtorEq, Nat.reduceEqDiff, ak, akG, foc, focL, focR, fits, seg, mapN, mapN1, fwd, fwdR, fwd1, fwdQ, fwdP, isAt, inR, shOf, strip, reR, reP]; done) | (simp [reduceCtorEq, Nat.reduceEqDiff, ak, akG, foc, focL, focR, fits, seg, mapN, mapN1, fwd, fwdR, fwd1, fwdQ, fwdP, isAt, inR, shOf, strip, reR, reP]; done))))) (hJ81 _ rfl)
                      · rw [if_neg c88] at h
                        have e90 : decide (t16 < 0) = false := decide_eq_false c88
                        simp only [Nat.reduceEqDiff, Nat.reduceAdd, Nat.reduceMul, Nat.reduceLeDiff, Nat.reduceLT, Int.reduceLE, Int.reduceLT, Int.reduceGT, Int.reduceGE, Int.reduceEq, Int.reduceNe, Int.reduceToNat, reduceCtorEq, ak, e90]
                        obtain rfl := Option.some.inj h
                        refine G82n _ _ ((Weak.keep [10, 11, 12, 13]).trans ((Weak.foc [(.arg 0, ⟨(.arg 0), [], none, .fz⟩), (.arg 1, ⟨(.arg 1), [], none, .fz⟩)] rfl (by first | rfl | simp only [reduceCtorEq, Nat.reduceEqDiff, ak, akG, foc, focL, focR, fits, seg, mapN, mapN1, fwd, fwdR, fwd1, fwdQ, fwdP, isAt, inR, shOf, strip, reR, reP]) (by simp [argK, akG, ak])).trans (Weak.of_eq (by first | rfl | (simp only [reduceCtorEq, Nat.reduceEqDiff, ak, akG, foc, focL, focR, fits, seg, mapN, mapN1, fwd, fwdR, fwd1, fwdQ, fwdP, isAt, inR, shOf, strip, reR, reP]; done) | (simp [reduceCtorEq, Nat.reduceEqDiff, ak, akG, foc, focL, focR, fits, seg, mapN, mapN1, fwd, fwdR, fwd1, fwdQ, fwdP, isAt, inR, shOf, strip, reR, reP]; done))))) (hJ81 _ rfl)
                  · rw [if_neg c83] at h
                    have e91 : decide (t16 ≥ 0) = false := decide_eq_false c83
                    simp only [Nat.reduceEqDiff, Nat.reduceAdd, Nat.reduceMul, Nat.reduceLeDiff, Nat.reduceLT, Int.reduceLE, Int.reduceLT, Int.reduceGT, Int.reduceGE, Int.reduceEq, Int.reduceNe, Int.reduceToNat, reduceCtorEq, ak, e91]
                    by_cases c92 : t16 < 0
                    · rw [if_pos c92] at h
                      have e93 : decide (t16 < 0) = true := decide_eq_true c92
                      simp only [Nat.reduceEqDiff, Nat.reduceAdd, Nat.reduceMul, Nat.reduceLeDiff, Nat.reduceLT, Int.reduceLE, Int.reduceLT, Int.reduceGT, Int.reduceGE, Int.reduceEq, Int.reduceNe, Int.reduceToNat, reduceCtorEq, ak, e93]
                      obtain rfl := Option.some.inj h
                      refine G82n _ _ ((Weak.keep [10, 11, 12, 13]).trans ((Weak.foc [(.arg 0, ⟨(.arg 0), [], none, .fz⟩), (.arg 1, ⟨(.arg 1), [], none, .fz⟩)] rfl (by first | rfl | simp only [reduceCtorEq, Nat.reduceEqDiff, ak, akG, foc, focL, focR, fits, seg, mapN, mapN1, fwd, fwdR, fwd1, fwdQ, fwdP, isAt, inR, shOf, strip, reR, reP]) (by simp [argK, akG, ak])).trans (Weak.of_eq (by first | rfl | (simp only [reduceCtorEq, Nat.reduceEqDiff, ak, akG, foc, focL, focR, fits, seg, mapN, mapN1, fwd, fwdR, fwd1, fwdQ, fwdP, isAt, inR, shOf, strip, reR, reP]; done) | (simp [reduceCtorEq, Nat.reduceEqDiff, ak, akG, foc, focL, focR, fits, seg, mapN, mapN1, fwd, fwdR, fwd1, fwdQ, fwdP, isAt, inR, shOf, strip, reR, reP]; done))))) (hJ81 _ rfl)
                    · rw [if_neg c92] at h
                      have e94 : decide (t16 < 0) = false := decide_eq_false c92
                      simp only [Nat.reduceEqDiff, Nat.reduceAdd, Nat.reduceMul, Nat.reduceLeDiff, Nat.reduceLT, Int.reduceLE, Int.reduceLT, Int.reduceGT, Int.reduceGE, Int.reduceEq, Int.reduceNe, Int.reduceToNat, reduceCtorEq, ak, e94]
                      obtain rfl := Option.some.inj h
                      refine G82n _ _ ((Weak.keep [10, 11, 12, 13]).trans ((Weak.foc [(.arg 0, ⟨(.arg 0), [], none, .fz⟩), (.arg 1, ⟨(.arg 1), [], none, .fz⟩)] rfl (by first | rfl | simp only [reduceCtorEq, Nat.reduceEqDiff, ak, akG, foc, focL, focR, fits, seg, mapN, mapN1, fwd, fwdR, fwd1, fwdQ, fwdP, isAt, inR, shOf, strip, reR, reP]) (by simp [argK, akG, ak])).trans (Weak.of_eq (by first | rfl | (simp only [reduceCtorEq, Nat.reduceEqDiff, ak, akG, foc, focL, focR, fits, seg, mapN, mapN1, fwd, fwdR, fwd1, fwdQ, fwdP, isAt, inR, shOf, strip, reR, reP]; done) | (simp [reduceCtorEq, Nat.reduceEqDiff, ak, akG, foc, focL, focR, fits, seg, mapN, mapN1, fwd, fwdR, fwd1, fwdQ, fwdP, isAt, inR, shOf, strip, reR, reP]; done))))) (hJ81 _ rfl)
                · replace h := hn; clear hn h80
                  rintro _ rfl
                  refine seq_k fun J95 hJ95 => ?_
                  refine seq_k fun J96 hJ96 => ?_
                  refine reg_k ?_
                  simp only [Nat.reduceEqDiff, Nat.reduceAdd, Nat.reduceMul, Nat.reduceLeDiff, Nat.reduceLT, Int.reduceLE, Int.reduceLT, Int.reduceGT, Int.reduceGE, Int.reduceEq, Int.reduceNe, Int.reduceToNat, reduceCtorEq, ak]
                  refine hJ96 _ ?_
                  refine cond_k (b := j79) rfl (fun c97 => ?_) (fun c97 => ?_)
                  · rw [if_pos c97] at h
                    refine seq_k fun J98 hJ98 => ?_
                    refine reg_k ?_
                    simp only [Nat.reduceEqDiff, Nat.reduceAdd, Nat.reduceMul, Nat.reduceLeDiff, Nat.reduceLT, Int.reduceLE, Int.reduceLT, Int.reduceGT, Int.reduceGE, Int.reduceEq, Int.reduceNe, Int.reduceToNat, reduceCtorEq, ak]
                    refine hJ98 _ ?_
                    obtain rfl := Option.some.inj h
                    refine hKr _ ⟨_, rfl, [], _, rfl, rfl, ?_⟩
                    first | rfl | (simp only [reduceCtorEq, Nat.reduceEqDiff, ak, akG, mapN, mapN1, fwd, fwdR, fwd1, fwdQ, fwdP, isAt, inR, shOf, strip, reR, reP, outPl, argPl, resPl]; done) | (simp [reduceCtorEq, Nat.reduceEqDiff, ak, akG, mapN, mapN1, fwd, fwdR, fwd1, fwdQ, fwdP, isAt, inR, shOf, strip, reR, reP, outPl, argPl, resPl]; done)
                  · rw [if_neg (Bool.eq_false_iff.1 c97)] at h
                    refine hJ95 _ ?_
                    refine seq_k fun J99 hJ99 => ?_
                    refine reg_k ?_
                    simp only [Nat.reduceEqDiff, Nat.reduceAdd, Nat.reduceMul, Nat.reduceLeDiff, Nat.reduceLT, Int.reduceLE, Int.reduceLT, Int.reduceGT, Int.reduceGE, Int.reduceEq, Int.reduceNe, Int.reduceToNat, reduceCtorEq, ak]
                    by_cases c100 : t77.2 = 0
                    · rw [if_pos c100] at h
                      have e101 : decide (t77.2 = 0) = true := decide_eq_true c100
                      simp only [Nat.reduceEqDiff, Nat.reduceAdd, Nat.reduceMul, Nat.reduceLeDiff, Nat.reduceLT, Int.reduceLE, Int.reduceLT, Int.reduceGT, Int.reduceGE, Int.reduceEq, Int.reduceNe, Int.reduceToNat, reduceCtorEq, ak, e101]
                      refine hJ99 _ ?_
                      obtain rfl := Option.some.inj h
                      refine hKr _ ⟨_, rfl, [], _, rfl, rfl, ?_⟩
                      first | rfl | (simp only [reduceCtorEq, Nat.reduceEqDiff, ak, akG, mapN, mapN1, fwd, fwdR, fwd1, fwdQ, fwdP, isAt, inR, shOf, strip, reR, reP, outPl, argPl, resPl]; done) | (simp [reduceCtorEq, Nat.reduceEqDiff, ak, akG, mapN, mapN1, fwd, fwdR, fwd1, fwdQ, fwdP, isAt, inR, shOf, strip, reR, reP, outPl, argPl, resPl]; done)
                    · rw [if_neg c100] at h
                      have e102 : decide (t77.2 = 0) = false := decide_eq_false c100
                      simp only [Nat.reduceEqDiff, Nat.reduceAdd, Nat.reduceMul, Nat.reduceLeDiff, Nat.reduceLT, Int.reduceLE, Int.reduceLT, Int.reduceGT, Int.reduceGE, Int.reduceEq, Int.reduceNe, Int.reduceToNat, reduceCtorEq, ak, e102]
                      refine hJ99 _ ?_
                      obtain rfl := Option.some.inj h
                      refine hKr _ ⟨_, rfl, [], _, rfl, rfl, ?_⟩
                      first | rfl | (simp only [reduceCtorEq, Nat.reduceEqDiff, ak, akG, mapN, mapN1, fwd, fwdR, fwd1, fwdQ, fwdP, isAt, inR, shOf, strip, reR, reP, outPl, argPl, resPl]; done) | (simp [reduceCtorEq, Nat.reduceEqDiff, ak, akG, mapN, mapN1, fwd, fwdR, fwd1, fwdQ, fwdP, isAt, inR, shOf, strip, reR, reP, outPl, argPl, resPl]; done)
end Go.AK
