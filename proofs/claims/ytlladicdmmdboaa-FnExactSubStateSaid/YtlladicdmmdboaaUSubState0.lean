-- by a program of this session (wip/ak/pw.py)
import Derived.Test.YtlladicdmmdboaaAk2
import Derived.KernelRfl
import Derived.Test.YtlladicdmmdboaaChecked
set_option synthInstance.maxSize 2000
set_option linter.unusedVariables false
set_option linter.unusedSimpArgs false
namespace Go.AK
open Go Go.Proofs
structure S164 where
  f0 : Int
  f1 : Int
  f2 : Int
def z164 : S164 := ⟨0, 0, 0⟩
theorem S164.eta (x : S164) : (⟨x.f0, x.f1, x.f2⟩ : S164) = x := rfl
def c164 (x : S164) : List Cell := [.sc (.int .i64 x.f0), .sc (.int .i64 x.f1), .sc (.int .u32 x.f2)]
theorem c164_w (x : S164) : (c164 x).length = 3 := rfl
structure S63 where
  f0 : Int
  f1 : Int
  f2 : Int
def z63 : S63 := ⟨0, 0, 0⟩
theorem S63.eta (x : S63) : (⟨x.f0, x.f1, x.f2⟩ : S63) = x := rfl
def c63 (x : S63) : List Cell := [.sc (.int .i64 x.f0), .sc (.int .i64 x.f1), .sc (.int .u32 x.f2)]
theorem c63_w (x : S63) : (c63 x).length = 3 := rfl
def c_i64 (x : Int) : List Cell := [.sc (.int .i64 x)]
theorem c_i64_w (x : Int) : (c_i64 x).length = 1 := rfl
structure S68 where
  f0 : Int
  f1 : Int
  f2 : Int
def z68 : S68 := ⟨0, 0, 0⟩
theorem S68.eta (x : S68) : (⟨x.f0, x.f1, x.f2⟩ : S68) = x := rfl
def c68 (x : S68) : List Cell := [.sc (.int .i64 x.f0), .sc (.int .u32 x.f1), .sc (.int .i64 x.f2)]
theorem c68_w (x : S68) : (c68 x).length = 3 := rfl
structure S66 where
  f0 : Int
  f1 : (List S68)
  f2 : (List Int)
  f3 : Int
  f4 : Int
def z66 : S66 := ⟨0, ([] : (List S68)), ([] : (List Int)), 0, 0⟩
theorem S66.eta (x : S66) : (⟨x.f0, x.f1, x.f2, x.f3, x.f4⟩ : S66) = x := rfl
def c66 (x : S66) : List Cell := [.sc (.int .i64 x.f0), .own 3 x.f1.length (encL c68 x.f1), .own 1 x.f2.length (encL c_i64 x.f2), .sc (.int .i64 x.f3), .sc (.int .i64 x.f4)]
theorem c66_w (x : S66) : (c66 x).length = 5 := rfl
/-! ### laws.szSubEventS: function 35 -/
def c35 : AC := .seq (.reg [.op none (.mv 4 (.const (.int .i64 0))), .keep [0, 1]]) (.seq (.reg [.op none (.mv 5 (.tmp 1)), .op none (.mv 6 (.tmp 0)), .op none (.len 7 (.tmp 6)), .op none (.bin 8 .sub (.tmp 5) (.tmp 7)), .op none (.mv 1 (.tmp 8)), .keep [1]]) (.seq (.seq (.reg [.op none (.mv 9 (.tmp 1)), .op none (.bin 10 .lss (.tmp 9) (.const (.int .i64 0))), .keep [1, 10]]) (.cond (.tmp 10) (.seq (.reg [.op none (.mv 4 (.const (.int .i64 (-1)))), .keep [4]]) (.ret)) (.skip))) (.seq (.reg [.op none (.mv 11 (.tmp 1)), .op none (.mv 4 (.tmp 11)), .keep [4]]) (.ret))))
def r35 : List RV := [.tmp 4]
theorem k35 : compC Try.prog 12 c35 (Try.f35.body.getD .skip) = some c35.erase := by kernel_rfl
theorem q35 : rvsOf Try.prog Try.f35.results.toList = some r35 := by kernel_rfl
def laws_szSubEventS.f (l0 : List S164) (a1 : Int) : Option Int := (if IntKind.i64.wrap (a1 - (l0.length : Int)) < 0 then (some (-1)) else (some (IntKind.i64.wrap (a1 - (l0.length : Int)))))
set_option maxRecDepth 100000 in
set_option maxHeartbeats 4000000 in
theorem laws_szSubEventS.tri (cs0 : List Cell) (o0 : Nat) (l0 : List S164) (hv0 : Vw c164 3 cs0 o0 l0) (a1 : Int) (r : Int) (h : laws_szSubEventS.f l0 a1 = some r) : Tri Try.prog 35 [.c (.ref (.arg 0) [] o0 l0.length), .c (.sc (.int .i64 a1))] [(.arg 0, ⟨.fz, 3, cs0⟩)] (fun o => o = ⟨.c (.sc (.int .i64 r)), [(.arg 0, ⟨.fz, 3, cs0⟩)], [], []⟩) := by
  refine tri_of_body (ac := c35) (xs := r35) Try.func35 (show Try.f35.body = some (Try.f35.body.getD .skip) from rfl) k35 q35 (Nat.le_of_ble_eq_true rfl) ?_
  refine body_of fun K hKn hKr => ?_
  unfold laws_szSubEventS.f at h
  unfold c35
  simp only [initT, Nat.reduceAdd]
  refine seq_k fun J1 hJ1 => ?_
  refine reg_k ?_
  simp only [Nat.reduceEqDiff, Nat.reduceAdd, Nat.reduceMul, Nat.reduceLeDiff, Nat.reduceLT, Int.reduceLE, Int.reduceLT, Int.reduceGT, Int.reduceGE, Int.reduceEq, Int.reduceNe, Int.reduceToNat, reduceCtorEq, ak]
  refine hJ1 _ ?_
  refine seq_k fun J2 hJ2 => ?_
  refine reg_k ?_
  simp only [Nat.reduceEqDiff, Nat.reduceAdd, Nat.reduceMul, Nat.reduceLeDiff, Nat.reduceLT, Int.reduceLE, Int.reduceLT, Int.reduceGT, Int.reduceGE, Int.reduceEq, Int.reduceNe, Int.reduceToNat, reduceCtorEq, ak]
  refine hJ2 _ ?_
  refine seq_k fun J3 hJ3 => ?_
  refine seq_k fun J4 hJ4 => ?_
  refine reg_k ?_
  simp only [Nat.reduceEqDiff, Nat.reduceAdd, Nat.reduceMul, Nat.reduceLeDiff, Nat.reduceLT, Int.reduceLE, Int.reduceLT, Int.reduceGT, Int.reduceGE, Int.reduceEq, Int.reduceNe, Int.reduceToNat, reduceCtorEq, ak]
  refine hJ4 _ ?_
  refine cond_k (b := decide (IntKind.i64.wrap (a1 - (l0.length : Int)) < 0)) rfl (fun c5 => ?_) (fun c5 => ?_)
  · replace c5 := of_decide_eq_true c5; rw [if_pos c5] at h
    refine seq_k fun J6 hJ6 => ?_
    refine reg_k ?_
    simp only [Nat.reduceEqDiff, Nat.reduceAdd, Nat.reduceMul, Nat.reduceLeDiff, Nat.reduceLT, Int.reduceLE, Int.reduceLT, Int.reduceGT, Int.reduceGE, Int.reduceEq, Int.reduceNe, Int.reduceToNat, reduceCtorEq, ak]
    refine hJ6 _ ?_
    obtain rfl := Option.some.inj h
    refine hKr _ ⟨_, rfl, [], _, rfl, rfl, ?_⟩
    first | rfl | (simp only [reduceCtorEq, Nat.reduceEqDiff, ak, akF]; done) | (simp [reduceCtorEq, Nat.reduceEqDiff, ak, akF]; done)
  · replace c5 := of_decide_eq_false c5; rw [if_neg c5] at h
    refine hJ3 _ ?_
    refine seq_k fun J7 hJ7 => ?_
    refine reg_k ?_
    simp only [Nat.reduceEqDiff, Nat.reduceAdd, Nat.reduceMul, Nat.reduceLeDiff, Nat.reduceLT, Int.reduceLE, Int.reduceLT, Int.reduceGT, Int.reduceGE, Int.reduceEq, Int.reduceNe, Int.reduceToNat, reduceCtorEq, ak]
    refine hJ7 _ ?_
    obtain rfl := Option.some.inj h
    refine hKr _ ⟨_, rfl, [], _, rfl, rfl, ?_⟩
    first | rfl | (simp only [reduceCtorEq, Nat.reduceEqDiff, ak, akF]; done) | (simp [reduceCtorEq, Nat.reduceEqDiff, ak, akF]; done)
/-! ### laws.toSubConfig: function 36 -/
def c36 : AC := .seq (.reg [.op none (.box 1 (.tmp 0)), .op none (.alloc 2 [.int .u32 0, .int .i64 0, .int .i64 0, .int .i64 0, .int .i64 0, .int .i64 0]), .keep [1, 2]]) (.seq (.reg [.op none (.alloc 3 [.int .u32 0, .int .i64 0, .int .i64 0, .int .i64 0, .int .i64 0, .int .i64 0]), .keep [1, 2, 3]]) (.seq (.reg [.op none (.faddr 4 0 (.tmp 1)), .op none (.load 5 false 1 (.tmp 4)), .op none (.faddr 6 0 (.tmp 3)), .op none (.store 1 (.tmp 6) (.tmp 5)), .keep [1, 2, 3]]) (.seq (.reg [.op none (.faddr 7 1 (.tmp 1)), .op none (.load 8 false 1 (.tmp 7)), .op none (.faddr 9 1 (.tmp 3)), .op none (.store 1 (.tmp 9) (.tmp 8)), .keep [1, 2, 3]]) (.seq (.reg [.op none (.faddr 10 2 (.tmp 1)), .op none (.load 11 false 1 (.tmp 10)), .op none (.faddr 12 2 (.tmp 3)), .op none (.store 1 (.tmp 12) (.tmp 11)), .keep [1, 2, 3]]) (.seq (.reg [.op none (.faddr 13 3 (.tmp 1)), .op none (.load 14 false 1 (.tmp 13)), .op none (.faddr 15 3 (.tmp 3)), .op none (.store 1 (.tmp 15) (.tmp 14)), .keep [1, 2, 3]]) (.seq (.reg [.op none (.faddr 16 4 (.tmp 1)), .op none (.load 17 false 1 (.tmp 16)), .op none (.faddr 18 4 (.tmp 3)), .op none (.store 1 (.tmp 18) (.tmp 17)), .keep [1, 2, 3]]) (.seq (.reg [.op none (.faddr 19 5 (.tmp 1)), .op none (.load 20 false 1 (.tmp 19)), .op none (.faddr 21 5 (.tmp 3)), .op none (.store 1 (.tmp 21) (.tmp 20)), .keep [2, 3]]) (.seq (.reg [.op none (.load 22 true 6 (.tmp 3)), .op none (.store 6 (.tmp 2) (.tmp 22)), .keep [2]]) (.ret)))))))))
def r36 : List RV := [.cell 2 true 6]
theorem k36 : compC Try.prog 23 c36 (Try.f36.body.getD .skip) = some c36.erase := by kernel_rfl
theorem q36 : rvsOf Try.prog Try.f36.results.toList = some r36 := by kernel_rfl
def laws_toSubConfig.f (a0_0 : Int) (a0_1 : Int) (a0_2 : Int) (a0_3 : Int) (a0_4 : Int) (a0_5 : Int) : Option (Int × Int × Int × Int × Int × Int) := (some (a0_0, a0_1, a0_2, a0_3, a0_4, a0_5))
set_option maxRecDepth 100000 in
set_option maxHeartbeats 4000000 in
theorem laws_toSubConfig.tri (a0_0 : Int) (a0_1 : Int) (a0_2 : Int) (a0_3 : Int) (a0_4 : Int) (a0_5 : Int) (r : Int × Int × Int × Int × Int × Int) (h : laws_toSubConfig.f a0_0 a0_1 a0_2 a0_3 a0_4 a0_5 = some r) : Tri Try.prog 36 [.g [.sc (.int .u32 a0_0), .sc (.int .i64 a0_1), .sc (.int .i64 a0_2), .sc (.int .i64 a0_3), .sc (.int .i64 a0_4), .sc (.int .i64 a0_5)]] [] (fun o => o = ⟨.g [.sc (.int .u32 r.1), .sc (.int .i64 r.2.1), .sc (.int .i64 r.2.2.1), .sc (.int .i64 r.2.2.2.1), .sc (.int .i64 r.2.2.2.2.1), .sc (.int .i64 r.2.2.2.2.2)], [], [], []⟩) := by
  refine tri_of_body (ac := c36) (xs := r36) Try.func36 (show Try.f36.body = some (Try.f36.body.getD .skip) from rfl) k36 q36 (Nat.le_of_ble_eq_true rfl) ?_
  refine body_of fun K hKn hKr => ?_
  unfold laws_toSubConfig.f at h
  unfold c36
  simp only [initT, Nat.reduceAdd]
  refine seq_k fun J1 hJ1 => ?_
  refine reg_k ?_
  simp only [Nat.reduceEqDiff, Nat.reduceAdd, Nat.reduceMul, Nat.reduceLeDiff, Nat.reduceLT, Int.reduceLE, Int.reduceLT, Int.reduceGT, Int.reduceGE, Int.reduceEq, Int.reduceNe, Int.reduceToNat, reduceCtorEq, ak]
  refine hJ1 _ ?_
  refine seq_k fun J2 hJ2 => ?_
  refine reg_k ?_
  simp only [Nat.reduceEqDiff, Nat.reduceAdd, Nat.reduceMul, Nat.reduceLeDiff, Nat.reduceLT, Int.reduceLE, Int.reduceLT, Int.reduceGT, Int.reduceGE, Int.reduceEq, Int.reduceNe, Int.reduceToNat, reduceCtorEq, ak]
  refine hJ2 _ ?_
  refine seq_k fun J3 hJ3 => ?_
  refine reg_k ?_
  simp only [Nat.reduceEqDiff, Nat.reduceAdd, Nat.reduceMul, Nat.reduceLeDiff, Nat.reduceLT, Int.reduceLE, Int.reduceLT, Int.reduceGT, Int.reduceGE, Int.reduceEq, Int.reduceNe, Int.reduceToNat, reduceCtorEq, ak]
  refine hJ3 _ ?_
  refine seq_k fun J4 hJ4 => ?_
  refine reg_k ?_
  simp only [Nat.reduceEqDiff, Nat.reduceAdd, Nat.reduceMul, Nat.reduceLeDiff, Nat.reduceLT, Int.reduceLE, Int.reduceLT, Int.reduceGT, Int.reduceGE, Int.reduceEq, Int.reduceNe, Int.reduceToNat, reduceCtorEq, ak]
  refine hJ4 _ ?_
  refine seq_k fun J5 hJ5 => ?_
  refine reg_k ?_
  simp only [Nat.reduceEqDiff, Nat.reduceAdd, Nat.reduceMul, Nat.reduceLeDiff, Nat.reduceLT, Int.reduceLE, Int.reduceLT, Int.reduceGT, Int.reduceGE, Int.reduceEq, Int.reduceNe, Int.reduceToNat, reduceCtorEq, ak]
  refine hJ5 _ ?_
  refine seq_k fun J6 hJ6 => ?_
  refine reg_k ?_
  simp only [Nat.reduceEqDiff, Nat.reduceAdd, Nat.reduceMul, Nat.reduceLeDiff, Nat.reduceLT, Int.reduceLE, Int.reduceLT, Int.reduceGT, Int.reduceGE, Int.reduceEq, Int.reduceNe, Int.reduceToNat, reduceCtorEq, ak]
  refine hJ6 _ ?_
  refine seq_k fun J7 hJ7 => ?_
  refine reg_k ?_
  simp only [Nat.reduceEqDiff, Nat.reduceAdd, Nat.reduceMul, Nat.reduceLeDiff, Nat.reduceLT, Int.reduceLE, Int.reduceLT, Int.reduceGT, Int.reduceGE, Int.reduceEq, Int.reduceNe, Int.reduceToNat, reduceCtorEq, ak]
  refine hJ7 _ ?_
  refine seq_k fun J8 hJ8 => ?_
  refine reg_k ?_
  simp only [Nat.reduceEqDiff, Nat.reduceAdd, Nat.reduceMul, Nat.reduceLeDiff, Nat.reduceLT, Int.reduceLE, Int.reduceLT, Int.reduceGT, Int.reduceGE, Int.reduceEq, Int.reduceNe, Int.reduceToNat, reduceCtorEq, ak]
  refine hJ8 _ ?_
  refine seq_k fun J9 hJ9 => ?_
  refine reg_k ?_
  simp only [Nat.reduceEqDiff, Nat.reduceAdd, Nat.reduceMul, Nat.reduceLeDiff, Nat.reduceLT, Int.reduceLE, Int.reduceLT, Int.reduceGT, Int.reduceGE, Int.reduceEq, Int.reduceNe, Int.reduceToNat, reduceCtorEq, ak]
  refine hJ9 _ ?_
  obtain rfl := Option.some.inj h
  refine hKr _ ⟨_, rfl, [], _, rfl, rfl, ?_⟩
  first | rfl | (simp only [reduceCtorEq, Nat.reduceEqDiff, ak, akF]; done) | (simp [reduceCtorEq, Nat.reduceEqDiff, ak, akF]; done)
/-! ### laws.toSubEvent: function 90 -/
def c90 : AC := .seq (.reg [.op none (.box 1 (.tmp 0)), .op none (.alloc 2 [.int .i64 0, .int .i64 0, .int .u32 0]), .keep [1, 2]]) (.seq (.reg [.op none (.alloc 3 [.int .i64 0, .int .i64 0, .int .u32 0]), .keep [1, 2, 3]]) (.seq (.reg [.op none (.faddr 4 0 (.tmp 1)), .op none (.load 5 false 1 (.tmp 4)), .op none (.faddr 6 0 (.tmp 3)), .op none (.store 1 (.tmp 6) (.tmp 5)), .keep [1, 2, 3]]) (.seq (.reg [.op none (.faddr 7 1 (.tmp 1)), .op none (.load 8 false 1 (.tmp 7)), .op none (.faddr 9 1 (.tmp 3)), .op none (.store 1 (.tmp 9) (.tmp 8)), .keep [1, 2, 3]]) (.seq (.reg [.op none (.faddr 10 2 (.tmp 1)), .op none (.load 11 false 1 (.tmp 10)), .op none (.faddr 12 2 (.tmp 3)), .op none (.store 1 (.tmp 12) (.tmp 11)), .keep [2, 3]]) (.seq (.reg [.op none (.load 13 true 3 (.tmp 3)), .op none (.store 3 (.tmp 2) (.tmp 13)), .keep [2]]) (.ret))))))
def r90 : List RV := [.cell 2 true 3]
theorem k90 : compC Try.prog 14 c90 (Try.f90.body.getD .skip) = some c90.erase := by kernel_rfl
theorem q90 : rvsOf Try.prog Try.f90.results.toList = some r90 := by kernel_rfl
def laws_toSubEvent.f (a0_0 : Int) (a0_1 : Int) (a0_2 : Int) : Option (Int × Int × Int) := (some (a0_0, a0_1, a0_2))
set_option maxRecDepth 100000 in
set_option maxHeartbeats 4000000 in
theorem laws_toSubEvent.tri (a0_0 : Int) (a0_1 : Int) (a0_2 : Int) (r : Int × Int × Int) (h : laws_toSubEvent.f a0_0 a0_1 a0_2 = some r) : Tri Try.prog 90 [.g [.sc (.int .i64 a0_0), .sc (.int .i64 a0_1), .sc (.int .u32 a0_2)]] [] (fun o => o = ⟨.g [.sc (.int .i64 r.1), .sc (.int .i64 r.2.1), .sc (.int .u32 r.2.2)], [], [], []⟩) := by
  refine tri_of_body (ac := c90) (xs := r90) Try.func90 (show Try.f90.body = some (Try.f90.body.getD .skip) from rfl) k90 q90 (Nat.le_of_ble_eq_true rfl) ?_
  refine body_of fun K hKn hKr => ?_
  unfold laws_toSubEvent.f at h
  unfold c90
  simp only [initT, Nat.reduceAdd]
  refine seq_k fun J1 hJ1 => ?_
  refine reg_k ?_
  simp only [Nat.reduceEqDiff, Nat.reduceAdd, Nat.reduceMul, Nat.reduceLeDiff, Nat.reduceLT, Int.reduceLE, Int.reduceLT, Int.reduceGT, Int.reduceGE, Int.reduceEq, Int.reduceNe, Int.reduceToNat, reduceCtorEq, ak]
  refine hJ1 _ ?_
  refine seq_k fun J2 hJ2 => ?_
  refine reg_k ?_
  simp only [Nat.reduceEqDiff, Nat.reduceAdd, Nat.reduceMul, Nat.reduceLeDiff, Nat.reduceLT, Int.reduceLE, Int.reduceLT, Int.reduceGT, Int.reduceGE, Int.reduceEq, Int.reduceNe, Int.reduceToNat, reduceCtorEq, ak]
  refine hJ2 _ ?_
  refine seq_k fun J3 hJ3 => ?_
  refine reg_k ?_
  simp only [Nat.reduceEqDiff, Nat.reduceAdd, Nat.reduceMul, Nat.reduceLeDiff, Nat.reduceLT, Int.reduceLE, Int.reduceLT, Int.reduceGT, Int.reduceGE, Int.reduceEq, Int.reduceNe, Int.reduceToNat, reduceCtorEq, ak]
  refine hJ3 _ ?_
  refine seq_k fun J4 hJ4 => ?_
  refine reg_k ?_
  simp only [Nat.reduceEqDiff, Nat.reduceAdd, Nat.reduceMul, Nat.reduceLeDiff, Nat.reduceLT, Int.reduceLE, Int.reduceLT, Int.reduceGT, Int.reduceGE, Int.reduceEq, Int.reduceNe, Int.reduceToNat, reduceCtorEq, ak]
  refine hJ4 _ ?_
  refine seq_k fun J5 hJ5 => ?_
  refine reg_k ?_
  simp only [Nat.reduceEqDiff, Nat.reduceAdd, Nat.reduceMul, Nat.reduceLeDiff, Nat.reduceLT, Int.reduceLE, Int.reduceLT, Int.reduceGT, Int.reduceGE, Int.reduceEq, Int.reduceNe, Int.reduceToNat, reduceCtorEq, ak]
  refine hJ5 _ ?_
  refine seq_k fun J6 hJ6 => ?_
  refine reg_k ?_
  simp only [Nat.reduceEqDiff, Nat.reduceAdd, Nat.reduceMul, Nat.reduceLeDiff, Nat.reduceLT, Int.reduceLE, Int.reduceLT, Int.reduceGT, Int.reduceGE, Int.reduceEq, Int.reduceNe, Int.reduceToNat, reduceCtorEq, ak]
  refine hJ6 _ ?_
  obtain rfl := Option.some.inj h
  refine hKr _ ⟨_, rfl, [], _, rfl, rfl, ?_⟩
  first | rfl | (simp only [reduceCtorEq, Nat.reduceEqDiff, ak, akF]; done) | (simp [reduceCtorEq, Nat.reduceEqDiff, ak, akF]; done)
/-! ### laws.toSubEventS: function 37 -/
def c37_l0 : AC := .seq (.seq (.reg [.op none (.mv 8 (.tmp 4)), .op none (.mv 9 (.tmp 0)), .op none (.len 10 (.tmp 9)), .op none (.bin 11 .lss (.tmp 8) (.tmp 10)), .keep [0, 3, 4, 11]]) (.cond (.tmp 11) (.skip) (.gh (.exit 0)))) (.seq (.block 1 (.reg [.op none (.mv 14 (.tmp 3)), .op none (.mv 15 (.tmp 4)), .op none (.mv 16 (.tmp 0)), .op none (.mv 17 (.tmp 4)), .op none (.iaddr 18 3 (.tmp 16) (.tmp 17)), .op none (.load 19 true 3 (.tmp 18)), .call none (some 20) 90 [.tmp 19], .op none (.iaddr 21 3 (.tmp 14) (.tmp 15)), .op none (.store 3 (.tmp 21) (.tmp 20)), .keep [0, 3, 4]])) (.reg [.op none (.mv 12 (.tmp 4)), .op none (.bin 13 .add (.tmp 12) (.const (.int .i64 1))), .op none (.mv 4 (.tmp 13)), .keep [0, 3, 4]]))
def c37 : AC := .seq (.reg [.op none (.mv 2 (.const (.slice none 0 0))), .gh, .keep [0]]) (.seq (.reg [.op none (.mv 5 (.tmp 0)), .op none (.len 6 (.tmp 5)), .op none (.mslice 7 3 24 [.int .i64 0, .int .i64 0, .int .u32 0] (.tmp 6)), .op none (.mv 3 (.tmp 7)), .keep [0, 3]]) (.seq (.seq (.reg [.op none (.mv 4 (.const (.int .i64 0))), .keep [0, 3, 4]]) (.block 0 (.gh (.loop (.ga c37_l0))))) (.seq (.reg [.op none (.mv 22 (.tmp 3)), .op none (.mv 2 (.tmp 22)), .keep [2]]) (.ret))))
def r37 : List RV := [.tmp 2]
theorem k37 : compC Try.prog 23 c37 (Try.f37.body.getD .skip) = some c37.erase := by kernel_rfl
theorem q37 : rvsOf Try.prog Try.f37.results.toList = some r37 := by kernel_rfl
def laws_toSubEventS.l0 (l0 : List S164) (x0_0 : Int) (x0_1 : (List S63)) : Option (List S63) := (if x0_0 < (l0.length : Int) then (if 0 ≤ x0_0 ∧ x0_0 < (l0.length : Int) then (laws_toSubEvent.f ((rd z164 l0 x0_0).f0) ((rd z164 l0 x0_0).f1) ((rd z164 l0 x0_0).f2) >>= fun t15 => (if 0 ≤ x0_0 ∧ x0_0 < (x0_1.length : Int) then (laws_toSubEventS.l0 l0 (IntKind.i64.wrap (x0_0 + 1)) (x0_1.set x0_0.toNat (⟨t15.1, t15.2.1, t15.2.2⟩ : S63))) else none)) else none) else (some x0_1))
  partial_fixpoint
def laws_toSubEventS.f (l0 : List S164) : Option (List S63) := (if 0 ≤ (l0.length : Int) ∧ (l0.length : Int) < 9223372036854775808 ∧ ((24 : Nat) : Int) * (l0.length : Int) ≤ 281474976710656 then (laws_toSubEventS.l0 l0 0 (List.replicate (l0.length : Int).toNat (z63 : S63)) >>= fun (y29 : (List S63)) => (some y29)) else none)
set_option maxRecDepth 100000 in
set_option maxHeartbeats 4000000 in
theorem laws_toSubEventS.l0_walk (cs0 : List Cell) (o0 : Nat) (l0 : List S164) (hv0 : Vw c164 3 cs0 o0 l0) (x0_0 : Int) (x0_1 : (List S63)) (y : (List S63)) (h : laws_toSubEventS.l0 l0 x0_0 x0_1 = some y) (K : AE → St → Prop) (hx0 : K (.exit 0) ⟨[(3, .c (.ref (.tmp 7 0) [] 0 y.length))], [(.arg 0, ⟨.fz, 3, cs0⟩), (.tmp 7 0, ⟨.lst, 3, encL c63 y⟩)], [], []⟩) : loopS Try.prog 23 (.ga c37_l0) K ⟨[(0, .c (.ref (.arg 0) [] o0 l0.length)), (3, .c (.ref (.tmp 7 0) [] 0 x0_1.length)), (4, .c (.sc (.int .i64 x0_0)))], [(.arg 0, ⟨.fz, 3, cs0⟩), (.tmp 7 0, ⟨.lst, 3, encL c63 x0_1⟩)], [], []⟩ := by
  refine laws_toSubEventS.l0.partial_correctness l0 (motive := fun x0_0 x0_1 y => ∀ (K : AE → St → Prop), (K (.exit 0) ⟨[(3, .c (.ref (.tmp 7 0) [] 0 y.length))], [(.arg 0, ⟨.fz, 3, cs0⟩), (.tmp 7 0, ⟨.lst, 3, encL c63 y⟩)], [], []⟩) → loopS Try.prog 23 (.ga c37_l0) K ⟨[(0, .c (.ref (.arg 0) [] o0 l0.length)), (3, .c (.ref (.tmp 7 0) [] 0 x0_1.length)), (4, .c (.sc (.int .i64 x0_0)))], [(.arg 0, ⟨.fz, 3, cs0⟩), (.tmp 7 0, ⟨.lst, 3, encL c63 x0_1⟩)], [], []⟩) ?_ x0_0 x0_1 y h K hx0
  clear h hx0
  intro rec ih x0_0 x0_1 y h K hx0
  refine loop_unroll (ga_k fun G0 G0n G0r G0x => ?_)
  unfold c37_l0
  refine seq_k fun J8 hJ8 => ?_
  refine seq_k fun J9 hJ9 => ?_
  refine reg_k ?_
  simp only [Nat.reduceEqDiff, Nat.reduceAdd, Nat.reduceMul, Nat.reduceLeDiff, Nat.reduceLT, Int.reduceLE, Int.reduceLT, Int.reduceGT, Int.reduceGE, Int.reduceEq, Int.reduceNe, Int.reduceToNat, reduceCtorEq, ak]
  refine hJ9 _ ?_
  refine cond_k (b := decide (x0_0 < (l0.length : Int))) rfl (fun c10 => ?_) (fun c10 => ?_)
  · replace c10 := of_decide_eq_true c10; rw [if_pos c10] at h
    refine hJ8 _ ?_
    refine seq_k fun J11 hJ11 => ?_
    refine block_k fun B12 B12n B12x B12r B12j => ?_
    refine reg_k ?_
    obtain ⟨b13, h⟩ := of_guard h
    have g14 : (List.drop (o0 + x0_0.toNat * 3) (cs0)).take 3 = [.sc (.int .i64 ((rd z164 l0 x0_0).f0)), .sc (.int .i64 ((rd z164 l0 x0_0).f1)), .sc (.int .u32 ((rd z164 l0 x0_0).f2))] := hv0.stretch z164 b13.1 b13.2
    simp only [Nat.reduceEqDiff, Nat.reduceAdd, Nat.reduceMul, Nat.reduceLeDiff, Nat.reduceLT, Int.reduceLE, Int.reduceLT, Int.reduceGT, Int.reduceGE, Int.reduceEq, Int.reduceNe, Int.reduceToNat, reduceCtorEq, ak, b13, g14]
    obtain ⟨t15, h16, h⟩ := of_bind h
    refine call_m [] (s0 := []) (by intro t ht; cases ht; decide) rfl rfl (by first | rfl | simp only [reduceCtorEq, Nat.reduceEqDiff, ak, akF, b13, g14]) (laws_toSubEvent.tri ((rd z164 l0 x0_0).f0) ((rd z164 l0 x0_0).f1) ((rd z164 l0 x0_0).f2) _ h16) (by first | rfl | simp only [reduceCtorEq, Nat.reduceEqDiff, ak, akF]) (by simp [bkOk2, memK]) (fun hl16 => ?_)
    refine call_st (s4 := [(.arg 0, ⟨.fz, 3, cs0⟩), (.tmp 7 0, ⟨.lst, 3, encL c63 x0_1⟩)]) (m1' := []) (m2' := []) (v' := .g [.sc (.int .i64 t15.1), .sc (.int .i64 t15.2.1), .sc (.int .u32 t15.2.2)]) (Sto.mapN_killNil _ _) (mrgL_nil' _ _ _) (by rfl) (mapT_killNil _ _) (by rfl) (by rfl) (by first | rfl | simp only [reduceCtorEq, Nat.reduceEqDiff, ak, akF, Nat.zero_add, List.append_nil, b13]) ?_
    obtain ⟨b18, h⟩ := of_guard h
    have g19 : 0 + x0_0.toNat * 3 + 3 ≤ (encL c63 x0_1).length := (Vw.whole c63_w x0_1).le b18.1 b18.2 (j := 0) (q := 3) (by decide)
    have g20 : 0 + x0_0.toNat * 3 < (encL c63 x0_1).length := (Vw.whole c63_w x0_1).lt b18.1 b18.2 (j := 0) (by decide)
    have g21 : (encL c63 x0_1)[0 + x0_0.toNat * 3]? = some (.sc (.int .i64 ((rd z63 x0_1 x0_0).f0))) := (Vw.whole c63_w x0_1).get z63 0 b18.1 b18.2 (by decide)
    have g22 : (encL c63 x0_1).set (0 + x0_0.toNat * 3) (.sc (.int .i64 t15.1)) = encL c63 (x0_1.set x0_0.toNat (⟨t15.1, (rd z63 x0_1 x0_0).f1, (rd z63 x0_1 x0_0).f2⟩ : S63)) := encL_put c63_w z63 b18.1 b18.2 (j := 0) (by decide) rfl
    have g23 : 0 + x0_0.toNat * 3 + 1 < (encL c63 (x0_1.set x0_0.toNat (⟨t15.1, (rd z63 x0_1 x0_0).f1, (rd z63 x0_1 x0_0).f2⟩ : S63))).length := encL_put_lt c63_w (⟨t15.1, (rd z63 x0_1 x0_0).f1, (rd z63 x0_1 x0_0).f2⟩ : S63) b18.1 b18.2 (j := 1) (by decide)
    have g24 : (encL c63 (x0_1.set x0_0.toNat (⟨t15.1, (rd z63 x0_1 x0_0).f1, (rd z63 x0_1 x0_0).f2⟩ : S63)))[0 + x0_0.toNat * 3 + 1]? = some (.sc (.int .i64 ((rd z63 x0_1 x0_0).f1))) := encL_put_get c63_w (⟨t15.1, (rd z63 x0_1 x0_0).f1, (rd z63 x0_1 x0_0).f2⟩ : S63) b18.1 b18.2 (j := 1) (by decide)
    have g25 : (encL c63 (x0_1.set x0_0.toNat (⟨t15.1, (rd z63 x0_1 x0_0).f1, (rd z63 x0_1 x0_0).f2⟩ : S63))).set (0 + x0_0.toNat * 3 + 1) (.sc (.int .i64 t15.2.1)) = encL c63 (x0_1.set x0_0.toNat (⟨t15.1, t15.2.1, (rd z63 x0_1 x0_0).f2⟩ : S63)) := encL_put2 c63_w b18.1 b18.2 (j := 1) (by decide) rfl
    have g26 : 0 + x0_0.toNat * 3 + 2 < (encL c63 (x0_1.set x0_0.toNat (⟨t15.1, t15.2.1, (rd z63 x0_1 x0_0).f2⟩ : S63))).length := encL_put_lt c63_w (⟨t15.1, t15.2.1, (rd z63 x0_1 x0_0).f2⟩ : S63) b18.1 b18.2 (j := 2) (by decide)
    have g27 : (encL c63 (x0_1.set x0_0.toNat (⟨t15.1, t15.2.1, (rd z63 x0_1 x0_0).f2⟩ : S63)))[0 + x0_0.toNat * 3 + 2]? = some (.sc (.int .u32 ((rd z63 x0_1 x0_0).f2))) := encL_put_get c63_w (⟨t15.1, t15.2.1, (rd z63 x0_1 x0_0).f2⟩ : S63) b18.1 b18.2 (j := 2) (by decide)
    have g28 : (encL c63 (x0_1.set x0_0.toNat (⟨t15.1, t15.2.1, (rd z63 x0_1 x0_0).f2⟩ : S63))).set (0 + x0_0.toNat * 3 + 2) (.sc (.int .u32 t15.2.2)) = encL c63 (x0_1.set x0_0.toNat (⟨t15.1, t15.2.1, t15.2.2⟩ : S63)) := encL_put2 c63_w b18.1 b18.2 (j := 2) (by decide) rfl
    simp only [Nat.reduceEqDiff, Nat.reduceAdd, Nat.reduceMul, Nat.reduceLeDiff, Nat.reduceLT, Int.reduceLE, Int.reduceLT, Int.reduceGT, Int.reduceGE, Int.reduceEq, Int.reduceNe, Int.reduceToNat, reduceCtorEq, ak, b18, g19, g20, g21, g22, g23, g24, g25, g26, g27, g28]
    refine B12n _ ?_
    refine hJ11 _ ?_
    refine reg_k ?_
    simp only [Nat.reduceEqDiff, Nat.reduceAdd, Nat.reduceMul, Nat.reduceLeDiff, Nat.reduceLT, Int.reduceLE, Int.reduceLT, Int.reduceGT, Int.reduceGE, Int.reduceEq, Int.reduceNe, Int.reduceToNat, reduceCtorEq, ak]
    refine G0n _ (⟨[(0, .c (.ref (.arg 0) [] o0 l0.length)), (3, .c (.ref (.tmp 7 0) [] 0 ((x0_1.set x0_0.toNat (⟨t15.1, t15.2.1, t15.2.2⟩ : S63)).length))), (4, .c (.sc (.int .i64 (IntKind.i64.wrap (x0_0 + 1)))))], [(.arg 0, ⟨.fz, 3, cs0⟩), (.tmp 7 0, ⟨.lst, 3, encL c63 (x0_1.set x0_0.toNat (⟨t15.1, t15.2.1, t15.2.2⟩ : S63))⟩)], [], []⟩) (((Weak.keep [0, 3, 4]).trans ((Weak.foc [(.arg 0, ⟨(.arg 0), [], none, .fz⟩), (.tmp 7 0, ⟨(.tmp 7 0), [], none, .lst⟩)] rfl (by first | rfl | simp only [reduceCtorEq, Nat.reduceEqDiff, ak, akF, b13, b18]) (by simp [argK, akG, ak])).trans (Weak.of_eq (by first | rfl | (simp only [reduceCtorEq, Nat.reduceEqDiff, ak, akF, b13, b18]; done) | (simp [reduceCtorEq, Nat.reduceEqDiff, ak, akF, b13, b18]; done)))))) (ih _ _ _ h K hx0)
  · replace c10 := of_decide_eq_false c10; rw [if_neg c10] at h
    obtain rfl := Option.some.inj h
    refine gh_k (st' := ⟨[(3, .c (.ref (.tmp 7 0) [] 0 x0_1.length))], [(.arg 0, ⟨.fz, 3, cs0⟩), (.tmp 7 0, ⟨.lst, 3, encL c63 x0_1⟩)], [], []⟩) (((Weak.keep [3]).trans ((Weak.foc [(.arg 0, ⟨(.arg 0), [], none, .fz⟩), (.tmp 7 0, ⟨(.tmp 7 0), [], none, .lst⟩)] rfl (by first | rfl | simp only [reduceCtorEq, Nat.reduceEqDiff, ak, akF]) (by simp [argK, akG, ak])).trans (Weak.of_eq (by first | rfl | (simp only [reduceCtorEq, Nat.reduceEqDiff, ak, akF]; done) | (simp [reduceCtorEq, Nat.reduceEqDiff, ak, akF]; done)))))) ?_
    refine G0x _ _ ?_
    exact hx0
set_option maxRecDepth 100000 in
set_option maxHeartbeats 4000000 in
theorem laws_toSubEventS.tri (cs0 : List Cell) (o0 : Nat) (l0 : List S164) (hv0 : Vw c164 3 cs0 o0 l0) (r : (List S63)) (h : laws_toSubEventS.f l0 = some r) : Tri Try.prog 37 [.c (.ref (.arg 0) [] o0 l0.length)] [(.arg 0, ⟨.fz, 3, cs0⟩)] (fun o => o = ⟨.c (.ref (.res 0) [] 0 r.length), [(.arg 0, ⟨.fz, 3, cs0⟩), (.res 0, ⟨.lst, 3, encL c63 r⟩)], [], []⟩) := by
  refine tri_of_body (ac := c37) (xs := r37) Try.func37 (show Try.f37.body = some (Try.f37.body.getD .skip) from rfl) k37 q37 (Nat.le_of_ble_eq_true rfl) ?_
  refine body_of fun K hKn hKr => ?_
  unfold laws_toSubEventS.f at h
  unfold c37
  simp only [initT, Nat.reduceAdd]
  refine seq_k fun J1 hJ1 => ?_
  refine reg_k ?_
  simp only [Nat.reduceEqDiff, Nat.reduceAdd, Nat.reduceMul, Nat.reduceLeDiff, Nat.reduceLT, Int.reduceLE, Int.reduceLT, Int.reduceGT, Int.reduceGE, Int.reduceEq, Int.reduceNe, Int.reduceToNat, reduceCtorEq, ak]
  refine gho_k (Weak.nm' 2 (.tmp 2 20) 3 (encL c63 ([] : List S63)) rfl rfl rfl) ?_
  simp only [Nat.reduceEqDiff, Nat.reduceAdd, Nat.reduceMul, Nat.reduceLeDiff, Nat.reduceLT, Int.reduceLE, Int.reduceLT, Int.reduceGT, Int.reduceGE, Int.reduceEq, Int.reduceNe, Int.reduceToNat, reduceCtorEq, ak]
  refine hJ1 _ ?_
  refine seq_k fun J2 hJ2 => ?_
  refine reg_k ?_
  obtain ⟨b3, h⟩ := of_guard h
  have g4 : ((List.replicate (l0.length : Int).toNat [.int .i64 0, .int .i64 0, .int .u32 0]).flatten.map Cell.sc) = encL c63 (List.replicate (l0.length : Int).toNat (z63 : S63)) := encL_zeros _ _ _ rfl
  simp only [Nat.reduceEqDiff, Nat.reduceAdd, Nat.reduceMul, Nat.reduceLeDiff, Nat.reduceLT, Int.reduceLE, Int.reduceLT, Int.reduceGT, Int.reduceGE, Int.reduceEq, Int.reduceNe, Int.reduceToNat, reduceCtorEq, ak, b3, g4]
  refine hJ2 _ ?_
  refine seq_k fun J5 hJ5 => ?_
  refine seq_k fun J6 hJ6 => ?_
  refine reg_k ?_
  simp only [Nat.reduceEqDiff, Nat.reduceAdd, Nat.reduceMul, Nat.reduceLeDiff, Nat.reduceLT, Int.reduceLE, Int.reduceLT, Int.reduceGT, Int.reduceGE, Int.reduceEq, Int.reduceNe, Int.reduceToNat, reduceCtorEq, ak]
  refine hJ6 _ ?_
  refine block_k fun B7 B7n B7x B7r B7j => ?_
  obtain ⟨y29, h30, h⟩ := of_bind h
  refine gh_k (st' := ⟨[(0, .c (.ref (.arg 0) [] o0 l0.length)), (3, .c (.ref (.tmp 7 0) [] 0 ((List.replicate (l0.length : Int).toNat (z63 : S63)).length))), (4, .c (.sc (.int .i64 0)))], [(.arg 0, ⟨.fz, 3, cs0⟩), (.tmp 7 0, ⟨.lst, 3, encL c63 (List.replicate (l0.length : Int).toNat (z63 : S63))⟩)], [], []⟩) (((Weak.keep [0, 3, 4]).trans ((Weak.foc [(.arg 0, ⟨(.arg 0), [], none, .fz⟩), (.tmp 7 0, ⟨(.tmp 7 0), [], none, .lst⟩)] rfl (by first | rfl | simp only [reduceCtorEq, Nat.reduceEqDiff, ak, akF, b3]) (by simp [argK, akG, ak])).trans (Weak.of_eq (by first | rfl | (simp only [reduceCtorEq, Nat.reduceEqDiff, ak, akF, b3]; done) | (simp [reduceCtorEq, Nat.reduceEqDiff, ak, akF, b3]; done)))))) ?_
  rw [e_loop]
  refine laws_toSubEventS.l0_walk cs0 o0 l0 hv0 0 (List.replicate (l0.length : Int).toNat (z63 : S63)) _ h30 _ ?_
  refine B7x _ ?_
  refine hJ5 _ ?_
  refine seq_k fun J31 hJ31 => ?_
  refine reg_k ?_
  simp only [Nat.reduceEqDiff, Nat.reduceAdd, Nat.reduceMul, Nat.reduceLeDiff, Nat.reduceLT, Int.reduceLE, Int.reduceLT, Int.reduceGT, Int.reduceGE, Int.reduceEq, Int.reduceNe, Int.reduceToNat, reduceCtorEq, ak]
  refine hJ31 _ ?_
  obtain rfl := Option.some.inj h
  refine hKr _ ⟨_, rfl, [⟨(.tmp 7 0), [], none, .lst⟩], _, rfl, rfl, ?_⟩
  first | rfl | (simp only [reduceCtorEq, Nat.reduceEqDiff, ak, akF, b3]; done) | (simp [reduceCtorEq, Nat.reduceEqDiff, ak, akF, b3]; done)
/-! ### spec.l4ConfigOK: function 130 -/
def c130 : AC := .seq (.reg [.op none (.box 1 (.tmp 0)), .op none (.mv 2 (.const (.bool false))), .keep [1]]) (.seq (.reg [.op none (.faddr 3 1 (.tmp 1)), .op none (.load 4 false 1 (.tmp 3)), .op none (.bin 5 .geq (.tmp 4) (.const (.int .i64 1))), .op none (.mv 6 (.tmp 5)), .op (some (6, true)) (.faddr 7 1 (.tmp 1)), .op (some (6, true)) (.load 8 false 1 (.tmp 7)), .op (some (6, true)) (.bin 9 .leq (.tmp 8) (.const (.int .i64 16))), .op none (.pick 10 (.tmp 6) (.tmp 9) (.const (.bool false))), .op none (.mv 11 (.tmp 10)), .op (some (11, true)) (.faddr 12 2 (.tmp 1)), .op (some (11, true)) (.load 13 false 1 (.tmp 12)), .op (some (11, true)) (.bin 14 .geq (.tmp 13) (.const (.int .i64 1))), .op none (.pick 15 (.tmp 11) (.tmp 14) (.const (.bool false))), .op none (.mv 16 (.tmp 15)), .op (some (16, true)) (.faddr 17 2 (.tmp 1)), .op (some (16, true)) (.load 18 false 1 (.tmp 17)), .op (some (16, true)) (.bin 19 .leq (.tmp 18) (.const (.int .i64 50))), .op none (.pick 20 (.tmp 16) (.tmp 19) (.const (.bool false))), .op none (.mv 21 (.tmp 20)), .op (some (21, true)) (.faddr 22 3 (.tmp 1)), .op (some (21, true)) (.load 23 false 1 (.tmp 22)), .op (some (21, true)) (.faddr 24 2 (.tmp 1)), .op (some (21, true)) (.load 25 false 1 (.tmp 24)), .op (some (21, true)) (.bin 26 .geq (.tmp 23) (.tmp 25)), .op none (.pick 27 (.tmp 21) (.tmp 26) (.const (.bool false))), .op none (.mv 28 (.tmp 27)), .op (some (28, true)) (.faddr 29 3 (.tmp 1)), .op (some (28, true)) (.load 30 false 1 (.tmp 29)), .op (some (28, true)) (.bin 31 .leq (.tmp 30) (.const (.int .i64 400))), .op none (.pick 32 (.tmp 28) (.tmp 31) (.const (.bool false))), .op none (.mv 33 (.tmp 32)), .op (some (33, true)) (.faddr 34 4 (.tmp 1)), .op (some (33, true)) (.load 35 false 1 (.tmp 34)), .op (some (33, true)) (.bin 36 .geq (.tmp 35) (.const (.int .i64 1))), .op none (.pick 37 (.tmp 33) (.tmp 36) (.const (.bool false))), .op none (.mv 38 (.tmp 37)), .op (some (38, true)) (.faddr 39 4 (.tmp 1)), .op (some (38, true)) (.load 40 false 1 (.tmp 39)), .op (some (38, true)) (.bin 41 .leq (.tmp 40) (.const (.int .i64 8))), .op none (.pick 42 (.tmp 38) (.tmp 41) (.const (.bool false))), .op none (.mv 43 (.tmp 42)), .op (some (43, true)) (.faddr 44 5 (.tmp 1)), .op (some (43, true)) (.load 45 false 1 (.tmp 44)), .op (some (43, true)) (.bin 46 .geq (.tmp 45) (.const (.int .i64 1))), .op none (.pick 47 (.tmp 43) (.tmp 46) (.const (.bool false))), .op none (.mv 48 (.tmp 47)), .op (some (48, true)) (.faddr 49 5 (.tmp 1)), .op (some (48, true)) (.load 50 false 1 (.tmp 49)), .op (some (48, true)) (.bin 51 .leq (.tmp 50) (.const (.int .i64 50))), .op none (.pick 52 (.tmp 48) (.tmp 51) (.const (.bool false))), .op none (.mv 2 (.tmp 52)), .keep [2]]) (.ret))
def r130 : List RV := [.tmp 2]
theorem k130 : compC Try.prog 53 c130 (Try.f130.body.getD .skip) = some c130.erase := by kernel_rfl
theorem q130 : rvsOf Try.prog Try.f130.results.toList = some r130 := by kernel_rfl
def spec_l4ConfigOK.f (a0_0 : Int) (a0_1 : Int) (a0_2 : Int) (a0_3 : Int) (a0_4 : Int) (a0_5 : Int) : Option Bool := (if a0_1 ≥ 1 then (if a0_1 ≤ 16 then (if a0_2 ≥ 1 then (if a0_2 ≤ 50 then (if a0_3 ≥ a0_2 then (if a0_3 ≤ 400 then (if a0_4 ≥ 1 then (if a0_4 ≤ 8 then (if a0_5 ≥ 1 then (some (decide (a0_5 ≤ 50))) else (some false)) else (some false)) else (some false)) else (some false)) else (some false)) else (some false)) else (some false)) else (some false)) else (some false))
set_option maxRecDepth 100000 in
set_option maxHeartbeats 4000000 in
theorem spec_l4ConfigOK.tri (a0_0 : Int) (a0_1 : Int) (a0_2 : Int) (a0_3 : Int) (a0_4 : Int) (a0_5 : Int) (r : Bool) (h : spec_l4ConfigOK.f a0_0 a0_1 a0_2 a0_3 a0_4 a0_5 = some r) : Tri Try.prog 130 [.g [.sc (.int .u32 a0_0), .sc (.int .i64 a0_1), .sc (.int .i64 a0_2), .sc (.int .i64 a0_3), .sc (.int .i64 a0_4), .sc (.int .i64 a0_5)]] [] (fun o => o = ⟨.c (.sc (.bool r)), [], [], []⟩) := by
  refine tri_of_body (ac := c130) (xs := r130) Try.func130 (show Try.f130.body = some (Try.f130.body.getD .skip) from rfl) k130 q130 (Nat.le_of_ble_eq_true rfl) ?_
  refine body_of fun K hKn hKr => ?_
  unfold spec_l4ConfigOK.f at h
  unfold c130
  simp only [initT, Nat.reduceAdd]
  refine seq_k fun J1 hJ1 => ?_
  refine reg_k ?_
  simp only [Nat.reduceEqDiff, Nat.reduceAdd, Nat.reduceMul, Nat.reduceLeDiff, Nat.reduceLT, Int.reduceLE, Int.reduceLT, Int.reduceGT, Int.reduceGE, Int.reduceEq, Int.reduceNe, Int.reduceToNat, reduceCtorEq, ak]
  refine hJ1 _ ?_
  refine seq_k fun J2 hJ2 => ?_
  refine reg_k ?_
  simp only [Nat.reduceEqDiff, Nat.reduceAdd, Nat.reduceMul, Nat.reduceLeDiff, Nat.reduceLT, Int.reduceLE, Int.reduceLT, Int.reduceGT, Int.reduceGE, Int.reduceEq, Int.reduceNe, Int.reduceToNat, reduceCtorEq, ak]
  by_cases c3 : a0_1 ≥ 1
  · rw [if_pos c3] at h
    have e4 : decide (a0_1 ≥ 1) = true := decide_eq_true c3
    simp only [Nat.reduceEqDiff, Nat.reduceAdd, Nat.reduceMul, Nat.reduceLeDiff, Nat.reduceLT, Int.reduceLE, Int.reduceLT, Int.reduceGT, Int.reduceGE, Int.reduceEq, Int.reduceNe, Int.reduceToNat, reduceCtorEq, ak, e4]
    by_cases c5 : a0_1 ≤ 16
    · rw [if_pos c5] at h
      have e6 : decide (a0_1 ≤ 16) = true := decide_eq_true c5
      simp only [Nat.reduceEqDiff, Nat.reduceAdd, Nat.reduceMul, Nat.reduceLeDiff, Nat.reduceLT, Int.reduceLE, Int.reduceLT, Int.reduceGT, Int.reduceGE, Int.reduceEq, Int.reduceNe, Int.reduceToNat, reduceCtorEq, ak, e6]
      by_cases c7 : a0_2 ≥ 1
      · rw [if_pos c7] at h
        have e8 : decide (a0_2 ≥ 1) = true := decide_eq_true c7
        simp only [Nat.reduceEqDiff, Nat.reduceAdd, Nat.reduceMul, Nat.reduceLeDiff, Nat.reduceLT, Int.reduceLE, Int.reduceLT, Int.reduceGT, Int.reduceGE, Int.reduceEq, Int.reduceNe, Int.reduceToNat, reduceCtorEq, ak, e8]
        by_cases c9 : a0_2 ≤ 50
        · rw [if_pos c9] at h
          have e10 : decide (a0_2 ≤ 50) = true := decide_eq_true c9
          simp only [Nat.reduceEqDiff, Nat.reduceAdd, Nat.reduceMul, Nat.reduceLeDiff, Nat.reduceLT, Int.reduceLE, Int.reduceLT, Int.reduceGT, Int.reduceGE, Int.reduceEq, Int.reduceNe, Int.reduceToNat, reduceCtorEq, ak, e10]
          by_cases c11 : a0_3 ≥ a0_2
          · rw [if_pos c11] at h
            have e12 : decide (a0_3 ≥ a0_2) = true := decide_eq_true c11
            simp only [Nat.reduceEqDiff, Nat.reduceAdd, Nat.reduceMul, Nat.reduceLeDiff, Nat.reduceLT, Int.reduceLE, Int.reduceLT, Int.reduceGT, Int.reduceGE, Int.reduceEq, Int.reduceNe, Int.reduceToNat, reduceCtorEq, ak, e12]
            by_cases c13 : a0_3 ≤ 400
            · rw [if_pos c13] at h
              have e14 : decide (a0_3 ≤ 400) = true := decide_eq_true c13
              simp only [Nat.reduceEqDiff, Nat.reduceAdd, Nat.reduceMul, Nat.reduceLeDiff, Nat.reduceLT, Int.reduceLE, Int.reduceLT, Int.reduceGT, Int.reduceGE, Int.reduceEq, Int.reduceNe, Int.reduceToNat, reduceCtorEq, ak, e14]
              by_cases c15 : a0_4 ≥ 1
              · rw [if_pos c15] at h
                have e16 : decide (a0_4 ≥ 1) = true := decide_eq_true c15
                simp only [Nat.reduceEqDiff, Nat.reduceAdd, Nat.reduceMul, Nat.reduceLeDiff, Nat.reduceLT, Int.reduceLE, Int.reduceLT, Int.reduceGT, Int.reduceGE, Int.reduceEq, Int.reduceNe, Int.reduceToNat, reduceCtorEq, ak, e16]
                by_cases c17 : a0_4 ≤ 8
                · rw [if_pos c17] at h
                  have e18 : decide (a0_4 ≤ 8) = true := decide_eq_true c17
                  simp only [Nat.reduceEqDiff, Nat.reduceAdd, Nat.reduceMul, Nat.reduceLeDiff, Nat.reduceLT, Int.reduceLE, Int.reduceLT, Int.reduceGT, Int.reduceGE, Int.reduceEq, Int.reduceNe, Int.reduceToNat, reduceCtorEq, ak, e18]
                  by_cases c19 : a0_5 ≥ 1
                  · rw [if_pos c19] at h
                    have e20 : decide (a0_5 ≥ 1) = true := decide_eq_true c19
                    simp only [Nat.reduceEqDiff, Nat.reduceAdd, Nat.reduceMul, Nat.reduceLeDiff, Nat.reduceLT, Int.reduceLE, Int.reduceLT, Int.reduceGT, Int.reduceGE, Int.reduceEq, Int.reduceNe, Int.reduceToNat, reduceCtorEq, ak, e20]
                    refine hJ2 _ ?_
                    obtain rfl := Option.some.inj h
                    refine hKr _ ⟨_, rfl, [], _, rfl, rfl, ?_⟩
                    first | rfl | (simp only [reduceCtorEq, Nat.reduceEqDiff, ak, akF, e4, e6, e8, e10, e12, e14, e16, e18, e20]; done) | (simp [reduceCtorEq, Nat.reduceEqDiff, ak, akF, e4, e6, e8, e10, e12, e14, e16, e18, e20]; done)
                  · rw [if_neg c19] at h
                    have e21 : decide (a0_5 ≥ 1) = false := decide_eq_false c19
                    simp only [Nat.reduceEqDiff, Nat.reduceAdd, Nat.reduceMul, Nat.reduceLeDiff, Nat.reduceLT, Int.reduceLE, Int.reduceLT, Int.reduceGT, Int.reduceGE, Int.reduceEq, Int.reduceNe, Int.reduceToNat, reduceCtorEq, ak, e21]
                    refine hJ2 _ ?_
                    obtain rfl := Option.some.inj h
                    refine hKr _ ⟨_, rfl, [], _, rfl, rfl, ?_⟩
                    first | rfl | (simp only [reduceCtorEq, Nat.reduceEqDiff, ak, akF, e4, e6, e8, e10, e12, e14, e16, e18, e21]; done) | (simp [reduceCtorEq, Nat.reduceEqDiff, ak, akF, e4, e6, e8, e10, e12, e14, e16, e18, e21]; done)
                · rw [if_neg c17] at h
                  have e22 : decide (a0_4 ≤ 8) = false := decide_eq_false c17
                  simp only [Nat.reduceEqDiff, Nat.reduceAdd, Nat.reduceMul, Nat.reduceLeDiff, Nat.reduceLT, Int.reduceLE, Int.reduceLT, Int.reduceGT, Int.reduceGE, Int.reduceEq, Int.reduceNe, Int.reduceToNat, reduceCtorEq, ak, e22]
                  refine hJ2 _ ?_
                  obtain rfl := Option.some.inj h
                  refine hKr _ ⟨_, rfl, [], _, rfl, rfl, ?_⟩
                  first | rfl | (simp only [reduceCtorEq, Nat.reduceEqDiff, ak, akF, e4, e6, e8, e10, e12, e14, e16, e22]; done) | (simp [reduceCtorEq, Nat.reduceEqDiff, ak, akF, e4, e6, e8, e10, e12, e14, e16, e22]; done)
              · rw [if_neg c15] at h
                have e23 : decide (a0_4 ≥ 1) = false := decide_eq_false c15
                simp only [Nat.reduceEqDiff, Nat.reduceAdd, Nat.reduceMul, Nat.reduceLeDiff, Nat.reduceLT, Int.reduceLE, Int.reduceLT, Int.reduceGT, Int.reduceGE, Int.reduceEq, Int.reduceNe, Int.reduceToNat, reduceCtorEq, ak, e23]
                refine hJ2 _ ?_
                obtain rfl := Option.some.inj h
                refine hKr _ ⟨_, rfl, [], _, rfl, rfl, ?_⟩
                first | rfl | (simp only [reduceCtorEq, Nat.reduceEqDiff, ak, akF, e4, e6, e8, e10, e12, e14, e23]; done) | (simp [reduceCtorEq, Nat.reduceEqDiff, ak, akF, e4, e6, e8, e10, e12, e14, e23]; done)
            · rw [if_neg c13] at h
              have e24 : decide (a0_3 ≤ 400) = false := decide_eq_false c13
              simp only [Nat.reduceEqDiff, Nat.reduceAdd, Nat.reduceMul, Nat.reduceLeDiff, Nat.reduceLT, Int.reduceLE, Int.reduceLT, Int.reduceGT, Int.reduceGE, Int.reduceEq, Int.reduceNe, Int.reduceToNat, reduceCtorEq, ak, e24]
              refine hJ2 _ ?_
              obtain rfl := Option.some.inj h
              refine hKr _ ⟨_, rfl, [], _, rfl, rfl, ?_⟩
              first | rfl | (simp only [reduceCtorEq, Nat.reduceEqDiff, ak, akF, e4, e6, e8, e10, e12, e24]; done) | (simp [reduceCtorEq, Nat.reduceEqDiff, ak, akF, e4, e6, e8, e10, e12, e24]; done)
          · rw [if_neg c11] at h
            have e25 : decide (a0_3 ≥ a0_2) = false := decide_eq_false c11
            simp only [Nat.reduceEqDiff, Nat.reduceAdd, Nat.reduceMul, Nat.reduceLeDiff, Nat.reduceLT, Int.reduceLE, Int.reduceLT, Int.reduceGT, Int.reduceGE, Int.reduceEq, Int.reduceNe, Int.reduceToNat, reduceCtorEq, ak, e25]
            refine hJ2 _ ?_
            obtain rfl := Option.some.inj h
            refine hKr _ ⟨_, rfl, [], _, rfl, rfl, ?_⟩
            first | rfl | (simp only [reduceCtorEq, Nat.reduceEqDiff, ak, akF, e4, e6, e8, e10, e25]; done) | (simp [reduceCtorEq, Nat.reduceEqDiff, ak, akF, e4, e6, e8, e10, e25]; done)
        · rw [if_neg c9] at h
          have e26 : decide (a0_2 ≤ 50) = false := decide_eq_false c9
          simp only [Nat.reduceEqDiff, Nat.reduceAdd, Nat.reduceMul, Nat.reduceLeDiff, Nat.reduceLT, Int.reduceLE, Int.reduceLT, Int.reduceGT, Int.reduceGE, Int.reduceEq, Int.reduceNe, Int.reduceToNat, reduceCtorEq, ak, e26]
          refine hJ2 _ ?_
          obtain rfl := Option.some.inj h
          refine hKr _ ⟨_, rfl, [], _, rfl, rfl, ?_⟩
          first | rfl | (simp only [reduceCtorEq, Nat.reduceEqDiff, ak, akF, e4, e6, e8, e26]; done) | (simp [reduceCtorEq, Nat.reduceEqDiff, ak, akF, e4, e6, e8, e26]; done)
      · rw [if_neg c7] at h
        have e27 : decide (a0_2 ≥ 1) = false := decide_eq_false c7
        simp only [Nat.reduceEqDiff, Nat.reduceAdd, Nat.reduceMul, Nat.reduceLeDiff, Nat.reduceLT, Int.reduceLE, Int.reduceLT, Int.reduceGT, Int.reduceGE, Int.reduceEq, Int.reduceNe, Int.reduceToNat, reduceCtorEq, ak, e27]
        refine hJ2 _ ?_
        obtain rfl := Option.some.inj h
        refine hKr _ ⟨_, rfl, [], _, rfl, rfl, ?_⟩
        first | rfl | (simp only [reduceCtorEq, Nat.reduceEqDiff, ak, akF, e4, e6, e27]; done) | (simp [reduceCtorEq, Nat.reduceEqDiff, ak, akF, e4, e6, e27]; done)
    · rw [if_neg c5] at h
      have e28 : decide (a0_1 ≤ 16) = false := decide_eq_false c5
      simp only [Nat.reduceEqDiff, Nat.reduceAdd, Nat.reduceMul, Nat.reduceLeDiff, Nat.reduceLT, Int.reduceLE, Int.reduceLT, Int.reduceGT, Int.reduceGE, Int.reduceEq, Int.reduceNe, Int.reduceToNat, reduceCtorEq, ak, e28]
      refine hJ2 _ ?_
      obtain rfl := Option.some.inj h
      refine hKr _ ⟨_, rfl, [], _, rfl, rfl, ?_⟩
      first | rfl | (simp only [reduceCtorEq, Nat.reduceEqDiff, ak, akF, e4, e28]; done) | (simp [reduceCtorEq, Nat.reduceEqDiff, ak, akF, e4, e28]; done)
  · rw [if_neg c3] at h
    have e29 : decide (a0_1 ≥ 1) = false := decide_eq_false c3
    simp only [Nat.reduceEqDiff, Nat.reduceAdd, Nat.reduceMul, Nat.reduceLeDiff, Nat.reduceLT, Int.reduceLE, Int.reduceLT, Int.reduceGT, Int.reduceGE, Int.reduceEq, Int.reduceNe, Int.reduceToNat, reduceCtorEq, ak, e29]
    refine hJ2 _ ?_
    obtain rfl := Option.some.inj h
    refine hKr _ ⟨_, rfl, [], _, rfl, rfl, ?_⟩
    first | rfl | (simp only [reduceCtorEq, Nat.reduceEqDiff, ak, akF, e29]; done) | (simp [reduceCtorEq, Nat.reduceEqDiff, ak, akF, e29]; done)
/-! ### spec.l4Begin: function 127 -/
def c127 : AC := .seq (.reg [.op none (.box 1 (.tmp 0)), .op none (.alloc 2 [.int .u32 0, .int .i64 0, .int .i64 0, .int .i64 0, .int .i64 0, .int .i64 0, .slice none 0 0, .int .i64 0, .int .i64 0, .int .i64 0, .int .i64 0, .int .i64 0, .bool false]), .gh, .keep [1, 2]]) (.seq (.reg [.op none (.load 3 true 6 (.tmp 1)), .op none (.faddr 4 2 (.tmp 1)), .op none (.load 5 false 1 (.tmp 4)), .op none (.build 6 [.int .u32 0, .int .i64 0, .int .i64 0, .int .i64 0, .int .i64 0, .int .i64 0, .slice none 0 0, .int .i64 0, .int .i64 0, .int .i64 0, .int .i64 0, .int .i64 0, .bool false] [(0, 6, .tmp 3), (9, 1, .tmp 5)]), .gh, .op none (.store 13 (.tmp 2) (.tmp 6)), .keep [2]]) (.ret))
def r127 : List RV := [.cell 2 true 13]
theorem k127 : compC Try.prog 7 c127 (Try.f127.body.getD .skip) = some c127.erase := by kernel_rfl
theorem q127 : rvsOf Try.prog Try.f127.results.toList = some r127 := by kernel_rfl
def spec_l4Begin.f (a0_0 : Int) (a0_1 : Int) (a0_2 : Int) (a0_3 : Int) (a0_4 : Int) (a0_5 : Int) : Option (Int × Int × Int × Int × Int × Int × (List Int) × Int × Int × Int × Int × Int × Bool) := (some (a0_0, a0_1, a0_2, a0_3, a0_4, a0_5, ([] : List Int), 0, 0, a0_2, 0, 0, false))
set_option maxRecDepth 100000 in
set_option maxHeartbeats 4000000 in
theorem spec_l4Begin.tri (a0_0 : Int) (a0_1 : Int) (a0_2 : Int) (a0_3 : Int) (a0_4 : Int) (a0_5 : Int) (r : Int × Int × Int × Int × Int × Int × (List Int) × Int × Int × Int × Int × Int × Bool) (h : spec_l4Begin.f a0_0 a0_1 a0_2 a0_3 a0_4 a0_5 = some r) : Tri Try.prog 127 [.g [.sc (.int .u32 a0_0), .sc (.int .i64 a0_1), .sc (.int .i64 a0_2), .sc (.int .i64 a0_3), .sc (.int .i64 a0_4), .sc (.int .i64 a0_5)]] [] (fun o => o = ⟨.g [.sc (.int .u32 r.1), .sc (.int .i64 r.2.1), .sc (.int .i64 r.2.2.1), .sc (.int .i64 r.2.2.2.1), .sc (.int .i64 r.2.2.2.2.1), .sc (.int .i64 r.2.2.2.2.2.1), .ref (.res 0) [] 0 r.2.2.2.2.2.2.1.length, .sc (.int .i64 r.2.2.2.2.2.2.2.1), .sc (.int .i64 r.2.2.2.2.2.2.2.2.1), .sc (.int .i64 r.2.2.2.2.2.2.2.2.2.1), .sc (.int .i64 r.2.2.2.2.2.2.2.2.2.2.1), .sc (.int .i64 r.2.2.2.2.2.2.2.2.2.2.2.1), .sc (.bool r.2.2.2.2.2.2.2.2.2.2.2.2)], [(.res 0, ⟨.lst, 1, encL c_i64 r.2.2.2.2.2.2.1⟩)], [], []⟩) := by
  refine tri_of_body (ac := c127) (xs := r127) Try.func127 (show Try.f127.body = some (Try.f127.body.getD .skip) from rfl) k127 q127 (Nat.le_of_ble_eq_true rfl) ?_
  refine body_of fun K hKn hKr => ?_
  unfold spec_l4Begin.f at h
  unfold c127
  simp only [initT, Nat.reduceAdd]
  refine seq_k fun J1 hJ1 => ?_
  refine reg_k ?_
  simp only [Nat.reduceEqDiff, Nat.reduceAdd, Nat.reduceMul, Nat.reduceLeDiff, Nat.reduceLT, Int.reduceLE, Int.reduceLT, Int.reduceGT, Int.reduceGE, Int.reduceEq, Int.reduceNe, Int.reduceToNat, reduceCtorEq, ak]
  refine gho_k (Weak.own (.tmp 2 0) (cs' := [.sc (.int .u32 0), .sc (.int .i64 0), .sc (.int .i64 0), .sc (.int .i64 0), .sc (.int .i64 0), .sc (.int .i64 0), .own 1 (([] : List Int).length) (encL c_i64 ([] : List Int)), .sc (.int .i64 0), .sc (.int .i64 0), .sc (.int .i64 0), .sc (.int .i64 0), .sc (.int .i64 0), .sc (.bool false)]) rfl ⟨.inl rfl, .inl rfl, .inl rfl, .inl rfl, .inl rfl, .inl rfl, .inr ⟨rfl, _, rfl⟩, .inl rfl, .inl rfl, .inl rfl, .inl rfl, .inl rfl, .inl rfl, trivial⟩) ?_
  simp only [Nat.reduceEqDiff, Nat.reduceAdd, Nat.reduceMul, Nat.reduceLeDiff, Nat.reduceLT, Int.reduceLE, Int.reduceLT, Int.reduceGT, Int.reduceGE, Int.reduceEq, Int.reduceNe, Int.reduceToNat, reduceCtorEq, ak]
  refine hJ1 _ ?_
  refine seq_k fun J2 hJ2 => ?_
  refine reg_k ?_
  simp only [Nat.reduceEqDiff, Nat.reduceAdd, Nat.reduceMul, Nat.reduceLeDiff, Nat.reduceLT, Int.reduceLE, Int.reduceLT, Int.reduceGT, Int.reduceGE, Int.reduceEq, Int.reduceNe, Int.reduceToNat, reduceCtorEq, ak]
  refine gho_k (Weak.nmg' 6 6 (.tmp 6 26) 1 (encL c_i64 ([] : List Int)) rfl rfl rfl rfl) ?_
  have g3 : (encL c_i64 ([] : List Int)).length = 0 * 1 := by simp [encL_length c_i64_w]
  simp only [Nat.reduceEqDiff, Nat.reduceAdd, Nat.reduceMul, Nat.reduceLeDiff, Nat.reduceLT, Int.reduceLE, Int.reduceLT, Int.reduceGT, Int.reduceGE, Int.reduceEq, Int.reduceNe, Int.reduceToNat, reduceCtorEq, ak, g3]
  refine hJ2 _ ?_
  obtain rfl := Option.some.inj h
  refine hKr _ ⟨_, rfl, [⟨(.tmp 2 0), [6], none, .lst⟩], _, rfl, rfl, ?_⟩
  first | rfl | (simp only [reduceCtorEq, Nat.reduceEqDiff, ak, akF]; done) | (simp [reduceCtorEq, Nat.reduceEqDiff, ak, akF]; done)
/-! ### spec.l4Out: function 128 -/
def c128 : AC := .seq (.reg [.op none (.mv 2 (.const (.int .i64 0))), .keep [0]]) (.seq (.regD (.first (.op none (.mv 3 (.tmp 0))) (.first (.op none (.nilc 4 (.tmp 3))) (.first (.op none (.faddr 5 6 (.tmp 4))) (.first (.op none (.load 6 false 1 (.tmp 5))) (.first (.op none (.len 7 (.tmp 6))) (.first (.op none (.mv 8 (.tmp 0))) (.first (.op none (.nilc 9 (.tmp 8))) (.first (.op none (.faddr 10 7 (.tmp 9))) (.first (.op none (.load 11 false 1 (.tmp 10))) (.first (.op none (.bin 12 .sub (.tmp 7) (.tmp 11))) (.first (.op none (.mv 2 (.tmp 12))) (.done)))))))))))) [2]) (.ret))
def r128 : List RV := [.tmp 2]
theorem k128 : compC Try.prog 13 c128 (Try.f128.body.getD .skip) = some c128.erase := by kernel_rfl
theorem q128 : rvsOf Try.prog Try.f128.results.toList = some r128 := by kernel_rfl
def spec_l4Out.f (a0_0 : Int) (a0_1 : Int) (a0_2 : Int) (a0_3 : Int) (a0_4 : Int) (a0_5 : Int) (l0_6 : List Int) (a0_7 : Int) (a0_8 : Int) (a0_9 : Int) (a0_10 : Int) (a0_11 : Int) (a0_12 : Bool) : Option Int := (some (IntKind.i64.wrap ((l0_6.length : Int) - a0_7)))
set_option maxRecDepth 100000 in
set_option maxHeartbeats 4000000 in
theorem spec_l4Out.tri (a0_0 : Int) (a0_1 : Int) (a0_2 : Int) (a0_3 : Int) (a0_4 : Int) (a0_5 : Int) (l0_6 : List Int) (a0_7 : Int) (a0_8 : Int) (a0_9 : Int) (a0_10 : Int) (a0_11 : Int) (a0_12 : Bool) (r : Int) (h : spec_l4Out.f a0_0 a0_1 a0_2 a0_3 a0_4 a0_5 l0_6 a0_7 a0_8 a0_9 a0_10 a0_11 a0_12 = some r) : Tri Try.prog 128 [.c (.ptr (.arg 0) [] 0)] [(.arg 0, ⟨.box, 0, [.sc (.int .u32 a0_0), .sc (.int .i64 a0_1), .sc (.int .i64 a0_2), .sc (.int .i64 a0_3), .sc (.int .i64 a0_4), .sc (.int .i64 a0_5), .own 1 l0_6.length (encL c_i64 l0_6), .sc (.int .i64 a0_7), .sc (.int .i64 a0_8), .sc (.int .i64 a0_9), .sc (.int .i64 a0_10), .sc (.int .i64 a0_11), .sc (.bool a0_12)]⟩)] (fun o => o = ⟨.c (.sc (.int .i64 r)), [(.arg 0, ⟨.box, 0, [.sc (.int .u32 a0_0), .sc (.int .i64 a0_1), .sc (.int .i64 a0_2), .sc (.int .i64 a0_3), .sc (.int .i64 a0_4), .sc (.int .i64 a0_5), .own 1 l0_6.length (encL c_i64 l0_6), .sc (.int .i64 a0_7), .sc (.int .i64 a0_8), .sc (.int .i64 a0_9), .sc (.int .i64 a0_10), .sc (.int .i64 a0_11), .sc (.bool a0_12)]⟩)], [], []⟩) := by
  refine tri_of_body (ac := c128) (xs := r128) Try.func128 (show Try.f128.body = some (Try.f128.body.getD .skip) from rfl) k128 q128 (Nat.le_of_ble_eq_true rfl) ?_
  refine body_of fun K hKn hKr => ?_
  unfold spec_l4Out.f at h
  unfold c128
  simp only [initT, Nat.reduceAdd]
  refine seq_k fun J1 hJ1 => ?_
  refine reg_k ?_
  simp only [Nat.reduceEqDiff, Nat.reduceAdd, Nat.reduceMul, Nat.reduceLeDiff, Nat.reduceLT, Int.reduceLE, Int.reduceLT, Int.reduceGT, Int.reduceGE, Int.reduceEq, Int.reduceNe, Int.reduceToNat, reduceCtorEq, ak]
  refine hJ1 _ ?_
  refine seq_k fun J2 hJ2 => ?_
  refine regD_k ?_
  simp only [Nat.reduceBEq, Nat.reduceEqDiff, Nat.reduceAdd, Nat.reduceMul, Nat.reduceLeDiff, Nat.reduceLT, Int.reduceLE, Int.reduceLT, Int.reduceGT, Int.reduceGE, Int.reduceEq, Int.reduceNe, Int.reduceToNat, reduceCtorEq, ak]
  refine hJ2 _ ?_
  obtain rfl := Option.some.inj h
  refine hKr _ ⟨_, rfl, [], _, rfl, rfl, ?_⟩
  first | rfl | (simp only [reduceCtorEq, Nat.reduceEqDiff, ak, akF]; done) | (simp [reduceCtorEq, Nat.reduceEqDiff, ak, akF]; done)
/-! ### spec.l4Send: function 151 -/
def c151 : AC := .seq (.reg [.op none (.alloc 4 [.int .i64 0, .slice none 0 0, .slice none 0 0, .int .i64 0, .int .i64 0]), .gh, .keep [0, 1, 4]]) (.seq (.seq (.reg [.op none (.mv 6 (.tmp 0)), .op none (.nilc 7 (.tmp 6)), .op none (.faddr 8 12 (.tmp 7)), .op none (.load 9 false 1 (.tmp 8)), .keep [0, 1, 4, 9]]) (.cond (.tmp 9) (.seq (.reg [.op none (.build 10 [.int .i64 0, .slice none 0 0, .slice none 0 0, .int .i64 0, .int .i64 0] [(0, 1, .const (.int .i64 10))]), .gh, .op none (.store 5 (.tmp 4) (.tmp 10)), .keep [4]]) (.gh .ret)) (.skip))) (.seq (.seq (.regD (.first (.op none (.mv 11 (.tmp 0))) (.first (.op none (.mv 13 (.tmp 0))) (.first (.op none (.nilc 14 (.tmp 13))) (.first (.op none (.faddr 15 0 (.tmp 14))) (.first (.op none (.faddr 16 1 (.tmp 15))) (.pin [7] (.op none (.load 17 false 1 (.tmp 16))) (.alt (.call none (some 12) 128 [.tmp 11]) none (.pin [] (.op none (.bin 18 .geq (.tmp 12) (.tmp 17))) (.done)) (.stop)))))))) [0, 1, 4, 18]) (.cond (.tmp 18) (.seq (.reg [.op none (.build 19 [.int .i64 0, .slice none 0 0, .slice none 0 0, .int .i64 0, .int .i64 0] [(0, 1, .const (.int .i64 9))]), .gh, .op none (.store 5 (.tmp 4) (.tmp 19)), .keep [4]]) (.gh .ret)) (.skip))) (.seq (.regD (.first (.op none (.mv 20 (.tmp 0))) (.first (.op none (.nilc 21 (.tmp 20))) (.first (.op none (.faddr 22 0 (.tmp 21))) (.first (.op none (.faddr 23 0 (.tmp 22))) (.first (.op none (.load 24 false 1 (.tmp 23))) (.first (.op none (.mv 25 (.tmp 0))) (.first (.op none (.nilc 26 (.tmp 25))) (.first (.op none (.faddr 27 6 (.tmp 26))) (.first (.op none (.load 28 false 1 (.tmp 27))) (.first (.op none (.len 29 (.tmp 28))) (.first (.op none (.conv 30 .u32 (.tmp 29))) (.first (.op none (.bin 31 .add (.tmp 24) (.tmp 30))) (.first (.op none (.mv 32 (.tmp 1))) (.first (.op none (.build 33 [.int .i64 0, .int .u32 0, .int .i64 0] [(0, 1, .const (.int .i64 1)), (1, 1, .tmp 31), (2, 1, .tmp 32)])) (.alt (.op none (.alloc 5 [.int .i64 0, .int .u32 0, .int .i64 0])) none (.alt (.op none (.store 3 (.tmp 5) (.tmp 33))) none (.done) (.stop)) (.stop)))))))))))))))) [0, 1, 4, 5]) (.seq (.reg [.op none (.mv 34 (.tmp 0)), .op none (.mv 35 (.tmp 0)), .op none (.nilc 36 (.tmp 35)), .op none (.faddr 37 6 (.tmp 36)), .op none (.load 38 false 1 (.tmp 37)), .op none (.mv 39 (.tmp 1)), .op none (.bslice 40 1 [.int .i64 0] 1 [(0, .tmp 39)]), .op none (.app 41 1 8 true (.tmp 38) (.tmp 40)), .op none (.nilc 42 (.tmp 34)), .op none (.faddr 43 6 (.tmp 42)), .op none (.store 1 (.tmp 43) (.tmp 41)), .keep [0, 4, 5]]) (.seq (.ga (.seq (.reg [.op none (.mv 44 (.tmp 0)), .op none (.nilc 45 (.tmp 44)), .op none (.faddr 46 8 (.tmp 45)), .op none (.load 47 false 1 (.tmp 46)), .op none (.bin 48 .eql (.tmp 47) (.const (.int .i64 0))), .keep [0, 4, 5, 48]]) (.cond (.tmp 48) (.reg [.op none (.mv 49 (.tmp 0)), .op none (.mv 50 (.tmp 0)), .op none (.nilc 51 (.tmp 50)), .op none (.faddr 52 9 (.tmp 51)), .op none (.load 53 false 1 (.tmp 52)), .op none (.nilc 54 (.tmp 49)), .op none (.faddr 55 8 (.tmp 54)), .op none (.store 1 (.tmp 55) (.tmp 53)), .keep [4, 5]]) (.skip)))) (.seq (.reg [.op none (.load 56 true 3 (.tmp 5)), .op none (.bslice 57 3 [.int .i64 0, .int .u32 0, .int .i64 0] 1 [(0, .tmp 56)]), .op none (.build 58 [.int .i64 0, .slice none 0 0, .slice none 0 0, .int .i64 0, .int .i64 0] [(1, 1, .tmp 57)]), .gh, .op none (.store 5 (.tmp 4) (.tmp 58)), .keep [4]]) (.gh .ret)))))))
def r151 : List RV := [.cell 4 true 5]
theorem k151 : compC Try.prog 59 c151 (Try.f151.body.getD .skip) = some c151.erase := by kernel_rfl
theorem q151 : rvsOf Try.prog Try.f151.results.toList = some r151 := by kernel_rfl
def spec_l4Send.f (a0_0 : Int) (a0_1 : Int) (a0_2 : Int) (a0_3 : Int) (a0_4 : Int) (a0_5 : Int) (l0_6 : List Int) (a0_7 : Int) (a0_8 : Int) (a0_9 : Int) (a0_10 : Int) (a0_11 : Int) (a0_12 : Bool) (a1 : Int) : Option (Int × (List S68) × (List Int) × Int × Int × (List Int) × Int) := (if a0_12 = true then (some (10, ([] : List S68), ([] : List Int), 0, 0, l0_6, a0_8)) else (spec_l4Out.f a0_0 a0_1 a0_2 a0_3 a0_4 a0_5 l0_6 a0_7 a0_8 a0_9 a0_10 a0_11 a0_12 >>= fun t10 => (if t10 ≥ a0_1 then (some (9, ([] : List S68), ([] : List Int), 0, 0, l0_6, a0_8)) else (if (l0_6.length + 1) * 8 ≤ 140737488355328 then ((if a0_8 = 0 then (some a0_9) else (some a0_8)) >>= fun (j30 : Int) => (some (0, ([(⟨1, IntKind.u32.wrap (a0_0 + (IntKind.u32.wrap (l0_6.length : Int))), a1⟩ : S68)] : List S68), ([] : List Int), 0, 0, (l0_6 ++ ([a1] : List Int)), j30))) else none))))
set_option maxRecDepth 100000 in
set_option maxHeartbeats 4000000 in
theorem spec_l4Send.tri (a0_0 : Int) (a0_1 : Int) (a0_2 : Int) (a0_3 : Int) (a0_4 : Int) (a0_5 : Int) (l0_6 : List Int) (a0_7 : Int) (a0_8 : Int) (a0_9 : Int) (a0_10 : Int) (a0_11 : Int) (a0_12 : Bool) (a1 : Int) (r : Int × (List S68) × (List Int) × Int × Int × (List Int) × Int) (h : spec_l4Send.f a0_0 a0_1 a0_2 a0_3 a0_4 a0_5 l0_6 a0_7 a0_8 a0_9 a0_10 a0_11 a0_12 a1 = some r) : Tri Try.prog 151 [.c (.ptr (.arg 0) [] 0), .c (.sc (.int .i64 a1))] [(.arg 0, ⟨.box, 0, [.sc (.int .u32 a0_0), .sc (.int .i64 a0_1), .sc (.int .i64 a0_2), .sc (.int .i64 a0_3), .sc (.int .i64 a0_4), .sc (.int .i64 a0_5), .own 1 l0_6.length (encL c_i64 l0_6), .sc (.int .i64 a0_7), .sc (.int .i64 a0_8), .sc (.int .i64 a0_9), .sc (.int .i64 a0_10), .sc (.int .i64 a0_11), .sc (.bool a0_12)]⟩)] (fun o => o = ⟨.g [.sc (.int .i64 r.1), .ref (.res 0) [] 0 r.2.1.length, .ref (.res 1) [] 0 r.2.2.1.length, .sc (.int .i64 r.2.2.2.1), .sc (.int .i64 r.2.2.2.2.1)], [(.arg 0, ⟨.box, 0, [.sc (.int .u32 a0_0), .sc (.int .i64 a0_1), .sc (.int .i64 a0_2), .sc (.int .i64 a0_3), .sc (.int .i64 a0_4), .sc (.int .i64 a0_5), .own 1 r.2.2.2.2.2.1.length (encL c_i64 r.2.2.2.2.2.1), .sc (.int .i64 a0_7), .sc (.int .i64 r.2.2.2.2.2.2), .sc (.int .i64 a0_9), .sc (.int .i64 a0_10), .sc (.int .i64 a0_11), .sc (.bool a0_12)]⟩), (.res 0, ⟨.lst, 3, encL c68 r.2.1⟩), (.res 1, ⟨.lst, 1, encL c_i64 r.2.2.1⟩)], [0], []⟩) := by
  refine tri_of_body (ac := c151) (xs := r151) Try.func151 (show Try.f151.body = some (Try.f151.body.getD .skip) from rfl) k151 q151 (Nat.le_of_ble_eq_true rfl) ?_
  refine body_of fun K hKn hKr => ?_
  unfold spec_l4Send.f at h
  unfold c151
  simp only [initT, Nat.reduceAdd]
  refine seq_k fun J1 hJ1 => ?_
  refine reg_k ?_
  simp only [Nat.reduceEqDiff, Nat.reduceAdd, Nat.reduceMul, Nat.reduceLeDiff, Nat.reduceLT, Int.reduceLE, Int.reduceLT, Int.reduceGT, Int.reduceGE, Int.reduceEq, Int.reduceNe, Int.reduceToNat, reduceCtorEq, ak]
  refine gho_k (Weak.own (.tmp 4 0) (cs' := [.sc (.int .i64 0), .own 3 (([] : List S68).length) (encL c68 ([] : List S68)), .own 1 (([] : List Int).length) (encL c_i64 ([] : List Int)), .sc (.int .i64 0), .sc (.int .i64 0)]) rfl ⟨.inl rfl, .inr ⟨rfl, _, rfl⟩, .inr ⟨rfl, _, rfl⟩, .inl rfl, .inl rfl, trivial⟩) ?_
  simp only [Nat.reduceEqDiff, Nat.reduceAdd, Nat.reduceMul, Nat.reduceLeDiff, Nat.reduceLT, Int.reduceLE, Int.reduceLT, Int.reduceGT, Int.reduceGE, Int.reduceEq, Int.reduceNe, Int.reduceToNat, reduceCtorEq, ak]
  refine hJ1 _ ?_
  refine seq_k fun J2 hJ2 => ?_
  refine seq_k fun J3 hJ3 => ?_
  refine reg_k ?_
  simp only [Nat.reduceEqDiff, Nat.reduceAdd, Nat.reduceMul, Nat.reduceLeDiff, Nat.reduceLT, Int.reduceLE, Int.reduceLT, Int.reduceGT, Int.reduceGE, Int.reduceEq, Int.reduceNe, Int.reduceToNat, reduceCtorEq, ak]
  refine hJ3 _ ?_
  refine cond_k (b := a0_12) rfl (fun c4 => ?_) (fun c4 => ?_)
  · rw [if_pos c4] at h
    refine seq_k fun J5 hJ5 => ?_
    refine reg_k ?_
    simp only [Nat.reduceEqDiff, Nat.reduceAdd, Nat.reduceMul, Nat.reduceLeDiff, Nat.reduceLT, Int.reduceLE, Int.reduceLT, Int.reduceGT, Int.reduceGE, Int.reduceEq, Int.reduceNe, Int.reduceToNat, reduceCtorEq, ak]
    refine gho_k ((Weak.nmg' 10 1 (.tmp 10 21) 3 (encL c68 ([] : List S68)) rfl rfl rfl rfl).trans (Weak.nmg' 10 2 (.tmp 10 22) 1 (encL c_i64 ([] : List Int)) rfl rfl rfl rfl)) ?_
    have g6 : (encL c68 ([] : List S68)).length = 0 * 3 := by simp [encL_length c68_w]
    have g7 : (encL c_i64 ([] : List Int)).length = 0 * 1 := by simp [encL_length c_i64_w]
    simp only [Nat.reduceEqDiff, Nat.reduceAdd, Nat.reduceMul, Nat.reduceLeDiff, Nat.reduceLT, Int.reduceLE, Int.reduceLT, Int.reduceGT, Int.reduceGE, Int.reduceEq, Int.reduceNe, Int.reduceToNat, reduceCtorEq, ak, g6, g7]
    refine hJ5 _ ?_
    refine gh_k (Weak.mark [0] [] (by simp) (by simp)) ?_
    obtain rfl := Option.some.inj h
    refine hKr _ ⟨_, rfl, [⟨(.tmp 4 0), [1], none, .lst⟩, ⟨(.tmp 4 0), [2], none, .lst⟩], _, rfl, rfl, ?_⟩
    first | rfl | (simp only [reduceCtorEq, Nat.reduceEqDiff, ak, akF]; done) | (simp [reduceCtorEq, Nat.reduceEqDiff, ak, akF]; done)
  · rw [if_neg (Bool.eq_false_iff.1 c4)] at h
    refine hJ2 _ ?_
    refine seq_k fun J8 hJ8 => ?_
    refine seq_k fun J9 hJ9 => ?_
    refine regD_k ?_
    simp only [Nat.reduceBEq, Nat.reduceEqDiff, Nat.reduceAdd, Nat.reduceMul, Nat.reduceLeDiff, Nat.reduceLT, Int.reduceLE, Int.reduceLT, Int.reduceGT, Int.reduceGE, Int.reduceEq, Int.reduceNe, Int.reduceToNat, reduceCtorEq, ak]
    obtain ⟨t10, h11, h⟩ := of_bind h
    refine alt_e ?_
    · simp only [Nat.reduceBEq, Nat.reduceEqDiff, Nat.reduceAdd, Nat.reduceMul, Nat.reduceLeDiff, Nat.reduceLT, Int.reduceLE, Int.reduceLT, Int.reduceGT, Int.reduceGE, Int.reduceEq, Int.reduceNe, Int.reduceToNat, reduceCtorEq, ak]
      refine call_m [(.arg 0, ⟨(.arg 0), [], none, .box⟩)] (s0 := [(.arg 0, ⟨.box, 0, [.sc (.int .u32 a0_0), .sc (.int .i64 a0_1), .sc (.int .i64 a0_2), .sc (.int .i64 a0_3), .sc (.int .i64 a0_4), .sc (.int .i64 a0_5), .own 1 l0_6.length (encL c_i64 l0_6), .sc (.int .i64 a0_7), .sc (.int .i64 a0_8), .sc (.int .i64 a0_9), .sc (.int .i64 a0_10), .sc (.int .i64 a0_11), .sc (.bool a0_12)]⟩)]) (by intro t ht; cases ht; decide) rfl rfl (by first | rfl | simp only [reduceCtorEq, Nat.reduceEqDiff, ak, akF]) (spec_l4Out.tri a0_0 a0_1 a0_2 a0_3 a0_4 a0_5 l0_6 a0_7 a0_8 a0_9 a0_10 a0_11 a0_12 _ h11) (by first | rfl | simp only [reduceCtorEq, Nat.reduceEqDiff, ak, akF]) (by simp [bkOk2, memK]) (fun hl12 => ?_)
      refine call_st (s4 := [(.arg 0, ⟨.box, 0, [.sc (.int .u32 a0_0), .sc (.int .i64 a0_1), .sc (.int .i64 a0_2), .sc (.int .i64 a0_3), .sc (.int .i64 a0_4), .sc (.int .i64 a0_5), .own 1 l0_6.length (encL c_i64 l0_6), .sc (.int .i64 a0_7), .sc (.int .i64 a0_8), .sc (.int .i64 a0_9), .sc (.int .i64 a0_10), .sc (.int .i64 a0_11), .sc (.bool a0_12)]⟩), (.tmp 4 0, ⟨.box, 0, [.sc (.int .i64 0), .own 3 (([] : List S68).length) (encL c68 ([] : List S68)), .own 1 (([] : List Int).length) (encL c_i64 ([] : List Int)), .sc (.int .i64 0), .sc (.int .i64 0)]⟩)]) (m1' := []) (m2' := []) (v' := .c (.sc (.int .i64 t10))) (Sto.mapN_killNil _ _) (mrgL_whole (new' := [.sc (.int .u32 a0_0), .sc (.int .i64 a0_1), .sc (.int .i64 a0_2), .sc (.int .i64 a0_3), .sc (.int .i64 a0_4), .sc (.int .i64 a0_5), .own 1 l0_6.length (encL c_i64 l0_6), .sc (.int .i64 a0_7), .sc (.int .i64 a0_8), .sc (.int .i64 a0_9), .sc (.int .i64 a0_10), .sc (.int .i64 a0_11), .sc (.bool a0_12)]) (mrgL_nil' _ _ _) rfl (by rfl) (.inl ⟨rfl, by first | rfl | simp only [reduceCtorEq, Nat.reduceEqDiff, ak, akF, Nat.zero_add, List.append_nil]⟩)) (by rfl) (mapT_killNil _ _) (by rfl) (by rfl) (by first | rfl | simp only [reduceCtorEq, Nat.reduceEqDiff, ak, akF, Nat.zero_add, List.append_nil]) ?_
      simp only [Nat.reduceBEq, Nat.reduceEqDiff, Nat.reduceAdd, Nat.reduceMul, Nat.reduceLeDiff, Nat.reduceLT, Int.reduceLE, Int.reduceLT, Int.reduceGT, Int.reduceGE, Int.reduceEq, Int.reduceNe, Int.reduceToNat, reduceCtorEq, ak]
      refine hJ9 _ ?_
      refine cond_k (b := decide (t10 ≥ a0_1)) rfl (fun c14 => ?_) (fun c14 => ?_)
      · replace c14 := of_decide_eq_true c14; rw [if_pos c14] at h
        refine seq_k fun J15 hJ15 => ?_
        refine reg_k ?_
        simp only [Nat.reduceEqDiff, Nat.reduceAdd, Nat.reduceMul, Nat.reduceLeDiff, Nat.reduceLT, Int.reduceLE, Int.reduceLT, Int.reduceGT, Int.reduceGE, Int.reduceEq, Int.reduceNe, Int.reduceToNat, reduceCtorEq, ak]
        refine gho_k ((Weak.nmg' 19 1 (.tmp 19 21) 3 (encL c68 ([] : List S68)) rfl rfl rfl rfl).trans (Weak.nmg' 19 2 (.tmp 19 22) 1 (encL c_i64 ([] : List Int)) rfl rfl rfl rfl)) ?_
        have g16 : (encL c68 ([] : List S68)).length = 0 * 3 := by simp [encL_length c68_w]
        have g17 : (encL c_i64 ([] : List Int)).length = 0 * 1 := by simp [encL_length c_i64_w]
        simp only [Nat.reduceEqDiff, Nat.reduceAdd, Nat.reduceMul, Nat.reduceLeDiff, Nat.reduceLT, Int.reduceLE, Int.reduceLT, Int.reduceGT, Int.reduceGE, Int.reduceEq, Int.reduceNe, Int.reduceToNat, reduceCtorEq, ak, g16, g17]
        refine hJ15 _ ?_
        refine gh_k (Weak.mark [0] [] (by simp) (by simp)) ?_
        obtain rfl := Option.some.inj h
        refine hKr _ ⟨_, rfl, [⟨(.tmp 4 0), [1], none, .lst⟩, ⟨(.tmp 4 0), [2], none, .lst⟩], _, rfl, rfl, ?_⟩
        first | rfl | (simp only [reduceCtorEq, Nat.reduceEqDiff, ak, akF]; done) | (simp [reduceCtorEq, Nat.reduceEqDiff, ak, akF]; done)
      · replace c14 := of_decide_eq_false c14; rw [if_neg c14] at h
        refine hJ8 _ ?_
        refine seq_k fun J18 hJ18 => ?_
        refine regD_k ?_
        simp only [Nat.reduceBEq, Nat.reduceEqDiff, Nat.reduceAdd, Nat.reduceMul, Nat.reduceLeDiff, Nat.reduceLT, Int.reduceLE, Int.reduceLT, Int.reduceGT, Int.reduceGE, Int.reduceEq, Int.reduceNe, Int.reduceToNat, reduceCtorEq, ak]
        refine alt_e ?_
        · simp only [Nat.reduceBEq, Nat.reduceEqDiff, Nat.reduceAdd, Nat.reduceMul, Nat.reduceLeDiff, Nat.reduceLT, Int.reduceLE, Int.reduceLT, Int.reduceGT, Int.reduceGE, Int.reduceEq, Int.reduceNe, Int.reduceToNat, reduceCtorEq, ak]
          refine alt_e ?_
          · simp only [Nat.reduceBEq, Nat.reduceEqDiff, Nat.reduceAdd, Nat.reduceMul, Nat.reduceLeDiff, Nat.reduceLT, Int.reduceLE, Int.reduceLT, Int.reduceGT, Int.reduceGE, Int.reduceEq, Int.reduceNe, Int.reduceToNat, reduceCtorEq, ak]
            refine hJ18 _ ?_
            refine seq_k fun J19 hJ19 => ?_
            refine reg_k ?_
            have g20 : (List.replicate 1 ([.int .i64 0] : List Value)).flatten = [.int .i64 0] := rfl
            have g21 : (⟨.lst, 1, [.sc (.int .i64 a1)]⟩ : Root) = ⟨.lst, 1, encL c_i64 ([a1] : List Int)⟩ := rfl
            have g22 : ([a1] : List Int).length = 1 := rfl
            have g23 : (encL c_i64 ([a1] : List Int)).length = 1 * 1 := by simp [encL_length c_i64_w]
            have g24 : (encL c_i64 ([a1] : List Int)).all nd = true := rfl
            obtain ⟨b25, h⟩ := of_guard h
            have g26 : appLim l0_6.length 1 8 := ⟨b25, by have := b25; omega⟩
            have g27 : (encL c_i64 l0_6).length = l0_6.length * 1 := by simp [encL_length c_i64_w]
            have g28 : encL c_i64 l0_6 ++ encL c_i64 ([a1] : List Int) = encL c_i64 (l0_6 ++ ([a1] : List Int)) := (encL_append _ _).symm
            have g29 : (encL c_i64 (l0_6 ++ ([a1] : List Int))).length = (l0_6.length + 1) * 1 := by simp [encL_length c_i64_w]
            simp only [Nat.reduceEqDiff, Nat.reduceAdd, Nat.reduceMul, Nat.reduceLeDiff, Nat.reduceLT, Int.reduceLE, Int.reduceLT, Int.reduceGT, Int.reduceGE, Int.reduceEq, Int.reduceNe, Int.reduceToNat, reduceCtorEq, ak, g20, g21, g22, g23, g24, g26, g27, g28, g29]
            refine hJ19 _ ?_
            obtain ⟨j30, h31, hn⟩ := of_bind h
            refine seq_j (fun st => st = ⟨[(4, .c (.ptr (.tmp 4 0) [] 0)), (5, .c (.ptr (.tmp 5 0) [] 0))], [(.arg 0, ⟨.box, 0, [.sc (.int .u32 a0_0), .sc (.int .i64 a0_1), .sc (.int .i64 a0_2), .sc (.int .i64 a0_3), .sc (.int .i64 a0_4), .sc (.int .i64 a0_5), .own 1 (l0_6.length + 1) (encL c_i64 (l0_6 ++ ([a1] : List Int))), .sc (.int .i64 a0_7), .sc (.int .i64 j30), .sc (.int .i64 a0_9), .sc (.int .i64 a0_10), .sc (.int .i64 a0_11), .sc (.bool a0_12)]⟩), (.tmp 4 0, ⟨.box, 0, [.sc (.int .i64 0), .own 3 (([] : List S68).length) (encL c68 ([] : List S68)), .own 1 (([] : List Int).length) (encL c_i64 ([] : List Int)), .sc (.int .i64 0), .sc (.int .i64 0)]⟩), (.tmp 5 0, ⟨.box, 0, [.sc (.int .i64 1), .sc (.int .u32 (IntKind.u32.wrap (a0_0 + (IntKind.u32.wrap (l0_6.length : Int))))), .sc (.int .i64 a1)]⟩)], [0], []⟩) (fun J32 hJ32 => ?_) ?_
            · replace h := h31; clear hn
              refine ga_k fun G33 G33n G33r G33x => ?_
              refine seq_k fun J34 hJ34 => ?_
              refine reg_k ?_
              simp only [Nat.reduceEqDiff, Nat.reduceAdd, Nat.reduceMul, Nat.reduceLeDiff, Nat.reduceLT, Int.reduceLE, Int.reduceLT, Int.reduceGT, Int.reduceGE, Int.reduceEq, Int.reduceNe, Int.reduceToNat, reduceCtorEq, ak]
              refine hJ34 _ ?_
              refine cond_k (b := decide (a0_8 = 0)) rfl (fun c35 => ?_) (fun c35 => ?_)
              · replace c35 := of_decide_eq_true c35; rw [if_pos c35] at h
                refine reg_k ?_
                simp only [Nat.reduceEqDiff, Nat.reduceAdd, Nat.reduceMul, Nat.reduceLeDiff, Nat.reduceLT, Int.reduceLE, Int.reduceLT, Int.reduceGT, Int.reduceGE, Int.reduceEq, Int.reduceNe, Int.reduceToNat, reduceCtorEq, ak]
                obtain rfl := Option.some.inj h
                refine G33n _ _ ((Weak.mark [0] [] (by simp) (by simp)).trans ((Weak.keep [4, 5]).trans ((Weak.foc [(.arg 0, ⟨(.arg 0), [], none, .box⟩), (.tmp 4 0, ⟨(.tmp 4 0), [], none, .box⟩), (.tmp 5 0, ⟨(.tmp 5 0), [], none, .box⟩)] rfl (by first | rfl | simp only [reduceCtorEq, Nat.reduceEqDiff, ak, akF, b25]) (by simp [argK, akG, ak])).trans (Weak.of_eq (by first | rfl | (simp only [reduceCtorEq, Nat.reduceEqDiff, ak, akF, b25]; done) | (simp [reduceCtorEq, Nat.reduceEqDiff, ak, akF, b25]; done)))))) (hJ32 _ rfl)
              · replace c35 := of_decide_eq_false c35; rw [if_neg c35] at h
                obtain rfl := Option.some.inj h
                refine G33n _ _ ((Weak.mark [0] [] (by simp) (by simp)).trans ((Weak.keep [4, 5]).trans ((Weak.foc [(.arg 0, ⟨(.arg 0), [], none, .box⟩), (.tmp 4 0, ⟨(.tmp 4 0), [], none, .box⟩), (.tmp 5 0, ⟨(.tmp 5 0), [], none, .box⟩)] rfl (by first | rfl | simp only [reduceCtorEq, Nat.reduceEqDiff, ak, akF, b25]) (by simp [argK, akG, ak])).trans (Weak.of_eq (by first | rfl | (simp only [reduceCtorEq, Nat.reduceEqDiff, ak, akF, b25]; done) | (simp [reduceCtorEq, Nat.reduceEqDiff, ak, akF, b25]; done)))))) (hJ32 _ rfl)
            · replace h := hn; clear hn h31
              rintro _ rfl
              refine seq_k fun J36 hJ36 => ?_
              refine reg_k ?_
              have g37 : (List.replicate 1 ([.int .i64 0, .int .u32 0, .int .i64 0] : List Value)).flatten = [.int .i64 0, .int .u32 0, .int .i64 0] := rfl
              have g38 : (⟨.lst, 3, [.sc (.int .i64 1), .sc (.int .u32 (IntKind.u32.wrap (a0_0 + (IntKind.u32.wrap (l0_6.length : Int))))), .sc (.int .i64 a1)]⟩ : Root) = ⟨.lst, 3, encL c68 ([(⟨1, IntKind.u32.wrap (a0_0 + (IntKind.u32.wrap (l0_6.length : Int))), a1⟩ : S68)] : List S68)⟩ := rfl
              have g39 : ([(⟨1, IntKind.u32.wrap (a0_0 + (IntKind.u32.wrap (l0_6.length : Int))), a1⟩ : S68)] : List S68).length = 1 := rfl
              simp only [Nat.reduceEqDiff, Nat.reduceAdd, Nat.reduceMul, Nat.reduceLeDiff, Nat.reduceLT, Int.reduceLE, Int.reduceLT, Int.reduceGT, Int.reduceGE, Int.reduceEq, Int.reduceNe, Int.reduceToNat, reduceCtorEq, ak, g37, g38, g39]
              refine gho_k (Weak.nmg' 58 2 (.tmp 58 22) 1 (encL c_i64 ([] : List Int)) rfl rfl rfl rfl) ?_
              have g40 : (encL c68 ([(⟨1, IntKind.u32.wrap (a0_0 + (IntKind.u32.wrap (l0_6.length : Int))), a1⟩ : S68)] : List S68)).length = 1 * 3 := by simp [encL_length c68_w]
              have g41 : (encL c_i64 ([] : List Int)).length = 0 * 1 := by simp [encL_length c_i64_w]
              simp only [Nat.reduceEqDiff, Nat.reduceAdd, Nat.reduceMul, Nat.reduceLeDiff, Nat.reduceLT, Int.reduceLE, Int.reduceLT, Int.reduceGT, Int.reduceGE, Int.reduceEq, Int.reduceNe, Int.reduceToNat, reduceCtorEq, ak, g40, g41]
              refine hJ36 _ ?_
              refine gh_k (Weak.mark [0] [] (by simp) (by simp)) ?_
              obtain rfl := Option.some.inj h
              refine hKr _ ⟨_, rfl, [⟨(.tmp 4 0), [1], none, .lst⟩, ⟨(.tmp 4 0), [2], none, .lst⟩], _, rfl, rfl, ?_⟩
              first | rfl | (simp only [reduceCtorEq, Nat.reduceEqDiff, ak, akF, b25]; done) | (simp [reduceCtorEq, Nat.reduceEqDiff, ak, akF, b25]; done)
/-! ### spec.l4Again: function 162 -/
def c162_l0 : AC := .seq (.seq (.reg [.op none (.mv 10 (.tmp 4)), .op none (.mv 11 (.tmp 0)), .op none (.nilc 12 (.tmp 11)), .op none (.faddr 13 6 (.tmp 12)), .op none (.load 14 false 1 (.tmp 13)), .op none (.len 15 (.tmp 14)), .op none (.bin 16 .lss (.tmp 10) (.tmp 15)), .keep [0, 3, 4, 16]]) (.cond (.tmp 16) (.skip) (.gh (.exit 0)))) (.seq (.block 1 (.regD (.first (.op none (.mv 19 (.tmp 3))) (.first (.op none (.mv 20 (.tmp 0))) (.first (.op none (.nilc 21 (.tmp 20))) (.first (.op none (.faddr 22 0 (.tmp 21))) (.first (.op none (.faddr 23 0 (.tmp 22))) (.first (.op none (.load 24 false 1 (.tmp 23))) (.first (.op none (.mv 25 (.tmp 4))) (.first (.op none (.conv 26 .u32 (.tmp 25))) (.first (.op none (.bin 27 .add (.tmp 24) (.tmp 26))) (.first (.op none (.mv 28 (.tmp 0))) (.first (.op none (.nilc 29 (.tmp 28))) (.first (.op none (.faddr 30 6 (.tmp 29))) (.first (.op none (.load 31 false 1 (.tmp 30))) (.first (.op none (.mv 32 (.tmp 4))) (.first (.op none (.iaddr 33 1 (.tmp 31) (.tmp 32))) (.first (.op none (.load 34 false 1 (.tmp 33))) (.first (.op none (.build 35 [.int .i64 0, .int .u32 0, .int .i64 0] [(0, 1, .const (.int .i64 2)), (1, 1, .tmp 27), (2, 1, .tmp 34)])) (.alt (.op none (.bslice 36 3 [.int .i64 0, .int .u32 0, .int .i64 0] 1 [(0, .tmp 35)])) none (.alt (.op none (.app 37 3 24 false (.tmp 19) (.tmp 36))) none (.first (.op none (.mv 3 (.tmp 37))) (.done)) (.stop)) (.stop))))))))))))))))))) [0, 3, 4])) (.reg [.op none (.mv 17 (.tmp 4)), .op none (.bin 18 .add (.tmp 17) (.const (.int .i64 1))), .op none (.mv 4 (.tmp 18)), .keep [0, 3, 4]]))
def c162 : AC := .seq (.reg [.op none (.mv 2 (.const (.slice none 0 0))), .gh, .keep [0]]) (.seq (.reg [.op none (.bslice 5 3 [.int .i64 0, .int .u32 0, .int .i64 0] 0 []), .op none (.mv 3 (.tmp 5)), .keep [0, 3]]) (.seq (.seq (.reg [.op none (.mv 6 (.tmp 0)), .op none (.nilc 7 (.tmp 6)), .op none (.faddr 8 7 (.tmp 7)), .op none (.load 9 false 1 (.tmp 8)), .op none (.mv 4 (.tmp 9)), .keep [0, 3, 4]]) (.block 0 (.gh (.loop (.ga c162_l0))))) (.seq (.reg [.op none (.mv 38 (.tmp 3)), .op none (.mv 2 (.tmp 38)), .keep [2]]) (.ret))))
def r162 : List RV := [.tmp 2]
theorem k162 : compC Try.prog 39 c162 (Try.f162.body.getD .skip) = some c162.erase := by kernel_rfl
theorem q162 : rvsOf Try.prog Try.f162.results.toList = some r162 := by kernel_rfl
def spec_l4Again.l0 (x0_1 : Int) (x0_2 : Int) (x0_3 : Int) (x0_4 : Int) (x0_5 : Int) (x0_6 : Int) (x0_7 : (List Int)) (x0_8 : Int) (x0_9 : Int) (x0_10 : Int) (x0_11 : Int) (x0_12 : Int) (x0_13 : Bool) (x0_0 : Int) (x0_14 : (List S68)) : Option (List S68) := (if x0_0 < (x0_7.length : Int) then (if 0 ≤ x0_0 ∧ x0_0 < (x0_7.length : Int) then (if (x0_14.length + 1) * 24 ≤ 140737488355328 then (spec_l4Again.l0 x0_1 x0_2 x0_3 x0_4 x0_5 x0_6 x0_7 x0_8 x0_9 x0_10 x0_11 x0_12 x0_13 (IntKind.i64.wrap (x0_0 + 1)) (x0_14 ++ ([(⟨2, IntKind.u32.wrap (x0_1 + (IntKind.u32.wrap x0_0)), (rd 0 x0_7 x0_0)⟩ : S68)] : List S68))) else none) else none) else (some x0_14))
  partial_fixpoint
def spec_l4Again.f (a0_0 : Int) (a0_1 : Int) (a0_2 : Int) (a0_3 : Int) (a0_4 : Int) (a0_5 : Int) (l0_6 : List Int) (a0_7 : Int) (a0_8 : Int) (a0_9 : Int) (a0_10 : Int) (a0_11 : Int) (a0_12 : Bool) : Option (List S68) := (spec_l4Again.l0 a0_0 a0_1 a0_2 a0_3 a0_4 a0_5 l0_6 a0_7 a0_8 a0_9 a0_10 a0_11 a0_12 a0_7 ([] : List S68) >>= fun (y43 : (List S68)) => (some y43))
set_option maxRecDepth 100000 in
set_option maxHeartbeats 4000000 in
theorem spec_l4Again.l0_walk (x0_1 : Int) (x0_2 : Int) (x0_3 : Int) (x0_4 : Int) (x0_5 : Int) (x0_6 : Int) (x0_7 : (List Int)) (x0_8 : Int) (x0_9 : Int) (x0_10 : Int) (x0_11 : Int) (x0_12 : Int) (x0_13 : Bool) (x0_0 : Int) (x0_14 : (List S68)) (y : (List S68)) (h : spec_l4Again.l0 x0_1 x0_2 x0_3 x0_4 x0_5 x0_6 x0_7 x0_8 x0_9 x0_10 x0_11 x0_12 x0_13 x0_0 x0_14 = some y) (K : AE → St → Prop) (hx0 : K (.exit 0) ⟨[(3, .c (.ref (.tmp 5 0) [] 0 y.length))], [(.arg 0, ⟨.box, 0, [.sc (.int .u32 x0_1), .sc (.int .i64 x0_2), .sc (.int .i64 x0_3), .sc (.int .i64 x0_4), .sc (.int .i64 x0_5), .sc (.int .i64 x0_6), .own 1 x0_7.length (encL c_i64 x0_7), .sc (.int .i64 x0_8), .sc (.int .i64 x0_9), .sc (.int .i64 x0_10), .sc (.int .i64 x0_11), .sc (.int .i64 x0_12), .sc (.bool x0_13)]⟩), (.tmp 5 0, ⟨.lst, 3, encL c68 y⟩)], [], []⟩) : loopS Try.prog 39 (.ga c162_l0) K ⟨[(0, .c (.ptr (.arg 0) [] 0)), (3, .c (.ref (.tmp 5 0) [] 0 x0_14.length)), (4, .c (.sc (.int .i64 x0_0)))], [(.arg 0, ⟨.box, 0, [.sc (.int .u32 x0_1), .sc (.int .i64 x0_2), .sc (.int .i64 x0_3), .sc (.int .i64 x0_4), .sc (.int .i64 x0_5), .sc (.int .i64 x0_6), .own 1 x0_7.length (encL c_i64 x0_7), .sc (.int .i64 x0_8), .sc (.int .i64 x0_9), .sc (.int .i64 x0_10), .sc (.int .i64 x0_11), .sc (.int .i64 x0_12), .sc (.bool x0_13)]⟩), (.tmp 5 0, ⟨.lst, 3, encL c68 x0_14⟩)], [], []⟩ := by
  refine spec_l4Again.l0.partial_correctness x0_1 x0_2 x0_3 x0_4 x0_5 x0_6 x0_7 x0_8 x0_9 x0_10 x0_11 x0_12 x0_13 (motive := fun x0_0 x0_14 y => ∀ (K : AE → St → Prop), (K (.exit 0) ⟨[(3, .c (.ref (.tmp 5 0) [] 0 y.length))], [(.arg 0, ⟨.box, 0, [.sc (.int .u32 x0_1), .sc (.int .i64 x0_2), .sc (.int .i64 x0_3), .sc (.int .i64 x0_4), .sc (.int .i64 x0_5), .sc (.int .i64 x0_6), .own 1 x0_7.length (encL c_i64 x0_7), .sc (.int .i64 x0_8), .sc (.int .i64 x0_9), .sc (.int .i64 x0_10), .sc (.int .i64 x0_11), .sc (.int .i64 x0_12), .sc (.bool x0_13)]⟩), (.tmp 5 0, ⟨.lst, 3, encL c68 y⟩)], [], []⟩) → loopS Try.prog 39 (.ga c162_l0) K ⟨[(0, .c (.ptr (.arg 0) [] 0)), (3, .c (.ref (.tmp 5 0) [] 0 x0_14.length)), (4, .c (.sc (.int .i64 x0_0)))], [(.arg 0, ⟨.box, 0, [.sc (.int .u32 x0_1), .sc (.int .i64 x0_2), .sc (.int .i64 x0_3), .sc (.int .i64 x0_4), .sc (.int .i64 x0_5), .sc (.int .i64 x0_6), .own 1 x0_7.length (encL c_i64 x0_7), .sc (.int .i64 x0_8), .sc (.int .i64 x0_9), .sc (.int .i64 x0_10), .sc (.int .i64 x0_11), .sc (.int .i64 x0_12), .sc (.bool x0_13)]⟩), (.tmp 5 0, ⟨.lst, 3, encL c68 x0_14⟩)], [], []⟩) ?_ x0_0 x0_14 y h K hx0
  clear h hx0
  intro rec ih x0_0 x0_14 y h K hx0
  refine loop_unroll (ga_k fun G0 G0n G0r G0x => ?_)
  unfold c162_l0
  refine seq_k fun J9 hJ9 => ?_
  refine seq_k fun J10 hJ10 => ?_
  refine reg_k ?_
  simp only [Nat.reduceEqDiff, Nat.reduceAdd, Nat.reduceMul, Nat.reduceLeDiff, Nat.reduceLT, Int.reduceLE, Int.reduceLT, Int.reduceGT, Int.reduceGE, Int.reduceEq, Int.reduceNe, Int.reduceToNat, reduceCtorEq, ak]
  refine hJ10 _ ?_
  refine cond_k (b := decide (x0_0 < (x0_7.length : Int))) rfl (fun c11 => ?_) (fun c11 => ?_)
  · replace c11 := of_decide_eq_true c11; rw [if_pos c11] at h
    refine hJ9 _ ?_
    refine seq_k fun J12 hJ12 => ?_
    refine block_k fun B13 B13n B13x B13r B13j => ?_
    refine regD_k ?_
    obtain ⟨b14, h⟩ := of_guard h
    have g15 : (encL c_i64 x0_7)[0 + x0_0.toNat * 1]? = some (.sc (.int .i64 (rd 0 x0_7 x0_0))) := (Vw.whole c_i64_w x0_7).get 0 0 b14.1 b14.2 (by decide)
    simp only [Nat.reduceBEq, Nat.reduceEqDiff, Nat.reduceAdd, Nat.reduceMul, Nat.reduceLeDiff, Nat.reduceLT, Int.reduceLE, Int.reduceLT, Int.reduceGT, Int.reduceGE, Int.reduceEq, Int.reduceNe, Int.reduceToNat, reduceCtorEq, ak, b14, g15]
    obtain ⟨b21, h⟩ := of_guard h
    refine alt_e ?_
    · have g30 : (List.replicate 1 ([.int .i64 0, .int .u32 0, .int .i64 0] : List Value)).flatten = [.int .i64 0, .int .u32 0, .int .i64 0] := rfl
      have g31 : (⟨.lst, 3, [.sc (.int .i64 2), .sc (.int .u32 (IntKind.u32.wrap (x0_1 + (IntKind.u32.wrap x0_0)))), .sc (.int .i64 (rd 0 x0_7 x0_0))]⟩ : Root) = ⟨.lst, 3, encL c68 ([(⟨2, IntKind.u32.wrap (x0_1 + (IntKind.u32.wrap x0_0)), (rd 0 x0_7 x0_0)⟩ : S68)] : List S68)⟩ := rfl
      have g32 : ([(⟨2, IntKind.u32.wrap (x0_1 + (IntKind.u32.wrap x0_0)), (rd 0 x0_7 x0_0)⟩ : S68)] : List S68).length = 1 := rfl
      simp only [Nat.reduceBEq, Nat.reduceEqDiff, Nat.reduceAdd, Nat.reduceMul, Nat.reduceLeDiff, Nat.reduceLT, Int.reduceLE, Int.reduceLT, Int.reduceGT, Int.reduceGE, Int.reduceEq, Int.reduceNe, Int.reduceToNat, reduceCtorEq, ak, g30, g31, g32]
      refine alt_e ?_
      · have g38 : (encL c68 ([(⟨2, IntKind.u32.wrap (x0_1 + (IntKind.u32.wrap x0_0)), (rd 0 x0_7 x0_0)⟩ : S68)] : List S68)).take 3 = encL c68 ([(⟨2, IntKind.u32.wrap (x0_1 + (IntKind.u32.wrap x0_0)), (rd 0 x0_7 x0_0)⟩ : S68)] : List S68) := by simpa using (Vw.whole c68_w ([(⟨2, IntKind.u32.wrap (x0_1 + (IntKind.u32.wrap x0_0)), (rd 0 x0_7 x0_0)⟩ : S68)] : List S68)).all
        have g39 : (encL c68 ([(⟨2, IntKind.u32.wrap (x0_1 + (IntKind.u32.wrap x0_0)), (rd 0 x0_7 x0_0)⟩ : S68)] : List S68)).all isSc = true := encL_all (fun _ => rfl) _
        have g40 : appLim x0_14.length 1 24 := ⟨b21, by have := b21; omega⟩
        have g41 : (encL c68 x0_14).length = x0_14.length * 3 := by simp [encL_length c68_w]
        have g42 : encL c68 x0_14 ++ encL c68 ([(⟨2, IntKind.u32.wrap (x0_1 + (IntKind.u32.wrap x0_0)), (rd 0 x0_7 x0_0)⟩ : S68)] : List S68) = encL c68 (x0_14 ++ ([(⟨2, IntKind.u32.wrap (x0_1 + (IntKind.u32.wrap x0_0)), (rd 0 x0_7 x0_0)⟩ : S68)] : List S68)) := (encL_append _ _).symm
        simp only [Nat.reduceBEq, Nat.reduceEqDiff, Nat.reduceAdd, Nat.reduceMul, Nat.reduceLeDiff, Nat.reduceLT, Int.reduceLE, Int.reduceLT, Int.reduceGT, Int.reduceGE, Int.reduceEq, Int.reduceNe, Int.reduceToNat, reduceCtorEq, ak, g38, g39, g40, g41, g42]
        refine B13n _ ?_
        refine hJ12 _ ?_
        refine reg_k ?_
        simp only [Nat.reduceEqDiff, Nat.reduceAdd, Nat.reduceMul, Nat.reduceLeDiff, Nat.reduceLT, Int.reduceLE, Int.reduceLT, Int.reduceGT, Int.reduceGE, Int.reduceEq, Int.reduceNe, Int.reduceToNat, reduceCtorEq, ak]
        refine G0n _ (⟨[(0, .c (.ptr (.arg 0) [] 0)), (3, .c (.ref (.tmp 5 0) [] 0 ((x0_14 ++ ([(⟨2, IntKind.u32.wrap (x0_1 + (IntKind.u32.wrap x0_0)), (rd 0 x0_7 x0_0)⟩ : S68)] : List S68)).length))), (4, .c (.sc (.int .i64 (IntKind.i64.wrap (x0_0 + 1)))))], [(.arg 0, ⟨.box, 0, [.sc (.int .u32 x0_1), .sc (.int .i64 x0_2), .sc (.int .i64 x0_3), .sc (.int .i64 x0_4), .sc (.int .i64 x0_5), .sc (.int .i64 x0_6), .own 1 x0_7.length (encL c_i64 x0_7), .sc (.int .i64 x0_8), .sc (.int .i64 x0_9), .sc (.int .i64 x0_10), .sc (.int .i64 x0_11), .sc (.int .i64 x0_12), .sc (.bool x0_13)]⟩), (.tmp 5 0, ⟨.lst, 3, encL c68 (x0_14 ++ ([(⟨2, IntKind.u32.wrap (x0_1 + (IntKind.u32.wrap x0_0)), (rd 0 x0_7 x0_0)⟩ : S68)] : List S68))⟩)], [], []⟩) (((Weak.keep [0, 3, 4]).trans ((Weak.foc [(.arg 0, ⟨(.arg 0), [], none, .box⟩), (.tmp 5 0, ⟨(.tmp 5 0), [], none, .lst⟩)] rfl (by first | rfl | simp only [reduceCtorEq, Nat.reduceEqDiff, ak, akF, b14, b21]) (by simp [argK, akG, ak])).trans (Weak.of_eq (by first | rfl | (simp only [reduceCtorEq, Nat.reduceEqDiff, ak, akF, b14, b21]; done) | (simp [reduceCtorEq, Nat.reduceEqDiff, ak, akF, b14, b21]; done)))))) (ih _ _ _ h K hx0)
  · replace c11 := of_decide_eq_false c11; rw [if_neg c11] at h
    obtain rfl := Option.some.inj h
    refine gh_k (st' := ⟨[(3, .c (.ref (.tmp 5 0) [] 0 x0_14.length))], [(.arg 0, ⟨.box, 0, [.sc (.int .u32 x0_1), .sc (.int .i64 x0_2), .sc (.int .i64 x0_3), .sc (.int .i64 x0_4), .sc (.int .i64 x0_5), .sc (.int .i64 x0_6), .own 1 x0_7.length (encL c_i64 x0_7), .sc (.int .i64 x0_8), .sc (.int .i64 x0_9), .sc (.int .i64 x0_10), .sc (.int .i64 x0_11), .sc (.int .i64 x0_12), .sc (.bool x0_13)]⟩), (.tmp 5 0, ⟨.lst, 3, encL c68 x0_14⟩)], [], []⟩) (((Weak.keep [3]).trans ((Weak.foc [(.arg 0, ⟨(.arg 0), [], none, .box⟩), (.tmp 5 0, ⟨(.tmp 5 0), [], none, .lst⟩)] rfl (by first | rfl | simp only [reduceCtorEq, Nat.reduceEqDiff, ak, akF]) (by simp [argK, akG, ak])).trans (Weak.of_eq (by first | rfl | (simp only [reduceCtorEq, Nat.reduceEqDiff, ak, akF]; done) | (simp [reduceCtorEq, Nat.reduceEqDiff, ak, akF]; done)))))) ?_
    refine G0x _ _ ?_
    exact hx0
set_option maxRecDepth 100000 in
set_option maxHeartbeats 4000000 in
theorem spec_l4Again.tri (a0_0 : Int) (a0_1 : Int) (a0_2 : Int) (a0_3 : Int) (a0_4 : Int) (a0_5 : Int) (l0_6 : List Int) (a0_7 : Int) (a0_8 : Int) (a0_9 : Int) (a0_10 : Int) (a0_11 : Int) (a0_12 : Bool) (r : (List S68)) (h : spec_l4Again.f a0_0 a0_1 a0_2 a0_3 a0_4 a0_5 l0_6 a0_7 a0_8 a0_9 a0_10 a0_11 a0_12 = some r) : Tri Try.prog 162 [.c (.ptr (.arg 0) [] 0)] [(.arg 0, ⟨.box, 0, [.sc (.int .u32 a0_0), .sc (.int .i64 a0_1), .sc (.int .i64 a0_2), .sc (.int .i64 a0_3), .sc (.int .i64 a0_4), .sc (.int .i64 a0_5), .own 1 l0_6.length (encL c_i64 l0_6), .sc (.int .i64 a0_7), .sc (.int .i64 a0_8), .sc (.int .i64 a0_9), .sc (.int .i64 a0_10), .sc (.int .i64 a0_11), .sc (.bool a0_12)]⟩)] (fun o => o = ⟨.c (.ref (.res 0) [] 0 r.length), [(.arg 0, ⟨.box, 0, [.sc (.int .u32 a0_0), .sc (.int .i64 a0_1), .sc (.int .i64 a0_2), .sc (.int .i64 a0_3), .sc (.int .i64 a0_4), .sc (.int .i64 a0_5), .own 1 l0_6.length (encL c_i64 l0_6), .sc (.int .i64 a0_7), .sc (.int .i64 a0_8), .sc (.int .i64 a0_9), .sc (.int .i64 a0_10), .sc (.int .i64 a0_11), .sc (.bool a0_12)]⟩), (.res 0, ⟨.lst, 3, encL c68 r⟩)], [], []⟩) := by
  refine tri_of_body (ac := c162) (xs := r162) Try.func162 (show Try.f162.body = some (Try.f162.body.getD .skip) from rfl) k162 q162 (Nat.le_of_ble_eq_true rfl) ?_
  refine body_of fun K hKn hKr => ?_
  unfold spec_l4Again.f at h
  unfold c162
  simp only [initT, Nat.reduceAdd]
  refine seq_k fun J1 hJ1 => ?_
  refine reg_k ?_
  simp only [Nat.reduceEqDiff, Nat.reduceAdd, Nat.reduceMul, Nat.reduceLeDiff, Nat.reduceLT, Int.reduceLE, Int.reduceLT, Int.reduceGT, Int.reduceGE, Int.reduceEq, Int.reduceNe, Int.reduceToNat, reduceCtorEq, ak]
  refine gho_k (Weak.nm' 2 (.tmp 2 20) 3 (encL c68 ([] : List S68)) rfl rfl rfl) ?_
  simp only [Nat.reduceEqDiff, Nat.reduceAdd, Nat.reduceMul, Nat.reduceLeDiff, Nat.reduceLT, Int.reduceLE, Int.reduceLT, Int.reduceGT, Int.reduceGE, Int.reduceEq, Int.reduceNe, Int.reduceToNat, reduceCtorEq, ak]
  refine hJ1 _ ?_
  refine seq_k fun J2 hJ2 => ?_
  refine reg_k ?_
  have g3 : (List.replicate 0 ([.int .i64 0, .int .u32 0, .int .i64 0] : List Value)).flatten = [] := rfl
  have g4 : (⟨.lst, 3, []⟩ : Root) = ⟨.lst, 3, encL c68 ([] : List S68)⟩ := rfl
  have g5 : ([] : List S68).length = 0 := rfl
  simp only [Nat.reduceEqDiff, Nat.reduceAdd, Nat.reduceMul, Nat.reduceLeDiff, Nat.reduceLT, Int.reduceLE, Int.reduceLT, Int.reduceGT, Int.reduceGE, Int.reduceEq, Int.reduceNe, Int.reduceToNat, reduceCtorEq, ak, g3, g4, g5]
  refine hJ2 _ ?_
  refine seq_k fun J6 hJ6 => ?_
  refine seq_k fun J7 hJ7 => ?_
  refine reg_k ?_
  simp only [Nat.reduceEqDiff, Nat.reduceAdd, Nat.reduceMul, Nat.reduceLeDiff, Nat.reduceLT, Int.reduceLE, Int.reduceLT, Int.reduceGT, Int.reduceGE, Int.reduceEq, Int.reduceNe, Int.reduceToNat, reduceCtorEq, ak]
  refine hJ7 _ ?_
  refine block_k fun B8 B8n B8x B8r B8j => ?_
  obtain ⟨y43, h44, h⟩ := of_bind h
  refine gh_k (st' := ⟨[(0, .c (.ptr (.arg 0) [] 0)), (3, .c (.ref (.tmp 5 0) [] 0 (([] : List S68).length))), (4, .c (.sc (.int .i64 a0_7)))], [(.arg 0, ⟨.box, 0, [.sc (.int .u32 a0_0), .sc (.int .i64 a0_1), .sc (.int .i64 a0_2), .sc (.int .i64 a0_3), .sc (.int .i64 a0_4), .sc (.int .i64 a0_5), .own 1 l0_6.length (encL c_i64 l0_6), .sc (.int .i64 a0_7), .sc (.int .i64 a0_8), .sc (.int .i64 a0_9), .sc (.int .i64 a0_10), .sc (.int .i64 a0_11), .sc (.bool a0_12)]⟩), (.tmp 5 0, ⟨.lst, 3, encL c68 ([] : List S68)⟩)], [], []⟩) (((Weak.keep [0, 3, 4]).trans ((Weak.foc [(.arg 0, ⟨(.arg 0), [], none, .box⟩), (.tmp 5 0, ⟨(.tmp 5 0), [], none, .lst⟩)] rfl (by first | rfl | simp only [reduceCtorEq, Nat.reduceEqDiff, ak, akF]) (by simp [argK, akG, ak])).trans (Weak.of_eq (by first | rfl | (simp only [reduceCtorEq, Nat.reduceEqDiff, ak, akF]; done) | (simp [reduceCtorEq, Nat.reduceEqDiff, ak, akF]; done)))))) ?_
  rw [e_loop]
  refine spec_l4Again.l0_walk a0_0 a0_1 a0_2 a0_3 a0_4 a0_5 l0_6 a0_7 a0_8 a0_9 a0_10 a0_11 a0_12 a0_7 ([] : List S68) _ h44 _ ?_
  refine B8x _ ?_
  refine hJ6 _ ?_
  refine seq_k fun J45 hJ45 => ?_
  refine reg_k ?_
  simp only [Nat.reduceEqDiff, Nat.reduceAdd, Nat.reduceMul, Nat.reduceLeDiff, Nat.reduceLT, Int.reduceLE, Int.reduceLT, Int.reduceGT, Int.reduceGE, Int.reduceEq, Int.reduceNe, Int.reduceToNat, reduceCtorEq, ak]
  refine hJ45 _ ?_
  obtain rfl := Option.some.inj h
  refine hKr _ ⟨_, rfl, [⟨(.tmp 5 0), [], none, .lst⟩], _, rfl, rfl, ?_⟩
  first | rfl | (simp only [reduceCtorEq, Nat.reduceEqDiff, ak, akF]; done) | (simp [reduceCtorEq, Nat.reduceEqDiff, ak, akF]; done)
/-! ### spec.l4Clock: function 163 -/
def c163 : AC := .seq (.reg [.op none (.mv 2 (.tmp 0)), .op none (.mv 3 (.tmp 0)), .op none (.nilc 4 (.tmp 3)), .op none (.faddr 5 0 (.tmp 4)), .op none (.faddr 6 2 (.tmp 5)), .op none (.load 7 false 1 (.tmp 6)), .op none (.nilc 8 (.tmp 2)), .op none (.faddr 9 9 (.tmp 8)), .op none (.store 1 (.tmp 9) (.tmp 7)), .keep [0]]) (.seq (.reg [.op none (.mv 10 (.tmp 0)), .op none (.nilc 11 (.tmp 10)), .op none (.faddr 12 10 (.tmp 11)), .op none (.store 1 (.tmp 12) (.const (.int .i64 0))), .keep [0]]) (.seq (.reg [.op none (.mv 13 (.tmp 0)), .op none (.nilc 14 (.tmp 13)), .op none (.faddr 15 8 (.tmp 14)), .op none (.store 1 (.tmp 15) (.const (.int .i64 0))), .keep [0]]) (.seq (.reg [.op none (.mv 16 (.tmp 0)), .call none (some 17) 128 [.tmp 16], .op none (.bin 18 .gtr (.tmp 17) (.const (.int .i64 0))), .keep [0, 18]]) (.cond (.tmp 18) (.reg [.op none (.mv 19 (.tmp 0)), .op none (.mv 20 (.tmp 0)), .op none (.nilc 21 (.tmp 20)), .op none (.faddr 22 9 (.tmp 21)), .op none (.load 23 false 1 (.tmp 22)), .op none (.nilc 24 (.tmp 19)), .op none (.faddr 25 8 (.tmp 24)), .op none (.store 1 (.tmp 25) (.tmp 23)), .keep []]) (.skip)))))
def r163 : List RV := []
theorem k163 : compC Try.prog 26 c163 (Try.f163.body.getD .skip) = some c163.erase := by kernel_rfl
theorem q163 : rvsOf Try.prog Try.f163.results.toList = some r163 := by kernel_rfl
def spec_l4Clock.f (a0_0 : Int) (a0_1 : Int) (a0_2 : Int) (a0_3 : Int) (a0_4 : Int) (a0_5 : Int) (l0_6 : List Int) (a0_7 : Int) (a0_8 : Int) (a0_9 : Int) (a0_10 : Int) (a0_11 : Int) (a0_12 : Bool) : Option (Int × Int × Int) := (spec_l4Out.f a0_0 a0_1 a0_2 a0_3 a0_4 a0_5 l0_6 a0_7 0 a0_2 0 a0_11 a0_12 >>= fun t5 => (if t5 > 0 then (some (a0_2, a0_2, 0)) else (some (0, a0_2, 0))))
set_option maxRecDepth 100000 in
set_option maxHeartbeats 4000000 in
theorem spec_l4Clock.tri (a0_0 : Int) (a0_1 : Int) (a0_2 : Int) (a0_3 : Int) (a0_4 : Int) (a0_5 : Int) (l0_6 : List Int) (a0_7 : Int) (a0_8 : Int) (a0_9 : Int) (a0_10 : Int) (a0_11 : Int) (a0_12 : Bool) (r : Int × Int × Int) (h : spec_l4Clock.f a0_0 a0_1 a0_2 a0_3 a0_4 a0_5 l0_6 a0_7 a0_8 a0_9 a0_10 a0_11 a0_12 = some r) : Tri Try.prog 163 [.c (.ptr (.arg 0) [] 0)] [(.arg 0, ⟨.box, 0, [.sc (.int .u32 a0_0), .sc (.int .i64 a0_1), .sc (.int .i64 a0_2), .sc (.int .i64 a0_3), .sc (.int .i64 a0_4), .sc (.int .i64 a0_5), .own 1 l0_6.length (encL c_i64 l0_6), .sc (.int .i64 a0_7), .sc (.int .i64 a0_8), .sc (.int .i64 a0_9), .sc (.int .i64 a0_10), .sc (.int .i64 a0_11), .sc (.bool a0_12)]⟩)] (fun o => o = ⟨.tup [], [(.arg 0, ⟨.box, 0, [.sc (.int .u32 a0_0), .sc (.int .i64 a0_1), .sc (.int .i64 a0_2), .sc (.int .i64 a0_3), .sc (.int .i64 a0_4), .sc (.int .i64 a0_5), .own 1 l0_6.length (encL c_i64 l0_6), .sc (.int .i64 a0_7), .sc (.int .i64 r.1), .sc (.int .i64 r.2.1), .sc (.int .i64 r.2.2), .sc (.int .i64 a0_11), .sc (.bool a0_12)]⟩)], [], []⟩) := by
  refine tri_of_body (ac := c163) (xs := r163) Try.func163 (show Try.f163.body = some (Try.f163.body.getD .skip) from rfl) k163 q163 (Nat.le_of_ble_eq_true rfl) ?_
  refine body_of fun K hKn hKr => ?_
  unfold spec_l4Clock.f at h
  unfold c163
  simp only [initT, Nat.reduceAdd]
  refine seq_k fun J1 hJ1 => ?_
  refine reg_k ?_
  simp only [Nat.reduceEqDiff, Nat.reduceAdd, Nat.reduceMul, Nat.reduceLeDiff, Nat.reduceLT, Int.reduceLE, Int.reduceLT, Int.reduceGT, Int.reduceGE, Int.reduceEq, Int.reduceNe, Int.reduceToNat, reduceCtorEq, ak]
  refine hJ1 _ ?_
  refine seq_k fun J2 hJ2 => ?_
  refine reg_k ?_
  simp only [Nat.reduceEqDiff, Nat.reduceAdd, Nat.reduceMul, Nat.reduceLeDiff, Nat.reduceLT, Int.reduceLE, Int.reduceLT, Int.reduceGT, Int.reduceGE, Int.reduceEq, Int.reduceNe, Int.reduceToNat, reduceCtorEq, ak]
  refine hJ2 _ ?_
  refine seq_k fun J3 hJ3 => ?_
  refine reg_k ?_
  simp only [Nat.reduceEqDiff, Nat.reduceAdd, Nat.reduceMul, Nat.reduceLeDiff, Nat.reduceLT, Int.reduceLE, Int.reduceLT, Int.reduceGT, Int.reduceGE, Int.reduceEq, Int.reduceNe, Int.reduceToNat, reduceCtorEq, ak]
  refine hJ3 _ ?_
  refine seq_k fun J4 hJ4 => ?_
  refine reg_k ?_
  simp only [Nat.reduceEqDiff, Nat.reduceAdd, Nat.reduceMul, Nat.reduceLeDiff, Nat.reduceLT, Int.reduceLE, Int.reduceLT, Int.reduceGT, Int.reduceGE, Int.reduceEq, Int.reduceNe, Int.reduceToNat, reduceCtorEq, ak]
  obtain ⟨t5, h6, h⟩ := of_bind h
  refine call_m [(.arg 0, ⟨(.arg 0), [], none, .box⟩)] (s0 := [(.arg 0, ⟨.box, 0, [.sc (.int .u32 a0_0), .sc (.int .i64 a0_1), .sc (.int .i64 a0_2), .sc (.int .i64 a0_3), .sc (.int .i64 a0_4), .sc (.int .i64 a0_5), .own 1 l0_6.length (encL c_i64 l0_6), .sc (.int .i64 a0_7), .sc (.int .i64 0), .sc (.int .i64 a0_2), .sc (.int .i64 0), .sc (.int .i64 a0_11), .sc (.bool a0_12)]⟩)]) (by intro t ht; cases ht; decide) rfl rfl (by first | rfl | simp only [reduceCtorEq, Nat.reduceEqDiff, ak, akF]) (spec_l4Out.tri a0_0 a0_1 a0_2 a0_3 a0_4 a0_5 l0_6 a0_7 0 a0_2 0 a0_11 a0_12 _ h6) (by first | rfl | simp only [reduceCtorEq, Nat.reduceEqDiff, ak, akF]) (by simp [bkOk2, memK]) (fun hl6 => ?_)
  refine call_st (s4 := [(.arg 0, ⟨.box, 0, [.sc (.int .u32 a0_0), .sc (.int .i64 a0_1), .sc (.int .i64 a0_2), .sc (.int .i64 a0_3), .sc (.int .i64 a0_4), .sc (.int .i64 a0_5), .own 1 l0_6.length (encL c_i64 l0_6), .sc (.int .i64 a0_7), .sc (.int .i64 0), .sc (.int .i64 a0_2), .sc (.int .i64 0), .sc (.int .i64 a0_11), .sc (.bool a0_12)]⟩)]) (m1' := []) (m2' := []) (v' := .c (.sc (.int .i64 t5))) (Sto.mapN_killNil _ _) (mrgL_whole (new' := [.sc (.int .u32 a0_0), .sc (.int .i64 a0_1), .sc (.int .i64 a0_2), .sc (.int .i64 a0_3), .sc (.int .i64 a0_4), .sc (.int .i64 a0_5), .own 1 l0_6.length (encL c_i64 l0_6), .sc (.int .i64 a0_7), .sc (.int .i64 0), .sc (.int .i64 a0_2), .sc (.int .i64 0), .sc (.int .i64 a0_11), .sc (.bool a0_12)]) (mrgL_nil' _ _ _) rfl (by rfl) (.inl ⟨rfl, by first | rfl | simp only [reduceCtorEq, Nat.reduceEqDiff, ak, akF, Nat.zero_add, List.append_nil]⟩)) (by rfl) (mapT_killNil _ _) (by rfl) (by rfl) (by first | rfl | simp only [reduceCtorEq, Nat.reduceEqDiff, ak, akF, Nat.zero_add, List.append_nil]) ?_
  simp only [Nat.reduceEqDiff, Nat.reduceAdd, Nat.reduceMul, Nat.reduceLeDiff, Nat.reduceLT, Int.reduceLE, Int.reduceLT, Int.reduceGT, Int.reduceGE, Int.reduceEq, Int.reduceNe, Int.reduceToNat, reduceCtorEq, ak]
  refine hJ4 _ ?_
  refine cond_k (b := decide (t5 > 0)) rfl (fun c8 => ?_) (fun c8 => ?_)
  · replace c8 := of_decide_eq_true c8; rw [if_pos c8] at h
    refine reg_k ?_
    simp only [Nat.reduceEqDiff, Nat.reduceAdd, Nat.reduceMul, Nat.reduceLeDiff, Nat.reduceLT, Int.reduceLE, Int.reduceLT, Int.reduceGT, Int.reduceGE, Int.reduceEq, Int.reduceNe, Int.reduceToNat, reduceCtorEq, ak]
    obtain rfl := Option.some.inj h
    refine hKn _ ⟨_, rfl, [], _, rfl, rfl, ?_⟩
    first | rfl | (simp only [reduceCtorEq, Nat.reduceEqDiff, ak, akF]; done) | (simp [reduceCtorEq, Nat.reduceEqDiff, ak, akF]; done)
  · replace c8 := of_decide_eq_false c8; rw [if_neg c8] at h
    obtain rfl := Option.some.inj h
    refine hKn _ ⟨_, rfl, [], _, rfl, rfl, ?_⟩
    first | rfl | (simp only [reduceCtorEq, Nat.reduceEqDiff, ak, akF]; done) | (simp [reduceCtorEq, Nat.reduceEqDiff, ak, akF]; done)
/-! ### spec.l4Ack: function 152 -/
def c152_l0 : AC := .seq (.seq (.reg [.op none (.mv 14 (.tmp 6)), .op none (.mv 15 (.tmp 0)), .op none (.nilc 16 (.tmp 15)), .op none (.faddr 17 6 (.tmp 16)), .op none (.load 18 false 1 (.tmp 17)), .op none (.len 19 (.tmp 18)), .op none (.bin 20 .leq (.tmp 14) (.tmp 19)), .keep [0, 1, 4, 5, 6, 20]]) (.cond (.tmp 20) (.skip) (.gh (.exit 0)))) (.seq (.ga (.block 1 (.seq (.reg [.op none (.mv 23 (.tmp 0)), .op none (.nilc 24 (.tmp 23)), .op none (.faddr 25 0 (.tmp 24)), .op none (.faddr 26 0 (.tmp 25)), .op none (.load 27 false 1 (.tmp 26)), .op none (.mv 28 (.tmp 6)), .op none (.conv 29 .u32 (.tmp 28)), .op none (.bin 30 .add (.tmp 27) (.tmp 29)), .op none (.mv 31 (.tmp 1)), .op none (.bin 32 .eql (.tmp 30) (.tmp 31)), .keep [0, 1, 4, 5, 6, 32]]) (.cond (.tmp 32) (.reg [.op none (.mv 33 (.tmp 6)), .op none (.mv 5 (.tmp 33)), .keep [0, 1, 4, 5, 6]]) (.skip))))) (.reg [.op none (.mv 21 (.tmp 6)), .op none (.bin 22 .add (.tmp 21) (.const (.int .i64 1))), .op none (.mv 6 (.tmp 22)), .keep [0, 1, 4, 5, 6]]))
def c152_l1 : AC := .seq (.seq (.reg [.op none (.mv 42 (.tmp 8)), .op none (.mv 43 (.tmp 5)), .op none (.bin 44 .lss (.tmp 42) (.tmp 43)), .keep [0, 4, 5, 7, 8, 44]]) (.cond (.tmp 44) (.skip) (.gh (.exit 2)))) (.seq (.block 3 (.regD (.first (.op none (.faddr 47 2 (.tmp 7))) (.first (.op none (.load 48 false 1 (.tmp 47))) (.first (.op none (.mv 49 (.tmp 0))) (.first (.op none (.nilc 50 (.tmp 49))) (.first (.op none (.faddr 51 6 (.tmp 50))) (.first (.op none (.load 52 false 1 (.tmp 51))) (.first (.op none (.mv 53 (.tmp 8))) (.first (.op none (.iaddr 54 1 (.tmp 52) (.tmp 53))) (.first (.op none (.load 55 false 1 (.tmp 54))) (.alt (.op none (.bslice 56 1 [.int .i64 0] 1 [(0, .tmp 55)])) none (.alt (.op none (.app 57 1 8 false (.tmp 48) (.tmp 56))) none (.first (.op none (.faddr 58 2 (.tmp 7))) (.alt (.op none (.store 1 (.tmp 58) (.tmp 57))) none (.done) (.stop))) (.stop)) (.stop))))))))))) [0, 4, 5, 7, 8])) (.reg [.op none (.mv 45 (.tmp 8)), .op none (.bin 46 .add (.tmp 45) (.const (.int .i64 1))), .op none (.mv 8 (.tmp 46)), .keep [0, 4, 5, 7, 8]]))
def c152 : AC := .seq (.reg [.op none (.alloc 4 [.int .i64 0, .slice none 0 0, .slice none 0 0, .int .i64 0, .int .i64 0]), .gh, .keep [0, 1, 4]]) (.seq (.reg [.op none (.mv 5 (.const (.int .i64 (-1)))), .keep [0, 1, 4, 5]]) (.seq (.seq (.reg [.op none (.mv 10 (.tmp 0)), .op none (.nilc 11 (.tmp 10)), .op none (.faddr 12 7 (.tmp 11)), .op none (.load 13 false 1 (.tmp 12)), .op none (.mv 6 (.tmp 13)), .keep [0, 1, 4, 5, 6]]) (.block 0 (.gh (.loop (.ga c152_l0))))) (.seq (.seq (.reg [.op none (.mv 34 (.tmp 5)), .op none (.bin 35 .lss (.tmp 34) (.const (.int .i64 0))), .keep [0, 4, 5, 35]]) (.cond (.tmp 35) (.seq (.reg [.op none (.build 36 [.int .i64 0, .slice none 0 0, .slice none 0 0, .int .i64 0, .int .i64 0] [(0, 1, .const (.int .i64 11))]), .gh, .op none (.store 5 (.tmp 4) (.tmp 36)), .keep [4]]) (.ret)) (.skip))) (.seq (.reg [.op none (.build 37 [.int .i64 0, .slice none 0 0, .slice none 0 0, .int .i64 0, .int .i64 0] []), .gh, .op none (.alloc 7 [.int .i64 0, .slice none 0 0, .slice none 0 0, .int .i64 0, .int .i64 0]), .gh, .op none (.store 5 (.tmp 7) (.tmp 37)), .keep [0, 4, 5, 7]]) (.seq (.seq (.reg [.op none (.mv 38 (.tmp 0)), .op none (.nilc 39 (.tmp 38)), .op none (.faddr 40 7 (.tmp 39)), .op none (.load 41 false 1 (.tmp 40)), .op none (.mv 8 (.tmp 41)), .keep [0, 4, 5, 7, 8]]) (.block 2 (.gh (.loop (.ga c152_l1))))) (.seq (.reg [.op none (.mv 59 (.tmp 5)), .op none (.mv 60 (.tmp 0)), .op none (.nilc 61 (.tmp 60)), .op none (.faddr 62 7 (.tmp 61)), .op none (.load 63 false 1 (.tmp 62)), .op none (.bin 64 .gtr (.tmp 59) (.tmp 63)), .op none (.mv 9 (.tmp 64)), .keep [0, 4, 5, 7, 9]]) (.seq (.reg [.op none (.mv 65 (.tmp 0)), .op none (.mv 66 (.tmp 5)), .op none (.nilc 67 (.tmp 65)), .op none (.faddr 68 7 (.tmp 67)), .op none (.store 1 (.tmp 68) (.tmp 66)), .keep [0, 4, 7, 9]]) (.seq (.ga (.seq (.reg [.op none (.mv 69 (.tmp 0)), .op none (.nilc 70 (.tmp 69)), .op none (.faddr 71 12 (.tmp 70)), .op none (.load 72 false 1 (.tmp 71)), .keep [0, 4, 7, 9, 72]]) (.cond (.tmp 72) (.seq (.reg [.op none (.mv 73 (.tmp 0)), .op none (.nilc 74 (.tmp 73)), .op none (.faddr 75 12 (.tmp 74)), .op none (.store 1 (.tmp 75) (.const (.bool false))), .keep [0, 4, 7]]) (.seq (.reg [.op none (.mv 76 (.tmp 0)), .op none (.nilc 77 (.tmp 76)), .op none (.faddr 78 11 (.tmp 77)), .op none (.store 1 (.tmp 78) (.const (.int .i64 0))), .keep [0, 4, 7]]) (.seq (.reg [.op none (.faddr 79 4 (.tmp 7)), .op none (.store 1 (.tmp 79) (.const (.int .i64 1))), .keep [0, 4, 7]]) (.seq (.reg [.op none (.mv 80 (.tmp 0)), .call none (some 81) 162 [.tmp 80], .op none (.faddr 82 1 (.tmp 7)), .op none (.store 1 (.tmp 82) (.tmp 81)), .keep [0, 4, 7]]) (.reg [.op none (.mv 83 (.tmp 0)), .call none (some 84) 163 [.tmp 83], .keep [4, 7]]))))) (.seq (.reg [.op none (.mv 85 (.tmp 9)), .keep [0, 4, 7, 85]]) (.cond (.tmp 85) (.reg [.op none (.mv 86 (.tmp 0)), .call none (some 87) 163 [.tmp 86], .keep [4, 7]]) (.skip)))))) (.seq (.reg [.op none (.load 88 true 5 (.tmp 7)), .op none (.store 5 (.tmp 4) (.tmp 88)), .keep [4]]) (.ret))))))))))
def r152 : List RV := [.cell 4 true 5]
theorem k152 : compC Try.prog 89 c152 (Try.f152.body.getD .skip) = some c152.erase := by kernel_rfl
theorem q152 : rvsOf Try.prog Try.f152.results.toList = some r152 := by kernel_rfl
def spec_l4Ack.l0 (x0_0 : Int) (x0_3 : Int) (x0_4 : Int) (x0_5 : Int) (x0_6 : Int) (x0_7 : Int) (x0_8 : Int) (x0_9 : (List Int)) (x0_10 : Int) (x0_11 : Int) (x0_12 : Int) (x0_13 : Int) (x0_14 : Int) (x0_15 : Bool) (x0_16 : Int) (x0_17 : (List S68)) (x0_18 : (List Int)) (x0_19 : Int) (x0_20 : Int) (x0_1 : Int) (x0_2 : Int) : Option Int := (if x0_2 ≤ (x0_9.length : Int) then ((if IntKind.u32.wrap (x0_3 + (IntKind.u32.wrap x0_2)) = x0_0 then (some x0_2) else (some x0_1)) >>= fun (j9 : Int) => (spec_l4Ack.l0 x0_0 x0_3 x0_4 x0_5 x0_6 x0_7 x0_8 x0_9 x0_10 x0_11 x0_12 x0_13 x0_14 x0_15 x0_16 x0_17 x0_18 x0_19 x0_20 j9 (IntKind.i64.wrap (x0_2 + 1)))) else (some x0_1))
  partial_fixpoint
def spec_l4Ack.l1 (x1_0 : Int) (x1_2 : Int) (x1_3 : Int) (x1_4 : Int) (x1_5 : Int) (x1_6 : Int) (x1_7 : Int) (x1_8 : (List Int)) (x1_9 : Int) (x1_10 : Int) (x1_11 : Int) (x1_12 : Int) (x1_13 : Int) (x1_14 : Bool) (x1_15 : Int) (x1_16 : (List S68)) (x1_17 : (List Int)) (x1_18 : Int) (x1_19 : Int) (x1_20 : Int) (x1_21 : (List S68)) (x1_23 : Int) (x1_24 : Int) (x1_1 : Int) (x1_22 : (List Int)) : Option (List Int) := (if x1_1 < x1_0 then (if 0 ≤ x1_1 ∧ x1_1 < (x1_8.length : Int) then (if (x1_22.length + 1) * 8 ≤ 140737488355328 then (spec_l4Ack.l1 x1_0 x1_2 x1_3 x1_4 x1_5 x1_6 x1_7 x1_8 x1_9 x1_10 x1_11 x1_12 x1_13 x1_14 x1_15 x1_16 x1_17 x1_18 x1_19 x1_20 x1_21 x1_23 x1_24 (IntKind.i64.wrap (x1_1 + 1)) (x1_22 ++ ([(rd 0 x1_8 x1_1)] : List Int))) else none) else none) else (some x1_22))
  partial_fixpoint
def spec_l4Ack.f (a0_0 : Int) (a0_1 : Int) (a0_2 : Int) (a0_3 : Int) (a0_4 : Int) (a0_5 : Int) (l0_6 : List Int) (a0_7 : Int) (a0_8 : Int) (a0_9 : Int) (a0_10 : Int) (a0_11 : Int) (a0_12 : Bool) (a1 : Int) : Option (Int × (List S68) × (List Int) × Int × Int × Int × Int × Int × Int × Int × Bool) := (spec_l4Ack.l0 a1 a0_0 a0_1 a0_2 a0_3 a0_4 a0_5 l0_6 a0_7 a0_8 a0_9 a0_10 a0_11 a0_12 0 ([] : List S68) ([] : List Int) 0 0 (-1) a0_7 >>= fun (y16 : Int) => (if y16 < 0 then (some (11, ([] : List S68), ([] : List Int), 0, 0, a0_7, a0_8, a0_9, a0_10, a0_11, a0_12)) else (spec_l4Ack.l1 y16 a0_0 a0_1 a0_2 a0_3 a0_4 a0_5 l0_6 a0_7 a0_8 a0_9 a0_10 a0_11 a0_12 0 ([] : List S68) ([] : List Int) 0 0 0 ([] : List S68) 0 0 a0_7 ([] : List Int) >>= fun (y72 : (List Int)) => ((if a0_12 = true then (spec_l4Again.f a0_0 a0_1 a0_2 a0_3 a0_4 a0_5 l0_6 y16 a0_8 a0_9 a0_10 0 false >>= fun t86 => (spec_l4Clock.f a0_0 a0_1 a0_2 a0_3 a0_4 a0_5 l0_6 y16 a0_8 a0_9 a0_10 0 false >>= fun t90 => (some (t90.1, t90.2.1, t90.2.2, 0, false, t86, 1)))) else (if y16 > a0_7 then (spec_l4Clock.f a0_0 a0_1 a0_2 a0_3 a0_4 a0_5 l0_6 y16 a0_8 a0_9 a0_10 a0_11 a0_12 >>= fun t95 => (some (t95.1, t95.2.1, t95.2.2, a0_11, a0_12, ([] : List S68), 0))) else (some (a0_8, a0_9, a0_10, a0_11, a0_12, ([] : List S68), 0)))) >>= fun (j76 : Int × Int × Int × Int × Bool × (List S68) × Int) => (some (0, j76.2.2.2.2.2.1, y72, 0, j76.2.2.2.2.2.2, y16, j76.1, j76.2.1, j76.2.2.1, j76.2.2.2.1, j76.2.2.2.2.1))))))
set_option maxRecDepth 100000 in
set_option maxHeartbeats 4000000 in
theorem spec_l4Ack.l0_walk (x0_0 : Int) (x0_3 : Int) (x0_4 : Int) (x0_5 : Int) (x0_6 : Int) (x0_7 : Int) (x0_8 : Int) (x0_9 : (List Int)) (x0_10 : Int) (x0_11 : Int) (x0_12 : Int) (x0_13 : Int) (x0_14 : Int) (x0_15 : Bool) (x0_16 : Int) (x0_17 : (List S68)) (x0_18 : (List Int)) (x0_19 : Int) (x0_20 : Int) (x0_1 : Int) (x0_2 : Int) (y : Int) (h : spec_l4Ack.l0 x0_0 x0_3 x0_4 x0_5 x0_6 x0_7 x0_8 x0_9 x0_10 x0_11 x0_12 x0_13 x0_14 x0_15 x0_16 x0_17 x0_18 x0_19 x0_20 x0_1 x0_2 = some y) (K : AE → St → Prop) (hx0 : K (.exit 0) ⟨[(0, .c (.ptr (.arg 0) [] 0)), (4, .c (.ptr (.tmp 4 0) [] 0)), (5, .c (.sc (.int .i64 y)))], [(.arg 0, ⟨.box, 0, [.sc (.int .u32 x0_3), .sc (.int .i64 x0_4), .sc (.int .i64 x0_5), .sc (.int .i64 x0_6), .sc (.int .i64 x0_7), .sc (.int .i64 x0_8), .own 1 x0_9.length (encL c_i64 x0_9), .sc (.int .i64 x0_10), .sc (.int .i64 x0_11), .sc (.int .i64 x0_12), .sc (.int .i64 x0_13), .sc (.int .i64 x0_14), .sc (.bool x0_15)]⟩), (.tmp 4 0, ⟨.box, 0, [.sc (.int .i64 x0_16), .own 3 x0_17.length (encL c68 x0_17), .own 1 x0_18.length (encL c_i64 x0_18), .sc (.int .i64 x0_19), .sc (.int .i64 x0_20)]⟩)], [], []⟩) : loopS Try.prog 89 (.ga c152_l0) K ⟨[(0, .c (.ptr (.arg 0) [] 0)), (1, .c (.sc (.int .u32 x0_0))), (4, .c (.ptr (.tmp 4 0) [] 0)), (5, .c (.sc (.int .i64 x0_1))), (6, .c (.sc (.int .i64 x0_2)))], [(.arg 0, ⟨.box, 0, [.sc (.int .u32 x0_3), .sc (.int .i64 x0_4), .sc (.int .i64 x0_5), .sc (.int .i64 x0_6), .sc (.int .i64 x0_7), .sc (.int .i64 x0_8), .own 1 x0_9.length (encL c_i64 x0_9), .sc (.int .i64 x0_10), .sc (.int .i64 x0_11), .sc (.int .i64 x0_12), .sc (.int .i64 x0_13), .sc (.int .i64 x0_14), .sc (.bool x0_15)]⟩), (.tmp 4 0, ⟨.box, 0, [.sc (.int .i64 x0_16), .own 3 x0_17.length (encL c68 x0_17), .own 1 x0_18.length (encL c_i64 x0_18), .sc (.int .i64 x0_19), .sc (.int .i64 x0_20)]⟩)], [], []⟩ := by
  refine spec_l4Ack.l0.partial_correctness x0_0 x0_3 x0_4 x0_5 x0_6 x0_7 x0_8 x0_9 x0_10 x0_11 x0_12 x0_13 x0_14 x0_15 x0_16 x0_17 x0_18 x0_19 x0_20 (motive := fun x0_1 x0_2 y => ∀ (K : AE → St → Prop), (K (.exit 0) ⟨[(0, .c (.ptr (.arg 0) [] 0)), (4, .c (.ptr (.tmp 4 0) [] 0)), (5, .c (.sc (.int .i64 y)))], [(.arg 0, ⟨.box, 0, [.sc (.int .u32 x0_3), .sc (.int .i64 x0_4), .sc (.int .i64 x0_5), .sc (.int .i64 x0_6), .sc (.int .i64 x0_7), .sc (.int .i64 x0_8), .own 1 x0_9.length (encL c_i64 x0_9), .sc (.int .i64 x0_10), .sc (.int .i64 x0_11), .sc (.int .i64 x0_12), .sc (.int .i64 x0_13), .sc (.int .i64 x0_14), .sc (.bool x0_15)]⟩), (.tmp 4 0, ⟨.box, 0, [.sc (.int .i64 x0_16), .own 3 x0_17.length (encL c68 x0_17), .own 1 x0_18.length (encL c_i64 x0_18), .sc (.int .i64 x0_19), .sc (.int .i64 x0_20)]⟩)], [], []⟩) → loopS Try.prog 89 (.ga c152_l0) K ⟨[(0, .c (.ptr (.arg 0) [] 0)), (1, .c (.sc (.int .u32 x0_0))), (4, .c (.ptr (.tmp 4 0) [] 0)), (5, .c (.sc (.int .i64 x0_1))), (6, .c (.sc (.int .i64 x0_2)))], [(.arg 0, ⟨.box, 0, [.sc (.int .u32 x0_3), .sc (.int .i64 x0_4), .sc (.int .i64 x0_5), .sc (.int .i64 x0_6), .sc (.int .i64 x0_7), .sc (.int .i64 x0_8), .own 1 x0_9.length (encL c_i64 x0_9), .sc (.int .i64 x0_10), .sc (.int .i64 x0_11), .sc (.int .i64 x0_12), .sc (.int .i64 x0_13), .sc (.int .i64 x0_14), .sc (.bool x0_15)]⟩), (.tmp 4 0, ⟨.box, 0, [.sc (.int .i64 x0_16), .own 3 x0_17.length (encL c68 x0_17), .own 1 x0_18.length (encL c_i64 x0_18), .sc (.int .i64 x0_19), .sc (.int .i64 x0_20)]⟩)], [], []⟩) ?_ x0_1 x0_2 y h K hx0
  clear h hx0
  intro rec ih x0_1 x0_2 y h K hx0
  refine loop_unroll (ga_k fun G0 G0n G0r G0x => ?_)
  unfold c152_l0
  refine seq_k fun J6 hJ6 => ?_
  refine seq_k fun J7 hJ7 => ?_
  refine reg_k ?_
  simp only [Nat.reduceEqDiff, Nat.reduceAdd, Nat.reduceMul, Nat.reduceLeDiff, Nat.reduceLT, Int.reduceLE, Int.reduceLT, Int.reduceGT, Int.reduceGE, Int.reduceEq, Int.reduceNe, Int.reduceToNat, reduceCtorEq, ak]
  refine hJ7 _ ?_
  refine cond_k (b := decide (x0_2 ≤ (x0_9.length : Int))) rfl (fun c8 => ?_) (fun c8 => ?_)
  · replace c8 := of_decide_eq_true c8; rw [if_pos c8] at h
    refine hJ6 _ ?_
    obtain ⟨j9, h10, hn⟩ := of_bind h
    refine seq_j (fun st => st = ⟨[(0, .c (.ptr (.arg 0) [] 0)), (1, .c (.sc (.int .u32 x0_0))), (4, .c (.ptr (.tmp 4 0) [] 0)), (5, .c (.sc (.int .i64 j9))), (6, .c (.sc (.int .i64 x0_2)))], [(.arg 0, ⟨.box, 0, [.sc (.int .u32 x0_3), .sc (.int .i64 x0_4), .sc (.int .i64 x0_5), .sc (.int .i64 x0_6), .sc (.int .i64 x0_7), .sc (.int .i64 x0_8), .own 1 x0_9.length (encL c_i64 x0_9), .sc (.int .i64 x0_10), .sc (.int .i64 x0_11), .sc (.int .i64 x0_12), .sc (.int .i64 x0_13), .sc (.int .i64 x0_14), .sc (.bool x0_15)]⟩), (.tmp 4 0, ⟨.box, 0, [.sc (.int .i64 x0_16), .own 3 x0_17.length (encL c68 x0_17), .own 1 x0_18.length (encL c_i64 x0_18), .sc (.int .i64 x0_19), .sc (.int .i64 x0_20)]⟩)], [], []⟩) (fun J11 hJ11 => ?_) ?_
    · replace h := h10; clear hn
      refine ga_k fun G12 G12n G12r G12x => ?_
      refine block_k fun B13 B13n B13x B13r B13j => ?_
      refine seq_k fun J14 hJ14 => ?_
      refine reg_k ?_
      simp only [Nat.reduceEqDiff, Nat.reduceAdd, Nat.reduceMul, Nat.reduceLeDiff, Nat.reduceLT, Int.reduceLE, Int.reduceLT, Int.reduceGT, Int.reduceGE, Int.reduceEq, Int.reduceNe, Int.reduceToNat, reduceCtorEq, ak]
      refine hJ14 _ ?_
      refine cond_k (b := decide (IntKind.u32.wrap (x0_3 + (IntKind.u32.wrap x0_2)) = x0_0)) rfl (fun c15 => ?_) (fun c15 => ?_)
      · replace c15 := of_decide_eq_true c15; rw [if_pos c15] at h
        refine reg_k ?_
        simp only [Nat.reduceEqDiff, Nat.reduceAdd, Nat.reduceMul, Nat.reduceLeDiff, Nat.reduceLT, Int.reduceLE, Int.reduceLT, Int.reduceGT, Int.reduceGE, Int.reduceEq, Int.reduceNe, Int.reduceToNat, reduceCtorEq, ak]
        refine B13n _ ?_
        obtain rfl := Option.some.inj h
        refine G12n _ _ (((Weak.keep [0, 1, 4, 5, 6]).trans ((Weak.foc [(.arg 0, ⟨(.arg 0), [], none, .box⟩), (.tmp 4 0, ⟨(.tmp 4 0), [], none, .box⟩)] rfl (by first | rfl | simp only [reduceCtorEq, Nat.reduceEqDiff, ak, akF]) (by simp [argK, akG, ak])).trans (Weak.of_eq (by first | rfl | (simp only [reduceCtorEq, Nat.reduceEqDiff, ak, akF]; done) | (simp [reduceCtorEq, Nat.reduceEqDiff, ak, akF]; done)))))) (hJ11 _ rfl)
      · replace c15 := of_decide_eq_false c15; rw [if_neg c15] at h
        refine B13n _ ?_
        obtain rfl := Option.some.inj h
        refine G12n _ _ (((Weak.keep [0, 1, 4, 5, 6]).trans ((Weak.foc [(.arg 0, ⟨(.arg 0), [], none, .box⟩), (.tmp 4 0, ⟨(.tmp 4 0), [], none, .box⟩)] rfl (by first | rfl | simp only [reduceCtorEq, Nat.reduceEqDiff, ak, akF]) (by simp [argK, akG, ak])).trans (Weak.of_eq (by first | rfl | (simp only [reduceCtorEq, Nat.reduceEqDiff, ak, akF]; done) | (simp [reduceCtorEq, Nat.reduceEqDiff, ak, akF]; done)))))) (hJ11 _ rfl)
    · replace h := hn; clear hn h10
      rintro _ rfl
      refine reg_k ?_
      simp only [Nat.reduceEqDiff, Nat.reduceAdd, Nat.reduceMul, Nat.reduceLeDiff, Nat.reduceLT, Int.reduceLE, Int.reduceLT, Int.reduceGT, Int.reduceGE, Int.reduceEq, Int.reduceNe, Int.reduceToNat, reduceCtorEq, ak]
      refine G0n _ (⟨[(0, .c (.ptr (.arg 0) [] 0)), (1, .c (.sc (.int .u32 x0_0))), (4, .c (.ptr (.tmp 4 0) [] 0)), (5, .c (.sc (.int .i64 j9))), (6, .c (.sc (.int .i64 (IntKind.i64.wrap (x0_2 + 1)))))], [(.arg 0, ⟨.box, 0, [.sc (.int .u32 x0_3), .sc (.int .i64 x0_4), .sc (.int .i64 x0_5), .sc (.int .i64 x0_6), .sc (.int .i64 x0_7), .sc (.int .i64 x0_8), .own 1 x0_9.length (encL c_i64 x0_9), .sc (.int .i64 x0_10), .sc (.int .i64 x0_11), .sc (.int .i64 x0_12), .sc (.int .i64 x0_13), .sc (.int .i64 x0_14), .sc (.bool x0_15)]⟩), (.tmp 4 0, ⟨.box, 0, [.sc (.int .i64 x0_16), .own 3 x0_17.length (encL c68 x0_17), .own 1 x0_18.length (encL c_i64 x0_18), .sc (.int .i64 x0_19), .sc (.int .i64 x0_20)]⟩)], [], []⟩) (((Weak.keep [0, 1, 4, 5, 6]).trans ((Weak.foc [(.arg 0, ⟨(.arg 0), [], none, .box⟩), (.tmp 4 0, ⟨(.tmp 4 0), [], none, .box⟩)] rfl (by first | rfl | simp only [reduceCtorEq, Nat.reduceEqDiff, ak, akF]) (by simp [argK, akG, ak])).trans (Weak.of_eq (by first | rfl | (simp only [reduceCtorEq, Nat.reduceEqDiff, ak, akF]; done) | (simp [reduceCtorEq, Nat.reduceEqDiff, ak, akF]; done)))))) (ih _ _ _ h K hx0)
  · replace c8 := of_decide_eq_false c8; rw [if_neg c8] at h
    obtain rfl := Option.some.inj h
    refine gh_k (st' := ⟨[(0, .c (.ptr (.arg 0) [] 0)), (4, .c (.ptr (.tmp 4 0) [] 0)), (5, .c (.sc (.int .i64 x0_1)))], [(.arg 0, ⟨.box, 0, [.sc (.int .u32 x0_3), .sc (.int .i64 x0_4), .sc (.int .i64 x0_5), .sc (.int .i64 x0_6), .sc (.int .i64 x0_7), .sc (.int .i64 x0_8), .own 1 x0_9.length (encL c_i64 x0_9), .sc (.int .i64 x0_10), .sc (.int .i64 x0_11), .sc (.int .i64 x0_12), .sc (.int .i64 x0_13), .sc (.int .i64 x0_14), .sc (.bool x0_15)]⟩), (.tmp 4 0, ⟨.box, 0, [.sc (.int .i64 x0_16), .own 3 x0_17.length (encL c68 x0_17), .own 1 x0_18.length (encL c_i64 x0_18), .sc (.int .i64 x0_19), .sc (.int .i64 x0_20)]⟩)], [], []⟩) (((Weak.keep [0, 4, 5]).trans ((Weak.foc [(.arg 0, ⟨(.arg 0), [], none, .box⟩), (.tmp 4 0, ⟨(.tmp 4 0), [], none, .box⟩)] rfl (by first | rfl | simp only [reduceCtorEq, Nat.reduceEqDiff, ak, akF]) (by simp [argK, akG, ak])).trans (Weak.of_eq (by first | rfl | (simp only [reduceCtorEq, Nat.reduceEqDiff, ak, akF]; done) | (simp [reduceCtorEq, Nat.reduceEqDiff, ak, akF]; done)))))) ?_
    refine G0x _ _ ?_
    exact hx0
set_option maxRecDepth 100000 in
set_option maxHeartbeats 4000000 in
theorem spec_l4Ack.l1_walk (x1_0 : Int) (x1_2 : Int) (x1_3 : Int) (x1_4 : Int) (x1_5 : Int) (x1_6 : Int) (x1_7 : Int) (x1_8 : (List Int)) (x1_9 : Int) (x1_10 : Int) (x1_11 : Int) (x1_12 : Int) (x1_13 : Int) (x1_14 : Bool) (x1_15 : Int) (x1_16 : (List S68)) (x1_17 : (List Int)) (x1_18 : Int) (x1_19 : Int) (x1_20 : Int) (x1_21 : (List S68)) (x1_23 : Int) (x1_24 : Int) (x1_1 : Int) (x1_22 : (List Int)) (y : (List Int)) (h : spec_l4Ack.l1 x1_0 x1_2 x1_3 x1_4 x1_5 x1_6 x1_7 x1_8 x1_9 x1_10 x1_11 x1_12 x1_13 x1_14 x1_15 x1_16 x1_17 x1_18 x1_19 x1_20 x1_21 x1_23 x1_24 x1_1 x1_22 = some y) (K : AE → St → Prop) (hx0 : K (.exit 2) ⟨[(0, .c (.ptr (.arg 0) [] 0)), (4, .c (.ptr (.tmp 4 0) [] 0)), (5, .c (.sc (.int .i64 x1_0))), (7, .c (.ptr (.tmp 7 0) [] 0))], [(.arg 0, ⟨.box, 0, [.sc (.int .u32 x1_2), .sc (.int .i64 x1_3), .sc (.int .i64 x1_4), .sc (.int .i64 x1_5), .sc (.int .i64 x1_6), .sc (.int .i64 x1_7), .own 1 x1_8.length (encL c_i64 x1_8), .sc (.int .i64 x1_9), .sc (.int .i64 x1_10), .sc (.int .i64 x1_11), .sc (.int .i64 x1_12), .sc (.int .i64 x1_13), .sc (.bool x1_14)]⟩), (.tmp 4 0, ⟨.box, 0, [.sc (.int .i64 x1_15), .own 3 x1_16.length (encL c68 x1_16), .own 1 x1_17.length (encL c_i64 x1_17), .sc (.int .i64 x1_18), .sc (.int .i64 x1_19)]⟩), (.tmp 7 0, ⟨.box, 0, [.sc (.int .i64 x1_20), .own 3 x1_21.length (encL c68 x1_21), .own 1 y.length (encL c_i64 y), .sc (.int .i64 x1_23), .sc (.int .i64 x1_24)]⟩)], [], []⟩) : loopS Try.prog 89 (.ga c152_l1) K ⟨[(0, .c (.ptr (.arg 0) [] 0)), (4, .c (.ptr (.tmp 4 0) [] 0)), (5, .c (.sc (.int .i64 x1_0))), (7, .c (.ptr (.tmp 7 0) [] 0)), (8, .c (.sc (.int .i64 x1_1)))], [(.arg 0, ⟨.box, 0, [.sc (.int .u32 x1_2), .sc (.int .i64 x1_3), .sc (.int .i64 x1_4), .sc (.int .i64 x1_5), .sc (.int .i64 x1_6), .sc (.int .i64 x1_7), .own 1 x1_8.length (encL c_i64 x1_8), .sc (.int .i64 x1_9), .sc (.int .i64 x1_10), .sc (.int .i64 x1_11), .sc (.int .i64 x1_12), .sc (.int .i64 x1_13), .sc (.bool x1_14)]⟩), (.tmp 4 0, ⟨.box, 0, [.sc (.int .i64 x1_15), .own 3 x1_16.length (encL c68 x1_16), .own 1 x1_17.length (encL c_i64 x1_17), .sc (.int .i64 x1_18), .sc (.int .i64 x1_19)]⟩), (.tmp 7 0, ⟨.box, 0, [.sc (.int .i64 x1_20), .own 3 x1_21.length (encL c68 x1_21), .own 1 x1_22.length (encL c_i64 x1_22), .sc (.int .i64 x1_23), .sc (.int .i64 x1_24)]⟩)], [], []⟩ := by
  refine spec_l4Ack.l1.partial_correctness x1_0 x1_2 x1_3 x1_4 x1_5 x1_6 x1_7 x1_8 x1_9 x1_10 x1_11 x1_12 x1_13 x1_14 x1_15 x1_16 x1_17 x1_18 x1_19 x1_20 x1_21 x1_23 x1_24 (motive := fun x1_1 x1_22 y => ∀ (K : AE → St → Prop), (K (.exit 2) ⟨[(0, .c (.ptr (.arg 0) [] 0)), (4, .c (.ptr (.tmp 4 0) [] 0)), (5, .c (.sc (.int .i64 x1_0))), (7, .c (.ptr (.tmp 7 0) [] 0))], [(.arg 0, ⟨.box, 0, [.sc (.int .u32 x1_2), .sc (.int .i64 x1_3), .sc (.int .i64 x1_4), .sc (.int .i64 x1_5), .sc (.int .i64 x1_6), .sc (.int .i64 x1_7), .own 1 x1_8.length (encL c_i64 x1_8), .sc (.int .i64 x1_9), .sc (.int .i64 x1_10), .sc (.int .i64 x1_11), .sc (.int .i64 x1_12), .sc (.int .i64 x1_13), .sc (.bool x1_14)]⟩), (.tmp 4 0, ⟨.box, 0, [.sc (.int .i64 x1_15), .own 3 x1_16.length (encL c68 x1_16), .own 1 x1_17.length (encL c_i64 x1_17), .sc (.int .i64 x1_18), .sc (.int .i64 x1_19)]⟩), (.tmp 7 0, ⟨.box, 0, [.sc (.int .i64 x1_20), .own 3 x1_21.length (encL c68 x1_21), .own 1 y.length (encL c_i64 y), .sc (.int .i64 x1_23), .sc (.int .i64 x1_24)]⟩)], [], []⟩) → loopS Try.prog 89 (.ga c152_l1) K ⟨[(0, .c (.ptr (.arg 0) [] 0)), (4, .c (.ptr (.tmp 4 0) [] 0)), (5, .c (.sc (.int .i64 x1_0))), (7, .c (.ptr (.tmp 7 0) [] 0)), (8, .c (.sc (.int .i64 x1_1)))], [(.arg 0, ⟨.box, 0, [.sc (.int .u32 x1_2), .sc (.int .i64 x1_3), .sc (.int .i64 x1_4), .sc (.int .i64 x1_5), .sc (.int .i64 x1_6), .sc (.int .i64 x1_7), .own 1 x1_8.length (encL c_i64 x1_8), .sc (.int .i64 x1_9), .sc (.int .i64 x1_10), .sc (.int .i64 x1_11), .sc (.int .i64 x1_12), .sc (.int .i64 x1_13), .sc (.bool x1_14)]⟩), (.tmp 4 0, ⟨.box, 0, [.sc (.int .i64 x1_15), .own 3 x1_16.length (encL c68 x1_16), .own 1 x1_17.length (encL c_i64 x1_17), .sc (.int .i64 x1_18), .sc (.int .i64 x1_19)]⟩), (.tmp 7 0, ⟨.box, 0, [.sc (.int .i64 x1_20), .own 3 x1_21.length (encL c68 x1_21), .own 1 x1_22.length (encL c_i64 x1_22), .sc (.int .i64 x1_23), .sc (.int .i64 x1_24)]⟩)], [], []⟩) ?_ x1_1 x1_22 y h K hx0
  clear h hx0
  intro rec ih x1_1 x1_22 y h K hx0
  refine loop_unroll (ga_k fun G1 G1n G1r G1x => ?_)
  unfold c152_l1
  refine seq_k fun J30 hJ30 => ?_
  refine seq_k fun J31 hJ31 => ?_
  refine reg_k ?_
  simp only [Nat.reduceEqDiff, Nat.reduceAdd, Nat.reduceMul, Nat.reduceLeDiff, Nat.reduceLT, Int.reduceLE, Int.reduceLT, Int.reduceGT, Int.reduceGE, Int.reduceEq, Int.reduceNe, Int.reduceToNat, reduceCtorEq, ak]
  refine hJ31 _ ?_
  refine cond_k (b := decide (x1_1 < x1_0)) rfl (fun c32 => ?_) (fun c32 => ?_)
  · replace c32 := of_decide_eq_true c32; rw [if_pos c32] at h
    refine hJ30 _ ?_
    refine seq_k fun J33 hJ33 => ?_
    refine block_k fun B34 B34n B34x B34r B34j => ?_
    refine regD_k ?_
    obtain ⟨b35, h⟩ := of_guard h
    have g36 : (encL c_i64 x1_8)[0 + x1_1.toNat * 1]? = some (.sc (.int .i64 (rd 0 x1_8 x1_1))) := (Vw.whole c_i64_w x1_8).get 0 0 b35.1 b35.2 (by decide)
    simp only [Nat.reduceBEq, Nat.reduceEqDiff, Nat.reduceAdd, Nat.reduceMul, Nat.reduceLeDiff, Nat.reduceLT, Int.reduceLE, Int.reduceLT, Int.reduceGT, Int.reduceGE, Int.reduceEq, Int.reduceNe, Int.reduceToNat, reduceCtorEq, ak, b35, g36]
    obtain ⟨b42, h⟩ := of_guard h
    refine alt_e ?_
    · have g55 : (List.replicate 1 ([.int .i64 0] : List Value)).flatten = [.int .i64 0] := rfl
      have g56 : (⟨.lst, 1, [.sc (.int .i64 (rd 0 x1_8 x1_1))]⟩ : Root) = ⟨.lst, 1, encL c_i64 ([(rd 0 x1_8 x1_1)] : List Int)⟩ := rfl
      have g57 : ([(rd 0 x1_8 x1_1)] : List Int).length = 1 := rfl
      simp only [Nat.reduceBEq, Nat.reduceEqDiff, Nat.reduceAdd, Nat.reduceMul, Nat.reduceLeDiff, Nat.reduceLT, Int.reduceLE, Int.reduceLT, Int.reduceGT, Int.reduceGE, Int.reduceEq, Int.reduceNe, Int.reduceToNat, reduceCtorEq, ak, g55, g56, g57]
      refine alt_e ?_
      · have g65 : (encL c_i64 ([(rd 0 x1_8 x1_1)] : List Int)).take 1 = encL c_i64 ([(rd 0 x1_8 x1_1)] : List Int) := by simpa using (Vw.whole c_i64_w ([(rd 0 x1_8 x1_1)] : List Int)).all
        have g66 : (encL c_i64 ([(rd 0 x1_8 x1_1)] : List Int)).all isSc = true := encL_all (fun _ => rfl) _
        have g67 : appLim x1_22.length 1 8 := ⟨b42, by have := b42; omega⟩
        have g68 : (encL c_i64 x1_22).length = x1_22.length * 1 := by simp [encL_length c_i64_w]
        have g69 : encL c_i64 x1_22 ++ encL c_i64 ([(rd 0 x1_8 x1_1)] : List Int) = encL c_i64 (x1_22 ++ ([(rd 0 x1_8 x1_1)] : List Int)) := (encL_append _ _).symm
        simp only [Nat.reduceBEq, Nat.reduceEqDiff, Nat.reduceAdd, Nat.reduceMul, Nat.reduceLeDiff, Nat.reduceLT, Int.reduceLE, Int.reduceLT, Int.reduceGT, Int.reduceGE, Int.reduceEq, Int.reduceNe, Int.reduceToNat, reduceCtorEq, ak, g65, g66, g67, g68, g69]
        refine alt_e ?_
        · have g71 : (encL c_i64 (x1_22 ++ ([(rd 0 x1_8 x1_1)] : List Int))).length = (x1_22.length + 1) * 1 := by simp [encL_length c_i64_w]
          simp only [Nat.reduceBEq, Nat.reduceEqDiff, Nat.reduceAdd, Nat.reduceMul, Nat.reduceLeDiff, Nat.reduceLT, Int.reduceLE, Int.reduceLT, Int.reduceGT, Int.reduceGE, Int.reduceEq, Int.reduceNe, Int.reduceToNat, reduceCtorEq, ak, g71]
          refine B34n _ ?_
          refine hJ33 _ ?_
          refine reg_k ?_
          simp only [Nat.reduceEqDiff, Nat.reduceAdd, Nat.reduceMul, Nat.reduceLeDiff, Nat.reduceLT, Int.reduceLE, Int.reduceLT, Int.reduceGT, Int.reduceGE, Int.reduceEq, Int.reduceNe, Int.reduceToNat, reduceCtorEq, ak]
          refine G1n _ (⟨[(0, .c (.ptr (.arg 0) [] 0)), (4, .c (.ptr (.tmp 4 0) [] 0)), (5, .c (.sc (.int .i64 x1_0))), (7, .c (.ptr (.tmp 7 0) [] 0)), (8, .c (.sc (.int .i64 (IntKind.i64.wrap (x1_1 + 1)))))], [(.arg 0, ⟨.box, 0, [.sc (.int .u32 x1_2), .sc (.int .i64 x1_3), .sc (.int .i64 x1_4), .sc (.int .i64 x1_5), .sc (.int .i64 x1_6), .sc (.int .i64 x1_7), .own 1 x1_8.length (encL c_i64 x1_8), .sc (.int .i64 x1_9), .sc (.int .i64 x1_10), .sc (.int .i64 x1_11), .sc (.int .i64 x1_12), .sc (.int .i64 x1_13), .sc (.bool x1_14)]⟩), (.tmp 4 0, ⟨.box, 0, [.sc (.int .i64 x1_15), .own 3 x1_16.length (encL c68 x1_16), .own 1 x1_17.length (encL c_i64 x1_17), .sc (.int .i64 x1_18), .sc (.int .i64 x1_19)]⟩), (.tmp 7 0, ⟨.box, 0, [.sc (.int .i64 x1_20), .own 3 x1_21.length (encL c68 x1_21), .own 1 ((x1_22 ++ ([(rd 0 x1_8 x1_1)] : List Int)).length) (encL c_i64 (x1_22 ++ ([(rd 0 x1_8 x1_1)] : List Int))), .sc (.int .i64 x1_23), .sc (.int .i64 x1_24)]⟩)], [], []⟩) (((Weak.keep [0, 4, 5, 7, 8]).trans ((Weak.foc [(.arg 0, ⟨(.arg 0), [], none, .box⟩), (.tmp 4 0, ⟨(.tmp 4 0), [], none, .box⟩), (.tmp 7 0, ⟨(.tmp 7 0), [], none, .box⟩)] rfl (by first | rfl | simp only [reduceCtorEq, Nat.reduceEqDiff, ak, akF, b35, b42]) (by simp [argK, akG, ak])).trans (Weak.of_eq (by first | rfl | (simp only [reduceCtorEq, Nat.reduceEqDiff, ak, akF, b35, b42]; done) | (simp [reduceCtorEq, Nat.reduceEqDiff, ak, akF, b35, b42]; done)))))) (ih _ _ _ h K hx0)
  · replace c32 := of_decide_eq_false c32; rw [if_neg c32] at h
    obtain rfl := Option.some.inj h
    refine gh_k (st' := ⟨[(0, .c (.ptr (.arg 0) [] 0)), (4, .c (.ptr (.tmp 4 0) [] 0)), (5, .c (.sc (.int .i64 x1_0))), (7, .c (.ptr (.tmp 7 0) [] 0))], [(.arg 0, ⟨.box, 0, [.sc (.int .u32 x1_2), .sc (.int .i64 x1_3), .sc (.int .i64 x1_4), .sc (.int .i64 x1_5), .sc (.int .i64 x1_6), .sc (.int .i64 x1_7), .own 1 x1_8.length (encL c_i64 x1_8), .sc (.int .i64 x1_9), .sc (.int .i64 x1_10), .sc (.int .i64 x1_11), .sc (.int .i64 x1_12), .sc (.int .i64 x1_13), .sc (.bool x1_14)]⟩), (.tmp 4 0, ⟨.box, 0, [.sc (.int .i64 x1_15), .own 3 x1_16.length (encL c68 x1_16), .own 1 x1_17.length (encL c_i64 x1_17), .sc (.int .i64 x1_18), .sc (.int .i64 x1_19)]⟩), (.tmp 7 0, ⟨.box, 0, [.sc (.int .i64 x1_20), .own 3 x1_21.length (encL c68 x1_21), .own 1 x1_22.length (encL c_i64 x1_22), .sc (.int .i64 x1_23), .sc (.int .i64 x1_24)]⟩)], [], []⟩) (((Weak.keep [0, 4, 5, 7]).trans ((Weak.foc [(.arg 0, ⟨(.arg 0), [], none, .box⟩), (.tmp 4 0, ⟨(.tmp 4 0), [], none, .box⟩), (.tmp 7 0, ⟨(.tmp 7 0), [], none, .box⟩)] rfl (by first | rfl | simp only [reduceCtorEq, Nat.reduceEqDiff, ak, akF]) (by simp [argK, akG, ak])).trans (Weak.of_eq (by first | rfl | (simp only [reduceCtorEq, Nat.reduceEqDiff, ak, akF]; done) | (simp [reduceCtorEq, Nat.reduceEqDiff, ak, akF]; done)))))) ?_
    refine G1x _ _ ?_
    exact hx0
set_option maxRecDepth 100000 in
set_option maxHeartbeats 4000000 in
theorem spec_l4Ack.tri (a0_0 : Int) (a0_1 : Int) (a0_2 : Int) (a0_3 : Int) (a0_4 : Int) (a0_5 : Int) (l0_6 : List Int) (a0_7 : Int) (a0_8 : Int) (a0_9 : Int) (a0_10 : Int) (a0_11 : Int) (a0_12 : Bool) (a1 : Int) (r : Int × (List S68) × (List Int) × Int × Int × Int × Int × Int × Int × Int × Bool) (h : spec_l4Ack.f a0_0 a0_1 a0_2 a0_3 a0_4 a0_5 l0_6 a0_7 a0_8 a0_9 a0_10 a0_11 a0_12 a1 = some r) : Tri Try.prog 152 [.c (.ptr (.arg 0) [] 0), .c (.sc (.int .u32 a1))] [(.arg 0, ⟨.box, 0, [.sc (.int .u32 a0_0), .sc (.int .i64 a0_1), .sc (.int .i64 a0_2), .sc (.int .i64 a0_3), .sc (.int .i64 a0_4), .sc (.int .i64 a0_5), .own 1 l0_6.length (encL c_i64 l0_6), .sc (.int .i64 a0_7), .sc (.int .i64 a0_8), .sc (.int .i64 a0_9), .sc (.int .i64 a0_10), .sc (.int .i64 a0_11), .sc (.bool a0_12)]⟩)] (fun o => o = ⟨.g [.sc (.int .i64 r.1), .ref (.res 0) [] 0 r.2.1.length, .ref (.res 1) [] 0 r.2.2.1.length, .sc (.int .i64 r.2.2.2.1), .sc (.int .i64 r.2.2.2.2.1)], [(.arg 0, ⟨.box, 0, [.sc (.int .u32 a0_0), .sc (.int .i64 a0_1), .sc (.int .i64 a0_2), .sc (.int .i64 a0_3), .sc (.int .i64 a0_4), .sc (.int .i64 a0_5), .own 1 l0_6.length (encL c_i64 l0_6), .sc (.int .i64 r.2.2.2.2.2.1), .sc (.int .i64 r.2.2.2.2.2.2.1), .sc (.int .i64 r.2.2.2.2.2.2.2.1), .sc (.int .i64 r.2.2.2.2.2.2.2.2.1), .sc (.int .i64 r.2.2.2.2.2.2.2.2.2.1), .sc (.bool r.2.2.2.2.2.2.2.2.2.2)]⟩), (.res 0, ⟨.lst, 3, encL c68 r.2.1⟩), (.res 1, ⟨.lst, 1, encL c_i64 r.2.2.1⟩)], [], []⟩) := by
  refine tri_of_body (ac := c152) (xs := r152) Try.func152 (show Try.f152.body = some (Try.f152.body.getD .skip) from rfl) k152 q152 (Nat.le_of_ble_eq_true rfl) ?_
  refine body_of fun K hKn hKr => ?_
  unfold spec_l4Ack.f at h
  unfold c152
  simp only [initT, Nat.reduceAdd]
  refine seq_k fun J1 hJ1 => ?_
  refine reg_k ?_
  simp only [Nat.reduceEqDiff, Nat.reduceAdd, Nat.reduceMul, Nat.reduceLeDiff, Nat.reduceLT, Int.reduceLE, Int.reduceLT, Int.reduceGT, Int.reduceGE, Int.reduceEq, Int.reduceNe, Int.reduceToNat, reduceCtorEq, ak]
  refine gho_k (Weak.own (.tmp 4 0) (cs' := [.sc (.int .i64 0), .own 3 (([] : List S68).length) (encL c68 ([] : List S68)), .own 1 (([] : List Int).length) (encL c_i64 ([] : List Int)), .sc (.int .i64 0), .sc (.int .i64 0)]) rfl ⟨.inl rfl, .inr ⟨rfl, _, rfl⟩, .inr ⟨rfl, _, rfl⟩, .inl rfl, .inl rfl, trivial⟩) ?_
  simp only [Nat.reduceEqDiff, Nat.reduceAdd, Nat.reduceMul, Nat.reduceLeDiff, Nat.reduceLT, Int.reduceLE, Int.reduceLT, Int.reduceGT, Int.reduceGE, Int.reduceEq, Int.reduceNe, Int.reduceToNat, reduceCtorEq, ak]
  refine hJ1 _ ?_
  refine seq_k fun J2 hJ2 => ?_
  refine reg_k ?_
  simp only [Nat.reduceEqDiff, Nat.reduceAdd, Nat.reduceMul, Nat.reduceLeDiff, Nat.reduceLT, Int.reduceLE, Int.reduceLT, Int.reduceGT, Int.reduceGE, Int.reduceEq, Int.reduceNe, Int.reduceToNat, reduceCtorEq, ak]
  refine hJ2 _ ?_
  refine seq_k fun J3 hJ3 => ?_
  refine seq_k fun J4 hJ4 => ?_
  refine reg_k ?_
  simp only [Nat.reduceEqDiff, Nat.reduceAdd, Nat.reduceMul, Nat.reduceLeDiff, Nat.reduceLT, Int.reduceLE, Int.reduceLT, Int.reduceGT, Int.reduceGE, Int.reduceEq, Int.reduceNe, Int.reduceToNat, reduceCtorEq, ak]
  refine hJ4 _ ?_
  refine block_k fun B5 B5n B5x B5r B5j => ?_
  obtain ⟨y16, h17, h⟩ := of_bind h
  refine gh_k (st' := ⟨[(0, .c (.ptr (.arg 0) [] 0)), (1, .c (.sc (.int .u32 a1))), (4, .c (.ptr (.tmp 4 0) [] 0)), (5, .c (.sc (.int .i64 (-1)))), (6, .c (.sc (.int .i64 a0_7)))], [(.arg 0, ⟨.box, 0, [.sc (.int .u32 a0_0), .sc (.int .i64 a0_1), .sc (.int .i64 a0_2), .sc (.int .i64 a0_3), .sc (.int .i64 a0_4), .sc (.int .i64 a0_5), .own 1 l0_6.length (encL c_i64 l0_6), .sc (.int .i64 a0_7), .sc (.int .i64 a0_8), .sc (.int .i64 a0_9), .sc (.int .i64 a0_10), .sc (.int .i64 a0_11), .sc (.bool a0_12)]⟩), (.tmp 4 0, ⟨.box, 0, [.sc (.int .i64 0), .own 3 (([] : List S68).length) (encL c68 ([] : List S68)), .own 1 (([] : List Int).length) (encL c_i64 ([] : List Int)), .sc (.int .i64 0), .sc (.int .i64 0)]⟩)], [], []⟩) (((Weak.keep [0, 1, 4, 5, 6]).trans ((Weak.foc [(.arg 0, ⟨(.arg 0), [], none, .box⟩), (.tmp 4 0, ⟨(.tmp 4 0), [], none, .box⟩)] rfl (by first | rfl | simp only [reduceCtorEq, Nat.reduceEqDiff, ak, akF]) (by simp [argK, akG, ak])).trans (Weak.of_eq (by first | rfl | (simp only [reduceCtorEq, Nat.reduceEqDiff, ak, akF]; done) | (simp [reduceCtorEq, Nat.reduceEqDiff, ak, akF]; done)))))) ?_
  rw [e_loop]
  refine spec_l4Ack.l0_walk a1 a0_0 a0_1 a0_2 a0_3 a0_4 a0_5 l0_6 a0_7 a0_8 a0_9 a0_10 a0_11 a0_12 0 ([] : List S68) ([] : List Int) 0 0 (-1) a0_7 _ h17 _ ?_
  refine B5x _ ?_
  refine hJ3 _ ?_
  refine seq_k fun J18 hJ18 => ?_
  refine seq_k fun J19 hJ19 => ?_
  refine reg_k ?_
  simp only [Nat.reduceEqDiff, Nat.reduceAdd, Nat.reduceMul, Nat.reduceLeDiff, Nat.reduceLT, Int.reduceLE, Int.reduceLT, Int.reduceGT, Int.reduceGE, Int.reduceEq, Int.reduceNe, Int.reduceToNat, reduceCtorEq, ak]
  refine hJ19 _ ?_
  refine cond_k (b := decide (y16 < 0)) rfl (fun c20 => ?_) (fun c20 => ?_)
  · replace c20 := of_decide_eq_true c20; rw [if_pos c20] at h
    refine seq_k fun J21 hJ21 => ?_
    refine reg_k ?_
    simp only [Nat.reduceEqDiff, Nat.reduceAdd, Nat.reduceMul, Nat.reduceLeDiff, Nat.reduceLT, Int.reduceLE, Int.reduceLT, Int.reduceGT, Int.reduceGE, Int.reduceEq, Int.reduceNe, Int.reduceToNat, reduceCtorEq, ak]
    refine gho_k ((Weak.nmg' 36 1 (.tmp 36 21) 3 (encL c68 ([] : List S68)) rfl rfl rfl rfl).trans (Weak.nmg' 36 2 (.tmp 36 22) 1 (encL c_i64 ([] : List Int)) rfl rfl rfl rfl)) ?_
    have g22 : (encL c68 ([] : List S68)).length = 0 * 3 := by simp [encL_length c68_w]
    have g23 : (encL c_i64 ([] : List Int)).length = 0 * 1 := by simp [encL_length c_i64_w]
    simp only [Nat.reduceEqDiff, Nat.reduceAdd, Nat.reduceMul, Nat.reduceLeDiff, Nat.reduceLT, Int.reduceLE, Int.reduceLT, Int.reduceGT, Int.reduceGE, Int.reduceEq, Int.reduceNe, Int.reduceToNat, reduceCtorEq, ak, g22, g23]
    refine hJ21 _ ?_
    obtain rfl := Option.some.inj h
    refine hKr _ ⟨_, rfl, [⟨(.tmp 4 0), [1], none, .lst⟩, ⟨(.tmp 4 0), [2], none, .lst⟩], _, rfl, rfl, ?_⟩
    first | rfl | (simp only [reduceCtorEq, Nat.reduceEqDiff, ak, akF]; done) | (simp [reduceCtorEq, Nat.reduceEqDiff, ak, akF]; done)
  · replace c20 := of_decide_eq_false c20; rw [if_neg c20] at h
    refine hJ18 _ ?_
    refine seq_k fun J24 hJ24 => ?_
    refine reg_k ?_
    simp only [Nat.reduceEqDiff, Nat.reduceAdd, Nat.reduceMul, Nat.reduceLeDiff, Nat.reduceLT, Int.reduceLE, Int.reduceLT, Int.reduceGT, Int.reduceGE, Int.reduceEq, Int.reduceNe, Int.reduceToNat, reduceCtorEq, ak]
    refine gho_k ((Weak.nmg' 37 1 (.tmp 37 21) 3 (encL c68 ([] : List S68)) rfl rfl rfl rfl).trans (Weak.nmg' 37 2 (.tmp 37 22) 1 (encL c_i64 ([] : List Int)) rfl rfl rfl rfl)) ?_
    simp only [Nat.reduceEqDiff, Nat.reduceAdd, Nat.reduceMul, Nat.reduceLeDiff, Nat.reduceLT, Int.reduceLE, Int.reduceLT, Int.reduceGT, Int.reduceGE, Int.reduceEq, Int.reduceNe, Int.reduceToNat, reduceCtorEq, ak]
    refine gho_k (Weak.own (.tmp 7 0) (cs' := [.sc (.int .i64 0), .own 3 (([] : List S68).length) (encL c68 ([] : List S68)), .own 1 (([] : List Int).length) (encL c_i64 ([] : List Int)), .sc (.int .i64 0), .sc (.int .i64 0)]) rfl ⟨.inl rfl, .inr ⟨rfl, _, rfl⟩, .inr ⟨rfl, _, rfl⟩, .inl rfl, .inl rfl, trivial⟩) ?_
    have g25 : (encL c68 ([] : List S68)).length = 0 * 3 := by simp [encL_length c68_w]
    have g26 : (encL c_i64 ([] : List Int)).length = 0 * 1 := by simp [encL_length c_i64_w]
    simp only [Nat.reduceEqDiff, Nat.reduceAdd, Nat.reduceMul, Nat.reduceLeDiff, Nat.reduceLT, Int.reduceLE, Int.reduceLT, Int.reduceGT, Int.reduceGE, Int.reduceEq, Int.reduceNe, Int.reduceToNat, reduceCtorEq, ak, g25, g26]
    refine hJ24 _ ?_
    refine seq_k fun J27 hJ27 => ?_
    refine seq_k fun J28 hJ28 => ?_
    refine reg_k ?_
    simp only [Nat.reduceEqDiff, Nat.reduceAdd, Nat.reduceMul, Nat.reduceLeDiff, Nat.reduceLT, Int.reduceLE, Int.reduceLT, Int.reduceGT, Int.reduceGE, Int.reduceEq, Int.reduceNe, Int.reduceToNat, reduceCtorEq, ak]
    refine hJ28 _ ?_
    refine block_k fun B29 B29n B29x B29r B29j => ?_
    obtain ⟨y72, h73, h⟩ := of_bind h
    refine gh_k (st' := ⟨[(0, .c (.ptr (.arg 0) [] 0)), (4, .c (.ptr (.tmp 4 0) [] 0)), (5, .c (.sc (.int .i64 y16))), (7, .c (.ptr (.tmp 7 0) [] 0)), (8, .c (.sc (.int .i64 a0_7)))], [(.arg 0, ⟨.box, 0, [.sc (.int .u32 a0_0), .sc (.int .i64 a0_1), .sc (.int .i64 a0_2), .sc (.int .i64 a0_3), .sc (.int .i64 a0_4), .sc (.int .i64 a0_5), .own 1 l0_6.length (encL c_i64 l0_6), .sc (.int .i64 a0_7), .sc (.int .i64 a0_8), .sc (.int .i64 a0_9), .sc (.int .i64 a0_10), .sc (.int .i64 a0_11), .sc (.bool a0_12)]⟩), (.tmp 4 0, ⟨.box, 0, [.sc (.int .i64 0), .own 3 (([] : List S68).length) (encL c68 ([] : List S68)), .own 1 (([] : List Int).length) (encL c_i64 ([] : List Int)), .sc (.int .i64 0), .sc (.int .i64 0)]⟩), (.tmp 7 0, ⟨.box, 0, [.sc (.int .i64 0), .own 3 (([] : List S68).length) (encL c68 ([] : List S68)), .own 1 (([] : List Int).length) (encL c_i64 ([] : List Int)), .sc (.int .i64 0), .sc (.int .i64 0)]⟩)], [], []⟩) (((Weak.keep [0, 4, 5, 7, 8]).trans ((Weak.foc [(.arg 0, ⟨(.arg 0), [], none, .box⟩), (.tmp 4 0, ⟨(.tmp 4 0), [], none, .box⟩), (.tmp 7 0, ⟨(.tmp 7 0), [], none, .box⟩)] rfl (by first | rfl | simp only [reduceCtorEq, Nat.reduceEqDiff, ak, akF]) (by simp [argK, akG, ak])).trans (Weak.of_eq (by first | rfl | (simp only [reduceCtorEq, Nat.reduceEqDiff, ak, akF]; done) | (simp [reduceCtorEq, Nat.reduceEqDiff, ak, akF]; done)))))) ?_
    rw [e_loop]
    refine spec_l4Ack.l1_walk y16 a0_0 a0_1 a0_2 a0_3 a0_4 a0_5 l0_6 a0_7 a0_8 a0_9 a0_10 a0_11 a0_12 0 ([] : List S68) ([] : List Int) 0 0 0 ([] : List S68) 0 0 a0_7 ([] : List Int) _ h73 _ ?_
    refine B29x _ ?_
    refine hJ27 _ ?_
    refine seq_k fun J74 hJ74 => ?_
    refine reg_k ?_
    simp only [Nat.reduceEqDiff, Nat.reduceAdd, Nat.reduceMul, Nat.reduceLeDiff, Nat.reduceLT, Int.reduceLE, Int.reduceLT, Int.reduceGT, Int.reduceGE, Int.reduceEq, Int.reduceNe, Int.reduceToNat, reduceCtorEq, ak]
    refine hJ74 _ ?_
    refine seq_k fun J75 hJ75 => ?_
    refine reg_k ?_
    simp only [Nat.reduceEqDiff, Nat.reduceAdd, Nat.reduceMul, Nat.reduceLeDiff, Nat.reduceLT, Int.reduceLE, Int.reduceLT, Int.reduceGT, Int.reduceGE, Int.reduceEq, Int.reduceNe, Int.reduceToNat, reduceCtorEq, ak]
    refine hJ75 _ ?_
    obtain ⟨j76, h77, hn⟩ := of_bind h
    refine seq_j (fun st => st = ⟨[(4, .c (.ptr (.tmp 4 0) [] 0)), (7, .c (.ptr (.tmp 7 0) [] 0))], [(.arg 0, ⟨.box, 0, [.sc (.int .u32 a0_0), .sc (.int .i64 a0_1), .sc (.int .i64 a0_2), .sc (.int .i64 a0_3), .sc (.int .i64 a0_4), .sc (.int .i64 a0_5), .own 1 l0_6.length (encL c_i64 l0_6), .sc (.int .i64 y16), .sc (.int .i64 j76.1), .sc (.int .i64 j76.2.1), .sc (.int .i64 j76.2.2.1), .sc (.int .i64 j76.2.2.2.1), .sc (.bool j76.2.2.2.2.1)]⟩), (.tmp 4 0, ⟨.box, 0, [.sc (.int .i64 0), .own 3 (([] : List S68).length) (encL c68 ([] : List S68)), .own 1 (([] : List Int).length) (encL c_i64 ([] : List Int)), .sc (.int .i64 0), .sc (.int .i64 0)]⟩), (.tmp 7 0, ⟨.box, 0, [.sc (.int .i64 0), .own 3 j76.2.2.2.2.2.1.length (encL c68 j76.2.2.2.2.2.1), .own 1 y72.length (encL c_i64 y72), .sc (.int .i64 0), .sc (.int .i64 j76.2.2.2.2.2.2)]⟩)], [], []⟩) (fun J78 hJ78 => ?_) ?_
    · replace h := h77; clear hn
      refine ga_k fun G79 G79n G79r G79x => ?_
      refine seq_k fun J80 hJ80 => ?_
      refine reg_k ?_
      simp only [Nat.reduceEqDiff, Nat.reduceAdd, Nat.reduceMul, Nat.reduceLeDiff, Nat.reduceLT, Int.reduceLE, Int.reduceLT, Int.reduceGT, Int.reduceGE, Int.reduceEq, Int.reduceNe, Int.reduceToNat, reduceCtorEq, ak]
      refine hJ80 _ ?_
      refine cond_k (b := a0_12) rfl (fun c81 => ?_) (fun c81 => ?_)
      · rw [if_pos c81] at h
        refine seq_k fun J82 hJ82 => ?_
        refine reg_k ?_
        simp only [Nat.reduceEqDiff, Nat.reduceAdd, Nat.reduceMul, Nat.reduceLeDiff, Nat.reduceLT, Int.reduceLE, Int.reduceLT, Int.reduceGT, Int.reduceGE, Int.reduceEq, Int.reduceNe, Int.reduceToNat, reduceCtorEq, ak]
        refine hJ82 _ ?_
        refine seq_k fun J83 hJ83 => ?_
        refine reg_k ?_
        simp only [Nat.reduceEqDiff, Nat.reduceAdd, Nat.reduceMul, Nat.reduceLeDiff, Nat.reduceLT, Int.reduceLE, Int.reduceLT, Int.reduceGT, Int.reduceGE, Int.reduceEq, Int.reduceNe, Int.reduceToNat, reduceCtorEq, ak]
        refine hJ83 _ ?_
        refine seq_k fun J84 hJ84 => ?_
        refine reg_k ?_
        simp only [Nat.reduceEqDiff, Nat.reduceAdd, Nat.reduceMul, Nat.reduceLeDiff, Nat.reduceLT, Int.reduceLE, Int.reduceLT, Int.reduceGT, Int.reduceGE, Int.reduceEq, Int.reduceNe, Int.reduceToNat, reduceCtorEq, ak]
        refine hJ84 _ ?_
        refine seq_k fun J85 hJ85 => ?_
        refine reg_k ?_
        simp only [Nat.reduceEqDiff, Nat.reduceAdd, Nat.reduceMul, Nat.reduceLeDiff, Nat.reduceLT, Int.reduceLE, Int.reduceLT, Int.reduceGT, Int.reduceGE, Int.reduceEq, Int.reduceNe, Int.reduceToNat, reduceCtorEq, ak]
        obtain ⟨t86, h87, h⟩ := of_bind h
        refine call_m [(.arg 0, ⟨(.arg 0), [], none, .box⟩)] (s0 := [(.arg 0, ⟨.box, 0, [.sc (.int .u32 a0_0), .sc (.int .i64 a0_1), .sc (.int .i64 a0_2), .sc (.int .i64 a0_3), .sc (.int .i64 a0_4), .sc (.int .i64 a0_5), .own 1 l0_6.length (encL c_i64 l0_6), .sc (.int .i64 y16), .sc (.int .i64 a0_8), .sc (.int .i64 a0_9), .sc (.int .i64 a0_10), .sc (.int .i64 0), .sc (.bool false)]⟩)]) (by intro t ht; cases ht; decide) rfl rfl (by first | rfl | simp only [reduceCtorEq, Nat.reduceEqDiff, ak, akF, g25, g26]) (spec_l4Again.tri a0_0 a0_1 a0_2 a0_3 a0_4 a0_5 l0_6 y16 a0_8 a0_9 a0_10 0 false _ h87) (by first | rfl | simp only [reduceCtorEq, Nat.reduceEqDiff, ak, akF]) (by simp [bkOk2, memK]) (fun hl87 => ?_)
        refine call_st (s4 := [(.arg 0, ⟨.box, 0, [.sc (.int .u32 a0_0), .sc (.int .i64 a0_1), .sc (.int .i64 a0_2), .sc (.int .i64 a0_3), .sc (.int .i64 a0_4), .sc (.int .i64 a0_5), .own 1 l0_6.length (encL c_i64 l0_6), .sc (.int .i64 y16), .sc (.int .i64 a0_8), .sc (.int .i64 a0_9), .sc (.int .i64 a0_10), .sc (.int .i64 0), .sc (.bool false)]⟩), (.tmp 4 0, ⟨.box, 0, [.sc (.int .i64 0), .own 3 (([] : List S68).length) (encL c68 ([] : List S68)), .own 1 (([] : List Int).length) (encL c_i64 ([] : List Int)), .sc (.int .i64 0), .sc (.int .i64 0)]⟩), (.tmp 7 0, ⟨.box, 0, [.sc (.int .i64 0), .own 3 (([] : List S68).length) (encL c68 ([] : List S68)), .own 1 y72.length (encL c_i64 y72), .sc (.int .i64 0), .sc (.int .i64 1)]⟩), (.tmp 81 0, ⟨.lst, 3, encL c68 t86⟩)]) (m1' := []) (m2' := []) (v' := .c (.ref (.tmp 81 0) [] 0 t86.length)) (Sto.mapN_killNil _ _) (mrgL_whole (new' := [.sc (.int .u32 a0_0), .sc (.int .i64 a0_1), .sc (.int .i64 a0_2), .sc (.int .i64 a0_3), .sc (.int .i64 a0_4), .sc (.int .i64 a0_5), .own 1 l0_6.length (encL c_i64 l0_6), .sc (.int .i64 y16), .sc (.int .i64 a0_8), .sc (.int .i64 a0_9), .sc (.int .i64 a0_10), .sc (.int .i64 0), .sc (.bool false)]) (mrgL_nil' _ _ _) rfl (by rfl) (.inl ⟨rfl, by first | rfl | simp only [reduceCtorEq, Nat.reduceEqDiff, ak, akF, Nat.zero_add, List.append_nil]⟩)) (by rfl) (mapT_killNil _ _) (by rfl) (by rfl) (by first | rfl | simp only [reduceCtorEq, Nat.reduceEqDiff, ak, akF, Nat.zero_add, List.append_nil]) ?_
        have g89 : (encL c68 t86).length = t86.length * 3 := by simp [encL_length c68_w]
        simp only [Nat.reduceEqDiff, Nat.reduceAdd, Nat.reduceMul, Nat.reduceLeDiff, Nat.reduceLT, Int.reduceLE, Int.reduceLT, Int.reduceGT, Int.reduceGE, Int.reduceEq, Int.reduceNe, Int.reduceToNat, reduceCtorEq, ak, g89]
        refine hJ85 _ ?_
        refine reg_k ?_
        simp only [Nat.reduceEqDiff, Nat.reduceAdd, Nat.reduceMul, Nat.reduceLeDiff, Nat.reduceLT, Int.reduceLE, Int.reduceLT, Int.reduceGT, Int.reduceGE, Int.reduceEq, Int.reduceNe, Int.reduceToNat, reduceCtorEq, ak]
        obtain ⟨t90, h91, h⟩ := of_bind h
        refine call_m [(.arg 0, ⟨(.arg 0), [], none, .box⟩)] (s0 := [(.arg 0, ⟨.box, 0, [.sc (.int .u32 a0_0), .sc (.int .i64 a0_1), .sc (.int .i64 a0_2), .sc (.int .i64 a0_3), .sc (.int .i64 a0_4), .sc (.int .i64 a0_5), .own 1 l0_6.length (encL c_i64 l0_6), .sc (.int .i64 y16), .sc (.int .i64 a0_8), .sc (.int .i64 a0_9), .sc (.int .i64 a0_10), .sc (.int .i64 0), .sc (.bool false)]⟩)]) (by intro t ht; cases ht; decide) rfl rfl (by first | rfl | simp only [reduceCtorEq, Nat.reduceEqDiff, ak, akF, g25, g26, g89]) (spec_l4Clock.tri a0_0 a0_1 a0_2 a0_3 a0_4 a0_5 l0_6 y16 a0_8 a0_9 a0_10 0 false _ h91) (by first | rfl | simp only [reduceCtorEq, Nat.reduceEqDiff, ak, akF]) (by simp [bkOk2, memK]) (fun hl91 => ?_)
        refine call_st (s4 := [(.arg 0, ⟨.box, 0, [.sc (.int .u32 a0_0), .sc (.int .i64 a0_1), .sc (.int .i64 a0_2), .sc (.int .i64 a0_3), .sc (.int .i64 a0_4), .sc (.int .i64 a0_5), .own 1 l0_6.length (encL c_i64 l0_6), .sc (.int .i64 y16), .sc (.int .i64 t90.1), .sc (.int .i64 t90.2.1), .sc (.int .i64 t90.2.2), .sc (.int .i64 0), .sc (.bool false)]⟩), (.tmp 4 0, ⟨.box, 0, [.sc (.int .i64 0), .own 3 (([] : List S68).length) (encL c68 ([] : List S68)), .own 1 (([] : List Int).length) (encL c_i64 ([] : List Int)), .sc (.int .i64 0), .sc (.int .i64 0)]⟩), (.tmp 7 0, ⟨.box, 0, [.sc (.int .i64 0), .own 3 t86.length (encL c68 t86), .own 1 y72.length (encL c_i64 y72), .sc (.int .i64 0), .sc (.int .i64 1)]⟩)]) (m1' := []) (m2' := []) (v' := .tup []) (Sto.mapN_killNil _ _) (mrgL_whole (new' := [.sc (.int .u32 a0_0), .sc (.int .i64 a0_1), .sc (.int .i64 a0_2), .sc (.int .i64 a0_3), .sc (.int .i64 a0_4), .sc (.int .i64 a0_5), .own 1 l0_6.length (encL c_i64 l0_6), .sc (.int .i64 y16), .sc (.int .i64 t90.1), .sc (.int .i64 t90.2.1), .sc (.int .i64 t90.2.2), .sc (.int .i64 0), .sc (.bool false)]) (mrgL_nil' _ _ _) rfl (by rfl) (.inl ⟨rfl, by first | rfl | simp only [reduceCtorEq, Nat.reduceEqDiff, ak, akF, Nat.zero_add, List.append_nil]⟩)) (by rfl) (mapT_killNil _ _) (by rfl) (by rfl) (by first | rfl | simp only [reduceCtorEq, Nat.reduceEqDiff, ak, akF, Nat.zero_add, List.append_nil]) ?_
        simp only [Nat.reduceEqDiff, Nat.reduceAdd, Nat.reduceMul, Nat.reduceLeDiff, Nat.reduceLT, Int.reduceLE, Int.reduceLT, Int.reduceGT, Int.reduceGE, Int.reduceEq, Int.reduceNe, Int.reduceToNat, reduceCtorEq, ak]
        obtain rfl := Option.some.inj h
        refine G79n _ _ (((Weak.keep [4, 7]).trans ((Weak.foc [(.arg 0, ⟨(.arg 0), [], none, .box⟩), (.tmp 4 0, ⟨(.tmp 4 0), [], none, .box⟩), (.tmp 7 0, ⟨(.tmp 7 0), [], none, .box⟩)] rfl (by first | rfl | simp only [reduceCtorEq, Nat.reduceEqDiff, ak, akF]) (by simp [argK, akG, ak])).trans (Weak.of_eq (by first | rfl | (simp only [reduceCtorEq, Nat.reduceEqDiff, ak, akF]; done) | (simp [reduceCtorEq, Nat.reduceEqDiff, ak, akF]; done)))))) (hJ78 _ rfl)
      · rw [if_neg (Bool.eq_false_iff.1 c81)] at h
        refine seq_k fun J93 hJ93 => ?_
        refine reg_k ?_
        simp only [Nat.reduceEqDiff, Nat.reduceAdd, Nat.reduceMul, Nat.reduceLeDiff, Nat.reduceLT, Int.reduceLE, Int.reduceLT, Int.reduceGT, Int.reduceGE, Int.reduceEq, Int.reduceNe, Int.reduceToNat, reduceCtorEq, ak]
        refine hJ93 _ ?_
        refine cond_k (b := decide (y16 > a0_7)) rfl (fun c94 => ?_) (fun c94 => ?_)
        · replace c94 := of_decide_eq_true c94; rw [if_pos c94] at h
          refine reg_k ?_
          simp only [Nat.reduceEqDiff, Nat.reduceAdd, Nat.reduceMul, Nat.reduceLeDiff, Nat.reduceLT, Int.reduceLE, Int.reduceLT, Int.reduceGT, Int.reduceGE, Int.reduceEq, Int.reduceNe, Int.reduceToNat, reduceCtorEq, ak]
          obtain ⟨t95, h96, h⟩ := of_bind h
          refine call_m [(.arg 0, ⟨(.arg 0), [], none, .box⟩)] (s0 := [(.arg 0, ⟨.box, 0, [.sc (.int .u32 a0_0), .sc (.int .i64 a0_1), .sc (.int .i64 a0_2), .sc (.int .i64 a0_3), .sc (.int .i64 a0_4), .sc (.int .i64 a0_5), .own 1 l0_6.length (encL c_i64 l0_6), .sc (.int .i64 y16), .sc (.int .i64 a0_8), .sc (.int .i64 a0_9), .sc (.int .i64 a0_10), .sc (.int .i64 a0_11), .sc (.bool a0_12)]⟩)]) (by intro t ht; cases ht; decide) rfl rfl (by first | rfl | simp only [reduceCtorEq, Nat.reduceEqDiff, ak, akF, g25, g26]) (spec_l4Clock.tri a0_0 a0_1 a0_2 a0_3 a0_4 a0_5 l0_6 y16 a0_8 a0_9 a0_10 a0_11 a0_12 _ h96) (by first | rfl | simp only [reduceCtorEq, Nat.reduceEqDiff, ak, akF]) (by simp [bkOk2, memK]) (fun hl96 => ?_)
          refine call_st (s4 := [(.arg 0, ⟨.box, 0, [.sc (.int .u32 a0_0), .sc (.int .i64 a0_1), .sc (.int .i64 a0_2), .sc (.int .i64 a0_3), .sc (.int .i64 a0_4), .sc (.int .i64 a0_5), .own 1 l0_6.length (encL c_i64 l0_6), .sc (.int .i64 y16), .sc (.int .i64 t95.1), .sc (.int .i64 t95.2.1), .sc (.int .i64 t95.2.2), .sc (.int .i64 a0_11), .sc (.bool a0_12)]⟩), (.tmp 4 0, ⟨.box, 0, [.sc (.int .i64 0), .own 3 (([] : List S68).length) (encL c68 ([] : List S68)), .own 1 (([] : List Int).length) (encL c_i64 ([] : List Int)), .sc (.int .i64 0), .sc (.int .i64 0)]⟩), (.tmp 7 0, ⟨.box, 0, [.sc (.int .i64 0), .own 3 (([] : List S68).length) (encL c68 ([] : List S68)), .own 1 y72.length (encL c_i64 y72), .sc (.int .i64 0), .sc (.int .i64 0)]⟩)]) (m1' := []) (m2' := []) (v' := .tup []) (Sto.mapN_killNil _ _) (mrgL_whole (new' := [.sc (.int .u32 a0_0), .sc (.int .i64 a0_1), .sc (.int .i64 a0_2), .sc (.int .i64 a0_3), .sc (.int .i64 a0_4), .sc (.int .i64 a0_5), .own 1 l0_6.length (encL c_i64 l0_6), .sc (.int .i64 y16), .sc (.int .i64 t95.1), .sc (.int .i64 t95.2.1), .sc (.int .i64 t95.2.2), .sc (.int .i64 a0_11), .sc (.bool a0_12)]) (mrgL_nil' _ _ _) rfl (by rfl) (.inl ⟨rfl, by first | rfl | simp only [reduceCtorEq, Nat.reduceEqDiff, ak, akF, Nat.zero_add, List.append_nil]⟩)) (by rfl) (mapT_killNil _ _) (by rfl) (by rfl) (by first | rfl | simp only [reduceCtorEq, Nat.reduceEqDiff, ak, akF, Nat.zero_add, List.append_nil]) ?_
          simp only [Nat.reduceEqDiff, Nat.reduceAdd, Nat.reduceMul, Nat.reduceLeDiff, Nat.reduceLT, Int.reduceLE, Int.reduceLT, Int.reduceGT, Int.reduceGE, Int.reduceEq, Int.reduceNe, Int.reduceToNat, reduceCtorEq, ak]
          obtain rfl := Option.some.inj h
          refine G79n _ _ (((Weak.keep [4, 7]).trans ((Weak.foc [(.arg 0, ⟨(.arg 0), [], none, .box⟩), (.tmp 4 0, ⟨(.tmp 4 0), [], none, .box⟩), (.tmp 7 0, ⟨(.tmp 7 0), [], none, .box⟩)] rfl (by first | rfl | simp only [reduceCtorEq, Nat.reduceEqDiff, ak, akF]) (by simp [argK, akG, ak])).trans (Weak.of_eq (by first | rfl | (simp only [reduceCtorEq, Nat.reduceEqDiff, ak, akF]; done) | (simp [reduceCtorEq, Nat.reduceEqDiff, ak, akF]; done)))))) (hJ78 _ rfl)
        · replace c94 := of_decide_eq_false c94; rw [if_neg c94] at h
          obtain rfl := Option.some.inj h
          refine G79n _ _ (((Weak.keep [4, 7]).trans ((Weak.foc [(.arg 0, ⟨(.arg 0), [], none, .box⟩), (.tmp 4 0, ⟨(.tmp 4 0), [], none, .box⟩), (.tmp 7 0, ⟨(.tmp 7 0), [], none, .box⟩)] rfl (by first | rfl | simp only [reduceCtorEq, Nat.reduceEqDiff, ak, akF]) (by simp [argK, akG, ak])).trans (Weak.of_eq (by first | rfl | (simp only [reduceCtorEq, Nat.reduceEqDiff, ak, akF]; done) | (simp [reduceCtorEq, Nat.reduceEqDiff, ak, akF]; done)))))) (hJ78 _ rfl)
    · replace h := hn; clear hn h77
      rintro _ rfl
      refine seq_k fun J98 hJ98 => ?_
      refine reg_k ?_
      simp only [Nat.reduceEqDiff, Nat.reduceAdd, Nat.reduceMul, Nat.reduceLeDiff, Nat.reduceLT, Int.reduceLE, Int.reduceLT, Int.reduceGT, Int.reduceGE, Int.reduceEq, Int.reduceNe, Int.reduceToNat, reduceCtorEq, ak]
      refine hJ98 _ ?_
      obtain rfl := Option.some.inj h
      refine hKr _ ⟨_, rfl, [⟨(.tmp 7 0), [1], none, .lst⟩, ⟨(.tmp 7 0), [2], none, .lst⟩], _, rfl, rfl, ?_⟩
      first | rfl | (simp only [reduceCtorEq, Nat.reduceEqDiff, ak, akF]; done) | (simp [reduceCtorEq, Nat.reduceEqDiff, ak, akF]; done)
/-! ### spec.l4Tick: function 153 -/
def c153 : AC := .seq (.reg [.op none (.alloc 2 [.int .i64 0, .slice none 0 0, .slice none 0 0, .int .i64 0, .int .i64 0]), .gh, .keep [0, 2]]) (.seq (.reg [.op none (.build 4 [.int .i64 0, .slice none 0 0, .slice none 0 0, .int .i64 0, .int .i64 0] []), .gh, .op none (.alloc 3 [.int .i64 0, .slice none 0 0, .slice none 0 0, .int .i64 0, .int .i64 0]), .gh, .op none (.store 5 (.tmp 3) (.tmp 4)), .keep [0, 2, 3]]) (.seq (.seq (.reg [.op none (.mv 5 (.tmp 0)), .op none (.nilc 6 (.tmp 5)), .op none (.faddr 7 12 (.tmp 6)), .op none (.load 8 false 1 (.tmp 7)), .keep [0, 2, 3, 8]]) (.cond (.tmp 8) (.seq (.reg [.op none (.mv 9 (.tmp 0)), .op none (.mv 10 (.tmp 0)), .op none (.nilc 11 (.tmp 10)), .op none (.faddr 12 11 (.tmp 11)), .op none (.load 13 false 1 (.tmp 12)), .op none (.bin 14 .sub (.tmp 13) (.const (.int .i64 1))), .op none (.nilc 15 (.tmp 9)), .op none (.faddr 16 11 (.tmp 15)), .op none (.store 1 (.tmp 16) (.tmp 14)), .keep [0, 2, 3]]) (.seq (.ga (.seq (.reg [.op none (.mv 17 (.tmp 0)), .op none (.nilc 18 (.tmp 17)), .op none (.faddr 19 11 (.tmp 18)), .op none (.load 20 false 1 (.tmp 19)), .op none (.bin 21 .eql (.tmp 20) (.const (.int .i64 0))), .keep [0, 2, 3, 21]]) (.cond (.tmp 21) (.seq (.regD (.first (.op none (.mv 22 (.tmp 0))) (.first (.op none (.nilc 23 (.tmp 22))) (.first (.op none (.faddr 24 0 (.tmp 23))) (.first (.op none (.faddr 25 0 (.tmp 24))) (.first (.op none (.load 26 false 1 (.tmp 25))) (.first (.op none (.mv 27 (.tmp 0))) (.first (.op none (.nilc 28 (.tmp 27))) (.first (.op none (.faddr 29 7 (.tmp 28))) (.first (.op none (.load 30 false 1 (.tmp 29))) (.first (.op none (.conv 31 .u32 (.tmp 30))) (.first (.op none (.bin 32 .add (.tmp 26) (.tmp 31))) (.first (.op none (.build 33 [.int .i64 0, .int .u32 0, .int .i64 0] [(0, 1, .const (.int .i64 3)), (1, 1, .tmp 32)])) (.alt (.op none (.bslice 34 3 [.int .i64 0, .int .u32 0, .int .i64 0] 1 [(0, .tmp 33)])) none (.first (.op none (.faddr 35 1 (.tmp 3))) (.alt (.op none (.store 1 (.tmp 35) (.tmp 34))) none (.done) (.stop))) (.stop)))))))))))))) [0, 2, 3]) (.reg [.op none (.mv 36 (.tmp 0)), .op none (.mv 37 (.tmp 0)), .op none (.nilc 38 (.tmp 37)), .op none (.faddr 39 0 (.tmp 38)), .op none (.faddr 40 5 (.tmp 39)), .op none (.load 41 false 1 (.tmp 40)), .op none (.nilc 42 (.tmp 36)), .op none (.faddr 43 11 (.tmp 42)), .op none (.store 1 (.tmp 43) (.tmp 41)), .keep [2, 3]])) (.skip)))) (.seq (.reg [.op none (.load 44 true 5 (.tmp 3)), .op none (.store 5 (.tmp 2) (.tmp 44)), .keep [2]]) (.ret)))) (.skip))) (.seq (.seq (.reg [.op none (.mv 45 (.tmp 0)), .op none (.nilc 46 (.tmp 45)), .op none (.faddr 47 8 (.tmp 46)), .op none (.load 48 false 1 (.tmp 47)), .op none (.bin 49 .eql (.tmp 48) (.const (.int .i64 0))), .keep [0, 2, 3, 49]]) (.cond (.tmp 49) (.seq (.reg [.op none (.load 50 true 5 (.tmp 3)), .op none (.store 5 (.tmp 2) (.tmp 50)), .keep [2]]) (.ret)) (.skip))) (.seq (.reg [.op none (.mv 51 (.tmp 0)), .op none (.mv 52 (.tmp 0)), .op none (.nilc 53 (.tmp 52)), .op none (.faddr 54 8 (.tmp 53)), .op none (.load 55 false 1 (.tmp 54)), .op none (.bin 56 .sub (.tmp 55) (.const (.int .i64 1))), .op none (.nilc 57 (.tmp 51)), .op none (.faddr 58 8 (.tmp 57)), .op none (.store 1 (.tmp 58) (.tmp 56)), .keep [0, 2, 3]]) (.seq (.seq (.reg [.op none (.mv 59 (.tmp 0)), .op none (.nilc 60 (.tmp 59)), .op none (.faddr 61 8 (.tmp 60)), .op none (.load 62 false 1 (.tmp 61)), .op none (.bin 63 .gtr (.tmp 62) (.const (.int .i64 0))), .keep [0, 2, 3, 63]]) (.cond (.tmp 63) (.seq (.reg [.op none (.load 64 true 5 (.tmp 3)), .op none (.store 5 (.tmp 2) (.tmp 64)), .keep [2]]) (.ret)) (.skip))) (.seq (.reg [.op none (.mv 65 (.tmp 0)), .op none (.mv 66 (.tmp 0)), .op none (.nilc 67 (.tmp 66)), .op none (.faddr 68 10 (.tmp 67)), .op none (.load 69 false 1 (.tmp 68)), .op none (.bin 70 .add (.tmp 69) (.const (.int .i64 1))), .op none (.nilc 71 (.tmp 65)), .op none (.faddr 72 10 (.tmp 71)), .op none (.store 1 (.tmp 72) (.tmp 70)), .keep [0, 2, 3]]) (.seq (.seq (.regD (.first (.op none (.mv 73 (.tmp 0))) (.first (.op none (.nilc 74 (.tmp 73))) (.first (.op none (.faddr 75 10 (.tmp 74))) (.first (.op none (.load 76 false 1 (.tmp 75))) (.first (.op none (.mv 77 (.tmp 0))) (.first (.op none (.nilc 78 (.tmp 77))) (.first (.op none (.faddr 79 0 (.tmp 78))) (.first (.op none (.faddr 80 4 (.tmp 79))) (.first (.op none (.load 81 false 1 (.tmp 80))) (.first (.op none (.bin 82 .eql (.tmp 76) (.tmp 81))) (.done))))))))))) [0, 2, 3, 82]) (.cond (.tmp 82) (.seq (.reg [.op none (.mv 83 (.tmp 0)), .op none (.nilc 84 (.tmp 83)), .op none (.faddr 85 12 (.tmp 84)), .op none (.store 1 (.tmp 85) (.const (.bool true))), .keep [0, 2, 3]]) (.seq (.reg [.op none (.mv 86 (.tmp 0)), .op none (.mv 87 (.tmp 0)), .op none (.nilc 88 (.tmp 87)), .op none (.faddr 89 0 (.tmp 88)), .op none (.faddr 90 5 (.tmp 89)), .op none (.load 91 false 1 (.tmp 90)), .op none (.nilc 92 (.tmp 86)), .op none (.faddr 93 11 (.tmp 92)), .op none (.store 1 (.tmp 93) (.tmp 91)), .keep [2, 3]]) (.seq (.reg [.op none (.faddr 94 3 (.tmp 3)), .op none (.store 1 (.tmp 94) (.const (.int .i64 1))), .keep [2, 3]]) (.seq (.reg [.op none (.load 95 true 5 (.tmp 3)), .op none (.store 5 (.tmp 2) (.tmp 95)), .keep [2]]) (.ret))))) (.skip))) (.seq (.reg [.op none (.mv 96 (.tmp 0)), .op none (.mv 97 (.tmp 0)), .op none (.nilc 98 (.tmp 97)), .op none (.faddr 99 9 (.tmp 98)), .op none (.load 100 false 1 (.tmp 99)), .op none (.bin 101 .mul (.const (.int .i64 2)) (.tmp 100)), .op none (.nilc 102 (.tmp 96)), .op none (.faddr 103 9 (.tmp 102)), .op none (.store 1 (.tmp 103) (.tmp 101)), .keep [0, 2, 3]]) (.seq (.ga (.seq (.regD (.first (.op none (.mv 104 (.tmp 0))) (.first (.op none (.nilc 105 (.tmp 104))) (.first (.op none (.faddr 106 9 (.tmp 105))) (.first (.op none (.load 107 false 1 (.tmp 106))) (.first (.op none (.mv 108 (.tmp 0))) (.first (.op none (.nilc 109 (.tmp 108))) (.first (.op none (.faddr 110 0 (.tmp 109))) (.first (.op none (.faddr 111 3 (.tmp 110))) (.first (.op none (.load 112 false 1 (.tmp 111))) (.first (.op none (.bin 113 .gtr (.tmp 107) (.tmp 112))) (.done))))))))))) [0, 2, 3, 113]) (.cond (.tmp 113) (.reg [.op none (.mv 114 (.tmp 0)), .op none (.mv 115 (.tmp 0)), .op none (.nilc 116 (.tmp 115)), .op none (.faddr 117 0 (.tmp 116)), .op none (.faddr 118 3 (.tmp 117)), .op none (.load 119 false 1 (.tmp 118)), .op none (.nilc 120 (.tmp 114)), .op none (.faddr 121 9 (.tmp 120)), .op none (.store 1 (.tmp 121) (.tmp 119)), .keep [0, 2, 3]]) (.skip)))) (.seq (.reg [.op none (.mv 122 (.tmp 0)), .op none (.mv 123 (.tmp 0)), .op none (.nilc 124 (.tmp 123)), .op none (.faddr 125 9 (.tmp 124)), .op none (.load 126 false 1 (.tmp 125)), .op none (.nilc 127 (.tmp 122)), .op none (.faddr 128 8 (.tmp 127)), .op none (.store 1 (.tmp 128) (.tmp 126)), .keep [0, 2, 3]]) (.seq (.reg [.op none (.mv 129 (.tmp 0)), .call none (some 130) 162 [.tmp 129], .op none (.faddr 131 1 (.tmp 3)), .op none (.store 1 (.tmp 131) (.tmp 130)), .keep [2, 3]]) (.seq (.reg [.op none (.load 132 true 5 (.tmp 3)), .op none (.store 5 (.tmp 2) (.tmp 132)), .keep [2]]) (.ret)))))))))))))
def r153 : List RV := [.cell 2 true 5]
theorem k153 : compC Try.prog 133 c153 (Try.f153.body.getD .skip) = some c153.erase := by kernel_rfl
theorem q153 : rvsOf Try.prog Try.f153.results.toList = some r153 := by kernel_rfl
def spec_l4Tick.f (a0_0 : Int) (a0_1 : Int) (a0_2 : Int) (a0_3 : Int) (a0_4 : Int) (a0_5 : Int) (l0_6 : List Int) (a0_7 : Int) (a0_8 : Int) (a0_9 : Int) (a0_10 : Int) (a0_11 : Int) (a0_12 : Bool) : Option (Int × (List S68) × (List Int) × Int × Int × Int × Int × Int × Int × Bool) := (if a0_12 = true then ((if IntKind.i64.wrap (a0_11 - 1) = 0 then (some (a0_5, ([(⟨3, IntKind.u32.wrap (a0_0 + (IntKind.u32.wrap a0_7)), 0⟩ : S68)] : List S68))) else (some (IntKind.i64.wrap (a0_11 - 1), ([] : List S68)))) >>= fun (j9 : Int × (List S68)) => (some (0, j9.2, ([] : List Int), 0, 0, a0_8, a0_9, a0_10, j9.1, a0_12))) else (if a0_8 = 0 then (some (0, ([] : List S68), ([] : List Int), 0, 0, a0_8, a0_9, a0_10, a0_11, a0_12)) else (if IntKind.i64.wrap (a0_8 - 1) > 0 then (some (0, ([] : List S68), ([] : List Int), 0, 0, IntKind.i64.wrap (a0_8 - 1), a0_9, a0_10, a0_11, a0_12)) else (if IntKind.i64.wrap (a0_10 + 1) = a0_4 then (some (0, ([] : List S68), ([] : List Int), 1, 0, IntKind.i64.wrap (a0_8 - 1), a0_9, IntKind.i64.wrap (a0_10 + 1), a0_5, true)) else ((if IntKind.i64.wrap (2 * a0_9) > a0_3 then (some a0_3) else (some (IntKind.i64.wrap (2 * a0_9)))) >>= fun (j45 : Int) => (spec_l4Again.f a0_0 a0_1 a0_2 a0_3 a0_4 a0_5 l0_6 a0_7 j45 j45 (IntKind.i64.wrap (a0_10 + 1)) a0_11 a0_12 >>= fun t53 => (some (0, t53, ([] : List Int), 0, 0, j45, j45, IntKind.i64.wrap (a0_10 + 1), a0_11, a0_12))))))))
set_option maxRecDepth 100000 in
set_option maxHeartbeats 4000000 in
theorem spec_l4Tick.tri (a0_0 : Int) (a0_1 : Int) (a0_2 : Int) (a0_3 : Int) (a0_4 : Int) (a0_5 : Int) (l0_6 : List Int) (a0_7 : Int) (a0_8 : Int) (a0_9 : Int) (a0_10 : Int) (a0_11 : Int) (a0_12 : Bool) (r : Int × (List S68) × (List Int) × Int × Int × Int × Int × Int × Int × Bool) (h : spec_l4Tick.f a0_0 a0_1 a0_2 a0_3 a0_4 a0_5 l0_6 a0_7 a0_8 a0_9 a0_10 a0_11 a0_12 = some r) : Tri Try.prog 153 [.c (.ptr (.arg 0) [] 0)] [(.arg 0, ⟨.box, 0, [.sc (.int .u32 a0_0), .sc (.int .i64 a0_1), .sc (.int .i64 a0_2), .sc (.int .i64 a0_3), .sc (.int .i64 a0_4), .sc (.int .i64 a0_5), .own 1 l0_6.length (encL c_i64 l0_6), .sc (.int .i64 a0_7), .sc (.int .i64 a0_8), .sc (.int .i64 a0_9), .sc (.int .i64 a0_10), .sc (.int .i64 a0_11), .sc (.bool a0_12)]⟩)] (fun o => o = ⟨.g [.sc (.int .i64 r.1), .ref (.res 0) [] 0 r.2.1.length, .ref (.res 1) [] 0 r.2.2.1.length, .sc (.int .i64 r.2.2.2.1), .sc (.int .i64 r.2.2.2.2.1)], [(.arg 0, ⟨.box, 0, [.sc (.int .u32 a0_0), .sc (.int .i64 a0_1), .sc (.int .i64 a0_2), .sc (.int .i64 a0_3), .sc (.int .i64 a0_4), .sc (.int .i64 a0_5), .own 1 l0_6.length (encL c_i64 l0_6), .sc (.int .i64 a0_7), .sc (.int .i64 r.2.2.2.2.2.1), .sc (.int .i64 r.2.2.2.2.2.2.1), .sc (.int .i64 r.2.2.2.2.2.2.2.1), .sc (.int .i64 r.2.2.2.2.2.2.2.2.1), .sc (.bool r.2.2.2.2.2.2.2.2.2)]⟩), (.res 0, ⟨.lst, 3, encL c68 r.2.1⟩), (.res 1, ⟨.lst, 1, encL c_i64 r.2.2.1⟩)], [], []⟩) := by
  refine tri_of_body (ac := c153) (xs := r153) Try.func153 (show Try.f153.body = some (Try.f153.body.getD .skip) from rfl) k153 q153 (Nat.le_of_ble_eq_true rfl) ?_
  refine body_of fun K hKn hKr => ?_
  unfold spec_l4Tick.f at h
  unfold c153
  simp only [initT, Nat.reduceAdd]
  refine seq_k fun J1 hJ1 => ?_
  refine reg_k ?_
  simp only [Nat.reduceEqDiff, Nat.reduceAdd, Nat.reduceMul, Nat.reduceLeDiff, Nat.reduceLT, Int.reduceLE, Int.reduceLT, Int.reduceGT, Int.reduceGE, Int.reduceEq, Int.reduceNe, Int.reduceToNat, reduceCtorEq, ak]
  refine gho_k (Weak.own (.tmp 2 0) (cs' := [.sc (.int .i64 0), .own 3 (([] : List S68).length) (encL c68 ([] : List S68)), .own 1 (([] : List Int).length) (encL c_i64 ([] : List Int)), .sc (.int .i64 0), .sc (.int .i64 0)]) rfl ⟨.inl rfl, .inr ⟨rfl, _, rfl⟩, .inr ⟨rfl, _, rfl⟩, .inl rfl, .inl rfl, trivial⟩) ?_
  simp only [Nat.reduceEqDiff, Nat.reduceAdd, Nat.reduceMul, Nat.reduceLeDiff, Nat.reduceLT, Int.reduceLE, Int.reduceLT, Int.reduceGT, Int.reduceGE, Int.reduceEq, Int.reduceNe, Int.reduceToNat, reduceCtorEq, ak]
  refine hJ1 _ ?_
  refine seq_k fun J2 hJ2 => ?_
  refine reg_k ?_
  simp only [Nat.reduceEqDiff, Nat.reduceAdd, Nat.reduceMul, Nat.reduceLeDiff, Nat.reduceLT, Int.reduceLE, Int.reduceLT, Int.reduceGT, Int.reduceGE, Int.reduceEq, Int.reduceNe, Int.reduceToNat, reduceCtorEq, ak]
  refine gho_k ((Weak.nmg' 4 1 (.tmp 4 21) 3 (encL c68 ([] : List S68)) rfl rfl rfl rfl).trans (Weak.nmg' 4 2 (.tmp 4 22) 1 (encL c_i64 ([] : List Int)) rfl rfl rfl rfl)) ?_
  simp only [Nat.reduceEqDiff, Nat.reduceAdd, Nat.reduceMul, Nat.reduceLeDiff, Nat.reduceLT, Int.reduceLE, Int.reduceLT, Int.reduceGT, Int.reduceGE, Int.reduceEq, Int.reduceNe, Int.reduceToNat, reduceCtorEq, ak]
  refine gho_k (Weak.own (.tmp 3 0) (cs' := [.sc (.int .i64 0), .own 3 (([] : List S68).length) (encL c68 ([] : List S68)), .own 1 (([] : List Int).length) (encL c_i64 ([] : List Int)), .sc (.int .i64 0), .sc (.int .i64 0)]) rfl ⟨.inl rfl, .inr ⟨rfl, _, rfl⟩, .inr ⟨rfl, _, rfl⟩, .inl rfl, .inl rfl, trivial⟩) ?_
  have g3 : (encL c68 ([] : List S68)).length = 0 * 3 := by simp [encL_length c68_w]
  have g4 : (encL c_i64 ([] : List Int)).length = 0 * 1 := by simp [encL_length c_i64_w]
  simp only [Nat.reduceEqDiff, Nat.reduceAdd, Nat.reduceMul, Nat.reduceLeDiff, Nat.reduceLT, Int.reduceLE, Int.reduceLT, Int.reduceGT, Int.reduceGE, Int.reduceEq, Int.reduceNe, Int.reduceToNat, reduceCtorEq, ak, g3, g4]
  refine hJ2 _ ?_
  refine seq_k fun J5 hJ5 => ?_
  refine seq_k fun J6 hJ6 => ?_
  refine reg_k ?_
  simp only [Nat.reduceEqDiff, Nat.reduceAdd, Nat.reduceMul, Nat.reduceLeDiff, Nat.reduceLT, Int.reduceLE, Int.reduceLT, Int.reduceGT, Int.reduceGE, Int.reduceEq, Int.reduceNe, Int.reduceToNat, reduceCtorEq, ak]
  refine hJ6 _ ?_
  refine cond_k (b := a0_12) rfl (fun c7 => ?_) (fun c7 => ?_)
  · rw [if_pos c7] at h
    refine seq_k fun J8 hJ8 => ?_
    refine reg_k ?_
    simp only [Nat.reduceEqDiff, Nat.reduceAdd, Nat.reduceMul, Nat.reduceLeDiff, Nat.reduceLT, Int.reduceLE, Int.reduceLT, Int.reduceGT, Int.reduceGE, Int.reduceEq, Int.reduceNe, Int.reduceToNat, reduceCtorEq, ak]
    refine hJ8 _ ?_
    obtain ⟨j9, h10, hn⟩ := of_bind h
    refine seq_j (fun st => st = ⟨[(2, .c (.ptr (.tmp 2 0) [] 0)), (3, .c (.ptr (.tmp 3 0) [] 0))], [(.arg 0, ⟨.box, 0, [.sc (.int .u32 a0_0), .sc (.int .i64 a0_1), .sc (.int .i64 a0_2), .sc (.int .i64 a0_3), .sc (.int .i64 a0_4), .sc (.int .i64 a0_5), .own 1 l0_6.length (encL c_i64 l0_6), .sc (.int .i64 a0_7), .sc (.int .i64 a0_8), .sc (.int .i64 a0_9), .sc (.int .i64 a0_10), .sc (.int .i64 j9.1), .sc (.bool a0_12)]⟩), (.tmp 2 0, ⟨.box, 0, [.sc (.int .i64 0), .own 3 (([] : List S68).length) (encL c68 ([] : List S68)), .own 1 (([] : List Int).length) (encL c_i64 ([] : List Int)), .sc (.int .i64 0), .sc (.int .i64 0)]⟩), (.tmp 3 0, ⟨.box, 0, [.sc (.int .i64 0), .own 3 j9.2.length (encL c68 j9.2), .own 1 0 (encL c_i64 ([] : List Int)), .sc (.int .i64 0), .sc (.int .i64 0)]⟩)], [], []⟩) (fun J11 hJ11 => ?_) ?_
    · replace h := h10; clear hn
      refine ga_k fun G12 G12n G12r G12x => ?_
      refine seq_k fun J13 hJ13 => ?_
      refine reg_k ?_
      simp only [Nat.reduceEqDiff, Nat.reduceAdd, Nat.reduceMul, Nat.reduceLeDiff, Nat.reduceLT, Int.reduceLE, Int.reduceLT, Int.reduceGT, Int.reduceGE, Int.reduceEq, Int.reduceNe, Int.reduceToNat, reduceCtorEq, ak]
      refine hJ13 _ ?_
      refine cond_k (b := decide (IntKind.i64.wrap (a0_11 - 1) = 0)) rfl (fun c14 => ?_) (fun c14 => ?_)
      · replace c14 := of_decide_eq_true c14; rw [if_pos c14] at h
        refine seq_k fun J15 hJ15 => ?_
        refine regD_k ?_
        simp only [Nat.reduceBEq, Nat.reduceEqDiff, Nat.reduceAdd, Nat.reduceMul, Nat.reduceLeDiff, Nat.reduceLT, Int.reduceLE, Int.reduceLT, Int.reduceGT, Int.reduceGE, Int.reduceEq, Int.reduceNe, Int.reduceToNat, reduceCtorEq, ak]
        refine alt_e ?_
        · have g21 : (List.replicate 1 ([.int .i64 0, .int .u32 0, .int .i64 0] : List Value)).flatten = [.int .i64 0, .int .u32 0, .int .i64 0] := rfl
          have g22 : (⟨.lst, 3, [.sc (.int .i64 3), .sc (.int .u32 (IntKind.u32.wrap (a0_0 + (IntKind.u32.wrap a0_7)))), .sc (.int .i64 0)]⟩ : Root) = ⟨.lst, 3, encL c68 ([(⟨3, IntKind.u32.wrap (a0_0 + (IntKind.u32.wrap a0_7)), 0⟩ : S68)] : List S68)⟩ := rfl
          have g23 : ([(⟨3, IntKind.u32.wrap (a0_0 + (IntKind.u32.wrap a0_7)), 0⟩ : S68)] : List S68).length = 1 := rfl
          simp only [Nat.reduceBEq, Nat.reduceEqDiff, Nat.reduceAdd, Nat.reduceMul, Nat.reduceLeDiff, Nat.reduceLT, Int.reduceLE, Int.reduceLT, Int.reduceGT, Int.reduceGE, Int.reduceEq, Int.reduceNe, Int.reduceToNat, reduceCtorEq, ak, g21, g22, g23]
          refine alt_e ?_
          · have g25 : (encL c68 ([(⟨3, IntKind.u32.wrap (a0_0 + (IntKind.u32.wrap a0_7)), 0⟩ : S68)] : List S68)).length = 1 * 3 := by simp [encL_length c68_w]
            simp only [Nat.reduceBEq, Nat.reduceEqDiff, Nat.reduceAdd, Nat.reduceMul, Nat.reduceLeDiff, Nat.reduceLT, Int.reduceLE, Int.reduceLT, Int.reduceGT, Int.reduceGE, Int.reduceEq, Int.reduceNe, Int.reduceToNat, reduceCtorEq, ak, g25]
            refine hJ15 _ ?_
            refine reg_k ?_
            simp only [Nat.reduceEqDiff, Nat.reduceAdd, Nat.reduceMul, Nat.reduceLeDiff, Nat.reduceLT, Int.reduceLE, Int.reduceLT, Int.reduceGT, Int.reduceGE, Int.reduceEq, Int.reduceNe, Int.reduceToNat, reduceCtorEq, ak]
            obtain rfl := Option.some.inj h
            refine G12n _ _ (((Weak.keep [2, 3]).trans ((Weak.foc [(.arg 0, ⟨(.arg 0), [], none, .box⟩), (.tmp 2 0, ⟨(.tmp 2 0), [], none, .box⟩), (.tmp 3 0, ⟨(.tmp 3 0), [], none, .box⟩)] rfl (by first | rfl | simp only [reduceCtorEq, Nat.reduceEqDiff, ak, akF]) (by simp [argK, akG, ak])).trans (Weak.of_eq (by first | rfl | (simp only [reduceCtorEq, Nat.reduceEqDiff, ak, akF]; done) | (simp [reduceCtorEq, Nat.reduceEqDiff, ak, akF]; done)))))) (hJ11 _ rfl)
      · replace c14 := of_decide_eq_false c14; rw [if_neg c14] at h
        obtain rfl := Option.some.inj h
        refine G12n _ _ (((Weak.keep [2, 3]).trans ((Weak.foc [(.arg 0, ⟨(.arg 0), [], none, .box⟩), (.tmp 2 0, ⟨(.tmp 2 0), [], none, .box⟩), (.tmp 3 0, ⟨(.tmp 3 0), [], none, .box⟩)] rfl (by first | rfl | simp only [reduceCtorEq, Nat.reduceEqDiff, ak, akF]) (by simp [argK, akG, ak])).trans (Weak.of_eq (by first | rfl | (simp only [reduceCtorEq, Nat.reduceEqDiff, ak, akF]; done) | (simp [reduceCtorEq, Nat.reduceEqDiff, ak, akF]; done)))))) (hJ11 _ rfl)
    · replace h := hn; clear hn h10
      rintro _ rfl
      refine seq_k fun J26 hJ26 => ?_
      refine reg_k ?_
      simp only [Nat.reduceEqDiff, Nat.reduceAdd, Nat.reduceMul, Nat.reduceLeDiff, Nat.reduceLT, Int.reduceLE, Int.reduceLT, Int.reduceGT, Int.reduceGE, Int.reduceEq, Int.reduceNe, Int.reduceToNat, reduceCtorEq, ak]
      refine hJ26 _ ?_
      obtain rfl := Option.some.inj h
      refine hKr _ ⟨_, rfl, [⟨(.tmp 3 0), [1], none, .lst⟩, ⟨(.tmp 3 0), [2], none, .lst⟩], _, rfl, rfl, ?_⟩
      first | rfl | (simp only [reduceCtorEq, Nat.reduceEqDiff, ak, akF]; done) | (simp [reduceCtorEq, Nat.reduceEqDiff, ak, akF]; done)
  · rw [if_neg (Bool.eq_false_iff.1 c7)] at h
    refine hJ5 _ ?_
    refine seq_k fun J27 hJ27 => ?_
    refine seq_k fun J28 hJ28 => ?_
    refine reg_k ?_
    simp only [Nat.reduceEqDiff, Nat.reduceAdd, Nat.reduceMul, Nat.reduceLeDiff, Nat.reduceLT, Int.reduceLE, Int.reduceLT, Int.reduceGT, Int.reduceGE, Int.reduceEq, Int.reduceNe, Int.reduceToNat, reduceCtorEq, ak]
    refine hJ28 _ ?_
    refine cond_k (b := decide (a0_8 = 0)) rfl (fun c29 => ?_) (fun c29 => ?_)
    · replace c29 := of_decide_eq_true c29; rw [if_pos c29] at h
      refine seq_k fun J30 hJ30 => ?_
      refine reg_k ?_
      simp only [Nat.reduceEqDiff, Nat.reduceAdd, Nat.reduceMul, Nat.reduceLeDiff, Nat.reduceLT, Int.reduceLE, Int.reduceLT, Int.reduceGT, Int.reduceGE, Int.reduceEq, Int.reduceNe, Int.reduceToNat, reduceCtorEq, ak]
      refine hJ30 _ ?_
      obtain rfl := Option.some.inj h
      refine hKr _ ⟨_, rfl, [⟨(.tmp 3 0), [1], none, .lst⟩, ⟨(.tmp 3 0), [2], none, .lst⟩], _, rfl, rfl, ?_⟩
      first | rfl | (simp only [reduceCtorEq, Nat.reduceEqDiff, ak, akF]; done) | (simp [reduceCtorEq, Nat.reduceEqDiff, ak, akF]; done)
    · replace c29 := of_decide_eq_false c29; rw [if_neg c29] at h
      refine hJ27 _ ?_
      refine seq_k fun J31 hJ31 => ?_
      refine reg_k ?_
      simp only [Nat.reduceEqDiff, Nat.reduceAdd, Nat.reduceMul, Nat.reduceLeDiff, Nat.reduceLT, Int.reduceLE, Int.reduceLT, Int.reduceGT, Int.reduceGE, Int.reduceEq, Int.reduceNe, Int.reduceToNat, reduceCtorEq, ak]
      refine hJ31 _ ?_
      refine seq_k fun J32 hJ32 => ?_
      refine seq_k fun J33 hJ33 => ?_
      refine reg_k ?_
      simp only [Nat.reduceEqDiff, Nat.reduceAdd, Nat.reduceMul, Nat.reduceLeDiff, Nat.reduceLT, Int.reduceLE, Int.reduceLT, Int.reduceGT, Int.reduceGE, Int.reduceEq, Int.reduceNe, Int.reduceToNat, reduceCtorEq, ak]
      refine hJ33 _ ?_
      refine cond_k (b := decide (IntKind.i64.wrap (a0_8 - 1) > 0)) rfl (fun c34 => ?_) (fun c34 => ?_)
      · replace c34 := of_decide_eq_true c34; rw [if_pos c34] at h
        refine seq_k fun J35 hJ35 => ?_
        refine reg_k ?_
        simp only [Nat.reduceEqDiff, Nat.reduceAdd, Nat.reduceMul, Nat.reduceLeDiff, Nat.reduceLT, Int.reduceLE, Int.reduceLT, Int.reduceGT, Int.reduceGE, Int.reduceEq, Int.reduceNe, Int.reduceToNat, reduceCtorEq, ak]
        refine hJ35 _ ?_
        obtain rfl := Option.some.inj h
        refine hKr _ ⟨_, rfl, [⟨(.tmp 3 0), [1], none, .lst⟩, ⟨(.tmp 3 0), [2], none, .lst⟩], _, rfl, rfl, ?_⟩
        first | rfl | (simp only [reduceCtorEq, Nat.reduceEqDiff, ak, akF]; done) | (simp [reduceCtorEq, Nat.reduceEqDiff, ak, akF]; done)
      · replace c34 := of_decide_eq_false c34; rw [if_neg c34] at h
        refine hJ32 _ ?_
        refine seq_k fun J36 hJ36 => ?_
        refine reg_k ?_
        simp only [Nat.reduceEqDiff, Nat.reduceAdd, Nat.reduceMul, Nat.reduceLeDiff, Nat.reduceLT, Int.reduceLE, Int.reduceLT, Int.reduceGT, Int.reduceGE, Int.reduceEq, Int.reduceNe, Int.reduceToNat, reduceCtorEq, ak]
        refine hJ36 _ ?_
        refine seq_k fun J37 hJ37 => ?_
        refine seq_k fun J38 hJ38 => ?_
        refine regD_k ?_
        simp only [Nat.reduceBEq, Nat.reduceEqDiff, Nat.reduceAdd, Nat.reduceMul, Nat.reduceLeDiff, Nat.reduceLT, Int.reduceLE, Int.reduceLT, Int.reduceGT, Int.reduceGE, Int.reduceEq, Int.reduceNe, Int.reduceToNat, reduceCtorEq, ak]
        refine hJ38 _ ?_
        refine cond_k (b := decide (IntKind.i64.wrap (a0_10 + 1) = a0_4)) rfl (fun c39 => ?_) (fun c39 => ?_)
        · replace c39 := of_decide_eq_true c39; rw [if_pos c39] at h
          refine seq_k fun J40 hJ40 => ?_
          refine reg_k ?_
          simp only [Nat.reduceEqDiff, Nat.reduceAdd, Nat.reduceMul, Nat.reduceLeDiff, Nat.reduceLT, Int.reduceLE, Int.reduceLT, Int.reduceGT, Int.reduceGE, Int.reduceEq, Int.reduceNe, Int.reduceToNat, reduceCtorEq, ak]
          refine hJ40 _ ?_
          refine seq_k fun J41 hJ41 => ?_
          refine reg_k ?_
          simp only [Nat.reduceEqDiff, Nat.reduceAdd, Nat.reduceMul, Nat.reduceLeDiff, Nat.reduceLT, Int.reduceLE, Int.reduceLT, Int.reduceGT, Int.reduceGE, Int.reduceEq, Int.reduceNe, Int.reduceToNat, reduceCtorEq, ak]
          refine hJ41 _ ?_
          refine seq_k fun J42 hJ42 => ?_
          refine reg_k ?_
          simp only [Nat.reduceEqDiff, Nat.reduceAdd, Nat.reduceMul, Nat.reduceLeDiff, Nat.reduceLT, Int.reduceLE, Int.reduceLT, Int.reduceGT, Int.reduceGE, Int.reduceEq, Int.reduceNe, Int.reduceToNat, reduceCtorEq, ak]
          refine hJ42 _ ?_
          refine seq_k fun J43 hJ43 => ?_
          refine reg_k ?_
          simp only [Nat.reduceEqDiff, Nat.reduceAdd, Nat.reduceMul, Nat.reduceLeDiff, Nat.reduceLT, Int.reduceLE, Int.reduceLT, Int.reduceGT, Int.reduceGE, Int.reduceEq, Int.reduceNe, Int.reduceToNat, reduceCtorEq, ak]
          refine hJ43 _ ?_
          obtain rfl := Option.some.inj h
          refine hKr _ ⟨_, rfl, [⟨(.tmp 3 0), [1], none, .lst⟩, ⟨(.tmp 3 0), [2], none, .lst⟩], _, rfl, rfl, ?_⟩
          first | rfl | (simp only [reduceCtorEq, Nat.reduceEqDiff, ak, akF]; done) | (simp [reduceCtorEq, Nat.reduceEqDiff, ak, akF]; done)
        · replace c39 := of_decide_eq_false c39; rw [if_neg c39] at h
          refine hJ37 _ ?_
          refine seq_k fun J44 hJ44 => ?_
          refine reg_k ?_
          simp only [Nat.reduceEqDiff, Nat.reduceAdd, Nat.reduceMul, Nat.reduceLeDiff, Nat.reduceLT, Int.reduceLE, Int.reduceLT, Int.reduceGT, Int.reduceGE, Int.reduceEq, Int.reduceNe, Int.reduceToNat, reduceCtorEq, ak]
          refine hJ44 _ ?_
          obtain ⟨j45, h46, hn⟩ := of_bind h
          refine seq_j (fun st => st = ⟨[(0, .c (.ptr (.arg 0) [] 0)), (2, .c (.ptr (.tmp 2 0) [] 0)), (3, .c (.ptr (.tmp 3 0) [] 0))], [(.arg 0, ⟨.box, 0, [.sc (.int .u32 a0_0), .sc (.int .i64 a0_1), .sc (.int .i64 a0_2), .sc (.int .i64 a0_3), .sc (.int .i64 a0_4), .sc (.int .i64 a0_5), .own 1 l0_6.length (encL c_i64 l0_6), .sc (.int .i64 a0_7), .sc (.int .i64 (IntKind.i64.wrap (a0_8 - 1))), .sc (.int .i64 j45), .sc (.int .i64 (IntKind.i64.wrap (a0_10 + 1))), .sc (.int .i64 a0_11), .sc (.bool a0_12)]⟩), (.tmp 2 0, ⟨.box, 0, [.sc (.int .i64 0), .own 3 (([] : List S68).length) (encL c68 ([] : List S68)), .own 1 (([] : List Int).length) (encL c_i64 ([] : List Int)), .sc (.int .i64 0), .sc (.int .i64 0)]⟩), (.tmp 3 0, ⟨.box, 0, [.sc (.int .i64 0), .own 3 0 (encL c68 ([] : List S68)), .own 1 0 (encL c_i64 ([] : List Int)), .sc (.int .i64 0), .sc (.int .i64 0)]⟩)], [], []⟩) (fun J47 hJ47 => ?_) ?_
          · replace h := h46; clear hn
            refine ga_k fun G48 G48n G48r G48x => ?_
            refine seq_k fun J49 hJ49 => ?_
            refine regD_k ?_
            simp only [Nat.reduceBEq, Nat.reduceEqDiff, Nat.reduceAdd, Nat.reduceMul, Nat.reduceLeDiff, Nat.reduceLT, Int.reduceLE, Int.reduceLT, Int.reduceGT, Int.reduceGE, Int.reduceEq, Int.reduceNe, Int.reduceToNat, reduceCtorEq, ak]
            refine hJ49 _ ?_
            refine cond_k (b := decide (IntKind.i64.wrap (2 * a0_9) > a0_3)) rfl (fun c50 => ?_) (fun c50 => ?_)
            · replace c50 := of_decide_eq_true c50; rw [if_pos c50] at h
              refine reg_k ?_
              simp only [Nat.reduceEqDiff, Nat.reduceAdd, Nat.reduceMul, Nat.reduceLeDiff, Nat.reduceLT, Int.reduceLE, Int.reduceLT, Int.reduceGT, Int.reduceGE, Int.reduceEq, Int.reduceNe, Int.reduceToNat, reduceCtorEq, ak]
              obtain rfl := Option.some.inj h
              refine G48n _ _ (((Weak.keep [0, 2, 3]).trans ((Weak.foc [(.arg 0, ⟨(.arg 0), [], none, .box⟩), (.tmp 2 0, ⟨(.tmp 2 0), [], none, .box⟩), (.tmp 3 0, ⟨(.tmp 3 0), [], none, .box⟩)] rfl (by first | rfl | simp only [reduceCtorEq, Nat.reduceEqDiff, ak, akF]) (by simp [argK, akG, ak])).trans (Weak.of_eq (by first | rfl | (simp only [reduceCtorEq, Nat.reduceEqDiff, ak, akF]; done) | (simp [reduceCtorEq, Nat.reduceEqDiff, ak, akF]; done)))))) (hJ47 _ rfl)
            · replace c50 := of_decide_eq_false c50; rw [if_neg c50] at h
              obtain rfl := Option.some.inj h
              refine G48n _ _ (((Weak.keep [0, 2, 3]).trans ((Weak.foc [(.arg 0, ⟨(.arg 0), [], none, .box⟩), (.tmp 2 0, ⟨(.tmp 2 0), [], none, .box⟩), (.tmp 3 0, ⟨(.tmp 3 0), [], none, .box⟩)] rfl (by first | rfl | simp only [reduceCtorEq, Nat.reduceEqDiff, ak, akF]) (by simp [argK, akG, ak])).trans (Weak.of_eq (by first | rfl | (simp only [reduceCtorEq, Nat.reduceEqDiff, ak, akF]; done) | (simp [reduceCtorEq, Nat.reduceEqDiff, ak, akF]; done)))))) (hJ47 _ rfl)
          · replace h := hn; clear hn h46
            rintro _ rfl
            refine seq_k fun J51 hJ51 => ?_
            refine reg_k ?_
            simp only [Nat.reduceEqDiff, Nat.reduceAdd, Nat.reduceMul, Nat.reduceLeDiff, Nat.reduceLT, Int.reduceLE, Int.reduceLT, Int.reduceGT, Int.reduceGE, Int.reduceEq, Int.reduceNe, Int.reduceToNat, reduceCtorEq, ak]
            refine hJ51 _ ?_
            refine seq_k fun J52 hJ52 => ?_
            refine reg_k ?_
            simp only [Nat.reduceEqDiff, Nat.reduceAdd, Nat.reduceMul, Nat.reduceLeDiff, Nat.reduceLT, Int.reduceLE, Int.reduceLT, Int.reduceGT, Int.reduceGE, Int.reduceEq, Int.reduceNe, Int.reduceToNat, reduceCtorEq, ak]
            obtain ⟨t53, h54, h⟩ := of_bind h
            refine call_m [(.arg 0, ⟨(.arg 0), [], none, .box⟩)] (s0 := [(.arg 0, ⟨.box, 0, [.sc (.int .u32 a0_0), .sc (.int .i64 a0_1), .sc (.int .i64 a0_2), .sc (.int .i64 a0_3), .sc (.int .i64 a0_4), .sc (.int .i64 a0_5), .own 1 l0_6.length (encL c_i64 l0_6), .sc (.int .i64 a0_7), .sc (.int .i64 j45), .sc (.int .i64 j45), .sc (.int .i64 (IntKind.i64.wrap (a0_10 + 1))), .sc (.int .i64 a0_11), .sc (.bool a0_12)]⟩)]) (by intro t ht; cases ht; decide) rfl rfl (by first | rfl | simp only [reduceCtorEq, Nat.reduceEqDiff, ak, akF, g3, g4]) (spec_l4Again.tri a0_0 a0_1 a0_2 a0_3 a0_4 a0_5 l0_6 a0_7 j45 j45 (IntKind.i64.wrap (a0_10 + 1)) a0_11 a0_12 _ h54) (by first | rfl | simp only [reduceCtorEq, Nat.reduceEqDiff, ak, akF]) (by simp [bkOk2, memK]) (fun hl54 => ?_)
            refine call_st (s4 := [(.arg 0, ⟨.box, 0, [.sc (.int .u32 a0_0), .sc (.int .i64 a0_1), .sc (.int .i64 a0_2), .sc (.int .i64 a0_3), .sc (.int .i64 a0_4), .sc (.int .i64 a0_5), .own 1 l0_6.length (encL c_i64 l0_6), .sc (.int .i64 a0_7), .sc (.int .i64 j45), .sc (.int .i64 j45), .sc (.int .i64 (IntKind.i64.wrap (a0_10 + 1))), .sc (.int .i64 a0_11), .sc (.bool a0_12)]⟩), (.tmp 2 0, ⟨.box, 0, [.sc (.int .i64 0), .own 3 (([] : List S68).length) (encL c68 ([] : List S68)), .own 1 (([] : List Int).length) (encL c_i64 ([] : List Int)), .sc (.int .i64 0), .sc (.int .i64 0)]⟩), (.tmp 3 0, ⟨.box, 0, [.sc (.int .i64 0), .own 3 0 (encL c68 ([] : List S68)), .own 1 0 (encL c_i64 ([] : List Int)), .sc (.int .i64 0), .sc (.int .i64 0)]⟩), (.tmp 130 0, ⟨.lst, 3, encL c68 t53⟩)]) (m1' := []) (m2' := []) (v' := .c (.ref (.tmp 130 0) [] 0 t53.length)) (Sto.mapN_killNil _ _) (mrgL_whole (new' := [.sc (.int .u32 a0_0), .sc (.int .i64 a0_1), .sc (.int .i64 a0_2), .sc (.int .i64 a0_3), .sc (.int .i64 a0_4), .sc (.int .i64 a0_5), .own 1 l0_6.length (encL c_i64 l0_6), .sc (.int .i64 a0_7), .sc (.int .i64 j45), .sc (.int .i64 j45), .sc (.int .i64 (IntKind.i64.wrap (a0_10 + 1))), .sc (.int .i64 a0_11), .sc (.bool a0_12)]) (mrgL_nil' _ _ _) rfl (by rfl) (.inl ⟨rfl, by first | rfl | simp only [reduceCtorEq, Nat.reduceEqDiff, ak, akF, Nat.zero_add, List.append_nil]⟩)) (by rfl) (mapT_killNil _ _) (by rfl) (by rfl) (by first | rfl | simp only [reduceCtorEq, Nat.reduceEqDiff, ak, akF, Nat.zero_add, List.append_nil]) ?_
            have g56 : (encL c68 t53).length = t53.length * 3 := by simp [encL_length c68_w]
            simp only [Nat.reduceEqDiff, Nat.reduceAdd, Nat.reduceMul, Nat.reduceLeDiff, Nat.reduceLT, Int.reduceLE, Int.reduceLT, Int.reduceGT, Int.reduceGE, Int.reduceEq, Int.reduceNe, Int.reduceToNat, reduceCtorEq, ak, g56]
            refine hJ52 _ ?_
            refine seq_k fun J57 hJ57 => ?_
            refine reg_k ?_
            simp only [Nat.reduceEqDiff, Nat.reduceAdd, Nat.reduceMul, Nat.reduceLeDiff, Nat.reduceLT, Int.reduceLE, Int.reduceLT, Int.reduceGT, Int.reduceGE, Int.reduceEq, Int.reduceNe, Int.reduceToNat, reduceCtorEq, ak]
            refine hJ57 _ ?_
            obtain rfl := Option.some.inj h
            refine hKr _ ⟨_, rfl, [⟨(.tmp 3 0), [1], none, .lst⟩, ⟨(.tmp 3 0), [2], none, .lst⟩], _, rfl, rfl, ?_⟩
            first | rfl | (simp only [reduceCtorEq, Nat.reduceEqDiff, ak, akF]; done) | (simp [reduceCtorEq, Nat.reduceEqDiff, ak, akF]; done)
/-! ### spec.l4Step: function 129 -/
def c129 : AC := .seq (.reg [.op none (.box 3 (.tmp 1)), .op none (.alloc 4 [.int .i64 0, .slice none 0 0, .slice none 0 0, .int .i64 0, .int .i64 0]), .gh, .keep [0, 3, 4]]) (.seq (.seq (.reg [.op none (.faddr 5 0 (.tmp 3)), .op none (.load 6 false 1 (.tmp 5)), .keep [0, 3, 4, 6]]) (.block 0 (.seq (.reg [.op none (.bin 8 .eql (.tmp 6) (.const (.int .i64 1))), .op none (.mv 7 (.tmp 8)), .keep [0, 3, 4, 6, 7]]) (.cond (.tmp 7) (.seq (.reg [.op none (.mv 9 (.tmp 0)), .op none (.faddr 10 1 (.tmp 3)), .op none (.load 11 false 1 (.tmp 10)), .call none (some 12) 151 [.tmp 9, .tmp 11], .op none (.store 5 (.tmp 4) (.tmp 12)), .keep [4]]) (.gh .ret)) (.seq (.reg [.op none (.bin 14 .eql (.tmp 6) (.const (.int .i64 2))), .op none (.mv 13 (.tmp 14)), .keep [0, 3, 4, 6, 13]]) (.cond (.tmp 13) (.seq (.reg [.op none (.mv 15 (.tmp 0)), .op none (.faddr 16 2 (.tmp 3)), .op none (.load 17 false 1 (.tmp 16)), .call none (some 18) 152 [.tmp 15, .tmp 17], .op none (.store 5 (.tmp 4) (.tmp 18)), .keep [4]]) (.gh .ret)) (.seq (.reg [.op none (.bin 20 .eql (.tmp 6) (.const (.int .i64 3))), .op none (.mv 19 (.tmp 20)), .keep [0, 4, 19]]) (.cond (.tmp 19) (.seq (.reg [.op none (.mv 21 (.tmp 0)), .call none (some 22) 153 [.tmp 21], .op none (.store 5 (.tmp 4) (.tmp 22)), .keep [4]]) (.gh .ret)) (.skip))))))))) (.seq (.reg [.op none (.build 23 [.int .i64 0, .slice none 0 0, .slice none 0 0, .int .i64 0, .int .i64 0] [(0, 1, .const (.int .i64 1))]), .gh, .op none (.store 5 (.tmp 4) (.tmp 23)), .keep [4]]) (.gh .ret)))
def r129 : List RV := [.cell 4 true 5]
theorem k129 : compC Try.prog 24 c129 (Try.f129.body.getD .skip) = some c129.erase := by kernel_rfl
theorem q129 : rvsOf Try.prog Try.f129.results.toList = some r129 := by kernel_rfl
def spec_l4Step.f (a0_0 : Int) (a0_1 : Int) (a0_2 : Int) (a0_3 : Int) (a0_4 : Int) (a0_5 : Int) (l0_6 : List Int) (a0_7 : Int) (a0_8 : Int) (a0_9 : Int) (a0_10 : Int) (a0_11 : Int) (a0_12 : Bool) (a1_0 : Int) (a1_1 : Int) (a1_2 : Int) : Option (Int × (List S68) × (List Int) × Int × Int × (List Int) × Int × Int × Int × Int × Int × Bool) := (if a1_0 = 1 then (spec_l4Send.f a0_0 a0_1 a0_2 a0_3 a0_4 a0_5 l0_6 a0_7 a0_8 a0_9 a0_10 a0_11 a0_12 a1_1 >>= fun t8 => (some (t8.1, t8.2.1, t8.2.2.1, t8.2.2.2.1, t8.2.2.2.2.1, t8.2.2.2.2.2.1, a0_7, t8.2.2.2.2.2.2, a0_9, a0_10, a0_11, a0_12))) else (if a1_0 = 2 then (spec_l4Ack.f a0_0 a0_1 a0_2 a0_3 a0_4 a0_5 l0_6 a0_7 a0_8 a0_9 a0_10 a0_11 a0_12 a1_2 >>= fun t16 => (some (t16.1, t16.2.1, t16.2.2.1, t16.2.2.2.1, t16.2.2.2.2.1, l0_6, t16.2.2.2.2.2.1, t16.2.2.2.2.2.2.1, t16.2.2.2.2.2.2.2.1, t16.2.2.2.2.2.2.2.2.1, t16.2.2.2.2.2.2.2.2.2.1, t16.2.2.2.2.2.2.2.2.2.2))) else (if a1_0 = 3 then (spec_l4Tick.f a0_0 a0_1 a0_2 a0_3 a0_4 a0_5 l0_6 a0_7 a0_8 a0_9 a0_10 a0_11 a0_12 >>= fun t24 => (some (t24.1, t24.2.1, t24.2.2.1, t24.2.2.2.1, t24.2.2.2.2.1, l0_6, a0_7, t24.2.2.2.2.2.1, t24.2.2.2.2.2.2.1, t24.2.2.2.2.2.2.2.1, t24.2.2.2.2.2.2.2.2.1, t24.2.2.2.2.2.2.2.2.2))) else (some (1, ([] : List S68), ([] : List Int), 0, 0, l0_6, a0_7, a0_8, a0_9, a0_10, a0_11, a0_12)))))
set_option maxRecDepth 100000 in
set_option maxHeartbeats 4000000 in
theorem spec_l4Step.tri (a0_0 : Int) (a0_1 : Int) (a0_2 : Int) (a0_3 : Int) (a0_4 : Int) (a0_5 : Int) (l0_6 : List Int) (a0_7 : Int) (a0_8 : Int) (a0_9 : Int) (a0_10 : Int) (a0_11 : Int) (a0_12 : Bool) (a1_0 : Int) (a1_1 : Int) (a1_2 : Int) (r : Int × (List S68) × (List Int) × Int × Int × (List Int) × Int × Int × Int × Int × Int × Bool) (h : spec_l4Step.f a0_0 a0_1 a0_2 a0_3 a0_4 a0_5 l0_6 a0_7 a0_8 a0_9 a0_10 a0_11 a0_12 a1_0 a1_1 a1_2 = some r) : Tri Try.prog 129 [.c (.ptr (.arg 0) [] 0), .g [.sc (.int .i64 a1_0), .sc (.int .i64 a1_1), .sc (.int .u32 a1_2)]] [(.arg 0, ⟨.box, 0, [.sc (.int .u32 a0_0), .sc (.int .i64 a0_1), .sc (.int .i64 a0_2), .sc (.int .i64 a0_3), .sc (.int .i64 a0_4), .sc (.int .i64 a0_5), .own 1 l0_6.length (encL c_i64 l0_6), .sc (.int .i64 a0_7), .sc (.int .i64 a0_8), .sc (.int .i64 a0_9), .sc (.int .i64 a0_10), .sc (.int .i64 a0_11), .sc (.bool a0_12)]⟩)] (fun o => o = ⟨.g [.sc (.int .i64 r.1), .ref (.res 0) [] 0 r.2.1.length, .ref (.res 1) [] 0 r.2.2.1.length, .sc (.int .i64 r.2.2.2.1), .sc (.int .i64 r.2.2.2.2.1)], [(.arg 0, ⟨.box, 0, [.sc (.int .u32 a0_0), .sc (.int .i64 a0_1), .sc (.int .i64 a0_2), .sc (.int .i64 a0_3), .sc (.int .i64 a0_4), .sc (.int .i64 a0_5), .own 1 r.2.2.2.2.2.1.length (encL c_i64 r.2.2.2.2.2.1), .sc (.int .i64 r.2.2.2.2.2.2.1), .sc (.int .i64 r.2.2.2.2.2.2.2.1), .sc (.int .i64 r.2.2.2.2.2.2.2.2.1), .sc (.int .i64 r.2.2.2.2.2.2.2.2.2.1), .sc (.int .i64 r.2.2.2.2.2.2.2.2.2.2.1), .sc (.bool r.2.2.2.2.2.2.2.2.2.2.2)]⟩), (.res 0, ⟨.lst, 3, encL c68 r.2.1⟩), (.res 1, ⟨.lst, 1, encL c_i64 r.2.2.1⟩)], [0], []⟩) := by
  refine tri_of_body (ac := c129) (xs := r129) Try.func129 (show Try.f129.body = some (Try.f129.body.getD .skip) from rfl) k129 q129 (Nat.le_of_ble_eq_true rfl) ?_
  refine body_of fun K hKn hKr => ?_
  unfold spec_l4Step.f at h
  unfold c129
  simp only [initT, Nat.reduceAdd]
  refine seq_k fun J1 hJ1 => ?_
  refine reg_k ?_
  simp only [Nat.reduceEqDiff, Nat.reduceAdd, Nat.reduceMul, Nat.reduceLeDiff, Nat.reduceLT, Int.reduceLE, Int.reduceLT, Int.reduceGT, Int.reduceGE, Int.reduceEq, Int.reduceNe, Int.reduceToNat, reduceCtorEq, ak]
  refine gho_k (Weak.own (.tmp 4 0) (cs' := [.sc (.int .i64 0), .own 3 (([] : List S68).length) (encL c68 ([] : List S68)), .own 1 (([] : List Int).length) (encL c_i64 ([] : List Int)), .sc (.int .i64 0), .sc (.int .i64 0)]) rfl ⟨.inl rfl, .inr ⟨rfl, _, rfl⟩, .inr ⟨rfl, _, rfl⟩, .inl rfl, .inl rfl, trivial⟩) ?_
  simp only [Nat.reduceEqDiff, Nat.reduceAdd, Nat.reduceMul, Nat.reduceLeDiff, Nat.reduceLT, Int.reduceLE, Int.reduceLT, Int.reduceGT, Int.reduceGE, Int.reduceEq, Int.reduceNe, Int.reduceToNat, reduceCtorEq, ak]
  refine hJ1 _ ?_
  refine seq_k fun J2 hJ2 => ?_
  refine seq_k fun J3 hJ3 => ?_
  refine reg_k ?_
  simp only [Nat.reduceEqDiff, Nat.reduceAdd, Nat.reduceMul, Nat.reduceLeDiff, Nat.reduceLT, Int.reduceLE, Int.reduceLT, Int.reduceGT, Int.reduceGE, Int.reduceEq, Int.reduceNe, Int.reduceToNat, reduceCtorEq, ak]
  refine hJ3 _ ?_
  refine block_k fun B4 B4n B4x B4r B4j => ?_
  refine seq_k fun J5 hJ5 => ?_
  refine reg_k ?_
  simp only [Nat.reduceEqDiff, Nat.reduceAdd, Nat.reduceMul, Nat.reduceLeDiff, Nat.reduceLT, Int.reduceLE, Int.reduceLT, Int.reduceGT, Int.reduceGE, Int.reduceEq, Int.reduceNe, Int.reduceToNat, reduceCtorEq, ak]
  refine hJ5 _ ?_
  refine cond_k (b := decide (a1_0 = 1)) rfl (fun c6 => ?_) (fun c6 => ?_)
  · replace c6 := of_decide_eq_true c6; rw [if_pos c6] at h
    refine seq_k fun J7 hJ7 => ?_
    refine reg_k ?_
    simp only [Nat.reduceEqDiff, Nat.reduceAdd, Nat.reduceMul, Nat.reduceLeDiff, Nat.reduceLT, Int.reduceLE, Int.reduceLT, Int.reduceGT, Int.reduceGE, Int.reduceEq, Int.reduceNe, Int.reduceToNat, reduceCtorEq, ak]
    obtain ⟨t8, h9, h⟩ := of_bind h
    refine call_m [(.arg 0, ⟨(.arg 0), [], none, .box⟩)] (s0 := [(.arg 0, ⟨.box, 0, [.sc (.int .u32 a0_0), .sc (.int .i64 a0_1), .sc (.int .i64 a0_2), .sc (.int .i64 a0_3), .sc (.int .i64 a0_4), .sc (.int .i64 a0_5), .own 1 l0_6.length (encL c_i64 l0_6), .sc (.int .i64 a0_7), .sc (.int .i64 a0_8), .sc (.int .i64 a0_9), .sc (.int .i64 a0_10), .sc (.int .i64 a0_11), .sc (.bool a0_12)]⟩)]) (by intro t ht; cases ht; decide) rfl rfl (by first | rfl | simp only [reduceCtorEq, Nat.reduceEqDiff, ak, akF]) (spec_l4Send.tri a0_0 a0_1 a0_2 a0_3 a0_4 a0_5 l0_6 a0_7 a0_8 a0_9 a0_10 a0_11 a0_12 a1_1 _ h9) (by first | rfl | simp only [reduceCtorEq, Nat.reduceEqDiff, ak, akF]) (by simp [bkOk2, memK]) (fun hl9 => ?_)
    refine call_st (s2 := [(.arg 0, ⟨.box, 0, [.sc (.int .u32 a0_0), .sc (.int .i64 a0_1), .sc (.int .i64 a0_2), .sc (.int .i64 a0_3), .sc (.int .i64 a0_4), .sc (.int .i64 a0_5), .own 1 l0_6.length (encL c_i64 l0_6), .sc (.int .i64 a0_7), .sc (.int .i64 a0_8), .sc (.int .i64 a0_9), .sc (.int .i64 a0_10), .sc (.int .i64 a0_11), .sc (.bool a0_12)]⟩), (.tmp 3 0, ⟨.box, 0, [.sc (.int .i64 a1_0), .sc (.int .i64 a1_1), .sc (.int .u32 a1_2)]⟩), (.tmp 4 0, ⟨.box, 0, [.sc (.int .i64 0), .own 3 (([] : List S68).length) (encL c68 ([] : List S68)), .own 1 (([] : List Int).length) (encL c_i64 ([] : List Int)), .sc (.int .i64 0), .sc (.int .i64 0)]⟩)]) (s4 := [(.arg 0, ⟨.box, 0, [.sc (.int .u32 a0_0), .sc (.int .i64 a0_1), .sc (.int .i64 a0_2), .sc (.int .i64 a0_3), .sc (.int .i64 a0_4), .sc (.int .i64 a0_5), .own 1 t8.2.2.2.2.2.1.length (encL c_i64 t8.2.2.2.2.2.1), .sc (.int .i64 a0_7), .sc (.int .i64 t8.2.2.2.2.2.2), .sc (.int .i64 a0_9), .sc (.int .i64 a0_10), .sc (.int .i64 a0_11), .sc (.bool a0_12)]⟩), (.tmp 3 0, ⟨.box, 0, [.sc (.int .i64 a1_0), .sc (.int .i64 a1_1), .sc (.int .u32 a1_2)]⟩), (.tmp 4 0, ⟨.box, 0, [.sc (.int .i64 0), .own 3 (([] : List S68).length) (encL c68 ([] : List S68)), .own 1 (([] : List Int).length) (encL c_i64 ([] : List Int)), .sc (.int .i64 0), .sc (.int .i64 0)]⟩), (.tmp 12 1, ⟨.lst, 1, encL c_i64 t8.2.2.1⟩), (.tmp 12 0, ⟨.lst, 3, encL c68 t8.2.1⟩)]) (t' := [(0, .c (.ptr (.arg 0) [] 0)), (3, .c (.ptr (.tmp 3 0) [] 0)), (4, .c (.ptr (.tmp 4 0) [] 0)), (6, .c (.sc (.int .i64 a1_0))), (7, .c (.sc (.bool (decide (a1_0 = 1))))), (9, .c (.ptr (.arg 0) [] 0)), (10, .c (.ptr (.tmp 3 0) [] 1)), (11, .c (.sc (.int .i64 a1_1)))]) (m1' := [0]) (m2' := []) (v' := .g [.sc (.int .i64 t8.1), .ref (.tmp 12 0) [] 0 t8.2.1.length, .ref (.tmp 12 1) [] 0 t8.2.2.1.length, .sc (.int .i64 t8.2.2.2.1), .sc (.int .i64 t8.2.2.2.2.1)]) (by first | rfl | simp only [reduceCtorEq, Nat.reduceEqDiff, ak, akF, List.contains_nil, List.contains_cons, Nat.reduceBEq]) (mrgL_whole (new' := [.sc (.int .u32 a0_0), .sc (.int .i64 a0_1), .sc (.int .i64 a0_2), .sc (.int .i64 a0_3), .sc (.int .i64 a0_4), .sc (.int .i64 a0_5), .own 1 t8.2.2.2.2.2.1.length (encL c_i64 t8.2.2.2.2.2.1), .sc (.int .i64 a0_7), .sc (.int .i64 t8.2.2.2.2.2.2), .sc (.int .i64 a0_9), .sc (.int .i64 a0_10), .sc (.int .i64 a0_11), .sc (.bool a0_12)]) (mrgL_nil' _ _ _) rfl (by rfl) (.inl ⟨rfl, by first | rfl | simp only [reduceCtorEq, Nat.reduceEqDiff, ak, akF, Nat.zero_add, List.append_nil]⟩)) (by rfl) (by first | rfl | simp only [reduceCtorEq, Nat.reduceEqDiff, ak, akF, List.contains_nil, List.contains_cons, Nat.reduceBEq]) (by rfl) (by rfl) (by first | rfl | simp only [reduceCtorEq, Nat.reduceEqDiff, ak, akF, Nat.zero_add, List.append_nil]) ?_
    have g11 : (encL c68 t8.2.1).length = t8.2.1.length * 3 := by simp [encL_length c68_w]
    have g12 : (encL c_i64 t8.2.2.1).length = t8.2.2.1.length * 1 := by simp [encL_length c_i64_w]
    simp only [Nat.reduceEqDiff, Nat.reduceAdd, Nat.reduceMul, Nat.reduceLeDiff, Nat.reduceLT, Int.reduceLE, Int.reduceLT, Int.reduceGT, Int.reduceGE, Int.reduceEq, Int.reduceNe, Int.reduceToNat, reduceCtorEq, ak, g11, g12]
    refine hJ7 _ ?_
    refine gh_k (Weak.mark [0] [] (by simp) (by simp)) ?_
    refine B4r _ ?_
    obtain rfl := Option.some.inj h
    refine hKr _ ⟨_, rfl, [⟨(.tmp 4 0), [1], none, .lst⟩, ⟨(.tmp 4 0), [2], none, .lst⟩], _, rfl, rfl, ?_⟩
    first | rfl | (simp only [reduceCtorEq, Nat.reduceEqDiff, ak, akF]; done) | (simp [reduceCtorEq, Nat.reduceEqDiff, ak, akF]; done)
  · replace c6 := of_decide_eq_false c6; rw [if_neg c6] at h
    refine seq_k fun J13 hJ13 => ?_
    refine reg_k ?_
    simp only [Nat.reduceEqDiff, Nat.reduceAdd, Nat.reduceMul, Nat.reduceLeDiff, Nat.reduceLT, Int.reduceLE, Int.reduceLT, Int.reduceGT, Int.reduceGE, Int.reduceEq, Int.reduceNe, Int.reduceToNat, reduceCtorEq, ak]
    refine hJ13 _ ?_
    refine cond_k (b := decide (a1_0 = 2)) rfl (fun c14 => ?_) (fun c14 => ?_)
    · replace c14 := of_decide_eq_true c14; rw [if_pos c14] at h
      refine seq_k fun J15 hJ15 => ?_
      refine reg_k ?_
      simp only [Nat.reduceEqDiff, Nat.reduceAdd, Nat.reduceMul, Nat.reduceLeDiff, Nat.reduceLT, Int.reduceLE, Int.reduceLT, Int.reduceGT, Int.reduceGE, Int.reduceEq, Int.reduceNe, Int.reduceToNat, reduceCtorEq, ak]
      obtain ⟨t16, h17, h⟩ := of_bind h
      refine call_m [(.arg 0, ⟨(.arg 0), [], none, .box⟩)] (s0 := [(.arg 0, ⟨.box, 0, [.sc (.int .u32 a0_0), .sc (.int .i64 a0_1), .sc (.int .i64 a0_2), .sc (.int .i64 a0_3), .sc (.int .i64 a0_4), .sc (.int .i64 a0_5), .own 1 l0_6.length (encL c_i64 l0_6), .sc (.int .i64 a0_7), .sc (.int .i64 a0_8), .sc (.int .i64 a0_9), .sc (.int .i64 a0_10), .sc (.int .i64 a0_11), .sc (.bool a0_12)]⟩)]) (by intro t ht; cases ht; decide) rfl rfl (by first | rfl | simp only [reduceCtorEq, Nat.reduceEqDiff, ak, akF]) (spec_l4Ack.tri a0_0 a0_1 a0_2 a0_3 a0_4 a0_5 l0_6 a0_7 a0_8 a0_9 a0_10 a0_11 a0_12 a1_2 _ h17) (by first | rfl | simp only [reduceCtorEq, Nat.reduceEqDiff, ak, akF]) (by simp [bkOk2, memK]) (fun hl17 => ?_)
      refine call_st (s4 := [(.arg 0, ⟨.box, 0, [.sc (.int .u32 a0_0), .sc (.int .i64 a0_1), .sc (.int .i64 a0_2), .sc (.int .i64 a0_3), .sc (.int .i64 a0_4), .sc (.int .i64 a0_5), .own 1 l0_6.length (encL c_i64 l0_6), .sc (.int .i64 t16.2.2.2.2.2.1), .sc (.int .i64 t16.2.2.2.2.2.2.1), .sc (.int .i64 t16.2.2.2.2.2.2.2.1), .sc (.int .i64 t16.2.2.2.2.2.2.2.2.1), .sc (.int .i64 t16.2.2.2.2.2.2.2.2.2.1), .sc (.bool t16.2.2.2.2.2.2.2.2.2.2)]⟩), (.tmp 3 0, ⟨.box, 0, [.sc (.int .i64 a1_0), .sc (.int .i64 a1_1), .sc (.int .u32 a1_2)]⟩), (.tmp 4 0, ⟨.box, 0, [.sc (.int .i64 0), .own 3 (([] : List S68).length) (encL c68 ([] : List S68)), .own 1 (([] : List Int).length) (encL c_i64 ([] : List Int)), .sc (.int .i64 0), .sc (.int .i64 0)]⟩), (.tmp 18 1, ⟨.lst, 1, encL c_i64 t16.2.2.1⟩), (.tmp 18 0, ⟨.lst, 3, encL c68 t16.2.1⟩)]) (m1' := []) (m2' := []) (v' := .g [.sc (.int .i64 t16.1), .ref (.tmp 18 0) [] 0 t16.2.1.length, .ref (.tmp 18 1) [] 0 t16.2.2.1.length, .sc (.int .i64 t16.2.2.2.1), .sc (.int .i64 t16.2.2.2.2.1)]) (Sto.mapN_killNil _ _) (mrgL_whole (new' := [.sc (.int .u32 a0_0), .sc (.int .i64 a0_1), .sc (.int .i64 a0_2), .sc (.int .i64 a0_3), .sc (.int .i64 a0_4), .sc (.int .i64 a0_5), .own 1 l0_6.length (encL c_i64 l0_6), .sc (.int .i64 t16.2.2.2.2.2.1), .sc (.int .i64 t16.2.2.2.2.2.2.1), .sc (.int .i64 t16.2.2.2.2.2.2.2.1), .sc (.int .i64 t16.2.2.2.2.2.2.2.2.1), .sc (.int .i64 t16.2.2.2.2.2.2.2.2.2.1), .sc (.bool t16.2.2.2.2.2.2.2.2.2.2)]) (mrgL_nil' _ _ _) rfl (by rfl) (.inl ⟨rfl, by first | rfl | simp only [reduceCtorEq, Nat.reduceEqDiff, ak, akF, Nat.zero_add, List.append_nil]⟩)) (by rfl) (mapT_killNil _ _) (by rfl) (by rfl) (by first | rfl | simp only [reduceCtorEq, Nat.reduceEqDiff, ak, akF, Nat.zero_add, List.append_nil]) ?_
      have g19 : (encL c68 t16.2.1).length = t16.2.1.length * 3 := by simp [encL_length c68_w]
      have g20 : (encL c_i64 t16.2.2.1).length = t16.2.2.1.length * 1 := by simp [encL_length c_i64_w]
      simp only [Nat.reduceEqDiff, Nat.reduceAdd, Nat.reduceMul, Nat.reduceLeDiff, Nat.reduceLT, Int.reduceLE, Int.reduceLT, Int.reduceGT, Int.reduceGE, Int.reduceEq, Int.reduceNe, Int.reduceToNat, reduceCtorEq, ak, g19, g20]
      refine hJ15 _ ?_
      refine gh_k (Weak.mark [0] [] (by simp) (by simp)) ?_
      refine B4r _ ?_
      obtain rfl := Option.some.inj h
      refine hKr _ ⟨_, rfl, [⟨(.tmp 4 0), [1], none, .lst⟩, ⟨(.tmp 4 0), [2], none, .lst⟩], _, rfl, rfl, ?_⟩
      first | rfl | (simp only [reduceCtorEq, Nat.reduceEqDiff, ak, akF]; done) | (simp [reduceCtorEq, Nat.reduceEqDiff, ak, akF]; done)
    · replace c14 := of_decide_eq_false c14; rw [if_neg c14] at h
      refine seq_k fun J21 hJ21 => ?_
      refine reg_k ?_
      simp only [Nat.reduceEqDiff, Nat.reduceAdd, Nat.reduceMul, Nat.reduceLeDiff, Nat.reduceLT, Int.reduceLE, Int.reduceLT, Int.reduceGT, Int.reduceGE, Int.reduceEq, Int.reduceNe, Int.reduceToNat, reduceCtorEq, ak]
      refine hJ21 _ ?_
      refine cond_k (b := decide (a1_0 = 3)) rfl (fun c22 => ?_) (fun c22 => ?_)
      · replace c22 := of_decide_eq_true c22; rw [if_pos c22] at h
        refine seq_k fun J23 hJ23 => ?_
        refine reg_k ?_
        simp only [Nat.reduceEqDiff, Nat.reduceAdd, Nat.reduceMul, Nat.reduceLeDiff, Nat.reduceLT, Int.reduceLE, Int.reduceLT, Int.reduceGT, Int.reduceGE, Int.reduceEq, Int.reduceNe, Int.reduceToNat, reduceCtorEq, ak]
        obtain ⟨t24, h25, h⟩ := of_bind h
        refine call_m [(.arg 0, ⟨(.arg 0), [], none, .box⟩)] (s0 := [(.arg 0, ⟨.box, 0, [.sc (.int .u32 a0_0), .sc (.int .i64 a0_1), .sc (.int .i64 a0_2), .sc (.int .i64 a0_3), .sc (.int .i64 a0_4), .sc (.int .i64 a0_5), .own 1 l0_6.length (encL c_i64 l0_6), .sc (.int .i64 a0_7), .sc (.int .i64 a0_8), .sc (.int .i64 a0_9), .sc (.int .i64 a0_10), .sc (.int .i64 a0_11), .sc (.bool a0_12)]⟩)]) (by intro t ht; cases ht; decide) rfl rfl (by first | rfl | simp only [reduceCtorEq, Nat.reduceEqDiff, ak, akF]) (spec_l4Tick.tri a0_0 a0_1 a0_2 a0_3 a0_4 a0_5 l0_6 a0_7 a0_8 a0_9 a0_10 a0_11 a0_12 _ h25) (by first | rfl | simp only [reduceCtorEq, Nat.reduceEqDiff, ak, akF]) (by simp [bkOk2, memK]) (fun hl25 => ?_)
        refine call_st (s4 := [(.arg 0, ⟨.box, 0, [.sc (.int .u32 a0_0), .sc (.int .i64 a0_1), .sc (.int .i64 a0_2), .sc (.int .i64 a0_3), .sc (.int .i64 a0_4), .sc (.int .i64 a0_5), .own 1 l0_6.length (encL c_i64 l0_6), .sc (.int .i64 a0_7), .sc (.int .i64 t24.2.2.2.2.2.1), .sc (.int .i64 t24.2.2.2.2.2.2.1), .sc (.int .i64 t24.2.2.2.2.2.2.2.1), .sc (.int .i64 t24.2.2.2.2.2.2.2.2.1), .sc (.bool t24.2.2.2.2.2.2.2.2.2)]⟩), (.tmp 3 0, ⟨.box, 0, [.sc (.int .i64 a1_0), .sc (.int .i64 a1_1), .sc (.int .u32 a1_2)]⟩), (.tmp 4 0, ⟨.box, 0, [.sc (.int .i64 0), .own 3 (([] : List S68).length) (encL c68 ([] : List S68)), .own 1 (([] : List Int).length) (encL c_i64 ([] : List Int)), .sc (.int .i64 0), .sc (.int .i64 0)]⟩), (.tmp 22 1, ⟨.lst, 1, encL c_i64 t24.2.2.1⟩), (.tmp 22 0, ⟨.lst, 3, encL c68 t24.2.1⟩)]) (m1' := []) (m2' := []) (v' := .g [.sc (.int .i64 t24.1), .ref (.tmp 22 0) [] 0 t24.2.1.length, .ref (.tmp 22 1) [] 0 t24.2.2.1.length, .sc (.int .i64 t24.2.2.2.1), .sc (.int .i64 t24.2.2.2.2.1)]) (Sto.mapN_killNil _ _) (mrgL_whole (new' := [.sc (.int .u32 a0_0), .sc (.int .i64 a0_1), .sc (.int .i64 a0_2), .sc (.int .i64 a0_3), .sc (.int .i64 a0_4), .sc (.int .i64 a0_5), .own 1 l0_6.length (encL c_i64 l0_6), .sc (.int .i64 a0_7), .sc (.int .i64 t24.2.2.2.2.2.1), .sc (.int .i64 t24.2.2.2.2.2.2.1), .sc (.int .i64 t24.2.2.2.2.2.2.2.1), .sc (.int .i64 t24.2.2.2.2.2.2.2.2.1), .sc (.bool t24.2.2.2.2.2.2.2.2.2)]) (mrgL_nil' _ _ _) rfl (by rfl) (.inl ⟨rfl, by first | rfl | simp only [reduceCtorEq, Nat.reduceEqDiff, ak, akF, Nat.zero_add, List.append_nil]⟩)) (by rfl) (mapT_killNil _ _) (by rfl) (by rfl) (by first | rfl | simp only [reduceCtorEq, Nat.reduceEqDiff, ak, akF, Nat.zero_add, List.append_nil]) ?_
        have g27 : (encL c68 t24.2.1).length = t24.2.1.length * 3 := by simp [encL_length c68_w]
        have g28 : (encL c_i64 t24.2.2.1).length = t24.2.2.1.length * 1 := by simp [encL_length c_i64_w]
        simp only [Nat.reduceEqDiff, Nat.reduceAdd, Nat.reduceMul, Nat.reduceLeDiff, Nat.reduceLT, Int.reduceLE, Int.reduceLT, Int.reduceGT, Int.reduceGE, Int.reduceEq, Int.reduceNe, Int.reduceToNat, reduceCtorEq, ak, g27, g28]
        refine hJ23 _ ?_
        refine gh_k (Weak.mark [0] [] (by simp) (by simp)) ?_
        refine B4r _ ?_
        obtain rfl := Option.some.inj h
        refine hKr _ ⟨_, rfl, [⟨(.tmp 4 0), [1], none, .lst⟩, ⟨(.tmp 4 0), [2], none, .lst⟩], _, rfl, rfl, ?_⟩
        first | rfl | (simp only [reduceCtorEq, Nat.reduceEqDiff, ak, akF]; done) | (simp [reduceCtorEq, Nat.reduceEqDiff, ak, akF]; done)
      · replace c22 := of_decide_eq_false c22; rw [if_neg c22] at h
        refine B4n _ ?_
        refine hJ2 _ ?_
        refine seq_k fun J29 hJ29 => ?_
        refine reg_k ?_
        simp only [Nat.reduceEqDiff, Nat.reduceAdd, Nat.reduceMul, Nat.reduceLeDiff, Nat.reduceLT, Int.reduceLE, Int.reduceLT, Int.reduceGT, Int.reduceGE, Int.reduceEq, Int.reduceNe, Int.reduceToNat, reduceCtorEq, ak]
        refine gho_k ((Weak.nmg' 23 1 (.tmp 23 21) 3 (encL c68 ([] : List S68)) rfl rfl rfl rfl).trans (Weak.nmg' 23 2 (.tmp 23 22) 1 (encL c_i64 ([] : List Int)) rfl rfl rfl rfl)) ?_
        have g30 : (encL c68 ([] : List S68)).length = 0 * 3 := by simp [encL_length c68_w]
        have g31 : (encL c_i64 ([] : List Int)).length = 0 * 1 := by simp [encL_length c_i64_w]
        simp only [Nat.reduceEqDiff, Nat.reduceAdd, Nat.reduceMul, Nat.reduceLeDiff, Nat.reduceLT, Int.reduceLE, Int.reduceLT, Int.reduceGT, Int.reduceGE, Int.reduceEq, Int.reduceNe, Int.reduceToNat, reduceCtorEq, ak, g30, g31]
        refine hJ29 _ ?_
        refine gh_k (Weak.mark [0] [] (by simp) (by simp)) ?_
        obtain rfl := Option.some.inj h
        refine hKr _ ⟨_, rfl, [⟨(.tmp 4 0), [1], none, .lst⟩, ⟨(.tmp 4 0), [2], none, .lst⟩], _, rfl, rfl, ?_⟩
        first | rfl | (simp only [reduceCtorEq, Nat.reduceEqDiff, ak, akF]; done) | (simp [reduceCtorEq, Nat.reduceEqDiff, ak, akF]; done)
end Go.AK
