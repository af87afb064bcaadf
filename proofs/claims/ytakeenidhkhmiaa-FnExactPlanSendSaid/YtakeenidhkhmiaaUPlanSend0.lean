-- by a program of this session (wip/ak/pw.py)
import Derived.Test.YtakeenidhkhmiaaAk2
import Derived.KernelRfl
import Derived.Test.YtakeenidhkhmiaaChecked
set_option synthInstance.maxSize 20000
set_option synthInstance.maxHeartbeats 400000
set_option maxRecDepth 100000
set_option maxHeartbeats 4000000
set_option linter.unusedVariables false
set_option linter.unusedSimpArgs false
namespace Go.AK
open Go Go.Proofs
def c_i64 (x : Int) : List Cell := [.sc (.int .i64 x)]
theorem c_i64_w (x : Int) : (c_i64 x).length = 1 := rfl
structure S117 where
 f0 : Int
 f1 : Int
 f2 : Int
def z117 : S117 := ⟨0, 0, 0⟩
theorem S117.eta (x : S117) : (⟨x.f0, x.f1, x.f2⟩ : S117) = x := rfl
def c117 (x : S117) : List Cell := [.sc (.int .i64 x.f0), .sc (.int .i64 x.f1), .sc (.int .i64 x.f2)]
theorem c117_w (x : S117) : (c117 x).length = 3 := rfl
structure S109 where
 f0 : Int
 f1 : Int
 f2 : Int
 f3 : Int
 f4 : Int
def z109 : S109 := ⟨0, 0, 0, 0, 0⟩
theorem S109.eta (x : S109) : (⟨x.f0, x.f1, x.f2, x.f3, x.f4⟩ : S109) = x := rfl
def c109 (x : S109) : List Cell := [.sc (.int .u64 x.f0), .sc (.int .i64 x.f1), .sc (.int .i64 x.f2), .sc (.int .i64 x.f3), .sc (.int .i64 x.f4)]
theorem c109_w (x : S109) : (c109 x).length = 5 := rfl
structure S86 where
 f0 : Int
 f1 : Int
 f2 : Int
def z86 : S86 := ⟨0, 0, 0⟩
theorem S86.eta (x : S86) : (⟨x.f0, x.f1, x.f2⟩ : S86) = x := rfl
def c86 (x : S86) : List Cell := [.sc (.int .i64 x.f0), .sc (.int .i64 x.f1), .sc (.int .i64 x.f2)]
theorem c86_w (x : S86) : (c86 x).length = 3 := rfl
structure S84 where
 f0 : Int
 f1 : Int
 f2 : Int
 f3 : Int
 f4 : Int
def z84 : S84 := ⟨0, 0, 0, 0, 0⟩
theorem S84.eta (x : S84) : (⟨x.f0, x.f1, x.f2, x.f3, x.f4⟩ : S84) = x := rfl
def c84 (x : S84) : List Cell := [.sc (.int .u64 x.f0), .sc (.int .i64 x.f1), .sc (.int .i64 x.f2), .sc (.int .i64 x.f3), .sc (.int .i64 x.f4)]
theorem c84_w (x : S84) : (c84 x).length = 5 := rfl
/-! ### laws.szInt64S: function 85 -/
def C85 : AC := .seq (.reg [.op none (.mv 4 (.const (.int .i64 0))), .keep [0, 1]]) (.seq (.reg [.op none (.mv 5 (.tmp 1)), .op none (.mv 6 (.tmp 0)), .op none (.len 7 (.tmp 6)), .op none (.bin 8 .sub (.tmp 5) (.tmp 7)), .op none (.mv 1 (.tmp 8)), .keep [1]]) (.seq (.seq (.reg [.op none (.mv 9 (.tmp 1)), .op none (.bin 10 .lss (.tmp 9) (.const (.int .i64 0))), .keep [1, 10]]) (.cond (.tmp 10) (.seq (.reg [.op none (.mv 4 (.const (.int .i64 (-1)))), .keep [4]]) (.ret)) (.skip))) (.seq (.reg [.op none (.mv 11 (.tmp 1)), .op none (.mv 4 (.tmp 11)), .keep [4]]) (.ret))))
def r85 : List RV := [.tmp 4]
theorem k85 : compC Try.prog 12 C85 (Try.f85.body.getD .skip) = some C85.erase := by kernel_rfl
theorem q85 : rvsOf Try.prog Try.f85.results.toList = some r85 := by kernel_rfl
def laws_szInt64S.f (l0 : List Int) (a1 : Int) : Option Int := (if IntKind.i64.wrap (a1 - (l0.length : Int)) < 0 then (some (-1)) else (some (IntKind.i64.wrap (a1 - (l0.length : Int)))))
theorem laws_szInt64S.tri (cs0 : List Cell) (o0 : Nat) (l0 : List Int) (hv0 : Vw c_i64 1 cs0 o0 l0) (a1 : Int) (r : Int) (h : laws_szInt64S.f l0 a1 = some r) : Tri Try.prog 85 [.c (.ref (.arg 0) [] o0 l0.length), .c (.sc (.int .i64 a1))] [(.arg 0, ⟨.fz, 1, cs0⟩)] (fun o => o = ⟨.c (.sc (.int .i64 r)), [(.arg 0, ⟨.fz, 1, cs0⟩)], [], []⟩) := by
 refine tri_of_body (ac := C85) (xs := r85) Try.func85 (show Try.f85.body = some (Try.f85.body.getD .skip) from rfl) k85 q85 (Nat.le_of_ble_eq_true rfl) ?_
 refine body_of fun K hKn hKr => ?_
 unfold laws_szInt64S.f at h
 unfold C85
 simp only [initT, Nat.reduceAdd]
 refine sr_k fun J1 hJ1 => ?_
 simp +decide only [Nat.reduceAdd, Nat.reduceMul, Int.reduceToNat, ak]
 refine hJ1 _ ?_
 refine sr_k fun J2 hJ2 => ?_
 simp +decide only [Nat.reduceAdd, Nat.reduceMul, Int.reduceToNat, ak]
 refine hJ2 _ ?_
 refine seq_k fun J3 hJ3 => ?_
 refine sr_k fun J4 hJ4 => ?_
 simp +decide only [Nat.reduceAdd, Nat.reduceMul, Int.reduceToNat, ak]
 refine hJ4 _ ?_
 refine cond_k (b := decide (IntKind.i64.wrap (a1 - (l0.length : Int)) < 0)) rfl (fun c5 => ?_) (fun c5 => ?_)
 ·replace c5 := of_decide_eq_true c5; rw [if_pos c5] at h
  refine sr_k fun J6 hJ6 => ?_
  simp +decide only [Nat.reduceAdd, Nat.reduceMul, Int.reduceToNat, ak]
  refine hJ6 _ ?_
  obtain rfl := Option.some.inj h
  refine hKr _ ⟨_, rfl, [], _, rfl, rfl, ?_⟩
  first | rfl | (simp only [reduceCtorEq, Nat.reduceEqDiff, ak, akF]; done) | (simp [reduceCtorEq, Nat.reduceEqDiff, ak, akF] <;> omega)
 ·replace c5 := of_decide_eq_false c5; rw [if_neg c5] at h
  refine hJ3 _ ?_
  refine sr_k fun J7 hJ7 => ?_
  simp +decide only [Nat.reduceAdd, Nat.reduceMul, Int.reduceToNat, ak]
  refine hJ7 _ ?_
  obtain rfl := Option.some.inj h
  refine hKr _ ⟨_, rfl, [], _, rfl, rfl, ?_⟩
  first | rfl | (simp only [reduceCtorEq, Nat.reduceEqDiff, ak, akF]; done) | (simp [reduceCtorEq, Nat.reduceEqDiff, ak, akF] <;> omega)
/-! ### laws.szPathViewS: function 36 -/
def C36 : AC := .seq (.reg [.op none (.mv 4 (.const (.int .i64 0))), .keep [0, 1]]) (.seq (.reg [.op none (.mv 5 (.tmp 1)), .op none (.mv 6 (.tmp 0)), .op none (.len 7 (.tmp 6)), .op none (.bin 8 .sub (.tmp 5) (.tmp 7)), .op none (.mv 1 (.tmp 8)), .keep [1]]) (.seq (.seq (.reg [.op none (.mv 9 (.tmp 1)), .op none (.bin 10 .lss (.tmp 9) (.const (.int .i64 0))), .keep [1, 10]]) (.cond (.tmp 10) (.seq (.reg [.op none (.mv 4 (.const (.int .i64 (-1)))), .keep [4]]) (.ret)) (.skip))) (.seq (.reg [.op none (.mv 11 (.tmp 1)), .op none (.mv 4 (.tmp 11)), .keep [4]]) (.ret))))
def r36 : List RV := [.tmp 4]
theorem k36 : compC Try.prog 12 C36 (Try.f36.body.getD .skip) = some C36.erase := by kernel_rfl
theorem q36 : rvsOf Try.prog Try.f36.results.toList = some r36 := by kernel_rfl
def laws_szPathViewS.f (l0 : List S117) (a1 : Int) : Option Int := (if IntKind.i64.wrap (a1 - (l0.length : Int)) < 0 then (some (-1)) else (some (IntKind.i64.wrap (a1 - (l0.length : Int)))))
theorem laws_szPathViewS.tri (cs0 : List Cell) (o0 : Nat) (l0 : List S117) (hv0 : Vw c117 3 cs0 o0 l0) (a1 : Int) (r : Int) (h : laws_szPathViewS.f l0 a1 = some r) : Tri Try.prog 36 [.c (.ref (.arg 0) [] o0 l0.length), .c (.sc (.int .i64 a1))] [(.arg 0, ⟨.fz, 3, cs0⟩)] (fun o => o = ⟨.c (.sc (.int .i64 r)), [(.arg 0, ⟨.fz, 3, cs0⟩)], [], []⟩) := by
 refine tri_of_body (ac := C36) (xs := r36) Try.func36 (show Try.f36.body = some (Try.f36.body.getD .skip) from rfl) k36 q36 (Nat.le_of_ble_eq_true rfl) ?_
 refine body_of fun K hKn hKr => ?_
 unfold laws_szPathViewS.f at h
 unfold C36
 simp only [initT, Nat.reduceAdd]
 refine sr_k fun J1 hJ1 => ?_
 simp +decide only [Nat.reduceAdd, Nat.reduceMul, Int.reduceToNat, ak]
 refine hJ1 _ ?_
 refine sr_k fun J2 hJ2 => ?_
 simp +decide only [Nat.reduceAdd, Nat.reduceMul, Int.reduceToNat, ak]
 refine hJ2 _ ?_
 refine seq_k fun J3 hJ3 => ?_
 refine sr_k fun J4 hJ4 => ?_
 simp +decide only [Nat.reduceAdd, Nat.reduceMul, Int.reduceToNat, ak]
 refine hJ4 _ ?_
 refine cond_k (b := decide (IntKind.i64.wrap (a1 - (l0.length : Int)) < 0)) rfl (fun c5 => ?_) (fun c5 => ?_)
 ·replace c5 := of_decide_eq_true c5; rw [if_pos c5] at h
  refine sr_k fun J6 hJ6 => ?_
  simp +decide only [Nat.reduceAdd, Nat.reduceMul, Int.reduceToNat, ak]
  refine hJ6 _ ?_
  obtain rfl := Option.some.inj h
  refine hKr _ ⟨_, rfl, [], _, rfl, rfl, ?_⟩
  first | rfl | (simp only [reduceCtorEq, Nat.reduceEqDiff, ak, akF]; done) | (simp [reduceCtorEq, Nat.reduceEqDiff, ak, akF] <;> omega)
 ·replace c5 := of_decide_eq_false c5; rw [if_neg c5] at h
  refine hJ3 _ ?_
  refine sr_k fun J7 hJ7 => ?_
  simp +decide only [Nat.reduceAdd, Nat.reduceMul, Int.reduceToNat, ak]
  refine hJ7 _ ?_
  obtain rfl := Option.some.inj h
  refine hKr _ ⟨_, rfl, [], _, rfl, rfl, ?_⟩
  first | rfl | (simp only [reduceCtorEq, Nat.reduceEqDiff, ak, akF]; done) | (simp [reduceCtorEq, Nat.reduceEqDiff, ak, akF] <;> omega)
/-! ### laws.szMappingS: function 27 -/
def C27 : AC := .seq (.reg [.op none (.mv 4 (.const (.int .i64 0))), .keep [0, 1]]) (.seq (.reg [.op none (.mv 5 (.tmp 1)), .op none (.mv 6 (.tmp 0)), .op none (.len 7 (.tmp 6)), .op none (.bin 8 .sub (.tmp 5) (.tmp 7)), .op none (.mv 1 (.tmp 8)), .keep [1]]) (.seq (.seq (.reg [.op none (.mv 9 (.tmp 1)), .op none (.bin 10 .lss (.tmp 9) (.const (.int .i64 0))), .keep [1, 10]]) (.cond (.tmp 10) (.seq (.reg [.op none (.mv 4 (.const (.int .i64 (-1)))), .keep [4]]) (.ret)) (.skip))) (.seq (.reg [.op none (.mv 11 (.tmp 1)), .op none (.mv 4 (.tmp 11)), .keep [4]]) (.ret))))
def r27 : List RV := [.tmp 4]
theorem k27 : compC Try.prog 12 C27 (Try.f27.body.getD .skip) = some C27.erase := by kernel_rfl
theorem q27 : rvsOf Try.prog Try.f27.results.toList = some r27 := by kernel_rfl
def laws_szMappingS.f (l0 : List S109) (a1 : Int) : Option Int := (if IntKind.i64.wrap (a1 - (l0.length : Int)) < 0 then (some (-1)) else (some (IntKind.i64.wrap (a1 - (l0.length : Int)))))
theorem laws_szMappingS.tri (cs0 : List Cell) (o0 : Nat) (l0 : List S109) (hv0 : Vw c109 5 cs0 o0 l0) (a1 : Int) (r : Int) (h : laws_szMappingS.f l0 a1 = some r) : Tri Try.prog 27 [.c (.ref (.arg 0) [] o0 l0.length), .c (.sc (.int .i64 a1))] [(.arg 0, ⟨.fz, 5, cs0⟩)] (fun o => o = ⟨.c (.sc (.int .i64 r)), [(.arg 0, ⟨.fz, 5, cs0⟩)], [], []⟩) := by
 refine tri_of_body (ac := C27) (xs := r27) Try.func27 (show Try.f27.body = some (Try.f27.body.getD .skip) from rfl) k27 q27 (Nat.le_of_ble_eq_true rfl) ?_
 refine body_of fun K hKn hKr => ?_
 unfold laws_szMappingS.f at h
 unfold C27
 simp only [initT, Nat.reduceAdd]
 refine sr_k fun J1 hJ1 => ?_
 simp +decide only [Nat.reduceAdd, Nat.reduceMul, Int.reduceToNat, ak]
 refine hJ1 _ ?_
 refine sr_k fun J2 hJ2 => ?_
 simp +decide only [Nat.reduceAdd, Nat.reduceMul, Int.reduceToNat, ak]
 refine hJ2 _ ?_
 refine seq_k fun J3 hJ3 => ?_
 refine sr_k fun J4 hJ4 => ?_
 simp +decide only [Nat.reduceAdd, Nat.reduceMul, Int.reduceToNat, ak]
 refine hJ4 _ ?_
 refine cond_k (b := decide (IntKind.i64.wrap (a1 - (l0.length : Int)) < 0)) rfl (fun c5 => ?_) (fun c5 => ?_)
 ·replace c5 := of_decide_eq_true c5; rw [if_pos c5] at h
  refine sr_k fun J6 hJ6 => ?_
  simp +decide only [Nat.reduceAdd, Nat.reduceMul, Int.reduceToNat, ak]
  refine hJ6 _ ?_
  obtain rfl := Option.some.inj h
  refine hKr _ ⟨_, rfl, [], _, rfl, rfl, ?_⟩
  first | rfl | (simp only [reduceCtorEq, Nat.reduceEqDiff, ak, akF]; done) | (simp [reduceCtorEq, Nat.reduceEqDiff, ak, akF] <;> omega)
 ·replace c5 := of_decide_eq_false c5; rw [if_neg c5] at h
  refine hJ3 _ ?_
  refine sr_k fun J7 hJ7 => ?_
  simp +decide only [Nat.reduceAdd, Nat.reduceMul, Int.reduceToNat, ak]
  refine hJ7 _ ?_
  obtain rfl := Option.some.inj h
  refine hKr _ ⟨_, rfl, [], _, rfl, rfl, ?_⟩
  first | rfl | (simp only [reduceCtorEq, Nat.reduceEqDiff, ak, akF]; done) | (simp [reduceCtorEq, Nat.reduceEqDiff, ak, akF] <;> omega)
/-! ### laws.szSchedInput: function 45 -/
def C45 : AC := .seq (.reg [.op none (.box 2 (.tmp 0)), .op none (.mv 4 (.const (.int .i64 0))), .keep [1, 2]]) (.seq (.reg [.op none (.faddr 5 2 (.tmp 2)), .op none (.load 6 false 1 (.tmp 5)), .op none (.mv 7 (.tmp 1)), .call none (some 8) 85 [.tmp 6, .tmp 7], .op none (.mv 1 (.tmp 8)), .keep [1, 2]]) (.seq (.seq (.reg [.op none (.mv 9 (.tmp 1)), .op none (.bin 10 .lss (.tmp 9) (.const (.int .i64 0))), .keep [1, 2, 10]]) (.cond (.tmp 10) (.seq (.reg [.op none (.mv 4 (.const (.int .i64 (-1)))), .keep [4]]) (.ret)) (.skip))) (.seq (.reg [.op none (.faddr 11 3 (.tmp 2)), .op none (.load 12 false 1 (.tmp 11)), .op none (.mv 13 (.tmp 1)), .call none (some 14) 36 [.tmp 12, .tmp 13], .op none (.mv 1 (.tmp 14)), .keep [1, 2]]) (.seq (.seq (.reg [.op none (.mv 15 (.tmp 1)), .op none (.bin 16 .lss (.tmp 15) (.const (.int .i64 0))), .keep [1, 2, 16]]) (.cond (.tmp 16) (.seq (.reg [.op none (.mv 4 (.const (.int .i64 (-1)))), .keep [4]]) (.ret)) (.skip))) (.seq (.reg [.op none (.faddr 17 4 (.tmp 2)), .op none (.load 18 false 1 (.tmp 17)), .op none (.mv 19 (.tmp 1)), .call none (some 20) 27 [.tmp 18, .tmp 19], .op none (.mv 1 (.tmp 20)), .keep [1]]) (.seq (.seq (.reg [.op none (.mv 21 (.tmp 1)), .op none (.bin 22 .lss (.tmp 21) (.const (.int .i64 0))), .keep [1, 22]]) (.cond (.tmp 22) (.seq (.reg [.op none (.mv 4 (.const (.int .i64 (-1)))), .keep [4]]) (.ret)) (.skip))) (.seq (.reg [.op none (.mv 23 (.tmp 1)), .op none (.mv 4 (.tmp 23)), .keep [4]]) (.ret))))))))
def r45 : List RV := [.tmp 4]
theorem k45 : compC Try.prog 24 C45 (Try.f45.body.getD .skip) = some C45.erase := by kernel_rfl
theorem q45 : rvsOf Try.prog Try.f45.results.toList = some r45 := by kernel_rfl
def laws_szSchedInput.f (a0_0 : Int) (a0_1 : Int) (l0_2 : List Int) (l0_3 : List S117) (l0_4 : List S109) (a0_5 : Int) (a0_6 : Int) (a0_7 : Int) (a0_8 : Int) (a0_9 : Int) (a0_10 : Int) (a0_11 : Int) (a1 : Int) : Option Int := (laws_szInt64S.f l0_2 a1 >>= fun t3 => (if t3 < 0 then (some (-1)) else (laws_szPathViewS.f l0_3 t3 >>= fun t11 => (if t11 < 0 then (some (-1)) else (laws_szMappingS.f l0_4 t11 >>= fun t19 => (if t19 < 0 then (some (-1)) else (some t19)))))))
theorem laws_szSchedInput.tri (cs0 : List Cell) (o0 : Nat) (l0_2 : List Int) (hv0 : Vw c_i64 1 cs0 o0 l0_2) (cs1 : List Cell) (o1 : Nat) (l0_3 : List S117) (hv1 : Vw c117 3 cs1 o1 l0_3) (cs2 : List Cell) (o2 : Nat) (l0_4 : List S109) (hv2 : Vw c109 5 cs2 o2 l0_4) (a0_0 : Int) (a0_1 : Int) (a0_5 : Int) (a0_6 : Int) (a0_7 : Int) (a0_8 : Int) (a0_9 : Int) (a0_10 : Int) (a0_11 : Int) (a1 : Int) (r : Int) (h : laws_szSchedInput.f a0_0 a0_1 l0_2 l0_3 l0_4 a0_5 a0_6 a0_7 a0_8 a0_9 a0_10 a0_11 a1 = some r) : Tri Try.prog 45 [.g [.sc (.int .i64 a0_0), .sc (.int .i64 a0_1), .ref (.arg 0) [] o0 l0_2.length, .ref (.arg 1) [] o1 l0_3.length, .ref (.arg 2) [] o2 l0_4.length, .sc (.int .i64 a0_5), .sc (.int .u64 a0_6), .sc (.int .u64 a0_7), .sc (.int .u64 a0_8), .sc (.int .i64 a0_9), .sc (.int .i64 a0_10), .sc (.int .i64 a0_11)], .c (.sc (.int .i64 a1))] [(.arg 0, ⟨.fz, 1, cs0⟩), (.arg 1, ⟨.fz, 3, cs1⟩), (.arg 2, ⟨.fz, 5, cs2⟩)] (fun o => o = ⟨.c (.sc (.int .i64 r)), [(.arg 0, ⟨.fz, 1, cs0⟩), (.arg 1, ⟨.fz, 3, cs1⟩), (.arg 2, ⟨.fz, 5, cs2⟩)], [], []⟩) := by
 refine tri_of_body (ac := C45) (xs := r45) Try.func45 (show Try.f45.body = some (Try.f45.body.getD .skip) from rfl) k45 q45 (Nat.le_of_ble_eq_true rfl) ?_
 refine body_of fun K hKn hKr => ?_
 unfold laws_szSchedInput.f at h
 unfold C45
 simp only [initT, Nat.reduceAdd]
 refine sr_k fun J1 hJ1 => ?_
 simp +decide only [Nat.reduceAdd, Nat.reduceMul, Int.reduceToNat, ak]
 refine hJ1 _ ?_
 refine sr_k fun J2 hJ2 => ?_
 simp +decide only [Nat.reduceAdd, Nat.reduceMul, Int.reduceToNat, ak]
 obtain ⟨t3, h4, h⟩ := of_bind h
 refine call_m [(.arg 0, ⟨(.arg 0), [], none, .fz⟩)] (s0 := [(.arg 0, ⟨.fz, 1, cs0⟩)]) (by intro t ht; cases ht; decide) rfl rfl (by first | rfl | simp only [reduceCtorEq, Nat.reduceEqDiff, ak, akF]) (laws_szInt64S.tri (cs0) o0 l0_2 hv0 a1 _ h4) (by first | rfl | simp only [reduceCtorEq, Nat.reduceEqDiff, ak, akF]) (by simp [bkOk2, memK]) (fun hl4 => ?_)
 refine call_st (s4 := [(.arg 0, ⟨.fz, 1, cs0⟩), (.arg 1, ⟨.fz, 3, cs1⟩), (.arg 2, ⟨.fz, 5, cs2⟩), (.tmp 2 0, ⟨.box, 0, [.sc (.int .i64 a0_0), .sc (.int .i64 a0_1), .ref (.arg 0) [] o0 l0_2.length, .ref (.arg 1) [] o1 l0_3.length, .ref (.arg 2) [] o2 l0_4.length, .sc (.int .i64 a0_5), .sc (.int .u64 a0_6), .sc (.int .u64 a0_7), .sc (.int .u64 a0_8), .sc (.int .i64 a0_9), .sc (.int .i64 a0_10), .sc (.int .i64 a0_11)]⟩)]) (m1' := []) (m2' := []) (v' := .c (.sc (.int .i64 t3))) (Sto.mapN_killNil _ _) (mrgL_fz (mrgL_nil' _ _ _) rfl (by first | rfl | simp only [reduceCtorEq, Nat.reduceEqDiff, ak]) rfl (by intro R hR hh; cases hR; cases hh.2)) (by rfl) (mapT_killNil _ _) (by rfl) (by rfl) (by first | rfl | simp only [reduceCtorEq, Nat.reduceEqDiff, ak, akF, Nat.zero_add, List.append_nil]) ?_
 simp +decide only [Nat.reduceAdd, Nat.reduceMul, Int.reduceToNat, ak]
 refine hJ2 _ ?_
 refine seq_k fun J6 hJ6 => ?_
 refine sr_k fun J7 hJ7 => ?_
 simp +decide only [Nat.reduceAdd, Nat.reduceMul, Int.reduceToNat, ak]
 refine hJ7 _ ?_
 refine cond_k (b := decide (t3 < 0)) rfl (fun c8 => ?_) (fun c8 => ?_)
 ·replace c8 := of_decide_eq_true c8; rw [if_pos c8] at h
  refine sr_k fun J9 hJ9 => ?_
  simp +decide only [Nat.reduceAdd, Nat.reduceMul, Int.reduceToNat, ak]
  refine hJ9 _ ?_
  obtain rfl := Option.some.inj h
  refine hKr _ ⟨_, rfl, [], _, rfl, rfl, ?_⟩
  first | rfl | (simp only [reduceCtorEq, Nat.reduceEqDiff, ak, akF]; done) | (simp [reduceCtorEq, Nat.reduceEqDiff, ak, akF] <;> omega)
 ·replace c8 := of_decide_eq_false c8; rw [if_neg c8] at h
  refine hJ6 _ ?_
  refine sr_k fun J10 hJ10 => ?_
  simp +decide only [Nat.reduceAdd, Nat.reduceMul, Int.reduceToNat, ak]
  obtain ⟨t11, h12, h⟩ := of_bind h
  refine call_m [(.arg 0, ⟨(.arg 1), [], none, .fz⟩)] (s0 := [(.arg 0, ⟨.fz, 3, cs1⟩)]) (by intro t ht; cases ht; decide) rfl rfl (by first | rfl | simp only [reduceCtorEq, Nat.reduceEqDiff, ak, akF]) (laws_szPathViewS.tri (cs1) o1 l0_3 hv1 t3 _ h12) (by first | rfl | simp only [reduceCtorEq, Nat.reduceEqDiff, ak, akF]) (by simp [bkOk2, memK]) (fun hl12 => ?_)
  refine call_st (s4 := [(.arg 0, ⟨.fz, 1, cs0⟩), (.arg 1, ⟨.fz, 3, cs1⟩), (.arg 2, ⟨.fz, 5, cs2⟩), (.tmp 2 0, ⟨.box, 0, [.sc (.int .i64 a0_0), .sc (.int .i64 a0_1), .ref (.arg 0) [] o0 l0_2.length, .ref (.arg 1) [] o1 l0_3.length, .ref (.arg 2) [] o2 l0_4.length, .sc (.int .i64 a0_5), .sc (.int .u64 a0_6), .sc (.int .u64 a0_7), .sc (.int .u64 a0_8), .sc (.int .i64 a0_9), .sc (.int .i64 a0_10), .sc (.int .i64 a0_11)]⟩)]) (m1' := []) (m2' := []) (v' := .c (.sc (.int .i64 t11))) (Sto.mapN_killNil _ _) (mrgL_fz (mrgL_nil' _ _ _) rfl (by first | rfl | simp only [reduceCtorEq, Nat.reduceEqDiff, ak]) rfl (by intro R hR hh; cases hR; cases hh.2)) (by rfl) (mapT_killNil _ _) (by rfl) (by rfl) (by first | rfl | simp only [reduceCtorEq, Nat.reduceEqDiff, ak, akF, Nat.zero_add, List.append_nil]) ?_
  simp +decide only [Nat.reduceAdd, Nat.reduceMul, Int.reduceToNat, ak]
  refine hJ10 _ ?_
  refine seq_k fun J14 hJ14 => ?_
  refine sr_k fun J15 hJ15 => ?_
  simp +decide only [Nat.reduceAdd, Nat.reduceMul, Int.reduceToNat, ak]
  refine hJ15 _ ?_
  refine cond_k (b := decide (t11 < 0)) rfl (fun c16 => ?_) (fun c16 => ?_)
  ·replace c16 := of_decide_eq_true c16; rw [if_pos c16] at h
   refine sr_k fun J17 hJ17 => ?_
   simp +decide only [Nat.reduceAdd, Nat.reduceMul, Int.reduceToNat, ak]
   refine hJ17 _ ?_
   obtain rfl := Option.some.inj h
   refine hKr _ ⟨_, rfl, [], _, rfl, rfl, ?_⟩
   first | rfl | (simp only [reduceCtorEq, Nat.reduceEqDiff, ak, akF]; done) | (simp [reduceCtorEq, Nat.reduceEqDiff, ak, akF] <;> omega)
  ·replace c16 := of_decide_eq_false c16; rw [if_neg c16] at h
   refine hJ14 _ ?_
   refine sr_k fun J18 hJ18 => ?_
   simp +decide only [Nat.reduceAdd, Nat.reduceMul, Int.reduceToNat, ak]
   obtain ⟨t19, h20, h⟩ := of_bind h
   refine call_m [(.arg 0, ⟨(.arg 2), [], none, .fz⟩)] (s0 := [(.arg 0, ⟨.fz, 5, cs2⟩)]) (by intro t ht; cases ht; decide) rfl rfl (by first | rfl | simp only [reduceCtorEq, Nat.reduceEqDiff, ak, akF]) (laws_szMappingS.tri (cs2) o2 l0_4 hv2 t11 _ h20) (by first | rfl | simp only [reduceCtorEq, Nat.reduceEqDiff, ak, akF]) (by simp [bkOk2, memK]) (fun hl20 => ?_)
   refine call_st (s4 := [(.arg 0, ⟨.fz, 1, cs0⟩), (.arg 1, ⟨.fz, 3, cs1⟩), (.arg 2, ⟨.fz, 5, cs2⟩), (.tmp 2 0, ⟨.box, 0, [.sc (.int .i64 a0_0), .sc (.int .i64 a0_1), .ref (.arg 0) [] o0 l0_2.length, .ref (.arg 1) [] o1 l0_3.length, .ref (.arg 2) [] o2 l0_4.length, .sc (.int .i64 a0_5), .sc (.int .u64 a0_6), .sc (.int .u64 a0_7), .sc (.int .u64 a0_8), .sc (.int .i64 a0_9), .sc (.int .i64 a0_10), .sc (.int .i64 a0_11)]⟩)]) (m1' := []) (m2' := []) (v' := .c (.sc (.int .i64 t19))) (Sto.mapN_killNil _ _) (mrgL_fz (mrgL_nil' _ _ _) rfl (by first | rfl | simp only [reduceCtorEq, Nat.reduceEqDiff, ak]) rfl (by intro R hR hh; cases hR; cases hh.2)) (by rfl) (mapT_killNil _ _) (by rfl) (by rfl) (by first | rfl | simp only [reduceCtorEq, Nat.reduceEqDiff, ak, akF, Nat.zero_add, List.append_nil]) ?_
   simp +decide only [Nat.reduceAdd, Nat.reduceMul, Int.reduceToNat, ak]
   refine hJ18 _ ?_
   refine seq_k fun J22 hJ22 => ?_
   refine sr_k fun J23 hJ23 => ?_
   simp +decide only [Nat.reduceAdd, Nat.reduceMul, Int.reduceToNat, ak]
   refine hJ23 _ ?_
   refine cond_k (b := decide (t19 < 0)) rfl (fun c24 => ?_) (fun c24 => ?_)
   ·replace c24 := of_decide_eq_true c24; rw [if_pos c24] at h
    refine sr_k fun J25 hJ25 => ?_
    simp +decide only [Nat.reduceAdd, Nat.reduceMul, Int.reduceToNat, ak]
    refine hJ25 _ ?_
    obtain rfl := Option.some.inj h
    refine hKr _ ⟨_, rfl, [], _, rfl, rfl, ?_⟩
    first | rfl | (simp only [reduceCtorEq, Nat.reduceEqDiff, ak, akF]; done) | (simp [reduceCtorEq, Nat.reduceEqDiff, ak, akF] <;> omega)
   ·replace c24 := of_decide_eq_false c24; rw [if_neg c24] at h
    refine hJ22 _ ?_
    refine sr_k fun J26 hJ26 => ?_
    simp +decide only [Nat.reduceAdd, Nat.reduceMul, Int.reduceToNat, ak]
    refine hJ26 _ ?_
    obtain rfl := Option.some.inj h
    refine hKr _ ⟨_, rfl, [], _, rfl, rfl, ?_⟩
    first | rfl | (simp only [reduceCtorEq, Nat.reduceEqDiff, ak, akF]; done) | (simp [reduceCtorEq, Nat.reduceEqDiff, ak, akF] <;> omega)
/-! ### laws.toInt64S: function 88 -/
def C88_l0 : AC := .seq (.seq (.reg [.op none (.mv 8 (.tmp 4)), .op none (.mv 9 (.tmp 0)), .op none (.len 10 (.tmp 9)), .op none (.bin 11 .lss (.tmp 8) (.tmp 10)), .keep [0, 3, 4, 11]]) (.cond (.tmp 11) (.skip) (.gh (.exit 0)))) (.seq (.block 1 (.reg [.op none (.mv 14 (.tmp 3)), .op none (.mv 15 (.tmp 4)), .op none (.mv 16 (.tmp 0)), .op none (.mv 17 (.tmp 4)), .op none (.iaddr 18 1 (.tmp 16) (.tmp 17)), .op none (.load 19 false 1 (.tmp 18)), .op none (.iaddr 20 1 (.tmp 14) (.tmp 15)), .op none (.store 1 (.tmp 20) (.tmp 19)), .keep [0, 3, 4]])) (.reg [.op none (.mv 12 (.tmp 4)), .op none (.bin 13 .add (.tmp 12) (.const (.int .i64 1))), .op none (.mv 4 (.tmp 13)), .keep [0, 3, 4]]))
def C88 : AC := .seq (.reg [.op none (.mv 2 (.const (.slice none 0 0))), .gh, .keep [0]]) (.seq (.reg [.op none (.mv 5 (.tmp 0)), .op none (.len 6 (.tmp 5)), .op none (.mslice 7 1 8 [.int .i64 0] (.tmp 6)), .op none (.mv 3 (.tmp 7)), .keep [0, 3]]) (.seq (.seq (.reg [.op none (.mv 4 (.const (.int .i64 0))), .keep [0, 3, 4]]) (.block 0 (.gh (.loop (.ga C88_l0))))) (.seq (.reg [.op none (.mv 21 (.tmp 3)), .op none (.mv 2 (.tmp 21)), .keep [2]]) (.ret))))
def r88 : List RV := [.tmp 2]
theorem k88 : compC Try.prog 22 C88 (Try.f88.body.getD .skip) = some C88.erase := by kernel_rfl
theorem q88 : rvsOf Try.prog Try.f88.results.toList = some r88 := by kernel_rfl
def laws_toInt64S.l0 (l0 : List Int) (x0_0 : Int) (x0_1 : (List Int)) : Option (List Int) := (if x0_0 < (l0.length : Int) then (if 0 ≤ x0_0 ∧ x0_0 < (l0.length : Int) then (if 0 ≤ x0_0 ∧ x0_0 < (x0_1.length : Int) then (laws_toInt64S.l0 l0 (IntKind.i64.wrap (x0_0 + 1)) (x0_1.set x0_0.toNat (rd 0 l0 x0_0))) else none) else none) else (some x0_1))
 partial_fixpoint
def laws_toInt64S.f (l0 : List Int) : Option (List Int) := (if 0 ≤ (l0.length : Int) ∧ (l0.length : Int) < 9223372036854775808 ∧ ((8 : Nat) : Int) * (l0.length : Int) ≤ 281474976710656 then (laws_toInt64S.l0 l0 0 (List.replicate (l0.length : Int).toNat (0 : Int)) >>= fun (y20 : (List Int)) => (some y20)) else none)
def laws_toInt64S.l0_M (cs0 : List Cell) (o0 : Nat) (l0 : List Int) (hv0 : Vw c_i64 1 cs0 o0 l0) (x0_0 : Int) (x0_1 : (List Int)) (y : (List Int)) : Prop := ∀ (K : AE → St → Prop), (K (.exit 0) ⟨[(3, .c (.ref (.tmp 7 0) [] 0 y.length))], [(.arg 0, ⟨.fz, 1, cs0⟩), (.tmp 7 0, ⟨.lst, 1, encL c_i64 y⟩)], [], []⟩) → loopS Try.prog 22 (.ga C88_l0) K ⟨[(0, .c (.ref (.arg 0) [] o0 l0.length)), (3, .c (.ref (.tmp 7 0) [] 0 x0_1.length)), (4, .c (.sc (.int .i64 x0_0)))], [(.arg 0, ⟨.fz, 1, cs0⟩), (.tmp 7 0, ⟨.lst, 1, encL c_i64 x0_1⟩)], [], []⟩
theorem laws_toInt64S.l0_walk (cs0 : List Cell) (o0 : Nat) (l0 : List Int) (hv0 : Vw c_i64 1 cs0 o0 l0) (x0_0 : Int) (x0_1 : (List Int)) (y : (List Int)) (h : laws_toInt64S.l0 l0 x0_0 x0_1 = some y) : laws_toInt64S.l0_M cs0 o0 l0 hv0 x0_0 x0_1 y := by
 refine laws_toInt64S.l0.partial_correctness l0 (motive := fun x0_0 x0_1 y => laws_toInt64S.l0_M cs0 o0 l0 hv0 x0_0 x0_1 y) ?_ x0_0 x0_1 y h
 clear h
 unfold laws_toInt64S.l0_M
 intro rec ih x0_0 x0_1 y h K hx0
 refine loop_unroll (ga_k fun G0 G0n G0r G0x => ?_)
 unfold C88_l0
 refine seq_k fun J8 hJ8 => ?_
 refine sr_k fun J9 hJ9 => ?_
 simp +decide only [Nat.reduceAdd, Nat.reduceMul, Int.reduceToNat, ak]
 refine hJ9 _ ?_
 refine cond_k (b := decide (x0_0 < (l0.length : Int))) rfl (fun c10 => ?_) (fun c10 => ?_)
 ·replace c10 := of_decide_eq_true c10; rw [if_pos c10] at h
  refine hJ8 _ ?_
  refine seq_k fun J11 hJ11 => ?_
  refine block_k fun B12 B12n B12x B12r B12j => ?_
  refine reg_k ?_
  obtain ⟨b13, h⟩ := of_guard h
  have g14 : (cs0)[o0 + x0_0.toNat * 1]? = some (.sc (.int .i64 (rd 0 l0 x0_0))) := hv0.get 0 0 b13.1 b13.2 (by decide)
  obtain ⟨b15, h⟩ := of_guard h
  have g16 : 0 + x0_0.toNat * 1 + 1 ≤ (encL c_i64 x0_1).length := (Vw.whole c_i64_w x0_1).le b15.1 b15.2 (j := 0) (q := 1) (by decide)
  have g17 : 0 + x0_0.toNat * 1 < (encL c_i64 x0_1).length := (Vw.whole c_i64_w x0_1).lt b15.1 b15.2 (j := 0) (by decide)
  have g18 : (encL c_i64 x0_1)[0 + x0_0.toNat * 1]? = some (.sc (.int .i64 (rd 0 x0_1 x0_0))) := (Vw.whole c_i64_w x0_1).get 0 0 b15.1 b15.2 (by decide)
  have g19 : (encL c_i64 x0_1).set (0 + x0_0.toNat * 1) (.sc (.int .i64 (rd 0 l0 x0_0))) = encL c_i64 (x0_1.set x0_0.toNat (rd 0 l0 x0_0)) := encL_put c_i64_w 0 b15.1 b15.2 (j := 0) (by decide) rfl
  simp +decide only [Nat.reduceAdd, Nat.reduceMul, Int.reduceToNat, ak, b13, g14, b15, g16, g17, g18, g19]
  refine B12n _ ?_
  refine hJ11 _ ?_
  refine reg_k ?_
  simp +decide only [Nat.reduceAdd, Nat.reduceMul, Int.reduceToNat, ak]
  refine G0n _ _ (wk [0, 3, 4] [pI (.arg 0) .fz, pI (.tmp 7 0) .lst] (h0 := by first | rfl | simp +decide only [ak, akF, b13, b15]) (h := by first | rfl | (simp +decide only [ak, akF, b13, b15]; done) | (simp +decide [ak, akF, b13, b15] <;> omega))) (ih _ _ _ h K hx0)
 ·replace c10 := of_decide_eq_false c10; rw [if_neg c10] at h
  obtain rfl := Option.some.inj h
  refine gh_k (wk [3] [pI (.arg 0) .fz, pI (.tmp 7 0) .lst]) ?_
  refine G0x _ _ ?_
  exact hx0
theorem laws_toInt64S.tri (cs0 : List Cell) (o0 : Nat) (l0 : List Int) (hv0 : Vw c_i64 1 cs0 o0 l0) (r : (List Int)) (h : laws_toInt64S.f l0 = some r) : Tri Try.prog 88 [.c (.ref (.arg 0) [] o0 l0.length)] [(.arg 0, ⟨.fz, 1, cs0⟩)] (fun o => o = ⟨.c (.ref (.res 0) [] 0 r.length), [(.arg 0, ⟨.fz, 1, cs0⟩), (.res 0, ⟨.lst, 1, encL c_i64 r⟩)], [], []⟩) := by
 refine tri_of_body (ac := C88) (xs := r88) Try.func88 (show Try.f88.body = some (Try.f88.body.getD .skip) from rfl) k88 q88 (Nat.le_of_ble_eq_true rfl) ?_
 refine body_of fun K hKn hKr => ?_
 unfold laws_toInt64S.f at h
 unfold C88
 simp only [initT, Nat.reduceAdd]
 refine sr_k fun J1 hJ1 => ?_
 simp +decide only [Nat.reduceAdd, Nat.reduceMul, Int.reduceToNat, ak]
 refine gho_k (Weak.nm' 2 (.tmp 2 20) 1 (encL c_i64 ([] : List Int)) rfl rfl rfl) ?_
 simp +decide only [Nat.reduceAdd, Nat.reduceMul, Int.reduceToNat, ak]
 refine hJ1 _ ?_
 refine sr_k fun J2 hJ2 => ?_
 obtain ⟨b3, h⟩ := of_guard h
 have g4 : ((List.replicate (l0.length : Int).toNat [.int .i64 0]).flatten.map Cell.sc) = encL c_i64 (List.replicate (l0.length : Int).toNat (0 : Int)) := encL_zeros _ _ _ rfl
 simp +decide only [Nat.reduceAdd, Nat.reduceMul, Int.reduceToNat, ak, b3, g4]
 refine hJ2 _ ?_
 refine seq_k fun J5 hJ5 => ?_
 refine sr_k fun J6 hJ6 => ?_
 simp +decide only [Nat.reduceAdd, Nat.reduceMul, Int.reduceToNat, ak]
 refine hJ6 _ ?_
 refine block_k fun B7 B7n B7x B7r B7j => ?_
 obtain ⟨y20, h21, h⟩ := of_bind h
 refine gh_k (st' := ⟨[(0, .c (.ref (.arg 0) [] o0 l0.length)), (3, .c (.ref (.tmp 7 0) [] 0 ((List.replicate (l0.length : Int).toNat (0 : Int)).length))), (4, .c (.sc (.int .i64 0)))], [(.arg 0, ⟨.fz, 1, cs0⟩), (.tmp 7 0, ⟨.lst, 1, encL c_i64 (List.replicate (l0.length : Int).toNat (0 : Int))⟩)], [], []⟩) (wk [0, 3, 4] [pI (.arg 0) .fz, pI (.tmp 7 0) .lst] (h0 := by first | rfl | simp +decide only [ak, akF, b3]) (h := by first | rfl | (simp +decide only [ak, akF, b3]; done) | (simp +decide [ak, akF, b3] <;> omega))) ?_
 rw [e_loop]
 refine laws_toInt64S.l0_walk cs0 o0 l0 hv0 0 (List.replicate (l0.length : Int).toNat (0 : Int)) _ h21 _ ?_
 refine B7x _ ?_
 refine hJ5 _ ?_
 refine sr_k fun J22 hJ22 => ?_
 simp +decide only [Nat.reduceAdd, Nat.reduceMul, Int.reduceToNat, ak]
 refine hJ22 _ ?_
 obtain rfl := Option.some.inj h
 refine hKr _ ⟨_, rfl, [⟨(.tmp 7 0), [], none, .lst⟩], _, rfl, rfl, ?_⟩
 first | rfl | (simp only [reduceCtorEq, Nat.reduceEqDiff, ak, akF, b3]; done) | (simp [reduceCtorEq, Nat.reduceEqDiff, ak, akF, b3] <;> omega)
/-! ### laws.toPathView: function 80 -/
def C80 : AC := .seq (.reg [.op none (.box 1 (.tmp 0)), .op none (.alloc 2 [.int .i64 0, .int .i64 0, .int .i64 0]), .keep [1, 2]]) (.seq (.reg [.op none (.alloc 3 [.int .i64 0, .int .i64 0, .int .i64 0]), .keep [1, 2, 3]]) (.seq (.reg [.op none (.faddr 4 0 (.tmp 1)), .op none (.load 5 false 1 (.tmp 4)), .op none (.faddr 6 0 (.tmp 3)), .op none (.store 1 (.tmp 6) (.tmp 5)), .keep [1, 2, 3]]) (.seq (.reg [.op none (.faddr 7 1 (.tmp 1)), .op none (.load 8 false 1 (.tmp 7)), .op none (.faddr 9 1 (.tmp 3)), .op none (.store 1 (.tmp 9) (.tmp 8)), .keep [1, 2, 3]]) (.seq (.reg [.op none (.faddr 10 2 (.tmp 1)), .op none (.load 11 false 1 (.tmp 10)), .op none (.faddr 12 2 (.tmp 3)), .op none (.store 1 (.tmp 12) (.tmp 11)), .keep [2, 3]]) (.seq (.reg [.op none (.load 13 true 3 (.tmp 3)), .op none (.store 3 (.tmp 2) (.tmp 13)), .keep [2]]) (.ret))))))
def r80 : List RV := [.cell 2 true 3]
theorem k80 : compC Try.prog 14 C80 (Try.f80.body.getD .skip) = some C80.erase := by kernel_rfl
theorem q80 : rvsOf Try.prog Try.f80.results.toList = some r80 := by kernel_rfl
def laws_toPathView.f (a0_0 : Int) (a0_1 : Int) (a0_2 : Int) : Option (Int × Int × Int) := (some (a0_0, a0_1, a0_2))
theorem laws_toPathView.tri (a0_0 : Int) (a0_1 : Int) (a0_2 : Int) (r : Int × Int × Int) (h : laws_toPathView.f a0_0 a0_1 a0_2 = some r) : Tri Try.prog 80 [.g [.sc (.int .i64 a0_0), .sc (.int .i64 a0_1), .sc (.int .i64 a0_2)]] [] (fun o => o = ⟨.g [.sc (.int .i64 r.1), .sc (.int .i64 r.2.1), .sc (.int .i64 r.2.2)], [], [], []⟩) := by
 refine tri_of_body (ac := C80) (xs := r80) Try.func80 (show Try.f80.body = some (Try.f80.body.getD .skip) from rfl) k80 q80 (Nat.le_of_ble_eq_true rfl) ?_
 refine body_of fun K hKn hKr => ?_
 unfold laws_toPathView.f at h
 unfold C80
 simp only [initT, Nat.reduceAdd]
 refine sr_k fun J1 hJ1 => ?_
 simp +decide only [Nat.reduceAdd, Nat.reduceMul, Int.reduceToNat, ak]
 refine hJ1 _ ?_
 refine sr_k fun J2 hJ2 => ?_
 simp +decide only [Nat.reduceAdd, Nat.reduceMul, Int.reduceToNat, ak]
 refine hJ2 _ ?_
 refine sr_k fun J3 hJ3 => ?_
 simp +decide only [Nat.reduceAdd, Nat.reduceMul, Int.reduceToNat, ak]
 refine hJ3 _ ?_
 refine sr_k fun J4 hJ4 => ?_
 simp +decide only [Nat.reduceAdd, Nat.reduceMul, Int.reduceToNat, ak]
 refine hJ4 _ ?_
 refine sr_k fun J5 hJ5 => ?_
 simp +decide only [Nat.reduceAdd, Nat.reduceMul, Int.reduceToNat, ak]
 refine hJ5 _ ?_
 refine sr_k fun J6 hJ6 => ?_
 simp +decide only [Nat.reduceAdd, Nat.reduceMul, Int.reduceToNat, ak]
 refine hJ6 _ ?_
 obtain rfl := Option.some.inj h
 refine hKr _ ⟨_, rfl, [], _, rfl, rfl, ?_⟩
 first | rfl | (simp only [reduceCtorEq, Nat.reduceEqDiff, ak, akF]; done) | (simp [reduceCtorEq, Nat.reduceEqDiff, ak, akF] <;> omega)
/-! ### laws.toPathViewS: function 38 -/
def C38_l0 : AC := .seq (.seq (.reg [.op none (.mv 8 (.tmp 4)), .op none (.mv 9 (.tmp 0)), .op none (.len 10 (.tmp 9)), .op none (.bin 11 .lss (.tmp 8) (.tmp 10)), .keep [0, 3, 4, 11]]) (.cond (.tmp 11) (.skip) (.gh (.exit 0)))) (.seq (.block 1 (.reg [.op none (.mv 14 (.tmp 3)), .op none (.mv 15 (.tmp 4)), .op none (.mv 16 (.tmp 0)), .op none (.mv 17 (.tmp 4)), .op none (.iaddr 18 3 (.tmp 16) (.tmp 17)), .op none (.load 19 true 3 (.tmp 18)), .call none (some 20) 80 [.tmp 19], .op none (.iaddr 21 3 (.tmp 14) (.tmp 15)), .op none (.store 3 (.tmp 21) (.tmp 20)), .keep [0, 3, 4]])) (.reg [.op none (.mv 12 (.tmp 4)), .op none (.bin 13 .add (.tmp 12) (.const (.int .i64 1))), .op none (.mv 4 (.tmp 13)), .keep [0, 3, 4]]))
def C38 : AC := .seq (.reg [.op none (.mv 2 (.const (.slice none 0 0))), .gh, .keep [0]]) (.seq (.reg [.op none (.mv 5 (.tmp 0)), .op none (.len 6 (.tmp 5)), .op none (.mslice 7 3 24 [.int .i64 0, .int .i64 0, .int .i64 0] (.tmp 6)), .op none (.mv 3 (.tmp 7)), .keep [0, 3]]) (.seq (.seq (.reg [.op none (.mv 4 (.const (.int .i64 0))), .keep [0, 3, 4]]) (.block 0 (.gh (.loop (.ga C38_l0))))) (.seq (.reg [.op none (.mv 22 (.tmp 3)), .op none (.mv 2 (.tmp 22)), .keep [2]]) (.ret))))
def r38 : List RV := [.tmp 2]
theorem k38 : compC Try.prog 23 C38 (Try.f38.body.getD .skip) = some C38.erase := by kernel_rfl
theorem q38 : rvsOf Try.prog Try.f38.results.toList = some r38 := by kernel_rfl
def laws_toPathViewS.l0 (l0 : List S117) (x0_0 : Int) (x0_1 : (List S86)) : Option (List S86) := (if x0_0 < (l0.length : Int) then (if 0 ≤ x0_0 ∧ x0_0 < (l0.length : Int) then (laws_toPathView.f ((rd z117 l0 x0_0).f0) ((rd z117 l0 x0_0).f1) ((rd z117 l0 x0_0).f2) >>= fun t15 => (if 0 ≤ x0_0 ∧ x0_0 < (x0_1.length : Int) then (laws_toPathViewS.l0 l0 (IntKind.i64.wrap (x0_0 + 1)) (x0_1.set x0_0.toNat (⟨t15.1, t15.2.1, t15.2.2⟩ : S86))) else none)) else none) else (some x0_1))
 partial_fixpoint
def laws_toPathViewS.f (l0 : List S117) : Option (List S86) := (if 0 ≤ (l0.length : Int) ∧ (l0.length : Int) < 9223372036854775808 ∧ ((24 : Nat) : Int) * (l0.length : Int) ≤ 281474976710656 then (laws_toPathViewS.l0 l0 0 (List.replicate (l0.length : Int).toNat (z86 : S86)) >>= fun (y29 : (List S86)) => (some y29)) else none)
def laws_toPathViewS.l0_M (cs0 : List Cell) (o0 : Nat) (l0 : List S117) (hv0 : Vw c117 3 cs0 o0 l0) (x0_0 : Int) (x0_1 : (List S86)) (y : (List S86)) : Prop := ∀ (K : AE → St → Prop), (K (.exit 0) ⟨[(3, .c (.ref (.tmp 7 0) [] 0 y.length))], [(.arg 0, ⟨.fz, 3, cs0⟩), (.tmp 7 0, ⟨.lst, 3, encL c86 y⟩)], [], []⟩) → loopS Try.prog 23 (.ga C38_l0) K ⟨[(0, .c (.ref (.arg 0) [] o0 l0.length)), (3, .c (.ref (.tmp 7 0) [] 0 x0_1.length)), (4, .c (.sc (.int .i64 x0_0)))], [(.arg 0, ⟨.fz, 3, cs0⟩), (.tmp 7 0, ⟨.lst, 3, encL c86 x0_1⟩)], [], []⟩
theorem laws_toPathViewS.l0_walk (cs0 : List Cell) (o0 : Nat) (l0 : List S117) (hv0 : Vw c117 3 cs0 o0 l0) (x0_0 : Int) (x0_1 : (List S86)) (y : (List S86)) (h : laws_toPathViewS.l0 l0 x0_0 x0_1 = some y) : laws_toPathViewS.l0_M cs0 o0 l0 hv0 x0_0 x0_1 y := by
 refine laws_toPathViewS.l0.partial_correctness l0 (motive := fun x0_0 x0_1 y => laws_toPathViewS.l0_M cs0 o0 l0 hv0 x0_0 x0_1 y) ?_ x0_0 x0_1 y h
 clear h
 unfold laws_toPathViewS.l0_M
 intro rec ih x0_0 x0_1 y h K hx0
 refine loop_unroll (ga_k fun G0 G0n G0r G0x => ?_)
 unfold C38_l0
 refine seq_k fun J8 hJ8 => ?_
 refine sr_k fun J9 hJ9 => ?_
 simp +decide only [Nat.reduceAdd, Nat.reduceMul, Int.reduceToNat, ak]
 refine hJ9 _ ?_
 refine cond_k (b := decide (x0_0 < (l0.length : Int))) rfl (fun c10 => ?_) (fun c10 => ?_)
 ·replace c10 := of_decide_eq_true c10; rw [if_pos c10] at h
  refine hJ8 _ ?_
  refine seq_k fun J11 hJ11 => ?_
  refine block_k fun B12 B12n B12x B12r B12j => ?_
  refine reg_k ?_
  obtain ⟨b13, h⟩ := of_guard h
  have g14 : (List.drop (o0 + x0_0.toNat * 3) (cs0)).take 3 = [.sc (.int .i64 ((rd z117 l0 x0_0).f0)), .sc (.int .i64 ((rd z117 l0 x0_0).f1)), .sc (.int .i64 ((rd z117 l0 x0_0).f2))] := hv0.stretch z117 b13.1 b13.2
  simp +decide only [Nat.reduceAdd, Nat.reduceMul, Int.reduceToNat, ak, b13, g14]
  obtain ⟨t15, h16, h⟩ := of_bind h
  refine call_m [] (s0 := []) (by intro t ht; cases ht; decide) rfl rfl (by first | rfl | simp only [reduceCtorEq, Nat.reduceEqDiff, ak, akF, b13, g14]) (laws_toPathView.tri ((rd z117 l0 x0_0).f0) ((rd z117 l0 x0_0).f1) ((rd z117 l0 x0_0).f2) _ h16) (by first | rfl | simp only [reduceCtorEq, Nat.reduceEqDiff, ak, akF]) (by simp [bkOk2, memK]) (fun hl16 => ?_)
  refine call_st (s4 := [(.arg 0, ⟨.fz, 3, cs0⟩), (.tmp 7 0, ⟨.lst, 3, encL c86 x0_1⟩)]) (m1' := []) (m2' := []) (v' := .g [.sc (.int .i64 t15.1), .sc (.int .i64 t15.2.1), .sc (.int .i64 t15.2.2)]) (Sto.mapN_killNil _ _) (mrgL_nil' _ _ _) (by rfl) (mapT_killNil _ _) (by rfl) (by rfl) (by first | rfl | simp only [reduceCtorEq, Nat.reduceEqDiff, ak, akF, Nat.zero_add, List.append_nil, b13]) ?_
  obtain ⟨b18, h⟩ := of_guard h
  have g19 : 0 + x0_0.toNat * 3 + 3 ≤ (encL c86 x0_1).length := (Vw.whole c86_w x0_1).le b18.1 b18.2 (j := 0) (q := 3) (by decide)
  have g20 : 0 + x0_0.toNat * 3 < (encL c86 x0_1).length := (Vw.whole c86_w x0_1).lt b18.1 b18.2 (j := 0) (by decide)
  have g21 : (encL c86 x0_1)[0 + x0_0.toNat * 3]? = some (.sc (.int .i64 ((rd z86 x0_1 x0_0).f0))) := (Vw.whole c86_w x0_1).get z86 0 b18.1 b18.2 (by decide)
  have g22 : (encL c86 x0_1).set (0 + x0_0.toNat * 3) (.sc (.int .i64 t15.1)) = encL c86 (x0_1.set x0_0.toNat (⟨t15.1, (rd z86 x0_1 x0_0).f1, (rd z86 x0_1 x0_0).f2⟩ : S86)) := encL_put c86_w z86 b18.1 b18.2 (j := 0) (by decide) rfl
  have g23 : 0 + x0_0.toNat * 3 + 1 < (encL c86 (x0_1.set x0_0.toNat (⟨t15.1, (rd z86 x0_1 x0_0).f1, (rd z86 x0_1 x0_0).f2⟩ : S86))).length := encL_put_lt c86_w (⟨t15.1, (rd z86 x0_1 x0_0).f1, (rd z86 x0_1 x0_0).f2⟩ : S86) b18.1 b18.2 (j := 1) (by decide)
  have g24 : (encL c86 (x0_1.set x0_0.toNat (⟨t15.1, (rd z86 x0_1 x0_0).f1, (rd z86 x0_1 x0_0).f2⟩ : S86)))[0 + x0_0.toNat * 3 + 1]? = some (.sc (.int .i64 ((rd z86 x0_1 x0_0).f1))) := encL_put_get c86_w (⟨t15.1, (rd z86 x0_1 x0_0).f1, (rd z86 x0_1 x0_0).f2⟩ : S86) b18.1 b18.2 (j := 1) (by decide)
  have g25 : (encL c86 (x0_1.set x0_0.toNat (⟨t15.1, (rd z86 x0_1 x0_0).f1, (rd z86 x0_1 x0_0).f2⟩ : S86))).set (0 + x0_0.toNat * 3 + 1) (.sc (.int .i64 t15.2.1)) = encL c86 (x0_1.set x0_0.toNat (⟨t15.1, t15.2.1, (rd z86 x0_1 x0_0).f2⟩ : S86)) := encL_put2 c86_w b18.1 b18.2 (j := 1) (by decide) rfl
  have g26 : 0 + x0_0.toNat * 3 + 2 < (encL c86 (x0_1.set x0_0.toNat (⟨t15.1, t15.2.1, (rd z86 x0_1 x0_0).f2⟩ : S86))).length := encL_put_lt c86_w (⟨t15.1, t15.2.1, (rd z86 x0_1 x0_0).f2⟩ : S86) b18.1 b18.2 (j := 2) (by decide)
  have g27 : (encL c86 (x0_1.set x0_0.toNat (⟨t15.1, t15.2.1, (rd z86 x0_1 x0_0).f2⟩ : S86)))[0 + x0_0.toNat * 3 + 2]? = some (.sc (.int .i64 ((rd z86 x0_1 x0_0).f2))) := encL_put_get c86_w (⟨t15.1, t15.2.1, (rd z86 x0_1 x0_0).f2⟩ : S86) b18.1 b18.2 (j := 2) (by decide)
  have g28 : (encL c86 (x0_1.set x0_0.toNat (⟨t15.1, t15.2.1, (rd z86 x0_1 x0_0).f2⟩ : S86))).set (0 + x0_0.toNat * 3 + 2) (.sc (.int .i64 t15.2.2)) = encL c86 (x0_1.set x0_0.toNat (⟨t15.1, t15.2.1, t15.2.2⟩ : S86)) := encL_put2 c86_w b18.1 b18.2 (j := 2) (by decide) rfl
  simp +decide only [Nat.reduceAdd, Nat.reduceMul, Int.reduceToNat, ak, b18, g19, g20, g21, g22, g23, g24, g25, g26, g27, g28]
  refine B12n _ ?_
  refine hJ11 _ ?_
  refine reg_k ?_
  simp +decide only [Nat.reduceAdd, Nat.reduceMul, Int.reduceToNat, ak]
  refine G0n _ _ (wk [0, 3, 4] [pI (.arg 0) .fz, pI (.tmp 7 0) .lst] (h0 := by first | rfl | simp +decide only [ak, akF, b13, b18]) (h := by first | rfl | (simp +decide only [ak, akF, b13, b18]; done) | (simp +decide [ak, akF, b13, b18] <;> omega))) (ih _ _ _ h K hx0)
 ·replace c10 := of_decide_eq_false c10; rw [if_neg c10] at h
  obtain rfl := Option.some.inj h
  refine gh_k (wk [3] [pI (.arg 0) .fz, pI (.tmp 7 0) .lst]) ?_
  refine G0x _ _ ?_
  exact hx0
theorem laws_toPathViewS.tri (cs0 : List Cell) (o0 : Nat) (l0 : List S117) (hv0 : Vw c117 3 cs0 o0 l0) (r : (List S86)) (h : laws_toPathViewS.f l0 = some r) : Tri Try.prog 38 [.c (.ref (.arg 0) [] o0 l0.length)] [(.arg 0, ⟨.fz, 3, cs0⟩)] (fun o => o = ⟨.c (.ref (.res 0) [] 0 r.length), [(.arg 0, ⟨.fz, 3, cs0⟩), (.res 0, ⟨.lst, 3, encL c86 r⟩)], [], []⟩) := by
 refine tri_of_body (ac := C38) (xs := r38) Try.func38 (show Try.f38.body = some (Try.f38.body.getD .skip) from rfl) k38 q38 (Nat.le_of_ble_eq_true rfl) ?_
 refine body_of fun K hKn hKr => ?_
 unfold laws_toPathViewS.f at h
 unfold C38
 simp only [initT, Nat.reduceAdd]
 refine sr_k fun J1 hJ1 => ?_
 simp +decide only [Nat.reduceAdd, Nat.reduceMul, Int.reduceToNat, ak]
 refine gho_k (Weak.nm' 2 (.tmp 2 20) 3 (encL c86 ([] : List S86)) rfl rfl rfl) ?_
 simp +decide only [Nat.reduceAdd, Nat.reduceMul, Int.reduceToNat, ak]
 refine hJ1 _ ?_
 refine sr_k fun J2 hJ2 => ?_
 obtain ⟨b3, h⟩ := of_guard h
 have g4 : ((List.replicate (l0.length : Int).toNat [.int .i64 0, .int .i64 0, .int .i64 0]).flatten.map Cell.sc) = encL c86 (List.replicate (l0.length : Int).toNat (z86 : S86)) := encL_zeros _ _ _ rfl
 simp +decide only [Nat.reduceAdd, Nat.reduceMul, Int.reduceToNat, ak, b3, g4]
 refine hJ2 _ ?_
 refine seq_k fun J5 hJ5 => ?_
 refine sr_k fun J6 hJ6 => ?_
 simp +decide only [Nat.reduceAdd, Nat.reduceMul, Int.reduceToNat, ak]
 refine hJ6 _ ?_
 refine block_k fun B7 B7n B7x B7r B7j => ?_
 obtain ⟨y29, h30, h⟩ := of_bind h
 refine gh_k (st' := ⟨[(0, .c (.ref (.arg 0) [] o0 l0.length)), (3, .c (.ref (.tmp 7 0) [] 0 ((List.replicate (l0.length : Int).toNat (z86 : S86)).length))), (4, .c (.sc (.int .i64 0)))], [(.arg 0, ⟨.fz, 3, cs0⟩), (.tmp 7 0, ⟨.lst, 3, encL c86 (List.replicate (l0.length : Int).toNat (z86 : S86))⟩)], [], []⟩) (wk [0, 3, 4] [pI (.arg 0) .fz, pI (.tmp 7 0) .lst] (h0 := by first | rfl | simp +decide only [ak, akF, b3]) (h := by first | rfl | (simp +decide only [ak, akF, b3]; done) | (simp +decide [ak, akF, b3] <;> omega))) ?_
 rw [e_loop]
 refine laws_toPathViewS.l0_walk cs0 o0 l0 hv0 0 (List.replicate (l0.length : Int).toNat (z86 : S86)) _ h30 _ ?_
 refine B7x _ ?_
 refine hJ5 _ ?_
 refine sr_k fun J31 hJ31 => ?_
 simp +decide only [Nat.reduceAdd, Nat.reduceMul, Int.reduceToNat, ak]
 refine hJ31 _ ?_
 obtain rfl := Option.some.inj h
 refine hKr _ ⟨_, rfl, [⟨(.tmp 7 0), [], none, .lst⟩], _, rfl, rfl, ?_⟩
 first | rfl | (simp only [reduceCtorEq, Nat.reduceEqDiff, ak, akF, b3]; done) | (simp [reduceCtorEq, Nat.reduceEqDiff, ak, akF, b3] <;> omega)
/-! ### laws.toMapping: function 73 -/
def C73 : AC := .seq (.reg [.op none (.box 1 (.tmp 0)), .op none (.alloc 2 [.int .u64 0, .int .i64 0, .int .i64 0, .int .i64 0, .int .i64 0]), .keep [1, 2]]) (.seq (.reg [.op none (.alloc 3 [.int .u64 0, .int .i64 0, .int .i64 0, .int .i64 0, .int .i64 0]), .keep [1, 2, 3]]) (.seq (.reg [.op none (.faddr 4 0 (.tmp 1)), .op none (.load 5 false 1 (.tmp 4)), .op none (.faddr 6 0 (.tmp 3)), .op none (.store 1 (.tmp 6) (.tmp 5)), .keep [1, 2, 3]]) (.seq (.reg [.op none (.faddr 7 1 (.tmp 1)), .op none (.load 8 false 1 (.tmp 7)), .op none (.faddr 9 1 (.tmp 3)), .op none (.store 1 (.tmp 9) (.tmp 8)), .keep [1, 2, 3]]) (.seq (.reg [.op none (.faddr 10 2 (.tmp 1)), .op none (.load 11 false 1 (.tmp 10)), .op none (.faddr 12 2 (.tmp 3)), .op none (.store 1 (.tmp 12) (.tmp 11)), .keep [1, 2, 3]]) (.seq (.reg [.op none (.faddr 13 3 (.tmp 1)), .op none (.load 14 false 1 (.tmp 13)), .op none (.faddr 15 3 (.tmp 3)), .op none (.store 1 (.tmp 15) (.tmp 14)), .keep [1, 2, 3]]) (.seq (.reg [.op none (.faddr 16 4 (.tmp 1)), .op none (.load 17 false 1 (.tmp 16)), .op none (.faddr 18 4 (.tmp 3)), .op none (.store 1 (.tmp 18) (.tmp 17)), .keep [2, 3]]) (.seq (.reg [.op none (.load 19 true 5 (.tmp 3)), .op none (.store 5 (.tmp 2) (.tmp 19)), .keep [2]]) (.ret))))))))
def r73 : List RV := [.cell 2 true 5]
theorem k73 : compC Try.prog 20 C73 (Try.f73.body.getD .skip) = some C73.erase := by kernel_rfl
theorem q73 : rvsOf Try.prog Try.f73.results.toList = some r73 := by kernel_rfl
def laws_toMapping.f (a0_0 : Int) (a0_1 : Int) (a0_2 : Int) (a0_3 : Int) (a0_4 : Int) : Option (Int × Int × Int × Int × Int) := (some (a0_0, a0_1, a0_2, a0_3, a0_4))
theorem laws_toMapping.tri (a0_0 : Int) (a0_1 : Int) (a0_2 : Int) (a0_3 : Int) (a0_4 : Int) (r : Int × Int × Int × Int × Int) (h : laws_toMapping.f a0_0 a0_1 a0_2 a0_3 a0_4 = some r) : Tri Try.prog 73 [.g [.sc (.int .u64 a0_0), .sc (.int .i64 a0_1), .sc (.int .i64 a0_2), .sc (.int .i64 a0_3), .sc (.int .i64 a0_4)]] [] (fun o => o = ⟨.g [.sc (.int .u64 r.1), .sc (.int .i64 r.2.1), .sc (.int .i64 r.2.2.1), .sc (.int .i64 r.2.2.2.1), .sc (.int .i64 r.2.2.2.2)], [], [], []⟩) := by
 refine tri_of_body (ac := C73) (xs := r73) Try.func73 (show Try.f73.body = some (Try.f73.body.getD .skip) from rfl) k73 q73 (Nat.le_of_ble_eq_true rfl) ?_
 refine body_of fun K hKn hKr => ?_
 unfold laws_toMapping.f at h
 unfold C73
 simp only [initT, Nat.reduceAdd]
 refine sr_k fun J1 hJ1 => ?_
 simp +decide only [Nat.reduceAdd, Nat.reduceMul, Int.reduceToNat, ak]
 refine hJ1 _ ?_
 refine sr_k fun J2 hJ2 => ?_
 simp +decide only [Nat.reduceAdd, Nat.reduceMul, Int.reduceToNat, ak]
 refine hJ2 _ ?_
 refine sr_k fun J3 hJ3 => ?_
 simp +decide only [Nat.reduceAdd, Nat.reduceMul, Int.reduceToNat, ak]
 refine hJ3 _ ?_
 refine sr_k fun J4 hJ4 => ?_
 simp +decide only [Nat.reduceAdd, Nat.reduceMul, Int.reduceToNat, ak]
 refine hJ4 _ ?_
 refine sr_k fun J5 hJ5 => ?_
 simp +decide only [Nat.reduceAdd, Nat.reduceMul, Int.reduceToNat, ak]
 refine hJ5 _ ?_
 refine sr_k fun J6 hJ6 => ?_
 simp +decide only [Nat.reduceAdd, Nat.reduceMul, Int.reduceToNat, ak]
 refine hJ6 _ ?_
 refine sr_k fun J7 hJ7 => ?_
 simp +decide only [Nat.reduceAdd, Nat.reduceMul, Int.reduceToNat, ak]
 refine hJ7 _ ?_
 refine sr_k fun J8 hJ8 => ?_
 simp +decide only [Nat.reduceAdd, Nat.reduceMul, Int.reduceToNat, ak]
 refine hJ8 _ ?_
 obtain rfl := Option.some.inj h
 refine hKr _ ⟨_, rfl, [], _, rfl, rfl, ?_⟩
 first | rfl | (simp only [reduceCtorEq, Nat.reduceEqDiff, ak, akF]; done) | (simp [reduceCtorEq, Nat.reduceEqDiff, ak, akF] <;> omega)
/-! ### laws.toMappingS: function 29 -/
def C29_l0 : AC := .seq (.seq (.reg [.op none (.mv 8 (.tmp 4)), .op none (.mv 9 (.tmp 0)), .op none (.len 10 (.tmp 9)), .op none (.bin 11 .lss (.tmp 8) (.tmp 10)), .keep [0, 3, 4, 11]]) (.cond (.tmp 11) (.skip) (.gh (.exit 0)))) (.seq (.block 1 (.reg [.op none (.mv 14 (.tmp 3)), .op none (.mv 15 (.tmp 4)), .op none (.mv 16 (.tmp 0)), .op none (.mv 17 (.tmp 4)), .op none (.iaddr 18 5 (.tmp 16) (.tmp 17)), .op none (.load 19 true 5 (.tmp 18)), .call none (some 20) 73 [.tmp 19], .op none (.iaddr 21 5 (.tmp 14) (.tmp 15)), .op none (.store 5 (.tmp 21) (.tmp 20)), .keep [0, 3, 4]])) (.reg [.op none (.mv 12 (.tmp 4)), .op none (.bin 13 .add (.tmp 12) (.const (.int .i64 1))), .op none (.mv 4 (.tmp 13)), .keep [0, 3, 4]]))
def C29 : AC := .seq (.reg [.op none (.mv 2 (.const (.slice none 0 0))), .gh, .keep [0]]) (.seq (.reg [.op none (.mv 5 (.tmp 0)), .op none (.len 6 (.tmp 5)), .op none (.mslice 7 5 40 [.int .u64 0, .int .i64 0, .int .i64 0, .int .i64 0, .int .i64 0] (.tmp 6)), .op none (.mv 3 (.tmp 7)), .keep [0, 3]]) (.seq (.seq (.reg [.op none (.mv 4 (.const (.int .i64 0))), .keep [0, 3, 4]]) (.block 0 (.gh (.loop (.ga C29_l0))))) (.seq (.reg [.op none (.mv 22 (.tmp 3)), .op none (.mv 2 (.tmp 22)), .keep [2]]) (.ret))))
def r29 : List RV := [.tmp 2]
theorem k29 : compC Try.prog 23 C29 (Try.f29.body.getD .skip) = some C29.erase := by kernel_rfl
theorem q29 : rvsOf Try.prog Try.f29.results.toList = some r29 := by kernel_rfl
def laws_toMappingS.l0 (l0 : List S109) (x0_0 : Int) (x0_1 : (List S84)) : Option (List S84) := (if x0_0 < (l0.length : Int) then (if 0 ≤ x0_0 ∧ x0_0 < (l0.length : Int) then (laws_toMapping.f ((rd z109 l0 x0_0).f0) ((rd z109 l0 x0_0).f1) ((rd z109 l0 x0_0).f2) ((rd z109 l0 x0_0).f3) ((rd z109 l0 x0_0).f4) >>= fun t15 => (if 0 ≤ x0_0 ∧ x0_0 < (x0_1.length : Int) then (laws_toMappingS.l0 l0 (IntKind.i64.wrap (x0_0 + 1)) (x0_1.set x0_0.toNat (⟨t15.1, t15.2.1, t15.2.2.1, t15.2.2.2.1, t15.2.2.2.2⟩ : S84))) else none)) else none) else (some x0_1))
 partial_fixpoint
def laws_toMappingS.f (l0 : List S109) : Option (List S84) := (if 0 ≤ (l0.length : Int) ∧ (l0.length : Int) < 9223372036854775808 ∧ ((40 : Nat) : Int) * (l0.length : Int) ≤ 281474976710656 then (laws_toMappingS.l0 l0 0 (List.replicate (l0.length : Int).toNat (z84 : S84)) >>= fun (y35 : (List S84)) => (some y35)) else none)
def laws_toMappingS.l0_M (cs0 : List Cell) (o0 : Nat) (l0 : List S109) (hv0 : Vw c109 5 cs0 o0 l0) (x0_0 : Int) (x0_1 : (List S84)) (y : (List S84)) : Prop := ∀ (K : AE → St → Prop), (K (.exit 0) ⟨[(3, .c (.ref (.tmp 7 0) [] 0 y.length))], [(.arg 0, ⟨.fz, 5, cs0⟩), (.tmp 7 0, ⟨.lst, 5, encL c84 y⟩)], [], []⟩) → loopS Try.prog 23 (.ga C29_l0) K ⟨[(0, .c (.ref (.arg 0) [] o0 l0.length)), (3, .c (.ref (.tmp 7 0) [] 0 x0_1.length)), (4, .c (.sc (.int .i64 x0_0)))], [(.arg 0, ⟨.fz, 5, cs0⟩), (.tmp 7 0, ⟨.lst, 5, encL c84 x0_1⟩)], [], []⟩
theorem laws_toMappingS.l0_walk (cs0 : List Cell) (o0 : Nat) (l0 : List S109) (hv0 : Vw c109 5 cs0 o0 l0) (x0_0 : Int) (x0_1 : (List S84)) (y : (List S84)) (h : laws_toMappingS.l0 l0 x0_0 x0_1 = some y) : laws_toMappingS.l0_M cs0 o0 l0 hv0 x0_0 x0_1 y := by
 refine laws_toMappingS.l0.partial_correctness l0 (motive := fun x0_0 x0_1 y => laws_toMappingS.l0_M cs0 o0 l0 hv0 x0_0 x0_1 y) ?_ x0_0 x0_1 y h
 clear h
 unfold laws_toMappingS.l0_M
 intro rec ih x0_0 x0_1 y h K hx0
 refine loop_unroll (ga_k fun G0 G0n G0r G0x => ?_)
 unfold C29_l0
 refine seq_k fun J8 hJ8 => ?_
 refine sr_k fun J9 hJ9 => ?_
 simp +decide only [Nat.reduceAdd, Nat.reduceMul, Int.reduceToNat, ak]
 refine hJ9 _ ?_
 refine cond_k (b := decide (x0_0 < (l0.length : Int))) rfl (fun c10 => ?_) (fun c10 => ?_)
 ·replace c10 := of_decide_eq_true c10; rw [if_pos c10] at h
  refine hJ8 _ ?_
  refine seq_k fun J11 hJ11 => ?_
  refine block_k fun B12 B12n B12x B12r B12j => ?_
  refine reg_k ?_
  obtain ⟨b13, h⟩ := of_guard h
  have g14 : (List.drop (o0 + x0_0.toNat * 5) (cs0)).take 5 = [.sc (.int .u64 ((rd z109 l0 x0_0).f0)), .sc (.int .i64 ((rd z109 l0 x0_0).f1)), .sc (.int .i64 ((rd z109 l0 x0_0).f2)), .sc (.int .i64 ((rd z109 l0 x0_0).f3)), .sc (.int .i64 ((rd z109 l0 x0_0).f4))] := hv0.stretch z109 b13.1 b13.2
  simp +decide only [Nat.reduceAdd, Nat.reduceMul, Int.reduceToNat, ak, b13, g14]
  obtain ⟨t15, h16, h⟩ := of_bind h
  refine call_m [] (s0 := []) (by intro t ht; cases ht; decide) rfl rfl (by first | rfl | simp only [reduceCtorEq, Nat.reduceEqDiff, ak, akF, b13, g14]) (laws_toMapping.tri ((rd z109 l0 x0_0).f0) ((rd z109 l0 x0_0).f1) ((rd z109 l0 x0_0).f2) ((rd z109 l0 x0_0).f3) ((rd z109 l0 x0_0).f4) _ h16) (by first | rfl | simp only [reduceCtorEq, Nat.reduceEqDiff, ak, akF]) (by simp [bkOk2, memK]) (fun hl16 => ?_)
  refine call_st (s4 := [(.arg 0, ⟨.fz, 5, cs0⟩), (.tmp 7 0, ⟨.lst, 5, encL c84 x0_1⟩)]) (m1' := []) (m2' := []) (v' := .g [.sc (.int .u64 t15.1), .sc (.int .i64 t15.2.1), .sc (.int .i64 t15.2.2.1), .sc (.int .i64 t15.2.2.2.1), .sc (.int .i64 t15.2.2.2.2)]) (Sto.mapN_killNil _ _) (mrgL_nil' _ _ _) (by rfl) (mapT_killNil _ _) (by rfl) (by rfl) (by first | rfl | simp only [reduceCtorEq, Nat.reduceEqDiff, ak, akF, Nat.zero_add, List.append_nil, b13]) ?_
  obtain ⟨b18, h⟩ := of_guard h
  have g19 : 0 + x0_0.toNat * 5 + 5 ≤ (encL c84 x0_1).length := (Vw.whole c84_w x0_1).le b18.1 b18.2 (j := 0) (q := 5) (by decide)
  have g20 : 0 + x0_0.toNat * 5 < (encL c84 x0_1).length := (Vw.whole c84_w x0_1).lt b18.1 b18.2 (j := 0) (by decide)
  have g21 : (encL c84 x0_1)[0 + x0_0.toNat * 5]? = some (.sc (.int .u64 ((rd z84 x0_1 x0_0).f0))) := (Vw.whole c84_w x0_1).get z84 0 b18.1 b18.2 (by decide)
  have g22 : (encL c84 x0_1).set (0 + x0_0.toNat * 5) (.sc (.int .u64 t15.1)) = encL c84 (x0_1.set x0_0.toNat (⟨t15.1, (rd z84 x0_1 x0_0).f1, (rd z84 x0_1 x0_0).f2, (rd z84 x0_1 x0_0).f3, (rd z84 x0_1 x0_0).f4⟩ : S84)) := encL_put c84_w z84 b18.1 b18.2 (j := 0) (by decide) rfl
  have g23 : 0 + x0_0.toNat * 5 + 1 < (encL c84 (x0_1.set x0_0.toNat (⟨t15.1, (rd z84 x0_1 x0_0).f1, (rd z84 x0_1 x0_0).f2, (rd z84 x0_1 x0_0).f3, (rd z84 x0_1 x0_0).f4⟩ : S84))).length := encL_put_lt c84_w (⟨t15.1, (rd z84 x0_1 x0_0).f1, (rd z84 x0_1 x0_0).f2, (rd z84 x0_1 x0_0).f3, (rd z84 x0_1 x0_0).f4⟩ : S84) b18.1 b18.2 (j := 1) (by decide)
  have g24 : (encL c84 (x0_1.set x0_0.toNat (⟨t15.1, (rd z84 x0_1 x0_0).f1, (rd z84 x0_1 x0_0).f2, (rd z84 x0_1 x0_0).f3, (rd z84 x0_1 x0_0).f4⟩ : S84)))[0 + x0_0.toNat * 5 + 1]? = some (.sc (.int .i64 ((rd z84 x0_1 x0_0).f1))) := encL_put_get c84_w (⟨t15.1, (rd z84 x0_1 x0_0).f1, (rd z84 x0_1 x0_0).f2, (rd z84 x0_1 x0_0).f3, (rd z84 x0_1 x0_0).f4⟩ : S84) b18.1 b18.2 (j := 1) (by decide)
  have g25 : (encL c84 (x0_1.set x0_0.toNat (⟨t15.1, (rd z84 x0_1 x0_0).f1, (rd z84 x0_1 x0_0).f2, (rd z84 x0_1 x0_0).f3, (rd z84 x0_1 x0_0).f4⟩ : S84))).set (0 + x0_0.toNat * 5 + 1) (.sc (.int .i64 t15.2.1)) = encL c84 (x0_1.set x0_0.toNat (⟨t15.1, t15.2.1, (rd z84 x0_1 x0_0).f2, (rd z84 x0_1 x0_0).f3, (rd z84 x0_1 x0_0).f4⟩ : S84)) := encL_put2 c84_w b18.1 b18.2 (j := 1) (by decide) rfl
  have g26 : 0 + x0_0.toNat * 5 + 2 < (encL c84 (x0_1.set x0_0.toNat (⟨t15.1, t15.2.1, (rd z84 x0_1 x0_0).f2, (rd z84 x0_1 x0_0).f3, (rd z84 x0_1 x0_0).f4⟩ : S84))).length := encL_put_lt c84_w (⟨t15.1, t15.2.1, (rd z84 x0_1 x0_0).f2, (rd z84 x0_1 x0_0).f3, (rd z84 x0_1 x0_0).f4⟩ : S84) b18.1 b18.2 (j := 2) (by decide)
  have g27 : (encL c84 (x0_1.set x0_0.toNat (⟨t15.1, t15.2.1, (rd z84 x0_1 x0_0).f2, (rd z84 x0_1 x0_0).f3, (rd z84 x0_1 x0_0).f4⟩ : S84)))[0 + x0_0.toNat * 5 + 2]? = some (.sc (.int .i64 ((rd z84 x0_1 x0_0).f2))) := encL_put_get c84_w (⟨t15.1, t15.2.1, (rd z84 x0_1 x0_0).f2, (rd z84 x0_1 x0_0).f3, (rd z84 x0_1 x0_0).f4⟩ : S84) b18.1 b18.2 (j := 2) (by decide)
  have g28 : (encL c84 (x0_1.set x0_0.toNat (⟨t15.1, t15.2.1, (rd z84 x0_1 x0_0).f2, (rd z84 x0_1 x0_0).f3, (rd z84 x0_1 x0_0).f4⟩ : S84))).set (0 + x0_0.toNat * 5 + 2) (.sc (.int .i64 t15.2.2.1)) = encL c84 (x0_1.set x0_0.toNat (⟨t15.1, t15.2.1, t15.2.2.1, (rd z84 x0_1 x0_0).f3, (rd z84 x0_1 x0_0).f4⟩ : S84)) := encL_put2 c84_w b18.1 b18.2 (j := 2) (by decide) rfl
  have g29 : 0 + x0_0.toNat * 5 + 3 < (encL c84 (x0_1.set x0_0.toNat (⟨t15.1, t15.2.1, t15.2.2.1, (rd z84 x0_1 x0_0).f3, (rd z84 x0_1 x0_0).f4⟩ : S84))).length := encL_put_lt c84_w (⟨t15.1, t15.2.1, t15.2.2.1, (rd z84 x0_1 x0_0).f3, (rd z84 x0_1 x0_0).f4⟩ : S84) b18.1 b18.2 (j := 3) (by decide)
  have g30 : (encL c84 (x0_1.set x0_0.toNat (⟨t15.1, t15.2.1, t15.2.2.1, (rd z84 x0_1 x0_0).f3, (rd z84 x0_1 x0_0).f4⟩ : S84)))[0 + x0_0.toNat * 5 + 3]? = some (.sc (.int .i64 ((rd z84 x0_1 x0_0).f3))) := encL_put_get c84_w (⟨t15.1, t15.2.1, t15.2.2.1, (rd z84 x0_1 x0_0).f3, (rd z84 x0_1 x0_0).f4⟩ : S84) b18.1 b18.2 (j := 3) (by decide)
  have g31 : (encL c84 (x0_1.set x0_0.toNat (⟨t15.1, t15.2.1, t15.2.2.1, (rd z84 x0_1 x0_0).f3, (rd z84 x0_1 x0_0).f4⟩ : S84))).set (0 + x0_0.toNat * 5 + 3) (.sc (.int .i64 t15.2.2.2.1)) = encL c84 (x0_1.set x0_0.toNat (⟨t15.1, t15.2.1, t15.2.2.1, t15.2.2.2.1, (rd z84 x0_1 x0_0).f4⟩ : S84)) := encL_put2 c84_w b18.1 b18.2 (j := 3) (by decide) rfl
  have g32 : 0 + x0_0.toNat * 5 + 4 < (encL c84 (x0_1.set x0_0.toNat (⟨t15.1, t15.2.1, t15.2.2.1, t15.2.2.2.1, (rd z84 x0_1 x0_0).f4⟩ : S84))).length := encL_put_lt c84_w (⟨t15.1, t15.2.1, t15.2.2.1, t15.2.2.2.1, (rd z84 x0_1 x0_0).f4⟩ : S84) b18.1 b18.2 (j := 4) (by decide)
  have g33 : (encL c84 (x0_1.set x0_0.toNat (⟨t15.1, t15.2.1, t15.2.2.1, t15.2.2.2.1, (rd z84 x0_1 x0_0).f4⟩ : S84)))[0 + x0_0.toNat * 5 + 4]? = some (.sc (.int .i64 ((rd z84 x0_1 x0_0).f4))) := encL_put_get c84_w (⟨t15.1, t15.2.1, t15.2.2.1, t15.2.2.2.1, (rd z84 x0_1 x0_0).f4⟩ : S84) b18.1 b18.2 (j := 4) (by decide)
  have g34 : (encL c84 (x0_1.set x0_0.toNat (⟨t15.1, t15.2.1, t15.2.2.1, t15.2.2.2.1, (rd z84 x0_1 x0_0).f4⟩ : S84))).set (0 + x0_0.toNat * 5 + 4) (.sc (.int .i64 t15.2.2.2.2)) = encL c84 (x0_1.set x0_0.toNat (⟨t15.1, t15.2.1, t15.2.2.1, t15.2.2.2.1, t15.2.2.2.2⟩ : S84)) := encL_put2 c84_w b18.1 b18.2 (j := 4) (by decide) rfl
  simp +decide only [Nat.reduceAdd, Nat.reduceMul, Int.reduceToNat, ak, b18, g19, g20, g21, g22, g23, g24, g25, g26, g27, g28, g29, g30, g31, g32, g33, g34]
  refine B12n _ ?_
  refine hJ11 _ ?_
  refine reg_k ?_
  simp +decide only [Nat.reduceAdd, Nat.reduceMul, Int.reduceToNat, ak]
  refine G0n _ _ (wk [0, 3, 4] [pI (.arg 0) .fz, pI (.tmp 7 0) .lst] (h0 := by first | rfl | simp +decide only [ak, akF, b13, b18]) (h := by first | rfl | (simp +decide only [ak, akF, b13, b18]; done) | (simp +decide [ak, akF, b13, b18] <;> omega))) (ih _ _ _ h K hx0)
 ·replace c10 := of_decide_eq_false c10; rw [if_neg c10] at h
  obtain rfl := Option.some.inj h
  refine gh_k (wk [3] [pI (.arg 0) .fz, pI (.tmp 7 0) .lst]) ?_
  refine G0x _ _ ?_
  exact hx0
theorem laws_toMappingS.tri (cs0 : List Cell) (o0 : Nat) (l0 : List S109) (hv0 : Vw c109 5 cs0 o0 l0) (r : (List S84)) (h : laws_toMappingS.f l0 = some r) : Tri Try.prog 29 [.c (.ref (.arg 0) [] o0 l0.length)] [(.arg 0, ⟨.fz, 5, cs0⟩)] (fun o => o = ⟨.c (.ref (.res 0) [] 0 r.length), [(.arg 0, ⟨.fz, 5, cs0⟩), (.res 0, ⟨.lst, 5, encL c84 r⟩)], [], []⟩) := by
 refine tri_of_body (ac := C29) (xs := r29) Try.func29 (show Try.f29.body = some (Try.f29.body.getD .skip) from rfl) k29 q29 (Nat.le_of_ble_eq_true rfl) ?_
 refine body_of fun K hKn hKr => ?_
 unfold laws_toMappingS.f at h
 unfold C29
 simp only [initT, Nat.reduceAdd]
 refine sr_k fun J1 hJ1 => ?_
 simp +decide only [Nat.reduceAdd, Nat.reduceMul, Int.reduceToNat, ak]
 refine gho_k (Weak.nm' 2 (.tmp 2 20) 5 (encL c84 ([] : List S84)) rfl rfl rfl) ?_
 simp +decide only [Nat.reduceAdd, Nat.reduceMul, Int.reduceToNat, ak]
 refine hJ1 _ ?_
 refine sr_k fun J2 hJ2 => ?_
 obtain ⟨b3, h⟩ := of_guard h
 have g4 : ((List.replicate (l0.length : Int).toNat [.int .u64 0, .int .i64 0, .int .i64 0, .int .i64 0, .int .i64 0]).flatten.map Cell.sc) = encL c84 (List.replicate (l0.length : Int).toNat (z84 : S84)) := encL_zeros _ _ _ rfl
 simp +decide only [Nat.reduceAdd, Nat.reduceMul, Int.reduceToNat, ak, b3, g4]
 refine hJ2 _ ?_
 refine seq_k fun J5 hJ5 => ?_
 refine sr_k fun J6 hJ6 => ?_
 simp +decide only [Nat.reduceAdd, Nat.reduceMul, Int.reduceToNat, ak]
 refine hJ6 _ ?_
 refine block_k fun B7 B7n B7x B7r B7j => ?_
 obtain ⟨y35, h36, h⟩ := of_bind h
 refine gh_k (st' := ⟨[(0, .c (.ref (.arg 0) [] o0 l0.length)), (3, .c (.ref (.tmp 7 0) [] 0 ((List.replicate (l0.length : Int).toNat (z84 : S84)).length))), (4, .c (.sc (.int .i64 0)))], [(.arg 0, ⟨.fz, 5, cs0⟩), (.tmp 7 0, ⟨.lst, 5, encL c84 (List.replicate (l0.length : Int).toNat (z84 : S84))⟩)], [], []⟩) (wk [0, 3, 4] [pI (.arg 0) .fz, pI (.tmp 7 0) .lst] (h0 := by first | rfl | simp +decide only [ak, akF, b3]) (h := by first | rfl | (simp +decide only [ak, akF, b3]; done) | (simp +decide [ak, akF, b3] <;> omega))) ?_
 rw [e_loop]
 refine laws_toMappingS.l0_walk cs0 o0 l0 hv0 0 (List.replicate (l0.length : Int).toNat (z84 : S84)) _ h36 _ ?_
 refine B7x _ ?_
 refine hJ5 _ ?_
 refine sr_k fun J37 hJ37 => ?_
 simp +decide only [Nat.reduceAdd, Nat.reduceMul, Int.reduceToNat, ak]
 refine hJ37 _ ?_
 obtain rfl := Option.some.inj h
 refine hKr _ ⟨_, rfl, [⟨(.tmp 7 0), [], none, .lst⟩], _, rfl, rfl, ?_⟩
 first | rfl | (simp only [reduceCtorEq, Nat.reduceEqDiff, ak, akF, b3]; done) | (simp [reduceCtorEq, Nat.reduceEqDiff, ak, akF, b3] <;> omega)
/-! ### laws.toSchedInput: function 47 -/
def C47 : AC := .seq (.reg [.op none (.box 1 (.tmp 0)), .op none (.alloc 2 [.int .i64 0, .int .i64 0, .slice none 0 0, .slice none 0 0, .slice none 0 0, .int .i64 0, .int .u64 0, .int .u64 0, .int .u64 0, .int .i64 0, .int .i64 0, .int .i64 0]), .gh, .keep [1, 2]]) (.seq (.reg [.op none (.alloc 3 [.int .i64 0, .int .i64 0, .slice none 0 0, .slice none 0 0, .slice none 0 0, .int .i64 0, .int .u64 0, .int .u64 0, .int .u64 0, .int .i64 0, .int .i64 0, .int .i64 0]), .gh, .keep [1, 2, 3]]) (.seq (.reg [.op none (.faddr 4 0 (.tmp 1)), .op none (.load 5 false 1 (.tmp 4)), .op none (.faddr 6 0 (.tmp 3)), .op none (.store 1 (.tmp 6) (.tmp 5)), .keep [1, 2, 3]]) (.seq (.reg [.op none (.faddr 7 1 (.tmp 1)), .op none (.load 8 false 1 (.tmp 7)), .op none (.faddr 9 1 (.tmp 3)), .op none (.store 1 (.tmp 9) (.tmp 8)), .keep [1, 2, 3]]) (.seq (.reg [.op none (.faddr 10 2 (.tmp 1)), .op none (.load 11 false 1 (.tmp 10)), .call none (some 12) 88 [.tmp 11], .op none (.faddr 13 2 (.tmp 3)), .op none (.store 1 (.tmp 13) (.tmp 12)), .keep [1, 2, 3]]) (.seq (.reg [.op none (.faddr 14 3 (.tmp 1)), .op none (.load 15 false 1 (.tmp 14)), .call none (some 16) 38 [.tmp 15], .op none (.faddr 17 3 (.tmp 3)), .op none (.store 1 (.tmp 17) (.tmp 16)), .keep [1, 2, 3]]) (.seq (.reg [.op none (.faddr 18 4 (.tmp 1)), .op none (.load 19 false 1 (.tmp 18)), .call none (some 20) 29 [.tmp 19], .op none (.faddr 21 4 (.tmp 3)), .op none (.store 1 (.tmp 21) (.tmp 20)), .keep [1, 2, 3]]) (.seq (.reg [.op none (.faddr 22 5 (.tmp 1)), .op none (.load 23 false 1 (.tmp 22)), .op none (.faddr 24 5 (.tmp 3)), .op none (.store 1 (.tmp 24) (.tmp 23)), .keep [1, 2, 3]]) (.seq (.reg [.op none (.faddr 25 6 (.tmp 1)), .op none (.load 26 false 1 (.tmp 25)), .op none (.faddr 27 6 (.tmp 3)), .op none (.store 1 (.tmp 27) (.tmp 26)), .keep [1, 2, 3]]) (.seq (.reg [.op none (.faddr 28 7 (.tmp 1)), .op none (.load 29 false 1 (.tmp 28)), .op none (.faddr 30 7 (.tmp 3)), .op none (.store 1 (.tmp 30) (.tmp 29)), .keep [1, 2, 3]]) (.seq (.reg [.op none (.faddr 31 8 (.tmp 1)), .op none (.load 32 false 1 (.tmp 31)), .op none (.faddr 33 8 (.tmp 3)), .op none (.store 1 (.tmp 33) (.tmp 32)), .keep [1, 2, 3]]) (.seq (.reg [.op none (.faddr 34 9 (.tmp 1)), .op none (.load 35 false 1 (.tmp 34)), .op none (.faddr 36 9 (.tmp 3)), .op none (.store 1 (.tmp 36) (.tmp 35)), .keep [1, 2, 3]]) (.seq (.reg [.op none (.faddr 37 10 (.tmp 1)), .op none (.load 38 false 1 (.tmp 37)), .op none (.faddr 39 10 (.tmp 3)), .op none (.store 1 (.tmp 39) (.tmp 38)), .keep [1, 2, 3]]) (.seq (.reg [.op none (.faddr 40 11 (.tmp 1)), .op none (.load 41 false 1 (.tmp 40)), .op none (.faddr 42 11 (.tmp 3)), .op none (.store 1 (.tmp 42) (.tmp 41)), .keep [2, 3]]) (.seq (.reg [.op none (.load 43 true 12 (.tmp 3)), .op none (.store 12 (.tmp 2) (.tmp 43)), .keep [2]]) (.ret)))))))))))))))
def r47 : List RV := [.cell 2 true 12]
theorem k47 : compC Try.prog 44 C47 (Try.f47.body.getD .skip) = some C47.erase := by kernel_rfl
theorem q47 : rvsOf Try.prog Try.f47.results.toList = some r47 := by kernel_rfl
def laws_toSchedInput.f (a0_0 : Int) (a0_1 : Int) (l0_2 : List Int) (l0_3 : List S117) (l0_4 : List S109) (a0_5 : Int) (a0_6 : Int) (a0_7 : Int) (a0_8 : Int) (a0_9 : Int) (a0_10 : Int) (a0_11 : Int) : Option (Int × Int × (List Int) × (List S86) × (List S84) × Int × Int × Int × Int × Int × Int × Int) := (laws_toInt64S.f l0_2 >>= fun t6 => (laws_toPathViewS.f l0_3 >>= fun t11 => (laws_toMappingS.f l0_4 >>= fun t16 => (some (a0_0, a0_1, t6, t11, t16, a0_5, a0_6, a0_7, a0_8, a0_9, a0_10, a0_11)))))
theorem laws_toSchedInput.tri (cs0 : List Cell) (o0 : Nat) (l0_2 : List Int) (hv0 : Vw c_i64 1 cs0 o0 l0_2) (cs1 : List Cell) (o1 : Nat) (l0_3 : List S117) (hv1 : Vw c117 3 cs1 o1 l0_3) (cs2 : List Cell) (o2 : Nat) (l0_4 : List S109) (hv2 : Vw c109 5 cs2 o2 l0_4) (a0_0 : Int) (a0_1 : Int) (a0_5 : Int) (a0_6 : Int) (a0_7 : Int) (a0_8 : Int) (a0_9 : Int) (a0_10 : Int) (a0_11 : Int) (r : Int × Int × (List Int) × (List S86) × (List S84) × Int × Int × Int × Int × Int × Int × Int) (h : laws_toSchedInput.f a0_0 a0_1 l0_2 l0_3 l0_4 a0_5 a0_6 a0_7 a0_8 a0_9 a0_10 a0_11 = some r) : Tri Try.prog 47 [.g [.sc (.int .i64 a0_0), .sc (.int .i64 a0_1), .ref (.arg 0) [] o0 l0_2.length, .ref (.arg 1) [] o1 l0_3.length, .ref (.arg 2) [] o2 l0_4.length, .sc (.int .i64 a0_5), .sc (.int .u64 a0_6), .sc (.int .u64 a0_7), .sc (.int .u64 a0_8), .sc (.int .i64 a0_9), .sc (.int .i64 a0_10), .sc (.int .i64 a0_11)]] [(.arg 0, ⟨.fz, 1, cs0⟩), (.arg 1, ⟨.fz, 3, cs1⟩), (.arg 2, ⟨.fz, 5, cs2⟩)] (fun o => o = ⟨.g [.sc (.int .i64 r.1), .sc (.int .i64 r.2.1), .ref (.res 0) [] 0 r.2.2.1.length, .ref (.res 1) [] 0 r.2.2.2.1.length, .ref (.res 2) [] 0 r.2.2.2.2.1.length, .sc (.int .i64 r.2.2.2.2.2.1), .sc (.int .u64 r.2.2.2.2.2.2.1), .sc (.int .u64 r.2.2.2.2.2.2.2.1), .sc (.int .u64 r.2.2.2.2.2.2.2.2.1), .sc (.int .i64 r.2.2.2.2.2.2.2.2.2.1), .sc (.int .i64 r.2.2.2.2.2.2.2.2.2.2.1), .sc (.int .i64 r.2.2.2.2.2.2.2.2.2.2.2)], [(.arg 0, ⟨.fz, 1, cs0⟩), (.arg 1, ⟨.fz, 3, cs1⟩), (.arg 2, ⟨.fz, 5, cs2⟩), (.res 0, ⟨.lst, 1, encL c_i64 r.2.2.1⟩), (.res 1, ⟨.lst, 3, encL c86 r.2.2.2.1⟩), (.res 2, ⟨.lst, 5, encL c84 r.2.2.2.2.1⟩)], [], []⟩) := by
 refine tri_of_body (ac := C47) (xs := r47) Try.func47 (show Try.f47.body = some (Try.f47.body.getD .skip) from rfl) k47 q47 (Nat.le_of_ble_eq_true rfl) ?_
 refine body_of fun K hKn hKr => ?_
 unfold laws_toSchedInput.f at h
 unfold C47
 simp only [initT, Nat.reduceAdd]
 refine sr_k fun J1 hJ1 => ?_
 simp +decide only [Nat.reduceAdd, Nat.reduceMul, Int.reduceToNat, ak]
 refine gho_k (Weak.own (.tmp 2 0) (cs' := [.sc (.int .i64 0), .sc (.int .i64 0), .own 1 (([] : List Int).length) (encL c_i64 ([] : List Int)), .own 3 (([] : List S86).length) (encL c86 ([] : List S86)), .own 5 (([] : List S84).length) (encL c84 ([] : List S84)), .sc (.int .i64 0), .sc (.int .u64 0), .sc (.int .u64 0), .sc (.int .u64 0), .sc (.int .i64 0), .sc (.int .i64 0), .sc (.int .i64 0)]) rfl ⟨.inl rfl, .inl rfl, .inr ⟨rfl, _, rfl⟩, .inr ⟨rfl, _, rfl⟩, .inr ⟨rfl, _, rfl⟩, .inl rfl, .inl rfl, .inl rfl, .inl rfl, .inl rfl, .inl rfl, .inl rfl, trivial⟩) ?_
 simp +decide only [Nat.reduceAdd, Nat.reduceMul, Int.reduceToNat, ak]
 refine hJ1 _ ?_
 refine sr_k fun J2 hJ2 => ?_
 simp +decide only [Nat.reduceAdd, Nat.reduceMul, Int.reduceToNat, ak]
 refine gho_k (Weak.own (.tmp 3 0) (cs' := [.sc (.int .i64 0), .sc (.int .i64 0), .own 1 (([] : List Int).length) (encL c_i64 ([] : List Int)), .own 3 (([] : List S86).length) (encL c86 ([] : List S86)), .own 5 (([] : List S84).length) (encL c84 ([] : List S84)), .sc (.int .i64 0), .sc (.int .u64 0), .sc (.int .u64 0), .sc (.int .u64 0), .sc (.int .i64 0), .sc (.int .i64 0), .sc (.int .i64 0)]) rfl ⟨.inl rfl, .inl rfl, .inr ⟨rfl, _, rfl⟩, .inr ⟨rfl, _, rfl⟩, .inr ⟨rfl, _, rfl⟩, .inl rfl, .inl rfl, .inl rfl, .inl rfl, .inl rfl, .inl rfl, .inl rfl, trivial⟩) ?_
 simp +decide only [Nat.reduceAdd, Nat.reduceMul, Int.reduceToNat, ak]
 refine hJ2 _ ?_
 refine sr_k fun J3 hJ3 => ?_
 simp +decide only [Nat.reduceAdd, Nat.reduceMul, Int.reduceToNat, ak]
 refine hJ3 _ ?_
 refine sr_k fun J4 hJ4 => ?_
 simp +decide only [Nat.reduceAdd, Nat.reduceMul, Int.reduceToNat, ak]
 refine hJ4 _ ?_
 refine sr_k fun J5 hJ5 => ?_
 simp +decide only [Nat.reduceAdd, Nat.reduceMul, Int.reduceToNat, ak]
 obtain ⟨t6, h7, h⟩ := of_bind h
 refine call_m [(.arg 0, ⟨(.arg 0), [], none, .fz⟩)] (s0 := [(.arg 0, ⟨.fz, 1, cs0⟩)]) (by intro t ht; cases ht; decide) rfl rfl (by first | rfl | simp only [reduceCtorEq, Nat.reduceEqDiff, ak, akF]) (laws_toInt64S.tri (cs0) o0 l0_2 hv0 _ h7) (by first | rfl | simp only [reduceCtorEq, Nat.reduceEqDiff, ak, akF]) (by simp [bkOk2, memK]) (fun hl7 => ?_)
 refine call_st (s4 := [(.arg 0, ⟨.fz, 1, cs0⟩), (.arg 1, ⟨.fz, 3, cs1⟩), (.arg 2, ⟨.fz, 5, cs2⟩), (.tmp 1 0, ⟨.box, 0, [.sc (.int .i64 a0_0), .sc (.int .i64 a0_1), .ref (.arg 0) [] o0 l0_2.length, .ref (.arg 1) [] o1 l0_3.length, .ref (.arg 2) [] o2 l0_4.length, .sc (.int .i64 a0_5), .sc (.int .u64 a0_6), .sc (.int .u64 a0_7), .sc (.int .u64 a0_8), .sc (.int .i64 a0_9), .sc (.int .i64 a0_10), .sc (.int .i64 a0_11)]⟩), (.tmp 2 0, ⟨.box, 0, [.sc (.int .i64 0), .sc (.int .i64 0), .own 1 (([] : List Int).length) (encL c_i64 ([] : List Int)), .own 3 (([] : List S86).length) (encL c86 ([] : List S86)), .own 5 (([] : List S84).length) (encL c84 ([] : List S84)), .sc (.int .i64 0), .sc (.int .u64 0), .sc (.int .u64 0), .sc (.int .u64 0), .sc (.int .i64 0), .sc (.int .i64 0), .sc (.int .i64 0)]⟩), (.tmp 3 0, ⟨.box, 0, [.sc (.int .i64 a0_0), .sc (.int .i64 a0_1), .own 1 (([] : List Int).length) (encL c_i64 ([] : List Int)), .own 3 (([] : List S86).length) (encL c86 ([] : List S86)), .own 5 (([] : List S84).length) (encL c84 ([] : List S84)), .sc (.int .i64 0), .sc (.int .u64 0), .sc (.int .u64 0), .sc (.int .u64 0), .sc (.int .i64 0), .sc (.int .i64 0), .sc (.int .i64 0)]⟩), (.tmp 12 0, ⟨.lst, 1, encL c_i64 t6⟩)]) (m1' := []) (m2' := []) (v' := .c (.ref (.tmp 12 0) [] 0 t6.length)) (Sto.mapN_killNil _ _) (mrgL_fz (mrgL_nil' _ _ _) rfl (by first | rfl | simp only [reduceCtorEq, Nat.reduceEqDiff, ak]) rfl (by intro R hR hh; cases hR; cases hh.2)) (by rfl) (mapT_killNil _ _) (by rfl) (by rfl) (by first | rfl | simp only [reduceCtorEq, Nat.reduceEqDiff, ak, akF, Nat.zero_add, List.append_nil]) ?_
 have g9 : (encL c_i64 t6).length = t6.length * 1 := by simp [encL_length c_i64_w]
 simp +decide only [Nat.reduceAdd, Nat.reduceMul, Int.reduceToNat, ak, g9]
 refine hJ5 _ ?_
 refine sr_k fun J10 hJ10 => ?_
 simp +decide only [Nat.reduceAdd, Nat.reduceMul, Int.reduceToNat, ak]
 obtain ⟨t11, h12, h⟩ := of_bind h
 refine call_m [(.arg 0, ⟨(.arg 1), [], none, .fz⟩)] (s0 := [(.arg 0, ⟨.fz, 3, cs1⟩)]) (by intro t ht; cases ht; decide) rfl rfl (by first | rfl | simp only [reduceCtorEq, Nat.reduceEqDiff, ak, akF, g9]) (laws_toPathViewS.tri (cs1) o1 l0_3 hv1 _ h12) (by first | rfl | simp only [reduceCtorEq, Nat.reduceEqDiff, ak, akF]) (by simp [bkOk2, memK]) (fun hl12 => ?_)
 refine call_st (s4 := [(.arg 0, ⟨.fz, 1, cs0⟩), (.arg 1, ⟨.fz, 3, cs1⟩), (.arg 2, ⟨.fz, 5, cs2⟩), (.tmp 1 0, ⟨.box, 0, [.sc (.int .i64 a0_0), .sc (.int .i64 a0_1), .ref (.arg 0) [] o0 l0_2.length, .ref (.arg 1) [] o1 l0_3.length, .ref (.arg 2) [] o2 l0_4.length, .sc (.int .i64 a0_5), .sc (.int .u64 a0_6), .sc (.int .u64 a0_7), .sc (.int .u64 a0_8), .sc (.int .i64 a0_9), .sc (.int .i64 a0_10), .sc (.int .i64 a0_11)]⟩), (.tmp 2 0, ⟨.box, 0, [.sc (.int .i64 0), .sc (.int .i64 0), .own 1 (([] : List Int).length) (encL c_i64 ([] : List Int)), .own 3 (([] : List S86).length) (encL c86 ([] : List S86)), .own 5 (([] : List S84).length) (encL c84 ([] : List S84)), .sc (.int .i64 0), .sc (.int .u64 0), .sc (.int .u64 0), .sc (.int .u64 0), .sc (.int .i64 0), .sc (.int .i64 0), .sc (.int .i64 0)]⟩), (.tmp 3 0, ⟨.box, 0, [.sc (.int .i64 a0_0), .sc (.int .i64 a0_1), .own 1 t6.length (encL c_i64 t6), .own 3 (([] : List S86).length) (encL c86 ([] : List S86)), .own 5 (([] : List S84).length) (encL c84 ([] : List S84)), .sc (.int .i64 0), .sc (.int .u64 0), .sc (.int .u64 0), .sc (.int .u64 0), .sc (.int .i64 0), .sc (.int .i64 0), .sc (.int .i64 0)]⟩), (.tmp 16 0, ⟨.lst, 3, encL c86 t11⟩)]) (m1' := []) (m2' := []) (v' := .c (.ref (.tmp 16 0) [] 0 t11.length)) (Sto.mapN_killNil _ _) (mrgL_fz (mrgL_nil' _ _ _) rfl (by first | rfl | simp only [reduceCtorEq, Nat.reduceEqDiff, ak, g9]) rfl (by intro R hR hh; cases hR; cases hh.2)) (by rfl) (mapT_killNil _ _) (by rfl) (by rfl) (by first | rfl | simp only [reduceCtorEq, Nat.reduceEqDiff, ak, akF, Nat.zero_add, List.append_nil]) ?_
 have g14 : (encL c86 t11).length = t11.length * 3 := by simp [encL_length c86_w]
 simp +decide only [Nat.reduceAdd, Nat.reduceMul, Int.reduceToNat, ak, g14]
 refine hJ10 _ ?_
 refine sr_k fun J15 hJ15 => ?_
 simp +decide only [Nat.reduceAdd, Nat.reduceMul, Int.reduceToNat, ak]
 obtain ⟨t16, h17, h⟩ := of_bind h
 refine call_m [(.arg 0, ⟨(.arg 2), [], none, .fz⟩)] (s0 := [(.arg 0, ⟨.fz, 5, cs2⟩)]) (by intro t ht; cases ht; decide) rfl rfl (by first | rfl | simp only [reduceCtorEq, Nat.reduceEqDiff, ak, akF, g9, g14]) (laws_toMappingS.tri (cs2) o2 l0_4 hv2 _ h17) (by first | rfl | simp only [reduceCtorEq, Nat.reduceEqDiff, ak, akF]) (by simp [bkOk2, memK]) (fun hl17 => ?_)
 refine call_st (s4 := [(.arg 0, ⟨.fz, 1, cs0⟩), (.arg 1, ⟨.fz, 3, cs1⟩), (.arg 2, ⟨.fz, 5, cs2⟩), (.tmp 1 0, ⟨.box, 0, [.sc (.int .i64 a0_0), .sc (.int .i64 a0_1), .ref (.arg 0) [] o0 l0_2.length, .ref (.arg 1) [] o1 l0_3.length, .ref (.arg 2) [] o2 l0_4.length, .sc (.int .i64 a0_5), .sc (.int .u64 a0_6), .sc (.int .u64 a0_7), .sc (.int .u64 a0_8), .sc (.int .i64 a0_9), .sc (.int .i64 a0_10), .sc (.int .i64 a0_11)]⟩), (.tmp 2 0, ⟨.box, 0, [.sc (.int .i64 0), .sc (.int .i64 0), .own 1 (([] : List Int).length) (encL c_i64 ([] : List Int)), .own 3 (([] : List S86).length) (encL c86 ([] : List S86)), .own 5 (([] : List S84).length) (encL c84 ([] : List S84)), .sc (.int .i64 0), .sc (.int .u64 0), .sc (.int .u64 0), .sc (.int .u64 0), .sc (.int .i64 0), .sc (.int .i64 0), .sc (.int .i64 0)]⟩), (.tmp 3 0, ⟨.box, 0, [.sc (.int .i64 a0_0), .sc (.int .i64 a0_1), .own 1 t6.length (encL c_i64 t6), .own 3 t11.length (encL c86 t11), .own 5 (([] : List S84).length) (encL c84 ([] : List S84)), .sc (.int .i64 0), .sc (.int .u64 0), .sc (.int .u64 0), .sc (.int .u64 0), .sc (.int .i64 0), .sc (.int .i64 0), .sc (.int .i64 0)]⟩), (.tmp 20 0, ⟨.lst, 5, encL c84 t16⟩)]) (m1' := []) (m2' := []) (v' := .c (.ref (.tmp 20 0) [] 0 t16.length)) (Sto.mapN_killNil _ _) (mrgL_fz (mrgL_nil' _ _ _) rfl (by first | rfl | simp only [reduceCtorEq, Nat.reduceEqDiff, ak, g9, g14]) rfl (by intro R hR hh; cases hR; cases hh.2)) (by rfl) (mapT_killNil _ _) (by rfl) (by rfl) (by first | rfl | simp only [reduceCtorEq, Nat.reduceEqDiff, ak, akF, Nat.zero_add, List.append_nil]) ?_
 have g19 : (encL c84 t16).length = t16.length * 5 := by simp [encL_length c84_w]
 simp +decide only [Nat.reduceAdd, Nat.reduceMul, Int.reduceToNat, ak, g19]
 refine hJ15 _ ?_
 refine sr_k fun J20 hJ20 => ?_
 simp +decide only [Nat.reduceAdd, Nat.reduceMul, Int.reduceToNat, ak]
 refine hJ20 _ ?_
 refine sr_k fun J21 hJ21 => ?_
 simp +decide only [Nat.reduceAdd, Nat.reduceMul, Int.reduceToNat, ak]
 refine hJ21 _ ?_
 refine sr_k fun J22 hJ22 => ?_
 simp +decide only [Nat.reduceAdd, Nat.reduceMul, Int.reduceToNat, ak]
 refine hJ22 _ ?_
 refine sr_k fun J23 hJ23 => ?_
 simp +decide only [Nat.reduceAdd, Nat.reduceMul, Int.reduceToNat, ak]
 refine hJ23 _ ?_
 refine sr_k fun J24 hJ24 => ?_
 simp +decide only [Nat.reduceAdd, Nat.reduceMul, Int.reduceToNat, ak]
 refine hJ24 _ ?_
 refine sr_k fun J25 hJ25 => ?_
 simp +decide only [Nat.reduceAdd, Nat.reduceMul, Int.reduceToNat, ak]
 refine hJ25 _ ?_
 refine sr_k fun J26 hJ26 => ?_
 simp +decide only [Nat.reduceAdd, Nat.reduceMul, Int.reduceToNat, ak]
 refine hJ26 _ ?_
 refine sr_k fun J27 hJ27 => ?_
 simp +decide only [Nat.reduceAdd, Nat.reduceMul, Int.reduceToNat, ak]
 refine hJ27 _ ?_
 obtain rfl := Option.some.inj h
 refine hKr _ ⟨_, rfl, [⟨(.tmp 3 0), [2], none, .lst⟩, ⟨(.tmp 3 0), [3], none, .lst⟩, ⟨(.tmp 3 0), [4], none, .lst⟩], _, rfl, rfl, ?_⟩
 first | rfl | (simp only [reduceCtorEq, Nat.reduceEqDiff, ak, akF]; done) | (simp [reduceCtorEq, Nat.reduceEqDiff, ak, akF] <;> omega)
/-! ### spec.l6PathsOK: function 78 -/
def C78_l0 : AC := .seq (.seq (.reg [.op none (.mv 13 (.tmp 3)), .op none (.mv 14 (.tmp 0)), .op none (.len 15 (.tmp 14)), .op none (.bin 16 .lss (.tmp 13) (.tmp 15)), .keep [0, 3, 16]]) (.cond (.tmp 16) (.skip) (.gh (.exit 0)))) (.seq (.block 1 (.seq (.reg [.op none (.mv 19 (.tmp 0)), .op none (.mv 20 (.tmp 3)), .op none (.iaddr 21 3 (.tmp 19) (.tmp 20)), .op none (.load 22 true 3 (.tmp 21)), .op none (.alloc 4 [.int .i64 0, .int .i64 0, .int .i64 0]), .op none (.store 3 (.tmp 4) (.tmp 22)), .keep [0, 3, 4]]) (.seq (.ga (.reg [.op none (.faddr 23 0 (.tmp 4)), .op none (.load 24 false 1 (.tmp 23)), .op none (.bin 25 .neq (.tmp 24) (.const (.int .i64 0))), .op none (.mv 26 (.tmp 25)), .op (some (26, true)) (.faddr 27 0 (.tmp 4)), .op (some (26, true)) (.load 28 false 1 (.tmp 27)), .op (some (26, true)) (.bin 29 .neq (.tmp 28) (.const (.int .i64 1))), .op none (.pick 30 (.tmp 26) (.tmp 29) (.const (.bool false))), .op none (.mv 31 (.tmp 30)), .op (some (31, false)) (.faddr 32 1 (.tmp 4)), .op (some (31, false)) (.load 33 false 1 (.tmp 32)), .op (some (31, false)) (.bin 34 .lss (.tmp 33) (.const (.int .i64 0))), .op none (.pick 35 (.tmp 31) (.const (.bool true)) (.tmp 34)), .op none (.mv 36 (.tmp 35)), .op (some (36, false)) (.faddr 37 1 (.tmp 4)), .op (some (36, false)) (.load 38 false 1 (.tmp 37)), .op (some (36, false)) (.bin 39 .gtr (.tmp 38) (.const (.int .i64 16))), .op none (.pick 40 (.tmp 36) (.const (.bool true)) (.tmp 39)), .op none (.mv 41 (.tmp 40)), .op (some (41, false)) (.faddr 42 2 (.tmp 4)), .op (some (41, false)) (.load 43 false 1 (.tmp 42)), .op (some (41, false)) (.bin 44 .lss (.tmp 43) (.const (.int .i64 0))), .op none (.pick 45 (.tmp 41) (.const (.bool true)) (.tmp 44)), .op none (.mv 46 (.tmp 45)), .op (some (46, false)) (.faddr 47 2 (.tmp 4)), .op (some (46, false)) (.load 48 false 1 (.tmp 47)), .op (some (46, false)) (.bin 49 .gtr (.tmp 48) (.const (.int .i64 16))), .op none (.pick 50 (.tmp 46) (.const (.bool true)) (.tmp 49)), .keep [0, 3, 50]])) (.cond (.tmp 50) (.seq (.reg [.op none (.mv 2 (.const (.bool false))), .keep [2]]) (.gh .ret)) (.skip))))) (.reg [.op none (.mv 17 (.tmp 3)), .op none (.bin 18 .add (.tmp 17) (.const (.int .i64 1))), .op none (.mv 3 (.tmp 18)), .keep [0, 3]]))
def C78 : AC := .seq (.reg [.op none (.mv 2 (.const (.bool false))), .keep [0]]) (.seq (.seq (.ga (.reg [.op none (.mv 5 (.tmp 0)), .op none (.len 6 (.tmp 5)), .op none (.bin 7 .lss (.tmp 6) (.const (.int .i64 1))), .op none (.mv 8 (.tmp 7)), .op (some (8, false)) (.mv 9 (.tmp 0)), .op (some (8, false)) (.len 10 (.tmp 9)), .op (some (8, false)) (.bin 11 .gtr (.tmp 10) (.const (.int .i64 8))), .op none (.pick 12 (.tmp 8) (.const (.bool true)) (.tmp 11)), .keep [0, 12]])) (.cond (.tmp 12) (.seq (.reg [.op none (.mv 2 (.const (.bool false))), .keep [2]]) (.ret)) (.skip))) (.seq (.seq (.reg [.op none (.mv 3 (.const (.int .i64 0))), .keep [0, 3]]) (.block 0 (.gh (.loop (.ga C78_l0))))) (.seq (.reg [.op none (.mv 2 (.const (.bool true))), .keep [2]]) (.ret))))
def r78 : List RV := [.tmp 2]
theorem k78 : compC Try.prog 51 C78 (Try.f78.body.getD .skip) = some C78.erase := by kernel_rfl
theorem q78 : rvsOf Try.prog Try.f78.results.toList = some r78 := by kernel_rfl
def spec_l6PathsOK.l0 (l0 : List S86) (x0_0 : Int) : Option (Lp Unit Bool) := (if x0_0 < (l0.length : Int) then (if 0 ≤ x0_0 ∧ x0_0 < (l0.length : Int) then ((if (rd z86 l0 x0_0).f0 ≠ 0 then (if (rd z86 l0 x0_0).f0 ≠ 1 then (some true) else (if (rd z86 l0 x0_0).f1 < 0 then (some true) else (if (rd z86 l0 x0_0).f1 > 16 then (some true) else (if (rd z86 l0 x0_0).f2 < 0 then (some true) else (some (decide ((rd z86 l0 x0_0).f2 > 16))))))) else (if (rd z86 l0 x0_0).f1 < 0 then (some true) else (if (rd z86 l0 x0_0).f1 > 16 then (some true) else (if (rd z86 l0 x0_0).f2 < 0 then (some true) else (some (decide ((rd z86 l0 x0_0).f2 > 16))))))) >>= fun (j23 : Bool) => (if j23 = true then (some (.b false)) else (spec_l6PathsOK.l0 l0 (IntKind.i64.wrap (x0_0 + 1))))) else none) else (some (.a ())))
 partial_fixpoint
def spec_l6PathsOK.f (l0 : List S86) : Option Bool := ((if (l0.length : Int) < 1 then (some true) else (some (decide ((l0.length : Int) > 8)))) >>= fun (j3 : Bool) => (if j3 = true then (some false) else (spec_l6PathsOK.l0 l0 0 >>= fun (y53 : Lp Unit Bool) => match y53 with | .a x55 => (some true) | .b x55 => (some x55))))
def spec_l6PathsOK.l0_M (cs0 : List Cell) (o0 : Nat) (l0 : List S86) (hv0 : Vw c86 3 cs0 o0 l0) (x0_0 : Int) (y : Lp Unit Bool) : Prop := ∀ (K : AE → St → Prop), (∀ x, y = .a x → K (.exit 0) ⟨[], [(.arg 0, ⟨.fz, 3, cs0⟩)], [], []⟩) → (∀ x, y = .b x → K .ret ⟨[(2, .c (.sc (.bool x)))], [(.arg 0, ⟨.fz, 3, cs0⟩)], [], []⟩) → loopS Try.prog 51 (.ga C78_l0) K ⟨[(0, .c (.ref (.arg 0) [] o0 l0.length)), (3, .c (.sc (.int .i64 x0_0)))], [(.arg 0, ⟨.fz, 3, cs0⟩)], [], []⟩
theorem spec_l6PathsOK.l0_walk (cs0 : List Cell) (o0 : Nat) (l0 : List S86) (hv0 : Vw c86 3 cs0 o0 l0) (x0_0 : Int) (y : Lp Unit Bool) (h : spec_l6PathsOK.l0 l0 x0_0 = some y) : spec_l6PathsOK.l0_M cs0 o0 l0 hv0 x0_0 y := by
 refine spec_l6PathsOK.l0.partial_correctness l0 (motive := fun x0_0 y => spec_l6PathsOK.l0_M cs0 o0 l0 hv0 x0_0 y) ?_ x0_0 y h
 clear h
 unfold spec_l6PathsOK.l0_M
 intro rec ih x0_0 y h K hx0 hx1
 refine loop_unroll (ga_k fun G0 G0n G0r G0x => ?_)
 unfold C78_l0
 refine seq_k fun J15 hJ15 => ?_
 refine sr_k fun J16 hJ16 => ?_
 simp +decide only [Nat.reduceAdd, Nat.reduceMul, Int.reduceToNat, ak]
 refine hJ16 _ ?_
 refine cond_k (b := decide (x0_0 < (l0.length : Int))) rfl (fun c17 => ?_) (fun c17 => ?_)
 ·replace c17 := of_decide_eq_true c17; rw [if_pos c17] at h
  refine hJ15 _ ?_
  refine seq_k fun J18 hJ18 => ?_
  refine block_k fun B19 B19n B19x B19r B19j => ?_
  refine sr_k fun J20 hJ20 => ?_
  obtain ⟨b21, h⟩ := of_guard h
  have g22 : (List.drop (o0 + x0_0.toNat * 3) (cs0)).take 3 = [.sc (.int .i64 ((rd z86 l0 x0_0).f0)), .sc (.int .i64 ((rd z86 l0 x0_0).f1)), .sc (.int .i64 ((rd z86 l0 x0_0).f2))] := hv0.stretch z86 b21.1 b21.2
  simp +decide only [Nat.reduceAdd, Nat.reduceMul, Int.reduceToNat, ak, b21, g22]
  refine hJ20 _ ?_
  obtain ⟨j23, h24, hn⟩ := of_bind h
  refine seq_j (fun st => st = ⟨[(0, .c (.ref (.arg 0) [] o0 l0.length)), (3, .c (.sc (.int .i64 x0_0))), (50, .c (.sc (.bool j23)))], [(.arg 0, ⟨.fz, 3, cs0⟩)], [], []⟩) (fun J25 hJ25 => ?_) ?_
  ·replace h := h24; clear hn
   refine ga_k fun G26 G26n G26r G26x => ?_
   refine reg_k ?_
   simp +decide only [Nat.reduceAdd, Nat.reduceMul, Int.reduceToNat, ak]
   by_cases c27 : (rd z86 l0 x0_0).f0 ≠ 0
   ·rw [if_pos c27] at h
    have e28 : decide ((rd z86 l0 x0_0).f0 ≠ 0) = true := decide_eq_true c27
    simp +decide only [Nat.reduceAdd, Nat.reduceMul, Int.reduceToNat, ak, e28]
    by_cases c29 : (rd z86 l0 x0_0).f0 ≠ 1
    ·rw [if_pos c29] at h
     have e30 : decide ((rd z86 l0 x0_0).f0 ≠ 1) = true := decide_eq_true c29
     simp +decide only [Nat.reduceAdd, Nat.reduceMul, Int.reduceToNat, ak, e30]
     obtain rfl := Option.some.inj h
     refine G26n _ _ (wk [0, 3, 50] [pI (.arg 0) .fz] (h0 := by first | rfl | simp +decide only [ak, akF, b21, e28, e30]) (h := by first | rfl | (simp +decide only [ak, akF, b21, e28, e30]; done) | (simp +decide [ak, akF, b21, e28, e30] <;> omega))) (hJ25 _ rfl)
    ·rw [if_neg c29] at h
     have e31 : decide ((rd z86 l0 x0_0).f0 ≠ 1) = false := decide_eq_false c29
     simp +decide only [Nat.reduceAdd, Nat.reduceMul, Int.reduceToNat, ak, e31]
     by_cases c32 : (rd z86 l0 x0_0).f1 < 0
     ·rw [if_pos c32] at h
      have e33 : decide ((rd z86 l0 x0_0).f1 < 0) = true := decide_eq_true c32
      simp +decide only [Nat.reduceAdd, Nat.reduceMul, Int.reduceToNat, ak, e33]
      obtain rfl := Option.some.inj h
      refine G26n _ _ (wk [0, 3, 50] [pI (.arg 0) .fz] (h0 := by first | rfl | simp +decide only [ak, akF, b21, e28, e31, e33]) (h := by first | rfl | (simp +decide only [ak, akF, b21, e28, e31, e33]; done) | (simp +decide [ak, akF, b21, e28, e31, e33] <;> omega))) (hJ25 _ rfl)
     ·rw [if_neg c32] at h
      have e34 : decide ((rd z86 l0 x0_0).f1 < 0) = false := decide_eq_false c32
      simp +decide only [Nat.reduceAdd, Nat.reduceMul, Int.reduceToNat, ak, e34]
      by_cases c35 : (rd z86 l0 x0_0).f1 > 16
      ·rw [if_pos c35] at h
       have e36 : decide ((rd z86 l0 x0_0).f1 > 16) = true := decide_eq_true c35
       simp +decide only [Nat.reduceAdd, Nat.reduceMul, Int.reduceToNat, ak, e36]
       obtain rfl := Option.some.inj h
       refine G26n _ _ (wk [0, 3, 50] [pI (.arg 0) .fz] (h0 := by first | rfl | simp +decide only [ak, akF, b21, e28, e31, e34, e36]) (h := by first | rfl | (simp +decide only [ak, akF, b21, e28, e31, e34, e36]; done) | (simp +decide [ak, akF, b21, e28, e31, e34, e36] <;> omega))) (hJ25 _ rfl)
      ·rw [if_neg c35] at h
       have e37 : decide ((rd z86 l0 x0_0).f1 > 16) = false := decide_eq_false c35
       simp +decide only [Nat.reduceAdd, Nat.reduceMul, Int.reduceToNat, ak, e37]
       by_cases c38 : (rd z86 l0 x0_0).f2 < 0
       ·rw [if_pos c38] at h
        have e39 : decide ((rd z86 l0 x0_0).f2 < 0) = true := decide_eq_true c38
        simp +decide only [Nat.reduceAdd, Nat.reduceMul, Int.reduceToNat, ak, e39]
        obtain rfl := Option.some.inj h
        refine G26n _ _ (wk [0, 3, 50] [pI (.arg 0) .fz] (h0 := by first | rfl | simp +decide only [ak, akF, b21, e28, e31, e34, e37, e39]) (h := by first | rfl | (simp +decide only [ak, akF, b21, e28, e31, e34, e37, e39]; done) | (simp +decide [ak, akF, b21, e28, e31, e34, e37, e39] <;> omega))) (hJ25 _ rfl)
       ·rw [if_neg c38] at h
        have e40 : decide ((rd z86 l0 x0_0).f2 < 0) = false := decide_eq_false c38
        simp +decide only [Nat.reduceAdd, Nat.reduceMul, Int.reduceToNat, ak, e40]
        obtain rfl := Option.some.inj h
        refine G26n _ _ (wk [0, 3, 50] [pI (.arg 0) .fz] (h0 := by first | rfl | simp +decide only [ak, akF, b21, e28, e31, e34, e37, e40]) (h := by first | rfl | (simp +decide only [ak, akF, b21, e28, e31, e34, e37, e40]; done) | (simp +decide [ak, akF, b21, e28, e31, e34, e37, e40] <;> omega))) (hJ25 _ rfl)
   ·rw [if_neg c27] at h
    have e41 : decide ((rd z86 l0 x0_0).f0 ≠ 0) = false := decide_eq_false c27
    simp +decide only [Nat.reduceAdd, Nat.reduceMul, Int.reduceToNat, ak, e41]
    by_cases c42 : (rd z86 l0 x0_0).f1 < 0
    ·rw [if_pos c42] at h
     have e43 : decide ((rd z86 l0 x0_0).f1 < 0) = true := decide_eq_true c42
     simp +decide only [Nat.reduceAdd, Nat.reduceMul, Int.reduceToNat, ak, e43]
     obtain rfl := Option.some.inj h
     refine G26n _ _ (wk [0, 3, 50] [pI (.arg 0) .fz] (h0 := by first | rfl | simp +decide only [ak, akF, b21, e41, e43]) (h := by first | rfl | (simp +decide only [ak, akF, b21, e41, e43]; done) | (simp +decide [ak, akF, b21, e41, e43] <;> omega))) (hJ25 _ rfl)
    ·rw [if_neg c42] at h
     have e44 : decide ((rd z86 l0 x0_0).f1 < 0) = false := decide_eq_false c42
     simp +decide only [Nat.reduceAdd, Nat.reduceMul, Int.reduceToNat, ak, e44]
     by_cases c45 : (rd z86 l0 x0_0).f1 > 16
     ·rw [if_pos c45] at h
      have e46 : decide ((rd z86 l0 x0_0).f1 > 16) = true := decide_eq_true c45
      simp +decide only [Nat.reduceAdd, Nat.reduceMul, Int.reduceToNat, ak, e46]
      obtain rfl := Option.some.inj h
      refine G26n _ _ (wk [0, 3, 50] [pI (.arg 0) .fz] (h0 := by first | rfl | simp +decide only [ak, akF, b21, e41, e44, e46]) (h := by first | rfl | (simp +decide only [ak, akF, b21, e41, e44, e46]; done) | (simp +decide [ak, akF, b21, e41, e44, e46] <;> omega))) (hJ25 _ rfl)
     ·rw [if_neg c45] at h
      have e47 : decide ((rd z86 l0 x0_0).f1 > 16) = false := decide_eq_false c45
      simp +decide only [Nat.reduceAdd, Nat.reduceMul, Int.reduceToNat, ak, e47]
      by_cases c48 : (rd z86 l0 x0_0).f2 < 0
      ·rw [if_pos c48] at h
       have e49 : decide ((rd z86 l0 x0_0).f2 < 0) = true := decide_eq_true c48
       simp +decide only [Nat.reduceAdd, Nat.reduceMul, Int.reduceToNat, ak, e49]
       obtain rfl := Option.some.inj h
       refine G26n _ _ (wk [0, 3, 50] [pI (.arg 0) .fz] (h0 := by first | rfl | simp +decide only [ak, akF, b21, e41, e44, e47, e49]) (h := by first | rfl | (simp +decide only [ak, akF, b21, e41, e44, e47, e49]; done) | (simp +decide [ak, akF, b21, e41, e44, e47, e49] <;> omega))) (hJ25 _ rfl)
      ·rw [if_neg c48] at h
       have e50 : decide ((rd z86 l0 x0_0).f2 < 0) = false := decide_eq_false c48
       simp +decide only [Nat.reduceAdd, Nat.reduceMul, Int.reduceToNat, ak, e50]
       obtain rfl := Option.some.inj h
       refine G26n _ _ (wk [0, 3, 50] [pI (.arg 0) .fz] (h0 := by first | rfl | simp +decide only [ak, akF, b21, e41, e44, e47, e50]) (h := by first | rfl | (simp +decide only [ak, akF, b21, e41, e44, e47, e50]; done) | (simp +decide [ak, akF, b21, e41, e44, e47, e50] <;> omega))) (hJ25 _ rfl)
  ·replace h := hn; clear hn h24
   rintro _ rfl
   refine cond_k (b := j23) rfl (fun c51 => ?_) (fun c51 => ?_)
   ·rw [if_pos c51] at h
    refine sr_k fun J52 hJ52 => ?_
    simp +decide only [Nat.reduceAdd, Nat.reduceMul, Int.reduceToNat, ak]
    refine hJ52 _ ?_
    obtain rfl := Option.some.inj h
    refine gh_k (wk [2] [pI (.arg 0) .fz]) ?_
    refine B19r _ ?_
    refine G0r _ ?_
    exact hx1 _ rfl
   ·rw [if_neg (Bool.eq_false_iff.1 c51)] at h
    refine B19n _ ?_
    refine hJ18 _ ?_
    refine reg_k ?_
    simp +decide only [Nat.reduceAdd, Nat.reduceMul, Int.reduceToNat, ak]
    refine G0n _ _ (wk [0, 3] [pI (.arg 0) .fz]) (ih _ _ h K hx0 hx1)
 ·replace c17 := of_decide_eq_false c17; rw [if_neg c17] at h
  obtain rfl := Option.some.inj h
  refine gh_k (wk [] [pI (.arg 0) .fz]) ?_
  refine G0x _ _ ?_
  exact hx0 _ rfl
theorem spec_l6PathsOK.tri (cs0 : List Cell) (o0 : Nat) (l0 : List S86) (hv0 : Vw c86 3 cs0 o0 l0) (r : Bool) (h : spec_l6PathsOK.f l0 = some r) : Tri Try.prog 78 [.c (.ref (.arg 0) [] o0 l0.length)] [(.arg 0, ⟨.fz, 3, cs0⟩)] (fun o => o = ⟨.c (.sc (.bool r)), [(.arg 0, ⟨.fz, 3, cs0⟩)], [], []⟩) := by
 refine tri_of_body (ac := C78) (xs := r78) Try.func78 (show Try.f78.body = some (Try.f78.body.getD .skip) from rfl) k78 q78 (Nat.le_of_ble_eq_true rfl) ?_
 refine body_of fun K hKn hKr => ?_
 unfold spec_l6PathsOK.f at h
 unfold C78
 simp only [initT, Nat.reduceAdd]
 refine sr_k fun J1 hJ1 => ?_
 simp +decide only [Nat.reduceAdd, Nat.reduceMul, Int.reduceToNat, ak]
 refine hJ1 _ ?_
 refine seq_k fun J2 hJ2 => ?_
 obtain ⟨j3, h4, hn⟩ := of_bind h
 refine seq_j (fun st => st = ⟨[(0, .c (.ref (.arg 0) [] o0 l0.length)), (12, .c (.sc (.bool j3)))], [(.arg 0, ⟨.fz, 3, cs0⟩)], [], []⟩) (fun J5 hJ5 => ?_) ?_
 ·replace h := h4; clear hn
  refine ga_k fun G6 G6n G6r G6x => ?_
  refine reg_k ?_
  simp +decide only [Nat.reduceAdd, Nat.reduceMul, Int.reduceToNat, ak]
  by_cases c7 : (l0.length : Int) < 1
  ·rw [if_pos c7] at h
   have e8 : decide ((l0.length : Int) < 1) = true := decide_eq_true c7
   simp +decide only [Nat.reduceAdd, Nat.reduceMul, Int.reduceToNat, ak, e8]
   obtain rfl := Option.some.inj h
   refine G6n _ _ (wk [0, 12] [pI (.arg 0) .fz] (h0 := by first | rfl | simp +decide only [ak, akF, e8]) (h := by first | rfl | (simp +decide only [ak, akF, e8]; done) | (simp +decide [ak, akF, e8] <;> omega))) (hJ5 _ rfl)
  ·rw [if_neg c7] at h
   have e9 : decide ((l0.length : Int) < 1) = false := decide_eq_false c7
   simp +decide only [Nat.reduceAdd, Nat.reduceMul, Int.reduceToNat, ak, e9]
   obtain rfl := Option.some.inj h
   refine G6n _ _ (wk [0, 12] [pI (.arg 0) .fz] (h0 := by first | rfl | simp +decide only [ak, akF, e9]) (h := by first | rfl | (simp +decide only [ak, akF, e9]; done) | (simp +decide [ak, akF, e9] <;> omega))) (hJ5 _ rfl)
 ·replace h := hn; clear hn h4
  rintro _ rfl
  refine cond_k (b := j3) rfl (fun c10 => ?_) (fun c10 => ?_)
  ·rw [if_pos c10] at h
   refine sr_k fun J11 hJ11 => ?_
   simp +decide only [Nat.reduceAdd, Nat.reduceMul, Int.reduceToNat, ak]
   refine hJ11 _ ?_
   obtain rfl := Option.some.inj h
   refine hKr _ ⟨_, rfl, [], _, rfl, rfl, ?_⟩
   first | rfl | (simp only [reduceCtorEq, Nat.reduceEqDiff, ak, akF]; done) | (simp [reduceCtorEq, Nat.reduceEqDiff, ak, akF] <;> omega)
  ·rw [if_neg (Bool.eq_false_iff.1 c10)] at h
   refine hJ2 _ ?_
   refine seq_k fun J12 hJ12 => ?_
   refine sr_k fun J13 hJ13 => ?_
   simp +decide only [Nat.reduceAdd, Nat.reduceMul, Int.reduceToNat, ak]
   refine hJ13 _ ?_
   refine block_k fun B14 B14n B14x B14r B14j => ?_
   obtain ⟨y53, h54, h⟩ := of_bind h
   refine gh_k (wk [0, 3] [pI (.arg 0) .fz]) ?_
   rw [e_loop]
   refine spec_l6PathsOK.l0_walk cs0 o0 l0 hv0 0 _ h54 _ ?_ ?_
   ·rintro x55 rfl
    dsimp only at h
    refine B14x _ ?_
    refine hJ12 _ ?_
    refine sr_k fun J56 hJ56 => ?_
    simp +decide only [Nat.reduceAdd, Nat.reduceMul, Int.reduceToNat, ak]
    refine hJ56 _ ?_
    obtain rfl := Option.some.inj h
    refine hKr _ ⟨_, rfl, [], _, rfl, rfl, ?_⟩
    first | rfl | (simp only [reduceCtorEq, Nat.reduceEqDiff, ak, akF]; done) | (simp [reduceCtorEq, Nat.reduceEqDiff, ak, akF] <;> omega)
   ·rintro x55 rfl
    dsimp only at h
    refine B14r _ ?_
    obtain rfl := Option.some.inj h
    refine hKr _ ⟨_, rfl, [], _, rfl, rfl, ?_⟩
    first | rfl | (simp only [reduceCtorEq, Nat.reduceEqDiff, ak, akF]; done) | (simp [reduceCtorEq, Nat.reduceEqDiff, ak, akF] <;> omega)
/-! ### spec.l6Mark: function 117 -/
def C117 : AC := .seq (.reg [.op none (.mv 2 (.const (.bool false))), .keep [0]]) (.seq (.reg [.op none (.mv 3 (.tmp 0)), .op none (.bin 4 .eql (.tmp 3) (.const (.int .i64 0))), .op none (.mv 5 (.tmp 4)), .op (some (5, false)) (.mv 6 (.tmp 0)), .op (some (5, false)) (.bin 7 .eql (.tmp 6) (.const (.int .i64 1))), .op none (.pick 8 (.tmp 5) (.const (.bool true)) (.tmp 7)), .op none (.mv 2 (.tmp 8)), .keep [2]]) (.ret))
def r117 : List RV := [.tmp 2]
theorem k117 : compC Try.prog 9 C117 (Try.f117.body.getD .skip) = some C117.erase := by kernel_rfl
theorem q117 : rvsOf Try.prog Try.f117.results.toList = some r117 := by kernel_rfl
def spec_l6Mark.f (a0 : Int) : Option Bool := (if a0 = 0 then (some true) else (some (decide (a0 = 1))))
theorem spec_l6Mark.tri (a0 : Int) (r : Bool) (h : spec_l6Mark.f a0 = some r) : Tri Try.prog 117 [.c (.sc (.int .i64 a0))] [] (fun o => o = ⟨.c (.sc (.bool r)), [], [], []⟩) := by
 refine tri_of_body (ac := C117) (xs := r117) Try.func117 (show Try.f117.body = some (Try.f117.body.getD .skip) from rfl) k117 q117 (Nat.le_of_ble_eq_true rfl) ?_
 refine body_of fun K hKn hKr => ?_
 unfold spec_l6Mark.f at h
 unfold C117
 simp only [initT, Nat.reduceAdd]
 refine sr_k fun J1 hJ1 => ?_
 simp +decide only [Nat.reduceAdd, Nat.reduceMul, Int.reduceToNat, ak]
 refine hJ1 _ ?_
 refine sr_k fun J2 hJ2 => ?_
 simp +decide only [Nat.reduceAdd, Nat.reduceMul, Int.reduceToNat, ak]
 by_cases c3 : a0 = 0
 ·rw [if_pos c3] at h
  have e4 : decide (a0 = 0) = true := decide_eq_true c3
  simp +decide only [Nat.reduceAdd, Nat.reduceMul, Int.reduceToNat, ak, e4]
  refine hJ2 _ ?_
  obtain rfl := Option.some.inj h
  refine hKr _ ⟨_, rfl, [], _, rfl, rfl, ?_⟩
  first | rfl | (simp only [reduceCtorEq, Nat.reduceEqDiff, ak, akF, e4]; done) | (simp [reduceCtorEq, Nat.reduceEqDiff, ak, akF, e4] <;> omega)
 ·rw [if_neg c3] at h
  have e5 : decide (a0 = 0) = false := decide_eq_false c3
  simp +decide only [Nat.reduceAdd, Nat.reduceMul, Int.reduceToNat, ak, e5]
  refine hJ2 _ ?_
  obtain rfl := Option.some.inj h
  refine hKr _ ⟨_, rfl, [], _, rfl, rfl, ?_⟩
  first | rfl | (simp only [reduceCtorEq, Nat.reduceEqDiff, ak, akF, e5]; done) | (simp [reduceCtorEq, Nat.reduceEqDiff, ak, akF, e5] <;> omega)
/-! ### spec.l6MapsOK: function 72 -/
def C72_l0 : AC := .seq (.seq (.reg [.op none (.mv 10 (.tmp 3)), .op none (.mv 11 (.tmp 0)), .op none (.len 12 (.tmp 11)), .op none (.bin 13 .lss (.tmp 10) (.tmp 12)), .keep [0, 3, 13]]) (.cond (.tmp 13) (.skip) (.gh (.exit 0)))) (.seq (.block 1 (.seq (.reg [.op none (.mv 16 (.tmp 0)), .op none (.mv 17 (.tmp 3)), .op none (.iaddr 18 5 (.tmp 16) (.tmp 17)), .op none (.load 19 true 5 (.tmp 18)), .op none (.alloc 4 [.int .u64 0, .int .i64 0, .int .i64 0, .int .i64 0, .int .i64 0]), .op none (.store 5 (.tmp 4) (.tmp 19)), .keep [0, 3, 4]]) (.seq (.seq (.ga (.reg [.op none (.faddr 20 0 (.tmp 4)), .op none (.load 21 false 1 (.tmp 20)), .op none (.bin 22 .gtr (.tmp 21) (.const (.int .u64 4611686018427387904))), .op none (.mv 23 (.tmp 22)), .op (some (23, false)) (.faddr 24 3 (.tmp 4)), .op (some (23, false)) (.load 25 false 1 (.tmp 24)), .op (some (23, false)) (.bin 26 .lss (.tmp 25) (.const (.int .i64 1))), .op none (.pick 27 (.tmp 23) (.const (.bool true)) (.tmp 26)), .op none (.mv 28 (.tmp 27)), .op (some (28, false)) (.faddr 29 3 (.tmp 4)), .op (some (28, false)) (.load 30 false 1 (.tmp 29)), .op (some (28, false)) (.bin 31 .gtr (.tmp 30) (.const (.int .i64 255))), .op none (.pick 32 (.tmp 28) (.const (.bool true)) (.tmp 31)), .op none (.mv 33 (.tmp 32)), .op (some (33, false)) (.faddr 34 4 (.tmp 4)), .op (some (33, false)) (.load 35 false 1 (.tmp 34)), .op (some (33, false)) (.bin 36 .neq (.tmp 35) (.const (.int .i64 0))), .op (some (33, false)) (.mv 37 (.tmp 36)), .op (some (37, true)) (.faddr 38 4 (.tmp 4)), .op (some (37, true)) (.load 39 false 1 (.tmp 38)), .op (some (37, true)) (.bin 40 .neq (.tmp 39) (.const (.int .i64 1))), .op (some (33, false)) (.pick 41 (.tmp 37) (.tmp 40) (.const (.bool false))), .op none (.pick 42 (.tmp 33) (.const (.bool true)) (.tmp 41)), .keep [0, 3, 4, 42]])) (.cond (.tmp 42) (.seq (.reg [.op none (.mv 2 (.const (.bool false))), .keep [2]]) (.gh .ret)) (.skip))) (.seq (.ga (.reg [.op none (.faddr 43 2 (.tmp 4)), .op none (.load 44 false 1 (.tmp 43)), .op none (.bin 45 .eql (.tmp 44) (.const (.int .i64 0))), .op none (.mv 46 (.tmp 45)), .op (some (46, true)) (.faddr 47 1 (.tmp 4)), .op (some (46, true)) (.load 48 false 1 (.tmp 47)), .op (some (46, true)) (.bin 49 .geq (.tmp 48) (.const (.int .i64 1))), .op none (.pick 50 (.tmp 46) (.tmp 49) (.const (.bool false))), .op none (.mv 51 (.tmp 50)), .op (some (51, true)) (.faddr 52 1 (.tmp 4)), .op (some (51, true)) (.load 53 false 1 (.tmp 52)), .op (some (51, true)) (.bin 54 .leq (.tmp 53) (.const (.int .i64 32))), .op none (.pick 55 (.tmp 51) (.tmp 54) (.const (.bool false))), .op none (.mv 5 (.tmp 55)), .keep [0, 3, 4, 5]])) (.seq (.ga (.reg [.op none (.faddr 56 2 (.tmp 4)), .op none (.load 57 false 1 (.tmp 56)), .op none (.bin 58 .eql (.tmp 57) (.const (.int .i64 1))), .op none (.mv 59 (.tmp 58)), .op (some (59, true)) (.faddr 60 1 (.tmp 4)), .op (some (59, true)) (.load 61 false 1 (.tmp 60)), .op (some (59, true)) (.bin 62 .eql (.tmp 61) (.const (.int .i64 0))), .op none (.pick 63 (.tmp 59) (.tmp 62) (.const (.bool false))), .op none (.mv 64 (.tmp 63)), .op (some (64, true)) (.mv 65 (.tmp 3)), .op (some (64, true)) (.mv 66 (.tmp 0)), .op (some (64, true)) (.len 67 (.tmp 66)), .op (some (64, true)) (.bin 68 .sub (.tmp 67) (.const (.int .i64 1))), .op (some (64, true)) (.bin 69 .eql (.tmp 65) (.tmp 68)), .op none (.pick 70 (.tmp 64) (.tmp 69) (.const (.bool false))), .op none (.mv 6 (.tmp 70)), .keep [0, 3, 4, 5, 6]])) (.seq (.ga (.regD (.first (.op none (.mv 71 (.tmp 5))) (.first (.op none (.un 72 .not (.tmp 71))) (.first (.op none (.mv 73 (.tmp 72))) (.first (.op (some (73, true)) (.mv 74 (.tmp 6))) (.first (.op (some (73, true)) (.un 75 .not (.tmp 74))) (.first (.op none (.pick 76 (.tmp 73) (.tmp 75) (.const (.bool false)))) (.first (.op none (.mv 77 (.tmp 76))) (.first (.op (some (77, false)) (.mv 78 (.tmp 3))) (.first (.op (some (77, false)) (.bin 79 .gtr (.tmp 78) (.const (.int .i64 0)))) (.first (.op (some (77, false)) (.mv 80 (.tmp 79))) (.first (.op (some (80, true)) (.faddr 81 0 (.tmp 4))) (.first (.op (some (80, true)) (.load 82 false 1 (.tmp 81))) (.first (.op (some (80, true)) (.mv 83 (.tmp 0))) (.first (.op (some (80, true)) (.mv 84 (.tmp 3))) (.first (.op (some (80, true)) (.bin 85 .sub (.tmp 84) (.const (.int .i64 1)))) (.first (.op (some (80, true)) (.iaddr 86 5 (.tmp 83) (.tmp 85))) (.first (.op (some (80, true)) (.faddr 87 0 (.tmp 86))) (.first (.op (some (80, true)) (.load 88 false 1 (.tmp 87))) (.first (.op (some (80, true)) (.mv 89 (.tmp 0))) (.first (.op (some (80, true)) (.mv 90 (.tmp 3))) (.first (.op (some (80, true)) (.bin 91 .sub (.tmp 90) (.const (.int .i64 1)))) (.first (.op (some (80, true)) (.iaddr 92 5 (.tmp 89) (.tmp 91))) (.first (.op (some (80, true)) (.faddr 93 1 (.tmp 92))) (.first (.op (some (80, true)) (.load 94 false 1 (.tmp 93))) (.first (.op (some (80, true)) (.conv 95 .u64 (.tmp 94))) (.first (.op (some (80, true)) (.bin 96 .add (.tmp 88) (.tmp 95))) (.first (.op (some (80, true)) (.bin 97 .lss (.tmp 82) (.tmp 96))) (.first (.op (some (77, false)) (.pick 98 (.tmp 80) (.tmp 97) (.const (.bool false)))) (.first (.op none (.pick 99 (.tmp 77) (.const (.bool true)) (.tmp 98))) (.done)))))))))))))))))))))))))))))) [0, 3, 99])) (.cond (.tmp 99) (.seq (.reg [.op none (.mv 2 (.const (.bool false))), .keep [2]]) (.gh .ret)) (.skip)))))))) (.reg [.op none (.mv 14 (.tmp 3)), .op none (.bin 15 .add (.tmp 14) (.const (.int .i64 1))), .op none (.mv 3 (.tmp 15)), .keep [0, 3]]))
def C72 : AC := .seq (.reg [.op none (.mv 2 (.const (.bool false))), .keep [0]]) (.seq (.seq (.reg [.op none (.mv 7 (.tmp 0)), .op none (.len 8 (.tmp 7)), .op none (.bin 9 .gtr (.tmp 8) (.const (.int .i64 256))), .keep [0, 9]]) (.cond (.tmp 9) (.seq (.reg [.op none (.mv 2 (.const (.bool false))), .keep [2]]) (.ret)) (.skip))) (.seq (.seq (.reg [.op none (.mv 3 (.const (.int .i64 0))), .keep [0, 3]]) (.block 0 (.gh (.loop (.ga C72_l0))))) (.seq (.reg [.op none (.mv 2 (.const (.bool true))), .keep [2]]) (.ret))))
def r72 : List RV := [.tmp 2]
theorem k72 : compC Try.prog 100 C72 (Try.f72.body.getD .skip) = some C72.erase := by kernel_rfl
theorem q72 : rvsOf Try.prog Try.f72.results.toList = some r72 := by kernel_rfl
def spec_l6MapsOK.l0 (l0 : List S84) (x0_0 : Int) : Option (Lp Unit Bool) := (if x0_0 < (l0.length : Int) then (if 0 ≤ x0_0 ∧ x0_0 < (l0.length : Int) then ((if (rd z84 l0 x0_0).f0 > 4611686018427387904 then (some true) else (if (rd z84 l0 x0_0).f3 < 1 then (some true) else (if (rd z84 l0 x0_0).f3 > 255 then (some true) else (if (rd z84 l0 x0_0).f4 ≠ 0 then (some (decide ((rd z84 l0 x0_0).f4 ≠ 1))) else (some false))))) >>= fun (j18 : Bool) => (if j18 = true then (some (.b false)) else ((if (rd z84 l0 x0_0).f2 = 0 then (if (rd z84 l0 x0_0).f1 ≥ 1 then (some (decide ((rd z84 l0 x0_0).f1 ≤ 32))) else (some false)) else (some false)) >>= fun (j36 : Bool) => ((if (rd z84 l0 x0_0).f2 = 1 then (if (rd z84 l0 x0_0).f1 = 0 then (some (decide (x0_0 = IntKind.i64.wrap ((l0.length : Int) - 1)))) else (some false)) else (some false)) >>= fun (j46 : Bool) => ((if (!j36) = true then (if (!j46) = true then (some true) else (if x0_0 > 0 then (if 0 ≤ IntKind.i64.wrap (x0_0 - 1) ∧ IntKind.i64.wrap (x0_0 - 1) < (l0.length : Int) then (some (decide ((rd z84 l0 x0_0).f0 < IntKind.u64.wrap (((rd z84 l0 (IntKind.i64.wrap (x0_0 - 1))).f0) + (IntKind.u64.wrap ((rd z84 l0 (IntKind.i64.wrap (x0_0 - 1))).f1)))))) else none) else (some false))) else (if x0_0 > 0 then (if 0 ≤ IntKind.i64.wrap (x0_0 - 1) ∧ IntKind.i64.wrap (x0_0 - 1) < (l0.length : Int) then (some (decide ((rd z84 l0 x0_0).f0 < IntKind.u64.wrap (((rd z84 l0 (IntKind.i64.wrap (x0_0 - 1))).f0) + (IntKind.u64.wrap ((rd z84 l0 (IntKind.i64.wrap (x0_0 - 1))).f1)))))) else none) else (some false))) >>= fun (j56 : Bool) => (if j56 = true then (some (.b false)) else (spec_l6MapsOK.l0 l0 (IntKind.i64.wrap (x0_0 + 1))))))))) else none) else (some (.a ())))
 partial_fixpoint
def spec_l6MapsOK.f (l0 : List S84) : Option Bool := (if (l0.length : Int) > 256 then (some false) else (spec_l6MapsOK.l0 l0 0 >>= fun (y84 : Lp Unit Bool) => match y84 with | .a x86 => (some true) | .b x86 => (some x86)))
def spec_l6MapsOK.l0_M (cs0 : List Cell) (o0 : Nat) (l0 : List S84) (hv0 : Vw c84 5 cs0 o0 l0) (x0_0 : Int) (y : Lp Unit Bool) : Prop := ∀ (K : AE → St → Prop), (∀ x, y = .a x → K (.exit 0) ⟨[], [(.arg 0, ⟨.fz, 5, cs0⟩)], [], []⟩) → (∀ x, y = .b x → K .ret ⟨[(2, .c (.sc (.bool x)))], [(.arg 0, ⟨.fz, 5, cs0⟩)], [], []⟩) → loopS Try.prog 100 (.ga C72_l0) K ⟨[(0, .c (.ref (.arg 0) [] o0 l0.length)), (3, .c (.sc (.int .i64 x0_0)))], [(.arg 0, ⟨.fz, 5, cs0⟩)], [], []⟩
theorem spec_l6MapsOK.l0_walk (cs0 : List Cell) (o0 : Nat) (l0 : List S84) (hv0 : Vw c84 5 cs0 o0 l0) (x0_0 : Int) (y : Lp Unit Bool) (h : spec_l6MapsOK.l0 l0 x0_0 = some y) : spec_l6MapsOK.l0_M cs0 o0 l0 hv0 x0_0 y := by
 refine spec_l6MapsOK.l0.partial_correctness l0 (motive := fun x0_0 y => spec_l6MapsOK.l0_M cs0 o0 l0 hv0 x0_0 y) ?_ x0_0 y h
 clear h
 unfold spec_l6MapsOK.l0_M
 intro rec ih x0_0 y h K hx0 hx1
 refine loop_unroll (ga_k fun G0 G0n G0r G0x => ?_)
 unfold C72_l0
 refine seq_k fun J9 hJ9 => ?_
 refine sr_k fun J10 hJ10 => ?_
 simp +decide only [Nat.reduceAdd, Nat.reduceMul, Int.reduceToNat, ak]
 refine hJ10 _ ?_
 refine cond_k (b := decide (x0_0 < (l0.length : Int))) rfl (fun c11 => ?_) (fun c11 => ?_)
 ·replace c11 := of_decide_eq_true c11; rw [if_pos c11] at h
  refine hJ9 _ ?_
  refine seq_k fun J12 hJ12 => ?_
  refine block_k fun B13 B13n B13x B13r B13j => ?_
  refine sr_k fun J14 hJ14 => ?_
  obtain ⟨b15, h⟩ := of_guard h
  have g16 : (List.drop (o0 + x0_0.toNat * 5) (cs0)).take 5 = [.sc (.int .u64 ((rd z84 l0 x0_0).f0)), .sc (.int .i64 ((rd z84 l0 x0_0).f1)), .sc (.int .i64 ((rd z84 l0 x0_0).f2)), .sc (.int .i64 ((rd z84 l0 x0_0).f3)), .sc (.int .i64 ((rd z84 l0 x0_0).f4))] := hv0.stretch z84 b15.1 b15.2
  simp +decide only [Nat.reduceAdd, Nat.reduceMul, Int.reduceToNat, ak, b15, g16]
  refine hJ14 _ ?_
  refine seq_k fun J17 hJ17 => ?_
  obtain ⟨j18, h19, hn⟩ := of_bind h
  refine seq_j (fun st => st = ⟨[(0, .c (.ref (.arg 0) [] o0 l0.length)), (3, .c (.sc (.int .i64 x0_0))), (4, .c (.ptr (.tmp 4 0) [] 0)), (42, .c (.sc (.bool j18)))], [(.arg 0, ⟨.fz, 5, cs0⟩), (.tmp 4 0, ⟨.box, 0, [.sc (.int .u64 ((rd z84 l0 x0_0).f0)), .sc (.int .i64 ((rd z84 l0 x0_0).f1)), .sc (.int .i64 ((rd z84 l0 x0_0).f2)), .sc (.int .i64 ((rd z84 l0 x0_0).f3)), .sc (.int .i64 ((rd z84 l0 x0_0).f4))]⟩)], [], []⟩) (fun J20 hJ20 => ?_) ?_
  ·replace h := h19; clear hn
   refine ga_k fun G21 G21n G21r G21x => ?_
   refine reg_k ?_
   simp +decide only [Nat.reduceAdd, Nat.reduceMul, Int.reduceToNat, ak]
   by_cases c22 : (rd z84 l0 x0_0).f0 > 4611686018427387904
   ·rw [if_pos c22] at h
    have e23 : decide ((rd z84 l0 x0_0).f0 > 4611686018427387904) = true := decide_eq_true c22
    simp +decide only [Nat.reduceAdd, Nat.reduceMul, Int.reduceToNat, ak, e23]
    obtain rfl := Option.some.inj h
    refine G21n _ _ (wk [0, 3, 4, 42] [pI (.arg 0) .fz, pI (.tmp 4 0) .box] (h0 := by first | rfl | simp +decide only [ak, akF, b15, e23]) (h := by first | rfl | (simp +decide only [ak, akF, b15, e23]; done) | (simp +decide [ak, akF, b15, e23] <;> omega))) (hJ20 _ rfl)
   ·rw [if_neg c22] at h
    have e24 : decide ((rd z84 l0 x0_0).f0 > 4611686018427387904) = false := decide_eq_false c22
    simp +decide only [Nat.reduceAdd, Nat.reduceMul, Int.reduceToNat, ak, e24]
    by_cases c25 : (rd z84 l0 x0_0).f3 < 1
    ·rw [if_pos c25] at h
     have e26 : decide ((rd z84 l0 x0_0).f3 < 1) = true := decide_eq_true c25
     simp +decide only [Nat.reduceAdd, Nat.reduceMul, Int.reduceToNat, ak, e26]
     obtain rfl := Option.some.inj h
     refine G21n _ _ (wk [0, 3, 4, 42] [pI (.arg 0) .fz, pI (.tmp 4 0) .box] (h0 := by first | rfl | simp +decide only [ak, akF, b15, e24, e26]) (h := by first | rfl | (simp +decide only [ak, akF, b15, e24, e26]; done) | (simp +decide [ak, akF, b15, e24, e26] <;> omega))) (hJ20 _ rfl)
    ·rw [if_neg c25] at h
     have e27 : decide ((rd z84 l0 x0_0).f3 < 1) = false := decide_eq_false c25
     simp +decide only [Nat.reduceAdd, Nat.reduceMul, Int.reduceToNat, ak, e27]
     by_cases c28 : (rd z84 l0 x0_0).f3 > 255
     ·rw [if_pos c28] at h
      have e29 : decide ((rd z84 l0 x0_0).f3 > 255) = true := decide_eq_true c28
      simp +decide only [Nat.reduceAdd, Nat.reduceMul, Int.reduceToNat, ak, e29]
      obtain rfl := Option.some.inj h
      refine G21n _ _ (wk [0, 3, 4, 42] [pI (.arg 0) .fz, pI (.tmp 4 0) .box] (h0 := by first | rfl | simp +decide only [ak, akF, b15, e24, e27, e29]) (h := by first | rfl | (simp +decide only [ak, akF, b15, e24, e27, e29]; done) | (simp +decide [ak, akF, b15, e24, e27, e29] <;> omega))) (hJ20 _ rfl)
     ·rw [if_neg c28] at h
      have e30 : decide ((rd z84 l0 x0_0).f3 > 255) = false := decide_eq_false c28
      simp +decide only [Nat.reduceAdd, Nat.reduceMul, Int.reduceToNat, ak, e30]
      by_cases c31 : (rd z84 l0 x0_0).f4 ≠ 0
      ·rw [if_pos c31] at h
       have e32 : decide ((rd z84 l0 x0_0).f4 ≠ 0) = true := decide_eq_true c31
       simp +decide only [Nat.reduceAdd, Nat.reduceMul, Int.reduceToNat, ak, e32]
       obtain rfl := Option.some.inj h
       refine G21n _ _ (wk [0, 3, 4, 42] [pI (.arg 0) .fz, pI (.tmp 4 0) .box] (h0 := by first | rfl | simp +decide only [ak, akF, b15, e24, e27, e30, e32]) (h := by first | rfl | (simp +decide only [ak, akF, b15, e24, e27, e30, e32]; done) | (simp +decide [ak, akF, b15, e24, e27, e30, e32] <;> omega))) (hJ20 _ rfl)
      ·rw [if_neg c31] at h
       have e33 : decide ((rd z84 l0 x0_0).f4 ≠ 0) = false := decide_eq_false c31
       simp +decide only [Nat.reduceAdd, Nat.reduceMul, Int.reduceToNat, ak, e33]
       obtain rfl := Option.some.inj h
       refine G21n _ _ (wk [0, 3, 4, 42] [pI (.arg 0) .fz, pI (.tmp 4 0) .box] (h0 := by first | rfl | simp +decide only [ak, akF, b15, e24, e27, e30, e33]) (h := by first | rfl | (simp +decide only [ak, akF, b15, e24, e27, e30, e33]; done) | (simp +decide [ak, akF, b15, e24, e27, e30, e33] <;> omega))) (hJ20 _ rfl)
  ·replace h := hn; clear hn h19
   rintro _ rfl
   refine cond_k (b := j18) rfl (fun c34 => ?_) (fun c34 => ?_)
   ·rw [if_pos c34] at h
    refine sr_k fun J35 hJ35 => ?_
    simp +decide only [Nat.reduceAdd, Nat.reduceMul, Int.reduceToNat, ak]
    refine hJ35 _ ?_
    obtain rfl := Option.some.inj h
    refine gh_k (wk [2] [pI (.arg 0) .fz]) ?_
    refine B13r _ ?_
    refine G0r _ ?_
    exact hx1 _ rfl
   ·rw [if_neg (Bool.eq_false_iff.1 c34)] at h
    refine hJ17 _ ?_
    obtain ⟨j36, h37, hn⟩ := of_bind h
    refine seq_j (fun st => st = ⟨[(0, .c (.ref (.arg 0) [] o0 l0.length)), (3, .c (.sc (.int .i64 x0_0))), (4, .c (.ptr (.tmp 4 0) [] 0)), (5, .c (.sc (.bool j36)))], [(.arg 0, ⟨.fz, 5, cs0⟩), (.tmp 4 0, ⟨.box, 0, [.sc (.int .u64 ((rd z84 l0 x0_0).f0)), .sc (.int .i64 ((rd z84 l0 x0_0).f1)), .sc (.int .i64 ((rd z84 l0 x0_0).f2)), .sc (.int .i64 ((rd z84 l0 x0_0).f3)), .sc (.int .i64 ((rd z84 l0 x0_0).f4))]⟩)], [], []⟩) (fun J38 hJ38 => ?_) ?_
    ·replace h := h37; clear hn
     refine ga_k fun G39 G39n G39r G39x => ?_
     refine reg_k ?_
     simp +decide only [Nat.reduceAdd, Nat.reduceMul, Int.reduceToNat, ak]
     by_cases c40 : (rd z84 l0 x0_0).f2 = 0
     ·rw [if_pos c40] at h
      have e41 : decide ((rd z84 l0 x0_0).f2 = 0) = true := decide_eq_true c40
      simp +decide only [Nat.reduceAdd, Nat.reduceMul, Int.reduceToNat, ak, e41]
      by_cases c42 : (rd z84 l0 x0_0).f1 ≥ 1
      ·rw [if_pos c42] at h
       have e43 : decide ((rd z84 l0 x0_0).f1 ≥ 1) = true := decide_eq_true c42
       simp +decide only [Nat.reduceAdd, Nat.reduceMul, Int.reduceToNat, ak, e43]
       obtain rfl := Option.some.inj h
       refine G39n _ _ (wk [0, 3, 4, 5] [pI (.arg 0) .fz, pI (.tmp 4 0) .box] (h0 := by first | rfl | simp +decide only [ak, akF, b15, e41, e43]) (h := by first | rfl | (simp +decide only [ak, akF, b15, e41, e43]; done) | (simp +decide [ak, akF, b15, e41, e43] <;> omega))) (hJ38 _ rfl)
      ·rw [if_neg c42] at h
       have e44 : decide ((rd z84 l0 x0_0).f1 ≥ 1) = false := decide_eq_false c42
       simp +decide only [Nat.reduceAdd, Nat.reduceMul, Int.reduceToNat, ak, e44]
       obtain rfl := Option.some.inj h
       refine G39n _ _ (wk [0, 3, 4, 5] [pI (.arg 0) .fz, pI (.tmp 4 0) .box] (h0 := by first | rfl | simp +decide only [ak, akF, b15, e41, e44]) (h := by first | rfl | (simp +decide only [ak, akF, b15, e41, e44]; done) | (simp +decide [ak, akF, b15, e41, e44] <;> omega))) (hJ38 _ rfl)
     ·rw [if_neg c40] at h
      have e45 : decide ((rd z84 l0 x0_0).f2 = 0) = false := decide_eq_false c40
      simp +decide only [Nat.reduceAdd, Nat.reduceMul, Int.reduceToNat, ak, e45]
      obtain rfl := Option.some.inj h
      refine G39n _ _ (wk [0, 3, 4, 5] [pI (.arg 0) .fz, pI (.tmp 4 0) .box] (h0 := by first | rfl | simp +decide only [ak, akF, b15, e45]) (h := by first | rfl | (simp +decide only [ak, akF, b15, e45]; done) | (simp +decide [ak, akF, b15, e45] <;> omega))) (hJ38 _ rfl)
    ·replace h := hn; clear hn h37
     rintro _ rfl
     obtain ⟨j46, h47, hn⟩ := of_bind h
     refine seq_j (fun st => st = ⟨[(0, .c (.ref (.arg 0) [] o0 l0.length)), (3, .c (.sc (.int .i64 x0_0))), (4, .c (.ptr (.tmp 4 0) [] 0)), (5, .c (.sc (.bool j36))), (6, .c (.sc (.bool j46)))], [(.arg 0, ⟨.fz, 5, cs0⟩), (.tmp 4 0, ⟨.box, 0, [.sc (.int .u64 ((rd z84 l0 x0_0).f0)), .sc (.int .i64 ((rd z84 l0 x0_0).f1)), .sc (.int .i64 ((rd z84 l0 x0_0).f2)), .sc (.int .i64 ((rd z84 l0 x0_0).f3)), .sc (.int .i64 ((rd z84 l0 x0_0).f4))]⟩)], [], []⟩) (fun J48 hJ48 => ?_) ?_
     ·replace h := h47; clear hn
      refine ga_k fun G49 G49n G49r G49x => ?_
      refine reg_k ?_
      simp +decide only [Nat.reduceAdd, Nat.reduceMul, Int.reduceToNat, ak]
      by_cases c50 : (rd z84 l0 x0_0).f2 = 1
      ·rw [if_pos c50] at h
       have e51 : decide ((rd z84 l0 x0_0).f2 = 1) = true := decide_eq_true c50
       simp +decide only [Nat.reduceAdd, Nat.reduceMul, Int.reduceToNat, ak, e51]
       by_cases c52 : (rd z84 l0 x0_0).f1 = 0
       ·rw [if_pos c52] at h
        have e53 : decide ((rd z84 l0 x0_0).f1 = 0) = true := decide_eq_true c52
        simp +decide only [Nat.reduceAdd, Nat.reduceMul, Int.reduceToNat, ak, e53]
        obtain rfl := Option.some.inj h
        refine G49n _ _ (wk [0, 3, 4, 5, 6] [pI (.arg 0) .fz, pI (.tmp 4 0) .box] (h0 := by first | rfl | simp +decide only [ak, akF, b15, e51, e53]) (h := by first | rfl | (simp +decide only [ak, akF, b15, e51, e53]; done) | (simp +decide [ak, akF, b15, e51, e53] <;> omega))) (hJ48 _ rfl)
       ·rw [if_neg c52] at h
        have e54 : decide ((rd z84 l0 x0_0).f1 = 0) = false := decide_eq_false c52
        simp +decide only [Nat.reduceAdd, Nat.reduceMul, Int.reduceToNat, ak, e54]
        obtain rfl := Option.some.inj h
        refine G49n _ _ (wk [0, 3, 4, 5, 6] [pI (.arg 0) .fz, pI (.tmp 4 0) .box] (h0 := by first | rfl | simp +decide only [ak, akF, b15, e51, e54]) (h := by first | rfl | (simp +decide only [ak, akF, b15, e51, e54]; done) | (simp +decide [ak, akF, b15, e51, e54] <;> omega))) (hJ48 _ rfl)
      ·rw [if_neg c50] at h
       have e55 : decide ((rd z84 l0 x0_0).f2 = 1) = false := decide_eq_false c50
       simp +decide only [Nat.reduceAdd, Nat.reduceMul, Int.reduceToNat, ak, e55]
       obtain rfl := Option.some.inj h
       refine G49n _ _ (wk [0, 3, 4, 5, 6] [pI (.arg 0) .fz, pI (.tmp 4 0) .box] (h0 := by first | rfl | simp +decide only [ak, akF, b15, e55]) (h := by first | rfl | (simp +decide only [ak, akF, b15, e55]; done) | (simp +decide [ak, akF, b15, e55] <;> omega))) (hJ48 _ rfl)
     ·replace h := hn; clear hn h47
      rintro _ rfl
      obtain ⟨j56, h57, hn⟩ := of_bind h
      refine seq_j (fun st => st = ⟨[(0, .c (.ref (.arg 0) [] o0 l0.length)), (3, .c (.sc (.int .i64 x0_0))), (99, .c (.sc (.bool j56)))], [(.arg 0, ⟨.fz, 5, cs0⟩)], [], []⟩) (fun J58 hJ58 => ?_) ?_
      ·replace h := h57; clear hn
       refine ga_k fun G59 G59n G59r G59x => ?_
       refine regD_k ?_
       simp +decide only [Nat.reduceAdd, Nat.reduceMul, Int.reduceToNat, ak]
       by_cases c60 : (!j36) = true
       ·rw [if_pos c60] at h
        have e61 : (!j36) = true := c60
        simp +decide only [Nat.reduceAdd, Nat.reduceMul, Int.reduceToNat, ak, e61]
        by_cases c62 : (!j46) = true
        ·rw [if_pos c62] at h
         have e63 : (!j46) = true := c62
         simp +decide only [Nat.reduceAdd, Nat.reduceMul, Int.reduceToNat, ak, e63]
         obtain rfl := Option.some.inj h
         refine G59n _ _ (wk [0, 3, 99] [pI (.arg 0) .fz] (h0 := by first | rfl | simp +decide only [ak, akF, b15, e61, e63]) (h := by first | rfl | (simp +decide only [ak, akF, b15, e61, e63]; done) | (simp +decide [ak, akF, b15, e61, e63] <;> omega))) (hJ58 _ rfl)
        ·rw [if_neg c62] at h
         have e64 : (!j46) = false := Bool.eq_false_iff.2 c62
         simp +decide only [Nat.reduceAdd, Nat.reduceMul, Int.reduceToNat, ak, e64]
         by_cases c65 : x0_0 > 0
         ·rw [if_pos c65] at h
          have e66 : decide (x0_0 > 0) = true := decide_eq_true c65
          obtain ⟨b67, h⟩ := of_guard h
          have g68 : o0 + (IntKind.i64.wrap (x0_0 - 1)).toNat * 5 + 0 ≤ (cs0).length := (hv0.len_le b67.1 b67.2 (by decide))
          have g69 : (cs0)[o0 + (IntKind.i64.wrap (x0_0 - 1)).toNat * 5 + 0]? = some (.sc (.int .u64 ((rd z84 l0 (IntKind.i64.wrap (x0_0 - 1))).f0))) := hv0.get z84 0 b67.1 b67.2 (by decide)
          have g70 : o0 + (IntKind.i64.wrap (x0_0 - 1)).toNat * 5 + 1 ≤ (cs0).length := (hv0.len_le b67.1 b67.2 (by decide))
          have g71 : (cs0)[o0 + (IntKind.i64.wrap (x0_0 - 1)).toNat * 5 + 1]? = some (.sc (.int .i64 ((rd z84 l0 (IntKind.i64.wrap (x0_0 - 1))).f1))) := hv0.get z84 1 b67.1 b67.2 (by decide)
          simp +decide only [Nat.reduceAdd, Nat.reduceMul, Int.reduceToNat, ak, e66, b67, g68, g69, g70, g71]
          obtain rfl := Option.some.inj h
          refine G59n _ _ (wk [0, 3, 99] [pI (.arg 0) .fz] (h0 := by first | rfl | simp +decide only [ak, akF, b15, b67, e61, e64, e66]) (h := by first | rfl | (simp +decide only [ak, akF, b15, b67, e61, e64, e66]; done) | (simp +decide [ak, akF, b15, b67, e61, e64, e66] <;> omega))) (hJ58 _ rfl)
         ·rw [if_neg c65] at h
          have e72 : decide (x0_0 > 0) = false := decide_eq_false c65
          simp +decide only [Nat.reduceAdd, Nat.reduceMul, Int.reduceToNat, ak, e72]
          obtain rfl := Option.some.inj h
          refine G59n _ _ (wk [0, 3, 99] [pI (.arg 0) .fz] (h0 := by first | rfl | simp +decide only [ak, akF, b15, e61, e64, e72]) (h := by first | rfl | (simp +decide only [ak, akF, b15, e61, e64, e72]; done) | (simp +decide [ak, akF, b15, e61, e64, e72] <;> omega))) (hJ58 _ rfl)
       ·rw [if_neg c60] at h
        have e73 : (!j36) = false := Bool.eq_false_iff.2 c60
        simp +decide only [Nat.reduceAdd, Nat.reduceMul, Int.reduceToNat, ak, e73]
        by_cases c74 : x0_0 > 0
        ·rw [if_pos c74] at h
         have e75 : decide (x0_0 > 0) = true := decide_eq_true c74
         obtain ⟨b76, h⟩ := of_guard h
         have g77 : o0 + (IntKind.i64.wrap (x0_0 - 1)).toNat * 5 + 0 ≤ (cs0).length := (hv0.len_le b76.1 b76.2 (by decide))
         have g78 : (cs0)[o0 + (IntKind.i64.wrap (x0_0 - 1)).toNat * 5 + 0]? = some (.sc (.int .u64 ((rd z84 l0 (IntKind.i64.wrap (x0_0 - 1))).f0))) := hv0.get z84 0 b76.1 b76.2 (by decide)
         have g79 : o0 + (IntKind.i64.wrap (x0_0 - 1)).toNat * 5 + 1 ≤ (cs0).length := (hv0.len_le b76.1 b76.2 (by decide))
         have g80 : (cs0)[o0 + (IntKind.i64.wrap (x0_0 - 1)).toNat * 5 + 1]? = some (.sc (.int .i64 ((rd z84 l0 (IntKind.i64.wrap (x0_0 - 1))).f1))) := hv0.get z84 1 b76.1 b76.2 (by decide)
         simp +decide only [Nat.reduceAdd, Nat.reduceMul, Int.reduceToNat, ak, e75, b76, g77, g78, g79, g80]
         obtain rfl := Option.some.inj h
         refine G59n _ _ (wk [0, 3, 99] [pI (.arg 0) .fz] (h0 := by first | rfl | simp +decide only [ak, akF, b15, b76, e73, e75]) (h := by first | rfl | (simp +decide only [ak, akF, b15, b76, e73, e75]; done) | (simp +decide [ak, akF, b15, b76, e73, e75] <;> omega))) (hJ58 _ rfl)
        ·rw [if_neg c74] at h
         have e81 : decide (x0_0 > 0) = false := decide_eq_false c74
         simp +decide only [Nat.reduceAdd, Nat.reduceMul, Int.reduceToNat, ak, e81]
         obtain rfl := Option.some.inj h
         refine G59n _ _ (wk [0, 3, 99] [pI (.arg 0) .fz] (h0 := by first | rfl | simp +decide only [ak, akF, b15, e73, e81]) (h := by first | rfl | (simp +decide only [ak, akF, b15, e73, e81]; done) | (simp +decide [ak, akF, b15, e73, e81] <;> omega))) (hJ58 _ rfl)
      ·replace h := hn; clear hn h57
       rintro _ rfl
       refine cond_k (b := j56) rfl (fun c82 => ?_) (fun c82 => ?_)
       ·rw [if_pos c82] at h
        refine sr_k fun J83 hJ83 => ?_
        simp +decide only [Nat.reduceAdd, Nat.reduceMul, Int.reduceToNat, ak]
        refine hJ83 _ ?_
        obtain rfl := Option.some.inj h
        refine gh_k (wk [2] [pI (.arg 0) .fz]) ?_
        refine B13r _ ?_
        refine G0r _ ?_
        exact hx1 _ rfl
       ·rw [if_neg (Bool.eq_false_iff.1 c82)] at h
        refine B13n _ ?_
        refine hJ12 _ ?_
        refine reg_k ?_
        simp +decide only [Nat.reduceAdd, Nat.reduceMul, Int.reduceToNat, ak]
        refine G0n _ _ (wk [0, 3] [pI (.arg 0) .fz]) (ih _ _ h K hx0 hx1)
 ·replace c11 := of_decide_eq_false c11; rw [if_neg c11] at h
  obtain rfl := Option.some.inj h
  refine gh_k (wk [] [pI (.arg 0) .fz]) ?_
  refine G0x _ _ ?_
  exact hx0 _ rfl
theorem spec_l6MapsOK.tri (cs0 : List Cell) (o0 : Nat) (l0 : List S84) (hv0 : Vw c84 5 cs0 o0 l0) (r : Bool) (h : spec_l6MapsOK.f l0 = some r) : Tri Try.prog 72 [.c (.ref (.arg 0) [] o0 l0.length)] [(.arg 0, ⟨.fz, 5, cs0⟩)] (fun o => o = ⟨.c (.sc (.bool r)), [(.arg 0, ⟨.fz, 5, cs0⟩)], [], []⟩) := by
 refine tri_of_body (ac := C72) (xs := r72) Try.func72 (show Try.f72.body = some (Try.f72.body.getD .skip) from rfl) k72 q72 (Nat.le_of_ble_eq_true rfl) ?_
 refine body_of fun K hKn hKr => ?_
 unfold spec_l6MapsOK.f at h
 unfold C72
 simp only [initT, Nat.reduceAdd]
 refine sr_k fun J1 hJ1 => ?_
 simp +decide only [Nat.reduceAdd, Nat.reduceMul, Int.reduceToNat, ak]
 refine hJ1 _ ?_
 refine seq_k fun J2 hJ2 => ?_
 refine sr_k fun J3 hJ3 => ?_
 simp +decide only [Nat.reduceAdd, Nat.reduceMul, Int.reduceToNat, ak]
 refine hJ3 _ ?_
 refine cond_k (b := decide ((l0.length : Int) > 256)) rfl (fun c4 => ?_) (fun c4 => ?_)
 ·replace c4 := of_decide_eq_true c4; rw [if_pos c4] at h
  refine sr_k fun J5 hJ5 => ?_
  simp +decide only [Nat.reduceAdd, Nat.reduceMul, Int.reduceToNat, ak]
  refine hJ5 _ ?_
  obtain rfl := Option.some.inj h
  refine hKr _ ⟨_, rfl, [], _, rfl, rfl, ?_⟩
  first | rfl | (simp only [reduceCtorEq, Nat.reduceEqDiff, ak, akF]; done) | (simp [reduceCtorEq, Nat.reduceEqDiff, ak, akF] <;> omega)
 ·replace c4 := of_decide_eq_false c4; rw [if_neg c4] at h
  refine hJ2 _ ?_
  refine seq_k fun J6 hJ6 => ?_
  refine sr_k fun J7 hJ7 => ?_
  simp +decide only [Nat.reduceAdd, Nat.reduceMul, Int.reduceToNat, ak]
  refine hJ7 _ ?_
  refine block_k fun B8 B8n B8x B8r B8j => ?_
  obtain ⟨y84, h85, h⟩ := of_bind h
  refine gh_k (wk [0, 3] [pI (.arg 0) .fz]) ?_
  rw [e_loop]
  refine spec_l6MapsOK.l0_walk cs0 o0 l0 hv0 0 _ h85 _ ?_ ?_
  ·rintro x86 rfl
   dsimp only at h
   refine B8x _ ?_
   refine hJ6 _ ?_
   refine sr_k fun J87 hJ87 => ?_
   simp +decide only [Nat.reduceAdd, Nat.reduceMul, Int.reduceToNat, ak]
   refine hJ87 _ ?_
   obtain rfl := Option.some.inj h
   refine hKr _ ⟨_, rfl, [], _, rfl, rfl, ?_⟩
   first | rfl | (simp only [reduceCtorEq, Nat.reduceEqDiff, ak, akF]; done) | (simp [reduceCtorEq, Nat.reduceEqDiff, ak, akF] <;> omega)
  ·rintro x86 rfl
   dsimp only at h
   refine B8r _ ?_
   obtain rfl := Option.some.inj h
   refine hKr _ ⟨_, rfl, [], _, rfl, rfl, ?_⟩
   first | rfl | (simp only [reduceCtorEq, Nat.reduceEqDiff, ak, akF]; done) | (simp [reduceCtorEq, Nat.reduceEqDiff, ak, akF] <;> omega)
/-! ### spec.l6InputCode: function 86 -/
def C86 : AC := .seq (.reg [.op none (.box 1 (.tmp 0)), .op none (.mv 2 (.const (.int .i64 0))), .keep [1]]) (.seq (.seq (.ga (.reg [.op none (.faddr 3 0 (.tmp 1)), .op none (.load 4 false 1 (.tmp 3)), .op none (.bin 5 .lss (.tmp 4) (.const (.int .i64 1))), .op none (.mv 6 (.tmp 5)), .op (some (6, false)) (.faddr 7 0 (.tmp 1)), .op (some (6, false)) (.load 8 false 1 (.tmp 7)), .op (some (6, false)) (.bin 9 .gtr (.tmp 8) (.const (.int .i64 4))), .op none (.pick 10 (.tmp 6) (.const (.bool true)) (.tmp 9)), .keep [1, 10]])) (.cond (.tmp 10) (.seq (.reg [.op none (.mv 2 (.const (.int .i64 17))), .keep [2]]) (.ret)) (.skip))) (.seq (.seq (.reg [.op none (.faddr 11 3 (.tmp 1)), .op none (.load 12 false 1 (.tmp 11)), .call none (some 13) 78 [.tmp 12], .op none (.un 14 .not (.tmp 13)), .keep [1, 14]]) (.cond (.tmp 14) (.seq (.reg [.op none (.mv 2 (.const (.int .i64 6))), .keep [2]]) (.ret)) (.skip))) (.seq (.seq (.ga (.reg [.op none (.faddr 15 1 (.tmp 1)), .op none (.load 16 false 1 (.tmp 15)), .op none (.bin 17 .lss (.tmp 16) (.const (.int .i64 0))), .op none (.mv 18 (.tmp 17)), .op (some (18, false)) (.faddr 19 1 (.tmp 1)), .op (some (18, false)) (.load 20 false 1 (.tmp 19)), .op (some (18, false)) (.faddr 21 3 (.tmp 1)), .op (some (18, false)) (.load 22 false 1 (.tmp 21)), .op (some (18, false)) (.len 23 (.tmp 22)), .op (some (18, false)) (.bin 24 .geq (.tmp 20) (.tmp 23)), .op none (.pick 25 (.tmp 18) (.const (.bool true)) (.tmp 24)), .op none (.mv 26 (.tmp 25)), .op (some (26, false)) (.faddr 27 5 (.tmp 1)), .op (some (26, false)) (.load 28 false 1 (.tmp 27)), .op (some (26, false)) (.bin 29 .lss (.tmp 28) (.const (.int .i64 1))), .op none (.pick 30 (.tmp 26) (.const (.bool true)) (.tmp 29)), .op none (.mv 31 (.tmp 30)), .op (some (31, false)) (.faddr 32 5 (.tmp 1)), .op (some (31, false)) (.load 33 false 1 (.tmp 32)), .op (some (31, false)) (.bin 34 .gtr (.tmp 33) (.const (.int .i64 256))), .op none (.pick 35 (.tmp 31) (.const (.bool true)) (.tmp 34)), .op none (.mv 36 (.tmp 35)), .op (some (36, false)) (.faddr 37 11 (.tmp 1)), .op (some (36, false)) (.load 38 false 1 (.tmp 37)), .op (some (36, false)) (.bin 39 .lss (.tmp 38) (.const (.int .i64 1))), .op none (.pick 40 (.tmp 36) (.const (.bool true)) (.tmp 39)), .op none (.mv 41 (.tmp 40)), .op (some (41, false)) (.faddr 42 11 (.tmp 1)), .op (some (41, false)) (.load 43 false 1 (.tmp 42)), .op (some (41, false)) (.bin 44 .gtr (.tmp 43) (.const (.int .i64 32))), .op none (.pick 45 (.tmp 41) (.const (.bool true)) (.tmp 44)), .op none (.mv 46 (.tmp 45)), .op (some (46, false)) (.faddr 47 2 (.tmp 1)), .op (some (46, false)) (.load 48 false 1 (.tmp 47)), .op (some (46, false)) (.len 49 (.tmp 48)), .op (some (46, false)) (.bin 50 .gtr (.tmp 49) (.const (.int .i64 1000))), .op none (.pick 51 (.tmp 46) (.const (.bool true)) (.tmp 50)), .keep [1, 51]])) (.cond (.tmp 51) (.seq (.reg [.op none (.mv 2 (.const (.int .i64 4))), .keep [2]]) (.ret)) (.skip))) (.seq (.seq (.ga (.reg [.op none (.faddr 52 6 (.tmp 1)), .op none (.load 53 false 1 (.tmp 52)), .op none (.bin 54 .gtr (.tmp 53) (.const (.int .u64 4611686018427387904))), .op none (.mv 55 (.tmp 54)), .op (some (55, false)) (.faddr 56 7 (.tmp 1)), .op (some (55, false)) (.load 57 false 1 (.tmp 56)), .op (some (55, false)) (.bin 58 .gtr (.tmp 57) (.const (.int .u64 4611686018427387904))), .op none (.pick 59 (.tmp 55) (.const (.bool true)) (.tmp 58)), .op none (.mv 60 (.tmp 59)), .op (some (60, false)) (.faddr 61 8 (.tmp 1)), .op (some (60, false)) (.load 62 false 1 (.tmp 61)), .op (some (60, false)) (.bin 63 .gtr (.tmp 62) (.const (.int .u64 4611686018427387904))), .op none (.pick 64 (.tmp 60) (.const (.bool true)) (.tmp 63)), .op none (.mv 65 (.tmp 64)), .op (some (65, false)) (.faddr 66 6 (.tmp 1)), .op (some (65, false)) (.load 67 false 1 (.tmp 66)), .op (some (65, false)) (.faddr 68 7 (.tmp 1)), .op (some (65, false)) (.load 69 false 1 (.tmp 68)), .op (some (65, false)) (.bin 70 .gtr (.tmp 67) (.tmp 69)), .op none (.pick 71 (.tmp 65) (.const (.bool true)) (.tmp 70)), .op none (.mv 72 (.tmp 71)), .op (some (72, false)) (.faddr 73 9 (.tmp 1)), .op (some (72, false)) (.load 74 false 1 (.tmp 73)), .call (some (72, false)) (some 75) 117 [.tmp 74], .op (some (72, false)) (.un 76 .not (.tmp 75)), .op none (.pick 77 (.tmp 72) (.const (.bool true)) (.tmp 76)), .op none (.mv 78 (.tmp 77)), .op (some (78, false)) (.faddr 79 10 (.tmp 1)), .op (some (78, false)) (.load 80 false 1 (.tmp 79)), .call (some (78, false)) (some 81) 117 [.tmp 80], .op (some (78, false)) (.un 82 .not (.tmp 81)), .op none (.pick 83 (.tmp 78) (.const (.bool true)) (.tmp 82)), .keep [1, 83]])) (.cond (.tmp 83) (.seq (.reg [.op none (.mv 2 (.const (.int .i64 4))), .keep [2]]) (.ret)) (.skip))) (.seq (.seq (.ga (.reg [.op none (.faddr 84 4 (.tmp 1)), .op none (.load 85 false 1 (.tmp 84)), .call none (some 86) 72 [.tmp 85], .op none (.un 87 .not (.tmp 86)), .op none (.mv 88 (.tmp 87)), .op (some (88, false)) (.faddr 89 4 (.tmp 1)), .op (some (88, false)) (.load 90 false 1 (.tmp 89)), .op (some (88, false)) (.len 91 (.tmp 90)), .op (some (88, false)) (.faddr 92 5 (.tmp 1)), .op (some (88, false)) (.load 93 false 1 (.tmp 92)), .op (some (88, false)) (.bin 94 .gtr (.tmp 91) (.tmp 93)), .op none (.pick 95 (.tmp 88) (.const (.bool true)) (.tmp 94)), .keep [95]])) (.cond (.tmp 95) (.seq (.reg [.op none (.mv 2 (.const (.int .i64 1))), .keep [2]]) (.ret)) (.skip))) (.seq (.reg [.op none (.mv 2 (.const (.int .i64 0))), .keep [2]]) (.ret)))))))
def r86 : List RV := [.tmp 2]
theorem k86 : compC Try.prog 96 C86 (Try.f86.body.getD .skip) = some C86.erase := by kernel_rfl
theorem q86 : rvsOf Try.prog Try.f86.results.toList = some r86 := by kernel_rfl
def spec_l6InputCode.f (a0_0 : Int) (a0_1 : Int) (l0_2 : List Int) (l0_3 : List S86) (l0_4 : List S84) (a0_5 : Int) (a0_6 : Int) (a0_7 : Int) (a0_8 : Int) (a0_9 : Int) (a0_10 : Int) (a0_11 : Int) : Option Int := ((if a0_0 < 1 then (some true) else (some (decide (a0_0 > 4)))) >>= fun (j3 : Bool) => (if j3 = true then (some 17) else (spec_l6PathsOK.f l0_3 >>= fun t14 => (if (!t14) = true then (some 6) else ((if a0_1 < 0 then (some true) else (if a0_1 ≥ (l0_3.length : Int) then (some true) else (if a0_5 < 1 then (some true) else (if a0_5 > 256 then (some true) else (if a0_11 < 1 then (some true) else (if a0_11 > 32 then (some true) else (some (decide ((l0_2.length : Int) > 1000))))))))) >>= fun (j20 : Bool) => (if j20 = true then (some 4) else ((if a0_6 > 4611686018427387904 then (some true) else (if a0_7 > 4611686018427387904 then (some true) else (if a0_8 > 4611686018427387904 then (some true) else (if a0_6 > a0_7 then (some true) else (spec_l6Mark.f a0_9 >>= fun t61 => (if (!t61) = true then (some true) else (spec_l6Mark.f a0_10 >>= fun t67 => (some (!t67))))))))) >>= fun (j45 : Bool) => (if j45 = true then (some 4) else ((spec_l6MapsOK.f l0_4 >>= fun t77 => (if (!t77) = true then (some true) else (some (decide ((l0_4.length : Int) > a0_5))))) >>= fun (j73 : Bool) => (if j73 = true then (some 1) else (some 0)))))))))))
theorem spec_l6InputCode.tri (cs0 : List Cell) (o0 : Nat) (l0_2 : List Int) (hv0 : Vw c_i64 1 cs0 o0 l0_2) (cs1 : List Cell) (o1 : Nat) (l0_3 : List S86) (hv1 : Vw c86 3 cs1 o1 l0_3) (cs2 : List Cell) (o2 : Nat) (l0_4 : List S84) (hv2 : Vw c84 5 cs2 o2 l0_4) (a0_0 : Int) (a0_1 : Int) (a0_5 : Int) (a0_6 : Int) (a0_7 : Int) (a0_8 : Int) (a0_9 : Int) (a0_10 : Int) (a0_11 : Int) (r : Int) (h : spec_l6InputCode.f a0_0 a0_1 l0_2 l0_3 l0_4 a0_5 a0_6 a0_7 a0_8 a0_9 a0_10 a0_11 = some r) : Tri Try.prog 86 [.g [.sc (.int .i64 a0_0), .sc (.int .i64 a0_1), .ref (.arg 0) [] o0 l0_2.length, .ref (.arg 1) [] o1 l0_3.length, .ref (.arg 2) [] o2 l0_4.length, .sc (.int .i64 a0_5), .sc (.int .u64 a0_6), .sc (.int .u64 a0_7), .sc (.int .u64 a0_8), .sc (.int .i64 a0_9), .sc (.int .i64 a0_10), .sc (.int .i64 a0_11)]] [(.arg 0, ⟨.fz, 1, cs0⟩), (.arg 1, ⟨.fz, 3, cs1⟩), (.arg 2, ⟨.fz, 5, cs2⟩)] (fun o => o = ⟨.c (.sc (.int .i64 r)), [(.arg 0, ⟨.fz, 1, cs0⟩), (.arg 1, ⟨.fz, 3, cs1⟩), (.arg 2, ⟨.fz, 5, cs2⟩)], [], []⟩) := by
 refine tri_of_body (ac := C86) (xs := r86) Try.func86 (show Try.f86.body = some (Try.f86.body.getD .skip) from rfl) k86 q86 (Nat.le_of_ble_eq_true rfl) ?_
 refine body_of fun K hKn hKr => ?_
 unfold spec_l6InputCode.f at h
 unfold C86
 simp only [initT, Nat.reduceAdd]
 refine sr_k fun J1 hJ1 => ?_
 simp +decide only [Nat.reduceAdd, Nat.reduceMul, Int.reduceToNat, ak]
 refine hJ1 _ ?_
 refine seq_k fun J2 hJ2 => ?_
 obtain ⟨j3, h4, hn⟩ := of_bind h
 refine seq_j (fun st => st = ⟨[(1, .c (.ptr (.tmp 1 0) [] 0)), (10, .c (.sc (.bool j3)))], [(.arg 0, ⟨.fz, 1, cs0⟩), (.arg 1, ⟨.fz, 3, cs1⟩), (.arg 2, ⟨.fz, 5, cs2⟩), (.tmp 1 0, ⟨.box, 0, [.sc (.int .i64 a0_0), .sc (.int .i64 a0_1), .ref (.arg 0) [] o0 l0_2.length, .ref (.arg 1) [] o1 l0_3.length, .ref (.arg 2) [] o2 l0_4.length, .sc (.int .i64 a0_5), .sc (.int .u64 a0_6), .sc (.int .u64 a0_7), .sc (.int .u64 a0_8), .sc (.int .i64 a0_9), .sc (.int .i64 a0_10), .sc (.int .i64 a0_11)]⟩)], [], []⟩) (fun J5 hJ5 => ?_) ?_
 ·replace h := h4; clear hn
  refine ga_k fun G6 G6n G6r G6x => ?_
  refine reg_k ?_
  simp +decide only [Nat.reduceAdd, Nat.reduceMul, Int.reduceToNat, ak]
  by_cases c7 : a0_0 < 1
  ·rw [if_pos c7] at h
   have e8 : decide (a0_0 < 1) = true := decide_eq_true c7
   simp +decide only [Nat.reduceAdd, Nat.reduceMul, Int.reduceToNat, ak, e8]
   obtain rfl := Option.some.inj h
   refine G6n _ _ (wk [1, 10] [pI (.arg 0) .fz, pI (.arg 1) .fz, pI (.arg 2) .fz, pI (.tmp 1 0) .box] (h0 := by first | rfl | simp +decide only [ak, akF, e8]) (h := by first | rfl | (simp +decide only [ak, akF, e8]; done) | (simp +decide [ak, akF, e8] <;> omega))) (hJ5 _ rfl)
  ·rw [if_neg c7] at h
   have e9 : decide (a0_0 < 1) = false := decide_eq_false c7
   simp +decide only [Nat.reduceAdd, Nat.reduceMul, Int.reduceToNat, ak, e9]
   obtain rfl := Option.some.inj h
   refine G6n _ _ (wk [1, 10] [pI (.arg 0) .fz, pI (.arg 1) .fz, pI (.arg 2) .fz, pI (.tmp 1 0) .box] (h0 := by first | rfl | simp +decide only [ak, akF, e9]) (h := by first | rfl | (simp +decide only [ak, akF, e9]; done) | (simp +decide [ak, akF, e9] <;> omega))) (hJ5 _ rfl)
 ·replace h := hn; clear hn h4
  rintro _ rfl
  refine cond_k (b := j3) rfl (fun c10 => ?_) (fun c10 => ?_)
  ·rw [if_pos c10] at h
   refine sr_k fun J11 hJ11 => ?_
   simp +decide only [Nat.reduceAdd, Nat.reduceMul, Int.reduceToNat, ak]
   refine hJ11 _ ?_
   obtain rfl := Option.some.inj h
   refine hKr _ ⟨_, rfl, [], _, rfl, rfl, ?_⟩
   first | rfl | (simp only [reduceCtorEq, Nat.reduceEqDiff, ak, akF]; done) | (simp [reduceCtorEq, Nat.reduceEqDiff, ak, akF] <;> omega)
  ·rw [if_neg (Bool.eq_false_iff.1 c10)] at h
   refine hJ2 _ ?_
   refine seq_k fun J12 hJ12 => ?_
   refine sr_k fun J13 hJ13 => ?_
   simp +decide only [Nat.reduceAdd, Nat.reduceMul, Int.reduceToNat, ak]
   obtain ⟨t14, h15, h⟩ := of_bind h
   refine call_m [(.arg 0, ⟨(.arg 1), [], none, .fz⟩)] (s0 := [(.arg 0, ⟨.fz, 3, cs1⟩)]) (by intro t ht; cases ht; decide) rfl rfl (by first | rfl | simp only [reduceCtorEq, Nat.reduceEqDiff, ak, akF]) (spec_l6PathsOK.tri (cs1) o1 l0_3 hv1 _ h15) (by first | rfl | simp only [reduceCtorEq, Nat.reduceEqDiff, ak, akF]) (by simp [bkOk2, memK]) (fun hl15 => ?_)
   refine call_st (s4 := [(.arg 0, ⟨.fz, 1, cs0⟩), (.arg 1, ⟨.fz, 3, cs1⟩), (.arg 2, ⟨.fz, 5, cs2⟩), (.tmp 1 0, ⟨.box, 0, [.sc (.int .i64 a0_0), .sc (.int .i64 a0_1), .ref (.arg 0) [] o0 l0_2.length, .ref (.arg 1) [] o1 l0_3.length, .ref (.arg 2) [] o2 l0_4.length, .sc (.int .i64 a0_5), .sc (.int .u64 a0_6), .sc (.int .u64 a0_7), .sc (.int .u64 a0_8), .sc (.int .i64 a0_9), .sc (.int .i64 a0_10), .sc (.int .i64 a0_11)]⟩)]) (m1' := []) (m2' := []) (v' := .c (.sc (.bool t14))) (Sto.mapN_killNil _ _) (mrgL_fz (mrgL_nil' _ _ _) rfl (by first | rfl | simp only [reduceCtorEq, Nat.reduceEqDiff, ak]) rfl (by intro R hR hh; cases hR; cases hh.2)) (by rfl) (mapT_killNil _ _) (by rfl) (by rfl) (by first | rfl | simp only [reduceCtorEq, Nat.reduceEqDiff, ak, akF, Nat.zero_add, List.append_nil]) ?_
   simp +decide only [Nat.reduceAdd, Nat.reduceMul, Int.reduceToNat, ak]
   refine hJ13 _ ?_
   refine cond_k (b := !t14) rfl (fun c17 => ?_) (fun c17 => ?_)
   ·rw [if_pos c17] at h
    refine sr_k fun J18 hJ18 => ?_
    simp +decide only [Nat.reduceAdd, Nat.reduceMul, Int.reduceToNat, ak]
    refine hJ18 _ ?_
    obtain rfl := Option.some.inj h
    refine hKr _ ⟨_, rfl, [], _, rfl, rfl, ?_⟩
    first | rfl | (simp only [reduceCtorEq, Nat.reduceEqDiff, ak, akF]; done) | (simp [reduceCtorEq, Nat.reduceEqDiff, ak, akF] <;> omega)
   ·rw [if_neg (Bool.eq_false_iff.1 c17)] at h
    refine hJ12 _ ?_
    refine seq_k fun J19 hJ19 => ?_
    obtain ⟨j20, h21, hn⟩ := of_bind h
    refine seq_j (fun st => st = ⟨[(1, .c (.ptr (.tmp 1 0) [] 0)), (51, .c (.sc (.bool j20)))], [(.arg 0, ⟨.fz, 1, cs0⟩), (.arg 1, ⟨.fz, 3, cs1⟩), (.arg 2, ⟨.fz, 5, cs2⟩), (.tmp 1 0, ⟨.box, 0, [.sc (.int .i64 a0_0), .sc (.int .i64 a0_1), .ref (.arg 0) [] o0 l0_2.length, .ref (.arg 1) [] o1 l0_3.length, .ref (.arg 2) [] o2 l0_4.length, .sc (.int .i64 a0_5), .sc (.int .u64 a0_6), .sc (.int .u64 a0_7), .sc (.int .u64 a0_8), .sc (.int .i64 a0_9), .sc (.int .i64 a0_10), .sc (.int .i64 a0_11)]⟩)], [], []⟩) (fun J22 hJ22 => ?_) ?_
    ·replace h := h21; clear hn
     refine ga_k fun G23 G23n G23r G23x => ?_
     refine reg_k ?_
     simp +decide only [Nat.reduceAdd, Nat.reduceMul, Int.reduceToNat, ak]
     by_cases c24 : a0_1 < 0
     ·rw [if_pos c24] at h
      have e25 : decide (a0_1 < 0) = true := decide_eq_true c24
      simp +decide only [Nat.reduceAdd, Nat.reduceMul, Int.reduceToNat, ak, e25]
      obtain rfl := Option.some.inj h
      refine G23n _ _ (wk [1, 51] [pI (.arg 0) .fz, pI (.arg 1) .fz, pI (.arg 2) .fz, pI (.tmp 1 0) .box] (h0 := by first | rfl | simp +decide only [ak, akF, e25]) (h := by first | rfl | (simp +decide only [ak, akF, e25]; done) | (simp +decide [ak, akF, e25] <;> omega))) (hJ22 _ rfl)
     ·rw [if_neg c24] at h
      have e26 : decide (a0_1 < 0) = false := decide_eq_false c24
      simp +decide only [Nat.reduceAdd, Nat.reduceMul, Int.reduceToNat, ak, e26]
      by_cases c27 : a0_1 ≥ (l0_3.length : Int)
      ·rw [if_pos c27] at h
       have e28 : decide (a0_1 ≥ (l0_3.length : Int)) = true := decide_eq_true c27
       simp +decide only [Nat.reduceAdd, Nat.reduceMul, Int.reduceToNat, ak, e28]
       obtain rfl := Option.some.inj h
       refine G23n _ _ (wk [1, 51] [pI (.arg 0) .fz, pI (.arg 1) .fz, pI (.arg 2) .fz, pI (.tmp 1 0) .box] (h0 := by first | rfl | simp +decide only [ak, akF, e26, e28]) (h := by first | rfl | (simp +decide only [ak, akF, e26, e28]; done) | (simp +decide [ak, akF, e26, e28] <;> omega))) (hJ22 _ rfl)
      ·rw [if_neg c27] at h
       have e29 : decide (a0_1 ≥ (l0_3.length : Int)) = false := decide_eq_false c27
       simp +decide only [Nat.reduceAdd, Nat.reduceMul, Int.reduceToNat, ak, e29]
       by_cases c30 : a0_5 < 1
       ·rw [if_pos c30] at h
        have e31 : decide (a0_5 < 1) = true := decide_eq_true c30
        simp +decide only [Nat.reduceAdd, Nat.reduceMul, Int.reduceToNat, ak, e31]
        obtain rfl := Option.some.inj h
        refine G23n _ _ (wk [1, 51] [pI (.arg 0) .fz, pI (.arg 1) .fz, pI (.arg 2) .fz, pI (.tmp 1 0) .box] (h0 := by first | rfl | simp +decide only [ak, akF, e26, e29, e31]) (h := by first | rfl | (simp +decide only [ak, akF, e26, e29, e31]; done) | (simp +decide [ak, akF, e26, e29, e31] <;> omega))) (hJ22 _ rfl)
       ·rw [if_neg c30] at h
        have e32 : decide (a0_5 < 1) = false := decide_eq_false c30
        simp +decide only [Nat.reduceAdd, Nat.reduceMul, Int.reduceToNat, ak, e32]
        by_cases c33 : a0_5 > 256
        ·rw [if_pos c33] at h
         have e34 : decide (a0_5 > 256) = true := decide_eq_true c33
         simp +decide only [Nat.reduceAdd, Nat.reduceMul, Int.reduceToNat, ak, e34]
         obtain rfl := Option.some.inj h
         refine G23n _ _ (wk [1, 51] [pI (.arg 0) .fz, pI (.arg 1) .fz, pI (.arg 2) .fz, pI (.tmp 1 0) .box] (h0 := by first | rfl | simp +decide only [ak, akF, e26, e29, e32, e34]) (h := by first | rfl | (simp +decide only [ak, akF, e26, e29, e32, e34]; done) | (simp +decide [ak, akF, e26, e29, e32, e34] <;> omega))) (hJ22 _ rfl)
        ·rw [if_neg c33] at h
         have e35 : decide (a0_5 > 256) = false := decide_eq_false c33
         simp +decide only [Nat.reduceAdd, Nat.reduceMul, Int.reduceToNat, ak, e35]
         by_cases c36 : a0_11 < 1
         ·rw [if_pos c36] at h
          have e37 : decide (a0_11 < 1) = true := decide_eq_true c36
          simp +decide only [Nat.reduceAdd, Nat.reduceMul, Int.reduceToNat, ak, e37]
          obtain rfl := Option.some.inj h
          refine G23n _ _ (wk [1, 51] [pI (.arg 0) .fz, pI (.arg 1) .fz, pI (.arg 2) .fz, pI (.tmp 1 0) .box] (h0 := by first | rfl | simp +decide only [ak, akF, e26, e29, e32, e35, e37]) (h := by first | rfl | (simp +decide only [ak, akF, e26, e29, e32, e35, e37]; done) | (simp +decide [ak, akF, e26, e29, e32, e35, e37] <;> omega))) (hJ22 _ rfl)
         ·rw [if_neg c36] at h
          have e38 : decide (a0_11 < 1) = false := decide_eq_false c36
          simp +decide only [Nat.reduceAdd, Nat.reduceMul, Int.reduceToNat, ak, e38]
          by_cases c39 : a0_11 > 32
          ·rw [if_pos c39] at h
           have e40 : decide (a0_11 > 32) = true := decide_eq_true c39
           simp +decide only [Nat.reduceAdd, Nat.reduceMul, Int.reduceToNat, ak, e40]
           obtain rfl := Option.some.inj h
           refine G23n _ _ (wk [1, 51] [pI (.arg 0) .fz, pI (.arg 1) .fz, pI (.arg 2) .fz, pI (.tmp 1 0) .box] (h0 := by first | rfl | simp +decide only [ak, akF, e26, e29, e32, e35, e38, e40]) (h := by first | rfl | (simp +decide only [ak, akF, e26, e29, e32, e35, e38, e40]; done) | (simp +decide [ak, akF, e26, e29, e32, e35, e38, e40] <;> omega))) (hJ22 _ rfl)
          ·rw [if_neg c39] at h
           have e41 : decide (a0_11 > 32) = false := decide_eq_false c39
           simp +decide only [Nat.reduceAdd, Nat.reduceMul, Int.reduceToNat, ak, e41]
           obtain rfl := Option.some.inj h
           refine G23n _ _ (wk [1, 51] [pI (.arg 0) .fz, pI (.arg 1) .fz, pI (.arg 2) .fz, pI (.tmp 1 0) .box] (h0 := by first | rfl | simp +decide only [ak, akF, e26, e29, e32, e35, e38, e41]) (h := by first | rfl | (simp +decide only [ak, akF, e26, e29, e32, e35, e38, e41]; done) | (simp +decide [ak, akF, e26, e29, e32, e35, e38, e41] <;> omega))) (hJ22 _ rfl)
    ·replace h := hn; clear hn h21
     rintro _ rfl
     refine cond_k (b := j20) rfl (fun c42 => ?_) (fun c42 => ?_)
     ·rw [if_pos c42] at h
      refine sr_k fun J43 hJ43 => ?_
      simp +decide only [Nat.reduceAdd, Nat.reduceMul, Int.reduceToNat, ak]
      refine hJ43 _ ?_
      obtain rfl := Option.some.inj h
      refine hKr _ ⟨_, rfl, [], _, rfl, rfl, ?_⟩
      first | rfl | (simp only [reduceCtorEq, Nat.reduceEqDiff, ak, akF]; done) | (simp [reduceCtorEq, Nat.reduceEqDiff, ak, akF] <;> omega)
     ·rw [if_neg (Bool.eq_false_iff.1 c42)] at h
      refine hJ19 _ ?_
      refine seq_k fun J44 hJ44 => ?_
      obtain ⟨j45, h46, hn⟩ := of_bind h
      refine seq_j (fun st => st = ⟨[(1, .c (.ptr (.tmp 1 0) [] 0)), (83, .c (.sc (.bool j45)))], [(.arg 0, ⟨.fz, 1, cs0⟩), (.arg 1, ⟨.fz, 3, cs1⟩), (.arg 2, ⟨.fz, 5, cs2⟩), (.tmp 1 0, ⟨.box, 0, [.sc (.int .i64 a0_0), .sc (.int .i64 a0_1), .ref (.arg 0) [] o0 l0_2.length, .ref (.arg 1) [] o1 l0_3.length, .ref (.arg 2) [] o2 l0_4.length, .sc (.int .i64 a0_5), .sc (.int .u64 a0_6), .sc (.int .u64 a0_7), .sc (.int .u64 a0_8), .sc (.int .i64 a0_9), .sc (.int .i64 a0_10), .sc (.int .i64 a0_11)]⟩)], [], []⟩) (fun J47 hJ47 => ?_) ?_
      ·replace h := h46; clear hn
       refine ga_k fun G48 G48n G48r G48x => ?_
       refine reg_k ?_
       simp +decide only [Nat.reduceAdd, Nat.reduceMul, Int.reduceToNat, ak]
       by_cases c49 : a0_6 > 4611686018427387904
       ·rw [if_pos c49] at h
        have e50 : decide (a0_6 > 4611686018427387904) = true := decide_eq_true c49
        simp +decide only [Nat.reduceAdd, Nat.reduceMul, Int.reduceToNat, ak, e50]
        obtain rfl := Option.some.inj h
        refine G48n _ _ (wk [1, 83] [pI (.arg 0) .fz, pI (.arg 1) .fz, pI (.arg 2) .fz, pI (.tmp 1 0) .box] (h0 := by first | rfl | simp +decide only [ak, akF, e50]) (h := by first | rfl | (simp +decide only [ak, akF, e50]; done) | (simp +decide [ak, akF, e50] <;> omega))) (hJ47 _ rfl)
       ·rw [if_neg c49] at h
        have e51 : decide (a0_6 > 4611686018427387904) = false := decide_eq_false c49
        simp +decide only [Nat.reduceAdd, Nat.reduceMul, Int.reduceToNat, ak, e51]
        by_cases c52 : a0_7 > 4611686018427387904
        ·rw [if_pos c52] at h
         have e53 : decide (a0_7 > 4611686018427387904) = true := decide_eq_true c52
         simp +decide only [Nat.reduceAdd, Nat.reduceMul, Int.reduceToNat, ak, e53]
         obtain rfl := Option.some.inj h
         refine G48n _ _ (wk [1, 83] [pI (.arg 0) .fz, pI (.arg 1) .fz, pI (.arg 2) .fz, pI (.tmp 1 0) .box] (h0 := by first | rfl | simp +decide only [ak, akF, e51, e53]) (h := by first | rfl | (simp +decide only [ak, akF, e51, e53]; done) | (simp +decide [ak, akF, e51, e53] <;> omega))) (hJ47 _ rfl)
        ·rw [if_neg c52] at h
         have e54 : decide (a0_7 > 4611686018427387904) = false := decide_eq_false c52
         simp +decide only [Nat.reduceAdd, Nat.reduceMul, Int.reduceToNat, ak, e54]
         by_cases c55 : a0_8 > 4611686018427387904
         ·rw [if_pos c55] at h
          have e56 : decide (a0_8 > 4611686018427387904) = true := decide_eq_true c55
          simp +decide only [Nat.reduceAdd, Nat.reduceMul, Int.reduceToNat, ak, e56]
          obtain rfl := Option.some.inj h
          refine G48n _ _ (wk [1, 83] [pI (.arg 0) .fz, pI (.arg 1) .fz, pI (.arg 2) .fz, pI (.tmp 1 0) .box] (h0 := by first | rfl | simp +decide only [ak, akF, e51, e54, e56]) (h := by first | rfl | (simp +decide only [ak, akF, e51, e54, e56]; done) | (simp +decide [ak, akF, e51, e54, e56] <;> omega))) (hJ47 _ rfl)
         ·rw [if_neg c55] at h
          have e57 : decide (a0_8 > 4611686018427387904) = false := decide_eq_false c55
          simp +decide only [Nat.reduceAdd, Nat.reduceMul, Int.reduceToNat, ak, e57]
          by_cases c58 : a0_6 > a0_7
          ·rw [if_pos c58] at h
           have e59 : decide (a0_6 > a0_7) = true := decide_eq_true c58
           simp +decide only [Nat.reduceAdd, Nat.reduceMul, Int.reduceToNat, ak, e59]
           obtain rfl := Option.some.inj h
           refine G48n _ _ (wk [1, 83] [pI (.arg 0) .fz, pI (.arg 1) .fz, pI (.arg 2) .fz, pI (.tmp 1 0) .box] (h0 := by first | rfl | simp +decide only [ak, akF, e51, e54, e57, e59]) (h := by first | rfl | (simp +decide only [ak, akF, e51, e54, e57, e59]; done) | (simp +decide [ak, akF, e51, e54, e57, e59] <;> omega))) (hJ47 _ rfl)
          ·rw [if_neg c58] at h
           have e60 : decide (a0_6 > a0_7) = false := decide_eq_false c58
           simp +decide only [Nat.reduceAdd, Nat.reduceMul, Int.reduceToNat, ak, e60]
           obtain ⟨t61, h62, h⟩ := of_bind h
           refine call_m [] (s0 := []) (by intro t ht; cases ht; decide) rfl rfl (by first | rfl | simp only [reduceCtorEq, Nat.reduceEqDiff, ak, akF, e51, e54, e57, e60]) (spec_l6Mark.tri a0_9 _ h62) (by first | rfl | simp only [reduceCtorEq, Nat.reduceEqDiff, ak, akF]) (by simp [bkOk2, memK]) (fun hl62 => ?_)
           refine call_st (s4 := [(.arg 0, ⟨.fz, 1, cs0⟩), (.arg 1, ⟨.fz, 3, cs1⟩), (.arg 2, ⟨.fz, 5, cs2⟩), (.tmp 1 0, ⟨.box, 0, [.sc (.int .i64 a0_0), .sc (.int .i64 a0_1), .ref (.arg 0) [] o0 l0_2.length, .ref (.arg 1) [] o1 l0_3.length, .ref (.arg 2) [] o2 l0_4.length, .sc (.int .i64 a0_5), .sc (.int .u64 a0_6), .sc (.int .u64 a0_7), .sc (.int .u64 a0_8), .sc (.int .i64 a0_9), .sc (.int .i64 a0_10), .sc (.int .i64 a0_11)]⟩)]) (m1' := []) (m2' := []) (v' := .c (.sc (.bool t61))) (Sto.mapN_killNil _ _) (mrgL_nil' _ _ _) (by rfl) (mapT_killNil _ _) (by rfl) (by rfl) (by first | rfl | simp only [reduceCtorEq, Nat.reduceEqDiff, ak, akF, Nat.zero_add, List.append_nil, e51, e54, e57, e60]) ?_
           simp +decide only [Nat.reduceAdd, Nat.reduceMul, Int.reduceToNat, ak]
           by_cases c64 : (!t61) = true
           ·rw [if_pos c64] at h
            have e65 : (!t61) = true := c64
            simp +decide only [Nat.reduceAdd, Nat.reduceMul, Int.reduceToNat, ak, e65]
            obtain rfl := Option.some.inj h
            refine G48n _ _ (wk [1, 83] [pI (.arg 0) .fz, pI (.arg 1) .fz, pI (.arg 2) .fz, pI (.tmp 1 0) .box] (h0 := by first | rfl | simp +decide only [ak, akF, e51, e54, e57, e60, e65]) (h := by first | rfl | (simp +decide only [ak, akF, e51, e54, e57, e60, e65]; done) | (simp +decide [ak, akF, e51, e54, e57, e60, e65] <;> omega))) (hJ47 _ rfl)
           ·rw [if_neg c64] at h
            have e66 : (!t61) = false := Bool.eq_false_iff.2 c64
            simp +decide only [Nat.reduceAdd, Nat.reduceMul, Int.reduceToNat, ak, e66]
            obtain ⟨t67, h68, h⟩ := of_bind h
            refine call_m [] (s0 := []) (by intro t ht; cases ht; decide) rfl rfl (by first | rfl | simp only [reduceCtorEq, Nat.reduceEqDiff, ak, akF, e51, e54, e57, e60, e66]) (spec_l6Mark.tri a0_10 _ h68) (by first | rfl | simp only [reduceCtorEq, Nat.reduceEqDiff, ak, akF]) (by simp [bkOk2, memK]) (fun hl68 => ?_)
            refine call_st (s4 := [(.arg 0, ⟨.fz, 1, cs0⟩), (.arg 1, ⟨.fz, 3, cs1⟩), (.arg 2, ⟨.fz, 5, cs2⟩), (.tmp 1 0, ⟨.box, 0, [.sc (.int .i64 a0_0), .sc (.int .i64 a0_1), .ref (.arg 0) [] o0 l0_2.length, .ref (.arg 1) [] o1 l0_3.length, .ref (.arg 2) [] o2 l0_4.length, .sc (.int .i64 a0_5), .sc (.int .u64 a0_6), .sc (.int .u64 a0_7), .sc (.int .u64 a0_8), .sc (.int .i64 a0_9), .sc (.int .i64 a0_10), .sc (.int .i64 a0_11)]⟩)]) (m1' := []) (m2' := []) (v' := .c (.sc (.bool t67))) (Sto.mapN_killNil _ _) (mrgL_nil' _ _ _) (by rfl) (mapT_killNil _ _) (by rfl) (by rfl) (by first | rfl | simp only [reduceCtorEq, Nat.reduceEqDiff, ak, akF, Nat.zero_add, List.append_nil, e51, e54, e57, e60, e66]) ?_
            simp +decide only [Nat.reduceAdd, Nat.reduceMul, Int.reduceToNat, ak]
            obtain rfl := Option.some.inj h
            refine G48n _ _ (wk [1, 83] [pI (.arg 0) .fz, pI (.arg 1) .fz, pI (.arg 2) .fz, pI (.tmp 1 0) .box] (h0 := by first | rfl | simp +decide only [ak, akF, e51, e54, e57, e60, e66]) (h := by first | rfl | (simp +decide only [ak, akF, e51, e54, e57, e60, e66]; done) | (simp +decide [ak, akF, e51, e54, e57, e60, e66] <;> omega))) (hJ47 _ rfl)
      ·replace h := hn; clear hn h46
       rintro _ rfl
       refine cond_k (b := j45) rfl (fun c70 => ?_) (fun c70 => ?_)
       ·rw [if_pos c70] at h
        refine sr_k fun J71 hJ71 => ?_
        simp +decide only [Nat.reduceAdd, Nat.reduceMul, Int.reduceToNat, ak]
        refine hJ71 _ ?_
        obtain rfl := Option.some.inj h
        refine hKr _ ⟨_, rfl, [], _, rfl, rfl, ?_⟩
        first | rfl | (simp only [reduceCtorEq, Nat.reduceEqDiff, ak, akF]; done) | (simp [reduceCtorEq, Nat.reduceEqDiff, ak, akF] <;> omega)
       ·rw [if_neg (Bool.eq_false_iff.1 c70)] at h
        refine hJ44 _ ?_
        refine seq_k fun J72 hJ72 => ?_
        obtain ⟨j73, h74, hn⟩ := of_bind h
        refine seq_j (fun st => st = ⟨[(95, .c (.sc (.bool j73)))], [(.arg 0, ⟨.fz, 1, cs0⟩), (.arg 1, ⟨.fz, 3, cs1⟩), (.arg 2, ⟨.fz, 5, cs2⟩)], [], []⟩) (fun J75 hJ75 => ?_) ?_
        ·replace h := h74; clear hn
         refine ga_k fun G76 G76n G76r G76x => ?_
         refine reg_k ?_
         simp +decide only [Nat.reduceAdd, Nat.reduceMul, Int.reduceToNat, ak]
         obtain ⟨t77, h78, h⟩ := of_bind h
         refine call_m [(.arg 0, ⟨(.arg 2), [], none, .fz⟩)] (s0 := [(.arg 0, ⟨.fz, 5, cs2⟩)]) (by intro t ht; cases ht; decide) rfl rfl (by first | rfl | simp only [reduceCtorEq, Nat.reduceEqDiff, ak, akF]) (spec_l6MapsOK.tri (cs2) o2 l0_4 hv2 _ h78) (by first | rfl | simp only [reduceCtorEq, Nat.reduceEqDiff, ak, akF]) (by simp [bkOk2, memK]) (fun hl78 => ?_)
         refine call_st (s4 := [(.arg 0, ⟨.fz, 1, cs0⟩), (.arg 1, ⟨.fz, 3, cs1⟩), (.arg 2, ⟨.fz, 5, cs2⟩), (.tmp 1 0, ⟨.box, 0, [.sc (.int .i64 a0_0), .sc (.int .i64 a0_1), .ref (.arg 0) [] o0 l0_2.length, .ref (.arg 1) [] o1 l0_3.length, .ref (.arg 2) [] o2 l0_4.length, .sc (.int .i64 a0_5), .sc (.int .u64 a0_6), .sc (.int .u64 a0_7), .sc (.int .u64 a0_8), .sc (.int .i64 a0_9), .sc (.int .i64 a0_10), .sc (.int .i64 a0_11)]⟩)]) (m1' := []) (m2' := []) (v' := .c (.sc (.bool t77))) (Sto.mapN_killNil _ _) (mrgL_fz (mrgL_nil' _ _ _) rfl (by first | rfl | simp only [reduceCtorEq, Nat.reduceEqDiff, ak]) rfl (by intro R hR hh; cases hR; cases hh.2)) (by rfl) (mapT_killNil _ _) (by rfl) (by rfl) (by first | rfl | simp only [reduceCtorEq, Nat.reduceEqDiff, ak, akF, Nat.zero_add, List.append_nil]) ?_
         simp +decide only [Nat.reduceAdd, Nat.reduceMul, Int.reduceToNat, ak]
         by_cases c80 : (!t77) = true
         ·rw [if_pos c80] at h
          have e81 : (!t77) = true := c80
          simp +decide only [Nat.reduceAdd, Nat.reduceMul, Int.reduceToNat, ak, e81]
          obtain rfl := Option.some.inj h
          refine G76n _ _ (wk [95] [pI (.arg 0) .fz, pI (.arg 1) .fz, pI (.arg 2) .fz] (h0 := by first | rfl | simp +decide only [ak, akF, e81]) (h := by first | rfl | (simp +decide only [ak, akF, e81]; done) | (simp +decide [ak, akF, e81] <;> omega))) (hJ75 _ rfl)
         ·rw [if_neg c80] at h
          have e82 : (!t77) = false := Bool.eq_false_iff.2 c80
          simp +decide only [Nat.reduceAdd, Nat.reduceMul, Int.reduceToNat, ak, e82]
          obtain rfl := Option.some.inj h
          refine G76n _ _ (wk [95] [pI (.arg 0) .fz, pI (.arg 1) .fz, pI (.arg 2) .fz] (h0 := by first | rfl | simp +decide only [ak, akF, e82]) (h := by first | rfl | (simp +decide only [ak, akF, e82]; done) | (simp +decide [ak, akF, e82] <;> omega))) (hJ75 _ rfl)
        ·replace h := hn; clear hn h74
         rintro _ rfl
         refine cond_k (b := j73) rfl (fun c83 => ?_) (fun c83 => ?_)
         ·rw [if_pos c83] at h
          refine sr_k fun J84 hJ84 => ?_
          simp +decide only [Nat.reduceAdd, Nat.reduceMul, Int.reduceToNat, ak]
          refine hJ84 _ ?_
          obtain rfl := Option.some.inj h
          refine hKr _ ⟨_, rfl, [], _, rfl, rfl, ?_⟩
          first | rfl | (simp only [reduceCtorEq, Nat.reduceEqDiff, ak, akF]; done) | (simp [reduceCtorEq, Nat.reduceEqDiff, ak, akF] <;> omega)
         ·rw [if_neg (Bool.eq_false_iff.1 c83)] at h
          refine hJ72 _ ?_
          refine sr_k fun J85 hJ85 => ?_
          simp +decide only [Nat.reduceAdd, Nat.reduceMul, Int.reduceToNat, ak]
          refine hJ85 _ ?_
          obtain rfl := Option.some.inj h
          refine hKr _ ⟨_, rfl, [], _, rfl, rfl, ?_⟩
          first | rfl | (simp only [reduceCtorEq, Nat.reduceEqDiff, ak, akF]; done) | (simp [reduceCtorEq, Nat.reduceEqDiff, ak, akF] <;> omega)
/-! ### spec.l6Bit: function 77 -/
def C77_l0 : AC := .seq (.seq (.reg [.op none (.mv 6 (.tmp 5)), .op none (.mv 7 (.tmp 1)), .op none (.bin 8 .lss (.tmp 6) (.tmp 7)), .keep [0, 1, 5, 8]]) (.cond (.tmp 8) (.skip) (.gh (.exit 0)))) (.seq (.block 1 (.reg [.op none (.mv 11 (.tmp 0)), .op none (.bin 12 .quo (.tmp 11) (.const (.int .i64 2))), .op none (.mv 0 (.tmp 12)), .keep [0, 1, 5]])) (.reg [.op none (.mv 9 (.tmp 5)), .op none (.bin 10 .add (.tmp 9) (.const (.int .i64 1))), .op none (.mv 5 (.tmp 10)), .keep [0, 1, 5]]))
def C77 : AC := .seq (.reg [.op none (.mv 4 (.const (.bool false))), .keep [0, 1]]) (.seq (.seq (.reg [.op none (.mv 5 (.const (.int .i64 0))), .keep [0, 1, 5]]) (.block 0 (.gh (.loop (.ga C77_l0))))) (.seq (.reg [.op none (.mv 13 (.tmp 0)), .op none (.bin 14 .rem (.tmp 13) (.const (.int .i64 2))), .op none (.bin 15 .eql (.tmp 14) (.const (.int .i64 1))), .op none (.mv 4 (.tmp 15)), .keep [4]]) (.ret)))
def r77 : List RV := [.tmp 4]
theorem k77 : compC Try.prog 16 C77 (Try.f77.body.getD .skip) = some C77.erase := by kernel_rfl
theorem q77 : rvsOf Try.prog Try.f77.results.toList = some r77 := by kernel_rfl
def spec_l6Bit.l0 (x0_1 : Int) (x0_0 : Int) (x0_2 : Int) : Option Int := (if x0_2 < x0_1 then (spec_l6Bit.l0 x0_1 (IntKind.i64.wrap (x0_0.tdiv 2)) (IntKind.i64.wrap (x0_2 + 1))) else (some x0_0))
 partial_fixpoint
def spec_l6Bit.f (a0 : Int) (a1 : Int) : Option Bool := (spec_l6Bit.l0 a1 a0 0 >>= fun (y10 : Int) => (some (decide (y10.tmod 2 = 1))))
def spec_l6Bit.l0_M (x0_1 : Int) (x0_0 : Int) (x0_2 : Int) (y : Int) : Prop := ∀ (K : AE → St → Prop), (K (.exit 0) ⟨[(0, .c (.sc (.int .i64 y)))], [], [], []⟩) → loopS Try.prog 16 (.ga C77_l0) K ⟨[(0, .c (.sc (.int .i64 x0_0))), (1, .c (.sc (.int .i64 x0_1))), (5, .c (.sc (.int .i64 x0_2)))], [], [], []⟩
theorem spec_l6Bit.l0_walk (x0_1 : Int) (x0_0 : Int) (x0_2 : Int) (y : Int) (h : spec_l6Bit.l0 x0_1 x0_0 x0_2 = some y) : spec_l6Bit.l0_M x0_1 x0_0 x0_2 y := by
 refine spec_l6Bit.l0.partial_correctness x0_1 (motive := fun x0_0 x0_2 y => spec_l6Bit.l0_M x0_1 x0_0 x0_2 y) ?_ x0_0 x0_2 y h
 clear h
 unfold spec_l6Bit.l0_M
 intro rec ih x0_0 x0_2 y h K hx0
 refine loop_unroll (ga_k fun G0 G0n G0r G0x => ?_)
 unfold C77_l0
 refine seq_k fun J5 hJ5 => ?_
 refine sr_k fun J6 hJ6 => ?_
 simp +decide only [Nat.reduceAdd, Nat.reduceMul, Int.reduceToNat, ak]
 refine hJ6 _ ?_
 refine cond_k (b := decide (x0_2 < x0_1)) rfl (fun c7 => ?_) (fun c7 => ?_)
 ·replace c7 := of_decide_eq_true c7; rw [if_pos c7] at h
  refine hJ5 _ ?_
  refine seq_k fun J8 hJ8 => ?_
  refine block_k fun B9 B9n B9x B9r B9j => ?_
  refine reg_k ?_
  simp +decide only [Nat.reduceAdd, Nat.reduceMul, Int.reduceToNat, ak, ne_lit]
  refine B9n _ ?_
  refine hJ8 _ ?_
  refine reg_k ?_
  simp +decide only [Nat.reduceAdd, Nat.reduceMul, Int.reduceToNat, ak]
  refine G0n _ _ (wk [0, 1, 5] []) (ih _ _ _ h K hx0)
 ·replace c7 := of_decide_eq_false c7; rw [if_neg c7] at h
  obtain rfl := Option.some.inj h
  refine gh_k (wk [0] []) ?_
  refine G0x _ _ ?_
  exact hx0
theorem spec_l6Bit.tri (a0 : Int) (a1 : Int) (r : Bool) (h : spec_l6Bit.f a0 a1 = some r) : Tri Try.prog 77 [.c (.sc (.int .i64 a0)), .c (.sc (.int .i64 a1))] [] (fun o => o = ⟨.c (.sc (.bool r)), [], [], []⟩) := by
 refine tri_of_body (ac := C77) (xs := r77) Try.func77 (show Try.f77.body = some (Try.f77.body.getD .skip) from rfl) k77 q77 (Nat.le_of_ble_eq_true rfl) ?_
 refine body_of fun K hKn hKr => ?_
 unfold spec_l6Bit.f at h
 unfold C77
 simp only [initT, Nat.reduceAdd]
 refine sr_k fun J1 hJ1 => ?_
 simp +decide only [Nat.reduceAdd, Nat.reduceMul, Int.reduceToNat, ak]
 refine hJ1 _ ?_
 refine seq_k fun J2 hJ2 => ?_
 refine sr_k fun J3 hJ3 => ?_
 simp +decide only [Nat.reduceAdd, Nat.reduceMul, Int.reduceToNat, ak]
 refine hJ3 _ ?_
 refine block_k fun B4 B4n B4x B4r B4j => ?_
 obtain ⟨y10, h11, h⟩ := of_bind h
 refine gh_k (wk [0, 1, 5] []) ?_
 rw [e_loop]
 refine spec_l6Bit.l0_walk a1 a0 0 _ h11 _ ?_
 refine B4x _ ?_
 refine hJ2 _ ?_
 refine sr_k fun J12 hJ12 => ?_
 simp +decide only [Nat.reduceAdd, Nat.reduceMul, Int.reduceToNat, ak, ne_lit]
 refine hJ12 _ ?_
 obtain rfl := Option.some.inj h
 refine hKr _ ⟨_, rfl, [], _, rfl, rfl, ?_⟩
 first | rfl | (simp only [reduceCtorEq, Nat.reduceEqDiff, ak, akF]; done) | (simp [reduceCtorEq, Nat.reduceEqDiff, ak, akF] <;> omega)
/-! ### spec.l6Eligible: function 111 -/
def C111_l0 : AC := .seq (.seq (.reg [.op none (.mv 8 (.tmp 6)), .op none (.mv 9 (.tmp 0)), .op none (.len 10 (.tmp 9)), .op none (.bin 11 .lss (.tmp 8) (.tmp 10)), .keep [0, 1, 5, 6, 11]]) (.cond (.tmp 11) (.skip) (.gh (.exit 0)))) (.seq (.ga (.block 1 (.seq (.ga (.reg [.op none (.mv 14 (.tmp 0)), .op none (.mv 15 (.tmp 6)), .op none (.iaddr 16 3 (.tmp 14) (.tmp 15)), .op none (.faddr 17 0 (.tmp 16)), .op none (.load 18 false 1 (.tmp 17)), .op none (.bin 19 .eql (.tmp 18) (.const (.int .i64 1))), .op none (.mv 20 (.tmp 19)), .op (some (20, true)) (.mv 21 (.tmp 0)), .op (some (20, true)) (.mv 22 (.tmp 6)), .op (some (20, true)) (.iaddr 23 3 (.tmp 21) (.tmp 22)), .op (some (20, true)) (.faddr 24 2 (.tmp 23)), .op (some (20, true)) (.load 25 false 1 (.tmp 24)), .op (some (20, true)) (.bin 26 .gtr (.tmp 25) (.const (.int .i64 0))), .op none (.pick 27 (.tmp 20) (.tmp 26) (.const (.bool false))), .op none (.mv 28 (.tmp 27)), .op (some (28, true)) (.mv 29 (.tmp 1)), .op (some (28, true)) (.mv 30 (.tmp 6)), .call (some (28, true)) (some 31) 77 [.tmp 29, .tmp 30], .op (some (28, true)) (.un 32 .not (.tmp 31)), .op none (.pick 33 (.tmp 28) (.tmp 32) (.const (.bool false))), .keep [0, 1, 5, 6, 33]])) (.cond (.tmp 33) (.reg [.op none (.mv 34 (.tmp 5)), .op none (.mv 35 (.tmp 6)), .op none (.bslice 36 1 [.int .i64 0] 1 [(0, .tmp 35)]), .op none (.app 37 1 8 true (.tmp 34) (.tmp 36)), .op none (.mv 5 (.tmp 37)), .keep [0, 1, 5, 6]]) (.skip))))) (.reg [.op none (.mv 12 (.tmp 6)), .op none (.bin 13 .add (.tmp 12) (.const (.int .i64 1))), .op none (.mv 6 (.tmp 13)), .keep [0, 1, 5, 6]]))
def C111 : AC := .seq (.reg [.op none (.mv 4 (.const (.slice none 0 0))), .gh, .keep [0, 1]]) (.seq (.reg [.op none (.bslice 7 1 [.int .i64 0] 0 []), .op none (.mv 5 (.tmp 7)), .keep [0, 1, 5]]) (.seq (.seq (.reg [.op none (.mv 6 (.const (.int .i64 0))), .keep [0, 1, 5, 6]]) (.block 0 (.gh (.loop (.ga C111_l0))))) (.seq (.reg [.op none (.mv 38 (.tmp 5)), .op none (.mv 4 (.tmp 38)), .keep [4]]) (.ret))))
def r111 : List RV := [.tmp 4]
theorem k111 : compC Try.prog 39 C111 (Try.f111.body.getD .skip) = some C111.erase := by kernel_rfl
theorem q111 : rvsOf Try.prog Try.f111.results.toList = some r111 := by kernel_rfl
def spec_l6Eligible.l0 (l0 : List S86) (x0_0 : Int) (x0_1 : Int) (x0_2 : (List Int)) : Option (List Int) := (if x0_1 < (l0.length : Int) then (((if 0 ≤ x0_1 ∧ x0_1 < (l0.length : Int) then (if (rd z86 l0 x0_1).f0 = 1 then (if (rd z86 l0 x0_1).f2 > 0 then (spec_l6Bit.f x0_0 x0_1 >>= fun t30 => (some (!t30))) else (some false)) else (some false)) else none) >>= fun (j17 : Bool) => (if j17 = true then (if (x0_2.length + 1) * 8 ≤ 140737488355328 then (some (x0_2 ++ ([x0_1] : List Int))) else none) else (some x0_2))) >>= fun (j12 : (List Int)) => (spec_l6Eligible.l0 l0 x0_0 (IntKind.i64.wrap (x0_1 + 1)) j12)) else (some x0_2))
 partial_fixpoint
def spec_l6Eligible.f (l0 : List S86) (a1 : Int) : Option (List Int) := (spec_l6Eligible.l0 l0 a1 0 ([] : List Int) >>= fun (y45 : (List Int)) => (some y45))
def spec_l6Eligible.l0_M (cs0 : List Cell) (o0 : Nat) (l0 : List S86) (hv0 : Vw c86 3 cs0 o0 l0) (x0_0 : Int) (x0_1 : Int) (x0_2 : (List Int)) (y : (List Int)) : Prop := ∀ (K : AE → St → Prop), (K (.exit 0) ⟨[(5, .c (.ref (.tmp 7 0) [] 0 y.length))], [(.arg 0, ⟨.fz, 3, cs0⟩), (.tmp 7 0, ⟨.lst, 1, encL c_i64 y⟩)], [], []⟩) → loopS Try.prog 39 (.ga C111_l0) K ⟨[(0, .c (.ref (.arg 0) [] o0 l0.length)), (1, .c (.sc (.int .i64 x0_0))), (5, .c (.ref (.tmp 7 0) [] 0 x0_2.length)), (6, .c (.sc (.int .i64 x0_1)))], [(.arg 0, ⟨.fz, 3, cs0⟩), (.tmp 7 0, ⟨.lst, 1, encL c_i64 x0_2⟩)], [], []⟩
theorem spec_l6Eligible.l0_walk (cs0 : List Cell) (o0 : Nat) (l0 : List S86) (hv0 : Vw c86 3 cs0 o0 l0) (x0_0 : Int) (x0_1 : Int) (x0_2 : (List Int)) (y : (List Int)) (h : spec_l6Eligible.l0 l0 x0_0 x0_1 x0_2 = some y) : spec_l6Eligible.l0_M cs0 o0 l0 hv0 x0_0 x0_1 x0_2 y := by
 refine spec_l6Eligible.l0.partial_correctness l0 x0_0 (motive := fun x0_1 x0_2 y => spec_l6Eligible.l0_M cs0 o0 l0 hv0 x0_0 x0_1 x0_2 y) ?_ x0_1 x0_2 y h
 clear h
 unfold spec_l6Eligible.l0_M
 intro rec ih x0_1 x0_2 y h K hx0
 refine loop_unroll (ga_k fun G0 G0n G0r G0x => ?_)
 unfold C111_l0
 refine seq_k fun J9 hJ9 => ?_
 refine sr_k fun J10 hJ10 => ?_
 simp +decide only [Nat.reduceAdd, Nat.reduceMul, Int.reduceToNat, ak]
 refine hJ10 _ ?_
 refine cond_k (b := decide (x0_1 < (l0.length : Int))) rfl (fun c11 => ?_) (fun c11 => ?_)
 ·replace c11 := of_decide_eq_true c11; rw [if_pos c11] at h
  refine hJ9 _ ?_
  obtain ⟨j12, h13, hn⟩ := of_bind h
  refine seq_j (fun st => st = ⟨[(0, .c (.ref (.arg 0) [] o0 l0.length)), (1, .c (.sc (.int .i64 x0_0))), (5, .c (.ref (.tmp 7 0) [] 0 j12.length)), (6, .c (.sc (.int .i64 x0_1)))], [(.arg 0, ⟨.fz, 3, cs0⟩), (.tmp 7 0, ⟨.lst, 1, encL c_i64 j12⟩)], [], []⟩) (fun J14 hJ14 => ?_) ?_
  ·replace h := h13; clear hn
   refine ga_k fun G15 G15n G15r G15x => ?_
   refine block_k fun B16 B16n B16x B16r B16j => ?_
   obtain ⟨j17, h18, hn⟩ := of_bind h
   refine seq_j (fun st => st = ⟨[(0, .c (.ref (.arg 0) [] o0 l0.length)), (1, .c (.sc (.int .i64 x0_0))), (5, .c (.ref (.tmp 7 0) [] 0 x0_2.length)), (6, .c (.sc (.int .i64 x0_1))), (33, .c (.sc (.bool j17)))], [(.arg 0, ⟨.fz, 3, cs0⟩), (.tmp 7 0, ⟨.lst, 1, encL c_i64 x0_2⟩)], [], []⟩) (fun J19 hJ19 => ?_) ?_
   ·replace h := h18; clear hn
    refine ga_k fun G20 G20n G20r G20x => ?_
    refine reg_k ?_
    obtain ⟨b21, h⟩ := of_guard h
    have g22 : o0 + x0_1.toNat * 3 + 0 ≤ (cs0).length := (hv0.len_le b21.1 b21.2 (by decide))
    have g23 : (cs0)[o0 + x0_1.toNat * 3 + 0]? = some (.sc (.int .i64 ((rd z86 l0 x0_1).f0))) := hv0.get z86 0 b21.1 b21.2 (by decide)
    simp +decide only [Nat.reduceAdd, Nat.reduceMul, Int.reduceToNat, ak, b21, g22, g23]
    by_cases c24 : (rd z86 l0 x0_1).f0 = 1
    ·rw [if_pos c24] at h
     have e25 : decide ((rd z86 l0 x0_1).f0 = 1) = true := decide_eq_true c24
     have g26 : o0 + x0_1.toNat * 3 + 2 ≤ (cs0).length := (hv0.len_le b21.1 b21.2 (by decide))
     have g27 : (cs0)[o0 + x0_1.toNat * 3 + 2]? = some (.sc (.int .i64 ((rd z86 l0 x0_1).f2))) := hv0.get z86 2 b21.1 b21.2 (by decide)
     simp +decide only [Nat.reduceAdd, Nat.reduceMul, Int.reduceToNat, ak, e25, b21, g26, g27]
     by_cases c28 : (rd z86 l0 x0_1).f2 > 0
     ·rw [if_pos c28] at h
      have e29 : decide ((rd z86 l0 x0_1).f2 > 0) = true := decide_eq_true c28
      simp +decide only [Nat.reduceAdd, Nat.reduceMul, Int.reduceToNat, ak, e29]
      obtain ⟨t30, h31, h⟩ := of_bind h
      refine call_m [] (s0 := []) (by intro t ht; cases ht; decide) rfl rfl (by first | rfl | simp only [reduceCtorEq, Nat.reduceEqDiff, ak, akF, b21, e25, e29, g22, g23, g26, g27]) (spec_l6Bit.tri x0_0 x0_1 _ h31) (by first | rfl | simp only [reduceCtorEq, Nat.reduceEqDiff, ak, akF]) (by simp [bkOk2, memK]) (fun hl31 => ?_)
      refine call_st (s4 := [(.arg 0, ⟨.fz, 3, cs0⟩), (.tmp 7 0, ⟨.lst, 1, encL c_i64 x0_2⟩)]) (m1' := []) (m2' := []) (v' := .c (.sc (.bool t30))) (Sto.mapN_killNil _ _) (mrgL_nil' _ _ _) (by rfl) (mapT_killNil _ _) (by rfl) (by rfl) (by first | rfl | simp only [reduceCtorEq, Nat.reduceEqDiff, ak, akF, Nat.zero_add, List.append_nil, b21, e25, e29]) ?_
      simp +decide only [Nat.reduceAdd, Nat.reduceMul, Int.reduceToNat, ak]
      obtain rfl := Option.some.inj h
      refine G20n _ _ (wk [0, 1, 5, 6, 33] [pI (.arg 0) .fz, pI (.tmp 7 0) .lst] (h0 := by first | rfl | simp +decide only [ak, akF, b21, e25, e29]) (h := by first | rfl | (simp +decide only [ak, akF, b21, e25, e29]; done) | (simp +decide [ak, akF, b21, e25, e29] <;> omega))) (hJ19 _ rfl)
     ·rw [if_neg c28] at h
      have e33 : decide ((rd z86 l0 x0_1).f2 > 0) = false := decide_eq_false c28
      simp +decide only [Nat.reduceAdd, Nat.reduceMul, Int.reduceToNat, ak, e33]
      obtain rfl := Option.some.inj h
      refine G20n _ _ (wk [0, 1, 5, 6, 33] [pI (.arg 0) .fz, pI (.tmp 7 0) .lst] (h0 := by first | rfl | simp +decide only [ak, akF, b21, e25, e33]) (h := by first | rfl | (simp +decide only [ak, akF, b21, e25, e33]; done) | (simp +decide [ak, akF, b21, e25, e33] <;> omega))) (hJ19 _ rfl)
    ·rw [if_neg c24] at h
     have e34 : decide ((rd z86 l0 x0_1).f0 = 1) = false := decide_eq_false c24
     simp +decide only [Nat.reduceAdd, Nat.reduceMul, Int.reduceToNat, ak, e34]
     obtain rfl := Option.some.inj h
     refine G20n _ _ (wk [0, 1, 5, 6, 33] [pI (.arg 0) .fz, pI (.tmp 7 0) .lst] (h0 := by first | rfl | simp +decide only [ak, akF, b21, e34]) (h := by first | rfl | (simp +decide only [ak, akF, b21, e34]; done) | (simp +decide [ak, akF, b21, e34] <;> omega))) (hJ19 _ rfl)
   ·replace h := hn; clear hn h18
    rintro _ rfl
    refine cond_k (b := j17) rfl (fun c35 => ?_) (fun c35 => ?_)
    ·rw [if_pos c35] at h
     refine reg_k ?_
     have g36 : (List.replicate 1 ([.int .i64 0] : List Value)).flatten = [.int .i64 0] := rfl
     have g37 : (⟨.lst, 1, [.sc (.int .i64 x0_1)]⟩ : Root) = ⟨.lst, 1, encL c_i64 ([x0_1] : List Int)⟩ := rfl
     have g38 : ([x0_1] : List Int).length = 1 := rfl
     have g39 : (encL c_i64 ([x0_1] : List Int)).length = 1 * 1 := by simp [encL_length c_i64_w]
     have g40 : (encL c_i64 ([x0_1] : List Int)).all nd = true := rfl
     obtain ⟨b41, h⟩ := of_guard h
     have g42 : appLim x0_2.length 1 8 := ⟨b41, by have := b41; omega⟩
     have g43 : (encL c_i64 x0_2).length = x0_2.length * 1 := by simp [encL_length c_i64_w]
     have g44 : encL c_i64 x0_2 ++ encL c_i64 ([x0_1] : List Int) = encL c_i64 (x0_2 ++ ([x0_1] : List Int)) := (encL_append _ _).symm
     simp +decide only [Nat.reduceAdd, Nat.reduceMul, Int.reduceToNat, ak, g36, g37, g38, g39, g40, g42, g43, g44]
     refine B16n _ ?_
     obtain rfl := Option.some.inj h
     refine G15n _ _ (wk [0, 1, 5, 6] [pI (.arg 0) .fz, pI (.tmp 7 0) .lst] (h0 := by first | rfl | simp +decide only [ak, akF, b41]) (h := by first | rfl | (simp +decide only [ak, akF, b41]; done) | (simp +decide [ak, akF, b41] <;> omega))) (hJ14 _ rfl)
    ·rw [if_neg (Bool.eq_false_iff.1 c35)] at h
     refine B16n _ ?_
     obtain rfl := Option.some.inj h
     refine G15n _ _ (wk [0, 1, 5, 6] [pI (.arg 0) .fz, pI (.tmp 7 0) .lst]) (hJ14 _ rfl)
  ·replace h := hn; clear hn h13
   rintro _ rfl
   refine reg_k ?_
   simp +decide only [Nat.reduceAdd, Nat.reduceMul, Int.reduceToNat, ak]
   refine G0n _ _ (wk [0, 1, 5, 6] [pI (.arg 0) .fz, pI (.tmp 7 0) .lst]) (ih _ _ _ h K hx0)
 ·replace c11 := of_decide_eq_false c11; rw [if_neg c11] at h
  obtain rfl := Option.some.inj h
  refine gh_k (wk [5] [pI (.arg 0) .fz, pI (.tmp 7 0) .lst]) ?_
  refine G0x _ _ ?_
  exact hx0
theorem spec_l6Eligible.tri (cs0 : List Cell) (o0 : Nat) (l0 : List S86) (hv0 : Vw c86 3 cs0 o0 l0) (a1 : Int) (r : (List Int)) (h : spec_l6Eligible.f l0 a1 = some r) : Tri Try.prog 111 [.c (.ref (.arg 0) [] o0 l0.length), .c (.sc (.int .i64 a1))] [(.arg 0, ⟨.fz, 3, cs0⟩)] (fun o => o = ⟨.c (.ref (.res 0) [] 0 r.length), [(.arg 0, ⟨.fz, 3, cs0⟩), (.res 0, ⟨.lst, 1, encL c_i64 r⟩)], [], []⟩) := by
 refine tri_of_body (ac := C111) (xs := r111) Try.func111 (show Try.f111.body = some (Try.f111.body.getD .skip) from rfl) k111 q111 (Nat.le_of_ble_eq_true rfl) ?_
 refine body_of fun K hKn hKr => ?_
 unfold spec_l6Eligible.f at h
 unfold C111
 simp only [initT, Nat.reduceAdd]
 refine sr_k fun J1 hJ1 => ?_
 simp +decide only [Nat.reduceAdd, Nat.reduceMul, Int.reduceToNat, ak]
 refine gho_k (Weak.nm' 4 (.tmp 4 20) 1 (encL c_i64 ([] : List Int)) rfl rfl rfl) ?_
 simp +decide only [Nat.reduceAdd, Nat.reduceMul, Int.reduceToNat, ak]
 refine hJ1 _ ?_
 refine sr_k fun J2 hJ2 => ?_
 have g3 : (List.replicate 0 ([.int .i64 0] : List Value)).flatten = [] := rfl
 have g4 : (⟨.lst, 1, []⟩ : Root) = ⟨.lst, 1, encL c_i64 ([] : List Int)⟩ := rfl
 have g5 : ([] : List Int).length = 0 := rfl
 simp +decide only [Nat.reduceAdd, Nat.reduceMul, Int.reduceToNat, ak, g3, g4, g5]
 refine hJ2 _ ?_
 refine seq_k fun J6 hJ6 => ?_
 refine sr_k fun J7 hJ7 => ?_
 simp +decide only [Nat.reduceAdd, Nat.reduceMul, Int.reduceToNat, ak]
 refine hJ7 _ ?_
 refine block_k fun B8 B8n B8x B8r B8j => ?_
 obtain ⟨y45, h46, h⟩ := of_bind h
 refine gh_k (st' := ⟨[(0, .c (.ref (.arg 0) [] o0 l0.length)), (1, .c (.sc (.int .i64 a1))), (5, .c (.ref (.tmp 7 0) [] 0 (([] : List Int).length))), (6, .c (.sc (.int .i64 0)))], [(.arg 0, ⟨.fz, 3, cs0⟩), (.tmp 7 0, ⟨.lst, 1, encL c_i64 ([] : List Int)⟩)], [], []⟩) (wk [0, 1, 5, 6] [pI (.arg 0) .fz, pI (.tmp 7 0) .lst] (h := by first | rfl | (simp +decide only [ak, akF]; done) | (simp +decide [ak, akF] <;> omega))) ?_
 rw [e_loop]
 refine spec_l6Eligible.l0_walk cs0 o0 l0 hv0 a1 0 ([] : List Int) _ h46 _ ?_
 refine B8x _ ?_
 refine hJ6 _ ?_
 refine sr_k fun J47 hJ47 => ?_
 simp +decide only [Nat.reduceAdd, Nat.reduceMul, Int.reduceToNat, ak]
 refine hJ47 _ ?_
 obtain rfl := Option.some.inj h
 refine hKr _ ⟨_, rfl, [⟨(.tmp 7 0), [], none, .lst⟩], _, rfl, rfl, ?_⟩
 first | rfl | (simp only [reduceCtorEq, Nat.reduceEqDiff, ak, akF]; done) | (simp [reduceCtorEq, Nat.reduceEqDiff, ak, akF] <;> omega)
/-! ### spec.l6Least: function 118 -/
def C118 : AC := .seq (.reg [.op none (.mv 6 (.const (.int .i64 0))), .keep [0, 1, 2]]) (.seq (.ga (.seq (.reg [.op none (.mv 7 (.tmp 1)), .op none (.mv 8 (.tmp 0)), .op none (.bin 9 .lss (.tmp 7) (.tmp 8)), .keep [0, 1, 2, 9]]) (.cond (.tmp 9) (.reg [.op none (.mv 10 (.tmp 1)), .op none (.mv 0 (.tmp 10)), .keep [0, 2]]) (.skip)))) (.seq (.ga (.seq (.reg [.op none (.mv 11 (.tmp 2)), .op none (.mv 12 (.tmp 0)), .op none (.bin 13 .lss (.tmp 11) (.tmp 12)), .keep [0, 2, 13]]) (.cond (.tmp 13) (.reg [.op none (.mv 14 (.tmp 2)), .op none (.mv 0 (.tmp 14)), .keep [0]]) (.skip)))) (.seq (.reg [.op none (.mv 15 (.tmp 0)), .op none (.conv 16 .i64 (.tmp 15)), .op none (.mv 6 (.tmp 16)), .keep [6]]) (.ret))))
def r118 : List RV := [.tmp 6]
theorem k118 : compC Try.prog 17 C118 (Try.f118.body.getD .skip) = some C118.erase := by kernel_rfl
theorem q118 : rvsOf Try.prog Try.f118.results.toList = some r118 := by kernel_rfl
def spec_l6Least.f (a0 : Int) (a1 : Int) (a2 : Int) : Option Int := ((if a1 < a0 then (some a1) else (some a0)) >>= fun (j2 : Int) => ((if a2 < j2 then (some a2) else (some j2)) >>= fun (j8 : Int) => (some (IntKind.i64.wrap j8))))
theorem spec_l6Least.tri (a0 : Int) (a1 : Int) (a2 : Int) (r : Int) (h : spec_l6Least.f a0 a1 a2 = some r) : Tri Try.prog 118 [.c (.sc (.int .u64 a0)), .c (.sc (.int .u64 a1)), .c (.sc (.int .u64 a2))] [] (fun o => o = ⟨.c (.sc (.int .i64 r)), [], [], []⟩) := by
 refine tri_of_body (ac := C118) (xs := r118) Try.func118 (show Try.f118.body = some (Try.f118.body.getD .skip) from rfl) k118 q118 (Nat.le_of_ble_eq_true rfl) ?_
 refine body_of fun K hKn hKr => ?_
 unfold spec_l6Least.f at h
 unfold C118
 simp only [initT, Nat.reduceAdd]
 refine sr_k fun J1 hJ1 => ?_
 simp +decide only [Nat.reduceAdd, Nat.reduceMul, Int.reduceToNat, ak]
 refine hJ1 _ ?_
 obtain ⟨j2, h3, hn⟩ := of_bind h
 refine seq_j (fun st => st = ⟨[(0, .c (.sc (.int .u64 j2))), (2, .c (.sc (.int .u64 a2)))], [], [], []⟩) (fun J4 hJ4 => ?_) ?_
 ·replace h := h3; clear hn
  refine ga_k fun G5 G5n G5r G5x => ?_
  refine sr_k fun J6 hJ6 => ?_
  simp +decide only [Nat.reduceAdd, Nat.reduceMul, Int.reduceToNat, ak]
  refine hJ6 _ ?_
  refine cond_k (b := decide (a1 < a0)) rfl (fun c7 => ?_) (fun c7 => ?_)
  ·replace c7 := of_decide_eq_true c7; rw [if_pos c7] at h
   refine reg_k ?_
   simp +decide only [Nat.reduceAdd, Nat.reduceMul, Int.reduceToNat, ak]
   obtain rfl := Option.some.inj h
   refine G5n _ _ (wk [0, 2] []) (hJ4 _ rfl)
  ·replace c7 := of_decide_eq_false c7; rw [if_neg c7] at h
   obtain rfl := Option.some.inj h
   refine G5n _ _ (wk [0, 2] []) (hJ4 _ rfl)
 ·replace h := hn; clear hn h3
  rintro _ rfl
  obtain ⟨j8, h9, hn⟩ := of_bind h
  refine seq_j (fun st => st = ⟨[(0, .c (.sc (.int .u64 j8)))], [], [], []⟩) (fun J10 hJ10 => ?_) ?_
  ·replace h := h9; clear hn
   refine ga_k fun G11 G11n G11r G11x => ?_
   refine sr_k fun J12 hJ12 => ?_
   simp +decide only [Nat.reduceAdd, Nat.reduceMul, Int.reduceToNat, ak]
   refine hJ12 _ ?_
   refine cond_k (b := decide (a2 < j2)) rfl (fun c13 => ?_) (fun c13 => ?_)
   ·replace c13 := of_decide_eq_true c13; rw [if_pos c13] at h
    refine reg_k ?_
    simp +decide only [Nat.reduceAdd, Nat.reduceMul, Int.reduceToNat, ak]
    obtain rfl := Option.some.inj h
    refine G11n _ _ (wk [0] []) (hJ10 _ rfl)
   ·replace c13 := of_decide_eq_false c13; rw [if_neg c13] at h
    obtain rfl := Option.some.inj h
    refine G11n _ _ (wk [0] []) (hJ10 _ rfl)
  ·replace h := hn; clear hn h9
   rintro _ rfl
   refine sr_k fun J14 hJ14 => ?_
   simp +decide only [Nat.reduceAdd, Nat.reduceMul, Int.reduceToNat, ak]
   refine hJ14 _ ?_
   obtain rfl := Option.some.inj h
   refine hKr _ ⟨_, rfl, [], _, rfl, rfl, ?_⟩
   first | rfl | (simp only [reduceCtorEq, Nat.reduceEqDiff, ak, akF]; done) | (simp [reduceCtorEq, Nat.reduceEqDiff, ak, akF] <;> omega)
/-! ### spec.l6Rank: function 112 -/
def C112 : AC := .seq (.reg [.op none (.mv 10 (.const (.int .i64 0))), .keep [0, 1, 2, 3, 4]]) (.seq (.reg [.op none (.mv 12 (.tmp 3)), .op none (.len 13 (.tmp 12)), .op none (.mv 11 (.tmp 13)), .keep [0, 1, 2, 3, 4, 11]]) (.seq (.seq (.reg [.op none (.mv 14 (.tmp 0)), .keep [1, 2, 3, 4, 11, 14]]) (.block 0 (.seq (.reg [.op none (.bin 16 .eql (.tmp 14) (.const (.int .i64 1))), .op none (.mv 15 (.tmp 16)), .keep [1, 2, 3, 4, 11, 14, 15]]) (.cond (.tmp 15) (.seq (.reg [.op none (.mv 17 (.tmp 4)), .op none (.mv 18 (.tmp 1)), .op none (.bin 19 .sub (.tmp 17) (.tmp 18)), .op none (.mv 20 (.tmp 11)), .op none (.bin 21 .add (.tmp 19) (.tmp 20)), .op none (.mv 22 (.tmp 11)), .op none (.bin 23 .rem (.tmp 21) (.tmp 22)), .op none (.mv 10 (.tmp 23)), .keep [10]]) (.ret)) (.seq (.reg [.op none (.bin 25 .eql (.tmp 14) (.const (.int .i64 2))), .op none (.mv 24 (.tmp 25)), .keep [2, 3, 4, 11, 24]]) (.cond (.tmp 24) (.seq (.reg [.op none (.mv 26 (.tmp 3)), .op none (.mv 27 (.tmp 4)), .op none (.iaddr 28 3 (.tmp 26) (.tmp 27)), .op none (.faddr 29 1 (.tmp 28)), .op none (.load 30 false 1 (.tmp 29)), .op none (.mv 31 (.tmp 11)), .op none (.bin 32 .mul (.tmp 30) (.tmp 31)), .op none (.mv 33 (.tmp 4)), .op none (.bin 34 .add (.tmp 32) (.tmp 33)), .op none (.mv 10 (.tmp 34)), .keep [10]]) (.ret)) (.skip))))))) (.seq (.seq (.reg [.op none (.mv 35 (.tmp 4)), .op none (.mv 36 (.tmp 2)), .op none (.bin 37 .eql (.tmp 35) (.tmp 36)), .keep [4, 37]]) (.cond (.tmp 37) (.seq (.reg [.op none (.mv 10 (.const (.int .i64 (-1)))), .keep [10]]) (.ret)) (.skip))) (.seq (.reg [.op none (.mv 38 (.tmp 4)), .op none (.mv 10 (.tmp 38)), .keep [10]]) (.ret)))))
def r112 : List RV := [.tmp 10]
theorem k112 : compC Try.prog 39 C112 (Try.f112.body.getD .skip) = some C112.erase := by kernel_rfl
theorem q112 : rvsOf Try.prog Try.f112.results.toList = some r112 := by kernel_rfl
def spec_l6Rank.f (a0 : Int) (a1 : Int) (a2 : Int) (l3 : List S86) (a4 : Int) : Option Int := (if a0 = 1 then (if ¬ (l3.length : Int) = 0 then (some ((IntKind.i64.wrap ((IntKind.i64.wrap (a4 - a1)) + (l3.length : Int))).tmod (l3.length : Int))) else none) else (if a0 = 2 then (if 0 ≤ a4 ∧ a4 < (l3.length : Int) then (some (IntKind.i64.wrap ((IntKind.i64.wrap (((rd z86 l3 a4).f1) * (l3.length : Int))) + a4))) else none) else (if a4 = a2 then (some (-1)) else (some a4))))
theorem spec_l6Rank.tri (cs0 : List Cell) (o0 : Nat) (l3 : List S86) (hv0 : Vw c86 3 cs0 o0 l3) (a0 : Int) (a1 : Int) (a2 : Int) (a4 : Int) (r : Int) (h : spec_l6Rank.f a0 a1 a2 l3 a4 = some r) : Tri Try.prog 112 [.c (.sc (.int .i64 a0)), .c (.sc (.int .i64 a1)), .c (.sc (.int .i64 a2)), .c (.ref (.arg 0) [] o0 l3.length), .c (.sc (.int .i64 a4))] [(.arg 0, ⟨.fz, 3, cs0⟩)] (fun o => o = ⟨.c (.sc (.int .i64 r)), [(.arg 0, ⟨.fz, 3, cs0⟩)], [], []⟩) := by
 refine tri_of_body (ac := C112) (xs := r112) Try.func112 (show Try.f112.body = some (Try.f112.body.getD .skip) from rfl) k112 q112 (Nat.le_of_ble_eq_true rfl) ?_
 refine body_of fun K hKn hKr => ?_
 unfold spec_l6Rank.f at h
 unfold C112
 simp only [initT, Nat.reduceAdd]
 refine sr_k fun J1 hJ1 => ?_
 simp +decide only [Nat.reduceAdd, Nat.reduceMul, Int.reduceToNat, ak]
 refine hJ1 _ ?_
 refine sr_k fun J2 hJ2 => ?_
 simp +decide only [Nat.reduceAdd, Nat.reduceMul, Int.reduceToNat, ak]
 refine hJ2 _ ?_
 refine seq_k fun J3 hJ3 => ?_
 refine sr_k fun J4 hJ4 => ?_
 simp +decide only [Nat.reduceAdd, Nat.reduceMul, Int.reduceToNat, ak]
 refine hJ4 _ ?_
 refine block_k fun B5 B5n B5x B5r B5j => ?_
 refine sr_k fun J6 hJ6 => ?_
 simp +decide only [Nat.reduceAdd, Nat.reduceMul, Int.reduceToNat, ak]
 refine hJ6 _ ?_
 refine cond_k (b := decide (a0 = 1)) rfl (fun c7 => ?_) (fun c7 => ?_)
 ·replace c7 := of_decide_eq_true c7; rw [if_pos c7] at h
  refine sr_k fun J8 hJ8 => ?_
  obtain ⟨b9, h⟩ := of_guard h
  simp +decide only [Nat.reduceAdd, Nat.reduceMul, Int.reduceToNat, ak, b9]
  refine hJ8 _ ?_
  refine B5r _ ?_
  obtain rfl := Option.some.inj h
  refine hKr _ ⟨_, rfl, [], _, rfl, rfl, ?_⟩
  first | rfl | (simp only [reduceCtorEq, Nat.reduceEqDiff, ak, akF, b9]; done) | (simp [reduceCtorEq, Nat.reduceEqDiff, ak, akF, b9] <;> omega)
 ·replace c7 := of_decide_eq_false c7; rw [if_neg c7] at h
  refine sr_k fun J10 hJ10 => ?_
  simp +decide only [Nat.reduceAdd, Nat.reduceMul, Int.reduceToNat, ak]
  refine hJ10 _ ?_
  refine cond_k (b := decide (a0 = 2)) rfl (fun c11 => ?_) (fun c11 => ?_)
  ·replace c11 := of_decide_eq_true c11; rw [if_pos c11] at h
   refine sr_k fun J12 hJ12 => ?_
   obtain ⟨b13, h⟩ := of_guard h
   have g14 : o0 + a4.toNat * 3 + 1 ≤ (cs0).length := (hv0.len_le b13.1 b13.2 (by decide))
   have g15 : (cs0)[o0 + a4.toNat * 3 + 1]? = some (.sc (.int .i64 ((rd z86 l3 a4).f1))) := hv0.get z86 1 b13.1 b13.2 (by decide)
   simp +decide only [Nat.reduceAdd, Nat.reduceMul, Int.reduceToNat, ak, b13, g14, g15]
   refine hJ12 _ ?_
   refine B5r _ ?_
   obtain rfl := Option.some.inj h
   refine hKr _ ⟨_, rfl, [], _, rfl, rfl, ?_⟩
   first | rfl | (simp only [reduceCtorEq, Nat.reduceEqDiff, ak, akF, b13]; done) | (simp [reduceCtorEq, Nat.reduceEqDiff, ak, akF, b13] <;> omega)
  ·replace c11 := of_decide_eq_false c11; rw [if_neg c11] at h
   refine B5n _ ?_
   refine hJ3 _ ?_
   refine seq_k fun J16 hJ16 => ?_
   refine sr_k fun J17 hJ17 => ?_
   simp +decide only [Nat.reduceAdd, Nat.reduceMul, Int.reduceToNat, ak]
   refine hJ17 _ ?_
   refine cond_k (b := decide (a4 = a2)) rfl (fun c18 => ?_) (fun c18 => ?_)
   ·replace c18 := of_decide_eq_true c18; rw [if_pos c18] at h
    refine sr_k fun J19 hJ19 => ?_
    simp +decide only [Nat.reduceAdd, Nat.reduceMul, Int.reduceToNat, ak]
    refine hJ19 _ ?_
    obtain rfl := Option.some.inj h
    refine hKr _ ⟨_, rfl, [], _, rfl, rfl, ?_⟩
    first | rfl | (simp only [reduceCtorEq, Nat.reduceEqDiff, ak, akF]; done) | (simp [reduceCtorEq, Nat.reduceEqDiff, ak, akF] <;> omega)
   ·replace c18 := of_decide_eq_false c18; rw [if_neg c18] at h
    refine hJ16 _ ?_
    refine sr_k fun J20 hJ20 => ?_
    simp +decide only [Nat.reduceAdd, Nat.reduceMul, Int.reduceToNat, ak]
    refine hJ20 _ ?_
    obtain rfl := Option.some.inj h
    refine hKr _ ⟨_, rfl, [], _, rfl, rfl, ?_⟩
    first | rfl | (simp only [reduceCtorEq, Nat.reduceEqDiff, ak, akF]; done) | (simp [reduceCtorEq, Nat.reduceEqDiff, ak, akF] <;> omega)
/-! ### spec.l6Pick: function 79 -/
def C79_l0 : AC := .seq (.seq (.reg [.op none (.mv 30 (.tmp 14)), .op none (.mv 31 (.tmp 12)), .op none (.len 32 (.tmp 31)), .op none (.bin 33 .lss (.tmp 30) (.tmp 32)), .keep [0, 1, 2, 3, 12, 13, 14, 33]]) (.cond (.tmp 33) (.skip) (.gh (.exit 0)))) (.seq (.ga (.block 1 (.seq (.reg [.op none (.mv 36 (.tmp 0)), .op none (.mv 37 (.tmp 1)), .op none (.mv 38 (.tmp 2)), .op none (.mv 39 (.tmp 3)), .op none (.mv 40 (.tmp 12)), .op none (.mv 41 (.tmp 14)), .op none (.iaddr 42 1 (.tmp 40) (.tmp 41)), .op none (.load 43 false 1 (.tmp 42)), .call none (some 44) 112 [.tmp 36, .tmp 37, .tmp 38, .tmp 39, .tmp 43], .op none (.mv 45 (.tmp 0)), .op none (.mv 46 (.tmp 1)), .op none (.mv 47 (.tmp 2)), .op none (.mv 48 (.tmp 3)), .op none (.mv 49 (.tmp 13)), .call none (some 50) 112 [.tmp 45, .tmp 46, .tmp 47, .tmp 48, .tmp 49], .op none (.bin 51 .lss (.tmp 44) (.tmp 50)), .keep [0, 1, 2, 3, 12, 13, 14, 51]]) (.cond (.tmp 51) (.reg [.op none (.mv 52 (.tmp 12)), .op none (.mv 53 (.tmp 14)), .op none (.iaddr 54 1 (.tmp 52) (.tmp 53)), .op none (.load 55 false 1 (.tmp 54)), .op none (.mv 13 (.tmp 55)), .keep [0, 1, 2, 3, 12, 13, 14]]) (.skip))))) (.reg [.op none (.mv 34 (.tmp 14)), .op none (.bin 35 .add (.tmp 34) (.const (.int .i64 1))), .op none (.mv 14 (.tmp 35)), .keep [0, 1, 2, 3, 12, 13, 14]]))
def C79 : AC := .seq (.reg [.op none (.mv 10 (.const (.slice none 0 0))), .gh, .op none (.mv 11 (.const (.int .i64 0))), .keep [0, 1, 2, 3, 4]]) (.seq (.reg [.op none (.mv 15 (.tmp 3)), .op none (.mv 16 (.tmp 4)), .call none (some 17) 111 [.tmp 15, .tmp 16], .op none (.mv 12 (.tmp 17)), .keep [0, 1, 2, 3, 12]]) (.seq (.seq (.ga (.reg [.op none (.mv 18 (.tmp 0)), .op none (.bin 19 .eql (.tmp 18) (.const (.int .i64 3))), .op none (.mv 20 (.tmp 19)), .op (some (20, false)) (.mv 21 (.tmp 12)), .op (some (20, false)) (.len 22 (.tmp 21)), .op (some (20, false)) (.bin 23 .eql (.tmp 22) (.const (.int .i64 0))), .op none (.pick 24 (.tmp 20) (.const (.bool true)) (.tmp 23)), .keep [0, 1, 2, 3, 12, 24]])) (.cond (.tmp 24) (.seq (.reg [.op none (.mv 25 (.tmp 12)), .op none (.mv 26 (.tmp 1)), .op none (.mv 10 (.tmp 25)), .op none (.mv 11 (.tmp 26)), .keep [10, 11]]) (.ret)) (.skip))) (.seq (.reg [.op none (.mv 27 (.tmp 12)), .op none (.iaddr 28 1 (.tmp 27) (.const (.int .i64 0))), .op none (.load 29 false 1 (.tmp 28)), .op none (.mv 13 (.tmp 29)), .keep [0, 1, 2, 3, 12, 13]]) (.seq (.seq (.reg [.op none (.mv 14 (.const (.int .i64 0))), .keep [0, 1, 2, 3, 12, 13, 14]]) (.block 0 (.gh (.loop (.ga C79_l0))))) (.seq (.ga (.seq (.reg [.op none (.mv 56 (.tmp 0)), .op none (.bin 57 .eql (.tmp 56) (.const (.int .i64 1))), .keep [1, 3, 13, 57]]) (.cond (.tmp 57) (.reg [.op none (.mv 58 (.tmp 13)), .op none (.bin 59 .add (.tmp 58) (.const (.int .i64 1))), .op none (.mv 60 (.tmp 3)), .op none (.len 61 (.tmp 60)), .op none (.bin 62 .rem (.tmp 59) (.tmp 61)), .op none (.mv 1 (.tmp 62)), .keep [1, 13]]) (.skip)))) (.seq (.reg [.op none (.mv 63 (.tmp 13)), .op none (.bslice 64 1 [.int .i64 0] 1 [(0, .tmp 63)]), .op none (.mv 65 (.tmp 1)), .op none (.mv 10 (.tmp 64)), .op none (.mv 11 (.tmp 65)), .keep [10, 11]]) (.ret)))))))
def r79 : List RV := [.tmp 10, .tmp 11]
theorem k79 : compC Try.prog 66 C79 (Try.f79.body.getD .skip) = some C79.erase := by kernel_rfl
theorem q79 : rvsOf Try.prog Try.f79.results.toList = some r79 := by kernel_rfl
def spec_l6Pick.l0 (l3 : List S86) (x0_0 : Int) (x0_1 : Int) (x0_2 : Int) (x0_5 : (List Int)) (x0_3 : Int) (x0_4 : Int) : Option Int := (if x0_4 < (x0_5.length : Int) then ((if 0 ≤ x0_4 ∧ x0_4 < (x0_5.length : Int) then (spec_l6Rank.f x0_0 x0_1 x0_2 l3 (rd 0 x0_5 x0_4) >>= fun t33 => (spec_l6Rank.f x0_0 x0_1 x0_2 l3 x0_3 >>= fun t36 => (if t33 < t36 then (some (rd 0 x0_5 x0_4)) else (some x0_3)))) else none) >>= fun (j25 : Int) => (spec_l6Pick.l0 l3 x0_0 x0_1 x0_2 x0_5 j25 (IntKind.i64.wrap (x0_4 + 1)))) else (some x0_3))
 partial_fixpoint
def spec_l6Pick.f (a0 : Int) (a1 : Int) (a2 : Int) (l3 : List S86) (a4 : Int) : Option ((List Int) × Int) := (spec_l6Eligible.f l3 a4 >>= fun t3 => ((if a0 = 3 then (some true) else (some (decide ((t3.length : Int) = 0)))) >>= fun (j7 : Bool) => (if j7 = true then (some (t3, a1)) else (if (0 : Int) ≤ 0 ∧ 0 < (t3.length : Int) then (spec_l6Pick.l0 l3 a0 a1 a2 t3 (rd 0 t3 0) 0 >>= fun (y40 : Int) => ((if a0 = 1 then (if ¬ (l3.length : Int) = 0 then (some ((IntKind.i64.wrap (y40 + 1)).tmod (l3.length : Int))) else none) else (some a1)) >>= fun (j42 : Int) => (some (([y40] : List Int), j42)))) else none))))
def spec_l6Pick.l0_M (cs0 : List Cell) (o0 : Nat) (l3 : List S86) (hv0 : Vw c86 3 cs0 o0 l3) (x0_0 : Int) (x0_1 : Int) (x0_2 : Int) (x0_5 : (List Int)) (x0_3 : Int) (x0_4 : Int) (y : Int) : Prop := ∀ (K : AE → St → Prop), (K (.exit 0) ⟨[(0, .c (.sc (.int .i64 x0_0))), (1, .c (.sc (.int .i64 x0_1))), (3, .c (.ref (.arg 0) [] o0 l3.length)), (13, .c (.sc (.int .i64 y)))], [(.arg 0, ⟨.fz, 3, cs0⟩)], [], []⟩) → loopS Try.prog 66 (.ga C79_l0) K ⟨[(0, .c (.sc (.int .i64 x0_0))), (1, .c (.sc (.int .i64 x0_1))), (2, .c (.sc (.int .i64 x0_2))), (3, .c (.ref (.arg 0) [] o0 l3.length)), (12, .c (.ref (.tmp 17 0) [] 0 x0_5.length)), (13, .c (.sc (.int .i64 x0_3))), (14, .c (.sc (.int .i64 x0_4)))], [(.arg 0, ⟨.fz, 3, cs0⟩), (.tmp 17 0, ⟨.lst, 1, encL c_i64 x0_5⟩)], [], []⟩
theorem spec_l6Pick.l0_walk (cs0 : List Cell) (o0 : Nat) (l3 : List S86) (hv0 : Vw c86 3 cs0 o0 l3) (x0_0 : Int) (x0_1 : Int) (x0_2 : Int) (x0_5 : (List Int)) (x0_3 : Int) (x0_4 : Int) (y : Int) (h : spec_l6Pick.l0 l3 x0_0 x0_1 x0_2 x0_5 x0_3 x0_4 = some y) : spec_l6Pick.l0_M cs0 o0 l3 hv0 x0_0 x0_1 x0_2 x0_5 x0_3 x0_4 y := by
 refine spec_l6Pick.l0.partial_correctness l3 x0_0 x0_1 x0_2 x0_5 (motive := fun x0_3 x0_4 y => spec_l6Pick.l0_M cs0 o0 l3 hv0 x0_0 x0_1 x0_2 x0_5 x0_3 x0_4 y) ?_ x0_3 x0_4 y h
 clear h
 unfold spec_l6Pick.l0_M
 intro rec ih x0_3 x0_4 y h K hx0
 refine loop_unroll (ga_k fun G0 G0n G0r G0x => ?_)
 unfold C79_l0
 refine seq_k fun J22 hJ22 => ?_
 refine sr_k fun J23 hJ23 => ?_
 simp +decide only [Nat.reduceAdd, Nat.reduceMul, Int.reduceToNat, ak]
 refine hJ23 _ ?_
 refine cond_k (b := decide (x0_4 < (x0_5.length : Int))) rfl (fun c24 => ?_) (fun c24 => ?_)
 ·replace c24 := of_decide_eq_true c24; rw [if_pos c24] at h
  refine hJ22 _ ?_
  obtain ⟨j25, h26, hn⟩ := of_bind h
  refine seq_j (fun st => st = ⟨[(0, .c (.sc (.int .i64 x0_0))), (1, .c (.sc (.int .i64 x0_1))), (2, .c (.sc (.int .i64 x0_2))), (3, .c (.ref (.arg 0) [] o0 l3.length)), (12, .c (.ref (.tmp 17 0) [] 0 x0_5.length)), (13, .c (.sc (.int .i64 j25))), (14, .c (.sc (.int .i64 x0_4)))], [(.arg 0, ⟨.fz, 3, cs0⟩), (.tmp 17 0, ⟨.lst, 1, encL c_i64 x0_5⟩)], [], []⟩) (fun J27 hJ27 => ?_) ?_
  ·replace h := h26; clear hn
   refine ga_k fun G28 G28n G28r G28x => ?_
   refine block_k fun B29 B29n B29x B29r B29j => ?_
   refine sr_k fun J30 hJ30 => ?_
   obtain ⟨b31, h⟩ := of_guard h
   have g32 : (encL c_i64 x0_5)[0 + x0_4.toNat * 1]? = some (.sc (.int .i64 (rd 0 x0_5 x0_4))) := (Vw.whole c_i64_w x0_5).get 0 0 b31.1 b31.2 (by decide)
   simp +decide only [Nat.reduceAdd, Nat.reduceMul, Int.reduceToNat, ak, b31, g32]
   obtain ⟨t33, h34, h⟩ := of_bind h
   refine call_m [(.arg 0, ⟨(.arg 0), [], none, .fz⟩)] (s0 := [(.arg 0, ⟨.fz, 3, cs0⟩)]) (by intro t ht; cases ht; decide) rfl rfl (by first | rfl | simp only [reduceCtorEq, Nat.reduceEqDiff, ak, akF, b31, g32]) (spec_l6Rank.tri (cs0) o0 l3 hv0 x0_0 x0_1 x0_2 (rd 0 x0_5 x0_4) _ h34) (by first | rfl | simp only [reduceCtorEq, Nat.reduceEqDiff, ak, akF]) (by simp [bkOk2, memK]) (fun hl34 => ?_)
   refine call_st (s4 := [(.arg 0, ⟨.fz, 3, cs0⟩), (.tmp 17 0, ⟨.lst, 1, encL c_i64 x0_5⟩)]) (m1' := []) (m2' := []) (v' := .c (.sc (.int .i64 t33))) (Sto.mapN_killNil _ _) (mrgL_fz (mrgL_nil' _ _ _) rfl (by first | rfl | simp only [reduceCtorEq, Nat.reduceEqDiff, ak, b31, g32]) rfl (by intro R hR hh; cases hR; cases hh.2)) (by rfl) (mapT_killNil _ _) (by rfl) (by rfl) (by first | rfl | simp only [reduceCtorEq, Nat.reduceEqDiff, ak, akF, Nat.zero_add, List.append_nil, b31]) ?_
   simp +decide only [Nat.reduceAdd, Nat.reduceMul, Int.reduceToNat, ak]
   obtain ⟨t36, h37, h⟩ := of_bind h
   refine call_m [(.arg 0, ⟨(.arg 0), [], none, .fz⟩)] (s0 := [(.arg 0, ⟨.fz, 3, cs0⟩)]) (by intro t ht; cases ht; decide) rfl rfl (by first | rfl | simp only [reduceCtorEq, Nat.reduceEqDiff, ak, akF, b31, g32]) (spec_l6Rank.tri (cs0) o0 l3 hv0 x0_0 x0_1 x0_2 x0_3 _ h37) (by first | rfl | simp only [reduceCtorEq, Nat.reduceEqDiff, ak, akF]) (by simp [bkOk2, memK]) (fun hl37 => ?_)
   refine call_st (s4 := [(.arg 0, ⟨.fz, 3, cs0⟩), (.tmp 17 0, ⟨.lst, 1, encL c_i64 x0_5⟩)]) (m1' := []) (m2' := []) (v' := .c (.sc (.int .i64 t36))) (Sto.mapN_killNil _ _) (mrgL_fz (mrgL_nil' _ _ _) rfl (by first | rfl | simp only [reduceCtorEq, Nat.reduceEqDiff, ak, b31, g32]) rfl (by intro R hR hh; cases hR; cases hh.2)) (by rfl) (mapT_killNil _ _) (by rfl) (by rfl) (by first | rfl | simp only [reduceCtorEq, Nat.reduceEqDiff, ak, akF, Nat.zero_add, List.append_nil, b31]) ?_
   simp +decide only [Nat.reduceAdd, Nat.reduceMul, Int.reduceToNat, ak]
   refine hJ30 _ ?_
   refine cond_k (b := decide (t33 < t36)) rfl (fun c39 => ?_) (fun c39 => ?_)
   ·replace c39 := of_decide_eq_true c39; rw [if_pos c39] at h
    refine reg_k ?_
    simp +decide only [Nat.reduceAdd, Nat.reduceMul, Int.reduceToNat, ak, b31, g32]
    refine B29n _ ?_
    obtain rfl := Option.some.inj h
    refine G28n _ _ (wk [0, 1, 2, 3, 12, 13, 14] [pI (.arg 0) .fz, pI (.tmp 17 0) .lst]) (hJ27 _ rfl)
   ·replace c39 := of_decide_eq_false c39; rw [if_neg c39] at h
    refine B29n _ ?_
    obtain rfl := Option.some.inj h
    refine G28n _ _ (wk [0, 1, 2, 3, 12, 13, 14] [pI (.arg 0) .fz, pI (.tmp 17 0) .lst]) (hJ27 _ rfl)
  ·replace h := hn; clear hn h26
   rintro _ rfl
   refine reg_k ?_
   simp +decide only [Nat.reduceAdd, Nat.reduceMul, Int.reduceToNat, ak]
   refine G0n _ _ (wk [0, 1, 2, 3, 12, 13, 14] [pI (.arg 0) .fz, pI (.tmp 17 0) .lst]) (ih _ _ _ h K hx0)
 ·replace c24 := of_decide_eq_false c24; rw [if_neg c24] at h
  obtain rfl := Option.some.inj h
  refine gh_k (wk [0, 1, 3, 13] [pI (.arg 0) .fz]) ?_
  refine G0x _ _ ?_
  exact hx0
theorem spec_l6Pick.tri (cs0 : List Cell) (o0 : Nat) (l3 : List S86) (hv0 : Vw c86 3 cs0 o0 l3) (a0 : Int) (a1 : Int) (a2 : Int) (a4 : Int) (r : (List Int) × Int) (h : spec_l6Pick.f a0 a1 a2 l3 a4 = some r) : Tri Try.prog 79 [.c (.sc (.int .i64 a0)), .c (.sc (.int .i64 a1)), .c (.sc (.int .i64 a2)), .c (.ref (.arg 0) [] o0 l3.length), .c (.sc (.int .i64 a4))] [(.arg 0, ⟨.fz, 3, cs0⟩)] (fun o => o = ⟨.tup [(false, [.ref (.res 0) [] 0 r.1.length]), (false, [.sc (.int .i64 r.2)])], [(.arg 0, ⟨.fz, 3, cs0⟩), (.res 0, ⟨.lst, 1, encL c_i64 r.1⟩)], [], []⟩) := by
 refine tri_of_body (ac := C79) (xs := r79) Try.func79 (show Try.f79.body = some (Try.f79.body.getD .skip) from rfl) k79 q79 (Nat.le_of_ble_eq_true rfl) ?_
 refine body_of fun K hKn hKr => ?_
 unfold spec_l6Pick.f at h
 unfold C79
 simp only [initT, Nat.reduceAdd]
 refine sr_k fun J1 hJ1 => ?_
 simp +decide only [Nat.reduceAdd, Nat.reduceMul, Int.reduceToNat, ak]
 refine gho_k (Weak.nm' 10 (.tmp 10 20) 1 (encL c_i64 ([] : List Int)) rfl rfl rfl) ?_
 simp +decide only [Nat.reduceAdd, Nat.reduceMul, Int.reduceToNat, ak]
 refine hJ1 _ ?_
 refine sr_k fun J2 hJ2 => ?_
 simp +decide only [Nat.reduceAdd, Nat.reduceMul, Int.reduceToNat, ak]
 obtain ⟨t3, h4, h⟩ := of_bind h
 refine call_m [(.arg 0, ⟨(.arg 0), [], none, .fz⟩)] (s0 := [(.arg 0, ⟨.fz, 3, cs0⟩)]) (by intro t ht; cases ht; decide) rfl rfl (by first | rfl | simp only [reduceCtorEq, Nat.reduceEqDiff, ak, akF]) (spec_l6Eligible.tri (cs0) o0 l3 hv0 a4 _ h4) (by first | rfl | simp only [reduceCtorEq, Nat.reduceEqDiff, ak, akF]) (by simp [bkOk2, memK]) (fun hl4 => ?_)
 refine call_st (s4 := [(.arg 0, ⟨.fz, 3, cs0⟩), (.tmp 10 20, ⟨.lst, 1, encL c_i64 ([] : List Int)⟩), (.tmp 17 0, ⟨.lst, 1, encL c_i64 t3⟩)]) (m1' := []) (m2' := []) (v' := .c (.ref (.tmp 17 0) [] 0 t3.length)) (Sto.mapN_killNil _ _) (mrgL_fz (mrgL_nil' _ _ _) rfl (by first | rfl | simp only [reduceCtorEq, Nat.reduceEqDiff, ak]) rfl (by intro R hR hh; cases hR; cases hh.2)) (by rfl) (mapT_killNil _ _) (by rfl) (by rfl) (by first | rfl | simp only [reduceCtorEq, Nat.reduceEqDiff, ak, akF, Nat.zero_add, List.append_nil]) ?_
 simp +decide only [Nat.reduceAdd, Nat.reduceMul, Int.reduceToNat, ak]
 refine hJ2 _ ?_
 refine seq_k fun J6 hJ6 => ?_
 obtain ⟨j7, h8, hn⟩ := of_bind h
 refine seq_j (fun st => st = ⟨[(0, .c (.sc (.int .i64 a0))), (1, .c (.sc (.int .i64 a1))), (2, .c (.sc (.int .i64 a2))), (3, .c (.ref (.arg 0) [] o0 l3.length)), (12, .c (.ref (.tmp 17 0) [] 0 t3.length)), (24, .c (.sc (.bool j7)))], [(.arg 0, ⟨.fz, 3, cs0⟩), (.tmp 17 0, ⟨.lst, 1, encL c_i64 t3⟩)], [], []⟩) (fun J9 hJ9 => ?_) ?_
 ·replace h := h8; clear hn
  refine ga_k fun G10 G10n G10r G10x => ?_
  refine reg_k ?_
  simp +decide only [Nat.reduceAdd, Nat.reduceMul, Int.reduceToNat, ak]
  by_cases c11 : a0 = 3
  ·rw [if_pos c11] at h
   have e12 : decide (a0 = 3) = true := decide_eq_true c11
   simp +decide only [Nat.reduceAdd, Nat.reduceMul, Int.reduceToNat, ak, e12]
   obtain rfl := Option.some.inj h
   refine G10n _ _ (wk [0, 1, 2, 3, 12, 24] [pI (.arg 0) .fz, pI (.tmp 17 0) .lst] (h0 := by first | rfl | simp +decide only [ak, akF, e12]) (h := by first | rfl | (simp +decide only [ak, akF, e12]; done) | (simp +decide [ak, akF, e12] <;> omega))) (hJ9 _ rfl)
  ·rw [if_neg c11] at h
   have e13 : decide (a0 = 3) = false := decide_eq_false c11
   simp +decide only [Nat.reduceAdd, Nat.reduceMul, Int.reduceToNat, ak, e13]
   obtain rfl := Option.some.inj h
   refine G10n _ _ (wk [0, 1, 2, 3, 12, 24] [pI (.arg 0) .fz, pI (.tmp 17 0) .lst] (h0 := by first | rfl | simp +decide only [ak, akF, e13]) (h := by first | rfl | (simp +decide only [ak, akF, e13]; done) | (simp +decide [ak, akF, e13] <;> omega))) (hJ9 _ rfl)
 ·replace h := hn; clear hn h8
  rintro _ rfl
  refine cond_k (b := j7) rfl (fun c14 => ?_) (fun c14 => ?_)
  ·rw [if_pos c14] at h
   refine sr_k fun J15 hJ15 => ?_
   simp +decide only [Nat.reduceAdd, Nat.reduceMul, Int.reduceToNat, ak]
   refine hJ15 _ ?_
   obtain rfl := Option.some.inj h
   refine hKr _ ⟨_, rfl, [⟨(.tmp 17 0), [], none, .lst⟩], _, rfl, rfl, ?_⟩
   first | rfl | (simp only [reduceCtorEq, Nat.reduceEqDiff, ak, akF]; done) | (simp [reduceCtorEq, Nat.reduceEqDiff, ak, akF] <;> omega)
  ·rw [if_neg (Bool.eq_false_iff.1 c14)] at h
   refine hJ6 _ ?_
   refine sr_k fun J16 hJ16 => ?_
   obtain ⟨b17, h⟩ := of_guard h
   have g18 : (encL c_i64 t3)[0]? = some (.sc (.int .i64 (rd 0 t3 0))) := (by have := (Vw.whole c_i64_w t3).get 0 0 b17.1 b17.2 (by decide); first | exact this | simpa using this)
   simp +decide only [Nat.reduceAdd, Nat.reduceMul, Int.reduceToNat, ak, b17, g18]
   refine hJ16 _ ?_
   refine seq_k fun J19 hJ19 => ?_
   refine sr_k fun J20 hJ20 => ?_
   simp +decide only [Nat.reduceAdd, Nat.reduceMul, Int.reduceToNat, ak]
   refine hJ20 _ ?_
   refine block_k fun B21 B21n B21x B21r B21j => ?_
   obtain ⟨y40, h41, h⟩ := of_bind h
   refine gh_k (wk [0, 1, 2, 3, 12, 13, 14] [pI (.arg 0) .fz, pI (.tmp 17 0) .lst]) ?_
   rw [e_loop]
   refine spec_l6Pick.l0_walk cs0 o0 l3 hv0 a0 a1 a2 t3 (rd 0 t3 0) 0 _ h41 _ ?_
   refine B21x _ ?_
   refine hJ19 _ ?_
   obtain ⟨j42, h43, hn⟩ := of_bind h
   refine seq_j (fun st => st = ⟨[(1, .c (.sc (.int .i64 j42))), (13, .c (.sc (.int .i64 y40)))], [(.arg 0, ⟨.fz, 3, cs0⟩)], [], []⟩) (fun J44 hJ44 => ?_) ?_
   ·replace h := h43; clear hn
    refine ga_k fun G45 G45n G45r G45x => ?_
    refine sr_k fun J46 hJ46 => ?_
    simp +decide only [Nat.reduceAdd, Nat.reduceMul, Int.reduceToNat, ak]
    refine hJ46 _ ?_
    refine cond_k (b := decide (a0 = 1)) rfl (fun c47 => ?_) (fun c47 => ?_)
    ·replace c47 := of_decide_eq_true c47; rw [if_pos c47] at h
     refine reg_k ?_
     obtain ⟨b48, h⟩ := of_guard h
     simp +decide only [Nat.reduceAdd, Nat.reduceMul, Int.reduceToNat, ak, b48]
     obtain rfl := Option.some.inj h
     refine G45n _ _ (wk [1, 13] [pI (.arg 0) .fz]) (hJ44 _ rfl)
    ·replace c47 := of_decide_eq_false c47; rw [if_neg c47] at h
     obtain rfl := Option.some.inj h
     refine G45n _ _ (wk [1, 13] [pI (.arg 0) .fz]) (hJ44 _ rfl)
   ·replace h := hn; clear hn h43
    rintro _ rfl
    refine sr_k fun J49 hJ49 => ?_
    have g50 : (List.replicate 1 ([.int .i64 0] : List Value)).flatten = [.int .i64 0] := rfl
    have g51 : (⟨.lst, 1, [.sc (.int .i64 y40)]⟩ : Root) = ⟨.lst, 1, encL c_i64 ([y40] : List Int)⟩ := rfl
    have g52 : ([y40] : List Int).length = 1 := rfl
    simp +decide only [Nat.reduceAdd, Nat.reduceMul, Int.reduceToNat, ak, g50, g51, g52]
    refine hJ49 _ ?_
    obtain rfl := Option.some.inj h
    refine hKr _ ⟨_, rfl, [⟨(.tmp 64 0), [], none, .lst⟩], _, rfl, rfl, ?_⟩
    first | rfl | (simp only [reduceCtorEq, Nat.reduceEqDiff, ak, akF, b17]; done) | (simp [reduceCtorEq, Nat.reduceEqDiff, ak, akF, b17] <;> omega)
end Go.AK
