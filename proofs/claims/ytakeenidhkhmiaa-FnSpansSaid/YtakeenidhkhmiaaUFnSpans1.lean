-- by a program of this session (wip/ak/pw.py)
import Derived.Test.YtakeenidhkhmiaaUFnSpans0
set_option synthInstance.maxSize 20000
set_option synthInstance.maxHeartbeats 400000
set_option maxRecDepth 100000
set_option maxHeartbeats 4000000
set_option linter.unusedVariables false
set_option linter.unusedSimpArgs false
namespace Go.AK
open Go Go.Proofs
/-! ### spec.SpanAdd: function 12 -/
def C12 : AC := .seq (.reg [.op none (.box 3 (.tmp 1)), .op none (.mv 4 (.const (.slice none 0 0))), .gh, .op none (.mv 5 (.const (.int .i64 0))), .keep [0, 3]]) (.seq (.reg [.op none (.mv 6 (.tmp 0)), .op none (.load 7 true 2 (.tmp 3)), .call none (some 8) 65 [.tmp 6, .tmp 7, .const (.int .i64 1)], .op none (.extr 9 (.tmp 8) 0), .op none (.extr 10 (.tmp 8) 1), .op none (.mv 4 (.tmp 9)), .op none (.mv 5 (.tmp 10)), .keep [4, 5]]) (.ret))
def r12 : List RV := [.tmp 4, .tmp 5]
theorem k12 : compC Try.prog 11 C12 (Try.f12.body.getD .skip) = some C12.erase := by kernel_rfl
theorem q12 : rvsOf Try.prog Try.f12.results.toList = some r12 := by kernel_rfl
def spec_SpanAdd.f (l0 : List S31) (a1_0 : Int) (a1_1 : Int) : Option ((List S31) × Int) := (spec_l2Do.f l0 a1_0 a1_1 1 >>= fun t3 => (some (t3.1, t3.2)))
theorem spec_SpanAdd.tri (cs0 : List Cell) (o0 : Nat) (l0 : List S31) (hv0 : Vw c31 2 cs0 o0 l0) (a1_0 : Int) (a1_1 : Int) (r : (List S31) × Int) (h : spec_SpanAdd.f l0 a1_0 a1_1 = some r) : Tri Try.prog 12 [.c (.ref (.arg 0) [] o0 l0.length), .g [.sc (.int .u64 a1_0), .sc (.int .u64 a1_1)]] [(.arg 0, ⟨.fz, 2, cs0⟩)] (fun o => o = ⟨.tup [(false, [.ref (.res 0) [] 0 r.1.length]), (false, [.sc (.int .i64 r.2)])], [(.arg 0, ⟨.fz, 2, cs0⟩), (.res 0, ⟨.lst, 2, encL c31 r.1⟩)], [], []⟩) := by
  refine tri_of_body (ac := C12) (xs := r12) Try.func12 (show Try.f12.body = some (Try.f12.body.getD .skip) from rfl) k12 q12 (Nat.le_of_ble_eq_true rfl) ?_
  refine body_of fun K hKn hKr => ?_
  unfold spec_SpanAdd.f at h
  unfold C12
  simp only [initT, Nat.reduceAdd]
  refine sr_k fun J1 hJ1 => ?_
  simp +decide only [Nat.reduceAdd, Nat.reduceMul, Int.reduceToNat, ak]
  refine gho_k (Weak.nm' 4 (.tmp 4 20) 2 (encL c31 ([] : List S31)) rfl rfl rfl) ?_
  simp +decide only [Nat.reduceAdd, Nat.reduceMul, Int.reduceToNat, ak]
  refine hJ1 _ ?_
  refine sr_k fun J2 hJ2 => ?_
  simp +decide only [Nat.reduceAdd, Nat.reduceMul, Int.reduceToNat, ak]
  obtain ⟨t3, h4, h⟩ := of_bind h
  refine call_m [(.arg 0, ⟨(.arg 0), [], none, .fz⟩)] (s0 := [(.arg 0, ⟨.fz, 2, cs0⟩)]) (by intro t ht; cases ht; decide) rfl rfl (by first | rfl | simp only [reduceCtorEq, Nat.reduceEqDiff, ak, akF]) (spec_l2Do.tri (cs0) o0 l0 hv0 a1_0 a1_1 1 _ h4) (by first | rfl | simp only [reduceCtorEq, Nat.reduceEqDiff, ak, akF]) (by simp [bkOk2, memK]) (fun hl4 => ?_)
  refine call_st (s4 := [(.arg 0, ⟨.fz, 2, cs0⟩), (.tmp 3 0, ⟨.box, 0, [.sc (.int .u64 a1_0), .sc (.int .u64 a1_1)]⟩), (.tmp 4 20, ⟨.lst, 2, encL c31 ([] : List S31)⟩), (.tmp 8 0, ⟨.lst, 2, encL c31 t3.1⟩)]) (m1' := []) (m2' := []) (v' := .tup [(false, [.ref (.tmp 8 0) [] 0 t3.1.length]), (false, [.sc (.int .i64 t3.2)])]) (Sto.mapN_killNil _ _) (mrgL_fz (mrgL_nil' _ _ _) rfl (by first | rfl | simp only [reduceCtorEq, Nat.reduceEqDiff, ak]) rfl (by intro R hR hh; cases hR; cases hh.2)) (by rfl) (mapT_killNil _ _) (by rfl) (by rfl) (by first | rfl | simp only [reduceCtorEq, Nat.reduceEqDiff, ak, akF, Nat.zero_add, List.append_nil]) ?_
  simp +decide only [Nat.reduceAdd, Nat.reduceMul, Int.reduceToNat, ak]
  refine hJ2 _ ?_
  obtain rfl := Option.some.inj h
  refine hKr _ ⟨_, rfl, [⟨(.tmp 8 0), [], none, .lst⟩], _, rfl, rfl, ?_⟩
  first | rfl | (simp only [reduceCtorEq, Nat.reduceEqDiff, ak, akF]; done) | (simp [reduceCtorEq, Nat.reduceEqDiff, ak, akF] <;> omega)
/-! ### spec.SpanCut: function 20 -/
def C20 : AC := .seq (.reg [.op none (.box 3 (.tmp 1)), .op none (.mv 4 (.const (.slice none 0 0))), .gh, .op none (.mv 5 (.const (.int .i64 0))), .keep [0, 3]]) (.seq (.reg [.op none (.mv 6 (.tmp 0)), .op none (.load 7 true 2 (.tmp 3)), .call none (some 8) 65 [.tmp 6, .tmp 7, .const (.int .i64 2)], .op none (.extr 9 (.tmp 8) 0), .op none (.extr 10 (.tmp 8) 1), .op none (.mv 4 (.tmp 9)), .op none (.mv 5 (.tmp 10)), .keep [4, 5]]) (.ret))
def r20 : List RV := [.tmp 4, .tmp 5]
theorem k20 : compC Try.prog 11 C20 (Try.f20.body.getD .skip) = some C20.erase := by kernel_rfl
theorem q20 : rvsOf Try.prog Try.f20.results.toList = some r20 := by kernel_rfl
def spec_SpanCut.f (l0 : List S31) (a1_0 : Int) (a1_1 : Int) : Option ((List S31) × Int) := (spec_l2Do.f l0 a1_0 a1_1 2 >>= fun t3 => (some (t3.1, t3.2)))
theorem spec_SpanCut.tri (cs0 : List Cell) (o0 : Nat) (l0 : List S31) (hv0 : Vw c31 2 cs0 o0 l0) (a1_0 : Int) (a1_1 : Int) (r : (List S31) × Int) (h : spec_SpanCut.f l0 a1_0 a1_1 = some r) : Tri Try.prog 20 [.c (.ref (.arg 0) [] o0 l0.length), .g [.sc (.int .u64 a1_0), .sc (.int .u64 a1_1)]] [(.arg 0, ⟨.fz, 2, cs0⟩)] (fun o => o = ⟨.tup [(false, [.ref (.res 0) [] 0 r.1.length]), (false, [.sc (.int .i64 r.2)])], [(.arg 0, ⟨.fz, 2, cs0⟩), (.res 0, ⟨.lst, 2, encL c31 r.1⟩)], [], []⟩) := by
  refine tri_of_body (ac := C20) (xs := r20) Try.func20 (show Try.f20.body = some (Try.f20.body.getD .skip) from rfl) k20 q20 (Nat.le_of_ble_eq_true rfl) ?_
  refine body_of fun K hKn hKr => ?_
  unfold spec_SpanCut.f at h
  unfold C20
  simp only [initT, Nat.reduceAdd]
  refine sr_k fun J1 hJ1 => ?_
  simp +decide only [Nat.reduceAdd, Nat.reduceMul, Int.reduceToNat, ak]
  refine gho_k (Weak.nm' 4 (.tmp 4 20) 2 (encL c31 ([] : List S31)) rfl rfl rfl) ?_
  simp +decide only [Nat.reduceAdd, Nat.reduceMul, Int.reduceToNat, ak]
  refine hJ1 _ ?_
  refine sr_k fun J2 hJ2 => ?_
  simp +decide only [Nat.reduceAdd, Nat.reduceMul, Int.reduceToNat, ak]
  obtain ⟨t3, h4, h⟩ := of_bind h
  refine call_m [(.arg 0, ⟨(.arg 0), [], none, .fz⟩)] (s0 := [(.arg 0, ⟨.fz, 2, cs0⟩)]) (by intro t ht; cases ht; decide) rfl rfl (by first | rfl | simp only [reduceCtorEq, Nat.reduceEqDiff, ak, akF]) (spec_l2Do.tri (cs0) o0 l0 hv0 a1_0 a1_1 2 _ h4) (by first | rfl | simp only [reduceCtorEq, Nat.reduceEqDiff, ak, akF]) (by simp [bkOk2, memK]) (fun hl4 => ?_)
  refine call_st (s4 := [(.arg 0, ⟨.fz, 2, cs0⟩), (.tmp 3 0, ⟨.box, 0, [.sc (.int .u64 a1_0), .sc (.int .u64 a1_1)]⟩), (.tmp 4 20, ⟨.lst, 2, encL c31 ([] : List S31)⟩), (.tmp 8 0, ⟨.lst, 2, encL c31 t3.1⟩)]) (m1' := []) (m2' := []) (v' := .tup [(false, [.ref (.tmp 8 0) [] 0 t3.1.length]), (false, [.sc (.int .i64 t3.2)])]) (Sto.mapN_killNil _ _) (mrgL_fz (mrgL_nil' _ _ _) rfl (by first | rfl | simp only [reduceCtorEq, Nat.reduceEqDiff, ak]) rfl (by intro R hR hh; cases hR; cases hh.2)) (by rfl) (mapT_killNil _ _) (by rfl) (by rfl) (by first | rfl | simp only [reduceCtorEq, Nat.reduceEqDiff, ak, akF, Nat.zero_add, List.append_nil]) ?_
  simp +decide only [Nat.reduceAdd, Nat.reduceMul, Int.reduceToNat, ak]
  refine hJ2 _ ?_
  obtain rfl := Option.some.inj h
  refine hKr _ ⟨_, rfl, [⟨(.tmp 8 0), [], none, .lst⟩], _, rfl, rfl, ?_⟩
  first | rfl | (simp only [reduceCtorEq, Nat.reduceEqDiff, ak, akF]; done) | (simp [reduceCtorEq, Nat.reduceEqDiff, ak, akF] <;> omega)
/-! ### spec.SpanGaps: function 21 -/
def C21 : AC := .seq (.reg [.op none (.box 3 (.tmp 1)), .op none (.mv 4 (.const (.slice none 0 0))), .gh, .op none (.mv 5 (.const (.int .i64 0))), .keep [0, 3]]) (.seq (.reg [.op none (.mv 6 (.tmp 0)), .op none (.load 7 true 2 (.tmp 3)), .call none (some 8) 65 [.tmp 6, .tmp 7, .const (.int .i64 3)], .op none (.extr 9 (.tmp 8) 0), .op none (.extr 10 (.tmp 8) 1), .op none (.mv 4 (.tmp 9)), .op none (.mv 5 (.tmp 10)), .keep [4, 5]]) (.ret))
def r21 : List RV := [.tmp 4, .tmp 5]
theorem k21 : compC Try.prog 11 C21 (Try.f21.body.getD .skip) = some C21.erase := by kernel_rfl
theorem q21 : rvsOf Try.prog Try.f21.results.toList = some r21 := by kernel_rfl
def spec_SpanGaps.f (l0 : List S31) (a1_0 : Int) (a1_1 : Int) : Option ((List S31) × Int) := (spec_l2Do.f l0 a1_0 a1_1 3 >>= fun t3 => (some (t3.1, t3.2)))
theorem spec_SpanGaps.tri (cs0 : List Cell) (o0 : Nat) (l0 : List S31) (hv0 : Vw c31 2 cs0 o0 l0) (a1_0 : Int) (a1_1 : Int) (r : (List S31) × Int) (h : spec_SpanGaps.f l0 a1_0 a1_1 = some r) : Tri Try.prog 21 [.c (.ref (.arg 0) [] o0 l0.length), .g [.sc (.int .u64 a1_0), .sc (.int .u64 a1_1)]] [(.arg 0, ⟨.fz, 2, cs0⟩)] (fun o => o = ⟨.tup [(false, [.ref (.res 0) [] 0 r.1.length]), (false, [.sc (.int .i64 r.2)])], [(.arg 0, ⟨.fz, 2, cs0⟩), (.res 0, ⟨.lst, 2, encL c31 r.1⟩)], [], []⟩) := by
  refine tri_of_body (ac := C21) (xs := r21) Try.func21 (show Try.f21.body = some (Try.f21.body.getD .skip) from rfl) k21 q21 (Nat.le_of_ble_eq_true rfl) ?_
  refine body_of fun K hKn hKr => ?_
  unfold spec_SpanGaps.f at h
  unfold C21
  simp only [initT, Nat.reduceAdd]
  refine sr_k fun J1 hJ1 => ?_
  simp +decide only [Nat.reduceAdd, Nat.reduceMul, Int.reduceToNat, ak]
  refine gho_k (Weak.nm' 4 (.tmp 4 20) 2 (encL c31 ([] : List S31)) rfl rfl rfl) ?_
  simp +decide only [Nat.reduceAdd, Nat.reduceMul, Int.reduceToNat, ak]
  refine hJ1 _ ?_
  refine sr_k fun J2 hJ2 => ?_
  simp +decide only [Nat.reduceAdd, Nat.reduceMul, Int.reduceToNat, ak]
  obtain ⟨t3, h4, h⟩ := of_bind h
  refine call_m [(.arg 0, ⟨(.arg 0), [], none, .fz⟩)] (s0 := [(.arg 0, ⟨.fz, 2, cs0⟩)]) (by intro t ht; cases ht; decide) rfl rfl (by first | rfl | simp only [reduceCtorEq, Nat.reduceEqDiff, ak, akF]) (spec_l2Do.tri (cs0) o0 l0 hv0 a1_0 a1_1 3 _ h4) (by first | rfl | simp only [reduceCtorEq, Nat.reduceEqDiff, ak, akF]) (by simp [bkOk2, memK]) (fun hl4 => ?_)
  refine call_st (s4 := [(.arg 0, ⟨.fz, 2, cs0⟩), (.tmp 3 0, ⟨.box, 0, [.sc (.int .u64 a1_0), .sc (.int .u64 a1_1)]⟩), (.tmp 4 20, ⟨.lst, 2, encL c31 ([] : List S31)⟩), (.tmp 8 0, ⟨.lst, 2, encL c31 t3.1⟩)]) (m1' := []) (m2' := []) (v' := .tup [(false, [.ref (.tmp 8 0) [] 0 t3.1.length]), (false, [.sc (.int .i64 t3.2)])]) (Sto.mapN_killNil _ _) (mrgL_fz (mrgL_nil' _ _ _) rfl (by first | rfl | simp only [reduceCtorEq, Nat.reduceEqDiff, ak]) rfl (by intro R hR hh; cases hR; cases hh.2)) (by rfl) (mapT_killNil _ _) (by rfl) (by rfl) (by first | rfl | simp only [reduceCtorEq, Nat.reduceEqDiff, ak, akF, Nat.zero_add, List.append_nil]) ?_
  simp +decide only [Nat.reduceAdd, Nat.reduceMul, Int.reduceToNat, ak]
  refine hJ2 _ ?_
  obtain rfl := Option.some.inj h
  refine hKr _ ⟨_, rfl, [⟨(.tmp 8 0), [], none, .lst⟩], _, rfl, rfl, ?_⟩
  first | rfl | (simp only [reduceCtorEq, Nat.reduceEqDiff, ak, akF]; done) | (simp [reduceCtorEq, Nat.reduceEqDiff, ak, akF] <;> omega)
/-! ### impl.validSpans: function 66 -/
def C66_l0 : AC := .seq (.reg [.op none (.bin 20 .lss (.tmp 19) (.tmp 18)), .keep [0, 17, 18, 19, 20]]) (.seq (.cond (.tmp 20) (.skip) (.gh (.exit 0))) (.seq (.block 1 (.seq (.reg [.op none (.mv 21 (.tmp 19)), .op none (.iaddr 22 2 (.tmp 17) (.tmp 19)), .op none (.load 23 true 2 (.tmp 22)), .op none (.alloc 6 [.int .u64 0, .int .u64 0]), .op none (.mv 5 (.tmp 21)), .op none (.store 2 (.tmp 6) (.tmp 23)), .keep [0, 5, 6, 17, 18, 19]]) (.seq (.ga (.regD (.first (.op none (.faddr 24 0 (.tmp 6))) (.first (.op none (.load 25 false 1 (.tmp 24))) (.first (.op none (.faddr 26 1 (.tmp 6))) (.first (.op none (.load 27 false 1 (.tmp 26))) (.first (.op none (.bin 28 .geq (.tmp 25) (.tmp 27))) (.first (.op none (.mv 29 (.tmp 28))) (.first (.op (some (29, false)) (.mv 30 (.tmp 5))) (.first (.op (some (29, false)) (.bin 31 .gtr (.tmp 30) (.const (.int .i64 0)))) (.first (.op (some (29, false)) (.mv 32 (.tmp 31))) (.first (.op (some (32, true)) (.faddr 33 0 (.tmp 6))) (.first (.op (some (32, true)) (.load 34 false 1 (.tmp 33))) (.first (.op (some (32, true)) (.mv 35 (.tmp 0))) (.first (.op (some (32, true)) (.mv 36 (.tmp 5))) (.first (.op (some (32, true)) (.bin 37 .sub (.tmp 36) (.const (.int .i64 1)))) (.first (.op (some (32, true)) (.iaddr 38 2 (.tmp 35) (.tmp 37))) (.first (.op (some (32, true)) (.faddr 39 1 (.tmp 38))) (.first (.op (some (32, true)) (.load 40 false 1 (.tmp 39))) (.first (.op (some (32, true)) (.bin 41 .leq (.tmp 34) (.tmp 40))) (.first (.op (some (29, false)) (.pick 42 (.tmp 32) (.tmp 41) (.const (.bool false)))) (.first (.op none (.pick 43 (.tmp 29) (.const (.bool true)) (.tmp 42))) (.done))))))))))))))))))))) [0, 17, 18, 19, 43])) (.cond (.tmp 43) (.seq (.reg [.op none (.mv 4 (.const (.bool false))), .keep [4]]) (.gh .ret)) (.skip))))) (.reg [.op none (.bin 44 .add (.tmp 19) (.const (.int .i64 1))), .op none (.mv 19 (.tmp 44)), .keep [0, 17, 18, 19]])))
def C66 : AC := .seq (.reg [.op none (.box 3 (.tmp 1)), .op none (.mv 4 (.const (.bool false))), .keep [0, 3]]) (.seq (.seq (.ga (.reg [.op none (.mv 7 (.tmp 0)), .op none (.len 8 (.tmp 7)), .op none (.bin 9 .gtr (.tmp 8) (.const (.int .i64 1000))), .op none (.mv 10 (.tmp 9)), .op (some (10, false)) (.faddr 11 0 (.tmp 3)), .op (some (10, false)) (.load 12 false 1 (.tmp 11)), .op (some (10, false)) (.faddr 13 1 (.tmp 3)), .op (some (10, false)) (.load 14 false 1 (.tmp 13)), .op (some (10, false)) (.bin 15 .gtr (.tmp 12) (.tmp 14)), .op none (.pick 16 (.tmp 10) (.const (.bool true)) (.tmp 15)), .keep [0, 16]])) (.cond (.tmp 16) (.seq (.reg [.op none (.mv 4 (.const (.bool false))), .keep [4]]) (.ret)) (.skip))) (.seq (.seq (.reg [.op none (.mv 17 (.tmp 0)), .op none (.len 18 (.tmp 17)), .op none (.mv 19 (.const (.int .i64 0))), .keep [0, 17, 18, 19]]) (.block 0 (.gh (.loop (.ga C66_l0))))) (.seq (.reg [.op none (.mv 4 (.const (.bool true))), .keep [4]]) (.ret))))
def r66 : List RV := [.tmp 4]
theorem k66 : compC Try.prog 45 C66 (Try.f66.body.getD .skip) = some C66.erase := by kernel_rfl
theorem q66 : rvsOf Try.prog Try.f66.results.toList = some r66 := by kernel_rfl
def impl_validSpans.l0 (l0 : List S31) (x0_0 : Int) (x0_1 : Int) : Option (Lp Unit Bool) := (if x0_1 < x0_0 then (if 0 ≤ x0_1 ∧ x0_1 < (l0.length : Int) then ((if (rd z31 l0 x0_1).f0 ≥ (rd z31 l0 x0_1).f1 then (some true) else (if x0_1 > 0 then (if 0 ≤ IntKind.i64.wrap (x0_1 - 1) ∧ IntKind.i64.wrap (x0_1 - 1) < (l0.length : Int) then (some (decide ((rd z31 l0 x0_1).f0 ≤ (rd z31 l0 (IntKind.i64.wrap (x0_1 - 1))).f1))) else none) else (some false))) >>= fun (j23 : Bool) => (if j23 = true then (some (.b false)) else (impl_validSpans.l0 l0 x0_0 (IntKind.i64.wrap (x0_1 + 1))))) else none) else (some (.a ())))
  partial_fixpoint
def impl_validSpans.f (l0 : List S31) (a1_0 : Int) (a1_1 : Int) : Option Bool := ((if (l0.length : Int) > 1000 then (some true) else (some (decide (a1_0 > a1_1)))) >>= fun (j3 : Bool) => (if j3 = true then (some false) else (impl_validSpans.l0 l0 (l0.length : Int) 0 >>= fun (y38 : Lp Unit Bool) => match y38 with | .a x40 => (some true) | .b x40 => (some x40))))
def impl_validSpans.l0_M (cs0 : List Cell) (o0 : Nat) (l0 : List S31) (hv0 : Vw c31 2 cs0 o0 l0) (x0_0 : Int) (x0_1 : Int) (y : Lp Unit Bool) : Prop := ∀ (K : AE → St → Prop), (∀ x, y = .a x → K (.exit 0) ⟨[], [(.arg 0, ⟨.fz, 2, cs0⟩)], [], []⟩) → (∀ x, y = .b x → K .ret ⟨[(4, .c (.sc (.bool x)))], [(.arg 0, ⟨.fz, 2, cs0⟩)], [], []⟩) → loopS Try.prog 45 (.ga C66_l0) K ⟨[(0, .c (.ref (.arg 0) [] o0 l0.length)), (17, .c (.ref (.arg 0) [] o0 l0.length)), (18, .c (.sc (.int .i64 x0_0))), (19, .c (.sc (.int .i64 x0_1)))], [(.arg 0, ⟨.fz, 2, cs0⟩)], [], []⟩
theorem impl_validSpans.l0_walk (cs0 : List Cell) (o0 : Nat) (l0 : List S31) (hv0 : Vw c31 2 cs0 o0 l0) (x0_0 : Int) (x0_1 : Int) (y : Lp Unit Bool) (h : impl_validSpans.l0 l0 x0_0 x0_1 = some y) : impl_validSpans.l0_M cs0 o0 l0 hv0 x0_0 x0_1 y := by
  refine impl_validSpans.l0.partial_correctness l0 x0_0 (motive := fun x0_1 y => impl_validSpans.l0_M cs0 o0 l0 hv0 x0_0 x0_1 y) ?_ x0_1 y h
  clear h
  unfold impl_validSpans.l0_M
  intro rec ih x0_1 y h K hx0 hx1
  refine loop_unroll (ga_k fun G0 G0n G0r G0x => ?_)
  unfold C66_l0
  refine sr_k fun J15 hJ15 => ?_
  simp +decide only [Nat.reduceAdd, Nat.reduceMul, Int.reduceToNat, ak]
  refine hJ15 _ ?_
  refine seq_k fun J16 hJ16 => ?_
  refine cond_k (b := decide (x0_1 < x0_0)) rfl (fun c17 => ?_) (fun c17 => ?_)
  · replace c17 := of_decide_eq_true c17; rw [if_pos c17] at h
    refine hJ16 _ ?_
    refine seq_k fun J18 hJ18 => ?_
    refine block_k fun B19 B19n B19x B19r B19j => ?_
    refine sr_k fun J20 hJ20 => ?_
    obtain ⟨b21, h⟩ := of_guard h
    have g22 : (List.drop (o0 + x0_1.toNat * 2) (cs0)).take 2 = [.sc (.int .u64 ((rd z31 l0 x0_1).f0)), .sc (.int .u64 ((rd z31 l0 x0_1).f1))] := hv0.stretch z31 b21.1 b21.2
    simp +decide only [Nat.reduceAdd, Nat.reduceMul, Int.reduceToNat, ak, b21, g22]
    refine hJ20 _ ?_
    obtain ⟨j23, h24, hn⟩ := of_bind h
    refine seq_j (fun st => st = ⟨[(0, .c (.ref (.arg 0) [] o0 l0.length)), (17, .c (.ref (.arg 0) [] o0 l0.length)), (18, .c (.sc (.int .i64 x0_0))), (19, .c (.sc (.int .i64 x0_1))), (43, .c (.sc (.bool j23)))], [(.arg 0, ⟨.fz, 2, cs0⟩)], [], []⟩) (fun J25 hJ25 => ?_) ?_
    · replace h := h24; clear hn
      refine ga_k fun G26 G26n G26r G26x => ?_
      refine regD_k ?_
      simp +decide only [Nat.reduceAdd, Nat.reduceMul, Int.reduceToNat, ak]
      by_cases c27 : (rd z31 l0 x0_1).f0 ≥ (rd z31 l0 x0_1).f1
      · rw [if_pos c27] at h
        have e28 : decide ((rd z31 l0 x0_1).f0 ≥ (rd z31 l0 x0_1).f1) = true := decide_eq_true c27
        simp +decide only [Nat.reduceAdd, Nat.reduceMul, Int.reduceToNat, ak, e28]
        obtain rfl := Option.some.inj h
        refine G26n _ _ (wk [0, 17, 18, 19, 43] [pI (.arg 0) .fz] (h0 := by first | rfl | simp +decide only [ak, akF, b21, e28]) (h := by first | rfl | (simp +decide only [ak, akF, b21, e28]; done) | (simp +decide [ak, akF, b21, e28] <;> omega))) (hJ25 _ rfl)
      · rw [if_neg c27] at h
        have e29 : decide ((rd z31 l0 x0_1).f0 ≥ (rd z31 l0 x0_1).f1) = false := decide_eq_false c27
        simp +decide only [Nat.reduceAdd, Nat.reduceMul, Int.reduceToNat, ak, e29]
        by_cases c30 : x0_1 > 0
        · rw [if_pos c30] at h
          have e31 : decide (x0_1 > 0) = true := decide_eq_true c30
          obtain ⟨b32, h⟩ := of_guard h
          have g33 : o0 + (IntKind.i64.wrap (x0_1 - 1)).toNat * 2 + 1 ≤ (cs0).length := (hv0.len_le b32.1 b32.2 (by decide))
          have g34 : (cs0)[o0 + (IntKind.i64.wrap (x0_1 - 1)).toNat * 2 + 1]? = some (.sc (.int .u64 ((rd z31 l0 (IntKind.i64.wrap (x0_1 - 1))).f1))) := hv0.get z31 1 b32.1 b32.2 (by decide)
          simp +decide only [Nat.reduceAdd, Nat.reduceMul, Int.reduceToNat, ak, e31, b32, g33, g34]
          obtain rfl := Option.some.inj h
          refine G26n _ _ (wk [0, 17, 18, 19, 43] [pI (.arg 0) .fz] (h0 := by first | rfl | simp +decide only [ak, akF, b21, b32, e29, e31]) (h := by first | rfl | (simp +decide only [ak, akF, b21, b32, e29, e31]; done) | (simp +decide [ak, akF, b21, b32, e29, e31] <;> omega))) (hJ25 _ rfl)
        · rw [if_neg c30] at h
          have e35 : decide (x0_1 > 0) = false := decide_eq_false c30
          simp +decide only [Nat.reduceAdd, Nat.reduceMul, Int.reduceToNat, ak, e35]
          obtain rfl := Option.some.inj h
          refine G26n _ _ (wk [0, 17, 18, 19, 43] [pI (.arg 0) .fz] (h0 := by first | rfl | simp +decide only [ak, akF, b21, e29, e35]) (h := by first | rfl | (simp +decide only [ak, akF, b21, e29, e35]; done) | (simp +decide [ak, akF, b21, e29, e35] <;> omega))) (hJ25 _ rfl)
    · replace h := hn; clear hn h24
      rintro _ rfl
      refine cond_k (b := j23) rfl (fun c36 => ?_) (fun c36 => ?_)
      · rw [if_pos c36] at h
        refine sr_k fun J37 hJ37 => ?_
        simp +decide only [Nat.reduceAdd, Nat.reduceMul, Int.reduceToNat, ak]
        refine hJ37 _ ?_
        obtain rfl := Option.some.inj h
        refine gh_k (wk [4] [pI (.arg 0) .fz]) ?_
        refine B19r _ ?_
        refine G0r _ ?_
        exact hx1 _ rfl
      · rw [if_neg (Bool.eq_false_iff.1 c36)] at h
        refine B19n _ ?_
        refine hJ18 _ ?_
        refine reg_k ?_
        simp +decide only [Nat.reduceAdd, Nat.reduceMul, Int.reduceToNat, ak]
        refine G0n _ _ (wk [0, 17, 18, 19] [pI (.arg 0) .fz]) (ih _ _ h K hx0 hx1)
  · replace c17 := of_decide_eq_false c17; rw [if_neg c17] at h
    obtain rfl := Option.some.inj h
    refine gh_k (wk [] [pI (.arg 0) .fz]) ?_
    refine G0x _ _ ?_
    exact hx0 _ rfl
theorem impl_validSpans.tri (cs0 : List Cell) (o0 : Nat) (l0 : List S31) (hv0 : Vw c31 2 cs0 o0 l0) (a1_0 : Int) (a1_1 : Int) (r : Bool) (h : impl_validSpans.f l0 a1_0 a1_1 = some r) : Tri Try.prog 66 [.c (.ref (.arg 0) [] o0 l0.length), .g [.sc (.int .u64 a1_0), .sc (.int .u64 a1_1)]] [(.arg 0, ⟨.fz, 2, cs0⟩)] (fun o => o = ⟨.c (.sc (.bool r)), [(.arg 0, ⟨.fz, 2, cs0⟩)], [], []⟩) := by
  refine tri_of_body (ac := C66) (xs := r66) Try.func66 (show Try.f66.body = some (Try.f66.body.getD .skip) from rfl) k66 q66 (Nat.le_of_ble_eq_true rfl) ?_
  refine body_of fun K hKn hKr => ?_
  unfold impl_validSpans.f at h
  unfold C66
  simp only [initT, Nat.reduceAdd]
  refine sr_k fun J1 hJ1 => ?_
  simp +decide only [Nat.reduceAdd, Nat.reduceMul, Int.reduceToNat, ak]
  refine hJ1 _ ?_
  refine seq_k fun J2 hJ2 => ?_
  obtain ⟨j3, h4, hn⟩ := of_bind h
  refine seq_j (fun st => st = ⟨[(0, .c (.ref (.arg 0) [] o0 l0.length)), (16, .c (.sc (.bool j3)))], [(.arg 0, ⟨.fz, 2, cs0⟩)], [], []⟩) (fun J5 hJ5 => ?_) ?_
  · replace h := h4; clear hn
    refine ga_k fun G6 G6n G6r G6x => ?_
    refine reg_k ?_
    simp +decide only [Nat.reduceAdd, Nat.reduceMul, Int.reduceToNat, ak]
    by_cases c7 : (l0.length : Int) > 1000
    · rw [if_pos c7] at h
      have e8 : decide ((l0.length : Int) > 1000) = true := decide_eq_true c7
      simp +decide only [Nat.reduceAdd, Nat.reduceMul, Int.reduceToNat, ak, e8]
      obtain rfl := Option.some.inj h
      refine G6n _ _ (wk [0, 16] [pI (.arg 0) .fz] (h0 := by first | rfl | simp +decide only [ak, akF, e8]) (h := by first | rfl | (simp +decide only [ak, akF, e8]; done) | (simp +decide [ak, akF, e8] <;> omega))) (hJ5 _ rfl)
    · rw [if_neg c7] at h
      have e9 : decide ((l0.length : Int) > 1000) = false := decide_eq_false c7
      simp +decide only [Nat.reduceAdd, Nat.reduceMul, Int.reduceToNat, ak, e9]
      obtain rfl := Option.some.inj h
      refine G6n _ _ (wk [0, 16] [pI (.arg 0) .fz] (h0 := by first | rfl | simp +decide only [ak, akF, e9]) (h := by first | rfl | (simp +decide only [ak, akF, e9]; done) | (simp +decide [ak, akF, e9] <;> omega))) (hJ5 _ rfl)
  · replace h := hn; clear hn h4
    rintro _ rfl
    refine cond_k (b := j3) rfl (fun c10 => ?_) (fun c10 => ?_)
    · rw [if_pos c10] at h
      refine sr_k fun J11 hJ11 => ?_
      simp +decide only [Nat.reduceAdd, Nat.reduceMul, Int.reduceToNat, ak]
      refine hJ11 _ ?_
      obtain rfl := Option.some.inj h
      refine hKr _ ⟨_, rfl, [], _, rfl, rfl, ?_⟩
      first | rfl | (simp only [reduceCtorEq, Nat.reduceEqDiff, ak, akF]; done) | (simp [reduceCtorEq, Nat.reduceEqDiff, ak, akF] <;> omega)
    · rw [if_neg (Bool.eq_false_iff.1 c10)] at h
      refine hJ2 _ ?_
      refine seq_k fun J12 hJ12 => ?_
      refine sr_k fun J13 hJ13 => ?_
      simp +decide only [Nat.reduceAdd, Nat.reduceMul, Int.reduceToNat, ak]
      refine hJ13 _ ?_
      refine block_k fun B14 B14n B14x B14r B14j => ?_
      obtain ⟨y38, h39, h⟩ := of_bind h
      refine gh_k (wk [0, 17, 18, 19] [pI (.arg 0) .fz]) ?_
      rw [e_loop]
      refine impl_validSpans.l0_walk cs0 o0 l0 hv0 (l0.length : Int) 0 _ h39 _ ?_ ?_
      · rintro x40 rfl
        dsimp only at h
        refine B14x _ ?_
        refine hJ12 _ ?_
        refine sr_k fun J41 hJ41 => ?_
        simp +decide only [Nat.reduceAdd, Nat.reduceMul, Int.reduceToNat, ak]
        refine hJ41 _ ?_
        obtain rfl := Option.some.inj h
        refine hKr _ ⟨_, rfl, [], _, rfl, rfl, ?_⟩
        first | rfl | (simp only [reduceCtorEq, Nat.reduceEqDiff, ak, akF]; done) | (simp [reduceCtorEq, Nat.reduceEqDiff, ak, akF] <;> omega)
      · rintro x40 rfl
        dsimp only at h
        refine B14r _ ?_
        obtain rfl := Option.some.inj h
        refine hKr _ ⟨_, rfl, [], _, rfl, rfl, ?_⟩
        first | rfl | (simp only [reduceCtorEq, Nat.reduceEqDiff, ak, akF]; done) | (simp [reduceCtorEq, Nat.reduceEqDiff, ak, akF] <;> omega)
/-! ### impl.spanHi: function 107 -/
def C107 : AC := .seq (.reg [.op none (.box 1 (.tmp 0)), .op none (.mv 2 (.const (.int .u64 0))), .keep [1]]) (.seq (.reg [.op none (.faddr 3 1 (.tmp 1)), .op none (.load 4 false 1 (.tmp 3)), .op none (.mv 2 (.tmp 4)), .keep [2]]) (.ret))
def r107 : List RV := [.tmp 2]
theorem k107 : compC Try.prog 5 C107 (Try.f107.body.getD .skip) = some C107.erase := by kernel_rfl
theorem q107 : rvsOf Try.prog Try.f107.results.toList = some r107 := by kernel_rfl
def impl_spanHi.f (a0_0 : Int) (a0_1 : Int) : Option Int := (some a0_1)
theorem impl_spanHi.tri (a0_0 : Int) (a0_1 : Int) (r : Int) (h : impl_spanHi.f a0_0 a0_1 = some r) : Tri Try.prog 107 [.g [.sc (.int .u64 a0_0), .sc (.int .u64 a0_1)]] [] (fun o => o = ⟨.c (.sc (.int .u64 r)), [], [], []⟩) := by
  refine tri_of_body (ac := C107) (xs := r107) Try.func107 (show Try.f107.body = some (Try.f107.body.getD .skip) from rfl) k107 q107 (Nat.le_of_ble_eq_true rfl) ?_
  refine body_of fun K hKn hKr => ?_
  unfold impl_spanHi.f at h
  unfold C107
  simp only [initT, Nat.reduceAdd]
  refine sr_k fun J1 hJ1 => ?_
  simp +decide only [Nat.reduceAdd, Nat.reduceMul, Int.reduceToNat, ak]
  refine hJ1 _ ?_
  refine sr_k fun J2 hJ2 => ?_
  simp +decide only [Nat.reduceAdd, Nat.reduceMul, Int.reduceToNat, ak]
  refine hJ2 _ ?_
  obtain rfl := Option.some.inj h
  refine hKr _ ⟨_, rfl, [], _, rfl, rfl, ?_⟩
  first | rfl | (simp only [reduceCtorEq, Nat.reduceEqDiff, ak, akF]; done) | (simp [reduceCtorEq, Nat.reduceEqDiff, ak, akF] <;> omega)
/-! ### impl.place[impl.Span,uint64]: function 106 -/
def C106v2f107_l0 : AC := .seq (.seq (.reg [.op none (.mv 12 (.tmp 7)), .op none (.mv 13 (.tmp 8)), .op none (.bin 14 .lss (.tmp 12) (.tmp 13)), .keep [0, 1, 2, 7, 8, 14]]) (.cond (.tmp 14) (.skip) (.gh (.exit 0)))) (.block 1 (.seq (.reg [.op none (.mv 15 (.tmp 7)), .op none (.mv 16 (.tmp 8)), .op none (.bin 17 .add (.tmp 15) (.tmp 16)), .op none (.bin 18 .quo (.tmp 17) (.const (.int .i64 2))), .op none (.mv 9 (.tmp 18)), .keep [0, 1, 2, 7, 8, 9]]) (.seq (.reg [.op none (.mv 19 (.tmp 2)), .op none (.mv 20 (.tmp 0)), .op none (.mv 21 (.tmp 9)), .op none (.iaddr 22 2 (.tmp 20) (.tmp 21)), .op none (.load 23 true 2 (.tmp 22)), .callv none (some 24) (.value (.tmp 19)) [.tmp 23], .op none (.mv 25 (.tmp 1)), .op none (.bin 26 .lss (.tmp 24) (.tmp 25)), .keep [0, 1, 2, 7, 8, 9, 26]]) (.cond (.tmp 26) (.reg [.op none (.mv 27 (.tmp 9)), .op none (.bin 28 .add (.tmp 27) (.const (.int .i64 1))), .op none (.mv 7 (.tmp 28)), .keep [0, 1, 2, 7, 8]]) (.reg [.op none (.mv 29 (.tmp 9)), .op none (.mv 8 (.tmp 29)), .keep [0, 1, 2, 7, 8]])))))
def C106v2f107 : AC := .seq (.reg [.op none (.mv 6 (.const (.int .i64 0))), .keep [0, 1, 2]]) (.seq (.reg [.op none (.mv 10 (.tmp 0)), .op none (.len 11 (.tmp 10)), .op none (.mv 7 (.const (.int .i64 0))), .op none (.mv 8 (.tmp 11)), .keep [0, 1, 2, 7, 8]]) (.seq (.block 0 (.gh (.loop (.ga C106v2f107_l0)))) (.seq (.reg [.op none (.mv 30 (.tmp 7)), .op none (.mv 6 (.tmp 30)), .keep [6]]) (.ret))))
def r106v2f107 : List RV := [.tmp 6]
theorem k106v2f107 : compC Try.prog 31 C106v2f107 (Try.f106.body.getD .skip) = some C106v2f107.erase := by kernel_rfl
theorem q106v2f107 : rvsOf Try.prog Try.f106.results.toList = some r106v2f107 := by kernel_rfl
def impl_place_impl_Span_uint64_v2f107.l0 (l0 : List S31) (x0_0 : Int) (x0_1 : Int) (x0_2 : Int) : Option Int := (if x0_1 < x0_2 then (if 0 ≤ IntKind.i64.wrap ((IntKind.i64.wrap (x0_1 + x0_2)).tdiv 2) ∧ IntKind.i64.wrap ((IntKind.i64.wrap (x0_1 + x0_2)).tdiv 2) < (l0.length : Int) then (impl_spanHi.f ((rd z31 l0 (IntKind.i64.wrap ((IntKind.i64.wrap (x0_1 + x0_2)).tdiv 2))).f0) ((rd z31 l0 (IntKind.i64.wrap ((IntKind.i64.wrap (x0_1 + x0_2)).tdiv 2))).f1) >>= fun t13 => (if t13 < x0_0 then (impl_place_impl_Span_uint64_v2f107.l0 l0 x0_0 (IntKind.i64.wrap ((IntKind.i64.wrap ((IntKind.i64.wrap (x0_1 + x0_2)).tdiv 2)) + 1)) x0_2) else (impl_place_impl_Span_uint64_v2f107.l0 l0 x0_0 x0_1 (IntKind.i64.wrap ((IntKind.i64.wrap (x0_1 + x0_2)).tdiv 2))))) else none) else (some x0_1))
  partial_fixpoint
def impl_place_impl_Span_uint64_v2f107.f (l0 : List S31) (a1 : Int) : Option Int := (impl_place_impl_Span_uint64_v2f107.l0 l0 a1 0 (l0.length : Int) >>= fun (y17 : Int) => (some y17))
def impl_place_impl_Span_uint64_v2f107.l0_M (cs0 : List Cell) (o0 : Nat) (l0 : List S31) (hv0 : Vw c31 2 cs0 o0 l0) (x0_0 : Int) (x0_1 : Int) (x0_2 : Int) (y : Int) : Prop := ∀ (K : AE → St → Prop), (K (.exit 0) ⟨[(7, .c (.sc (.int .i64 y)))], [(.arg 0, ⟨.fz, 2, cs0⟩)], [], []⟩) → loopS Try.prog 31 (.ga C106v2f107_l0) K ⟨[(0, .c (.ref (.arg 0) [] o0 l0.length)), (1, .c (.sc (.int .u64 x0_0))), (2, .c (.sc (.func (.func 107) #[] #[]))), (7, .c (.sc (.int .i64 x0_1))), (8, .c (.sc (.int .i64 x0_2)))], [(.arg 0, ⟨.fz, 2, cs0⟩)], [], []⟩
theorem impl_place_impl_Span_uint64_v2f107.l0_walk (cs0 : List Cell) (o0 : Nat) (l0 : List S31) (hv0 : Vw c31 2 cs0 o0 l0) (x0_0 : Int) (x0_1 : Int) (x0_2 : Int) (y : Int) (h : impl_place_impl_Span_uint64_v2f107.l0 l0 x0_0 x0_1 x0_2 = some y) : impl_place_impl_Span_uint64_v2f107.l0_M cs0 o0 l0 hv0 x0_0 x0_1 x0_2 y := by
  refine impl_place_impl_Span_uint64_v2f107.l0.partial_correctness l0 x0_0 (motive := fun x0_1 x0_2 y => impl_place_impl_Span_uint64_v2f107.l0_M cs0 o0 l0 hv0 x0_0 x0_1 x0_2 y) ?_ x0_1 x0_2 y h
  clear h
  unfold impl_place_impl_Span_uint64_v2f107.l0_M
  intro rec ih x0_1 x0_2 y h K hx0
  refine loop_unroll (ga_k fun G0 G0n G0r G0x => ?_)
  unfold C106v2f107_l0
  refine seq_k fun J5 hJ5 => ?_
  refine sr_k fun J6 hJ6 => ?_
  simp +decide only [Nat.reduceAdd, Nat.reduceMul, Int.reduceToNat, ak]
  refine hJ6 _ ?_
  refine cond_k (b := decide (x0_1 < x0_2)) rfl (fun c7 => ?_) (fun c7 => ?_)
  · replace c7 := of_decide_eq_true c7; rw [if_pos c7] at h
    refine hJ5 _ ?_
    refine block_k fun B8 B8n B8x B8r B8j => ?_
    refine sr_k fun J9 hJ9 => ?_
    simp +decide only [Nat.reduceAdd, Nat.reduceMul, Int.reduceToNat, ak, ne_lit]
    refine hJ9 _ ?_
    refine sr_k fun J10 hJ10 => ?_
    obtain ⟨b11, h⟩ := of_guard h
    have g12 : (List.drop (o0 + (IntKind.i64.wrap ((IntKind.i64.wrap (x0_1 + x0_2)).tdiv 2)).toNat * 2) (cs0)).take 2 = [.sc (.int .u64 ((rd z31 l0 (IntKind.i64.wrap ((IntKind.i64.wrap (x0_1 + x0_2)).tdiv 2))).f0)), .sc (.int .u64 ((rd z31 l0 (IntKind.i64.wrap ((IntKind.i64.wrap (x0_1 + x0_2)).tdiv 2))).f1))] := hv0.stretch z31 b11.1 b11.2
    simp +decide only [Nat.reduceAdd, Nat.reduceMul, Int.reduceToNat, ak, b11, g12]
    obtain ⟨t13, h14, h⟩ := of_bind h
    refine callv_fn (f := 107) (fn := Try.f107) rfl Try.func107 (by kernel_rfl) (by decide) ?_
    refine call_m [] (s0 := []) (by intro t ht; cases ht; decide) rfl rfl (by first | rfl | simp only [reduceCtorEq, Nat.reduceEqDiff, ak, akF, b11, g12]) (impl_spanHi.tri ((rd z31 l0 (IntKind.i64.wrap ((IntKind.i64.wrap (x0_1 + x0_2)).tdiv 2))).f0) ((rd z31 l0 (IntKind.i64.wrap ((IntKind.i64.wrap (x0_1 + x0_2)).tdiv 2))).f1) _ h14) (by first | rfl | simp only [reduceCtorEq, Nat.reduceEqDiff, ak, akF]) (by simp [bkOk2, memK]) (fun hl14 => ?_)
    refine call_st (s4 := [(.arg 0, ⟨.fz, 2, cs0⟩)]) (m1' := []) (m2' := []) (v' := .c (.sc (.int .u64 t13))) (Sto.mapN_killNil _ _) (mrgL_nil' _ _ _) (by rfl) (mapT_killNil _ _) (by rfl) (by rfl) (by first | rfl | simp only [reduceCtorEq, Nat.reduceEqDiff, ak, akF, Nat.zero_add, List.append_nil, b11]) ?_
    simp +decide only [Nat.reduceAdd, Nat.reduceMul, Int.reduceToNat, ak]
    refine hJ10 _ ?_
    refine cond_k (b := decide (t13 < x0_0)) rfl (fun c16 => ?_) (fun c16 => ?_)
    · replace c16 := of_decide_eq_true c16; rw [if_pos c16] at h
      refine reg_k ?_
      simp +decide only [Nat.reduceAdd, Nat.reduceMul, Int.reduceToNat, ak]
      refine B8n _ ?_
      refine G0n _ _ (wk [0, 1, 2, 7, 8] [pI (.arg 0) .fz]) (ih _ _ _ h K hx0)
    · replace c16 := of_decide_eq_false c16; rw [if_neg c16] at h
      refine reg_k ?_
      simp +decide only [Nat.reduceAdd, Nat.reduceMul, Int.reduceToNat, ak]
      refine B8n _ ?_
      refine G0n _ _ (wk [0, 1, 2, 7, 8] [pI (.arg 0) .fz]) (ih _ _ _ h K hx0)
  · replace c7 := of_decide_eq_false c7; rw [if_neg c7] at h
    obtain rfl := Option.some.inj h
    refine gh_k (wk [7] [pI (.arg 0) .fz]) ?_
    refine G0x _ _ ?_
    exact hx0
theorem impl_place_impl_Span_uint64_v2f107.tri (cs0 : List Cell) (o0 : Nat) (l0 : List S31) (hv0 : Vw c31 2 cs0 o0 l0) (a1 : Int) (r : Int) (h : impl_place_impl_Span_uint64_v2f107.f l0 a1 = some r) : Tri Try.prog 106 [.c (.ref (.arg 0) [] o0 l0.length), .c (.sc (.int .u64 a1)), .c (.sc (.func (.func 107) #[] #[]))] [(.arg 0, ⟨.fz, 2, cs0⟩)] (fun o => o = ⟨.c (.sc (.int .i64 r)), [(.arg 0, ⟨.fz, 2, cs0⟩)], [], []⟩) := by
  refine tri_of_body (ac := C106v2f107) (xs := r106v2f107) Try.func106 (show Try.f106.body = some (Try.f106.body.getD .skip) from rfl) k106v2f107 q106v2f107 (Nat.le_of_ble_eq_true rfl) ?_
  refine body_of fun K hKn hKr => ?_
  unfold impl_place_impl_Span_uint64_v2f107.f at h
  unfold C106v2f107
  simp only [initT, Nat.reduceAdd]
  refine sr_k fun J1 hJ1 => ?_
  simp +decide only [Nat.reduceAdd, Nat.reduceMul, Int.reduceToNat, ak]
  refine hJ1 _ ?_
  refine sr_k fun J2 hJ2 => ?_
  simp +decide only [Nat.reduceAdd, Nat.reduceMul, Int.reduceToNat, ak]
  refine hJ2 _ ?_
  refine seq_k fun J3 hJ3 => ?_
  refine block_k fun B4 B4n B4x B4r B4j => ?_
  obtain ⟨y17, h18, h⟩ := of_bind h
  refine gh_k (wk [0, 1, 2, 7, 8] [pI (.arg 0) .fz]) ?_
  rw [e_loop]
  refine impl_place_impl_Span_uint64_v2f107.l0_walk cs0 o0 l0 hv0 a1 0 (l0.length : Int) _ h18 _ ?_
  refine B4x _ ?_
  refine hJ3 _ ?_
  refine sr_k fun J19 hJ19 => ?_
  simp +decide only [Nat.reduceAdd, Nat.reduceMul, Int.reduceToNat, ak]
  refine hJ19 _ ?_
  obtain rfl := Option.some.inj h
  refine hKr _ ⟨_, rfl, [], _, rfl, rfl, ?_⟩
  first | rfl | (simp only [reduceCtorEq, Nat.reduceEqDiff, ak, akF]; done) | (simp [reduceCtorEq, Nat.reduceEqDiff, ak, akF] <;> omega)
/-! ### impl.add: function 68 -/
def C68_l0 : AC := .seq (.seq (.ga (.regD (.first (.op none (.mv 22 (.tmp 5))) (.first (.op none (.mv 23 (.tmp 0))) (.first (.op none (.len 24 (.tmp 23))) (.first (.op none (.bin 25 .lss (.tmp 22) (.tmp 24))) (.first (.op none (.mv 26 (.tmp 25))) (.first (.op (some (26, true)) (.mv 27 (.tmp 0))) (.first (.op (some (26, true)) (.mv 28 (.tmp 5))) (.first (.op (some (26, true)) (.iaddr 29 2 (.tmp 27) (.tmp 28))) (.first (.op (some (26, true)) (.faddr 30 0 (.tmp 29))) (.first (.op (some (26, true)) (.load 31 false 1 (.tmp 30))) (.first (.op (some (26, true)) (.faddr 32 1 (.tmp 3))) (.first (.op (some (26, true)) (.load 33 false 1 (.tmp 32))) (.first (.op (some (26, true)) (.bin 34 .leq (.tmp 31) (.tmp 33))) (.first (.op none (.pick 35 (.tmp 26) (.tmp 34) (.const (.bool false)))) (.done))))))))))))))) [0, 3, 5, 6, 35])) (.cond (.tmp 35) (.skip) (.gh (.exit 0)))) (.block 1 (.seq (.regD (.first (.op none (.faddr 36 0 (.tmp 3))) (.first (.op none (.load 37 false 1 (.tmp 36))) (.first (.op none (.mv 38 (.tmp 0))) (.first (.op none (.mv 39 (.tmp 5))) (.first (.op none (.iaddr 40 2 (.tmp 38) (.tmp 39))) (.first (.op none (.faddr 41 0 (.tmp 40))) (.first (.op none (.load 42 false 1 (.tmp 41))) (.first (.op none (.mm 43 false [.tmp 37, .tmp 42])) (.first (.op none (.faddr 44 1 (.tmp 3))) (.first (.op none (.load 45 false 1 (.tmp 44))) (.first (.op none (.mv 46 (.tmp 0))) (.first (.op none (.mv 47 (.tmp 5))) (.first (.op none (.iaddr 48 2 (.tmp 46) (.tmp 47))) (.first (.op none (.faddr 49 1 (.tmp 48))) (.first (.op none (.load 50 false 1 (.tmp 49))) (.first (.op none (.mm 51 true [.tmp 45, .tmp 50])) (.first (.op none (.build 52 [.int .u64 0, .int .u64 0] [(0, 1, .tmp 43), (1, 1, .tmp 51)])) (.alt (.op none (.store 2 (.tmp 3) (.tmp 52))) none (.done) (.stop))))))))))))))))))) [0, 3, 5, 6]) (.reg [.op none (.mv 53 (.tmp 5)), .op none (.bin 54 .add (.tmp 53) (.const (.int .i64 1))), .op none (.mv 5 (.tmp 54)), .keep [0, 3, 5, 6]])))
def C68 : AC := .seq (.reg [.op none (.box 3 (.tmp 1)), .op none (.mv 4 (.const (.slice none 0 0))), .gh, .keep [0, 3]]) (.seq (.seq (.reg [.op none (.faddr 7 0 (.tmp 3)), .op none (.load 8 false 1 (.tmp 7)), .op none (.faddr 9 1 (.tmp 3)), .op none (.load 10 false 1 (.tmp 9)), .op none (.bin 11 .eql (.tmp 8) (.tmp 10)), .keep [0, 3, 11]]) (.cond (.tmp 11) (.seq (.reg [.op none (.mv 12 (.tmp 0)), .op none (.app 13 2 16 false (.const (.slice none 0 0)) (.tmp 12)), .op none (.mv 4 (.tmp 13)), .keep [4]]) (.ret)) (.skip))) (.seq (.reg [.op none (.mv 14 (.tmp 0)), .op none (.faddr 15 0 (.tmp 3)), .op none (.load 16 false 1 (.tmp 15)), .call none (some 17) 106 [.tmp 14, .tmp 16, .func 107], .op none (.mv 5 (.tmp 17)), .keep [0, 3, 5]]) (.seq (.reg [.op none (.mv 18 (.tmp 0)), .op none (.mv 19 (.tmp 5)), .op none (.slice 20 2 (.tmp 18) none (some (.tmp 19))), .op none (.app 21 2 16 false (.const (.slice none 0 0)) (.tmp 20)), .op none (.mv 6 (.tmp 21)), .keep [0, 3, 5, 6]]) (.seq (.block 0 (.gh (.loop (.ga C68_l0)))) (.seq (.reg [.op none (.mv 55 (.tmp 6)), .op none (.load 56 true 2 (.tmp 3)), .op none (.bslice 57 2 [.int .u64 0, .int .u64 0] 1 [(0, .tmp 56)]), .op none (.app 58 2 16 true (.tmp 55) (.tmp 57)), .op none (.mv 6 (.tmp 58)), .keep [0, 5, 6]]) (.seq (.reg [.op none (.mv 59 (.tmp 6)), .op none (.mv 60 (.tmp 0)), .op none (.mv 61 (.tmp 5)), .op none (.slice 62 2 (.tmp 60) (some (.tmp 61)) none), .op none (.app 63 2 16 false (.tmp 59) (.tmp 62)), .op none (.mv 4 (.tmp 63)), .keep [4]]) (.ret)))))))
def r68 : List RV := [.tmp 4]
theorem k68 : compC Try.prog 64 C68 (Try.f68.body.getD .skip) = some C68.erase := by kernel_rfl
theorem q68 : rvsOf Try.prog Try.f68.results.toList = some r68 := by kernel_rfl
def impl_add.l0 (l0 : List S31) (x0_3 : (List S31)) (x0_0 : Int) (x0_1 : Int) (x0_2 : Int) : Option (Int × Int × Int) := ((if x0_0 < (l0.length : Int) then (if 0 ≤ x0_0 ∧ x0_0 < (l0.length : Int) then (some (decide ((rd z31 l0 x0_0).f0 ≤ x0_2))) else none) else (some false)) >>= fun (j27 : Bool) => (if j27 = true then (if 0 ≤ x0_0 ∧ x0_0 < (l0.length : Int) then (impl_add.l0 l0 x0_3 (IntKind.i64.wrap (x0_0 + 1)) (if ((rd z31 l0 x0_0).f0) < x0_1 then (rd z31 l0 x0_0).f0 else x0_1) (if ((rd z31 l0 x0_0).f1) > x0_2 then (rd z31 l0 x0_0).f1 else x0_2)) else none) else (some (x0_0, x0_1, x0_2))))
  partial_fixpoint
def impl_add.f (l0 : List S31) (a1_0 : Int) (a1_1 : Int) : Option (List S31) := (if a1_0 = a1_1 then (if (0 + l0.length) * 16 ≤ 140737488355328 then (some l0) else none) else (impl_place_impl_Span_uint64_v2f107.f l0 a1_0 >>= fun t11 => (if 0 ≤ t11 ∧ t11 ≤ (l0.length : Int) then (if (0 + (t11.toNat - 0)) * 16 ≤ 140737488355328 then (impl_add.l0 l0 (List.take t11.toNat l0) t11 a1_0 a1_1 >>= fun (y45 : (Int × Int × Int)) => (if (((List.take t11.toNat l0).length) + 1) * 16 ≤ 140737488355328 then (if 0 ≤ y45.1 ∧ y45.1 ≤ (l0.length : Int) then (if ((((List.take t11.toNat l0).length) + 1) + (l0.length - y45.1.toNat)) * 16 ≤ 140737488355328 then (some (((List.take t11.toNat l0) ++ ([(⟨y45.2.1, y45.2.2⟩ : S31)] : List S31)) ++ (List.drop y45.1.toNat l0))) else none) else none) else none)) else none) else none)))
def impl_add.l0_M (cs0 : List Cell) (o0 : Nat) (l0 : List S31) (hv0 : Vw c31 2 cs0 o0 l0) (x0_3 : (List S31)) (x0_0 : Int) (x0_1 : Int) (x0_2 : Int) (y : (Int × Int × Int)) : Prop := ∀ (K : AE → St → Prop), (K (.exit 0) ⟨[(0, .c (.ref (.arg 0) [] o0 l0.length)), (3, .c (.ptr (.tmp 3 0) [] 0)), (5, .c (.sc (.int .i64 y.1))), (6, .c (.ref (.tmp 21 0) [] 0 x0_3.length))], [(.arg 0, ⟨.fz, 2, cs0⟩), (.tmp 3 0, ⟨.box, 0, [.sc (.int .u64 y.2.1), .sc (.int .u64 y.2.2)]⟩), (.tmp 21 0, ⟨.lst, 2, encL c31 x0_3⟩)], [], []⟩) → loopS Try.prog 64 (.ga C68_l0) K ⟨[(0, .c (.ref (.arg 0) [] o0 l0.length)), (3, .c (.ptr (.tmp 3 0) [] 0)), (5, .c (.sc (.int .i64 x0_0))), (6, .c (.ref (.tmp 21 0) [] 0 x0_3.length))], [(.arg 0, ⟨.fz, 2, cs0⟩), (.tmp 3 0, ⟨.box, 0, [.sc (.int .u64 x0_1), .sc (.int .u64 x0_2)]⟩), (.tmp 21 0, ⟨.lst, 2, encL c31 x0_3⟩)], [], []⟩
theorem impl_add.l0_walk (cs0 : List Cell) (o0 : Nat) (l0 : List S31) (hv0 : Vw c31 2 cs0 o0 l0) (x0_3 : (List S31)) (x0_0 : Int) (x0_1 : Int) (x0_2 : Int) (y : (Int × Int × Int)) (h : impl_add.l0 l0 x0_3 x0_0 x0_1 x0_2 = some y) : impl_add.l0_M cs0 o0 l0 hv0 x0_3 x0_0 x0_1 x0_2 y := by
  refine impl_add.l0.partial_correctness l0 x0_3 (motive := fun x0_0 x0_1 x0_2 y => impl_add.l0_M cs0 o0 l0 hv0 x0_3 x0_0 x0_1 x0_2 y) ?_ x0_0 x0_1 x0_2 y h
  clear h
  unfold impl_add.l0_M
  intro rec ih x0_0 x0_1 x0_2 y h K hx0
  refine loop_unroll (ga_k fun G0 G0n G0r G0x => ?_)
  unfold C68_l0
  refine seq_k fun J26 hJ26 => ?_
  obtain ⟨j27, h28, hn⟩ := of_bind h
  refine seq_j (fun st => st = ⟨[(0, .c (.ref (.arg 0) [] o0 l0.length)), (3, .c (.ptr (.tmp 3 0) [] 0)), (5, .c (.sc (.int .i64 x0_0))), (6, .c (.ref (.tmp 21 0) [] 0 x0_3.length)), (35, .c (.sc (.bool j27)))], [(.arg 0, ⟨.fz, 2, cs0⟩), (.tmp 3 0, ⟨.box, 0, [.sc (.int .u64 x0_1), .sc (.int .u64 x0_2)]⟩), (.tmp 21 0, ⟨.lst, 2, encL c31 x0_3⟩)], [], []⟩) (fun J29 hJ29 => ?_) ?_
  · replace h := h28; clear hn
    refine ga_k fun G30 G30n G30r G30x => ?_
    refine regD_k ?_
    simp +decide only [Nat.reduceAdd, Nat.reduceMul, Int.reduceToNat, ak]
    by_cases c31 : x0_0 < (l0.length : Int)
    · rw [if_pos c31] at h
      have e32 : decide (x0_0 < (l0.length : Int)) = true := decide_eq_true c31
      obtain ⟨b33, h⟩ := of_guard h
      have g34 : o0 + x0_0.toNat * 2 + 0 ≤ (cs0).length := (hv0.len_le b33.1 b33.2 (by decide))
      have g35 : (cs0)[o0 + x0_0.toNat * 2 + 0]? = some (.sc (.int .u64 ((rd z31 l0 x0_0).f0))) := hv0.get z31 0 b33.1 b33.2 (by decide)
      simp +decide only [Nat.reduceAdd, Nat.reduceMul, Int.reduceToNat, ak, e32, b33, g34, g35]
      obtain rfl := Option.some.inj h
      refine G30n _ _ (wk [0, 3, 5, 6, 35] [pI (.arg 0) .fz, pI (.tmp 3 0) .box, pI (.tmp 21 0) .lst] (h0 := by first | rfl | simp +decide only [ak, akF, b33, e32]) (h := by first | rfl | (simp +decide only [ak, akF, b33, e32]; done) | (simp +decide [ak, akF, b33, e32] <;> omega))) (hJ29 _ rfl)
    · rw [if_neg c31] at h
      have e36 : decide (x0_0 < (l0.length : Int)) = false := decide_eq_false c31
      simp +decide only [Nat.reduceAdd, Nat.reduceMul, Int.reduceToNat, ak, e36]
      obtain rfl := Option.some.inj h
      refine G30n _ _ (wk [0, 3, 5, 6, 35] [pI (.arg 0) .fz, pI (.tmp 3 0) .box, pI (.tmp 21 0) .lst] (h0 := by first | rfl | simp +decide only [ak, akF, e36]) (h := by first | rfl | (simp +decide only [ak, akF, e36]; done) | (simp +decide [ak, akF, e36] <;> omega))) (hJ29 _ rfl)
  · replace h := hn; clear hn h28
    rintro _ rfl
    refine cond_k (b := j27) rfl (fun c37 => ?_) (fun c37 => ?_)
    · rw [if_pos c37] at h
      refine hJ26 _ ?_
      refine block_k fun B38 B38n B38x B38r B38j => ?_
      refine sd_k fun J39 hJ39 => ?_
      obtain ⟨b40, h⟩ := of_guard h
      have g41 : o0 + x0_0.toNat * 2 + 0 ≤ (cs0).length := (hv0.len_le b40.1 b40.2 (by decide))
      have g42 : (cs0)[o0 + x0_0.toNat * 2 + 0]? = some (.sc (.int .u64 ((rd z31 l0 x0_0).f0))) := hv0.get z31 0 b40.1 b40.2 (by decide)
      have g43 : o0 + x0_0.toNat * 2 + 1 ≤ (cs0).length := (hv0.len_le b40.1 b40.2 (by decide))
      have g44 : (cs0)[o0 + x0_0.toNat * 2 + 1]? = some (.sc (.int .u64 ((rd z31 l0 x0_0).f1))) := hv0.get z31 1 b40.1 b40.2 (by decide)
      simp +decide only [Nat.reduceAdd, Nat.reduceMul, Int.reduceToNat, ak, b40, g41, g42, mmF, mm2, scv, List.foldl, g43, g44]
      refine alt_e ?_
      · simp +decide only [Nat.reduceAdd, Nat.reduceMul, Int.reduceToNat, ak]
        refine hJ39 _ ?_
        refine reg_k ?_
        simp +decide only [Nat.reduceAdd, Nat.reduceMul, Int.reduceToNat, ak]
        refine B38n _ ?_
        refine G0n _ _ (wk [0, 3, 5, 6] [pI (.arg 0) .fz, pI (.tmp 3 0) .box, pI (.tmp 21 0) .lst]) (ih _ _ _ _ h K hx0)
    · rw [if_neg (Bool.eq_false_iff.1 c37)] at h
      obtain rfl := Option.some.inj h
      refine gh_k (wk [0, 3, 5, 6] [pI (.arg 0) .fz, pI (.tmp 3 0) .box, pI (.tmp 21 0) .lst]) ?_
      refine G0x _ _ ?_
      exact hx0
theorem impl_add.tri (cs0 : List Cell) (o0 : Nat) (l0 : List S31) (hv0 : Vw c31 2 cs0 o0 l0) (a1_0 : Int) (a1_1 : Int) (r : (List S31)) (h : impl_add.f l0 a1_0 a1_1 = some r) : Tri Try.prog 68 [.c (.ref (.arg 0) [] o0 l0.length), .g [.sc (.int .u64 a1_0), .sc (.int .u64 a1_1)]] [(.arg 0, ⟨.fz, 2, cs0⟩)] (fun o => o = ⟨.c (.ref (.res 0) [] 0 r.length), [(.arg 0, ⟨.fz, 2, cs0⟩), (.res 0, ⟨.lst, 2, encL c31 r⟩)], [], []⟩) := by
  refine tri_of_body (ac := C68) (xs := r68) Try.func68 (show Try.f68.body = some (Try.f68.body.getD .skip) from rfl) k68 q68 (Nat.le_of_ble_eq_true rfl) ?_
  refine body_of fun K hKn hKr => ?_
  unfold impl_add.f at h
  unfold C68
  simp only [initT, Nat.reduceAdd]
  refine sr_k fun J1 hJ1 => ?_
  simp +decide only [Nat.reduceAdd, Nat.reduceMul, Int.reduceToNat, ak]
  refine gho_k (Weak.nm' 4 (.tmp 4 20) 2 (encL c31 ([] : List S31)) rfl rfl rfl) ?_
  simp +decide only [Nat.reduceAdd, Nat.reduceMul, Int.reduceToNat, ak]
  refine hJ1 _ ?_
  refine seq_k fun J2 hJ2 => ?_
  refine sr_k fun J3 hJ3 => ?_
  simp +decide only [Nat.reduceAdd, Nat.reduceMul, Int.reduceToNat, ak]
  refine hJ3 _ ?_
  refine cond_k (b := decide (a1_0 = a1_1)) rfl (fun c4 => ?_) (fun c4 => ?_)
  · replace c4 := of_decide_eq_true c4; rw [if_pos c4] at h
    refine sr_k fun J5 hJ5 => ?_
    have g6 : (List.drop o0 (cs0)).take (l0.length * 2) = encL c31 l0 := by simpa using hv0.all
    have g7 : (encL c31 l0).all isSc = true := encL_all (fun _ => rfl) _
    obtain ⟨b8, h⟩ := of_guard h
    have g9 : appLim 0 l0.length 16 := ⟨b8, by have := b8; omega⟩
    simp +decide only [Nat.reduceAdd, Nat.reduceMul, Int.reduceToNat, ak, g6, g7, g9]
    refine hJ5 _ ?_
    obtain rfl := Option.some.inj h
    refine hKr _ ⟨_, rfl, [⟨(.tmp 13 0), [], none, .lst⟩], _, rfl, rfl, ?_⟩
    first | rfl | (simp only [reduceCtorEq, Nat.reduceEqDiff, ak, akF, b8]; done) | (simp [reduceCtorEq, Nat.reduceEqDiff, ak, akF, b8] <;> omega)
  · replace c4 := of_decide_eq_false c4; rw [if_neg c4] at h
    refine hJ2 _ ?_
    refine sr_k fun J10 hJ10 => ?_
    simp +decide only [Nat.reduceAdd, Nat.reduceMul, Int.reduceToNat, ak]
    obtain ⟨t11, h12, h⟩ := of_bind h
    refine call_m [(.arg 0, ⟨(.arg 0), [], none, .fz⟩)] (s0 := [(.arg 0, ⟨.fz, 2, cs0⟩)]) (by intro t ht; cases ht; decide) rfl rfl (by first | rfl | simp only [reduceCtorEq, Nat.reduceEqDiff, ak, akF]) (impl_place_impl_Span_uint64_v2f107.tri (cs0) o0 l0 hv0 a1_0 _ h12) (by first | rfl | simp only [reduceCtorEq, Nat.reduceEqDiff, ak, akF]) (by simp [bkOk2, memK]) (fun hl12 => ?_)
    refine call_st (s4 := [(.arg 0, ⟨.fz, 2, cs0⟩), (.tmp 3 0, ⟨.box, 0, [.sc (.int .u64 a1_0), .sc (.int .u64 a1_1)]⟩), (.tmp 4 20, ⟨.lst, 2, encL c31 ([] : List S31)⟩)]) (m1' := []) (m2' := []) (v' := .c (.sc (.int .i64 t11))) (Sto.mapN_killNil _ _) (mrgL_fz (mrgL_nil' _ _ _) rfl (by first | rfl | simp only [reduceCtorEq, Nat.reduceEqDiff, ak]) rfl (by intro R hR hh; cases hR; cases hh.2)) (by rfl) (mapT_killNil _ _) (by rfl) (by rfl) (by first | rfl | simp only [reduceCtorEq, Nat.reduceEqDiff, ak, akF, Nat.zero_add, List.append_nil]) ?_
    simp +decide only [Nat.reduceAdd, Nat.reduceMul, Int.reduceToNat, ak]
    refine hJ10 _ ?_
    refine sr_k fun J14 hJ14 => ?_
    obtain ⟨b15, h⟩ := of_guard h
    have g16 : 0 ≤ t11 := (by have := b15; omega)
    have g17 : 0 ≤ t11.toNat := (by have := b15; omega)
    have g18 : t11.toNat ≤ l0.length := (by have := b15; omega)
    have g19 : (List.take t11.toNat l0).length = t11.toNat - 0 := by have := b15; have h0 : l0.length = l0.length := (by simp); simp only [List.length_drop, List.length_take] <;> omega
    have g20 : (List.drop (o0 + 0) (cs0)).take ((t11.toNat - 0) * 2) = encL c31 (List.take t11.toNat l0) := by simpa [g19] using (hv0.upto (b := t11.toNat) (by have := b15; omega)).all
    have g21 : (encL c31 (List.take t11.toNat l0)).all isSc = true := encL_all (fun _ => rfl) _
    obtain ⟨b22, h⟩ := of_guard h
    have g23 : appLim 0 (t11.toNat - 0) 16 := ⟨b22, by have := b22; omega⟩
    simp +decide only [Nat.reduceAdd, Nat.reduceMul, Int.reduceToNat, ak, g16, g17, g18, g20, g21, g23]
    refine hJ14 _ ?_
    refine seq_k fun J24 hJ24 => ?_
    refine block_k fun B25 B25n B25x B25r B25j => ?_
    obtain ⟨y45, h46, h⟩ := of_bind h
    refine gh_k (st' := ⟨[(0, .c (.ref (.arg 0) [] o0 l0.length)), (3, .c (.ptr (.tmp 3 0) [] 0)), (5, .c (.sc (.int .i64 t11))), (6, .c (.ref (.tmp 21 0) [] 0 ((List.take t11.toNat l0).length)))], [(.arg 0, ⟨.fz, 2, cs0⟩), (.tmp 3 0, ⟨.box, 0, [.sc (.int .u64 a1_0), .sc (.int .u64 a1_1)]⟩), (.tmp 21 0, ⟨.lst, 2, encL c31 (List.take t11.toNat l0)⟩)], [], []⟩) (wk [0, 3, 5, 6] [pI (.arg 0) .fz, pI (.tmp 3 0) .box, pI (.tmp 21 0) .lst] (h0 := by first | rfl | simp +decide only [ak, akF, b15, b22, g19]) (h := by first | rfl | (simp +decide only [ak, akF, b15, b22, g19]; done) | (simp +decide [ak, akF, b15, b22, g19] <;> omega))) ?_
    rw [e_loop]
    refine impl_add.l0_walk cs0 o0 l0 hv0 (List.take t11.toNat l0) t11 a1_0 a1_1 _ h46 _ ?_
    refine B25x _ ?_
    refine hJ24 _ ?_
    refine sr_k fun J47 hJ47 => ?_
    have g48 : (List.replicate 1 ([.int .u64 0, .int .u64 0] : List Value)).flatten = [.int .u64 0, .int .u64 0] := rfl
    have g49 : (⟨.lst, 2, [.sc (.int .u64 y45.2.1), .sc (.int .u64 y45.2.2)]⟩ : Root) = ⟨.lst, 2, encL c31 ([(⟨y45.2.1, y45.2.2⟩ : S31)] : List S31)⟩ := rfl
    have g50 : ([(⟨y45.2.1, y45.2.2⟩ : S31)] : List S31).length = 1 := rfl
    have g51 : (encL c31 ([(⟨y45.2.1, y45.2.2⟩ : S31)] : List S31)).length = 1 * 2 := by simp [encL_length c31_w, g19]
    have g52 : (encL c31 ([(⟨y45.2.1, y45.2.2⟩ : S31)] : List S31)).all nd = true := rfl
    obtain ⟨b53, h⟩ := of_guard h
    have g54 : appLim ((List.take t11.toNat l0).length) 1 16 := ⟨b53, by have := b53; omega⟩
    have g55 : (encL c31 (List.take t11.toNat l0)).length = ((List.take t11.toNat l0).length) * 2 := by simp [encL_length c31_w, g19]
    have g56 : encL c31 (List.take t11.toNat l0) ++ encL c31 ([(⟨y45.2.1, y45.2.2⟩ : S31)] : List S31) = encL c31 ((List.take t11.toNat l0) ++ ([(⟨y45.2.1, y45.2.2⟩ : S31)] : List S31)) := (encL_append _ _).symm
    simp +decide only [Nat.reduceAdd, Nat.reduceMul, Int.reduceToNat, ak, g48, g49, g50, g51, g52, g54, g55, g56]
    refine hJ47 _ ?_
    refine sr_k fun J57 hJ57 => ?_
    obtain ⟨b58, h⟩ := of_guard h
    have g59 : 0 ≤ y45.1 := (by have := b58; omega)
    have g60 : y45.1.toNat ≤ l0.length := (by have := b58; omega)
    have g61 : (List.drop y45.1.toNat l0).length = l0.length - y45.1.toNat := by have := b58; have h0 : l0.length = l0.length := (by simp [g19]); simp only [List.length_drop, List.length_take] <;> omega
    have g62 : (List.drop (o0 + y45.1.toNat * 2) (cs0)).take ((l0.length - y45.1.toNat) * 2) = encL c31 (List.drop y45.1.toNat l0) := by simpa [g19, g61] using (hv0.from (a := y45.1.toNat) (by have := b58; omega)).all
    have g63 : (encL c31 (List.drop y45.1.toNat l0)).all isSc = true := encL_all (fun _ => rfl) _
    obtain ⟨b64, h⟩ := of_guard h
    have g65 : appLim (((List.take t11.toNat l0).length) + 1) (l0.length - y45.1.toNat) 16 := ⟨b64, by have := b64; omega⟩
    have g66 : (encL c31 ((List.take t11.toNat l0) ++ ([(⟨y45.2.1, y45.2.2⟩ : S31)] : List S31))).length = (((List.take t11.toNat l0).length) + 1) * 2 := by simp [encL_length c31_w, g19, g61]
    have g67 : encL c31 ((List.take t11.toNat l0) ++ ([(⟨y45.2.1, y45.2.2⟩ : S31)] : List S31)) ++ encL c31 (List.drop y45.1.toNat l0) = encL c31 (((List.take t11.toNat l0) ++ ([(⟨y45.2.1, y45.2.2⟩ : S31)] : List S31)) ++ (List.drop y45.1.toNat l0)) := (encL_append _ _).symm
    simp +decide only [Nat.reduceAdd, Nat.reduceMul, Int.reduceToNat, ak, g59, g60, Nat.le_refl, g62, g63, g65, g66, g67]
    refine hJ57 _ ?_
    obtain rfl := Option.some.inj h
    refine hKr _ ⟨_, rfl, [⟨(.tmp 21 0), [], none, .lst⟩], _, rfl, rfl, ?_⟩
    first | rfl | (simp only [reduceCtorEq, Nat.reduceEqDiff, ak, akF, b15, b22, b53, b58, b64, g19, g61]; done) | (simp [reduceCtorEq, Nat.reduceEqDiff, ak, akF, b15, b22, b53, b58, b64, g19, g61] <;> omega)
/-! ### impl.limited: function 67 -/
def C67 : AC := .seq (.reg [.op none (.mv 2 (.const (.slice none 0 0))), .gh, .op none (.mv 3 (.const (.int .i64 0))), .keep [0]]) (.seq (.seq (.reg [.op none (.mv 4 (.tmp 0)), .op none (.len 5 (.tmp 4)), .op none (.bin 6 .gtr (.tmp 5) (.const (.int .i64 1000))), .keep [0, 6]]) (.cond (.tmp 6) (.seq (.reg [.op none (.mv 2 (.const (.slice none 0 0))), .gh, .op none (.mv 3 (.const (.int .i64 5))), .keep [2, 3]]) (.ret)) (.skip))) (.seq (.reg [.op none (.mv 7 (.tmp 0)), .op none (.mv 2 (.tmp 7)), .op none (.mv 3 (.const (.int .i64 0))), .keep [2, 3]]) (.ret)))
def r67 : List RV := [.tmp 2, .tmp 3]
theorem k67 : compC Try.prog 8 C67 (Try.f67.body.getD .skip) = some C67.erase := by kernel_rfl
theorem q67 : rvsOf Try.prog Try.f67.results.toList = some r67 := by kernel_rfl
def impl_limited.f (l0 : List S31) : Option ((Option (List S31)) × Int) := (if (l0.length : Int) > 1000 then (some ((some ([] : List S31)), 5)) else (some (none, 0)))
theorem impl_limited.tri0 (cs0 : List Cell) (o0 : Nat) (l0 : List S31) (hv0 : Vw c31 2 cs0 o0 l0) (r : (Option (List S31)) × Int) (h : impl_limited.f l0 = some r) (hp : r.1 = none) : Tri Try.prog 67 [.c (.ref (.arg 0) [] o0 l0.length)] [(.arg 0, ⟨.fz, 2, cs0⟩)] (fun o => o = ⟨.tup [(false, [.ref (.arg 0) [] o0 l0.length]), (false, [.sc (.int .i64 r.2)])], [(.arg 0, ⟨.fz, 2, cs0⟩)], [], []⟩) := by
  refine tri_of_body (ac := C67) (xs := r67) Try.func67 (show Try.f67.body = some (Try.f67.body.getD .skip) from rfl) k67 q67 (Nat.le_of_ble_eq_true rfl) ?_
  refine body_of fun K hKn hKr => ?_
  unfold impl_limited.f at h
  unfold C67
  simp only [initT, Nat.reduceAdd]
  refine sr_k fun J1 hJ1 => ?_
  simp +decide only [Nat.reduceAdd, Nat.reduceMul, Int.reduceToNat, ak]
  refine gho_k (Weak.nm' 2 (.tmp 2 20) 2 (encL c31 ([] : List S31)) rfl rfl rfl) ?_
  simp +decide only [Nat.reduceAdd, Nat.reduceMul, Int.reduceToNat, ak]
  refine hJ1 _ ?_
  refine seq_k fun J2 hJ2 => ?_
  refine sr_k fun J3 hJ3 => ?_
  simp +decide only [Nat.reduceAdd, Nat.reduceMul, Int.reduceToNat, ak]
  refine hJ3 _ ?_
  refine cond_k (b := decide ((l0.length : Int) > 1000)) rfl (fun c4 => ?_) (fun c4 => ?_)
  · replace c4 := of_decide_eq_true c4; rw [if_pos c4] at h
    refine sr_k fun J5 hJ5 => ?_
    simp +decide only [Nat.reduceAdd, Nat.reduceMul, Int.reduceToNat, ak]
    refine gho_k ((Weak.drop [.tmp 2 20]).trans (Weak.nm' 2 (.tmp 2 20) 2 (encL c31 ([] : List S31)) rfl rfl rfl)) ?_
    simp +decide only [Nat.reduceAdd, Nat.reduceMul, Int.reduceToNat, ak]
    refine hJ5 _ ?_
    obtain rfl := Option.some.inj h
    exact absurd hp (by simp)
  · replace c4 := of_decide_eq_false c4; rw [if_neg c4] at h
    refine hJ2 _ ?_
    refine sr_k fun J6 hJ6 => ?_
    simp +decide only [Nat.reduceAdd, Nat.reduceMul, Int.reduceToNat, ak]
    refine hJ6 _ ?_
    obtain rfl := Option.some.inj h
    refine hKr _ ⟨_, rfl, [], _, rfl, rfl, ?_⟩
    first | rfl | (simp only [reduceCtorEq, Nat.reduceEqDiff, ak, akF]; done) | (simp [reduceCtorEq, Nat.reduceEqDiff, ak, akF] <;> omega)
theorem impl_limited.tri1 (cs0 : List Cell) (o0 : Nat) (l0 : List S31) (hv0 : Vw c31 2 cs0 o0 l0) (r : (Option (List S31)) × Int) (h : impl_limited.f l0 = some r) (p : (List S31)) (hp : r.1 = some p) : Tri Try.prog 67 [.c (.ref (.arg 0) [] o0 l0.length)] [(.arg 0, ⟨.fz, 2, cs0⟩)] (fun o => o = ⟨.tup [(false, [.ref (.res 0) [] 0 p.length]), (false, [.sc (.int .i64 r.2)])], [(.arg 0, ⟨.fz, 2, cs0⟩), (.res 0, ⟨.lst, 2, encL c31 p⟩)], [], []⟩) := by
  refine tri_of_body (ac := C67) (xs := r67) Try.func67 (show Try.f67.body = some (Try.f67.body.getD .skip) from rfl) k67 q67 (Nat.le_of_ble_eq_true rfl) ?_
  refine body_of fun K hKn hKr => ?_
  unfold impl_limited.f at h
  unfold C67
  simp only [initT, Nat.reduceAdd]
  refine sr_k fun J1 hJ1 => ?_
  simp +decide only [Nat.reduceAdd, Nat.reduceMul, Int.reduceToNat, ak]
  refine gho_k (Weak.nm' 2 (.tmp 2 20) 2 (encL c31 ([] : List S31)) rfl rfl rfl) ?_
  simp +decide only [Nat.reduceAdd, Nat.reduceMul, Int.reduceToNat, ak]
  refine hJ1 _ ?_
  refine seq_k fun J2 hJ2 => ?_
  refine sr_k fun J3 hJ3 => ?_
  simp +decide only [Nat.reduceAdd, Nat.reduceMul, Int.reduceToNat, ak]
  refine hJ3 _ ?_
  refine cond_k (b := decide ((l0.length : Int) > 1000)) rfl (fun c4 => ?_) (fun c4 => ?_)
  · replace c4 := of_decide_eq_true c4; rw [if_pos c4] at h
    refine sr_k fun J5 hJ5 => ?_
    simp +decide only [Nat.reduceAdd, Nat.reduceMul, Int.reduceToNat, ak]
    refine gho_k ((Weak.drop [.tmp 2 20]).trans (Weak.nm' 2 (.tmp 2 20) 2 (encL c31 ([] : List S31)) rfl rfl rfl)) ?_
    simp +decide only [Nat.reduceAdd, Nat.reduceMul, Int.reduceToNat, ak]
    refine hJ5 _ ?_
    obtain rfl := Option.some.inj h
    obtain rfl := Option.some.inj hp
    refine hKr _ ⟨_, rfl, [⟨(.tmp 2 20), [], none, .lst⟩], _, rfl, rfl, ?_⟩
    first | rfl | (simp only [reduceCtorEq, Nat.reduceEqDiff, ak, akF]; done) | (simp [reduceCtorEq, Nat.reduceEqDiff, ak, akF] <;> omega)
  · replace c4 := of_decide_eq_false c4; rw [if_neg c4] at h
    refine hJ2 _ ?_
    refine sr_k fun J6 hJ6 => ?_
    simp +decide only [Nat.reduceAdd, Nat.reduceMul, Int.reduceToNat, ak]
    refine hJ6 _ ?_
    obtain rfl := Option.some.inj h
    exact absurd hp (by simp)
/-! ### impl.SpanAdd: function 15 -/
def C15 : AC := .seq (.reg [.op none (.box 3 (.tmp 1)), .op none (.mv 4 (.const (.slice none 0 0))), .gh, .op none (.mv 5 (.const (.int .i64 0))), .keep [0, 3]]) (.seq (.seq (.reg [.op none (.mv 6 (.tmp 0)), .op none (.load 7 true 2 (.tmp 3)), .call none (some 8) 66 [.tmp 6, .tmp 7], .op none (.un 9 .not (.tmp 8)), .keep [0, 3, 9]]) (.cond (.tmp 9) (.seq (.reg [.op none (.mv 4 (.const (.slice none 0 0))), .gh, .op none (.mv 5 (.const (.int .i64 1))), .keep [4, 5]]) (.ret)) (.skip))) (.seq (.reg [.op none (.mv 10 (.tmp 0)), .op none (.load 11 true 2 (.tmp 3)), .call none (some 12) 68 [.tmp 10, .tmp 11], .call none (some 13) 67 [.tmp 12], .op none (.extr 14 (.tmp 13) 0), .op none (.extr 15 (.tmp 13) 1), .op none (.mv 4 (.tmp 14)), .op none (.mv 5 (.tmp 15)), .keep [4, 5]]) (.ret)))
def r15 : List RV := [.tmp 4, .tmp 5]
theorem k15 : compC Try.prog 16 C15 (Try.f15.body.getD .skip) = some C15.erase := by kernel_rfl
theorem q15 : rvsOf Try.prog Try.f15.results.toList = some r15 := by kernel_rfl
def impl_SpanAdd.f (l0 : List S31) (a1_0 : Int) (a1_1 : Int) : Option ((List S31) × Int) := (impl_validSpans.f l0 a1_0 a1_1 >>= fun t4 => (if (!t4) = true then (some (([] : List S31), 1)) else (impl_add.f l0 a1_0 a1_1 >>= fun t10 => (impl_limited.f t10 >>= fun t13 => (match t13.1 with | none => (some (t10, t13.2)) | some p17 => (some (p17, t13.2)))))))
theorem impl_SpanAdd.tri (cs0 : List Cell) (o0 : Nat) (l0 : List S31) (hv0 : Vw c31 2 cs0 o0 l0) (a1_0 : Int) (a1_1 : Int) (r : (List S31) × Int) (h : impl_SpanAdd.f l0 a1_0 a1_1 = some r) : Tri Try.prog 15 [.c (.ref (.arg 0) [] o0 l0.length), .g [.sc (.int .u64 a1_0), .sc (.int .u64 a1_1)]] [(.arg 0, ⟨.fz, 2, cs0⟩)] (fun o => o = ⟨.tup [(false, [.ref (.res 0) [] 0 r.1.length]), (false, [.sc (.int .i64 r.2)])], [(.arg 0, ⟨.fz, 2, cs0⟩), (.res 0, ⟨.lst, 2, encL c31 r.1⟩)], [], []⟩) := by
  refine tri_of_body (ac := C15) (xs := r15) Try.func15 (show Try.f15.body = some (Try.f15.body.getD .skip) from rfl) k15 q15 (Nat.le_of_ble_eq_true rfl) ?_
  refine body_of fun K hKn hKr => ?_
  unfold impl_SpanAdd.f at h
  unfold C15
  simp only [initT, Nat.reduceAdd]
  refine sr_k fun J1 hJ1 => ?_
  simp +decide only [Nat.reduceAdd, Nat.reduceMul, Int.reduceToNat, ak]
  refine gho_k (Weak.nm' 4 (.tmp 4 20) 2 (encL c31 ([] : List S31)) rfl rfl rfl) ?_
  simp +decide only [Nat.reduceAdd, Nat.reduceMul, Int.reduceToNat, ak]
  refine hJ1 _ ?_
  refine seq_k fun J2 hJ2 => ?_
  refine sr_k fun J3 hJ3 => ?_
  simp +decide only [Nat.reduceAdd, Nat.reduceMul, Int.reduceToNat, ak]
  obtain ⟨t4, h5, h⟩ := of_bind h
  refine call_m [(.arg 0, ⟨(.arg 0), [], none, .fz⟩)] (s0 := [(.arg 0, ⟨.fz, 2, cs0⟩)]) (by intro t ht; cases ht; decide) rfl rfl (by first | rfl | simp only [reduceCtorEq, Nat.reduceEqDiff, ak, akF]) (impl_validSpans.tri (cs0) o0 l0 hv0 a1_0 a1_1 _ h5) (by first | rfl | simp only [reduceCtorEq, Nat.reduceEqDiff, ak, akF]) (by simp [bkOk2, memK]) (fun hl5 => ?_)
  refine call_st (s4 := [(.arg 0, ⟨.fz, 2, cs0⟩), (.tmp 3 0, ⟨.box, 0, [.sc (.int .u64 a1_0), .sc (.int .u64 a1_1)]⟩), (.tmp 4 20, ⟨.lst, 2, encL c31 ([] : List S31)⟩)]) (m1' := []) (m2' := []) (v' := .c (.sc (.bool t4))) (Sto.mapN_killNil _ _) (mrgL_fz (mrgL_nil' _ _ _) rfl (by first | rfl | simp only [reduceCtorEq, Nat.reduceEqDiff, ak]) rfl (by intro R hR hh; cases hR; cases hh.2)) (by rfl) (mapT_killNil _ _) (by rfl) (by rfl) (by first | rfl | simp only [reduceCtorEq, Nat.reduceEqDiff, ak, akF, Nat.zero_add, List.append_nil]) ?_
  simp +decide only [Nat.reduceAdd, Nat.reduceMul, Int.reduceToNat, ak]
  refine hJ3 _ ?_
  refine cond_k (b := !t4) rfl (fun c7 => ?_) (fun c7 => ?_)
  · rw [if_pos c7] at h
    refine sr_k fun J8 hJ8 => ?_
    simp +decide only [Nat.reduceAdd, Nat.reduceMul, Int.reduceToNat, ak]
    refine gho_k ((Weak.drop [.tmp 4 20]).trans (Weak.nm' 4 (.tmp 4 20) 2 (encL c31 ([] : List S31)) rfl rfl rfl)) ?_
    simp +decide only [Nat.reduceAdd, Nat.reduceMul, Int.reduceToNat, ak]
    refine hJ8 _ ?_
    obtain rfl := Option.some.inj h
    refine hKr _ ⟨_, rfl, [⟨(.tmp 4 20), [], none, .lst⟩], _, rfl, rfl, ?_⟩
    first | rfl | (simp only [reduceCtorEq, Nat.reduceEqDiff, ak, akF]; done) | (simp [reduceCtorEq, Nat.reduceEqDiff, ak, akF] <;> omega)
  · rw [if_neg (Bool.eq_false_iff.1 c7)] at h
    refine hJ2 _ ?_
    refine sr_k fun J9 hJ9 => ?_
    simp +decide only [Nat.reduceAdd, Nat.reduceMul, Int.reduceToNat, ak]
    obtain ⟨t10, h11, h⟩ := of_bind h
    refine call_m [(.arg 0, ⟨(.arg 0), [], none, .fz⟩)] (s0 := [(.arg 0, ⟨.fz, 2, cs0⟩)]) (by intro t ht; cases ht; decide) rfl rfl (by first | rfl | simp only [reduceCtorEq, Nat.reduceEqDiff, ak, akF]) (impl_add.tri (cs0) o0 l0 hv0 a1_0 a1_1 _ h11) (by first | rfl | simp only [reduceCtorEq, Nat.reduceEqDiff, ak, akF]) (by simp [bkOk2, memK]) (fun hl11 => ?_)
    refine call_st (s4 := [(.arg 0, ⟨.fz, 2, cs0⟩), (.tmp 3 0, ⟨.box, 0, [.sc (.int .u64 a1_0), .sc (.int .u64 a1_1)]⟩), (.tmp 4 20, ⟨.lst, 2, encL c31 ([] : List S31)⟩), (.tmp 12 0, ⟨.lst, 2, encL c31 t10⟩)]) (m1' := []) (m2' := []) (v' := .c (.ref (.tmp 12 0) [] 0 t10.length)) (Sto.mapN_killNil _ _) (mrgL_fz (mrgL_nil' _ _ _) rfl (by first | rfl | simp only [reduceCtorEq, Nat.reduceEqDiff, ak]) rfl (by intro R hR hh; cases hR; cases hh.2)) (by rfl) (mapT_killNil _ _) (by rfl) (by rfl) (by first | rfl | simp only [reduceCtorEq, Nat.reduceEqDiff, ak, akF, Nat.zero_add, List.append_nil]) ?_
    simp +decide only [Nat.reduceAdd, Nat.reduceMul, Int.reduceToNat, ak]
    obtain ⟨t13, h14, h⟩ := of_bind h
    rcases hpo : t13.1 with _ | p17
    · have hpp15 := hpo
      rw [hpo] at h; dsimp only at h
      refine call_m [(.arg 0, ⟨(.tmp 12 0), [], none, .fz⟩)] (s0 := [(.arg 0, ⟨.fz, 2, encL c31 t10⟩)]) (by intro t ht; cases ht; decide) rfl rfl (by first | rfl | simp only [reduceCtorEq, Nat.reduceEqDiff, ak, akF]) (impl_limited.tri0 (encL c31 t10) 0 t10 (Vw.whole c31_w t10) _ h14 hpp15) (by first | rfl | simp only [reduceCtorEq, Nat.reduceEqDiff, ak, akF]) (by simp [bkOk2, memK]) (fun hl15 => ?_)
      refine call_st (s4 := [(.arg 0, ⟨.fz, 2, cs0⟩), (.tmp 3 0, ⟨.box, 0, [.sc (.int .u64 a1_0), .sc (.int .u64 a1_1)]⟩), (.tmp 4 20, ⟨.lst, 2, encL c31 ([] : List S31)⟩), (.tmp 12 0, ⟨.lst, 2, encL c31 t10⟩)]) (m1' := []) (m2' := []) (v' := .tup [(false, [.ref (.tmp 12 0) [] 0 t10.length]), (false, [.sc (.int .i64 t13.2)])]) (Sto.mapN_killNil _ _) (mrgL_fz (mrgL_nil' _ _ _) rfl (by first | rfl | simp only [reduceCtorEq, Nat.reduceEqDiff, ak]) rfl (by intro R hR hh; cases hR; cases hh.2)) (by rfl) (mapT_killNil _ _) (by rfl) (by rfl) (by first | rfl | simp only [reduceCtorEq, Nat.reduceEqDiff, ak, akF, Nat.zero_add, List.append_nil]) ?_
      simp +decide only [Nat.reduceAdd, Nat.reduceMul, Int.reduceToNat, ak]
      refine hJ9 _ ?_
      obtain rfl := Option.some.inj h
      refine hKr _ ⟨_, rfl, [⟨(.tmp 12 0), [], none, .lst⟩], _, rfl, rfl, ?_⟩
      first | rfl | (simp only [reduceCtorEq, Nat.reduceEqDiff, ak, akF]; done) | (simp [reduceCtorEq, Nat.reduceEqDiff, ak, akF] <;> omega)
    · have hpp17 := hpo
      rw [hpo] at h; dsimp only at h
      refine call_m [(.arg 0, ⟨(.tmp 12 0), [], none, .fz⟩)] (s0 := [(.arg 0, ⟨.fz, 2, encL c31 t10⟩)]) (by intro t ht; cases ht; decide) rfl rfl (by first | rfl | simp only [reduceCtorEq, Nat.reduceEqDiff, ak, akF]) (impl_limited.tri1 (encL c31 t10) 0 t10 (Vw.whole c31_w t10) _ h14 _ hpp17) (by first | rfl | simp only [reduceCtorEq, Nat.reduceEqDiff, ak, akF]) (by simp [bkOk2, memK]) (fun hl17 => ?_)
      refine call_st (s4 := [(.arg 0, ⟨.fz, 2, cs0⟩), (.tmp 3 0, ⟨.box, 0, [.sc (.int .u64 a1_0), .sc (.int .u64 a1_1)]⟩), (.tmp 4 20, ⟨.lst, 2, encL c31 ([] : List S31)⟩), (.tmp 12 0, ⟨.lst, 2, encL c31 t10⟩), (.tmp 13 0, ⟨.lst, 2, encL c31 p17⟩)]) (m1' := []) (m2' := []) (v' := .tup [(false, [.ref (.tmp 13 0) [] 0 p17.length]), (false, [.sc (.int .i64 t13.2)])]) (Sto.mapN_killNil _ _) (mrgL_fz (mrgL_nil' _ _ _) rfl (by first | rfl | simp only [reduceCtorEq, Nat.reduceEqDiff, ak]) rfl (by intro R hR hh; cases hR; cases hh.2)) (by rfl) (mapT_killNil _ _) (by rfl) (by rfl) (by first | rfl | simp only [reduceCtorEq, Nat.reduceEqDiff, ak, akF, Nat.zero_add, List.append_nil]) ?_
      simp +decide only [Nat.reduceAdd, Nat.reduceMul, Int.reduceToNat, ak]
      refine hJ9 _ ?_
      obtain rfl := Option.some.inj h
      refine hKr _ ⟨_, rfl, [⟨(.tmp 13 0), [], none, .lst⟩], _, rfl, rfl, ?_⟩
      first | rfl | (simp only [reduceCtorEq, Nat.reduceEqDiff, ak, akF]; done) | (simp [reduceCtorEq, Nat.reduceEqDiff, ak, akF] <;> omega)
/-! ### impl.SpanCut: function 22 -/
def C22_l0 : AC := .seq (.reg [.op none (.bin 16 .lss (.tmp 15) (.tmp 14)), .keep [3, 6, 13, 14, 15, 16]]) (.seq (.cond (.tmp 16) (.skip) (.gh (.exit 0))) (.seq (.ga (.block 1 (.seq (.reg [.op none (.iaddr 17 2 (.tmp 13) (.tmp 15)), .op none (.load 18 true 2 (.tmp 17)), .op none (.alloc 8 [.int .u64 0, .int .u64 0]), .op none (.store 2 (.tmp 8) (.tmp 18)), .keep [3, 6, 8, 13, 14, 15]]) (.seq (.seq (.ga (.reg [.op none (.faddr 19 0 (.tmp 3)), .op none (.load 20 false 1 (.tmp 19)), .op none (.faddr 21 1 (.tmp 3)), .op none (.load 22 false 1 (.tmp 21)), .op none (.bin 23 .eql (.tmp 20) (.tmp 22)), .op none (.mv 24 (.tmp 23)), .op (some (24, false)) (.faddr 25 1 (.tmp 8)), .op (some (24, false)) (.load 26 false 1 (.tmp 25)), .op (some (24, false)) (.faddr 27 0 (.tmp 3)), .op (some (24, false)) (.load 28 false 1 (.tmp 27)), .op (some (24, false)) (.bin 29 .leq (.tmp 26) (.tmp 28)), .op none (.pick 30 (.tmp 24) (.const (.bool true)) (.tmp 29)), .op none (.mv 31 (.tmp 30)), .op (some (31, false)) (.faddr 32 0 (.tmp 8)), .op (some (31, false)) (.load 33 false 1 (.tmp 32)), .op (some (31, false)) (.faddr 34 1 (.tmp 3)), .op (some (31, false)) (.load 35 false 1 (.tmp 34)), .op (some (31, false)) (.bin 36 .geq (.tmp 33) (.tmp 35)), .op none (.pick 37 (.tmp 31) (.const (.bool true)) (.tmp 36)), .keep [3, 6, 8, 13, 14, 15, 37]])) (.cond (.tmp 37) (.seq (.reg [.op none (.mv 38 (.tmp 6)), .op none (.load 39 true 2 (.tmp 8)), .op none (.bslice 40 2 [.int .u64 0, .int .u64 0] 1 [(0, .tmp 39)]), .op none (.app 41 2 16 true (.tmp 38) (.tmp 40)), .op none (.mv 6 (.tmp 41)), .keep [3, 6, 13, 14, 15]]) (.exit 1)) (.skip))) (.seq (.ga (.seq (.reg [.op none (.faddr 42 0 (.tmp 8)), .op none (.load 43 false 1 (.tmp 42)), .op none (.faddr 44 0 (.tmp 3)), .op none (.load 45 false 1 (.tmp 44)), .op none (.bin 46 .lss (.tmp 43) (.tmp 45)), .keep [3, 6, 8, 13, 14, 15, 46]]) (.cond (.tmp 46) (.reg [.op none (.mv 47 (.tmp 6)), .op none (.faddr 48 0 (.tmp 8)), .op none (.load 49 false 1 (.tmp 48)), .op none (.faddr 50 0 (.tmp 3)), .op none (.load 51 false 1 (.tmp 50)), .op none (.build 52 [.int .u64 0, .int .u64 0] [(0, 1, .tmp 49), (1, 1, .tmp 51)]), .op none (.bslice 53 2 [.int .u64 0, .int .u64 0] 1 [(0, .tmp 52)]), .op none (.app 54 2 16 true (.tmp 47) (.tmp 53)), .op none (.mv 6 (.tmp 54)), .keep [3, 6, 8, 13, 14, 15]]) (.skip)))) (.seq (.reg [.op none (.faddr 55 1 (.tmp 8)), .op none (.load 56 false 1 (.tmp 55)), .op none (.faddr 57 1 (.tmp 3)), .op none (.load 58 false 1 (.tmp 57)), .op none (.bin 59 .gtr (.tmp 56) (.tmp 58)), .keep [3, 6, 8, 13, 14, 15, 59]]) (.cond (.tmp 59) (.reg [.op none (.mv 60 (.tmp 6)), .op none (.faddr 61 1 (.tmp 3)), .op none (.load 62 false 1 (.tmp 61)), .op none (.faddr 63 1 (.tmp 8)), .op none (.load 64 false 1 (.tmp 63)), .op none (.build 65 [.int .u64 0, .int .u64 0] [(0, 1, .tmp 62), (1, 1, .tmp 64)]), .op none (.bslice 66 2 [.int .u64 0, .int .u64 0] 1 [(0, .tmp 65)]), .op none (.app 67 2 16 true (.tmp 60) (.tmp 66)), .op none (.mv 6 (.tmp 67)), .keep [3, 6, 13, 14, 15]]) (.skip)))))))) (.reg [.op none (.bin 68 .add (.tmp 15) (.const (.int .i64 1))), .op none (.mv 15 (.tmp 68)), .keep [3, 6, 13, 14, 15]])))
def C22 : AC := .seq (.reg [.op none (.box 3 (.tmp 1)), .op none (.mv 4 (.const (.slice none 0 0))), .gh, .op none (.mv 5 (.const (.int .i64 0))), .keep [0, 3]]) (.seq (.seq (.reg [.op none (.mv 9 (.tmp 0)), .op none (.load 10 true 2 (.tmp 3)), .call none (some 11) 66 [.tmp 9, .tmp 10], .op none (.un 12 .not (.tmp 11)), .keep [0, 3, 12]]) (.cond (.tmp 12) (.seq (.reg [.op none (.mv 4 (.const (.slice none 0 0))), .gh, .op none (.mv 5 (.const (.int .i64 1))), .keep [4, 5]]) (.ret)) (.skip))) (.seq (.reg [.op none (.mv 6 (.const (.slice none 0 0))), .gh, .keep [0, 3, 6]]) (.seq (.seq (.reg [.op none (.mv 13 (.tmp 0)), .op none (.len 14 (.tmp 13)), .op none (.mv 15 (.const (.int .i64 0))), .keep [3, 6, 13, 14, 15]]) (.block 0 (.gh (.loop (.ga C22_l0))))) (.seq (.reg [.op none (.mv 69 (.tmp 6)), .call none (some 70) 67 [.tmp 69], .op none (.extr 71 (.tmp 70) 0), .op none (.extr 72 (.tmp 70) 1), .op none (.mv 4 (.tmp 71)), .op none (.mv 5 (.tmp 72)), .keep [4, 5]]) (.ret)))))
def r22 : List RV := [.tmp 4, .tmp 5]
theorem k22 : compC Try.prog 73 C22 (Try.f22.body.getD .skip) = some C22.erase := by kernel_rfl
theorem q22 : rvsOf Try.prog Try.f22.results.toList = some r22 := by kernel_rfl
def impl_SpanCut.l0 (l0 : List S31) (x0_0 : Int) (x0_2 : Int) (x0_3 : Int) (x0_1 : Int) (x0_4 : (List S31)) : Option (List S31) := (if x0_1 < x0_0 then ((if 0 ≤ x0_1 ∧ x0_1 < (l0.length : Int) then ((if x0_2 = x0_3 then (some true) else (if (rd z31 l0 x0_1).f1 ≤ x0_2 then (some true) else (some (decide ((rd z31 l0 x0_1).f0 ≥ x0_3))))) >>= fun (j25 : Bool) => (if j25 = true then (if (x0_4.length + 1) * 16 ≤ 140737488355328 then (some (x0_4 ++ ([(rd z31 l0 x0_1)] : List S31))) else none) else ((if (rd z31 l0 x0_1).f0 < x0_2 then (if (x0_4.length + 1) * 16 ≤ 140737488355328 then (some (x0_4 ++ ([(⟨(rd z31 l0 x0_1).f0, x0_2⟩ : S31)] : List S31))) else none) else (some x0_4)) >>= fun (j46 : (List S31)) => (if (rd z31 l0 x0_1).f1 > x0_3 then (if (j46.length + 1) * 16 ≤ 140737488355328 then (some (j46 ++ ([(⟨x0_3, (rd z31 l0 x0_1).f1⟩ : S31)] : List S31))) else none) else (some j46))))) else none) >>= fun (j16 : (List S31)) => (impl_SpanCut.l0 l0 x0_0 x0_2 x0_3 (IntKind.i64.wrap (x0_1 + 1)) j16)) else (some x0_4))
  partial_fixpoint
def impl_SpanCut.f (l0 : List S31) (a1_0 : Int) (a1_1 : Int) : Option ((List S31) × Int) := (impl_validSpans.f l0 a1_0 a1_1 >>= fun t4 => (if (!t4) = true then (some (([] : List S31), 1)) else (impl_SpanCut.l0 l0 (l0.length : Int) a1_0 a1_1 0 ([] : List S31) >>= fun (y72 : (List S31)) => (impl_limited.f y72 >>= fun t75 => (match t75.1 with | none => (some (y72, t75.2)) | some p79 => (some (p79, t75.2)))))))
def impl_SpanCut.l0_M (cs0 : List Cell) (o0 : Nat) (l0 : List S31) (hv0 : Vw c31 2 cs0 o0 l0) (x0_0 : Int) (x0_2 : Int) (x0_3 : Int) (x0_1 : Int) (x0_4 : (List S31)) (y : (List S31)) : Prop := ∀ (K : AE → St → Prop), (K (.exit 0) ⟨[(6, .c (.ref (.tmp 6 20) [] 0 y.length))], [(.arg 0, ⟨.fz, 2, cs0⟩), (.tmp 6 20, ⟨.lst, 2, encL c31 y⟩)], [], []⟩) → loopS Try.prog 73 (.ga C22_l0) K ⟨[(3, .c (.ptr (.tmp 3 0) [] 0)), (6, .c (.ref (.tmp 6 20) [] 0 x0_4.length)), (13, .c (.ref (.arg 0) [] o0 l0.length)), (14, .c (.sc (.int .i64 x0_0))), (15, .c (.sc (.int .i64 x0_1)))], [(.arg 0, ⟨.fz, 2, cs0⟩), (.tmp 3 0, ⟨.box, 0, [.sc (.int .u64 x0_2), .sc (.int .u64 x0_3)]⟩), (.tmp 6 20, ⟨.lst, 2, encL c31 x0_4⟩)], [], []⟩
theorem impl_SpanCut.l0_walk (cs0 : List Cell) (o0 : Nat) (l0 : List S31) (hv0 : Vw c31 2 cs0 o0 l0) (x0_0 : Int) (x0_2 : Int) (x0_3 : Int) (x0_1 : Int) (x0_4 : (List S31)) (y : (List S31)) (h : impl_SpanCut.l0 l0 x0_0 x0_2 x0_3 x0_1 x0_4 = some y) : impl_SpanCut.l0_M cs0 o0 l0 hv0 x0_0 x0_2 x0_3 x0_1 x0_4 y := by
  refine impl_SpanCut.l0.partial_correctness l0 x0_0 x0_2 x0_3 (motive := fun x0_1 x0_4 y => impl_SpanCut.l0_M cs0 o0 l0 hv0 x0_0 x0_2 x0_3 x0_1 x0_4 y) ?_ x0_1 x0_4 y h
  clear h
  unfold impl_SpanCut.l0_M
  intro rec ih x0_1 x0_4 y h K hx0
  refine loop_unroll (ga_k fun G0 G0n G0r G0x => ?_)
  unfold C22_l0
  refine sr_k fun J13 hJ13 => ?_
  simp +decide only [Nat.reduceAdd, Nat.reduceMul, Int.reduceToNat, ak]
  refine hJ13 _ ?_
  refine seq_k fun J14 hJ14 => ?_
  refine cond_k (b := decide (x0_1 < x0_0)) rfl (fun c15 => ?_) (fun c15 => ?_)
  · replace c15 := of_decide_eq_true c15; rw [if_pos c15] at h
    refine hJ14 _ ?_
    obtain ⟨j16, h17, hn⟩ := of_bind h
    refine seq_j (fun st => st = ⟨[(3, .c (.ptr (.tmp 3 0) [] 0)), (6, .c (.ref (.tmp 6 20) [] 0 j16.length)), (13, .c (.ref (.arg 0) [] o0 l0.length)), (14, .c (.sc (.int .i64 x0_0))), (15, .c (.sc (.int .i64 x0_1)))], [(.arg 0, ⟨.fz, 2, cs0⟩), (.tmp 3 0, ⟨.box, 0, [.sc (.int .u64 x0_2), .sc (.int .u64 x0_3)]⟩), (.tmp 6 20, ⟨.lst, 2, encL c31 j16⟩)], [], []⟩) (fun J18 hJ18 => ?_) ?_
    · replace h := h17; clear hn
      refine ga_k fun G19 G19n G19r G19x => ?_
      refine block_k fun B20 B20n B20x B20r B20j => ?_
      refine sr_k fun J21 hJ21 => ?_
      obtain ⟨b22, h⟩ := of_guard h
      have g23 : (List.drop (o0 + x0_1.toNat * 2) (cs0)).take 2 = [.sc (.int .u64 ((rd z31 l0 x0_1).f0)), .sc (.int .u64 ((rd z31 l0 x0_1).f1))] := hv0.stretch z31 b22.1 b22.2
      simp +decide only [Nat.reduceAdd, Nat.reduceMul, Int.reduceToNat, ak, b22, g23]
      refine hJ21 _ ?_
      refine seq_k fun J24 hJ24 => ?_
      obtain ⟨j25, h26, hn⟩ := of_bind h
      refine seq_j (fun st => st = ⟨[(3, .c (.ptr (.tmp 3 0) [] 0)), (6, .c (.ref (.tmp 6 20) [] 0 x0_4.length)), (8, .c (.ptr (.tmp 8 0) [] 0)), (13, .c (.ref (.arg 0) [] o0 l0.length)), (14, .c (.sc (.int .i64 x0_0))), (15, .c (.sc (.int .i64 x0_1))), (37, .c (.sc (.bool j25)))], [(.arg 0, ⟨.fz, 2, cs0⟩), (.tmp 3 0, ⟨.box, 0, [.sc (.int .u64 x0_2), .sc (.int .u64 x0_3)]⟩), (.tmp 6 20, ⟨.lst, 2, encL c31 x0_4⟩), (.tmp 8 0, ⟨.box, 0, [.sc (.int .u64 ((rd z31 l0 x0_1).f0)), .sc (.int .u64 ((rd z31 l0 x0_1).f1))]⟩)], [], []⟩) (fun J27 hJ27 => ?_) ?_
      · replace h := h26; clear hn
        refine ga_k fun G28 G28n G28r G28x => ?_
        refine reg_k ?_
        simp +decide only [Nat.reduceAdd, Nat.reduceMul, Int.reduceToNat, ak]
        by_cases c29 : x0_2 = x0_3
        · rw [if_pos c29] at h
          have e30 : decide (x0_2 = x0_3) = true := decide_eq_true c29
          simp +decide only [Nat.reduceAdd, Nat.reduceMul, Int.reduceToNat, ak, e30]
          obtain rfl := Option.some.inj h
          refine G28n _ _ (wk [3, 6, 8, 13, 14, 15, 37] [pI (.arg 0) .fz, pI (.tmp 3 0) .box, pI (.tmp 6 20) .lst, pI (.tmp 8 0) .box] (h0 := by first | rfl | simp +decide only [ak, akF, b22, e30]) (h := by first | rfl | (simp +decide only [ak, akF, b22, e30]; done) | (simp +decide [ak, akF, b22, e30] <;> omega))) (hJ27 _ rfl)
        · rw [if_neg c29] at h
          have e31 : decide (x0_2 = x0_3) = false := decide_eq_false c29
          simp +decide only [Nat.reduceAdd, Nat.reduceMul, Int.reduceToNat, ak, e31]
          by_cases c32 : (rd z31 l0 x0_1).f1 ≤ x0_2
          · rw [if_pos c32] at h
            have e33 : decide ((rd z31 l0 x0_1).f1 ≤ x0_2) = true := decide_eq_true c32
            simp +decide only [Nat.reduceAdd, Nat.reduceMul, Int.reduceToNat, ak, e33]
            obtain rfl := Option.some.inj h
            refine G28n _ _ (wk [3, 6, 8, 13, 14, 15, 37] [pI (.arg 0) .fz, pI (.tmp 3 0) .box, pI (.tmp 6 20) .lst, pI (.tmp 8 0) .box] (h0 := by first | rfl | simp +decide only [ak, akF, b22, e31, e33]) (h := by first | rfl | (simp +decide only [ak, akF, b22, e31, e33]; done) | (simp +decide [ak, akF, b22, e31, e33] <;> omega))) (hJ27 _ rfl)
          · rw [if_neg c32] at h
            have e34 : decide ((rd z31 l0 x0_1).f1 ≤ x0_2) = false := decide_eq_false c32
            simp +decide only [Nat.reduceAdd, Nat.reduceMul, Int.reduceToNat, ak, e34]
            obtain rfl := Option.some.inj h
            refine G28n _ _ (wk [3, 6, 8, 13, 14, 15, 37] [pI (.arg 0) .fz, pI (.tmp 3 0) .box, pI (.tmp 6 20) .lst, pI (.tmp 8 0) .box] (h0 := by first | rfl | simp +decide only [ak, akF, b22, e31, e34]) (h := by first | rfl | (simp +decide only [ak, akF, b22, e31, e34]; done) | (simp +decide [ak, akF, b22, e31, e34] <;> omega))) (hJ27 _ rfl)
      · replace h := hn; clear hn h26
        rintro _ rfl
        refine cond_k (b := j25) rfl (fun c35 => ?_) (fun c35 => ?_)
        · rw [if_pos c35] at h
          refine sr_k fun J36 hJ36 => ?_
          have g37 : (List.replicate 1 ([.int .u64 0, .int .u64 0] : List Value)).flatten = [.int .u64 0, .int .u64 0] := rfl
          have g38 : (⟨.lst, 2, [.sc (.int .u64 ((rd z31 l0 x0_1).f0)), .sc (.int .u64 ((rd z31 l0 x0_1).f1))]⟩ : Root) = ⟨.lst, 2, encL c31 ([(rd z31 l0 x0_1)] : List S31)⟩ := rfl
          have g39 : ([(rd z31 l0 x0_1)] : List S31).length = 1 := rfl
          have g40 : (encL c31 ([(rd z31 l0 x0_1)] : List S31)).length = 1 * 2 := by simp [encL_length c31_w]
          have g41 : (encL c31 ([(rd z31 l0 x0_1)] : List S31)).all nd = true := rfl
          obtain ⟨b42, h⟩ := of_guard h
          have g43 : appLim x0_4.length 1 16 := ⟨b42, by have := b42; omega⟩
          have g44 : (encL c31 x0_4).length = x0_4.length * 2 := by simp [encL_length c31_w]
          have g45 : encL c31 x0_4 ++ encL c31 ([(rd z31 l0 x0_1)] : List S31) = encL c31 (x0_4 ++ ([(rd z31 l0 x0_1)] : List S31)) := (encL_append _ _).symm
          simp +decide only [Nat.reduceAdd, Nat.reduceMul, Int.reduceToNat, ak, g37, g38, g39, g40, g41, g43, g44, g45]
          refine hJ36 _ ?_
          refine B20x _ ?_
          obtain rfl := Option.some.inj h
          refine G19n _ _ (wk [3, 6, 13, 14, 15] [pI (.arg 0) .fz, pI (.tmp 3 0) .box, pI (.tmp 6 20) .lst] (h0 := by first | rfl | simp +decide only [ak, akF, b22, b42]) (h := by first | rfl | (simp +decide only [ak, akF, b22, b42]; done) | (simp +decide [ak, akF, b22, b42] <;> omega))) (hJ18 _ rfl)
        · rw [if_neg (Bool.eq_false_iff.1 c35)] at h
          refine hJ24 _ ?_
          obtain ⟨j46, h47, hn⟩ := of_bind h
          refine seq_j (fun st => st = ⟨[(3, .c (.ptr (.tmp 3 0) [] 0)), (6, .c (.ref (.tmp 6 20) [] 0 j46.length)), (8, .c (.ptr (.tmp 8 0) [] 0)), (13, .c (.ref (.arg 0) [] o0 l0.length)), (14, .c (.sc (.int .i64 x0_0))), (15, .c (.sc (.int .i64 x0_1)))], [(.arg 0, ⟨.fz, 2, cs0⟩), (.tmp 3 0, ⟨.box, 0, [.sc (.int .u64 x0_2), .sc (.int .u64 x0_3)]⟩), (.tmp 6 20, ⟨.lst, 2, encL c31 j46⟩), (.tmp 8 0, ⟨.box, 0, [.sc (.int .u64 ((rd z31 l0 x0_1).f0)), .sc (.int .u64 ((rd z31 l0 x0_1).f1))]⟩)], [], []⟩) (fun J48 hJ48 => ?_) ?_
          · replace h := h47; clear hn
            refine ga_k fun G49 G49n G49r G49x => ?_
            refine sr_k fun J50 hJ50 => ?_
            simp +decide only [Nat.reduceAdd, Nat.reduceMul, Int.reduceToNat, ak]
            refine hJ50 _ ?_
            refine cond_k (b := decide ((rd z31 l0 x0_1).f0 < x0_2)) rfl (fun c51 => ?_) (fun c51 => ?_)
            · replace c51 := of_decide_eq_true c51; rw [if_pos c51] at h
              refine reg_k ?_
              have g52 : (List.replicate 1 ([.int .u64 0, .int .u64 0] : List Value)).flatten = [.int .u64 0, .int .u64 0] := rfl
              have g53 : (⟨.lst, 2, [.sc (.int .u64 ((rd z31 l0 x0_1).f0)), .sc (.int .u64 x0_2)]⟩ : Root) = ⟨.lst, 2, encL c31 ([(⟨(rd z31 l0 x0_1).f0, x0_2⟩ : S31)] : List S31)⟩ := rfl
              have g54 : ([(⟨(rd z31 l0 x0_1).f0, x0_2⟩ : S31)] : List S31).length = 1 := rfl
              have g55 : (encL c31 ([(⟨(rd z31 l0 x0_1).f0, x0_2⟩ : S31)] : List S31)).length = 1 * 2 := by simp [encL_length c31_w]
              have g56 : (encL c31 ([(⟨(rd z31 l0 x0_1).f0, x0_2⟩ : S31)] : List S31)).all nd = true := rfl
              obtain ⟨b57, h⟩ := of_guard h
              have g58 : appLim x0_4.length 1 16 := ⟨b57, by have := b57; omega⟩
              have g59 : (encL c31 x0_4).length = x0_4.length * 2 := by simp [encL_length c31_w]
              have g60 : encL c31 x0_4 ++ encL c31 ([(⟨(rd z31 l0 x0_1).f0, x0_2⟩ : S31)] : List S31) = encL c31 (x0_4 ++ ([(⟨(rd z31 l0 x0_1).f0, x0_2⟩ : S31)] : List S31)) := (encL_append _ _).symm
              simp +decide only [Nat.reduceAdd, Nat.reduceMul, Int.reduceToNat, ak, g52, g53, g54, g55, g56, g58, g59, g60]
              obtain rfl := Option.some.inj h
              refine G49n _ _ (wk [3, 6, 8, 13, 14, 15] [pI (.arg 0) .fz, pI (.tmp 3 0) .box, pI (.tmp 6 20) .lst, pI (.tmp 8 0) .box] (h0 := by first | rfl | simp +decide only [ak, akF, b22, b57]) (h := by first | rfl | (simp +decide only [ak, akF, b22, b57]; done) | (simp +decide [ak, akF, b22, b57] <;> omega))) (hJ48 _ rfl)
            · replace c51 := of_decide_eq_false c51; rw [if_neg c51] at h
              obtain rfl := Option.some.inj h
              refine G49n _ _ (wk [3, 6, 8, 13, 14, 15] [pI (.arg 0) .fz, pI (.tmp 3 0) .box, pI (.tmp 6 20) .lst, pI (.tmp 8 0) .box]) (hJ48 _ rfl)
          · replace h := hn; clear hn h47
            rintro _ rfl
            refine sr_k fun J61 hJ61 => ?_
            simp +decide only [Nat.reduceAdd, Nat.reduceMul, Int.reduceToNat, ak]
            refine hJ61 _ ?_
            refine cond_k (b := decide ((rd z31 l0 x0_1).f1 > x0_3)) rfl (fun c62 => ?_) (fun c62 => ?_)
            · replace c62 := of_decide_eq_true c62; rw [if_pos c62] at h
              refine reg_k ?_
              have g63 : (List.replicate 1 ([.int .u64 0, .int .u64 0] : List Value)).flatten = [.int .u64 0, .int .u64 0] := rfl
              have g64 : (⟨.lst, 2, [.sc (.int .u64 x0_3), .sc (.int .u64 ((rd z31 l0 x0_1).f1))]⟩ : Root) = ⟨.lst, 2, encL c31 ([(⟨x0_3, (rd z31 l0 x0_1).f1⟩ : S31)] : List S31)⟩ := rfl
              have g65 : ([(⟨x0_3, (rd z31 l0 x0_1).f1⟩ : S31)] : List S31).length = 1 := rfl
              have g66 : (encL c31 ([(⟨x0_3, (rd z31 l0 x0_1).f1⟩ : S31)] : List S31)).length = 1 * 2 := by simp [encL_length c31_w]
              have g67 : (encL c31 ([(⟨x0_3, (rd z31 l0 x0_1).f1⟩ : S31)] : List S31)).all nd = true := rfl
              obtain ⟨b68, h⟩ := of_guard h
              have g69 : appLim j46.length 1 16 := ⟨b68, by have := b68; omega⟩
              have g70 : (encL c31 j46).length = j46.length * 2 := by simp [encL_length c31_w]
              have g71 : encL c31 j46 ++ encL c31 ([(⟨x0_3, (rd z31 l0 x0_1).f1⟩ : S31)] : List S31) = encL c31 (j46 ++ ([(⟨x0_3, (rd z31 l0 x0_1).f1⟩ : S31)] : List S31)) := (encL_append _ _).symm
              simp +decide only [Nat.reduceAdd, Nat.reduceMul, Int.reduceToNat, ak, g63, g64, g65, g66, g67, g69, g70, g71]
              refine B20n _ ?_
              obtain rfl := Option.some.inj h
              refine G19n _ _ (wk [3, 6, 13, 14, 15] [pI (.arg 0) .fz, pI (.tmp 3 0) .box, pI (.tmp 6 20) .lst] (h0 := by first | rfl | simp +decide only [ak, akF, b22, b68]) (h := by first | rfl | (simp +decide only [ak, akF, b22, b68]; done) | (simp +decide [ak, akF, b22, b68] <;> omega))) (hJ18 _ rfl)
            · replace c62 := of_decide_eq_false c62; rw [if_neg c62] at h
              refine B20n _ ?_
              obtain rfl := Option.some.inj h
              refine G19n _ _ (wk [3, 6, 13, 14, 15] [pI (.arg 0) .fz, pI (.tmp 3 0) .box, pI (.tmp 6 20) .lst]) (hJ18 _ rfl)
    · replace h := hn; clear hn h17
      rintro _ rfl
      refine reg_k ?_
      simp +decide only [Nat.reduceAdd, Nat.reduceMul, Int.reduceToNat, ak]
      refine G0n _ _ (wk [3, 6, 13, 14, 15] [pI (.arg 0) .fz, pI (.tmp 3 0) .box, pI (.tmp 6 20) .lst]) (ih _ _ _ h K hx0)
  · replace c15 := of_decide_eq_false c15; rw [if_neg c15] at h
    obtain rfl := Option.some.inj h
    refine gh_k (wk [6] [pI (.arg 0) .fz, pI (.tmp 6 20) .lst]) ?_
    refine G0x _ _ ?_
    exact hx0
theorem impl_SpanCut.tri (cs0 : List Cell) (o0 : Nat) (l0 : List S31) (hv0 : Vw c31 2 cs0 o0 l0) (a1_0 : Int) (a1_1 : Int) (r : (List S31) × Int) (h : impl_SpanCut.f l0 a1_0 a1_1 = some r) : Tri Try.prog 22 [.c (.ref (.arg 0) [] o0 l0.length), .g [.sc (.int .u64 a1_0), .sc (.int .u64 a1_1)]] [(.arg 0, ⟨.fz, 2, cs0⟩)] (fun o => o = ⟨.tup [(false, [.ref (.res 0) [] 0 r.1.length]), (false, [.sc (.int .i64 r.2)])], [(.arg 0, ⟨.fz, 2, cs0⟩), (.res 0, ⟨.lst, 2, encL c31 r.1⟩)], [], []⟩) := by
  refine tri_of_body (ac := C22) (xs := r22) Try.func22 (show Try.f22.body = some (Try.f22.body.getD .skip) from rfl) k22 q22 (Nat.le_of_ble_eq_true rfl) ?_
  refine body_of fun K hKn hKr => ?_
  unfold impl_SpanCut.f at h
  unfold C22
  simp only [initT, Nat.reduceAdd]
  refine sr_k fun J1 hJ1 => ?_
  simp +decide only [Nat.reduceAdd, Nat.reduceMul, Int.reduceToNat, ak]
  refine gho_k (Weak.nm' 4 (.tmp 4 20) 2 (encL c31 ([] : List S31)) rfl rfl rfl) ?_
  simp +decide only [Nat.reduceAdd, Nat.reduceMul, Int.reduceToNat, ak]
  refine hJ1 _ ?_
  refine seq_k fun J2 hJ2 => ?_
  refine sr_k fun J3 hJ3 => ?_
  simp +decide only [Nat.reduceAdd, Nat.reduceMul, Int.reduceToNat, ak]
  obtain ⟨t4, h5, h⟩ := of_bind h
  refine call_m [(.arg 0, ⟨(.arg 0), [], none, .fz⟩)] (s0 := [(.arg 0, ⟨.fz, 2, cs0⟩)]) (by intro t ht; cases ht; decide) rfl rfl (by first | rfl | simp only [reduceCtorEq, Nat.reduceEqDiff, ak, akF]) (impl_validSpans.tri (cs0) o0 l0 hv0 a1_0 a1_1 _ h5) (by first | rfl | simp only [reduceCtorEq, Nat.reduceEqDiff, ak, akF]) (by simp [bkOk2, memK]) (fun hl5 => ?_)
  refine call_st (s4 := [(.arg 0, ⟨.fz, 2, cs0⟩), (.tmp 3 0, ⟨.box, 0, [.sc (.int .u64 a1_0), .sc (.int .u64 a1_1)]⟩), (.tmp 4 20, ⟨.lst, 2, encL c31 ([] : List S31)⟩)]) (m1' := []) (m2' := []) (v' := .c (.sc (.bool t4))) (Sto.mapN_killNil _ _) (mrgL_fz (mrgL_nil' _ _ _) rfl (by first | rfl | simp only [reduceCtorEq, Nat.reduceEqDiff, ak]) rfl (by intro R hR hh; cases hR; cases hh.2)) (by rfl) (mapT_killNil _ _) (by rfl) (by rfl) (by first | rfl | simp only [reduceCtorEq, Nat.reduceEqDiff, ak, akF, Nat.zero_add, List.append_nil]) ?_
  simp +decide only [Nat.reduceAdd, Nat.reduceMul, Int.reduceToNat, ak]
  refine hJ3 _ ?_
  refine cond_k (b := !t4) rfl (fun c7 => ?_) (fun c7 => ?_)
  · rw [if_pos c7] at h
    refine sr_k fun J8 hJ8 => ?_
    simp +decide only [Nat.reduceAdd, Nat.reduceMul, Int.reduceToNat, ak]
    refine gho_k ((Weak.drop [.tmp 4 20]).trans (Weak.nm' 4 (.tmp 4 20) 2 (encL c31 ([] : List S31)) rfl rfl rfl)) ?_
    simp +decide only [Nat.reduceAdd, Nat.reduceMul, Int.reduceToNat, ak]
    refine hJ8 _ ?_
    obtain rfl := Option.some.inj h
    refine hKr _ ⟨_, rfl, [⟨(.tmp 4 20), [], none, .lst⟩], _, rfl, rfl, ?_⟩
    first | rfl | (simp only [reduceCtorEq, Nat.reduceEqDiff, ak, akF]; done) | (simp [reduceCtorEq, Nat.reduceEqDiff, ak, akF] <;> omega)
  · rw [if_neg (Bool.eq_false_iff.1 c7)] at h
    refine hJ2 _ ?_
    refine sr_k fun J9 hJ9 => ?_
    simp +decide only [Nat.reduceAdd, Nat.reduceMul, Int.reduceToNat, ak]
    refine gho_k (Weak.nm' 6 (.tmp 6 20) 2 (encL c31 ([] : List S31)) rfl rfl rfl) ?_
    simp +decide only [Nat.reduceAdd, Nat.reduceMul, Int.reduceToNat, ak]
    refine hJ9 _ ?_
    refine seq_k fun J10 hJ10 => ?_
    refine sr_k fun J11 hJ11 => ?_
    simp +decide only [Nat.reduceAdd, Nat.reduceMul, Int.reduceToNat, ak]
    refine hJ11 _ ?_
    refine block_k fun B12 B12n B12x B12r B12j => ?_
    obtain ⟨y72, h73, h⟩ := of_bind h
    refine gh_k (st' := ⟨[(3, .c (.ptr (.tmp 3 0) [] 0)), (6, .c (.ref (.tmp 6 20) [] 0 (([] : List S31).length))), (13, .c (.ref (.arg 0) [] o0 l0.length)), (14, .c (.sc (.int .i64 (l0.length : Int)))), (15, .c (.sc (.int .i64 0)))], [(.arg 0, ⟨.fz, 2, cs0⟩), (.tmp 3 0, ⟨.box, 0, [.sc (.int .u64 a1_0), .sc (.int .u64 a1_1)]⟩), (.tmp 6 20, ⟨.lst, 2, encL c31 ([] : List S31)⟩)], [], []⟩) (wk [3, 6, 13, 14, 15] [pI (.arg 0) .fz, pI (.tmp 3 0) .box, pI (.tmp 6 20) .lst] (h := by first | rfl | (simp +decide only [ak, akF]; done) | (simp +decide [ak, akF] <;> omega))) ?_
    rw [e_loop]
    refine impl_SpanCut.l0_walk cs0 o0 l0 hv0 (l0.length : Int) a1_0 a1_1 0 ([] : List S31) _ h73 _ ?_
    refine B12x _ ?_
    refine hJ10 _ ?_
    refine sr_k fun J74 hJ74 => ?_
    simp +decide only [Nat.reduceAdd, Nat.reduceMul, Int.reduceToNat, ak]
    obtain ⟨t75, h76, h⟩ := of_bind h
    rcases hpo : t75.1 with _ | p79
    · have hpp77 := hpo
      rw [hpo] at h; dsimp only at h
      refine call_m [(.arg 0, ⟨(.tmp 6 20), [], none, .fz⟩)] (s0 := [(.arg 0, ⟨.fz, 2, encL c31 y72⟩)]) (by intro t ht; cases ht; decide) rfl rfl (by first | rfl | simp only [reduceCtorEq, Nat.reduceEqDiff, ak, akF]) (impl_limited.tri0 (encL c31 y72) 0 y72 (Vw.whole c31_w y72) _ h76 hpp77) (by first | rfl | simp only [reduceCtorEq, Nat.reduceEqDiff, ak, akF]) (by simp [bkOk2, memK]) (fun hl77 => ?_)
      refine call_st (s4 := [(.arg 0, ⟨.fz, 2, cs0⟩), (.tmp 6 20, ⟨.lst, 2, encL c31 y72⟩)]) (m1' := []) (m2' := []) (v' := .tup [(false, [.ref (.tmp 6 20) [] 0 y72.length]), (false, [.sc (.int .i64 t75.2)])]) (Sto.mapN_killNil _ _) (mrgL_fz (mrgL_nil' _ _ _) rfl (by first | rfl | simp only [reduceCtorEq, Nat.reduceEqDiff, ak]) rfl (by intro R hR hh; cases hR; cases hh.2)) (by rfl) (mapT_killNil _ _) (by rfl) (by rfl) (by first | rfl | simp only [reduceCtorEq, Nat.reduceEqDiff, ak, akF, Nat.zero_add, List.append_nil]) ?_
      simp +decide only [Nat.reduceAdd, Nat.reduceMul, Int.reduceToNat, ak]
      refine hJ74 _ ?_
      obtain rfl := Option.some.inj h
      refine hKr _ ⟨_, rfl, [⟨(.tmp 6 20), [], none, .lst⟩], _, rfl, rfl, ?_⟩
      first | rfl | (simp only [reduceCtorEq, Nat.reduceEqDiff, ak, akF]; done) | (simp [reduceCtorEq, Nat.reduceEqDiff, ak, akF] <;> omega)
    · have hpp79 := hpo
      rw [hpo] at h; dsimp only at h
      refine call_m [(.arg 0, ⟨(.tmp 6 20), [], none, .fz⟩)] (s0 := [(.arg 0, ⟨.fz, 2, encL c31 y72⟩)]) (by intro t ht; cases ht; decide) rfl rfl (by first | rfl | simp only [reduceCtorEq, Nat.reduceEqDiff, ak, akF]) (impl_limited.tri1 (encL c31 y72) 0 y72 (Vw.whole c31_w y72) _ h76 _ hpp79) (by first | rfl | simp only [reduceCtorEq, Nat.reduceEqDiff, ak, akF]) (by simp [bkOk2, memK]) (fun hl79 => ?_)
      refine call_st (s4 := [(.arg 0, ⟨.fz, 2, cs0⟩), (.tmp 6 20, ⟨.lst, 2, encL c31 y72⟩), (.tmp 70 0, ⟨.lst, 2, encL c31 p79⟩)]) (m1' := []) (m2' := []) (v' := .tup [(false, [.ref (.tmp 70 0) [] 0 p79.length]), (false, [.sc (.int .i64 t75.2)])]) (Sto.mapN_killNil _ _) (mrgL_fz (mrgL_nil' _ _ _) rfl (by first | rfl | simp only [reduceCtorEq, Nat.reduceEqDiff, ak]) rfl (by intro R hR hh; cases hR; cases hh.2)) (by rfl) (mapT_killNil _ _) (by rfl) (by rfl) (by first | rfl | simp only [reduceCtorEq, Nat.reduceEqDiff, ak, akF, Nat.zero_add, List.append_nil]) ?_
      simp +decide only [Nat.reduceAdd, Nat.reduceMul, Int.reduceToNat, ak]
      refine hJ74 _ ?_
      obtain rfl := Option.some.inj h
      refine hKr _ ⟨_, rfl, [⟨(.tmp 70 0), [], none, .lst⟩], _, rfl, rfl, ?_⟩
      first | rfl | (simp only [reduceCtorEq, Nat.reduceEqDiff, ak, akF]; done) | (simp [reduceCtorEq, Nat.reduceEqDiff, ak, akF] <;> omega)
/-! ### impl.SpanGaps: function 23 -/
def C23_l0 : AC := .seq (.reg [.op none (.bin 19 .lss (.tmp 18) (.tmp 17)), .keep [3, 6, 7, 16, 17, 18, 19]]) (.seq (.cond (.tmp 19) (.skip) (.gh (.exit 0))) (.seq (.ga (.block 1 (.seq (.reg [.op none (.iaddr 20 2 (.tmp 16) (.tmp 18)), .op none (.load 21 true 2 (.tmp 20)), .op none (.alloc 9 [.int .u64 0, .int .u64 0]), .op none (.store 2 (.tmp 9) (.tmp 21)), .keep [3, 6, 7, 9, 16, 17, 18]]) (.seq (.seq (.ga (.reg [.op none (.faddr 22 1 (.tmp 9)), .op none (.load 23 false 1 (.tmp 22)), .op none (.mv 24 (.tmp 7)), .op none (.bin 25 .leq (.tmp 23) (.tmp 24)), .op none (.mv 26 (.tmp 25)), .op (some (26, false)) (.faddr 27 0 (.tmp 9)), .op (some (26, false)) (.load 28 false 1 (.tmp 27)), .op (some (26, false)) (.faddr 29 1 (.tmp 3)), .op (some (26, false)) (.load 30 false 1 (.tmp 29)), .op (some (26, false)) (.bin 31 .geq (.tmp 28) (.tmp 30)), .op none (.pick 32 (.tmp 26) (.const (.bool true)) (.tmp 31)), .keep [3, 6, 7, 9, 16, 17, 18, 32]])) (.cond (.tmp 32) (.exit 1) (.skip))) (.seq (.ga (.seq (.reg [.op none (.mv 33 (.tmp 7)), .op none (.faddr 34 0 (.tmp 9)), .op none (.load 35 false 1 (.tmp 34)), .op none (.bin 36 .lss (.tmp 33) (.tmp 35)), .keep [3, 6, 7, 9, 16, 17, 18, 36]]) (.cond (.tmp 36) (.reg [.op none (.mv 37 (.tmp 6)), .op none (.mv 38 (.tmp 7)), .op none (.faddr 39 0 (.tmp 9)), .op none (.load 40 false 1 (.tmp 39)), .op none (.build 41 [.int .u64 0, .int .u64 0] [(0, 1, .tmp 38), (1, 1, .tmp 40)]), .op none (.bslice 42 2 [.int .u64 0, .int .u64 0] 1 [(0, .tmp 41)]), .op none (.app 43 2 16 true (.tmp 37) (.tmp 42)), .op none (.mv 6 (.tmp 43)), .keep [3, 6, 9, 16, 17, 18]]) (.skip)))) (.reg [.op none (.faddr 44 1 (.tmp 9)), .op none (.load 45 false 1 (.tmp 44)), .op none (.mv 7 (.tmp 45)), .keep [3, 6, 7, 16, 17, 18]])))))) (.reg [.op none (.bin 46 .add (.tmp 18) (.const (.int .i64 1))), .op none (.mv 18 (.tmp 46)), .keep [3, 6, 7, 16, 17, 18]])))
def C23 : AC := .seq (.reg [.op none (.box 3 (.tmp 1)), .op none (.mv 4 (.const (.slice none 0 0))), .gh, .op none (.mv 5 (.const (.int .i64 0))), .keep [0, 3]]) (.seq (.seq (.reg [.op none (.mv 10 (.tmp 0)), .op none (.load 11 true 2 (.tmp 3)), .call none (some 12) 66 [.tmp 10, .tmp 11], .op none (.un 13 .not (.tmp 12)), .keep [0, 3, 13]]) (.cond (.tmp 13) (.seq (.reg [.op none (.mv 4 (.const (.slice none 0 0))), .gh, .op none (.mv 5 (.const (.int .i64 1))), .keep [4, 5]]) (.ret)) (.skip))) (.seq (.reg [.op none (.mv 6 (.const (.slice none 0 0))), .gh, .keep [0, 3, 6]]) (.seq (.reg [.op none (.faddr 14 0 (.tmp 3)), .op none (.load 15 false 1 (.tmp 14)), .op none (.mv 7 (.tmp 15)), .keep [0, 3, 6, 7]]) (.seq (.seq (.reg [.op none (.mv 16 (.tmp 0)), .op none (.len 17 (.tmp 16)), .op none (.mv 18 (.const (.int .i64 0))), .keep [3, 6, 7, 16, 17, 18]]) (.block 0 (.gh (.loop (.ga C23_l0))))) (.seq (.ga (.seq (.reg [.op none (.mv 47 (.tmp 7)), .op none (.faddr 48 1 (.tmp 3)), .op none (.load 49 false 1 (.tmp 48)), .op none (.bin 50 .lss (.tmp 47) (.tmp 49)), .keep [3, 6, 7, 50]]) (.cond (.tmp 50) (.reg [.op none (.mv 51 (.tmp 6)), .op none (.mv 52 (.tmp 7)), .op none (.faddr 53 1 (.tmp 3)), .op none (.load 54 false 1 (.tmp 53)), .op none (.build 55 [.int .u64 0, .int .u64 0] [(0, 1, .tmp 52), (1, 1, .tmp 54)]), .op none (.bslice 56 2 [.int .u64 0, .int .u64 0] 1 [(0, .tmp 55)]), .op none (.app 57 2 16 true (.tmp 51) (.tmp 56)), .op none (.mv 6 (.tmp 57)), .keep [6]]) (.skip)))) (.seq (.reg [.op none (.mv 58 (.tmp 6)), .call none (some 59) 67 [.tmp 58], .op none (.extr 60 (.tmp 59) 0), .op none (.extr 61 (.tmp 59) 1), .op none (.mv 4 (.tmp 60)), .op none (.mv 5 (.tmp 61)), .keep [4, 5]]) (.ret)))))))
def r23 : List RV := [.tmp 4, .tmp 5]
theorem k23 : compC Try.prog 62 C23 (Try.f23.body.getD .skip) = some C23.erase := by kernel_rfl
theorem q23 : rvsOf Try.prog Try.f23.results.toList = some r23 := by kernel_rfl
def impl_SpanGaps.l0 (l0 : List S31) (x0_1 : Int) (x0_3 : Int) (x0_4 : Int) (x0_0 : Int) (x0_2 : Int) (x0_5 : (List S31)) : Option (Int × (List S31)) := (if x0_2 < x0_1 then ((if 0 ≤ x0_2 ∧ x0_2 < (l0.length : Int) then ((if (rd z31 l0 x0_2).f1 ≤ x0_0 then (some true) else (some (decide ((rd z31 l0 x0_2).f0 ≥ x0_4)))) >>= fun (j26 : Bool) => (if j26 = true then (some (x0_0, x0_5)) else ((if x0_0 < (rd z31 l0 x0_2).f0 then (if (x0_5.length + 1) * 16 ≤ 140737488355328 then (some (x0_5 ++ ([(⟨x0_0, (rd z31 l0 x0_2).f0⟩ : S31)] : List S31))) else none) else (some x0_5)) >>= fun (j34 : (List S31)) => (some ((rd z31 l0 x0_2).f1, j34))))) else none) >>= fun (j17 : Int × (List S31)) => (impl_SpanGaps.l0 l0 x0_1 x0_3 x0_4 j17.1 (IntKind.i64.wrap (x0_2 + 1)) j17.2)) else (some (x0_0, x0_5)))
  partial_fixpoint
def impl_SpanGaps.f (l0 : List S31) (a1_0 : Int) (a1_1 : Int) : Option ((List S31) × Int) := (impl_validSpans.f l0 a1_0 a1_1 >>= fun t4 => (if (!t4) = true then (some (([] : List S31), 1)) else (impl_SpanGaps.l0 l0 (l0.length : Int) a1_0 a1_1 a1_0 0 ([] : List S31) >>= fun (y49 : (Int × (List S31))) => ((if y49.1 < a1_1 then (if (y49.2.length + 1) * 16 ≤ 140737488355328 then (some (y49.2 ++ ([(⟨y49.1, a1_1⟩ : S31)] : List S31))) else none) else (some y49.2)) >>= fun (j51 : (List S31)) => (impl_limited.f j51 >>= fun t67 => (match t67.1 with | none => (some (j51, t67.2)) | some p71 => (some (p71, t67.2))))))))
def impl_SpanGaps.l0_M (cs0 : List Cell) (o0 : Nat) (l0 : List S31) (hv0 : Vw c31 2 cs0 o0 l0) (x0_1 : Int) (x0_3 : Int) (x0_4 : Int) (x0_0 : Int) (x0_2 : Int) (x0_5 : (List S31)) (y : (Int × (List S31))) : Prop := ∀ (K : AE → St → Prop), (K (.exit 0) ⟨[(3, .c (.ptr (.tmp 3 0) [] 0)), (6, .c (.ref (.tmp 6 20) [] 0 y.2.length)), (7, .c (.sc (.int .u64 y.1)))], [(.arg 0, ⟨.fz, 2, cs0⟩), (.tmp 3 0, ⟨.box, 0, [.sc (.int .u64 x0_3), .sc (.int .u64 x0_4)]⟩), (.tmp 6 20, ⟨.lst, 2, encL c31 y.2⟩)], [], []⟩) → loopS Try.prog 62 (.ga C23_l0) K ⟨[(3, .c (.ptr (.tmp 3 0) [] 0)), (6, .c (.ref (.tmp 6 20) [] 0 x0_5.length)), (7, .c (.sc (.int .u64 x0_0))), (16, .c (.ref (.arg 0) [] o0 l0.length)), (17, .c (.sc (.int .i64 x0_1))), (18, .c (.sc (.int .i64 x0_2)))], [(.arg 0, ⟨.fz, 2, cs0⟩), (.tmp 3 0, ⟨.box, 0, [.sc (.int .u64 x0_3), .sc (.int .u64 x0_4)]⟩), (.tmp 6 20, ⟨.lst, 2, encL c31 x0_5⟩)], [], []⟩
theorem impl_SpanGaps.l0_walk (cs0 : List Cell) (o0 : Nat) (l0 : List S31) (hv0 : Vw c31 2 cs0 o0 l0) (x0_1 : Int) (x0_3 : Int) (x0_4 : Int) (x0_0 : Int) (x0_2 : Int) (x0_5 : (List S31)) (y : (Int × (List S31))) (h : impl_SpanGaps.l0 l0 x0_1 x0_3 x0_4 x0_0 x0_2 x0_5 = some y) : impl_SpanGaps.l0_M cs0 o0 l0 hv0 x0_1 x0_3 x0_4 x0_0 x0_2 x0_5 y := by
  refine impl_SpanGaps.l0.partial_correctness l0 x0_1 x0_3 x0_4 (motive := fun x0_0 x0_2 x0_5 y => impl_SpanGaps.l0_M cs0 o0 l0 hv0 x0_1 x0_3 x0_4 x0_0 x0_2 x0_5 y) ?_ x0_0 x0_2 x0_5 y h
  clear h
  unfold impl_SpanGaps.l0_M
  intro rec ih x0_0 x0_2 x0_5 y h K hx0
  refine loop_unroll (ga_k fun G0 G0n G0r G0x => ?_)
  unfold C23_l0
  refine sr_k fun J14 hJ14 => ?_
  simp +decide only [Nat.reduceAdd, Nat.reduceMul, Int.reduceToNat, ak]
  refine hJ14 _ ?_
  refine seq_k fun J15 hJ15 => ?_
  refine cond_k (b := decide (x0_2 < x0_1)) rfl (fun c16 => ?_) (fun c16 => ?_)
  · replace c16 := of_decide_eq_true c16; rw [if_pos c16] at h
    refine hJ15 _ ?_
    obtain ⟨j17, h18, hn⟩ := of_bind h
    refine seq_j (fun st => st = ⟨[(3, .c (.ptr (.tmp 3 0) [] 0)), (6, .c (.ref (.tmp 6 20) [] 0 j17.2.length)), (7, .c (.sc (.int .u64 j17.1))), (16, .c (.ref (.arg 0) [] o0 l0.length)), (17, .c (.sc (.int .i64 x0_1))), (18, .c (.sc (.int .i64 x0_2)))], [(.arg 0, ⟨.fz, 2, cs0⟩), (.tmp 3 0, ⟨.box, 0, [.sc (.int .u64 x0_3), .sc (.int .u64 x0_4)]⟩), (.tmp 6 20, ⟨.lst, 2, encL c31 j17.2⟩)], [], []⟩) (fun J19 hJ19 => ?_) ?_
    · replace h := h18; clear hn
      refine ga_k fun G20 G20n G20r G20x => ?_
      refine block_k fun B21 B21n B21x B21r B21j => ?_
      refine sr_k fun J22 hJ22 => ?_
      obtain ⟨b23, h⟩ := of_guard h
      have g24 : (List.drop (o0 + x0_2.toNat * 2) (cs0)).take 2 = [.sc (.int .u64 ((rd z31 l0 x0_2).f0)), .sc (.int .u64 ((rd z31 l0 x0_2).f1))] := hv0.stretch z31 b23.1 b23.2
      simp +decide only [Nat.reduceAdd, Nat.reduceMul, Int.reduceToNat, ak, b23, g24]
      refine hJ22 _ ?_
      refine seq_k fun J25 hJ25 => ?_
      obtain ⟨j26, h27, hn⟩ := of_bind h
      refine seq_j (fun st => st = ⟨[(3, .c (.ptr (.tmp 3 0) [] 0)), (6, .c (.ref (.tmp 6 20) [] 0 x0_5.length)), (7, .c (.sc (.int .u64 x0_0))), (9, .c (.ptr (.tmp 9 0) [] 0)), (16, .c (.ref (.arg 0) [] o0 l0.length)), (17, .c (.sc (.int .i64 x0_1))), (18, .c (.sc (.int .i64 x0_2))), (32, .c (.sc (.bool j26)))], [(.arg 0, ⟨.fz, 2, cs0⟩), (.tmp 3 0, ⟨.box, 0, [.sc (.int .u64 x0_3), .sc (.int .u64 x0_4)]⟩), (.tmp 6 20, ⟨.lst, 2, encL c31 x0_5⟩), (.tmp 9 0, ⟨.box, 0, [.sc (.int .u64 ((rd z31 l0 x0_2).f0)), .sc (.int .u64 ((rd z31 l0 x0_2).f1))]⟩)], [], []⟩) (fun J28 hJ28 => ?_) ?_
      · replace h := h27; clear hn
        refine ga_k fun G29 G29n G29r G29x => ?_
        refine reg_k ?_
        simp +decide only [Nat.reduceAdd, Nat.reduceMul, Int.reduceToNat, ak]
        by_cases c30 : (rd z31 l0 x0_2).f1 ≤ x0_0
        · rw [if_pos c30] at h
          have e31 : decide ((rd z31 l0 x0_2).f1 ≤ x0_0) = true := decide_eq_true c30
          simp +decide only [Nat.reduceAdd, Nat.reduceMul, Int.reduceToNat, ak, e31]
          obtain rfl := Option.some.inj h
          refine G29n _ _ (wk [3, 6, 7, 9, 16, 17, 18, 32] [pI (.arg 0) .fz, pI (.tmp 3 0) .box, pI (.tmp 6 20) .lst, pI (.tmp 9 0) .box] (h0 := by first | rfl | simp +decide only [ak, akF, b23, e31]) (h := by first | rfl | (simp +decide only [ak, akF, b23, e31]; done) | (simp +decide [ak, akF, b23, e31] <;> omega))) (hJ28 _ rfl)
        · rw [if_neg c30] at h
          have e32 : decide ((rd z31 l0 x0_2).f1 ≤ x0_0) = false := decide_eq_false c30
          simp +decide only [Nat.reduceAdd, Nat.reduceMul, Int.reduceToNat, ak, e32]
          obtain rfl := Option.some.inj h
          refine G29n _ _ (wk [3, 6, 7, 9, 16, 17, 18, 32] [pI (.arg 0) .fz, pI (.tmp 3 0) .box, pI (.tmp 6 20) .lst, pI (.tmp 9 0) .box] (h0 := by first | rfl | simp +decide only [ak, akF, b23, e32]) (h := by first | rfl | (simp +decide only [ak, akF, b23, e32]; done) | (simp +decide [ak, akF, b23, e32] <;> omega))) (hJ28 _ rfl)
      · replace h := hn; clear hn h27
        rintro _ rfl
        refine cond_k (b := j26) rfl (fun c33 => ?_) (fun c33 => ?_)
        · rw [if_pos c33] at h
          refine B21x _ ?_
          obtain rfl := Option.some.inj h
          refine G20n _ _ (wk [3, 6, 7, 16, 17, 18] [pI (.arg 0) .fz, pI (.tmp 3 0) .box, pI (.tmp 6 20) .lst]) (hJ19 _ rfl)
        · rw [if_neg (Bool.eq_false_iff.1 c33)] at h
          refine hJ25 _ ?_
          obtain ⟨j34, h35, hn⟩ := of_bind h
          refine seq_j (fun st => st = ⟨[(3, .c (.ptr (.tmp 3 0) [] 0)), (6, .c (.ref (.tmp 6 20) [] 0 j34.length)), (9, .c (.ptr (.tmp 9 0) [] 0)), (16, .c (.ref (.arg 0) [] o0 l0.length)), (17, .c (.sc (.int .i64 x0_1))), (18, .c (.sc (.int .i64 x0_2)))], [(.arg 0, ⟨.fz, 2, cs0⟩), (.tmp 3 0, ⟨.box, 0, [.sc (.int .u64 x0_3), .sc (.int .u64 x0_4)]⟩), (.tmp 6 20, ⟨.lst, 2, encL c31 j34⟩), (.tmp 9 0, ⟨.box, 0, [.sc (.int .u64 ((rd z31 l0 x0_2).f0)), .sc (.int .u64 ((rd z31 l0 x0_2).f1))]⟩)], [], []⟩) (fun J36 hJ36 => ?_) ?_
          · replace h := h35; clear hn
            refine ga_k fun G37 G37n G37r G37x => ?_
            refine sr_k fun J38 hJ38 => ?_
            simp +decide only [Nat.reduceAdd, Nat.reduceMul, Int.reduceToNat, ak]
            refine hJ38 _ ?_
            refine cond_k (b := decide (x0_0 < (rd z31 l0 x0_2).f0)) rfl (fun c39 => ?_) (fun c39 => ?_)
            · replace c39 := of_decide_eq_true c39; rw [if_pos c39] at h
              refine reg_k ?_
              have g40 : (List.replicate 1 ([.int .u64 0, .int .u64 0] : List Value)).flatten = [.int .u64 0, .int .u64 0] := rfl
              have g41 : (⟨.lst, 2, [.sc (.int .u64 x0_0), .sc (.int .u64 ((rd z31 l0 x0_2).f0))]⟩ : Root) = ⟨.lst, 2, encL c31 ([(⟨x0_0, (rd z31 l0 x0_2).f0⟩ : S31)] : List S31)⟩ := rfl
              have g42 : ([(⟨x0_0, (rd z31 l0 x0_2).f0⟩ : S31)] : List S31).length = 1 := rfl
              have g43 : (encL c31 ([(⟨x0_0, (rd z31 l0 x0_2).f0⟩ : S31)] : List S31)).length = 1 * 2 := by simp [encL_length c31_w]
              have g44 : (encL c31 ([(⟨x0_0, (rd z31 l0 x0_2).f0⟩ : S31)] : List S31)).all nd = true := rfl
              obtain ⟨b45, h⟩ := of_guard h
              have g46 : appLim x0_5.length 1 16 := ⟨b45, by have := b45; omega⟩
              have g47 : (encL c31 x0_5).length = x0_5.length * 2 := by simp [encL_length c31_w]
              have g48 : encL c31 x0_5 ++ encL c31 ([(⟨x0_0, (rd z31 l0 x0_2).f0⟩ : S31)] : List S31) = encL c31 (x0_5 ++ ([(⟨x0_0, (rd z31 l0 x0_2).f0⟩ : S31)] : List S31)) := (encL_append _ _).symm
              simp +decide only [Nat.reduceAdd, Nat.reduceMul, Int.reduceToNat, ak, g40, g41, g42, g43, g44, g46, g47, g48]
              obtain rfl := Option.some.inj h
              refine G37n _ _ (wk [3, 6, 9, 16, 17, 18] [pI (.arg 0) .fz, pI (.tmp 3 0) .box, pI (.tmp 6 20) .lst, pI (.tmp 9 0) .box] (h0 := by first | rfl | simp +decide only [ak, akF, b23, b45]) (h := by first | rfl | (simp +decide only [ak, akF, b23, b45]; done) | (simp +decide [ak, akF, b23, b45] <;> omega))) (hJ36 _ rfl)
            · replace c39 := of_decide_eq_false c39; rw [if_neg c39] at h
              obtain rfl := Option.some.inj h
              refine G37n _ _ (wk [3, 6, 9, 16, 17, 18] [pI (.arg 0) .fz, pI (.tmp 3 0) .box, pI (.tmp 6 20) .lst, pI (.tmp 9 0) .box]) (hJ36 _ rfl)
          · replace h := hn; clear hn h35
            rintro _ rfl
            refine reg_k ?_
            simp +decide only [Nat.reduceAdd, Nat.reduceMul, Int.reduceToNat, ak]
            refine B21n _ ?_
            obtain rfl := Option.some.inj h
            refine G20n _ _ (wk [3, 6, 7, 16, 17, 18] [pI (.arg 0) .fz, pI (.tmp 3 0) .box, pI (.tmp 6 20) .lst]) (hJ19 _ rfl)
    · replace h := hn; clear hn h18
      rintro _ rfl
      refine reg_k ?_
      simp +decide only [Nat.reduceAdd, Nat.reduceMul, Int.reduceToNat, ak]
      refine G0n _ _ (wk [3, 6, 7, 16, 17, 18] [pI (.arg 0) .fz, pI (.tmp 3 0) .box, pI (.tmp 6 20) .lst]) (ih _ _ _ _ h K hx0)
  · replace c16 := of_decide_eq_false c16; rw [if_neg c16] at h
    obtain rfl := Option.some.inj h
    refine gh_k (wk [3, 6, 7] [pI (.arg 0) .fz, pI (.tmp 3 0) .box, pI (.tmp 6 20) .lst]) ?_
    refine G0x _ _ ?_
    exact hx0
theorem impl_SpanGaps.tri (cs0 : List Cell) (o0 : Nat) (l0 : List S31) (hv0 : Vw c31 2 cs0 o0 l0) (a1_0 : Int) (a1_1 : Int) (r : (List S31) × Int) (h : impl_SpanGaps.f l0 a1_0 a1_1 = some r) : Tri Try.prog 23 [.c (.ref (.arg 0) [] o0 l0.length), .g [.sc (.int .u64 a1_0), .sc (.int .u64 a1_1)]] [(.arg 0, ⟨.fz, 2, cs0⟩)] (fun o => o = ⟨.tup [(false, [.ref (.res 0) [] 0 r.1.length]), (false, [.sc (.int .i64 r.2)])], [(.arg 0, ⟨.fz, 2, cs0⟩), (.res 0, ⟨.lst, 2, encL c31 r.1⟩)], [], []⟩) := by
  refine tri_of_body (ac := C23) (xs := r23) Try.func23 (show Try.f23.body = some (Try.f23.body.getD .skip) from rfl) k23 q23 (Nat.le_of_ble_eq_true rfl) ?_
  refine body_of fun K hKn hKr => ?_
  unfold impl_SpanGaps.f at h
  unfold C23
  simp only [initT, Nat.reduceAdd]
  refine sr_k fun J1 hJ1 => ?_
  simp +decide only [Nat.reduceAdd, Nat.reduceMul, Int.reduceToNat, ak]
  refine gho_k (Weak.nm' 4 (.tmp 4 20) 2 (encL c31 ([] : List S31)) rfl rfl rfl) ?_
  simp +decide only [Nat.reduceAdd, Nat.reduceMul, Int.reduceToNat, ak]
  refine hJ1 _ ?_
  refine seq_k fun J2 hJ2 => ?_
  refine sr_k fun J3 hJ3 => ?_
  simp +decide only [Nat.reduceAdd, Nat.reduceMul, Int.reduceToNat, ak]
  obtain ⟨t4, h5, h⟩ := of_bind h
  refine call_m [(.arg 0, ⟨(.arg 0), [], none, .fz⟩)] (s0 := [(.arg 0, ⟨.fz, 2, cs0⟩)]) (by intro t ht; cases ht; decide) rfl rfl (by first | rfl | simp only [reduceCtorEq, Nat.reduceEqDiff, ak, akF]) (impl_validSpans.tri (cs0) o0 l0 hv0 a1_0 a1_1 _ h5) (by first | rfl | simp only [reduceCtorEq, Nat.reduceEqDiff, ak, akF]) (by simp [bkOk2, memK]) (fun hl5 => ?_)
  refine call_st (s4 := [(.arg 0, ⟨.fz, 2, cs0⟩), (.tmp 3 0, ⟨.box, 0, [.sc (.int .u64 a1_0), .sc (.int .u64 a1_1)]⟩), (.tmp 4 20, ⟨.lst, 2, encL c31 ([] : List S31)⟩)]) (m1' := []) (m2' := []) (v' := .c (.sc (.bool t4))) (Sto.mapN_killNil _ _) (mrgL_fz (mrgL_nil' _ _ _) rfl (by first | rfl | simp only [reduceCtorEq, Nat.reduceEqDiff, ak]) rfl (by intro R hR hh; cases hR; cases hh.2)) (by rfl) (mapT_killNil _ _) (by rfl) (by rfl) (by first | rfl | simp only [reduceCtorEq, Nat.reduceEqDiff, ak, akF, Nat.zero_add, List.append_nil]) ?_
  simp +decide only [Nat.reduceAdd, Nat.reduceMul, Int.reduceToNat, ak]
  refine hJ3 _ ?_
  refine cond_k (b := !t4) rfl (fun c7 => ?_) (fun c7 => ?_)
  · rw [if_pos c7] at h
    refine sr_k fun J8 hJ8 => ?_
    simp +decide only [Nat.reduceAdd, Nat.reduceMul, Int.reduceToNat, ak]
    refine gho_k ((Weak.drop [.tmp 4 20]).trans (Weak.nm' 4 (.tmp 4 20) 2 (encL c31 ([] : List S31)) rfl rfl rfl)) ?_
    simp +decide only [Nat.reduceAdd, Nat.reduceMul, Int.reduceToNat, ak]
    refine hJ8 _ ?_
    obtain rfl := Option.some.inj h
    refine hKr _ ⟨_, rfl, [⟨(.tmp 4 20), [], none, .lst⟩], _, rfl, rfl, ?_⟩
    first | rfl | (simp only [reduceCtorEq, Nat.reduceEqDiff, ak, akF]; done) | (simp [reduceCtorEq, Nat.reduceEqDiff, ak, akF] <;> omega)
  · rw [if_neg (Bool.eq_false_iff.1 c7)] at h
    refine hJ2 _ ?_
    refine sr_k fun J9 hJ9 => ?_
    simp +decide only [Nat.reduceAdd, Nat.reduceMul, Int.reduceToNat, ak]
    refine gho_k (Weak.nm' 6 (.tmp 6 20) 2 (encL c31 ([] : List S31)) rfl rfl rfl) ?_
    simp +decide only [Nat.reduceAdd, Nat.reduceMul, Int.reduceToNat, ak]
    refine hJ9 _ ?_
    refine sr_k fun J10 hJ10 => ?_
    simp +decide only [Nat.reduceAdd, Nat.reduceMul, Int.reduceToNat, ak]
    refine hJ10 _ ?_
    refine seq_k fun J11 hJ11 => ?_
    refine sr_k fun J12 hJ12 => ?_
    simp +decide only [Nat.reduceAdd, Nat.reduceMul, Int.reduceToNat, ak]
    refine hJ12 _ ?_
    refine block_k fun B13 B13n B13x B13r B13j => ?_
    obtain ⟨y49, h50, h⟩ := of_bind h
    refine gh_k (st' := ⟨[(3, .c (.ptr (.tmp 3 0) [] 0)), (6, .c (.ref (.tmp 6 20) [] 0 (([] : List S31).length))), (7, .c (.sc (.int .u64 a1_0))), (16, .c (.ref (.arg 0) [] o0 l0.length)), (17, .c (.sc (.int .i64 (l0.length : Int)))), (18, .c (.sc (.int .i64 0)))], [(.arg 0, ⟨.fz, 2, cs0⟩), (.tmp 3 0, ⟨.box, 0, [.sc (.int .u64 a1_0), .sc (.int .u64 a1_1)]⟩), (.tmp 6 20, ⟨.lst, 2, encL c31 ([] : List S31)⟩)], [], []⟩) (wk [3, 6, 7, 16, 17, 18] [pI (.arg 0) .fz, pI (.tmp 3 0) .box, pI (.tmp 6 20) .lst] (h := by first | rfl | (simp +decide only [ak, akF]; done) | (simp +decide [ak, akF] <;> omega))) ?_
    rw [e_loop]
    refine impl_SpanGaps.l0_walk cs0 o0 l0 hv0 (l0.length : Int) a1_0 a1_1 a1_0 0 ([] : List S31) _ h50 _ ?_
    refine B13x _ ?_
    refine hJ11 _ ?_
    obtain ⟨j51, h52, hn⟩ := of_bind h
    refine seq_j (fun st => st = ⟨[(6, .c (.ref (.tmp 6 20) [] 0 j51.length))], [(.arg 0, ⟨.fz, 2, cs0⟩), (.tmp 6 20, ⟨.lst, 2, encL c31 j51⟩)], [], []⟩) (fun J53 hJ53 => ?_) ?_
    · replace h := h52; clear hn
      refine ga_k fun G54 G54n G54r G54x => ?_
      refine sr_k fun J55 hJ55 => ?_
      simp +decide only [Nat.reduceAdd, Nat.reduceMul, Int.reduceToNat, ak]
      refine hJ55 _ ?_
      refine cond_k (b := decide (y49.1 < a1_1)) rfl (fun c56 => ?_) (fun c56 => ?_)
      · replace c56 := of_decide_eq_true c56; rw [if_pos c56] at h
        refine reg_k ?_
        have g57 : (List.replicate 1 ([.int .u64 0, .int .u64 0] : List Value)).flatten = [.int .u64 0, .int .u64 0] := rfl
        have g58 : (⟨.lst, 2, [.sc (.int .u64 y49.1), .sc (.int .u64 a1_1)]⟩ : Root) = ⟨.lst, 2, encL c31 ([(⟨y49.1, a1_1⟩ : S31)] : List S31)⟩ := rfl
        have g59 : ([(⟨y49.1, a1_1⟩ : S31)] : List S31).length = 1 := rfl
        have g60 : (encL c31 ([(⟨y49.1, a1_1⟩ : S31)] : List S31)).length = 1 * 2 := by simp [encL_length c31_w]
        have g61 : (encL c31 ([(⟨y49.1, a1_1⟩ : S31)] : List S31)).all nd = true := rfl
        obtain ⟨b62, h⟩ := of_guard h
        have g63 : appLim y49.2.length 1 16 := ⟨b62, by have := b62; omega⟩
        have g64 : (encL c31 y49.2).length = y49.2.length * 2 := by simp [encL_length c31_w]
        have g65 : encL c31 y49.2 ++ encL c31 ([(⟨y49.1, a1_1⟩ : S31)] : List S31) = encL c31 (y49.2 ++ ([(⟨y49.1, a1_1⟩ : S31)] : List S31)) := (encL_append _ _).symm
        simp +decide only [Nat.reduceAdd, Nat.reduceMul, Int.reduceToNat, ak, g57, g58, g59, g60, g61, g63, g64, g65]
        obtain rfl := Option.some.inj h
        refine G54n _ _ (wk [6] [pI (.arg 0) .fz, pI (.tmp 6 20) .lst] (h0 := by first | rfl | simp +decide only [ak, akF, b62]) (h := by first | rfl | (simp +decide only [ak, akF, b62]; done) | (simp +decide [ak, akF, b62] <;> omega))) (hJ53 _ rfl)
      · replace c56 := of_decide_eq_false c56; rw [if_neg c56] at h
        obtain rfl := Option.some.inj h
        refine G54n _ _ (wk [6] [pI (.arg 0) .fz, pI (.tmp 6 20) .lst]) (hJ53 _ rfl)
    · replace h := hn; clear hn h52
      rintro _ rfl
      refine sr_k fun J66 hJ66 => ?_
      simp +decide only [Nat.reduceAdd, Nat.reduceMul, Int.reduceToNat, ak]
      obtain ⟨t67, h68, h⟩ := of_bind h
      rcases hpo : t67.1 with _ | p71
      · have hpp69 := hpo
        rw [hpo] at h; dsimp only at h
        refine call_m [(.arg 0, ⟨(.tmp 6 20), [], none, .fz⟩)] (s0 := [(.arg 0, ⟨.fz, 2, encL c31 j51⟩)]) (by intro t ht; cases ht; decide) rfl rfl (by first | rfl | simp only [reduceCtorEq, Nat.reduceEqDiff, ak, akF]) (impl_limited.tri0 (encL c31 j51) 0 j51 (Vw.whole c31_w j51) _ h68 hpp69) (by first | rfl | simp only [reduceCtorEq, Nat.reduceEqDiff, ak, akF]) (by simp [bkOk2, memK]) (fun hl69 => ?_)
        refine call_st (s4 := [(.arg 0, ⟨.fz, 2, cs0⟩), (.tmp 6 20, ⟨.lst, 2, encL c31 j51⟩)]) (m1' := []) (m2' := []) (v' := .tup [(false, [.ref (.tmp 6 20) [] 0 j51.length]), (false, [.sc (.int .i64 t67.2)])]) (Sto.mapN_killNil _ _) (mrgL_fz (mrgL_nil' _ _ _) rfl (by first | rfl | simp only [reduceCtorEq, Nat.reduceEqDiff, ak]) rfl (by intro R hR hh; cases hR; cases hh.2)) (by rfl) (mapT_killNil _ _) (by rfl) (by rfl) (by first | rfl | simp only [reduceCtorEq, Nat.reduceEqDiff, ak, akF, Nat.zero_add, List.append_nil]) ?_
        simp +decide only [Nat.reduceAdd, Nat.reduceMul, Int.reduceToNat, ak]
        refine hJ66 _ ?_
        obtain rfl := Option.some.inj h
        refine hKr _ ⟨_, rfl, [⟨(.tmp 6 20), [], none, .lst⟩], _, rfl, rfl, ?_⟩
        first | rfl | (simp only [reduceCtorEq, Nat.reduceEqDiff, ak, akF]; done) | (simp [reduceCtorEq, Nat.reduceEqDiff, ak, akF] <;> omega)
      · have hpp71 := hpo
        rw [hpo] at h; dsimp only at h
        refine call_m [(.arg 0, ⟨(.tmp 6 20), [], none, .fz⟩)] (s0 := [(.arg 0, ⟨.fz, 2, encL c31 j51⟩)]) (by intro t ht; cases ht; decide) rfl rfl (by first | rfl | simp only [reduceCtorEq, Nat.reduceEqDiff, ak, akF]) (impl_limited.tri1 (encL c31 j51) 0 j51 (Vw.whole c31_w j51) _ h68 _ hpp71) (by first | rfl | simp only [reduceCtorEq, Nat.reduceEqDiff, ak, akF]) (by simp [bkOk2, memK]) (fun hl71 => ?_)
        refine call_st (s4 := [(.arg 0, ⟨.fz, 2, cs0⟩), (.tmp 6 20, ⟨.lst, 2, encL c31 j51⟩), (.tmp 59 0, ⟨.lst, 2, encL c31 p71⟩)]) (m1' := []) (m2' := []) (v' := .tup [(false, [.ref (.tmp 59 0) [] 0 p71.length]), (false, [.sc (.int .i64 t67.2)])]) (Sto.mapN_killNil _ _) (mrgL_fz (mrgL_nil' _ _ _) rfl (by first | rfl | simp only [reduceCtorEq, Nat.reduceEqDiff, ak]) rfl (by intro R hR hh; cases hR; cases hh.2)) (by rfl) (mapT_killNil _ _) (by rfl) (by rfl) (by first | rfl | simp only [reduceCtorEq, Nat.reduceEqDiff, ak, akF, Nat.zero_add, List.append_nil]) ?_
        simp +decide only [Nat.reduceAdd, Nat.reduceMul, Int.reduceToNat, ak]
        refine hJ66 _ ?_
        obtain rfl := Option.some.inj h
        refine hKr _ ⟨_, rfl, [⟨(.tmp 59 0), [], none, .lst⟩], _, rfl, rfl, ?_⟩
        first | rfl | (simp only [reduceCtorEq, Nat.reduceEqDiff, ak, akF]; done) | (simp [reduceCtorEq, Nat.reduceEqDiff, ak, akF] <;> omega)
/-! ### impl.mark: function 71 -/
def C71 : AC := .seq (.reg [.op none (.mv 2 (.const (.int .i64 0))), .keep [0]]) (.seq (.seq (.reg [.op none (.mv 3 (.tmp 0)), .keep [3]]) (.cond (.tmp 3) (.seq (.reg [.op none (.mv 2 (.const (.int .i64 1))), .keep [2]]) (.ret)) (.skip))) (.seq (.reg [.op none (.mv 2 (.const (.int .i64 0))), .keep [2]]) (.ret)))
def r71 : List RV := [.tmp 2]
theorem k71 : compC Try.prog 4 C71 (Try.f71.body.getD .skip) = some C71.erase := by kernel_rfl
theorem q71 : rvsOf Try.prog Try.f71.results.toList = some r71 := by kernel_rfl
def impl_mark.f (a0 : Bool) : Option Int := (if a0 = true then (some 1) else (some 0))
theorem impl_mark.tri (a0 : Bool) (r : Int) (h : impl_mark.f a0 = some r) : Tri Try.prog 71 [.c (.sc (.bool a0))] [] (fun o => o = ⟨.c (.sc (.int .i64 r)), [], [], []⟩) := by
  refine tri_of_body (ac := C71) (xs := r71) Try.func71 (show Try.f71.body = some (Try.f71.body.getD .skip) from rfl) k71 q71 (Nat.le_of_ble_eq_true rfl) ?_
  refine body_of fun K hKn hKr => ?_
  unfold impl_mark.f at h
  unfold C71
  simp only [initT, Nat.reduceAdd]
  refine sr_k fun J1 hJ1 => ?_
  simp +decide only [Nat.reduceAdd, Nat.reduceMul, Int.reduceToNat, ak]
  refine hJ1 _ ?_
  refine seq_k fun J2 hJ2 => ?_
  refine sr_k fun J3 hJ3 => ?_
  simp +decide only [Nat.reduceAdd, Nat.reduceMul, Int.reduceToNat, ak]
  refine hJ3 _ ?_
  refine cond_k (b := a0) rfl (fun c4 => ?_) (fun c4 => ?_)
  · rw [if_pos c4] at h
    refine sr_k fun J5 hJ5 => ?_
    simp +decide only [Nat.reduceAdd, Nat.reduceMul, Int.reduceToNat, ak]
    refine hJ5 _ ?_
    obtain rfl := Option.some.inj h
    refine hKr _ ⟨_, rfl, [], _, rfl, rfl, ?_⟩
    first | rfl | (simp only [reduceCtorEq, Nat.reduceEqDiff, ak, akF]; done) | (simp [reduceCtorEq, Nat.reduceEqDiff, ak, akF] <;> omega)
  · rw [if_neg (Bool.eq_false_iff.1 c4)] at h
    refine hJ2 _ ?_
    refine sr_k fun J6 hJ6 => ?_
    simp +decide only [Nat.reduceAdd, Nat.reduceMul, Int.reduceToNat, ak]
    refine hJ6 _ ?_
    obtain rfl := Option.some.inj h
    refine hKr _ ⟨_, rfl, [], _, rfl, rfl, ?_⟩
    first | rfl | (simp only [reduceCtorEq, Nat.reduceEqDiff, ak, akF]; done) | (simp [reduceCtorEq, Nat.reduceEqDiff, ak, akF] <;> omega)
/-! ### impl.SpanHas: function 24 -/
def C24 : AC := .seq (.reg [.op none (.box 3 (.tmp 1)), .op none (.mv 4 (.const (.int .i64 0))), .op none (.mv 5 (.const (.int .i64 0))), .keep [0, 3]]) (.seq (.reg [.op none (.mv 9 (.tmp 0)), .op none (.load 10 true 2 (.tmp 3)), .call none (some 11) 23 [.tmp 9, .tmp 10], .op none (.mv 8 (.tmp 11)), .op none (.extr 12 (.tmp 8) 0), .op none (.extr 13 (.tmp 8) 1), .op none (.mv 6 (.tmp 12)), .op none (.mv 7 (.tmp 13)), .keep [6, 7]]) (.seq (.seq (.reg [.op none (.mv 14 (.tmp 7)), .op none (.bin 15 .eql (.tmp 14) (.const (.int .i64 1))), .keep [6, 7, 15]]) (.cond (.tmp 15) (.seq (.reg [.op none (.mv 16 (.tmp 7)), .op none (.mv 4 (.const (.int .i64 0))), .op none (.mv 5 (.tmp 16)), .keep [4, 5]]) (.ret)) (.skip))) (.seq (.reg [.op none (.mv 17 (.tmp 6)), .op none (.len 18 (.tmp 17)), .op none (.bin 19 .eql (.tmp 18) (.const (.int .i64 0))), .op none (.mv 20 (.tmp 19)), .op (some (20, true)) (.mv 21 (.tmp 7)), .op (some (20, true)) (.bin 22 .eql (.tmp 21) (.const (.int .i64 0))), .op none (.pick 23 (.tmp 20) (.tmp 22) (.const (.bool false))), .call none (some 24) 71 [.tmp 23], .op none (.mv 4 (.tmp 24)), .op none (.mv 5 (.const (.int .i64 0))), .keep [4, 5]]) (.ret))))
def r24 : List RV := [.tmp 4, .tmp 5]
theorem k24 : compC Try.prog 25 C24 (Try.f24.body.getD .skip) = some C24.erase := by kernel_rfl
theorem q24 : rvsOf Try.prog Try.f24.results.toList = some r24 := by kernel_rfl
def impl_SpanHas.f (l0 : List S31) (a1_0 : Int) (a1_1 : Int) : Option (Int × Int) := (impl_SpanGaps.f l0 a1_0 a1_1 >>= fun t3 => (if t3.2 = 1 then (some (0, t3.2)) else (if (t3.1.length : Int) = 0 then (impl_mark.f (decide (t3.2 = 0)) >>= fun t13 => (some (t13, 0))) else (impl_mark.f false >>= fun t17 => (some (t17, 0))))))
theorem impl_SpanHas.tri (cs0 : List Cell) (o0 : Nat) (l0 : List S31) (hv0 : Vw c31 2 cs0 o0 l0) (a1_0 : Int) (a1_1 : Int) (r : Int × Int) (h : impl_SpanHas.f l0 a1_0 a1_1 = some r) : Tri Try.prog 24 [.c (.ref (.arg 0) [] o0 l0.length), .g [.sc (.int .u64 a1_0), .sc (.int .u64 a1_1)]] [(.arg 0, ⟨.fz, 2, cs0⟩)] (fun o => o = ⟨.tup [(false, [.sc (.int .i64 r.1)]), (false, [.sc (.int .i64 r.2)])], [(.arg 0, ⟨.fz, 2, cs0⟩)], [], []⟩) := by
  refine tri_of_body (ac := C24) (xs := r24) Try.func24 (show Try.f24.body = some (Try.f24.body.getD .skip) from rfl) k24 q24 (Nat.le_of_ble_eq_true rfl) ?_
  refine body_of fun K hKn hKr => ?_
  unfold impl_SpanHas.f at h
  unfold C24
  simp only [initT, Nat.reduceAdd]
  refine sr_k fun J1 hJ1 => ?_
  simp +decide only [Nat.reduceAdd, Nat.reduceMul, Int.reduceToNat, ak]
  refine hJ1 _ ?_
  refine sr_k fun J2 hJ2 => ?_
  simp +decide only [Nat.reduceAdd, Nat.reduceMul, Int.reduceToNat, ak]
  obtain ⟨t3, h4, h⟩ := of_bind h
  refine call_m [(.arg 0, ⟨(.arg 0), [], none, .fz⟩)] (s0 := [(.arg 0, ⟨.fz, 2, cs0⟩)]) (by intro t ht; cases ht; decide) rfl rfl (by first | rfl | simp only [reduceCtorEq, Nat.reduceEqDiff, ak, akF]) (impl_SpanGaps.tri (cs0) o0 l0 hv0 a1_0 a1_1 _ h4) (by first | rfl | simp only [reduceCtorEq, Nat.reduceEqDiff, ak, akF]) (by simp [bkOk2, memK]) (fun hl4 => ?_)
  refine call_st (s4 := [(.arg 0, ⟨.fz, 2, cs0⟩), (.tmp 3 0, ⟨.box, 0, [.sc (.int .u64 a1_0), .sc (.int .u64 a1_1)]⟩), (.tmp 11 0, ⟨.lst, 2, encL c31 t3.1⟩)]) (m1' := []) (m2' := []) (v' := .tup [(false, [.ref (.tmp 11 0) [] 0 t3.1.length]), (false, [.sc (.int .i64 t3.2)])]) (Sto.mapN_killNil _ _) (mrgL_fz (mrgL_nil' _ _ _) rfl (by first | rfl | simp only [reduceCtorEq, Nat.reduceEqDiff, ak]) rfl (by intro R hR hh; cases hR; cases hh.2)) (by rfl) (mapT_killNil _ _) (by rfl) (by rfl) (by first | rfl | simp only [reduceCtorEq, Nat.reduceEqDiff, ak, akF, Nat.zero_add, List.append_nil]) ?_
  simp +decide only [Nat.reduceAdd, Nat.reduceMul, Int.reduceToNat, ak]
  refine hJ2 _ ?_
  refine seq_k fun J6 hJ6 => ?_
  refine sr_k fun J7 hJ7 => ?_
  simp +decide only [Nat.reduceAdd, Nat.reduceMul, Int.reduceToNat, ak]
  refine hJ7 _ ?_
  refine cond_k (b := decide (t3.2 = 1)) rfl (fun c8 => ?_) (fun c8 => ?_)
  · replace c8 := of_decide_eq_true c8; rw [if_pos c8] at h
    refine sr_k fun J9 hJ9 => ?_
    simp +decide only [Nat.reduceAdd, Nat.reduceMul, Int.reduceToNat, ak]
    refine hJ9 _ ?_
    obtain rfl := Option.some.inj h
    refine hKr _ ⟨_, rfl, [], _, rfl, rfl, ?_⟩
    first | rfl | (simp only [reduceCtorEq, Nat.reduceEqDiff, ak, akF]; done) | (simp [reduceCtorEq, Nat.reduceEqDiff, ak, akF] <;> omega)
  · replace c8 := of_decide_eq_false c8; rw [if_neg c8] at h
    refine hJ6 _ ?_
    refine sr_k fun J10 hJ10 => ?_
    simp +decide only [Nat.reduceAdd, Nat.reduceMul, Int.reduceToNat, ak]
    by_cases c11 : (t3.1.length : Int) = 0
    · rw [if_pos c11] at h
      have e12 : decide ((t3.1.length : Int) = 0) = true := decide_eq_true c11
      simp +decide only [Nat.reduceAdd, Nat.reduceMul, Int.reduceToNat, ak, e12]
      obtain ⟨t13, h14, h⟩ := of_bind h
      refine call_m [] (s0 := []) (by intro t ht; cases ht; decide) rfl rfl (by first | rfl | simp only [reduceCtorEq, Nat.reduceEqDiff, ak, akF, e12]) (impl_mark.tri (decide (t3.2 = 0)) _ h14) (by first | rfl | simp only [reduceCtorEq, Nat.reduceEqDiff, ak, akF]) (by simp [bkOk2, memK]) (fun hl14 => ?_)
      refine call_st (s4 := [(.arg 0, ⟨.fz, 2, cs0⟩), (.tmp 3 0, ⟨.box, 0, [.sc (.int .u64 a1_0), .sc (.int .u64 a1_1)]⟩), (.tmp 11 0, ⟨.lst, 2, encL c31 t3.1⟩)]) (m1' := []) (m2' := []) (v' := .c (.sc (.int .i64 t13))) (Sto.mapN_killNil _ _) (mrgL_nil' _ _ _) (by rfl) (mapT_killNil _ _) (by rfl) (by rfl) (by first | rfl | simp only [reduceCtorEq, Nat.reduceEqDiff, ak, akF, Nat.zero_add, List.append_nil, e12]) ?_
      simp +decide only [Nat.reduceAdd, Nat.reduceMul, Int.reduceToNat, ak]
      refine hJ10 _ ?_
      obtain rfl := Option.some.inj h
      refine hKr _ ⟨_, rfl, [], _, rfl, rfl, ?_⟩
      first | rfl | (simp only [reduceCtorEq, Nat.reduceEqDiff, ak, akF, e12]; done) | (simp [reduceCtorEq, Nat.reduceEqDiff, ak, akF, e12] <;> omega)
    · rw [if_neg c11] at h
      have e16 : decide ((t3.1.length : Int) = 0) = false := decide_eq_false c11
      simp +decide only [Nat.reduceAdd, Nat.reduceMul, Int.reduceToNat, ak, e16]
      obtain ⟨t17, h18, h⟩ := of_bind h
      refine call_m [] (s0 := []) (by intro t ht; cases ht; decide) rfl rfl (by first | rfl | simp only [reduceCtorEq, Nat.reduceEqDiff, ak, akF, e16]) (impl_mark.tri false _ h18) (by first | rfl | simp only [reduceCtorEq, Nat.reduceEqDiff, ak, akF]) (by simp [bkOk2, memK]) (fun hl18 => ?_)
      refine call_st (s4 := [(.arg 0, ⟨.fz, 2, cs0⟩), (.tmp 3 0, ⟨.box, 0, [.sc (.int .u64 a1_0), .sc (.int .u64 a1_1)]⟩), (.tmp 11 0, ⟨.lst, 2, encL c31 t3.1⟩)]) (m1' := []) (m2' := []) (v' := .c (.sc (.int .i64 t17))) (Sto.mapN_killNil _ _) (mrgL_nil' _ _ _) (by rfl) (mapT_killNil _ _) (by rfl) (by rfl) (by first | rfl | simp only [reduceCtorEq, Nat.reduceEqDiff, ak, akF, Nat.zero_add, List.append_nil, e16]) ?_
      simp +decide only [Nat.reduceAdd, Nat.reduceMul, Int.reduceToNat, ak]
      refine hJ10 _ ?_
      obtain rfl := Option.some.inj h
      refine hKr _ ⟨_, rfl, [], _, rfl, rfl, ?_⟩
      first | rfl | (simp only [reduceCtorEq, Nat.reduceEqDiff, ak, akF, e16]; done) | (simp [reduceCtorEq, Nat.reduceEqDiff, ak, akF, e16] <;> omega)
/-! ### impl.SpanSize: function 25 -/
def C25_l0 : AC := .seq (.reg [.op none (.bin 18 .lss (.tmp 17) (.tmp 16)), .keep [3, 6, 15, 16, 17, 18]]) (.seq (.cond (.tmp 18) (.skip) (.gh (.exit 0))) (.seq (.ga (.block 1 (.seq (.reg [.op none (.iaddr 19 2 (.tmp 15) (.tmp 17)), .op none (.load 20 true 2 (.tmp 19)), .op none (.alloc 8 [.int .u64 0, .int .u64 0]), .op none (.store 2 (.tmp 8) (.tmp 20)), .keep [3, 6, 8, 15, 16, 17]]) (.seq (.regD (.first (.op none (.faddr 21 0 (.tmp 8))) (.first (.op none (.load 22 false 1 (.tmp 21))) (.first (.op none (.faddr 23 0 (.tmp 3))) (.first (.op none (.load 24 false 1 (.tmp 23))) (.first (.op none (.mm 25 true [.tmp 22, .tmp 24])) (.first (.op none (.faddr 26 1 (.tmp 8))) (.first (.op none (.load 27 false 1 (.tmp 26))) (.first (.op none (.faddr 28 1 (.tmp 3))) (.first (.op none (.load 29 false 1 (.tmp 28))) (.first (.op none (.mm 30 false [.tmp 27, .tmp 29])) (.first (.op none (.mv 9 (.tmp 25))) (.first (.op none (.mv 10 (.tmp 30))) (.done))))))))))))) [3, 6, 9, 10, 15, 16, 17]) (.seq (.reg [.op none (.mv 31 (.tmp 9)), .op none (.mv 32 (.tmp 10)), .op none (.bin 33 .lss (.tmp 31) (.tmp 32)), .keep [3, 6, 9, 10, 15, 16, 17, 33]]) (.cond (.tmp 33) (.reg [.op none (.mv 34 (.tmp 6)), .op none (.mv 35 (.tmp 10)), .op none (.mv 36 (.tmp 9)), .op none (.bin 37 .sub (.tmp 35) (.tmp 36)), .op none (.bin 38 .add (.tmp 34) (.tmp 37)), .op none (.mv 6 (.tmp 38)), .keep [3, 6, 15, 16, 17]]) (.skip))))))) (.reg [.op none (.bin 39 .add (.tmp 17) (.const (.int .i64 1))), .op none (.mv 17 (.tmp 39)), .keep [3, 6, 15, 16, 17]])))
def C25 : AC := .seq (.reg [.op none (.box 3 (.tmp 1)), .op none (.mv 4 (.const (.int .u64 0))), .op none (.mv 5 (.const (.int .i64 0))), .keep [0, 3]]) (.seq (.seq (.reg [.op none (.mv 11 (.tmp 0)), .op none (.load 12 true 2 (.tmp 3)), .call none (some 13) 66 [.tmp 11, .tmp 12], .op none (.un 14 .not (.tmp 13)), .keep [0, 3, 14]]) (.cond (.tmp 14) (.seq (.reg [.op none (.mv 4 (.const (.int .u64 0))), .op none (.mv 5 (.const (.int .i64 1))), .keep [4, 5]]) (.ret)) (.skip))) (.seq (.reg [.op none (.mv 6 (.const (.int .u64 0))), .keep [0, 3, 6]]) (.seq (.seq (.reg [.op none (.mv 15 (.tmp 0)), .op none (.len 16 (.tmp 15)), .op none (.mv 17 (.const (.int .i64 0))), .keep [3, 6, 15, 16, 17]]) (.block 0 (.gh (.loop (.ga C25_l0))))) (.seq (.reg [.op none (.mv 40 (.tmp 6)), .op none (.mv 4 (.tmp 40)), .op none (.mv 5 (.const (.int .i64 0))), .keep [4, 5]]) (.ret)))))
def r25 : List RV := [.tmp 4, .tmp 5]
theorem k25 : compC Try.prog 41 C25 (Try.f25.body.getD .skip) = some C25.erase := by kernel_rfl
theorem q25 : rvsOf Try.prog Try.f25.results.toList = some r25 := by kernel_rfl
def impl_SpanSize.l0 (l0 : List S31) (x0_1 : Int) (x0_3 : Int) (x0_4 : Int) (x0_0 : Int) (x0_2 : Int) : Option Int := (if x0_2 < x0_1 then ((if 0 ≤ x0_2 ∧ x0_2 < (l0.length : Int) then (if (if x0_3 > ((rd z31 l0 x0_2).f0) then x0_3 else (rd z31 l0 x0_2).f0) < (if x0_4 < ((rd z31 l0 x0_2).f1) then x0_4 else (rd z31 l0 x0_2).f1) then (some (IntKind.u64.wrap (x0_0 + (IntKind.u64.wrap ((if x0_4 < ((rd z31 l0 x0_2).f1) then x0_4 else (rd z31 l0 x0_2).f1) - (if x0_3 > ((rd z31 l0 x0_2).f0) then x0_3 else (rd z31 l0 x0_2).f0)))))) else (some x0_0)) else none) >>= fun (j16 : Int) => (impl_SpanSize.l0 l0 x0_1 x0_3 x0_4 j16 (IntKind.i64.wrap (x0_2 + 1)))) else (some x0_0))
  partial_fixpoint
def impl_SpanSize.f (l0 : List S31) (a1_0 : Int) (a1_1 : Int) : Option (Int × Int) := (impl_validSpans.f l0 a1_0 a1_1 >>= fun t4 => (if (!t4) = true then (some (0, 1)) else (impl_SpanSize.l0 l0 (l0.length : Int) a1_0 a1_1 0 0 >>= fun (y27 : Int) => (some (y27, 0)))))
def impl_SpanSize.l0_M (cs0 : List Cell) (o0 : Nat) (l0 : List S31) (hv0 : Vw c31 2 cs0 o0 l0) (x0_1 : Int) (x0_3 : Int) (x0_4 : Int) (x0_0 : Int) (x0_2 : Int) (y : Int) : Prop := ∀ (K : AE → St → Prop), (K (.exit 0) ⟨[(6, .c (.sc (.int .u64 y)))], [(.arg 0, ⟨.fz, 2, cs0⟩)], [], []⟩) → loopS Try.prog 41 (.ga C25_l0) K ⟨[(3, .c (.ptr (.tmp 3 0) [] 0)), (6, .c (.sc (.int .u64 x0_0))), (15, .c (.ref (.arg 0) [] o0 l0.length)), (16, .c (.sc (.int .i64 x0_1))), (17, .c (.sc (.int .i64 x0_2)))], [(.arg 0, ⟨.fz, 2, cs0⟩), (.tmp 3 0, ⟨.box, 0, [.sc (.int .u64 x0_3), .sc (.int .u64 x0_4)]⟩)], [], []⟩
theorem impl_SpanSize.l0_walk (cs0 : List Cell) (o0 : Nat) (l0 : List S31) (hv0 : Vw c31 2 cs0 o0 l0) (x0_1 : Int) (x0_3 : Int) (x0_4 : Int) (x0_0 : Int) (x0_2 : Int) (y : Int) (h : impl_SpanSize.l0 l0 x0_1 x0_3 x0_4 x0_0 x0_2 = some y) : impl_SpanSize.l0_M cs0 o0 l0 hv0 x0_1 x0_3 x0_4 x0_0 x0_2 y := by
  refine impl_SpanSize.l0.partial_correctness l0 x0_1 x0_3 x0_4 (motive := fun x0_0 x0_2 y => impl_SpanSize.l0_M cs0 o0 l0 hv0 x0_1 x0_3 x0_4 x0_0 x0_2 y) ?_ x0_0 x0_2 y h
  clear h
  unfold impl_SpanSize.l0_M
  intro rec ih x0_0 x0_2 y h K hx0
  refine loop_unroll (ga_k fun G0 G0n G0r G0x => ?_)
  unfold C25_l0
  refine sr_k fun J13 hJ13 => ?_
  simp +decide only [Nat.reduceAdd, Nat.reduceMul, Int.reduceToNat, ak]
  refine hJ13 _ ?_
  refine seq_k fun J14 hJ14 => ?_
  refine cond_k (b := decide (x0_2 < x0_1)) rfl (fun c15 => ?_) (fun c15 => ?_)
  · replace c15 := of_decide_eq_true c15; rw [if_pos c15] at h
    refine hJ14 _ ?_
    obtain ⟨j16, h17, hn⟩ := of_bind h
    refine seq_j (fun st => st = ⟨[(3, .c (.ptr (.tmp 3 0) [] 0)), (6, .c (.sc (.int .u64 j16))), (15, .c (.ref (.arg 0) [] o0 l0.length)), (16, .c (.sc (.int .i64 x0_1))), (17, .c (.sc (.int .i64 x0_2)))], [(.arg 0, ⟨.fz, 2, cs0⟩), (.tmp 3 0, ⟨.box, 0, [.sc (.int .u64 x0_3), .sc (.int .u64 x0_4)]⟩)], [], []⟩) (fun J18 hJ18 => ?_) ?_
    · replace h := h17; clear hn
      refine ga_k fun G19 G19n G19r G19x => ?_
      refine block_k fun B20 B20n B20x B20r B20j => ?_
      refine sr_k fun J21 hJ21 => ?_
      obtain ⟨b22, h⟩ := of_guard h
      have g23 : (List.drop (o0 + x0_2.toNat * 2) (cs0)).take 2 = [.sc (.int .u64 ((rd z31 l0 x0_2).f0)), .sc (.int .u64 ((rd z31 l0 x0_2).f1))] := hv0.stretch z31 b22.1 b22.2
      simp +decide only [Nat.reduceAdd, Nat.reduceMul, Int.reduceToNat, ak, b22, g23]
      refine hJ21 _ ?_
      refine sd_k fun J24 hJ24 => ?_
      simp +decide only [Nat.reduceAdd, Nat.reduceMul, Int.reduceToNat, ak, mmF, mm2, scv, List.foldl]
      refine hJ24 _ ?_
      refine sr_k fun J25 hJ25 => ?_
      simp +decide only [Nat.reduceAdd, Nat.reduceMul, Int.reduceToNat, ak]
      refine hJ25 _ ?_
      refine cond_k (b := decide ((if x0_3 > ((rd z31 l0 x0_2).f0) then x0_3 else (rd z31 l0 x0_2).f0) < (if x0_4 < ((rd z31 l0 x0_2).f1) then x0_4 else (rd z31 l0 x0_2).f1))) rfl (fun c26 => ?_) (fun c26 => ?_)
      · replace c26 := of_decide_eq_true c26; rw [if_pos c26] at h
        refine reg_k ?_
        simp +decide only [Nat.reduceAdd, Nat.reduceMul, Int.reduceToNat, ak]
        refine B20n _ ?_
        obtain rfl := Option.some.inj h
        refine G19n _ _ (wk [3, 6, 15, 16, 17] [pI (.arg 0) .fz, pI (.tmp 3 0) .box]) (hJ18 _ rfl)
      · replace c26 := of_decide_eq_false c26; rw [if_neg c26] at h
        refine B20n _ ?_
        obtain rfl := Option.some.inj h
        refine G19n _ _ (wk [3, 6, 15, 16, 17] [pI (.arg 0) .fz, pI (.tmp 3 0) .box]) (hJ18 _ rfl)
    · replace h := hn; clear hn h17
      rintro _ rfl
      refine reg_k ?_
      simp +decide only [Nat.reduceAdd, Nat.reduceMul, Int.reduceToNat, ak]
      refine G0n _ _ (wk [3, 6, 15, 16, 17] [pI (.arg 0) .fz, pI (.tmp 3 0) .box]) (ih _ _ _ h K hx0)
  · replace c15 := of_decide_eq_false c15; rw [if_neg c15] at h
    obtain rfl := Option.some.inj h
    refine gh_k (wk [6] [pI (.arg 0) .fz]) ?_
    refine G0x _ _ ?_
    exact hx0
theorem impl_SpanSize.tri (cs0 : List Cell) (o0 : Nat) (l0 : List S31) (hv0 : Vw c31 2 cs0 o0 l0) (a1_0 : Int) (a1_1 : Int) (r : Int × Int) (h : impl_SpanSize.f l0 a1_0 a1_1 = some r) : Tri Try.prog 25 [.c (.ref (.arg 0) [] o0 l0.length), .g [.sc (.int .u64 a1_0), .sc (.int .u64 a1_1)]] [(.arg 0, ⟨.fz, 2, cs0⟩)] (fun o => o = ⟨.tup [(false, [.sc (.int .u64 r.1)]), (false, [.sc (.int .i64 r.2)])], [(.arg 0, ⟨.fz, 2, cs0⟩)], [], []⟩) := by
  refine tri_of_body (ac := C25) (xs := r25) Try.func25 (show Try.f25.body = some (Try.f25.body.getD .skip) from rfl) k25 q25 (Nat.le_of_ble_eq_true rfl) ?_
  refine body_of fun K hKn hKr => ?_
  unfold impl_SpanSize.f at h
  unfold C25
  simp only [initT, Nat.reduceAdd]
  refine sr_k fun J1 hJ1 => ?_
  simp +decide only [Nat.reduceAdd, Nat.reduceMul, Int.reduceToNat, ak]
  refine hJ1 _ ?_
  refine seq_k fun J2 hJ2 => ?_
  refine sr_k fun J3 hJ3 => ?_
  simp +decide only [Nat.reduceAdd, Nat.reduceMul, Int.reduceToNat, ak]
  obtain ⟨t4, h5, h⟩ := of_bind h
  refine call_m [(.arg 0, ⟨(.arg 0), [], none, .fz⟩)] (s0 := [(.arg 0, ⟨.fz, 2, cs0⟩)]) (by intro t ht; cases ht; decide) rfl rfl (by first | rfl | simp only [reduceCtorEq, Nat.reduceEqDiff, ak, akF]) (impl_validSpans.tri (cs0) o0 l0 hv0 a1_0 a1_1 _ h5) (by first | rfl | simp only [reduceCtorEq, Nat.reduceEqDiff, ak, akF]) (by simp [bkOk2, memK]) (fun hl5 => ?_)
  refine call_st (s4 := [(.arg 0, ⟨.fz, 2, cs0⟩), (.tmp 3 0, ⟨.box, 0, [.sc (.int .u64 a1_0), .sc (.int .u64 a1_1)]⟩)]) (m1' := []) (m2' := []) (v' := .c (.sc (.bool t4))) (Sto.mapN_killNil _ _) (mrgL_fz (mrgL_nil' _ _ _) rfl (by first | rfl | simp only [reduceCtorEq, Nat.reduceEqDiff, ak]) rfl (by intro R hR hh; cases hR; cases hh.2)) (by rfl) (mapT_killNil _ _) (by rfl) (by rfl) (by first | rfl | simp only [reduceCtorEq, Nat.reduceEqDiff, ak, akF, Nat.zero_add, List.append_nil]) ?_
  simp +decide only [Nat.reduceAdd, Nat.reduceMul, Int.reduceToNat, ak]
  refine hJ3 _ ?_
  refine cond_k (b := !t4) rfl (fun c7 => ?_) (fun c7 => ?_)
  · rw [if_pos c7] at h
    refine sr_k fun J8 hJ8 => ?_
    simp +decide only [Nat.reduceAdd, Nat.reduceMul, Int.reduceToNat, ak]
    refine hJ8 _ ?_
    obtain rfl := Option.some.inj h
    refine hKr _ ⟨_, rfl, [], _, rfl, rfl, ?_⟩
    first | rfl | (simp only [reduceCtorEq, Nat.reduceEqDiff, ak, akF]; done) | (simp [reduceCtorEq, Nat.reduceEqDiff, ak, akF] <;> omega)
  · rw [if_neg (Bool.eq_false_iff.1 c7)] at h
    refine hJ2 _ ?_
    refine sr_k fun J9 hJ9 => ?_
    simp +decide only [Nat.reduceAdd, Nat.reduceMul, Int.reduceToNat, ak]
    refine hJ9 _ ?_
    refine seq_k fun J10 hJ10 => ?_
    refine sr_k fun J11 hJ11 => ?_
    simp +decide only [Nat.reduceAdd, Nat.reduceMul, Int.reduceToNat, ak]
    refine hJ11 _ ?_
    refine block_k fun B12 B12n B12x B12r B12j => ?_
    obtain ⟨y27, h28, h⟩ := of_bind h
    refine gh_k (wk [3, 6, 15, 16, 17] [pI (.arg 0) .fz, pI (.tmp 3 0) .box]) ?_
    rw [e_loop]
    refine impl_SpanSize.l0_walk cs0 o0 l0 hv0 (l0.length : Int) a1_0 a1_1 0 0 _ h28 _ ?_
    refine B12x _ ?_
    refine hJ10 _ ?_
    refine sr_k fun J29 hJ29 => ?_
    simp +decide only [Nat.reduceAdd, Nat.reduceMul, Int.reduceToNat, ak]
    refine hJ29 _ ?_
    obtain rfl := Option.some.inj h
    refine hKr _ ⟨_, rfl, [], _, rfl, rfl, ?_⟩
    first | rfl | (simp only [reduceCtorEq, Nat.reduceEqDiff, ak, akF]; done) | (simp [reduceCtorEq, Nat.reduceEqDiff, ak, akF] <;> omega)
/-! ### laws.lSpans: function 26 -/
def C26_l0 : AC := .seq (.seq (.reg [.op none (.mv 11 (.tmp 5)), .op none (.mv 12 (.tmp 0)), .op none (.len 13 (.tmp 12)), .op none (.bin 14 .lss (.tmp 11) (.tmp 13)), .keep [0, 1, 5, 14]]) (.cond (.tmp 14) (.skip) (.gh (.exit 0)))) (.seq (.block 1 (.seq (.regD (.first (.op none (.mv 17 (.tmp 0))) (.first (.op none (.mv 18 (.tmp 5))) (.first (.op none (.iaddr 19 2 (.tmp 17) (.tmp 18))) (.first (.op none (.load 20 true 2 (.tmp 19))) (.first (.op none (.mv 21 (.tmp 1))) (.first (.op none (.mv 22 (.tmp 5))) (.first (.op none (.iaddr 23 2 (.tmp 21) (.tmp 22))) (.first (.op none (.load 24 true 2 (.tmp 23))) (.first (.op none (.aeq 25 true [0, 0] (.tmp 20) (.tmp 24))) (.done)))))))))) [0, 1, 5, 25]) (.cond (.tmp 25) (.seq (.reg [.op none (.mv 4 (.const (.bool false))), .keep [4]]) (.gh .ret)) (.skip)))) (.reg [.op none (.mv 15 (.tmp 5)), .op none (.bin 16 .add (.tmp 15) (.const (.int .i64 1))), .op none (.mv 5 (.tmp 16)), .keep [0, 1, 5]]))
def C26 : AC := .seq (.reg [.op none (.mv 4 (.const (.bool false))), .keep [0, 1]]) (.seq (.seq (.reg [.op none (.mv 6 (.tmp 0)), .op none (.len 7 (.tmp 6)), .op none (.mv 8 (.tmp 1)), .op none (.len 9 (.tmp 8)), .op none (.bin 10 .neq (.tmp 7) (.tmp 9)), .keep [0, 1, 10]]) (.cond (.tmp 10) (.seq (.reg [.op none (.mv 4 (.const (.bool false))), .keep [4]]) (.ret)) (.skip))) (.seq (.seq (.reg [.op none (.mv 5 (.const (.int .i64 0))), .keep [0, 1, 5]]) (.block 0 (.gh (.loop (.ga C26_l0))))) (.seq (.reg [.op none (.mv 4 (.const (.bool true))), .keep [4]]) (.ret))))
def r26 : List RV := [.tmp 4]
theorem k26 : compC Try.prog 26 C26 (Try.f26.body.getD .skip) = some C26.erase := by kernel_rfl
theorem q26 : rvsOf Try.prog Try.f26.results.toList = some r26 := by kernel_rfl
def laws_lSpans.l0 (l0 : List S31) (l1 : List S31) (x0_0 : Int) : Option (Lp Unit Bool) := (if x0_0 < (l0.length : Int) then (if 0 ≤ x0_0 ∧ x0_0 < (l0.length : Int) then (if 0 ≤ x0_0 ∧ x0_0 < (l1.length : Int) then (if (!(decide ((rd z31 l0 x0_0).f0 = (rd z31 l1 x0_0).f0) && decide ((rd z31 l0 x0_0).f1 = (rd z31 l1 x0_0).f1))) = true then (some (.b false)) else (laws_lSpans.l0 l0 l1 (IntKind.i64.wrap (x0_0 + 1)))) else none) else none) else (some (.a ())))
  partial_fixpoint
def laws_lSpans.f (l0 : List S31) (l1 : List S31) : Option Bool := (if (l0.length : Int) ≠ (l1.length : Int) then (some false) else (laws_lSpans.l0 l0 l1 0 >>= fun (y21 : Lp Unit Bool) => match y21 with | .a x23 => (some true) | .b x23 => (some x23)))
def laws_lSpans.l0_M (cs0 : List Cell) (o0 : Nat) (l0 : List S31) (hv0 : Vw c31 2 cs0 o0 l0) (cs1 : List Cell) (o1 : Nat) (l1 : List S31) (hv1 : Vw c31 2 cs1 o1 l1) (x0_0 : Int) (y : Lp Unit Bool) : Prop := ∀ (K : AE → St → Prop), (∀ x, y = .a x → K (.exit 0) ⟨[], [(.arg 0, ⟨.fz, 2, cs0⟩), (.arg 1, ⟨.fz, 2, cs1⟩)], [], []⟩) → (∀ x, y = .b x → K .ret ⟨[(4, .c (.sc (.bool x)))], [(.arg 0, ⟨.fz, 2, cs0⟩), (.arg 1, ⟨.fz, 2, cs1⟩)], [], []⟩) → loopS Try.prog 26 (.ga C26_l0) K ⟨[(0, .c (.ref (.arg 0) [] o0 l0.length)), (1, .c (.ref (.arg 1) [] o1 l1.length)), (5, .c (.sc (.int .i64 x0_0)))], [(.arg 0, ⟨.fz, 2, cs0⟩), (.arg 1, ⟨.fz, 2, cs1⟩)], [], []⟩
theorem laws_lSpans.l0_walk (cs0 : List Cell) (o0 : Nat) (l0 : List S31) (hv0 : Vw c31 2 cs0 o0 l0) (cs1 : List Cell) (o1 : Nat) (l1 : List S31) (hv1 : Vw c31 2 cs1 o1 l1) (x0_0 : Int) (y : Lp Unit Bool) (h : laws_lSpans.l0 l0 l1 x0_0 = some y) : laws_lSpans.l0_M cs0 o0 l0 hv0 cs1 o1 l1 hv1 x0_0 y := by
  refine laws_lSpans.l0.partial_correctness l0 l1 (motive := fun x0_0 y => laws_lSpans.l0_M cs0 o0 l0 hv0 cs1 o1 l1 hv1 x0_0 y) ?_ x0_0 y h
  clear h
  unfold laws_lSpans.l0_M
  intro rec ih x0_0 y h K hx0 hx1
  refine loop_unroll (ga_k fun G0 G0n G0r G0x => ?_)
  unfold C26_l0
  refine seq_k fun J9 hJ9 => ?_
  refine sr_k fun J10 hJ10 => ?_
  simp +decide only [Nat.reduceAdd, Nat.reduceMul, Int.reduceToNat, ak]
  refine hJ10 _ ?_
  refine cond_k (b := decide (x0_0 < (l0.length : Int))) rfl (fun c11 => ?_) (fun c11 => ?_)
  · replace c11 := of_decide_eq_true c11; rw [if_pos c11] at h
    refine hJ9 _ ?_
    refine seq_k fun J12 hJ12 => ?_
    refine block_k fun B13 B13n B13x B13r B13j => ?_
    refine sd_k fun J14 hJ14 => ?_
    obtain ⟨b15, h⟩ := of_guard h
    have g16 : (List.drop (o0 + x0_0.toNat * 2) (cs0)).take 2 = [.sc (.int .u64 ((rd z31 l0 x0_0).f0)), .sc (.int .u64 ((rd z31 l0 x0_0).f1))] := hv0.stretch z31 b15.1 b15.2
    obtain ⟨b17, h⟩ := of_guard h
    have g18 : (List.drop (o1 + x0_0.toNat * 2) (cs1)).take 2 = [.sc (.int .u64 ((rd z31 l1 x0_0).f0)), .sc (.int .u64 ((rd z31 l1 x0_0).f1))] := hv1.stretch z31 b17.1 b17.2
    simp +decide only [Nat.reduceAdd, Nat.reduceMul, Int.reduceToNat, ak, b15, g16, b17, g18]
    refine hJ14 _ ?_
    refine cond_k (b := !(decide ((rd z31 l0 x0_0).f0 = (rd z31 l1 x0_0).f0) && decide ((rd z31 l0 x0_0).f1 = (rd z31 l1 x0_0).f1))) rfl (fun c19 => ?_) (fun c19 => ?_)
    · rw [if_pos c19] at h
      refine sr_k fun J20 hJ20 => ?_
      simp +decide only [Nat.reduceAdd, Nat.reduceMul, Int.reduceToNat, ak]
      refine hJ20 _ ?_
      obtain rfl := Option.some.inj h
      refine gh_k (wk [4] [pI (.arg 0) .fz, pI (.arg 1) .fz]) ?_
      refine B13r _ ?_
      refine G0r _ ?_
      exact hx1 _ rfl
    · rw [if_neg (Bool.eq_false_iff.1 c19)] at h
      refine B13n _ ?_
      refine hJ12 _ ?_
      refine reg_k ?_
      simp +decide only [Nat.reduceAdd, Nat.reduceMul, Int.reduceToNat, ak]
      refine G0n _ _ (wk [0, 1, 5] [pI (.arg 0) .fz, pI (.arg 1) .fz]) (ih _ _ h K hx0 hx1)
  · replace c11 := of_decide_eq_false c11; rw [if_neg c11] at h
    obtain rfl := Option.some.inj h
    refine gh_k (wk [] [pI (.arg 0) .fz, pI (.arg 1) .fz]) ?_
    refine G0x _ _ ?_
    exact hx0 _ rfl
theorem laws_lSpans.tri (cs0 : List Cell) (o0 : Nat) (l0 : List S31) (hv0 : Vw c31 2 cs0 o0 l0) (cs1 : List Cell) (o1 : Nat) (l1 : List S31) (hv1 : Vw c31 2 cs1 o1 l1) (r : Bool) (h : laws_lSpans.f l0 l1 = some r) : Tri Try.prog 26 [.c (.ref (.arg 0) [] o0 l0.length), .c (.ref (.arg 1) [] o1 l1.length)] [(.arg 0, ⟨.fz, 2, cs0⟩), (.arg 1, ⟨.fz, 2, cs1⟩)] (fun o => o = ⟨.c (.sc (.bool r)), [(.arg 0, ⟨.fz, 2, cs0⟩), (.arg 1, ⟨.fz, 2, cs1⟩)], [], []⟩) := by
  refine tri_of_body (ac := C26) (xs := r26) Try.func26 (show Try.f26.body = some (Try.f26.body.getD .skip) from rfl) k26 q26 (Nat.le_of_ble_eq_true rfl) ?_
  refine body_of fun K hKn hKr => ?_
  unfold laws_lSpans.f at h
  unfold C26
  simp only [initT, Nat.reduceAdd]
  refine sr_k fun J1 hJ1 => ?_
  simp +decide only [Nat.reduceAdd, Nat.reduceMul, Int.reduceToNat, ak]
  refine hJ1 _ ?_
  refine seq_k fun J2 hJ2 => ?_
  refine sr_k fun J3 hJ3 => ?_
  simp +decide only [Nat.reduceAdd, Nat.reduceMul, Int.reduceToNat, ak]
  refine hJ3 _ ?_
  refine cond_k (b := decide ((l0.length : Int) ≠ (l1.length : Int))) rfl (fun c4 => ?_) (fun c4 => ?_)
  · replace c4 := of_decide_eq_true c4; rw [if_pos c4] at h
    refine sr_k fun J5 hJ5 => ?_
    simp +decide only [Nat.reduceAdd, Nat.reduceMul, Int.reduceToNat, ak]
    refine hJ5 _ ?_
    obtain rfl := Option.some.inj h
    refine hKr _ ⟨_, rfl, [], _, rfl, rfl, ?_⟩
    first | rfl | (simp only [reduceCtorEq, Nat.reduceEqDiff, ak, akF]; done) | (simp [reduceCtorEq, Nat.reduceEqDiff, ak, akF] <;> omega)
  · replace c4 := of_decide_eq_false c4; rw [if_neg c4] at h
    refine hJ2 _ ?_
    refine seq_k fun J6 hJ6 => ?_
    refine sr_k fun J7 hJ7 => ?_
    simp +decide only [Nat.reduceAdd, Nat.reduceMul, Int.reduceToNat, ak]
    refine hJ7 _ ?_
    refine block_k fun B8 B8n B8x B8r B8j => ?_
    obtain ⟨y21, h22, h⟩ := of_bind h
    refine gh_k (wk [0, 1, 5] [pI (.arg 0) .fz, pI (.arg 1) .fz]) ?_
    rw [e_loop]
    refine laws_lSpans.l0_walk cs0 o0 l0 hv0 cs1 o1 l1 hv1 0 _ h22 _ ?_ ?_
    · rintro x23 rfl
      dsimp only at h
      refine B8x _ ?_
      refine hJ6 _ ?_
      refine sr_k fun J24 hJ24 => ?_
      simp +decide only [Nat.reduceAdd, Nat.reduceMul, Int.reduceToNat, ak]
      refine hJ24 _ ?_
      obtain rfl := Option.some.inj h
      refine hKr _ ⟨_, rfl, [], _, rfl, rfl, ?_⟩
      first | rfl | (simp only [reduceCtorEq, Nat.reduceEqDiff, ak, akF]; done) | (simp [reduceCtorEq, Nat.reduceEqDiff, ak, akF] <;> omega)
    · rintro x23 rfl
      dsimp only at h
      refine B8r _ ?_
      obtain rfl := Option.some.inj h
      refine hKr _ ⟨_, rfl, [], _, rfl, rfl, ?_⟩
      first | rfl | (simp only [reduceCtorEq, Nat.reduceEqDiff, ak, akF]; done) | (simp [reduceCtorEq, Nat.reduceEqDiff, ak, akF] <;> omega)
end Go.AK
