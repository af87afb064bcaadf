-- by a program of this session (wip/ak/pw.py)
import Derived.Test.YtlladicdmmdboaaUSubRun2
set_option synthInstance.maxSize 2000
set_option linter.unusedVariables false
set_option linter.unusedSimpArgs false
namespace Go.AK
open Go Go.Proofs
/-! ### laws.heldInt64S: function 96 -/
def c96_l0 : AC := .seq (.seq (.reg [.op none (.mv 6 (.tmp 5)), .op none (.mv 7 (.tmp 0)), .op none (.len 8 (.tmp 7)), .op none (.bin 9 .lss (.tmp 6) (.tmp 8)), .keep [0, 1, 5, 9]]) (.cond (.tmp 9) (.skip) (.gh (.exit 0)))) (.seq (.block 1 (.seq (.seq (.reg [.op none (.mv 12 (.tmp 0)), .op none (.mv 13 (.tmp 5)), .op none (.iaddr 14 1 (.tmp 12) (.tmp 13)), .op none (.load 15 false 1 (.tmp 14)), .op none (.mv 16 (.tmp 1)), .op none (.bin 17 .neq (.tmp 15) (.tmp 16)), .keep [0, 1, 5, 17]]) (.cond (.tmp 17) (.seq (.reg [.op none (.mv 4 (.const (.int .i64 (-1)))), .keep [4]]) (.gh .ret)) (.skip))) (.reg [.op none (.mv 18 (.tmp 1)), .op none (.bin 19 .add (.tmp 18) (.const (.int .i64 1))), .op none (.mv 1 (.tmp 19)), .keep [0, 1, 5]]))) (.reg [.op none (.mv 10 (.tmp 5)), .op none (.bin 11 .add (.tmp 10) (.const (.int .i64 1))), .op none (.mv 5 (.tmp 11)), .keep [0, 1, 5]]))
def c96 : AC := .seq (.reg [.op none (.mv 4 (.const (.int .i64 0))), .keep [0, 1]]) (.seq (.seq (.reg [.op none (.mv 5 (.const (.int .i64 0))), .keep [0, 1, 5]]) (.block 0 (.gh (.loop (.ga c96_l0))))) (.seq (.reg [.op none (.mv 20 (.tmp 1)), .op none (.mv 4 (.tmp 20)), .keep [4]]) (.ret)))
def r96 : List RV := [.tmp 4]
theorem k96 : compC Try.prog 21 c96 (Try.f96.body.getD .skip) = some c96.erase := by kernel_rfl
theorem q96 : rvsOf Try.prog Try.f96.results.toList = some r96 := by kernel_rfl
def laws_heldInt64S.l0 (l0 : List Int) (x0_0 : Int) (x0_1 : Int) : Option (Lp Int Unit) := (if x0_1 < (l0.length : Int) then (if 0 ≤ x0_1 ∧ x0_1 < (l0.length : Int) then (if (rd 0 l0 x0_1) ≠ x0_0 then (some (.b ())) else (laws_heldInt64S.l0 l0 (IntKind.i64.wrap (x0_0 + 1)) (IntKind.i64.wrap (x0_1 + 1)))) else none) else (some (.a x0_0)))
  partial_fixpoint
def laws_heldInt64S.f (l0 : List Int) (a1 : Int) : Option Int := (laws_heldInt64S.l0 l0 a1 0 >>= fun (y16 : Lp Int Unit) => match y16 with | .a x18 => (some x18) | .b x18 => (some (-1)))
set_option maxRecDepth 100000 in
set_option maxHeartbeats 4000000 in
theorem laws_heldInt64S.l0_walk (cs0 : List Cell) (o0 : Nat) (l0 : List Int) (hv0 : Vw c_i64 1 cs0 o0 l0) (x0_0 : Int) (x0_1 : Int) (y : Lp Int Unit) (h : laws_heldInt64S.l0 l0 x0_0 x0_1 = some y) (K : AE → St → Prop) (hx0 : ∀ x, y = .a x → K (.exit 0) ⟨[(1, .c (.sc (.int .i64 x)))], [(.arg 0, ⟨.fz, 1, cs0⟩)], [], []⟩) (hx1 : ∀ x, y = .b x → K .ret ⟨[(4, .c (.sc (.int .i64 (-1))))], [(.arg 0, ⟨.fz, 1, cs0⟩)], [], []⟩) : loopS Try.prog 21 (.ga c96_l0) K ⟨[(0, .c (.ref (.arg 0) [] o0 l0.length)), (1, .c (.sc (.int .i64 x0_0))), (5, .c (.sc (.int .i64 x0_1)))], [(.arg 0, ⟨.fz, 1, cs0⟩)], [], []⟩ := by
  refine laws_heldInt64S.l0.partial_correctness l0 (motive := fun x0_0 x0_1 y => ∀ (K : AE → St → Prop), (∀ x, y = .a x → K (.exit 0) ⟨[(1, .c (.sc (.int .i64 x)))], [(.arg 0, ⟨.fz, 1, cs0⟩)], [], []⟩) → (∀ x, y = .b x → K .ret ⟨[(4, .c (.sc (.int .i64 (-1))))], [(.arg 0, ⟨.fz, 1, cs0⟩)], [], []⟩) → loopS Try.prog 21 (.ga c96_l0) K ⟨[(0, .c (.ref (.arg 0) [] o0 l0.length)), (1, .c (.sc (.int .i64 x0_0))), (5, .c (.sc (.int .i64 x0_1)))], [(.arg 0, ⟨.fz, 1, cs0⟩)], [], []⟩) ?_ x0_0 x0_1 y h K hx0 hx1
  clear h hx0 hx1
  intro rec ih x0_0 x0_1 y h K hx0 hx1
  refine loop_unroll (ga_k fun G0 G0n G0r G0x => ?_)
  unfold c96_l0
  refine seq_k fun J5 hJ5 => ?_
  refine seq_k fun J6 hJ6 => ?_
  refine reg_k ?_
  simp only [Nat.reduceEqDiff, Nat.reduceAdd, Nat.reduceMul, Nat.reduceLeDiff, Nat.reduceLT, Int.reduceLE, Int.reduceLT, Int.reduceGT, Int.reduceGE, Int.reduceEq, Int.reduceNe, Int.reduceToNat, reduceCtorEq, ak]
  refine hJ6 _ ?_
  refine cond_k (b := decide (x0_1 < (l0.length : Int))) rfl (fun c7 => ?_) (fun c7 => ?_)
  · replace c7 := of_decide_eq_true c7; rw [if_pos c7] at h
    refine hJ5 _ ?_
    refine seq_k fun J8 hJ8 => ?_
    refine block_k fun B9 B9n B9x B9r B9j => ?_
    refine seq_k fun J10 hJ10 => ?_
    refine seq_k fun J11 hJ11 => ?_
    refine reg_k ?_
    obtain ⟨b12, h⟩ := of_guard h
    have g13 : (cs0)[o0 + x0_1.toNat * 1]? = some (.sc (.int .i64 (rd 0 l0 x0_1))) := hv0.get 0 0 b12.1 b12.2 (by decide)
    simp only [Nat.reduceEqDiff, Nat.reduceAdd, Nat.reduceMul, Nat.reduceLeDiff, Nat.reduceLT, Int.reduceLE, Int.reduceLT, Int.reduceGT, Int.reduceGE, Int.reduceEq, Int.reduceNe, Int.reduceToNat, reduceCtorEq, ak, b12, g13]
    refine hJ11 _ ?_
    refine cond_k (b := decide ((rd 0 l0 x0_1) ≠ x0_0)) rfl (fun c14 => ?_) (fun c14 => ?_)
    · replace c14 := of_decide_eq_true c14; rw [if_pos c14] at h
      refine seq_k fun J15 hJ15 => ?_
      refine reg_k ?_
      simp only [Nat.reduceEqDiff, Nat.reduceAdd, Nat.reduceMul, Nat.reduceLeDiff, Nat.reduceLT, Int.reduceLE, Int.reduceLT, Int.reduceGT, Int.reduceGE, Int.reduceEq, Int.reduceNe, Int.reduceToNat, reduceCtorEq, ak]
      refine hJ15 _ ?_
      obtain rfl := Option.some.inj h
      refine gh_k (st' := ⟨[(4, .c (.sc (.int .i64 (-1))))], [(.arg 0, ⟨.fz, 1, cs0⟩)], [], []⟩) (((Weak.keep [4]).trans ((Weak.foc [(.arg 0, ⟨(.arg 0), [], none, .fz⟩)] rfl (by first | rfl | simp only [reduceCtorEq, Nat.reduceEqDiff, ak, akF, b12]) (by simp [argK, akG, ak])).trans (Weak.of_eq (by first | rfl | (simp only [reduceCtorEq, Nat.reduceEqDiff, ak, akF, b12]; done) | (simp [reduceCtorEq, Nat.reduceEqDiff, ak, akF, b12]; done)))))) ?_
      refine B9r _ ?_
      refine G0r _ ?_
      exact hx1 _ rfl
    · replace c14 := of_decide_eq_false c14; rw [if_neg c14] at h
      refine hJ10 _ ?_
      refine reg_k ?_
      simp only [Nat.reduceEqDiff, Nat.reduceAdd, Nat.reduceMul, Nat.reduceLeDiff, Nat.reduceLT, Int.reduceLE, Int.reduceLT, Int.reduceGT, Int.reduceGE, Int.reduceEq, Int.reduceNe, Int.reduceToNat, reduceCtorEq, ak]
      refine B9n _ ?_
      refine hJ8 _ ?_
      refine reg_k ?_
      simp only [Nat.reduceEqDiff, Nat.reduceAdd, Nat.reduceMul, Nat.reduceLeDiff, Nat.reduceLT, Int.reduceLE, Int.reduceLT, Int.reduceGT, Int.reduceGE, Int.reduceEq, Int.reduceNe, Int.reduceToNat, reduceCtorEq, ak]
      refine G0n _ (⟨[(0, .c (.ref (.arg 0) [] o0 l0.length)), (1, .c (.sc (.int .i64 (IntKind.i64.wrap (x0_0 + 1))))), (5, .c (.sc (.int .i64 (IntKind.i64.wrap (x0_1 + 1)))))], [(.arg 0, ⟨.fz, 1, cs0⟩)], [], []⟩) (((Weak.keep [0, 1, 5]).trans ((Weak.foc [(.arg 0, ⟨(.arg 0), [], none, .fz⟩)] rfl (by first | rfl | simp only [reduceCtorEq, Nat.reduceEqDiff, ak, akF, b12]) (by simp [argK, akG, ak])).trans (Weak.of_eq (by first | rfl | (simp only [reduceCtorEq, Nat.reduceEqDiff, ak, akF, b12]; done) | (simp [reduceCtorEq, Nat.reduceEqDiff, ak, akF, b12]; done)))))) (ih _ _ _ h K hx0 hx1)
  · replace c7 := of_decide_eq_false c7; rw [if_neg c7] at h
    obtain rfl := Option.some.inj h
    refine gh_k (st' := ⟨[(1, .c (.sc (.int .i64 x0_0)))], [(.arg 0, ⟨.fz, 1, cs0⟩)], [], []⟩) (((Weak.keep [1]).trans ((Weak.foc [(.arg 0, ⟨(.arg 0), [], none, .fz⟩)] rfl (by first | rfl | simp only [reduceCtorEq, Nat.reduceEqDiff, ak, akF]) (by simp [argK, akG, ak])).trans (Weak.of_eq (by first | rfl | (simp only [reduceCtorEq, Nat.reduceEqDiff, ak, akF]; done) | (simp [reduceCtorEq, Nat.reduceEqDiff, ak, akF]; done)))))) ?_
    refine G0x _ _ ?_
    exact hx0 _ rfl
set_option maxRecDepth 100000 in
set_option maxHeartbeats 4000000 in
theorem laws_heldInt64S.tri (cs0 : List Cell) (o0 : Nat) (l0 : List Int) (hv0 : Vw c_i64 1 cs0 o0 l0) (a1 : Int) (r : Int) (h : laws_heldInt64S.f l0 a1 = some r) : Tri Try.prog 96 [.c (.ref (.arg 0) [] o0 l0.length), .c (.sc (.int .i64 a1))] [(.arg 0, ⟨.fz, 1, cs0⟩)] (fun o => o = ⟨.c (.sc (.int .i64 r)), [(.arg 0, ⟨.fz, 1, cs0⟩)], [], []⟩) := by
  refine tri_of_body (ac := c96) (xs := r96) Try.func96 (show Try.f96.body = some (Try.f96.body.getD .skip) from rfl) k96 q96 (Nat.le_of_ble_eq_true rfl) ?_
  refine body_of fun K hKn hKr => ?_
  unfold laws_heldInt64S.f at h
  unfold c96
  simp only [initT, Nat.reduceAdd]
  refine seq_k fun J1 hJ1 => ?_
  refine reg_k ?_
  simp only [Nat.reduceEqDiff, Nat.reduceAdd, Nat.reduceMul, Nat.reduceLeDiff, Nat.reduceLT, Int.reduceLE, Int.reduceLT, Int.reduceGT, Int.reduceGE, Int.reduceEq, Int.reduceNe, Int.reduceToNat, reduceCtorEq, ak]
  refine hJ1 _ ?_
  refine seq_k fun J2 hJ2 => ?_
  refine seq_k fun J3 hJ3 => ?_
  refine reg_k ?_
  simp only [Nat.reduceEqDiff, Nat.reduceAdd, Nat.reduceMul, Nat.reduceLeDiff, Nat.reduceLT, Int.reduceLE, Int.reduceLT, Int.reduceGT, Int.reduceGE, Int.reduceEq, Int.reduceNe, Int.reduceToNat, reduceCtorEq, ak]
  refine hJ3 _ ?_
  refine block_k fun B4 B4n B4x B4r B4j => ?_
  obtain ⟨y16, h17, h⟩ := of_bind h
  refine gh_k (st' := ⟨[(0, .c (.ref (.arg 0) [] o0 l0.length)), (1, .c (.sc (.int .i64 a1))), (5, .c (.sc (.int .i64 0)))], [(.arg 0, ⟨.fz, 1, cs0⟩)], [], []⟩) (((Weak.keep [0, 1, 5]).trans ((Weak.foc [(.arg 0, ⟨(.arg 0), [], none, .fz⟩)] rfl (by first | rfl | simp only [reduceCtorEq, Nat.reduceEqDiff, ak, akF]) (by simp [argK, akG, ak])).trans (Weak.of_eq (by first | rfl | (simp only [reduceCtorEq, Nat.reduceEqDiff, ak, akF]; done) | (simp [reduceCtorEq, Nat.reduceEqDiff, ak, akF]; done)))))) ?_
  rw [e_loop]
  refine laws_heldInt64S.l0_walk cs0 o0 l0 hv0 a1 0 _ h17 _ ?_ ?_
  · rintro x18 rfl
    dsimp only at h
    refine B4x _ ?_
    refine hJ2 _ ?_
    refine seq_k fun J19 hJ19 => ?_
    refine reg_k ?_
    simp only [Nat.reduceEqDiff, Nat.reduceAdd, Nat.reduceMul, Nat.reduceLeDiff, Nat.reduceLT, Int.reduceLE, Int.reduceLT, Int.reduceGT, Int.reduceGE, Int.reduceEq, Int.reduceNe, Int.reduceToNat, reduceCtorEq, ak]
    refine hJ19 _ ?_
    obtain rfl := Option.some.inj h
    refine hKr _ ⟨_, rfl, [], _, rfl, rfl, ?_⟩
    first | rfl | (simp only [reduceCtorEq, Nat.reduceEqDiff, ak, akF]; done) | (simp [reduceCtorEq, Nat.reduceEqDiff, ak, akF]; done)
  · rintro x18 rfl
    dsimp only at h
    refine B4r _ ?_
    obtain rfl := Option.some.inj h
    refine hKr _ ⟨_, rfl, [], _, rfl, rfl, ?_⟩
    first | rfl | (simp only [reduceCtorEq, Nat.reduceEqDiff, ak, akF]; done) | (simp [reduceCtorEq, Nat.reduceEqDiff, ak, akF]; done)
/-! ### laws.heldSubOutS: function 42 -/
def c42_l0 : AC := .seq (.seq (.reg [.op none (.mv 6 (.tmp 5)), .op none (.mv 7 (.tmp 0)), .op none (.len 8 (.tmp 7)), .op none (.bin 9 .lss (.tmp 6) (.tmp 8)), .keep [0, 1, 5, 9]]) (.cond (.tmp 9) (.skip) (.gh (.exit 0)))) (.seq (.block 1 (.seq (.seq (.reg [.op none (.mv 12 (.tmp 0)), .op none (.mv 13 (.tmp 5)), .op none (.iaddr 14 5 (.tmp 12) (.tmp 13)), .op none (.faddr 15 0 (.tmp 14)), .op none (.load 16 false 1 (.tmp 15)), .op none (.mv 17 (.tmp 1)), .op none (.bin 18 .neq (.tmp 16) (.tmp 17)), .keep [0, 1, 5, 18]]) (.cond (.tmp 18) (.seq (.reg [.op none (.mv 4 (.const (.int .i64 (-1)))), .keep [4]]) (.gh .ret)) (.skip))) (.seq (.reg [.op none (.mv 19 (.tmp 1)), .op none (.bin 20 .add (.tmp 19) (.const (.int .i64 1))), .op none (.mv 1 (.tmp 20)), .keep [0, 1, 5]]) (.seq (.reg [.op none (.mv 21 (.tmp 0)), .op none (.mv 22 (.tmp 5)), .op none (.iaddr 23 5 (.tmp 21) (.tmp 22)), .op none (.faddr 24 1 (.tmp 23)), .op none (.load 25 false 1 (.tmp 24)), .op none (.mv 26 (.tmp 1)), .call none (some 27) 95 [.tmp 25, .tmp 26], .op none (.mv 1 (.tmp 27)), .keep [0, 1, 5]]) (.seq (.seq (.reg [.op none (.mv 28 (.tmp 1)), .op none (.bin 29 .lss (.tmp 28) (.const (.int .i64 0))), .keep [0, 1, 5, 29]]) (.cond (.tmp 29) (.seq (.reg [.op none (.mv 4 (.const (.int .i64 (-1)))), .keep [4]]) (.gh .ret)) (.skip))) (.seq (.reg [.op none (.mv 30 (.tmp 0)), .op none (.mv 31 (.tmp 5)), .op none (.iaddr 32 5 (.tmp 30) (.tmp 31)), .op none (.faddr 33 2 (.tmp 32)), .op none (.load 34 false 1 (.tmp 33)), .op none (.mv 35 (.tmp 1)), .call none (some 36) 96 [.tmp 34, .tmp 35], .op none (.mv 1 (.tmp 36)), .keep [0, 1, 5]]) (.seq (.seq (.reg [.op none (.mv 37 (.tmp 1)), .op none (.bin 38 .lss (.tmp 37) (.const (.int .i64 0))), .keep [0, 1, 5, 38]]) (.cond (.tmp 38) (.seq (.reg [.op none (.mv 4 (.const (.int .i64 (-1)))), .keep [4]]) (.gh .ret)) (.skip))) (.seq (.seq (.reg [.op none (.mv 39 (.tmp 0)), .op none (.mv 40 (.tmp 5)), .op none (.iaddr 41 5 (.tmp 39) (.tmp 40)), .op none (.faddr 42 3 (.tmp 41)), .op none (.load 43 false 1 (.tmp 42)), .op none (.mv 44 (.tmp 1)), .op none (.bin 45 .neq (.tmp 43) (.tmp 44)), .keep [0, 1, 5, 45]]) (.cond (.tmp 45) (.seq (.reg [.op none (.mv 4 (.const (.int .i64 (-1)))), .keep [4]]) (.gh .ret)) (.skip))) (.seq (.reg [.op none (.mv 46 (.tmp 1)), .op none (.bin 47 .add (.tmp 46) (.const (.int .i64 1))), .op none (.mv 1 (.tmp 47)), .keep [0, 1, 5]]) (.seq (.seq (.reg [.op none (.mv 48 (.tmp 0)), .op none (.mv 49 (.tmp 5)), .op none (.iaddr 50 5 (.tmp 48) (.tmp 49)), .op none (.faddr 51 4 (.tmp 50)), .op none (.load 52 false 1 (.tmp 51)), .op none (.mv 53 (.tmp 1)), .op none (.bin 54 .neq (.tmp 52) (.tmp 53)), .keep [0, 1, 5, 54]]) (.cond (.tmp 54) (.seq (.reg [.op none (.mv 4 (.const (.int .i64 (-1)))), .keep [4]]) (.gh .ret)) (.skip))) (.reg [.op none (.mv 55 (.tmp 1)), .op none (.bin 56 .add (.tmp 55) (.const (.int .i64 1))), .op none (.mv 1 (.tmp 56)), .keep [0, 1, 5]]))))))))))) (.reg [.op none (.mv 10 (.tmp 5)), .op none (.bin 11 .add (.tmp 10) (.const (.int .i64 1))), .op none (.mv 5 (.tmp 11)), .keep [0, 1, 5]]))
def c42 : AC := .seq (.reg [.op none (.mv 4 (.const (.int .i64 0))), .keep [0, 1]]) (.seq (.seq (.reg [.op none (.mv 5 (.const (.int .i64 0))), .keep [0, 1, 5]]) (.block 0 (.gh (.loop (.ga c42_l0))))) (.seq (.reg [.op none (.mv 57 (.tmp 1)), .op none (.mv 4 (.tmp 57)), .keep [4]]) (.ret)))
def r42 : List RV := [.tmp 4]
theorem k42 : compC Try.prog 58 c42 (Try.f42.body.getD .skip) = some c42.erase := by kernel_rfl
theorem q42 : rvsOf Try.prog Try.f42.results.toList = some r42 := by kernel_rfl
def laws_heldSubOutS.l0 (l0 : List S66) (x0_0 : Int) (x0_1 : Int) : Option (Lp Int Unit) := (if x0_1 < (l0.length : Int) then (if 0 ≤ x0_1 ∧ x0_1 < (l0.length : Int) then (if (rd z66 l0 x0_1).f0 ≠ x0_0 then (some (.b ())) else (laws_heldSubFrameS.f ((rd z66 l0 x0_1).f1) (IntKind.i64.wrap (x0_0 + 1)) >>= fun t21 => (if t21 < 0 then (some (.b ())) else (laws_heldInt64S.f ((rd z66 l0 x0_1).f2) t21 >>= fun t31 => (if t31 < 0 then (some (.b ())) else (if (rd z66 l0 x0_1).f3 ≠ t31 then (some (.b ())) else (if (rd z66 l0 x0_1).f4 ≠ IntKind.i64.wrap (t31 + 1) then (some (.b ())) else (laws_heldSubOutS.l0 l0 (IntKind.i64.wrap ((IntKind.i64.wrap (t31 + 1)) + 1)) (IntKind.i64.wrap (x0_1 + 1)))))))))) else none) else (some (.a x0_0)))
  partial_fixpoint
def laws_heldSubOutS.f (l0 : List S66) (a1 : Int) : Option Int := (laws_heldSubOutS.l0 l0 a1 0 >>= fun (y51 : Lp Int Unit) => match y51 with | .a x53 => (some x53) | .b x53 => (some (-1)))
set_option maxRecDepth 100000 in
set_option maxHeartbeats 4000000 in
theorem laws_heldSubOutS.l0_walk (cs0 : List Cell) (o0 : Nat) (l0 : List S66) (hv0 : Vw c66 5 cs0 o0 l0) (x0_0 : Int) (x0_1 : Int) (y : Lp Int Unit) (h : laws_heldSubOutS.l0 l0 x0_0 x0_1 = some y) (K : AE → St → Prop) (hx0 : ∀ x, y = .a x → K (.exit 0) ⟨[(1, .c (.sc (.int .i64 x)))], [(.arg 0, ⟨.fz, 5, cs0⟩)], [], []⟩) (hx1 : ∀ x, y = .b x → K .ret ⟨[(4, .c (.sc (.int .i64 (-1))))], [(.arg 0, ⟨.fz, 5, cs0⟩)], [], []⟩) : loopS Try.prog 58 (.ga c42_l0) K ⟨[(0, .c (.ref (.arg 0) [] o0 l0.length)), (1, .c (.sc (.int .i64 x0_0))), (5, .c (.sc (.int .i64 x0_1)))], [(.arg 0, ⟨.fz, 5, cs0⟩)], [], []⟩ := by
  refine laws_heldSubOutS.l0.partial_correctness l0 (motive := fun x0_0 x0_1 y => ∀ (K : AE → St → Prop), (∀ x, y = .a x → K (.exit 0) ⟨[(1, .c (.sc (.int .i64 x)))], [(.arg 0, ⟨.fz, 5, cs0⟩)], [], []⟩) → (∀ x, y = .b x → K .ret ⟨[(4, .c (.sc (.int .i64 (-1))))], [(.arg 0, ⟨.fz, 5, cs0⟩)], [], []⟩) → loopS Try.prog 58 (.ga c42_l0) K ⟨[(0, .c (.ref (.arg 0) [] o0 l0.length)), (1, .c (.sc (.int .i64 x0_0))), (5, .c (.sc (.int .i64 x0_1)))], [(.arg 0, ⟨.fz, 5, cs0⟩)], [], []⟩) ?_ x0_0 x0_1 y h K hx0 hx1
  clear h hx0 hx1
  intro rec ih x0_0 x0_1 y h K hx0 hx1
  refine loop_unroll (ga_k fun G0 G0n G0r G0x => ?_)
  unfold c42_l0
  refine seq_k fun J5 hJ5 => ?_
  refine seq_k fun J6 hJ6 => ?_
  refine reg_k ?_
  simp only [Nat.reduceEqDiff, Nat.reduceAdd, Nat.reduceMul, Nat.reduceLeDiff, Nat.reduceLT, Int.reduceLE, Int.reduceLT, Int.reduceGT, Int.reduceGE, Int.reduceEq, Int.reduceNe, Int.reduceToNat, reduceCtorEq, ak]
  refine hJ6 _ ?_
  refine cond_k (b := decide (x0_1 < (l0.length : Int))) rfl (fun c7 => ?_) (fun c7 => ?_)
  · replace c7 := of_decide_eq_true c7; rw [if_pos c7] at h
    refine hJ5 _ ?_
    refine seq_k fun J8 hJ8 => ?_
    refine block_k fun B9 B9n B9x B9r B9j => ?_
    refine seq_k fun J10 hJ10 => ?_
    refine seq_k fun J11 hJ11 => ?_
    refine reg_k ?_
    obtain ⟨b12, h⟩ := of_guard h
    have g13 : o0 + x0_1.toNat * 5 + 0 ≤ (cs0).length := (hv0.len_le b12.1 b12.2 (by decide))
    have g14 : (cs0)[o0 + x0_1.toNat * 5 + 0]? = some (.sc (.int .i64 ((rd z66 l0 x0_1).f0))) := hv0.get z66 0 b12.1 b12.2 (by decide)
    simp only [Nat.reduceEqDiff, Nat.reduceAdd, Nat.reduceMul, Nat.reduceLeDiff, Nat.reduceLT, Int.reduceLE, Int.reduceLT, Int.reduceGT, Int.reduceGE, Int.reduceEq, Int.reduceNe, Int.reduceToNat, reduceCtorEq, ak, b12, g13, g14]
    refine hJ11 _ ?_
    refine cond_k (b := decide ((rd z66 l0 x0_1).f0 ≠ x0_0)) rfl (fun c15 => ?_) (fun c15 => ?_)
    · replace c15 := of_decide_eq_true c15; rw [if_pos c15] at h
      refine seq_k fun J16 hJ16 => ?_
      refine reg_k ?_
      simp only [Nat.reduceEqDiff, Nat.reduceAdd, Nat.reduceMul, Nat.reduceLeDiff, Nat.reduceLT, Int.reduceLE, Int.reduceLT, Int.reduceGT, Int.reduceGE, Int.reduceEq, Int.reduceNe, Int.reduceToNat, reduceCtorEq, ak]
      refine hJ16 _ ?_
      obtain rfl := Option.some.inj h
      refine gh_k (st' := ⟨[(4, .c (.sc (.int .i64 (-1))))], [(.arg 0, ⟨.fz, 5, cs0⟩)], [], []⟩) (((Weak.keep [4]).trans ((Weak.foc [(.arg 0, ⟨(.arg 0), [], none, .fz⟩)] rfl (by first | rfl | simp only [reduceCtorEq, Nat.reduceEqDiff, ak, akF, b12]) (by simp [argK, akG, ak])).trans (Weak.of_eq (by first | rfl | (simp only [reduceCtorEq, Nat.reduceEqDiff, ak, akF, b12]; done) | (simp [reduceCtorEq, Nat.reduceEqDiff, ak, akF, b12]; done)))))) ?_
      refine B9r _ ?_
      refine G0r _ ?_
      exact hx1 _ rfl
    · replace c15 := of_decide_eq_false c15; rw [if_neg c15] at h
      refine hJ10 _ ?_
      refine seq_k fun J17 hJ17 => ?_
      refine reg_k ?_
      simp only [Nat.reduceEqDiff, Nat.reduceAdd, Nat.reduceMul, Nat.reduceLeDiff, Nat.reduceLT, Int.reduceLE, Int.reduceLT, Int.reduceGT, Int.reduceGE, Int.reduceEq, Int.reduceNe, Int.reduceToNat, reduceCtorEq, ak]
      refine hJ17 _ ?_
      refine seq_k fun J18 hJ18 => ?_
      refine reg_k ?_
      have g19 : o0 + x0_1.toNat * 5 + 1 ≤ (cs0).length := (hv0.len_le b12.1 b12.2 (by decide))
      have g20 : (cs0)[o0 + x0_1.toNat * 5 + 1]? = some (.own 3 (((rd z66 l0 x0_1).f1).length) (encL c68 ((rd z66 l0 x0_1).f1))) := hv0.get z66 1 b12.1 b12.2 (by decide)
      simp only [Nat.reduceEqDiff, Nat.reduceAdd, Nat.reduceMul, Nat.reduceLeDiff, Nat.reduceLT, Int.reduceLE, Int.reduceLT, Int.reduceGT, Int.reduceGE, Int.reduceEq, Int.reduceNe, Int.reduceToNat, reduceCtorEq, ak, b12, g19, g20]
      obtain ⟨t21, h22, h⟩ := of_bind h
      refine call_m [(.arg 0, ⟨(.arg 0), [o0 + x0_1.toNat * 5 + 1], none, .fz⟩)] (s0 := [(.arg 0, ⟨.fz, 3, encL c68 ((rd z66 l0 x0_1).f1)⟩)]) (by intro t ht; cases ht; decide) rfl rfl (by first | rfl | simp only [reduceCtorEq, Nat.reduceEqDiff, ak, akF, b12, g13, g14, g19, g20]) (laws_heldSubFrameS.tri (encL c68 ((rd z66 l0 x0_1).f1)) 0 ((rd z66 l0 x0_1).f1) (Vw.whole c68_w ((rd z66 l0 x0_1).f1)) (IntKind.i64.wrap (x0_0 + 1)) _ h22) (by first | rfl | simp only [reduceCtorEq, Nat.reduceEqDiff, ak, akF]) (by simp [bkOk2, memK]) (fun hl22 => ?_)
      refine call_st (s4 := [(.arg 0, ⟨.fz, 5, cs0⟩)]) (m1' := []) (m2' := []) (v' := .c (.sc (.int .i64 t21))) (Sto.mapN_killNil _ _) (mrgL_fz (mrgL_nil' _ _ _) rfl (by first | rfl | simp only [reduceCtorEq, Nat.reduceEqDiff, ak, b12, g13, g14, g19, g20]) rfl (by intro R hR hh; cases hh.1)) (by rfl) (mapT_killNil _ _) (by rfl) (by rfl) (by first | rfl | simp only [reduceCtorEq, Nat.reduceEqDiff, ak, akF, Nat.zero_add, List.append_nil, b12]) ?_
      simp only [Nat.reduceEqDiff, Nat.reduceAdd, Nat.reduceMul, Nat.reduceLeDiff, Nat.reduceLT, Int.reduceLE, Int.reduceLT, Int.reduceGT, Int.reduceGE, Int.reduceEq, Int.reduceNe, Int.reduceToNat, reduceCtorEq, ak, b12, g20]
      refine hJ18 _ ?_
      refine seq_k fun J24 hJ24 => ?_
      refine seq_k fun J25 hJ25 => ?_
      refine reg_k ?_
      simp only [Nat.reduceEqDiff, Nat.reduceAdd, Nat.reduceMul, Nat.reduceLeDiff, Nat.reduceLT, Int.reduceLE, Int.reduceLT, Int.reduceGT, Int.reduceGE, Int.reduceEq, Int.reduceNe, Int.reduceToNat, reduceCtorEq, ak]
      refine hJ25 _ ?_
      refine cond_k (b := decide (t21 < 0)) rfl (fun c26 => ?_) (fun c26 => ?_)
      · replace c26 := of_decide_eq_true c26; rw [if_pos c26] at h
        refine seq_k fun J27 hJ27 => ?_
        refine reg_k ?_
        simp only [Nat.reduceEqDiff, Nat.reduceAdd, Nat.reduceMul, Nat.reduceLeDiff, Nat.reduceLT, Int.reduceLE, Int.reduceLT, Int.reduceGT, Int.reduceGE, Int.reduceEq, Int.reduceNe, Int.reduceToNat, reduceCtorEq, ak]
        refine hJ27 _ ?_
        obtain rfl := Option.some.inj h
        refine gh_k (st' := ⟨[(4, .c (.sc (.int .i64 (-1))))], [(.arg 0, ⟨.fz, 5, cs0⟩)], [], []⟩) (((Weak.keep [4]).trans ((Weak.foc [(.arg 0, ⟨(.arg 0), [], none, .fz⟩)] rfl (by first | rfl | simp only [reduceCtorEq, Nat.reduceEqDiff, ak, akF, b12]) (by simp [argK, akG, ak])).trans (Weak.of_eq (by first | rfl | (simp only [reduceCtorEq, Nat.reduceEqDiff, ak, akF, b12]; done) | (simp [reduceCtorEq, Nat.reduceEqDiff, ak, akF, b12]; done)))))) ?_
        refine B9r _ ?_
        refine G0r _ ?_
        exact hx1 _ rfl
      · replace c26 := of_decide_eq_false c26; rw [if_neg c26] at h
        refine hJ24 _ ?_
        refine seq_k fun J28 hJ28 => ?_
        refine reg_k ?_
        have g29 : o0 + x0_1.toNat * 5 + 2 ≤ (cs0).length := (hv0.len_le b12.1 b12.2 (by decide))
        have g30 : (cs0)[o0 + x0_1.toNat * 5 + 2]? = some (.own 1 (((rd z66 l0 x0_1).f2).length) (encL c_i64 ((rd z66 l0 x0_1).f2))) := hv0.get z66 2 b12.1 b12.2 (by decide)
        simp only [Nat.reduceEqDiff, Nat.reduceAdd, Nat.reduceMul, Nat.reduceLeDiff, Nat.reduceLT, Int.reduceLE, Int.reduceLT, Int.reduceGT, Int.reduceGE, Int.reduceEq, Int.reduceNe, Int.reduceToNat, reduceCtorEq, ak, b12, g29, g30]
        obtain ⟨t31, h32, h⟩ := of_bind h
        refine call_m [(.arg 0, ⟨(.arg 0), [o0 + x0_1.toNat * 5 + 2], none, .fz⟩)] (s0 := [(.arg 0, ⟨.fz, 1, encL c_i64 ((rd z66 l0 x0_1).f2)⟩)]) (by intro t ht; cases ht; decide) rfl rfl (by first | rfl | simp only [reduceCtorEq, Nat.reduceEqDiff, ak, akF, b12, g13, g14, g19, g20, g29, g30]) (laws_heldInt64S.tri (encL c_i64 ((rd z66 l0 x0_1).f2)) 0 ((rd z66 l0 x0_1).f2) (Vw.whole c_i64_w ((rd z66 l0 x0_1).f2)) t21 _ h32) (by first | rfl | simp only [reduceCtorEq, Nat.reduceEqDiff, ak, akF]) (by simp [bkOk2, memK]) (fun hl32 => ?_)
        refine call_st (s4 := [(.arg 0, ⟨.fz, 5, cs0⟩)]) (m1' := []) (m2' := []) (v' := .c (.sc (.int .i64 t31))) (Sto.mapN_killNil _ _) (mrgL_fz (mrgL_nil' _ _ _) rfl (by first | rfl | simp only [reduceCtorEq, Nat.reduceEqDiff, ak, b12, g13, g14, g19, g20, g29, g30]) rfl (by intro R hR hh; cases hh.1)) (by rfl) (mapT_killNil _ _) (by rfl) (by rfl) (by first | rfl | simp only [reduceCtorEq, Nat.reduceEqDiff, ak, akF, Nat.zero_add, List.append_nil, b12]) ?_
        simp only [Nat.reduceEqDiff, Nat.reduceAdd, Nat.reduceMul, Nat.reduceLeDiff, Nat.reduceLT, Int.reduceLE, Int.reduceLT, Int.reduceGT, Int.reduceGE, Int.reduceEq, Int.reduceNe, Int.reduceToNat, reduceCtorEq, ak, b12, g30]
        refine hJ28 _ ?_
        refine seq_k fun J34 hJ34 => ?_
        refine seq_k fun J35 hJ35 => ?_
        refine reg_k ?_
        simp only [Nat.reduceEqDiff, Nat.reduceAdd, Nat.reduceMul, Nat.reduceLeDiff, Nat.reduceLT, Int.reduceLE, Int.reduceLT, Int.reduceGT, Int.reduceGE, Int.reduceEq, Int.reduceNe, Int.reduceToNat, reduceCtorEq, ak]
        refine hJ35 _ ?_
        refine cond_k (b := decide (t31 < 0)) rfl (fun c36 => ?_) (fun c36 => ?_)
        · replace c36 := of_decide_eq_true c36; rw [if_pos c36] at h
          refine seq_k fun J37 hJ37 => ?_
          refine reg_k ?_
          simp only [Nat.reduceEqDiff, Nat.reduceAdd, Nat.reduceMul, Nat.reduceLeDiff, Nat.reduceLT, Int.reduceLE, Int.reduceLT, Int.reduceGT, Int.reduceGE, Int.reduceEq, Int.reduceNe, Int.reduceToNat, reduceCtorEq, ak]
          refine hJ37 _ ?_
          obtain rfl := Option.some.inj h
          refine gh_k (st' := ⟨[(4, .c (.sc (.int .i64 (-1))))], [(.arg 0, ⟨.fz, 5, cs0⟩)], [], []⟩) (((Weak.keep [4]).trans ((Weak.foc [(.arg 0, ⟨(.arg 0), [], none, .fz⟩)] rfl (by first | rfl | simp only [reduceCtorEq, Nat.reduceEqDiff, ak, akF, b12]) (by simp [argK, akG, ak])).trans (Weak.of_eq (by first | rfl | (simp only [reduceCtorEq, Nat.reduceEqDiff, ak, akF, b12]; done) | (simp [reduceCtorEq, Nat.reduceEqDiff, ak, akF, b12]; done)))))) ?_
          refine B9r _ ?_
          refine G0r _ ?_
          exact hx1 _ rfl
        · replace c36 := of_decide_eq_false c36; rw [if_neg c36] at h
          refine hJ34 _ ?_
          refine seq_k fun J38 hJ38 => ?_
          refine seq_k fun J39 hJ39 => ?_
          refine reg_k ?_
          have g40 : o0 + x0_1.toNat * 5 + 3 ≤ (cs0).length := (hv0.len_le b12.1 b12.2 (by decide))
          have g41 : (cs0)[o0 + x0_1.toNat * 5 + 3]? = some (.sc (.int .i64 ((rd z66 l0 x0_1).f3))) := hv0.get z66 3 b12.1 b12.2 (by decide)
          simp only [Nat.reduceEqDiff, Nat.reduceAdd, Nat.reduceMul, Nat.reduceLeDiff, Nat.reduceLT, Int.reduceLE, Int.reduceLT, Int.reduceGT, Int.reduceGE, Int.reduceEq, Int.reduceNe, Int.reduceToNat, reduceCtorEq, ak, b12, g40, g41]
          refine hJ39 _ ?_
          refine cond_k (b := decide ((rd z66 l0 x0_1).f3 ≠ t31)) rfl (fun c42 => ?_) (fun c42 => ?_)
          · replace c42 := of_decide_eq_true c42; rw [if_pos c42] at h
            refine seq_k fun J43 hJ43 => ?_
            refine reg_k ?_
            simp only [Nat.reduceEqDiff, Nat.reduceAdd, Nat.reduceMul, Nat.reduceLeDiff, Nat.reduceLT, Int.reduceLE, Int.reduceLT, Int.reduceGT, Int.reduceGE, Int.reduceEq, Int.reduceNe, Int.reduceToNat, reduceCtorEq, ak]
            refine hJ43 _ ?_
            obtain rfl := Option.some.inj h
            refine gh_k (st' := ⟨[(4, .c (.sc (.int .i64 (-1))))], [(.arg 0, ⟨.fz, 5, cs0⟩)], [], []⟩) (((Weak.keep [4]).trans ((Weak.foc [(.arg 0, ⟨(.arg 0), [], none, .fz⟩)] rfl (by first | rfl | simp only [reduceCtorEq, Nat.reduceEqDiff, ak, akF, b12]) (by simp [argK, akG, ak])).trans (Weak.of_eq (by first | rfl | (simp only [reduceCtorEq, Nat.reduceEqDiff, ak, akF, b12]; done) | (simp [reduceCtorEq, Nat.reduceEqDiff, ak, akF, b12]; done)))))) ?_
            refine B9r _ ?_
            refine G0r _ ?_
            exact hx1 _ rfl
          · replace c42 := of_decide_eq_false c42; rw [if_neg c42] at h
            refine hJ38 _ ?_
            refine seq_k fun J44 hJ44 => ?_
            refine reg_k ?_
            simp only [Nat.reduceEqDiff, Nat.reduceAdd, Nat.reduceMul, Nat.reduceLeDiff, Nat.reduceLT, Int.reduceLE, Int.reduceLT, Int.reduceGT, Int.reduceGE, Int.reduceEq, Int.reduceNe, Int.reduceToNat, reduceCtorEq, ak]
            refine hJ44 _ ?_
            refine seq_k fun J45 hJ45 => ?_
            refine seq_k fun J46 hJ46 => ?_
            refine reg_k ?_
            have g47 : o0 + x0_1.toNat * 5 + 4 ≤ (cs0).length := (hv0.len_le b12.1 b12.2 (by decide))
            have g48 : (cs0)[o0 + x0_1.toNat * 5 + 4]? = some (.sc (.int .i64 ((rd z66 l0 x0_1).f4))) := hv0.get z66 4 b12.1 b12.2 (by decide)
            simp only [Nat.reduceEqDiff, Nat.reduceAdd, Nat.reduceMul, Nat.reduceLeDiff, Nat.reduceLT, Int.reduceLE, Int.reduceLT, Int.reduceGT, Int.reduceGE, Int.reduceEq, Int.reduceNe, Int.reduceToNat, reduceCtorEq, ak, b12, g47, g48]
            refine hJ46 _ ?_
            refine cond_k (b := decide ((rd z66 l0 x0_1).f4 ≠ IntKind.i64.wrap (t31 + 1))) rfl (fun c49 => ?_) (fun c49 => ?_)
            · replace c49 := of_decide_eq_true c49; rw [if_pos c49] at h
              refine seq_k fun J50 hJ50 => ?_
              refine reg_k ?_
              simp only [Nat.reduceEqDiff, Nat.reduceAdd, Nat.reduceMul, Nat.reduceLeDiff, Nat.reduceLT, Int.reduceLE, Int.reduceLT, Int.reduceGT, Int.reduceGE, Int.reduceEq, Int.reduceNe, Int.reduceToNat, reduceCtorEq, ak]
              refine hJ50 _ ?_
              obtain rfl := Option.some.inj h
              refine gh_k (st' := ⟨[(4, .c (.sc (.int .i64 (-1))))], [(.arg 0, ⟨.fz, 5, cs0⟩)], [], []⟩) (((Weak.keep [4]).trans ((Weak.foc [(.arg 0, ⟨(.arg 0), [], none, .fz⟩)] rfl (by first | rfl | simp only [reduceCtorEq, Nat.reduceEqDiff, ak, akF, b12]) (by simp [argK, akG, ak])).trans (Weak.of_eq (by first | rfl | (simp only [reduceCtorEq, Nat.reduceEqDiff, ak, akF, b12]; done) | (simp [reduceCtorEq, Nat.reduceEqDiff, ak, akF, b12]; done)))))) ?_
              refine B9r _ ?_
              refine G0r _ ?_
              exact hx1 _ rfl
            · replace c49 := of_decide_eq_false c49; rw [if_neg c49] at h
              refine hJ45 _ ?_
              refine reg_k ?_
              simp only [Nat.reduceEqDiff, Nat.reduceAdd, Nat.reduceMul, Nat.reduceLeDiff, Nat.reduceLT, Int.reduceLE, Int.reduceLT, Int.reduceGT, Int.reduceGE, Int.reduceEq, Int.reduceNe, Int.reduceToNat, reduceCtorEq, ak]
              refine B9n _ ?_
              refine hJ8 _ ?_
              refine reg_k ?_
              simp only [Nat.reduceEqDiff, Nat.reduceAdd, Nat.reduceMul, Nat.reduceLeDiff, Nat.reduceLT, Int.reduceLE, Int.reduceLT, Int.reduceGT, Int.reduceGE, Int.reduceEq, Int.reduceNe, Int.reduceToNat, reduceCtorEq, ak]
              refine G0n _ (⟨[(0, .c (.ref (.arg 0) [] o0 l0.length)), (1, .c (.sc (.int .i64 (IntKind.i64.wrap ((IntKind.i64.wrap (t31 + 1)) + 1))))), (5, .c (.sc (.int .i64 (IntKind.i64.wrap (x0_1 + 1)))))], [(.arg 0, ⟨.fz, 5, cs0⟩)], [], []⟩) (((Weak.keep [0, 1, 5]).trans ((Weak.foc [(.arg 0, ⟨(.arg 0), [], none, .fz⟩)] rfl (by first | rfl | simp only [reduceCtorEq, Nat.reduceEqDiff, ak, akF, b12]) (by simp [argK, akG, ak])).trans (Weak.of_eq (by first | rfl | (simp only [reduceCtorEq, Nat.reduceEqDiff, ak, akF, b12]; done) | (simp [reduceCtorEq, Nat.reduceEqDiff, ak, akF, b12]; done)))))) (ih _ _ _ h K hx0 hx1)
  · replace c7 := of_decide_eq_false c7; rw [if_neg c7] at h
    obtain rfl := Option.some.inj h
    refine gh_k (st' := ⟨[(1, .c (.sc (.int .i64 x0_0)))], [(.arg 0, ⟨.fz, 5, cs0⟩)], [], []⟩) (((Weak.keep [1]).trans ((Weak.foc [(.arg 0, ⟨(.arg 0), [], none, .fz⟩)] rfl (by first | rfl | simp only [reduceCtorEq, Nat.reduceEqDiff, ak, akF]) (by simp [argK, akG, ak])).trans (Weak.of_eq (by first | rfl | (simp only [reduceCtorEq, Nat.reduceEqDiff, ak, akF]; done) | (simp [reduceCtorEq, Nat.reduceEqDiff, ak, akF]; done)))))) ?_
    refine G0x _ _ ?_
    exact hx0 _ rfl
set_option maxRecDepth 100000 in
set_option maxHeartbeats 4000000 in
theorem laws_heldSubOutS.tri (cs0 : List Cell) (o0 : Nat) (l0 : List S66) (hv0 : Vw c66 5 cs0 o0 l0) (a1 : Int) (r : Int) (h : laws_heldSubOutS.f l0 a1 = some r) : Tri Try.prog 42 [.c (.ref (.arg 0) [] o0 l0.length), .c (.sc (.int .i64 a1))] [(.arg 0, ⟨.fz, 5, cs0⟩)] (fun o => o = ⟨.c (.sc (.int .i64 r)), [(.arg 0, ⟨.fz, 5, cs0⟩)], [], []⟩) := by
  refine tri_of_body (ac := c42) (xs := r42) Try.func42 (show Try.f42.body = some (Try.f42.body.getD .skip) from rfl) k42 q42 (Nat.le_of_ble_eq_true rfl) ?_
  refine body_of fun K hKn hKr => ?_
  unfold laws_heldSubOutS.f at h
  unfold c42
  simp only [initT, Nat.reduceAdd]
  refine seq_k fun J1 hJ1 => ?_
  refine reg_k ?_
  simp only [Nat.reduceEqDiff, Nat.reduceAdd, Nat.reduceMul, Nat.reduceLeDiff, Nat.reduceLT, Int.reduceLE, Int.reduceLT, Int.reduceGT, Int.reduceGE, Int.reduceEq, Int.reduceNe, Int.reduceToNat, reduceCtorEq, ak]
  refine hJ1 _ ?_
  refine seq_k fun J2 hJ2 => ?_
  refine seq_k fun J3 hJ3 => ?_
  refine reg_k ?_
  simp only [Nat.reduceEqDiff, Nat.reduceAdd, Nat.reduceMul, Nat.reduceLeDiff, Nat.reduceLT, Int.reduceLE, Int.reduceLT, Int.reduceGT, Int.reduceGE, Int.reduceEq, Int.reduceNe, Int.reduceToNat, reduceCtorEq, ak]
  refine hJ3 _ ?_
  refine block_k fun B4 B4n B4x B4r B4j => ?_
  obtain ⟨y51, h52, h⟩ := of_bind h
  refine gh_k (st' := ⟨[(0, .c (.ref (.arg 0) [] o0 l0.length)), (1, .c (.sc (.int .i64 a1))), (5, .c (.sc (.int .i64 0)))], [(.arg 0, ⟨.fz, 5, cs0⟩)], [], []⟩) (((Weak.keep [0, 1, 5]).trans ((Weak.foc [(.arg 0, ⟨(.arg 0), [], none, .fz⟩)] rfl (by first | rfl | simp only [reduceCtorEq, Nat.reduceEqDiff, ak, akF]) (by simp [argK, akG, ak])).trans (Weak.of_eq (by first | rfl | (simp only [reduceCtorEq, Nat.reduceEqDiff, ak, akF]; done) | (simp [reduceCtorEq, Nat.reduceEqDiff, ak, akF]; done)))))) ?_
  rw [e_loop]
  refine laws_heldSubOutS.l0_walk cs0 o0 l0 hv0 a1 0 _ h52 _ ?_ ?_
  · rintro x53 rfl
    dsimp only at h
    refine B4x _ ?_
    refine hJ2 _ ?_
    refine seq_k fun J54 hJ54 => ?_
    refine reg_k ?_
    simp only [Nat.reduceEqDiff, Nat.reduceAdd, Nat.reduceMul, Nat.reduceLeDiff, Nat.reduceLT, Int.reduceLE, Int.reduceLT, Int.reduceGT, Int.reduceGE, Int.reduceEq, Int.reduceNe, Int.reduceToNat, reduceCtorEq, ak]
    refine hJ54 _ ?_
    obtain rfl := Option.some.inj h
    refine hKr _ ⟨_, rfl, [], _, rfl, rfl, ?_⟩
    first | rfl | (simp only [reduceCtorEq, Nat.reduceEqDiff, ak, akF]; done) | (simp [reduceCtorEq, Nat.reduceEqDiff, ak, akF]; done)
  · rintro x53 rfl
    dsimp only at h
    refine B4r _ ?_
    obtain rfl := Option.some.inj h
    refine hKr _ ⟨_, rfl, [], _, rfl, rfl, ?_⟩
    first | rfl | (simp only [reduceCtorEq, Nat.reduceEqDiff, ak, akF]; done) | (simp [reduceCtorEq, Nat.reduceEqDiff, ak, akF]; done)
/-! ### laws.FnExactSubRun: function 8 -/
def c8 : AC := .seq (.reg [.op none (.box 2 (.tmp 0)), .op none (.mv 4 (.const (.bool false))), .keep [1, 2]]) (.seq (.reg [.op none (.mv 5 (.const (.int .i64 1048576))), .keep [1, 2, 5]]) (.seq (.reg [.op none (.mv 16 (.tmp 1)), .op none (.mv 17 (.tmp 5)), .call none (some 18) 35 [.tmp 16, .tmp 17], .op none (.mv 5 (.tmp 18)), .keep [1, 2, 5]]) (.seq (.seq (.reg [.op none (.mv 19 (.tmp 5)), .op none (.bin 20 .lss (.tmp 19) (.const (.int .i64 0))), .keep [1, 2, 20]]) (.cond (.tmp 20) (.seq (.reg [.op none (.mv 4 (.const (.bool true))), .keep [4]]) (.ret)) (.skip))) (.seq (.reg [.op none (.load 22 true 6 (.tmp 2)), .call none (some 23) 36 [.tmp 22], .op none (.mv 24 (.tmp 1)), .call none (some 25) 37 [.tmp 24], .call none (some 26) 30 [.tmp 23, .tmp 25], .op none (.mv 21 (.tmp 26)), .op none (.extr 27 (.tmp 21) 0), .op none (.extr 28 (.tmp 21) 1), .op none (.mv 6 (.tmp 27)), .op none (.mv 7 (.tmp 28)), .keep [1, 2, 6, 7]]) (.seq (.reg [.op none (.mv 29 (.tmp 1)), .call none (some 30) 37 [.tmp 29], .op none (.mv 8 (.tmp 30)), .keep [1, 2, 6, 7, 8]]) (.seq (.reg [.op none (.load 32 true 6 (.tmp 2)), .call none (some 33) 36 [.tmp 32], .op none (.mv 34 (.tmp 8)), .call none (some 35) 31 [.tmp 33, .tmp 34], .op none (.mv 31 (.tmp 35)), .op none (.extr 36 (.tmp 31) 0), .op none (.extr 37 (.tmp 31) 1), .op none (.mv 9 (.tmp 36)), .op none (.mv 10 (.tmp 37)), .keep [1, 2, 6, 7, 8, 9, 10]]) (.seq (.seq (.ga (.reg [.op none (.mv 38 (.tmp 9)), .op none (.mv 39 (.tmp 6)), .call none (some 40) 38 [.tmp 38, .tmp 39], .op none (.un 41 .not (.tmp 40)), .op none (.mv 42 (.tmp 41)), .op (some (42, false)) (.mv 43 (.tmp 10)), .op (some (42, false)) (.mv 44 (.tmp 7)), .op (some (42, false)) (.bin 45 .neq (.tmp 43) (.tmp 44)), .op none (.pick 46 (.tmp 42) (.const (.bool true)) (.tmp 45)), .keep [1, 2, 6, 7, 8, 9, 10, 46]])) (.cond (.tmp 46) (.seq (.reg [.op none (.mv 4 (.const (.bool false))), .keep [4]]) (.ret)) (.skip))) (.seq (.seq (.reg [.op none (.mv 47 (.tmp 8)), .op none (.mv 48 (.tmp 1)), .call none (some 49) 37 [.tmp 48], .call none (some 50) 39 [.tmp 47, .tmp 49], .op none (.un 51 .not (.tmp 50)), .keep [1, 2, 6, 7, 8, 9, 10, 51]]) (.cond (.tmp 51) (.seq (.reg [.op none (.mv 4 (.const (.bool false))), .keep [4]]) (.ret)) (.skip))) (.seq (.reg [.op none (.mv 11 (.const (.int .i64 1))), .keep [1, 2, 6, 7, 8, 9, 10, 11]]) (.seq (.reg [.op none (.mv 52 (.tmp 8)), .op none (.mv 53 (.tmp 11)), .call none (some 54) 40 [.tmp 52, .tmp 53], .op none (.mv 11 (.tmp 54)), .keep [1, 2, 6, 7, 9, 10, 11]]) (.seq (.seq (.ga (.reg [.op none (.mv 55 (.tmp 11)), .op none (.bin 56 .lss (.tmp 55) (.const (.int .i64 0))), .op none (.mv 57 (.tmp 56)), .op (some (57, false)) (.mv 58 (.tmp 9)), .op (some (57, false)) (.mv 59 (.tmp 6)), .call (some (57, false)) (some 60) 38 [.tmp 58, .tmp 59], .op (some (57, false)) (.un 61 .not (.tmp 60)), .op none (.pick 62 (.tmp 57) (.const (.bool true)) (.tmp 61)), .op none (.mv 63 (.tmp 62)), .op (some (63, false)) (.mv 64 (.tmp 10)), .op (some (63, false)) (.mv 65 (.tmp 7)), .op (some (63, false)) (.bin 66 .neq (.tmp 64) (.tmp 65)), .op none (.pick 67 (.tmp 63) (.const (.bool true)) (.tmp 66)), .keep [1, 2, 6, 7, 9, 67]])) (.cond (.tmp 67) (.seq (.reg [.op none (.mv 4 (.const (.bool false))), .keep [4]]) (.ret)) (.skip))) (.seq (.reg [.op none (.mv 12 (.const (.int .i64 1))), .keep [1, 2, 6, 7, 9, 12]]) (.seq (.reg [.op none (.mv 68 (.tmp 9)), .op none (.mv 69 (.tmp 12)), .call none (some 70) 41 [.tmp 68, .tmp 69], .op none (.mv 12 (.tmp 70)), .keep [1, 2, 6, 7, 9, 12]]) (.seq (.reg [.op none (.mv 13 (.const (.int .i64 1))), .keep [1, 2, 6, 7, 9, 12, 13]]) (.seq (.reg [.op none (.mv 71 (.tmp 9)), .op none (.mv 72 (.tmp 13)), .call none (some 73) 42 [.tmp 71, .tmp 72], .op none (.mv 13 (.tmp 73)), .keep [1, 2, 6, 7, 12, 13]]) (.seq (.seq (.reg [.op none (.mv 74 (.tmp 13)), .op none (.bin 75 .lss (.tmp 74) (.const (.int .i64 0))), .keep [1, 2, 6, 7, 12, 13, 75]]) (.cond (.tmp 75) (.seq (.reg [.op none (.mv 4 (.const (.bool false))), .keep [4]]) (.ret)) (.skip))) (.seq (.seq (.reg [.op none (.mv 76 (.tmp 13)), .op none (.mv 77 (.tmp 12)), .op none (.bin 78 .neq (.tmp 76) (.tmp 77)), .keep [1, 2, 6, 7, 78]]) (.cond (.tmp 78) (.seq (.reg [.op none (.mv 4 (.const (.bool false))), .keep [4]]) (.ret)) (.skip))) (.seq (.reg [.op none (.load 80 true 6 (.tmp 2)), .call none (some 81) 36 [.tmp 80], .op none (.mv 82 (.tmp 1)), .call none (some 83) 37 [.tmp 82], .call none (some 84) 31 [.tmp 81, .tmp 83], .op none (.mv 79 (.tmp 84)), .op none (.extr 85 (.tmp 79) 0), .op none (.extr 86 (.tmp 79) 1), .op none (.mv 14 (.tmp 85)), .op none (.mv 15 (.tmp 86)), .keep [6, 7, 14, 15]]) (.seq (.seq (.ga (.reg [.op none (.mv 87 (.tmp 14)), .op none (.mv 88 (.tmp 6)), .call none (some 89) 38 [.tmp 87, .tmp 88], .op none (.un 90 .not (.tmp 89)), .op none (.mv 91 (.tmp 90)), .op (some (91, false)) (.mv 92 (.tmp 15)), .op (some (91, false)) (.mv 93 (.tmp 7)), .op (some (91, false)) (.bin 94 .neq (.tmp 92) (.tmp 93)), .op none (.pick 95 (.tmp 91) (.const (.bool true)) (.tmp 94)), .keep [95]])) (.cond (.tmp 95) (.seq (.reg [.op none (.mv 4 (.const (.bool false))), .keep [4]]) (.ret)) (.skip))) (.seq (.reg [.op none (.mv 4 (.const (.bool true))), .keep [4]]) (.ret)))))))))))))))))))))
def r8 : List RV := [.tmp 4]
theorem k8 : compC Try.prog 96 c8 (Try.f8.body.getD .skip) = some c8.erase := by kernel_rfl
theorem q8 : rvsOf Try.prog Try.f8.results.toList = some r8 := by kernel_rfl
def laws_FnExactSubRun.f (a0_0 : Int) (a0_1 : Int) (a0_2 : Int) (a0_3 : Int) (a0_4 : Int) (a0_5 : Int) (l1 : List S164) : Option Bool := (laws_szSubEventS.f l1 1048576 >>= fun t4 => (if t4 < 0 then (some true) else (laws_toSubConfig.f a0_0 a0_1 a0_2 a0_3 a0_4 a0_5 >>= fun t12 => (laws_toSubEventS.f l1 >>= fun t15 => (spec_SubRun.f t12.1 t12.2.1 t12.2.2.1 t12.2.2.2.1 t12.2.2.2.2.1 t12.2.2.2.2.2 t15 >>= fun t18 => (impl_SubRun.f t12.1 t12.2.1 t12.2.2.1 t12.2.2.2.1 t12.2.2.2.2.1 t12.2.2.2.2.2 t15 >>= fun t25 => ((laws_eqSubOutS.f t25.1 t18.1 >>= fun t33 => (if (!t33) = true then (some true) else (some (decide (t25.2 ≠ t18.2))))) >>= fun (j29 : Bool) => (if j29 = true then (some false) else (laws_eqSubEventS.f t15 t15 >>= fun t44 => (if (!t44) = true then (some false) else (laws_markSubEventS.f t15 1 >>= fun t51 => ((if t51.1 < 0 then (some true) else (laws_eqSubOutS.f t25.1 t18.1 >>= fun t63 => (if (!t63) = true then (some true) else (some (decide (t25.2 ≠ t18.2)))))) >>= fun (j56 : Bool) => (if j56 = true then (some false) else (laws_markSubOutS.f t25.1 1 >>= fun t73 => (laws_heldSubOutS.f t73.2 1 >>= fun t79 => (if t79 < 0 then (some false) else (if t79 ≠ t73.1 then (some false) else ((laws_eqSubOutS.f t25.1 t18.1 >>= fun t99 => (if (!t99) = true then (some true) else (some (decide (t25.2 ≠ t18.2))))) >>= fun (j95 : Bool) => (if j95 = true then (some false) else (some true))))))))))))))))))))
set_option maxRecDepth 100000 in
set_option maxHeartbeats 4000000 in
theorem laws_FnExactSubRun.tri (cs0 : List Cell) (o0 : Nat) (l1 : List S164) (hv0 : Vw c164 3 cs0 o0 l1) (a0_0 : Int) (a0_1 : Int) (a0_2 : Int) (a0_3 : Int) (a0_4 : Int) (a0_5 : Int) (r : Bool) (h : laws_FnExactSubRun.f a0_0 a0_1 a0_2 a0_3 a0_4 a0_5 l1 = some r) : Tri Try.prog 8 [.g [.sc (.int .u32 a0_0), .sc (.int .i64 a0_1), .sc (.int .i64 a0_2), .sc (.int .i64 a0_3), .sc (.int .i64 a0_4), .sc (.int .i64 a0_5)], .c (.ref (.arg 0) [] o0 l1.length)] [(.arg 0, ⟨.fz, 3, cs0⟩)] (fun o => o = ⟨.c (.sc (.bool r)), [(.arg 0, ⟨.fz, 3, cs0⟩)], [], []⟩) := by
  refine tri_of_body (ac := c8) (xs := r8) Try.func8 (show Try.f8.body = some (Try.f8.body.getD .skip) from rfl) k8 q8 (Nat.le_of_ble_eq_true rfl) ?_
  refine body_of fun K hKn hKr => ?_
  unfold laws_FnExactSubRun.f at h
  unfold c8
  simp only [initT, Nat.reduceAdd]
  refine seq_k fun J1 hJ1 => ?_
  refine reg_k ?_
  simp only [Nat.reduceEqDiff, Nat.reduceAdd, Nat.reduceMul, Nat.reduceLeDiff, Nat.reduceLT, Int.reduceLE, Int.reduceLT, Int.reduceGT, Int.reduceGE, Int.reduceEq, Int.reduceNe, Int.reduceToNat, reduceCtorEq, ak]
  refine hJ1 _ ?_
  refine seq_k fun J2 hJ2 => ?_
  refine reg_k ?_
  simp only [Nat.reduceEqDiff, Nat.reduceAdd, Nat.reduceMul, Nat.reduceLeDiff, Nat.reduceLT, Int.reduceLE, Int.reduceLT, Int.reduceGT, Int.reduceGE, Int.reduceEq, Int.reduceNe, Int.reduceToNat, reduceCtorEq, ak]
  refine hJ2 _ ?_
  refine seq_k fun J3 hJ3 => ?_
  refine reg_k ?_
  simp only [Nat.reduceEqDiff, Nat.reduceAdd, Nat.reduceMul, Nat.reduceLeDiff, Nat.reduceLT, Int.reduceLE, Int.reduceLT, Int.reduceGT, Int.reduceGE, Int.reduceEq, Int.reduceNe, Int.reduceToNat, reduceCtorEq, ak]
  obtain ⟨t4, h5, h⟩ := of_bind h
  refine call_m [(.arg 0, ⟨(.arg 0), [], none, .fz⟩)] (s0 := [(.arg 0, ⟨.fz, 3, cs0⟩)]) (by intro t ht; cases ht; decide) rfl rfl (by first | rfl | simp only [reduceCtorEq, Nat.reduceEqDiff, ak, akF]) (laws_szSubEventS.tri (cs0) o0 l1 hv0 1048576 _ h5) (by first | rfl | simp only [reduceCtorEq, Nat.reduceEqDiff, ak, akF]) (by simp [bkOk2, memK]) (fun hl5 => ?_)
  refine call_st (s4 := [(.arg 0, ⟨.fz, 3, cs0⟩), (.tmp 2 0, ⟨.box, 0, [.sc (.int .u32 a0_0), .sc (.int .i64 a0_1), .sc (.int .i64 a0_2), .sc (.int .i64 a0_3), .sc (.int .i64 a0_4), .sc (.int .i64 a0_5)]⟩)]) (m1' := []) (m2' := []) (v' := .c (.sc (.int .i64 t4))) (Sto.mapN_killNil _ _) (mrgL_fz (mrgL_nil' _ _ _) rfl (by first | rfl | simp only [reduceCtorEq, Nat.reduceEqDiff, ak]) rfl (by intro R hR hh; cases hR; cases hh.2)) (by rfl) (mapT_killNil _ _) (by rfl) (by rfl) (by first | rfl | simp only [reduceCtorEq, Nat.reduceEqDiff, ak, akF, Nat.zero_add, List.append_nil]) ?_
  simp only [Nat.reduceEqDiff, Nat.reduceAdd, Nat.reduceMul, Nat.reduceLeDiff, Nat.reduceLT, Int.reduceLE, Int.reduceLT, Int.reduceGT, Int.reduceGE, Int.reduceEq, Int.reduceNe, Int.reduceToNat, reduceCtorEq, ak]
  refine hJ3 _ ?_
  refine seq_k fun J7 hJ7 => ?_
  refine seq_k fun J8 hJ8 => ?_
  refine reg_k ?_
  simp only [Nat.reduceEqDiff, Nat.reduceAdd, Nat.reduceMul, Nat.reduceLeDiff, Nat.reduceLT, Int.reduceLE, Int.reduceLT, Int.reduceGT, Int.reduceGE, Int.reduceEq, Int.reduceNe, Int.reduceToNat, reduceCtorEq, ak]
  refine hJ8 _ ?_
  refine cond_k (b := decide (t4 < 0)) rfl (fun c9 => ?_) (fun c9 => ?_)
  · replace c9 := of_decide_eq_true c9; rw [if_pos c9] at h
    refine seq_k fun J10 hJ10 => ?_
    refine reg_k ?_
    simp only [Nat.reduceEqDiff, Nat.reduceAdd, Nat.reduceMul, Nat.reduceLeDiff, Nat.reduceLT, Int.reduceLE, Int.reduceLT, Int.reduceGT, Int.reduceGE, Int.reduceEq, Int.reduceNe, Int.reduceToNat, reduceCtorEq, ak]
    refine hJ10 _ ?_
    obtain rfl := Option.some.inj h
    refine hKr _ ⟨_, rfl, [], _, rfl, rfl, ?_⟩
    first | rfl | (simp only [reduceCtorEq, Nat.reduceEqDiff, ak, akF]; done) | (simp [reduceCtorEq, Nat.reduceEqDiff, ak, akF]; done)
  · replace c9 := of_decide_eq_false c9; rw [if_neg c9] at h
    refine hJ7 _ ?_
    refine seq_k fun J11 hJ11 => ?_
    refine reg_k ?_
    simp only [Nat.reduceEqDiff, Nat.reduceAdd, Nat.reduceMul, Nat.reduceLeDiff, Nat.reduceLT, Int.reduceLE, Int.reduceLT, Int.reduceGT, Int.reduceGE, Int.reduceEq, Int.reduceNe, Int.reduceToNat, reduceCtorEq, ak]
    obtain ⟨t12, h13, h⟩ := of_bind h
    refine call_m [] (s0 := []) (by intro t ht; cases ht; decide) rfl rfl (by first | rfl | simp only [reduceCtorEq, Nat.reduceEqDiff, ak, akF]) (laws_toSubConfig.tri a0_0 a0_1 a0_2 a0_3 a0_4 a0_5 _ h13) (by first | rfl | simp only [reduceCtorEq, Nat.reduceEqDiff, ak, akF]) (by simp [bkOk2, memK]) (fun hl13 => ?_)
    refine call_st (s4 := [(.arg 0, ⟨.fz, 3, cs0⟩), (.tmp 2 0, ⟨.box, 0, [.sc (.int .u32 a0_0), .sc (.int .i64 a0_1), .sc (.int .i64 a0_2), .sc (.int .i64 a0_3), .sc (.int .i64 a0_4), .sc (.int .i64 a0_5)]⟩)]) (m1' := []) (m2' := []) (v' := .g [.sc (.int .u32 t12.1), .sc (.int .i64 t12.2.1), .sc (.int .i64 t12.2.2.1), .sc (.int .i64 t12.2.2.2.1), .sc (.int .i64 t12.2.2.2.2.1), .sc (.int .i64 t12.2.2.2.2.2)]) (Sto.mapN_killNil _ _) (mrgL_nil' _ _ _) (by rfl) (mapT_killNil _ _) (by rfl) (by rfl) (by first | rfl | simp only [reduceCtorEq, Nat.reduceEqDiff, ak, akF, Nat.zero_add, List.append_nil]) ?_
    simp only [Nat.reduceEqDiff, Nat.reduceAdd, Nat.reduceMul, Nat.reduceLeDiff, Nat.reduceLT, Int.reduceLE, Int.reduceLT, Int.reduceGT, Int.reduceGE, Int.reduceEq, Int.reduceNe, Int.reduceToNat, reduceCtorEq, ak]
    obtain ⟨t15, h16, h⟩ := of_bind h
    refine call_m [(.arg 0, ⟨(.arg 0), [], none, .fz⟩)] (s0 := [(.arg 0, ⟨.fz, 3, cs0⟩)]) (by intro t ht; cases ht; decide) rfl rfl (by first | rfl | simp only [reduceCtorEq, Nat.reduceEqDiff, ak, akF]) (laws_toSubEventS.tri (cs0) o0 l1 hv0 _ h16) (by first | rfl | simp only [reduceCtorEq, Nat.reduceEqDiff, ak, akF]) (by simp [bkOk2, memK]) (fun hl16 => ?_)
    refine call_st (s4 := [(.arg 0, ⟨.fz, 3, cs0⟩), (.tmp 2 0, ⟨.box, 0, [.sc (.int .u32 a0_0), .sc (.int .i64 a0_1), .sc (.int .i64 a0_2), .sc (.int .i64 a0_3), .sc (.int .i64 a0_4), .sc (.int .i64 a0_5)]⟩), (.tmp 25 0, ⟨.lst, 3, encL c63 t15⟩)]) (m1' := []) (m2' := []) (v' := .c (.ref (.tmp 25 0) [] 0 t15.length)) (Sto.mapN_killNil _ _) (mrgL_fz (mrgL_nil' _ _ _) rfl (by first | rfl | simp only [reduceCtorEq, Nat.reduceEqDiff, ak]) rfl (by intro R hR hh; cases hR; cases hh.2)) (by rfl) (mapT_killNil _ _) (by rfl) (by rfl) (by first | rfl | simp only [reduceCtorEq, Nat.reduceEqDiff, ak, akF, Nat.zero_add, List.append_nil]) ?_
    simp only [Nat.reduceEqDiff, Nat.reduceAdd, Nat.reduceMul, Nat.reduceLeDiff, Nat.reduceLT, Int.reduceLE, Int.reduceLT, Int.reduceGT, Int.reduceGE, Int.reduceEq, Int.reduceNe, Int.reduceToNat, reduceCtorEq, ak]
    obtain ⟨t18, h19, h⟩ := of_bind h
    refine call_m [(.arg 0, ⟨(.tmp 25 0), [], none, .fz⟩)] (s0 := [(.arg 0, ⟨.fz, 3, encL c63 t15⟩)]) (by intro t ht; cases ht; decide) rfl rfl (by first | rfl | simp only [reduceCtorEq, Nat.reduceEqDiff, ak, akF]) (spec_SubRun.tri (encL c63 t15) 0 t15 (Vw.whole c63_w t15) t12.1 t12.2.1 t12.2.2.1 t12.2.2.2.1 t12.2.2.2.2.1 t12.2.2.2.2.2 _ h19) (by first | rfl | simp only [reduceCtorEq, Nat.reduceEqDiff, ak, akF]) (by simp [bkOk2, memK]) (fun hl19 => ?_)
    refine call_st (s4 := [(.arg 0, ⟨.fz, 3, cs0⟩), (.tmp 2 0, ⟨.box, 0, [.sc (.int .u32 a0_0), .sc (.int .i64 a0_1), .sc (.int .i64 a0_2), .sc (.int .i64 a0_3), .sc (.int .i64 a0_4), .sc (.int .i64 a0_5)]⟩), (.tmp 25 0, ⟨.lst, 3, encL c63 t15⟩), (.tmp 26 0, ⟨.lst, 5, encL c66 t18.1⟩)]) (m1' := []) (m2' := []) (v' := .tup [(false, [.ref (.tmp 26 0) [] 0 t18.1.length]), (false, [.sc (.int .i64 t18.2)])]) (Sto.mapN_killNil _ _) (mrgL_fz (mrgL_nil' _ _ _) rfl (by first | rfl | simp only [reduceCtorEq, Nat.reduceEqDiff, ak]) rfl (by intro R hR hh; cases hR; cases hh.2)) (by rfl) (mapT_killNil _ _) (by rfl) (by rfl) (by first | rfl | simp only [reduceCtorEq, Nat.reduceEqDiff, ak, akF, Nat.zero_add, List.append_nil]) ?_
    simp only [Nat.reduceEqDiff, Nat.reduceAdd, Nat.reduceMul, Nat.reduceLeDiff, Nat.reduceLT, Int.reduceLE, Int.reduceLT, Int.reduceGT, Int.reduceGE, Int.reduceEq, Int.reduceNe, Int.reduceToNat, reduceCtorEq, ak]
    refine hJ11 _ ?_
    refine seq_k fun J21 hJ21 => ?_
    refine reg_k ?_
    simp only [Nat.reduceEqDiff, Nat.reduceAdd, Nat.reduceMul, Nat.reduceLeDiff, Nat.reduceLT, Int.reduceLE, Int.reduceLT, Int.reduceGT, Int.reduceGE, Int.reduceEq, Int.reduceNe, Int.reduceToNat, reduceCtorEq, ak]
    refine call_m [(.arg 0, ⟨(.arg 0), [], none, .fz⟩)] (s0 := [(.arg 0, ⟨.fz, 3, cs0⟩)]) (by intro t ht; cases ht; decide) rfl rfl (by first | rfl | simp only [reduceCtorEq, Nat.reduceEqDiff, ak, akF]) (laws_toSubEventS.tri (cs0) o0 l1 hv0 _ h16) (by first | rfl | simp only [reduceCtorEq, Nat.reduceEqDiff, ak, akF]) (by simp [bkOk2, memK]) (fun hl21 => ?_)
    refine call_st (s4 := [(.arg 0, ⟨.fz, 3, cs0⟩), (.tmp 2 0, ⟨.box, 0, [.sc (.int .u32 a0_0), .sc (.int .i64 a0_1), .sc (.int .i64 a0_2), .sc (.int .i64 a0_3), .sc (.int .i64 a0_4), .sc (.int .i64 a0_5)]⟩), (.tmp 25 0, ⟨.lst, 3, encL c63 t15⟩), (.tmp 26 0, ⟨.lst, 5, encL c66 t18.1⟩), (.tmp 30 0, ⟨.lst, 3, encL c63 t15⟩)]) (m1' := []) (m2' := []) (v' := .c (.ref (.tmp 30 0) [] 0 t15.length)) (Sto.mapN_killNil _ _) (mrgL_fz (mrgL_nil' _ _ _) rfl (by first | rfl | simp only [reduceCtorEq, Nat.reduceEqDiff, ak]) rfl (by intro R hR hh; cases hR; cases hh.2)) (by rfl) (mapT_killNil _ _) (by rfl) (by rfl) (by first | rfl | simp only [reduceCtorEq, Nat.reduceEqDiff, ak, akF, Nat.zero_add, List.append_nil]) ?_
    simp only [Nat.reduceEqDiff, Nat.reduceAdd, Nat.reduceMul, Nat.reduceLeDiff, Nat.reduceLT, Int.reduceLE, Int.reduceLT, Int.reduceGT, Int.reduceGE, Int.reduceEq, Int.reduceNe, Int.reduceToNat, reduceCtorEq, ak]
    refine hJ21 _ ?_
    refine seq_k fun J23 hJ23 => ?_
    refine reg_k ?_
    simp only [Nat.reduceEqDiff, Nat.reduceAdd, Nat.reduceMul, Nat.reduceLeDiff, Nat.reduceLT, Int.reduceLE, Int.reduceLT, Int.reduceGT, Int.reduceGE, Int.reduceEq, Int.reduceNe, Int.reduceToNat, reduceCtorEq, ak]
    refine call_m [] (s0 := []) (by intro t ht; cases ht; decide) rfl rfl (by first | rfl | simp only [reduceCtorEq, Nat.reduceEqDiff, ak, akF]) (laws_toSubConfig.tri a0_0 a0_1 a0_2 a0_3 a0_4 a0_5 _ h13) (by first | rfl | simp only [reduceCtorEq, Nat.reduceEqDiff, ak, akF]) (by simp [bkOk2, memK]) (fun hl23 => ?_)
    refine call_st (s4 := [(.arg 0, ⟨.fz, 3, cs0⟩), (.tmp 2 0, ⟨.box, 0, [.sc (.int .u32 a0_0), .sc (.int .i64 a0_1), .sc (.int .i64 a0_2), .sc (.int .i64 a0_3), .sc (.int .i64 a0_4), .sc (.int .i64 a0_5)]⟩), (.tmp 25 0, ⟨.lst, 3, encL c63 t15⟩), (.tmp 26 0, ⟨.lst, 5, encL c66 t18.1⟩), (.tmp 30 0, ⟨.lst, 3, encL c63 t15⟩)]) (m1' := []) (m2' := []) (v' := .g [.sc (.int .u32 t12.1), .sc (.int .i64 t12.2.1), .sc (.int .i64 t12.2.2.1), .sc (.int .i64 t12.2.2.2.1), .sc (.int .i64 t12.2.2.2.2.1), .sc (.int .i64 t12.2.2.2.2.2)]) (Sto.mapN_killNil _ _) (mrgL_nil' _ _ _) (by rfl) (mapT_killNil _ _) (by rfl) (by rfl) (by first | rfl | simp only [reduceCtorEq, Nat.reduceEqDiff, ak, akF, Nat.zero_add, List.append_nil]) ?_
    simp only [Nat.reduceEqDiff, Nat.reduceAdd, Nat.reduceMul, Nat.reduceLeDiff, Nat.reduceLT, Int.reduceLE, Int.reduceLT, Int.reduceGT, Int.reduceGE, Int.reduceEq, Int.reduceNe, Int.reduceToNat, reduceCtorEq, ak]
    obtain ⟨t25, h26, h⟩ := of_bind h
    refine call_m [(.arg 0, ⟨(.tmp 30 0), [], none, .fz⟩)] (s0 := [(.arg 0, ⟨.fz, 3, encL c63 t15⟩)]) (by intro t ht; cases ht; decide) rfl rfl (by first | rfl | simp only [reduceCtorEq, Nat.reduceEqDiff, ak, akF]) (impl_SubRun.tri (encL c63 t15) 0 t15 (Vw.whole c63_w t15) t12.1 t12.2.1 t12.2.2.1 t12.2.2.2.1 t12.2.2.2.2.1 t12.2.2.2.2.2 _ h26) (by first | rfl | simp only [reduceCtorEq, Nat.reduceEqDiff, ak, akF]) (by simp [bkOk2, memK]) (fun hl26 => ?_)
    refine call_st (s4 := [(.arg 0, ⟨.fz, 3, cs0⟩), (.tmp 2 0, ⟨.box, 0, [.sc (.int .u32 a0_0), .sc (.int .i64 a0_1), .sc (.int .i64 a0_2), .sc (.int .i64 a0_3), .sc (.int .i64 a0_4), .sc (.int .i64 a0_5)]⟩), (.tmp 25 0, ⟨.lst, 3, encL c63 t15⟩), (.tmp 26 0, ⟨.lst, 5, encL c66 t18.1⟩), (.tmp 30 0, ⟨.lst, 3, encL c63 t15⟩), (.tmp 35 0, ⟨.lst, 5, encL c66 t25.1⟩)]) (m1' := []) (m2' := []) (v' := .tup [(false, [.ref (.tmp 35 0) [] 0 t25.1.length]), (false, [.sc (.int .i64 t25.2)])]) (Sto.mapN_killNil _ _) (mrgL_fz (mrgL_nil' _ _ _) rfl (by first | rfl | simp only [reduceCtorEq, Nat.reduceEqDiff, ak]) rfl (by intro R hR hh; cases hR; cases hh.2)) (by rfl) (mapT_killNil _ _) (by rfl) (by rfl) (by first | rfl | simp only [reduceCtorEq, Nat.reduceEqDiff, ak, akF, Nat.zero_add, List.append_nil]) ?_
    simp only [Nat.reduceEqDiff, Nat.reduceAdd, Nat.reduceMul, Nat.reduceLeDiff, Nat.reduceLT, Int.reduceLE, Int.reduceLT, Int.reduceGT, Int.reduceGE, Int.reduceEq, Int.reduceNe, Int.reduceToNat, reduceCtorEq, ak]
    refine hJ23 _ ?_
    refine seq_k fun J28 hJ28 => ?_
    obtain ⟨j29, h30, hn⟩ := of_bind h
    refine seq_j (fun st => st = ⟨[(1, .c (.ref (.arg 0) [] o0 l1.length)), (2, .c (.ptr (.tmp 2 0) [] 0)), (6, .c (.ref (.tmp 26 0) [] 0 t18.1.length)), (7, .c (.sc (.int .i64 t18.2))), (8, .c (.ref (.tmp 30 0) [] 0 t15.length)), (9, .c (.ref (.tmp 35 0) [] 0 t25.1.length)), (10, .c (.sc (.int .i64 t25.2))), (46, .c (.sc (.bool j29)))], [(.arg 0, ⟨.fz, 3, cs0⟩), (.tmp 2 0, ⟨.box, 0, [.sc (.int .u32 a0_0), .sc (.int .i64 a0_1), .sc (.int .i64 a0_2), .sc (.int .i64 a0_3), .sc (.int .i64 a0_4), .sc (.int .i64 a0_5)]⟩), (.tmp 26 0, ⟨.lst, 5, encL c66 t18.1⟩), (.tmp 30 0, ⟨.lst, 3, encL c63 t15⟩), (.tmp 35 0, ⟨.lst, 5, encL c66 t25.1⟩)], [], []⟩) (fun J31 hJ31 => ?_) ?_
    · replace h := h30; clear hn
      refine ga_k fun G32 G32n G32r G32x => ?_
      refine reg_k ?_
      simp only [Nat.reduceEqDiff, Nat.reduceAdd, Nat.reduceMul, Nat.reduceLeDiff, Nat.reduceLT, Int.reduceLE, Int.reduceLT, Int.reduceGT, Int.reduceGE, Int.reduceEq, Int.reduceNe, Int.reduceToNat, reduceCtorEq, ak]
      obtain ⟨t33, h34, h⟩ := of_bind h
      refine call_m [(.arg 0, ⟨(.tmp 35 0), [], none, .fz⟩), (.arg 1, ⟨(.tmp 26 0), [], none, .fz⟩)] (s0 := [(.arg 0, ⟨.fz, 5, encL c66 t25.1⟩), (.arg 1, ⟨.fz, 5, encL c66 t18.1⟩)]) (by intro t ht; cases ht; decide) rfl rfl (by first | rfl | simp only [reduceCtorEq, Nat.reduceEqDiff, ak, akF]) (laws_eqSubOutS.tri (encL c66 t25.1) 0 t25.1 (Vw.whole c66_w t25.1) (encL c66 t18.1) 0 t18.1 (Vw.whole c66_w t18.1) _ h34) (by first | rfl | simp only [reduceCtorEq, Nat.reduceEqDiff, ak, akF]) (by simp [bkOk2, memK]) (fun hl34 => ?_)
      refine call_st (s4 := [(.arg 0, ⟨.fz, 3, cs0⟩), (.tmp 2 0, ⟨.box, 0, [.sc (.int .u32 a0_0), .sc (.int .i64 a0_1), .sc (.int .i64 a0_2), .sc (.int .i64 a0_3), .sc (.int .i64 a0_4), .sc (.int .i64 a0_5)]⟩), (.tmp 25 0, ⟨.lst, 3, encL c63 t15⟩), (.tmp 26 0, ⟨.lst, 5, encL c66 t18.1⟩), (.tmp 30 0, ⟨.lst, 3, encL c63 t15⟩), (.tmp 35 0, ⟨.lst, 5, encL c66 t25.1⟩)]) (m1' := []) (m2' := []) (v' := .c (.sc (.bool t33))) (Sto.mapN_killNil _ _) (mrgL_fz (mrgL_fz (mrgL_nil' _ _ _) rfl (by first | rfl | simp only [reduceCtorEq, Nat.reduceEqDiff, ak]) rfl (by intro R hR hh; cases hR; cases hh.2)) rfl (by first | rfl | simp only [reduceCtorEq, Nat.reduceEqDiff, ak]) rfl (by intro R hR hh; cases hR; cases hh.2)) (by rfl) (mapT_killNil _ _) (by rfl) (by rfl) (by first | rfl | simp only [reduceCtorEq, Nat.reduceEqDiff, ak, akF, Nat.zero_add, List.append_nil]) ?_
      simp only [Nat.reduceEqDiff, Nat.reduceAdd, Nat.reduceMul, Nat.reduceLeDiff, Nat.reduceLT, Int.reduceLE, Int.reduceLT, Int.reduceGT, Int.reduceGE, Int.reduceEq, Int.reduceNe, Int.reduceToNat, reduceCtorEq, ak]
      by_cases c36 : (!t33) = true
      · rw [if_pos c36] at h
        have e37 : (!t33) = true := c36
        simp only [Nat.reduceEqDiff, Nat.reduceAdd, Nat.reduceMul, Nat.reduceLeDiff, Nat.reduceLT, Int.reduceLE, Int.reduceLT, Int.reduceGT, Int.reduceGE, Int.reduceEq, Int.reduceNe, Int.reduceToNat, reduceCtorEq, ak, e37]
        obtain rfl := Option.some.inj h
        refine G32n _ _ (((Weak.keep [1, 2, 6, 7, 8, 9, 10, 46]).trans ((Weak.foc [(.arg 0, ⟨(.arg 0), [], none, .fz⟩), (.tmp 2 0, ⟨(.tmp 2 0), [], none, .box⟩), (.tmp 26 0, ⟨(.tmp 26 0), [], none, .lst⟩), (.tmp 30 0, ⟨(.tmp 30 0), [], none, .lst⟩), (.tmp 35 0, ⟨(.tmp 35 0), [], none, .lst⟩)] rfl (by first | rfl | simp only [reduceCtorEq, Nat.reduceEqDiff, ak, akF, e37]) (by simp [argK, akG, ak])).trans (Weak.of_eq (by first | rfl | (simp only [reduceCtorEq, Nat.reduceEqDiff, ak, akF, e37]; done) | (simp [reduceCtorEq, Nat.reduceEqDiff, ak, akF, e37]; done)))))) (hJ31 _ rfl)
      · rw [if_neg c36] at h
        have e38 : (!t33) = false := Bool.eq_false_iff.2 c36
        simp only [Nat.reduceEqDiff, Nat.reduceAdd, Nat.reduceMul, Nat.reduceLeDiff, Nat.reduceLT, Int.reduceLE, Int.reduceLT, Int.reduceGT, Int.reduceGE, Int.reduceEq, Int.reduceNe, Int.reduceToNat, reduceCtorEq, ak, e38]
        obtain rfl := Option.some.inj h
        refine G32n _ _ (((Weak.keep [1, 2, 6, 7, 8, 9, 10, 46]).trans ((Weak.foc [(.arg 0, ⟨(.arg 0), [], none, .fz⟩), (.tmp 2 0, ⟨(.tmp 2 0), [], none, .box⟩), (.tmp 26 0, ⟨(.tmp 26 0), [], none, .lst⟩), (.tmp 30 0, ⟨(.tmp 30 0), [], none, .lst⟩), (.tmp 35 0, ⟨(.tmp 35 0), [], none, .lst⟩)] rfl (by first | rfl | simp only [reduceCtorEq, Nat.reduceEqDiff, ak, akF, e38]) (by simp [argK, akG, ak])).trans (Weak.of_eq (by first | rfl | (simp only [reduceCtorEq, Nat.reduceEqDiff, ak, akF, e38]; done) | (simp [reduceCtorEq, Nat.reduceEqDiff, ak, akF, e38]; done)))))) (hJ31 _ rfl)
    · replace h := hn; clear hn h30
      rintro _ rfl
      refine cond_k (b := j29) rfl (fun c39 => ?_) (fun c39 => ?_)
      · rw [if_pos c39] at h
        refine seq_k fun J40 hJ40 => ?_
        refine reg_k ?_
        simp only [Nat.reduceEqDiff, Nat.reduceAdd, Nat.reduceMul, Nat.reduceLeDiff, Nat.reduceLT, Int.reduceLE, Int.reduceLT, Int.reduceGT, Int.reduceGE, Int.reduceEq, Int.reduceNe, Int.reduceToNat, reduceCtorEq, ak]
        refine hJ40 _ ?_
        obtain rfl := Option.some.inj h
        refine hKr _ ⟨_, rfl, [], _, rfl, rfl, ?_⟩
        first | rfl | (simp only [reduceCtorEq, Nat.reduceEqDiff, ak, akF]; done) | (simp [reduceCtorEq, Nat.reduceEqDiff, ak, akF]; done)
      · rw [if_neg (Bool.eq_false_iff.1 c39)] at h
        refine hJ28 _ ?_
        refine seq_k fun J41 hJ41 => ?_
        refine seq_k fun J42 hJ42 => ?_
        refine reg_k ?_
        simp only [Nat.reduceEqDiff, Nat.reduceAdd, Nat.reduceMul, Nat.reduceLeDiff, Nat.reduceLT, Int.reduceLE, Int.reduceLT, Int.reduceGT, Int.reduceGE, Int.reduceEq, Int.reduceNe, Int.reduceToNat, reduceCtorEq, ak]
        refine call_m [(.arg 0, ⟨(.arg 0), [], none, .fz⟩)] (s0 := [(.arg 0, ⟨.fz, 3, cs0⟩)]) (by intro t ht; cases ht; decide) rfl rfl (by first | rfl | simp only [reduceCtorEq, Nat.reduceEqDiff, ak, akF]) (laws_toSubEventS.tri (cs0) o0 l1 hv0 _ h16) (by first | rfl | simp only [reduceCtorEq, Nat.reduceEqDiff, ak, akF]) (by simp [bkOk2, memK]) (fun hl42 => ?_)
        refine call_st (s4 := [(.arg 0, ⟨.fz, 3, cs0⟩), (.tmp 2 0, ⟨.box, 0, [.sc (.int .u32 a0_0), .sc (.int .i64 a0_1), .sc (.int .i64 a0_2), .sc (.int .i64 a0_3), .sc (.int .i64 a0_4), .sc (.int .i64 a0_5)]⟩), (.tmp 26 0, ⟨.lst, 5, encL c66 t18.1⟩), (.tmp 30 0, ⟨.lst, 3, encL c63 t15⟩), (.tmp 35 0, ⟨.lst, 5, encL c66 t25.1⟩), (.tmp 49 0, ⟨.lst, 3, encL c63 t15⟩)]) (m1' := []) (m2' := []) (v' := .c (.ref (.tmp 49 0) [] 0 t15.length)) (Sto.mapN_killNil _ _) (mrgL_fz (mrgL_nil' _ _ _) rfl (by first | rfl | simp only [reduceCtorEq, Nat.reduceEqDiff, ak]) rfl (by intro R hR hh; cases hR; cases hh.2)) (by rfl) (mapT_killNil _ _) (by rfl) (by rfl) (by first | rfl | simp only [reduceCtorEq, Nat.reduceEqDiff, ak, akF, Nat.zero_add, List.append_nil]) ?_
        simp only [Nat.reduceEqDiff, Nat.reduceAdd, Nat.reduceMul, Nat.reduceLeDiff, Nat.reduceLT, Int.reduceLE, Int.reduceLT, Int.reduceGT, Int.reduceGE, Int.reduceEq, Int.reduceNe, Int.reduceToNat, reduceCtorEq, ak]
        obtain ⟨t44, h45, h⟩ := of_bind h
        refine call_m [(.arg 0, ⟨(.tmp 30 0), [], none, .fz⟩), (.arg 1, ⟨(.tmp 49 0), [], none, .fz⟩)] (s0 := [(.arg 0, ⟨.fz, 3, encL c63 t15⟩), (.arg 1, ⟨.fz, 3, encL c63 t15⟩)]) (by intro t ht; cases ht; decide) rfl rfl (by first | rfl | simp only [reduceCtorEq, Nat.reduceEqDiff, ak, akF]) (laws_eqSubEventS.tri (encL c63 t15) 0 t15 (Vw.whole c63_w t15) (encL c63 t15) 0 t15 (Vw.whole c63_w t15) _ h45) (by first | rfl | simp only [reduceCtorEq, Nat.reduceEqDiff, ak, akF]) (by simp [bkOk2, memK]) (fun hl45 => ?_)
        refine call_st (s4 := [(.arg 0, ⟨.fz, 3, cs0⟩), (.tmp 2 0, ⟨.box, 0, [.sc (.int .u32 a0_0), .sc (.int .i64 a0_1), .sc (.int .i64 a0_2), .sc (.int .i64 a0_3), .sc (.int .i64 a0_4), .sc (.int .i64 a0_5)]⟩), (.tmp 26 0, ⟨.lst, 5, encL c66 t18.1⟩), (.tmp 30 0, ⟨.lst, 3, encL c63 t15⟩), (.tmp 35 0, ⟨.lst, 5, encL c66 t25.1⟩), (.tmp 49 0, ⟨.lst, 3, encL c63 t15⟩)]) (m1' := []) (m2' := []) (v' := .c (.sc (.bool t44))) (Sto.mapN_killNil _ _) (mrgL_fz (mrgL_fz (mrgL_nil' _ _ _) rfl (by first | rfl | simp only [reduceCtorEq, Nat.reduceEqDiff, ak]) rfl (by intro R hR hh; cases hR; cases hh.2)) rfl (by first | rfl | simp only [reduceCtorEq, Nat.reduceEqDiff, ak]) rfl (by intro R hR hh; cases hR; cases hh.2)) (by rfl) (mapT_killNil _ _) (by rfl) (by rfl) (by first | rfl | simp only [reduceCtorEq, Nat.reduceEqDiff, ak, akF, Nat.zero_add, List.append_nil]) ?_
        simp only [Nat.reduceEqDiff, Nat.reduceAdd, Nat.reduceMul, Nat.reduceLeDiff, Nat.reduceLT, Int.reduceLE, Int.reduceLT, Int.reduceGT, Int.reduceGE, Int.reduceEq, Int.reduceNe, Int.reduceToNat, reduceCtorEq, ak]
        refine hJ42 _ ?_
        refine cond_k (b := !t44) rfl (fun c47 => ?_) (fun c47 => ?_)
        · rw [if_pos c47] at h
          refine seq_k fun J48 hJ48 => ?_
          refine reg_k ?_
          simp only [Nat.reduceEqDiff, Nat.reduceAdd, Nat.reduceMul, Nat.reduceLeDiff, Nat.reduceLT, Int.reduceLE, Int.reduceLT, Int.reduceGT, Int.reduceGE, Int.reduceEq, Int.reduceNe, Int.reduceToNat, reduceCtorEq, ak]
          refine hJ48 _ ?_
          obtain rfl := Option.some.inj h
          refine hKr _ ⟨_, rfl, [], _, rfl, rfl, ?_⟩
          first | rfl | (simp only [reduceCtorEq, Nat.reduceEqDiff, ak, akF]; done) | (simp [reduceCtorEq, Nat.reduceEqDiff, ak, akF]; done)
        · rw [if_neg (Bool.eq_false_iff.1 c47)] at h
          refine hJ41 _ ?_
          refine seq_k fun J49 hJ49 => ?_
          refine reg_k ?_
          simp only [Nat.reduceEqDiff, Nat.reduceAdd, Nat.reduceMul, Nat.reduceLeDiff, Nat.reduceLT, Int.reduceLE, Int.reduceLT, Int.reduceGT, Int.reduceGE, Int.reduceEq, Int.reduceNe, Int.reduceToNat, reduceCtorEq, ak]
          refine hJ49 _ ?_
          refine seq_k fun J50 hJ50 => ?_
          refine reg_k ?_
          simp only [Nat.reduceEqDiff, Nat.reduceAdd, Nat.reduceMul, Nat.reduceLeDiff, Nat.reduceLT, Int.reduceLE, Int.reduceLT, Int.reduceGT, Int.reduceGE, Int.reduceEq, Int.reduceNe, Int.reduceToNat, reduceCtorEq, ak]
          obtain ⟨t51, h52, h⟩ := of_bind h
          refine call_m [(.arg 0, ⟨(.tmp 30 0), [], none, .lst⟩)] (s0 := [(.arg 0, ⟨.lst, 3, encL c63 t15⟩)]) (by intro t ht; cases ht; decide) rfl rfl (by first | rfl | simp only [reduceCtorEq, Nat.reduceEqDiff, ak, akF]) (laws_markSubEventS.tri t15 1 _ h52) (by first | rfl | simp only [reduceCtorEq, Nat.reduceEqDiff, ak, akF]) (by simp [bkOk2, memK]) (fun hl52 => ?_)
          have g54 : t51.2.length = t15.length := encL_len_inj c63_w (by decide) (hl52 0 (by decide) _ _ rfl rfl)
          refine call_st (s4 := [(.arg 0, ⟨.fz, 3, cs0⟩), (.tmp 2 0, ⟨.box, 0, [.sc (.int .u32 a0_0), .sc (.int .i64 a0_1), .sc (.int .i64 a0_2), .sc (.int .i64 a0_3), .sc (.int .i64 a0_4), .sc (.int .i64 a0_5)]⟩), (.tmp 26 0, ⟨.lst, 5, encL c66 t18.1⟩), (.tmp 30 0, ⟨.lst, 3, encL c63 t51.2⟩), (.tmp 35 0, ⟨.lst, 5, encL c66 t25.1⟩), (.tmp 49 0, ⟨.lst, 3, encL c63 t15⟩)]) (m1' := []) (m2' := []) (v' := .c (.sc (.int .i64 t51.1))) (Sto.mapN_killNil _ _) (mrgL_whole (mrgL_nil' _ _ _) rfl (by rfl) (.inr ⟨by decide, by decide, rfl⟩)) (by rfl) (mapT_killNil _ _) (by rfl) (by rfl) (by first | rfl | simp only [reduceCtorEq, Nat.reduceEqDiff, ak, akF, Nat.zero_add, List.append_nil, g54]) ?_
          simp only [Nat.reduceEqDiff, Nat.reduceAdd, Nat.reduceMul, Nat.reduceLeDiff, Nat.reduceLT, Int.reduceLE, Int.reduceLT, Int.reduceGT, Int.reduceGE, Int.reduceEq, Int.reduceNe, Int.reduceToNat, reduceCtorEq, ak]
          refine hJ50 _ ?_
          refine seq_k fun J55 hJ55 => ?_
          obtain ⟨j56, h57, hn⟩ := of_bind h
          refine seq_j (fun st => st = ⟨[(1, .c (.ref (.arg 0) [] o0 l1.length)), (2, .c (.ptr (.tmp 2 0) [] 0)), (6, .c (.ref (.tmp 26 0) [] 0 t18.1.length)), (7, .c (.sc (.int .i64 t18.2))), (9, .c (.ref (.tmp 35 0) [] 0 t25.1.length)), (67, .c (.sc (.bool j56)))], [(.arg 0, ⟨.fz, 3, cs0⟩), (.tmp 2 0, ⟨.box, 0, [.sc (.int .u32 a0_0), .sc (.int .i64 a0_1), .sc (.int .i64 a0_2), .sc (.int .i64 a0_3), .sc (.int .i64 a0_4), .sc (.int .i64 a0_5)]⟩), (.tmp 26 0, ⟨.lst, 5, encL c66 t18.1⟩), (.tmp 35 0, ⟨.lst, 5, encL c66 t25.1⟩)], [], []⟩) (fun J58 hJ58 => ?_) ?_
          · replace h := h57; clear hn
            refine ga_k fun G59 G59n G59r G59x => ?_
            refine reg_k ?_
            simp only [Nat.reduceEqDiff, Nat.reduceAdd, Nat.reduceMul, Nat.reduceLeDiff, Nat.reduceLT, Int.reduceLE, Int.reduceLT, Int.reduceGT, Int.reduceGE, Int.reduceEq, Int.reduceNe, Int.reduceToNat, reduceCtorEq, ak]
            by_cases c60 : t51.1 < 0
            · rw [if_pos c60] at h
              have e61 : decide (t51.1 < 0) = true := decide_eq_true c60
              simp only [Nat.reduceEqDiff, Nat.reduceAdd, Nat.reduceMul, Nat.reduceLeDiff, Nat.reduceLT, Int.reduceLE, Int.reduceLT, Int.reduceGT, Int.reduceGE, Int.reduceEq, Int.reduceNe, Int.reduceToNat, reduceCtorEq, ak, e61]
              obtain rfl := Option.some.inj h
              refine G59n _ _ (((Weak.keep [1, 2, 6, 7, 9, 67]).trans ((Weak.foc [(.arg 0, ⟨(.arg 0), [], none, .fz⟩), (.tmp 2 0, ⟨(.tmp 2 0), [], none, .box⟩), (.tmp 26 0, ⟨(.tmp 26 0), [], none, .lst⟩), (.tmp 35 0, ⟨(.tmp 35 0), [], none, .lst⟩)] rfl (by first | rfl | simp only [reduceCtorEq, Nat.reduceEqDiff, ak, akF, e61, g54]) (by simp [argK, akG, ak])).trans (Weak.of_eq (by first | rfl | (simp only [reduceCtorEq, Nat.reduceEqDiff, ak, akF, e61, g54]; done) | (simp [reduceCtorEq, Nat.reduceEqDiff, ak, akF, e61, g54]; done)))))) (hJ58 _ rfl)
            · rw [if_neg c60] at h
              have e62 : decide (t51.1 < 0) = false := decide_eq_false c60
              simp only [Nat.reduceEqDiff, Nat.reduceAdd, Nat.reduceMul, Nat.reduceLeDiff, Nat.reduceLT, Int.reduceLE, Int.reduceLT, Int.reduceGT, Int.reduceGE, Int.reduceEq, Int.reduceNe, Int.reduceToNat, reduceCtorEq, ak, e62]
              obtain ⟨t63, h64, h⟩ := of_bind h
              refine call_m [(.arg 0, ⟨(.tmp 35 0), [], none, .fz⟩), (.arg 1, ⟨(.tmp 26 0), [], none, .fz⟩)] (s0 := [(.arg 0, ⟨.fz, 5, encL c66 t25.1⟩), (.arg 1, ⟨.fz, 5, encL c66 t18.1⟩)]) (by intro t ht; cases ht; decide) rfl rfl (by first | rfl | simp only [reduceCtorEq, Nat.reduceEqDiff, ak, akF, e62]) (laws_eqSubOutS.tri (encL c66 t25.1) 0 t25.1 (Vw.whole c66_w t25.1) (encL c66 t18.1) 0 t18.1 (Vw.whole c66_w t18.1) _ h64) (by first | rfl | simp only [reduceCtorEq, Nat.reduceEqDiff, ak, akF]) (by simp [bkOk2, memK]) (fun hl64 => ?_)
              refine call_st (s4 := [(.arg 0, ⟨.fz, 3, cs0⟩), (.tmp 2 0, ⟨.box, 0, [.sc (.int .u32 a0_0), .sc (.int .i64 a0_1), .sc (.int .i64 a0_2), .sc (.int .i64 a0_3), .sc (.int .i64 a0_4), .sc (.int .i64 a0_5)]⟩), (.tmp 26 0, ⟨.lst, 5, encL c66 t18.1⟩), (.tmp 30 0, ⟨.lst, 3, encL c63 t51.2⟩), (.tmp 35 0, ⟨.lst, 5, encL c66 t25.1⟩), (.tmp 49 0, ⟨.lst, 3, encL c63 t15⟩)]) (m1' := []) (m2' := []) (v' := .c (.sc (.bool t63))) (Sto.mapN_killNil _ _) (mrgL_fz (mrgL_fz (mrgL_nil' _ _ _) rfl (by first | rfl | simp only [reduceCtorEq, Nat.reduceEqDiff, ak, e62]) rfl (by intro R hR hh; cases hR; cases hh.2)) rfl (by first | rfl | simp only [reduceCtorEq, Nat.reduceEqDiff, ak, e62]) rfl (by intro R hR hh; cases hR; cases hh.2)) (by rfl) (mapT_killNil _ _) (by rfl) (by rfl) (by first | rfl | simp only [reduceCtorEq, Nat.reduceEqDiff, ak, akF, Nat.zero_add, List.append_nil, e62, g54]) ?_
              simp only [Nat.reduceEqDiff, Nat.reduceAdd, Nat.reduceMul, Nat.reduceLeDiff, Nat.reduceLT, Int.reduceLE, Int.reduceLT, Int.reduceGT, Int.reduceGE, Int.reduceEq, Int.reduceNe, Int.reduceToNat, reduceCtorEq, ak]
              by_cases c66 : (!t63) = true
              · rw [if_pos c66] at h
                have e67 : (!t63) = true := c66
                simp only [Nat.reduceEqDiff, Nat.reduceAdd, Nat.reduceMul, Nat.reduceLeDiff, Nat.reduceLT, Int.reduceLE, Int.reduceLT, Int.reduceGT, Int.reduceGE, Int.reduceEq, Int.reduceNe, Int.reduceToNat, reduceCtorEq, ak, e67]
                obtain rfl := Option.some.inj h
                refine G59n _ _ (((Weak.keep [1, 2, 6, 7, 9, 67]).trans ((Weak.foc [(.arg 0, ⟨(.arg 0), [], none, .fz⟩), (.tmp 2 0, ⟨(.tmp 2 0), [], none, .box⟩), (.tmp 26 0, ⟨(.tmp 26 0), [], none, .lst⟩), (.tmp 35 0, ⟨(.tmp 35 0), [], none, .lst⟩)] rfl (by first | rfl | simp only [reduceCtorEq, Nat.reduceEqDiff, ak, akF, e62, e67, g54]) (by simp [argK, akG, ak])).trans (Weak.of_eq (by first | rfl | (simp only [reduceCtorEq, Nat.reduceEqDiff, ak, akF, e62, e67, g54]; done) | (simp [reduceCtorEq, Nat.reduceEqDiff, ak, akF, e62, e67, g54]; done)))))) (hJ58 _ rfl)
              · rw [if_neg c66] at h
                have e68 : (!t63) = false := Bool.eq_false_iff.2 c66
                simp only [Nat.reduceEqDiff, Nat.reduceAdd, Nat.reduceMul, Nat.reduceLeDiff, Nat.reduceLT, Int.reduceLE, Int.reduceLT, Int.reduceGT, Int.reduceGE, Int.reduceEq, Int.reduceNe, Int.reduceToNat, reduceCtorEq, ak, e68]
                obtain rfl := Option.some.inj h
                refine G59n _ _ (((Weak.keep [1, 2, 6, 7, 9, 67]).trans ((Weak.foc [(.arg 0, ⟨(.arg 0), [], none, .fz⟩), (.tmp 2 0, ⟨(.tmp 2 0), [], none, .box⟩), (.tmp 26 0, ⟨(.tmp 26 0), [], none, .lst⟩), (.tmp 35 0, ⟨(.tmp 35 0), [], none, .lst⟩)] rfl (by first | rfl | simp only [reduceCtorEq, Nat.reduceEqDiff, ak, akF, e62, e68, g54]) (by simp [argK, akG, ak])).trans (Weak.of_eq (by first | rfl | (simp only [reduceCtorEq, Nat.reduceEqDiff, ak, akF, e62, e68, g54]; done) | (simp [reduceCtorEq, Nat.reduceEqDiff, ak, akF, e62, e68, g54]; done)))))) (hJ58 _ rfl)
          · replace h := hn; clear hn h57
            rintro _ rfl
            refine cond_k (b := j56) rfl (fun c69 => ?_) (fun c69 => ?_)
            · rw [if_pos c69] at h
              refine seq_k fun J70 hJ70 => ?_
              refine reg_k ?_
              simp only [Nat.reduceEqDiff, Nat.reduceAdd, Nat.reduceMul, Nat.reduceLeDiff, Nat.reduceLT, Int.reduceLE, Int.reduceLT, Int.reduceGT, Int.reduceGE, Int.reduceEq, Int.reduceNe, Int.reduceToNat, reduceCtorEq, ak]
              refine hJ70 _ ?_
              obtain rfl := Option.some.inj h
              refine hKr _ ⟨_, rfl, [], _, rfl, rfl, ?_⟩
              first | rfl | (simp only [reduceCtorEq, Nat.reduceEqDiff, ak, akF, g54]; done) | (simp [reduceCtorEq, Nat.reduceEqDiff, ak, akF, g54]; done)
            · rw [if_neg (Bool.eq_false_iff.1 c69)] at h
              refine hJ55 _ ?_
              refine seq_k fun J71 hJ71 => ?_
              refine reg_k ?_
              simp only [Nat.reduceEqDiff, Nat.reduceAdd, Nat.reduceMul, Nat.reduceLeDiff, Nat.reduceLT, Int.reduceLE, Int.reduceLT, Int.reduceGT, Int.reduceGE, Int.reduceEq, Int.reduceNe, Int.reduceToNat, reduceCtorEq, ak]
              refine hJ71 _ ?_
              refine seq_k fun J72 hJ72 => ?_
              refine reg_k ?_
              simp only [Nat.reduceEqDiff, Nat.reduceAdd, Nat.reduceMul, Nat.reduceLeDiff, Nat.reduceLT, Int.reduceLE, Int.reduceLT, Int.reduceGT, Int.reduceGE, Int.reduceEq, Int.reduceNe, Int.reduceToNat, reduceCtorEq, ak]
              obtain ⟨t73, h74, h⟩ := of_bind h
              refine call_m [(.arg 0, ⟨(.tmp 35 0), [], none, .lst⟩)] (s0 := [(.arg 0, ⟨.lst, 5, encL c66 t25.1⟩)]) (by intro t ht; cases ht; decide) rfl rfl (by first | rfl | simp only [reduceCtorEq, Nat.reduceEqDiff, ak, akF]) (laws_markSubOutS.tri t25.1 1 _ h74) (by first | rfl | simp only [reduceCtorEq, Nat.reduceEqDiff, ak, akF]) (by simp [bkOk2, memK]) (fun hl74 => ?_)
              have g76 : t73.2.length = t25.1.length := encL_len_inj c66_w (by decide) (hl74 0 (by decide) _ _ rfl rfl)
              refine call_st (s4 := [(.arg 0, ⟨.fz, 3, cs0⟩), (.tmp 2 0, ⟨.box, 0, [.sc (.int .u32 a0_0), .sc (.int .i64 a0_1), .sc (.int .i64 a0_2), .sc (.int .i64 a0_3), .sc (.int .i64 a0_4), .sc (.int .i64 a0_5)]⟩), (.tmp 26 0, ⟨.lst, 5, encL c66 t18.1⟩), (.tmp 35 0, ⟨.lst, 5, encL c66 t73.2⟩)]) (m1' := []) (m2' := []) (v' := .c (.sc (.int .i64 t73.1))) (Sto.mapN_killNil _ _) (mrgL_whole (mrgL_nil' _ _ _) rfl (by rfl) (.inr ⟨by decide, by decide, rfl⟩)) (by rfl) (mapT_killNil _ _) (by rfl) (by rfl) (by first | rfl | simp only [reduceCtorEq, Nat.reduceEqDiff, ak, akF, Nat.zero_add, List.append_nil, g54, g76]) ?_
              simp only [Nat.reduceEqDiff, Nat.reduceAdd, Nat.reduceMul, Nat.reduceLeDiff, Nat.reduceLT, Int.reduceLE, Int.reduceLT, Int.reduceGT, Int.reduceGE, Int.reduceEq, Int.reduceNe, Int.reduceToNat, reduceCtorEq, ak]
              refine hJ72 _ ?_
              refine seq_k fun J77 hJ77 => ?_
              refine reg_k ?_
              simp only [Nat.reduceEqDiff, Nat.reduceAdd, Nat.reduceMul, Nat.reduceLeDiff, Nat.reduceLT, Int.reduceLE, Int.reduceLT, Int.reduceGT, Int.reduceGE, Int.reduceEq, Int.reduceNe, Int.reduceToNat, reduceCtorEq, ak]
              refine hJ77 _ ?_
              refine seq_k fun J78 hJ78 => ?_
              refine reg_k ?_
              simp only [Nat.reduceEqDiff, Nat.reduceAdd, Nat.reduceMul, Nat.reduceLeDiff, Nat.reduceLT, Int.reduceLE, Int.reduceLT, Int.reduceGT, Int.reduceGE, Int.reduceEq, Int.reduceNe, Int.reduceToNat, reduceCtorEq, ak]
              obtain ⟨t79, h80, h⟩ := of_bind h
              refine call_m [(.arg 0, ⟨(.tmp 35 0), [], none, .fz⟩)] (s0 := [(.arg 0, ⟨.fz, 5, encL c66 t73.2⟩)]) (by intro t ht; cases ht; decide) rfl rfl (by first | rfl | simp only [reduceCtorEq, Nat.reduceEqDiff, ak, akF, (show t25.1.length = t73.2.length by simp [g54, g76])]) (laws_heldSubOutS.tri (encL c66 t73.2) 0 t73.2 (Vw.whole c66_w t73.2) 1 _ h80) (by first | rfl | simp only [reduceCtorEq, Nat.reduceEqDiff, ak, akF, (show t25.1.length = t73.2.length by simp [g54, g76])]) (by simp [bkOk2, memK]) (fun hl80 => ?_)
              refine call_st (s4 := [(.arg 0, ⟨.fz, 3, cs0⟩), (.tmp 2 0, ⟨.box, 0, [.sc (.int .u32 a0_0), .sc (.int .i64 a0_1), .sc (.int .i64 a0_2), .sc (.int .i64 a0_3), .sc (.int .i64 a0_4), .sc (.int .i64 a0_5)]⟩), (.tmp 26 0, ⟨.lst, 5, encL c66 t18.1⟩), (.tmp 35 0, ⟨.lst, 5, encL c66 t73.2⟩)]) (m1' := []) (m2' := []) (v' := .c (.sc (.int .i64 t79))) (Sto.mapN_killNil _ _) (mrgL_fz (mrgL_nil' _ _ _) rfl (by first | rfl | simp only [reduceCtorEq, Nat.reduceEqDiff, ak]) rfl (by intro R hR hh; cases hR; cases hh.2)) (by rfl) (mapT_killNil _ _) (by rfl) (by rfl) (by first | rfl | simp only [reduceCtorEq, Nat.reduceEqDiff, ak, akF, Nat.zero_add, List.append_nil, g54, g76]) ?_
              simp only [Nat.reduceEqDiff, Nat.reduceAdd, Nat.reduceMul, Nat.reduceLeDiff, Nat.reduceLT, Int.reduceLE, Int.reduceLT, Int.reduceGT, Int.reduceGE, Int.reduceEq, Int.reduceNe, Int.reduceToNat, reduceCtorEq, ak]
              refine hJ78 _ ?_
              refine seq_k fun J82 hJ82 => ?_
              refine seq_k fun J83 hJ83 => ?_
              refine reg_k ?_
              simp only [Nat.reduceEqDiff, Nat.reduceAdd, Nat.reduceMul, Nat.reduceLeDiff, Nat.reduceLT, Int.reduceLE, Int.reduceLT, Int.reduceGT, Int.reduceGE, Int.reduceEq, Int.reduceNe, Int.reduceToNat, reduceCtorEq, ak]
              refine hJ83 _ ?_
              refine cond_k (b := decide (t79 < 0)) rfl (fun c84 => ?_) (fun c84 => ?_)
              · replace c84 := of_decide_eq_true c84; rw [if_pos c84] at h
                refine seq_k fun J85 hJ85 => ?_
                refine reg_k ?_
                simp only [Nat.reduceEqDiff, Nat.reduceAdd, Nat.reduceMul, Nat.reduceLeDiff, Nat.reduceLT, Int.reduceLE, Int.reduceLT, Int.reduceGT, Int.reduceGE, Int.reduceEq, Int.reduceNe, Int.reduceToNat, reduceCtorEq, ak]
                refine hJ85 _ ?_
                obtain rfl := Option.some.inj h
                refine hKr _ ⟨_, rfl, [], _, rfl, rfl, ?_⟩
                first | rfl | (simp only [reduceCtorEq, Nat.reduceEqDiff, ak, akF, g54, g76]; done) | (simp [reduceCtorEq, Nat.reduceEqDiff, ak, akF, g54, g76]; done)
              · replace c84 := of_decide_eq_false c84; rw [if_neg c84] at h
                refine hJ82 _ ?_
                refine seq_k fun J86 hJ86 => ?_
                refine seq_k fun J87 hJ87 => ?_
                refine reg_k ?_
                simp only [Nat.reduceEqDiff, Nat.reduceAdd, Nat.reduceMul, Nat.reduceLeDiff, Nat.reduceLT, Int.reduceLE, Int.reduceLT, Int.reduceGT, Int.reduceGE, Int.reduceEq, Int.reduceNe, Int.reduceToNat, reduceCtorEq, ak]
                refine hJ87 _ ?_
                refine cond_k (b := decide (t79 ≠ t73.1)) rfl (fun c88 => ?_) (fun c88 => ?_)
                · replace c88 := of_decide_eq_true c88; rw [if_pos c88] at h
                  refine seq_k fun J89 hJ89 => ?_
                  refine reg_k ?_
                  simp only [Nat.reduceEqDiff, Nat.reduceAdd, Nat.reduceMul, Nat.reduceLeDiff, Nat.reduceLT, Int.reduceLE, Int.reduceLT, Int.reduceGT, Int.reduceGE, Int.reduceEq, Int.reduceNe, Int.reduceToNat, reduceCtorEq, ak]
                  refine hJ89 _ ?_
                  obtain rfl := Option.some.inj h
                  refine hKr _ ⟨_, rfl, [], _, rfl, rfl, ?_⟩
                  first | rfl | (simp only [reduceCtorEq, Nat.reduceEqDiff, ak, akF, g54, g76]; done) | (simp [reduceCtorEq, Nat.reduceEqDiff, ak, akF, g54, g76]; done)
                · replace c88 := of_decide_eq_false c88; rw [if_neg c88] at h
                  refine hJ86 _ ?_
                  refine seq_k fun J90 hJ90 => ?_
                  refine reg_k ?_
                  simp only [Nat.reduceEqDiff, Nat.reduceAdd, Nat.reduceMul, Nat.reduceLeDiff, Nat.reduceLT, Int.reduceLE, Int.reduceLT, Int.reduceGT, Int.reduceGE, Int.reduceEq, Int.reduceNe, Int.reduceToNat, reduceCtorEq, ak]
                  refine call_m [] (s0 := []) (by intro t ht; cases ht; decide) rfl rfl (by first | rfl | simp only [reduceCtorEq, Nat.reduceEqDiff, ak, akF]) (laws_toSubConfig.tri a0_0 a0_1 a0_2 a0_3 a0_4 a0_5 _ h13) (by first | rfl | simp only [reduceCtorEq, Nat.reduceEqDiff, ak, akF]) (by simp [bkOk2, memK]) (fun hl90 => ?_)
                  refine call_st (s4 := [(.arg 0, ⟨.fz, 3, cs0⟩), (.tmp 2 0, ⟨.box, 0, [.sc (.int .u32 a0_0), .sc (.int .i64 a0_1), .sc (.int .i64 a0_2), .sc (.int .i64 a0_3), .sc (.int .i64 a0_4), .sc (.int .i64 a0_5)]⟩), (.tmp 26 0, ⟨.lst, 5, encL c66 t18.1⟩), (.tmp 35 0, ⟨.lst, 5, encL c66 t73.2⟩)]) (m1' := []) (m2' := []) (v' := .g [.sc (.int .u32 t12.1), .sc (.int .i64 t12.2.1), .sc (.int .i64 t12.2.2.1), .sc (.int .i64 t12.2.2.2.1), .sc (.int .i64 t12.2.2.2.2.1), .sc (.int .i64 t12.2.2.2.2.2)]) (Sto.mapN_killNil _ _) (mrgL_nil' _ _ _) (by rfl) (mapT_killNil _ _) (by rfl) (by rfl) (by first | rfl | simp only [reduceCtorEq, Nat.reduceEqDiff, ak, akF, Nat.zero_add, List.append_nil, g54, g76]) ?_
                  simp only [Nat.reduceEqDiff, Nat.reduceAdd, Nat.reduceMul, Nat.reduceLeDiff, Nat.reduceLT, Int.reduceLE, Int.reduceLT, Int.reduceGT, Int.reduceGE, Int.reduceEq, Int.reduceNe, Int.reduceToNat, reduceCtorEq, ak]
                  refine call_m [(.arg 0, ⟨(.arg 0), [], none, .fz⟩)] (s0 := [(.arg 0, ⟨.fz, 3, cs0⟩)]) (by intro t ht; cases ht; decide) rfl rfl (by first | rfl | simp only [reduceCtorEq, Nat.reduceEqDiff, ak, akF]) (laws_toSubEventS.tri (cs0) o0 l1 hv0 _ h16) (by first | rfl | simp only [reduceCtorEq, Nat.reduceEqDiff, ak, akF]) (by simp [bkOk2, memK]) (fun hl91 => ?_)
                  refine call_st (s4 := [(.arg 0, ⟨.fz, 3, cs0⟩), (.tmp 2 0, ⟨.box, 0, [.sc (.int .u32 a0_0), .sc (.int .i64 a0_1), .sc (.int .i64 a0_2), .sc (.int .i64 a0_3), .sc (.int .i64 a0_4), .sc (.int .i64 a0_5)]⟩), (.tmp 26 0, ⟨.lst, 5, encL c66 t18.1⟩), (.tmp 35 0, ⟨.lst, 5, encL c66 t73.2⟩), (.tmp 83 0, ⟨.lst, 3, encL c63 t15⟩)]) (m1' := []) (m2' := []) (v' := .c (.ref (.tmp 83 0) [] 0 t15.length)) (Sto.mapN_killNil _ _) (mrgL_fz (mrgL_nil' _ _ _) rfl (by first | rfl | simp only [reduceCtorEq, Nat.reduceEqDiff, ak]) rfl (by intro R hR hh; cases hR; cases hh.2)) (by rfl) (mapT_killNil _ _) (by rfl) (by rfl) (by first | rfl | simp only [reduceCtorEq, Nat.reduceEqDiff, ak, akF, Nat.zero_add, List.append_nil, g54, g76]) ?_
                  simp only [Nat.reduceEqDiff, Nat.reduceAdd, Nat.reduceMul, Nat.reduceLeDiff, Nat.reduceLT, Int.reduceLE, Int.reduceLT, Int.reduceGT, Int.reduceGE, Int.reduceEq, Int.reduceNe, Int.reduceToNat, reduceCtorEq, ak]
                  refine call_m [(.arg 0, ⟨(.tmp 83 0), [], none, .fz⟩)] (s0 := [(.arg 0, ⟨.fz, 3, encL c63 t15⟩)]) (by intro t ht; cases ht; decide) rfl rfl (by first | rfl | simp only [reduceCtorEq, Nat.reduceEqDiff, ak, akF]) (impl_SubRun.tri (encL c63 t15) 0 t15 (Vw.whole c63_w t15) t12.1 t12.2.1 t12.2.2.1 t12.2.2.2.1 t12.2.2.2.2.1 t12.2.2.2.2.2 _ h26) (by first | rfl | simp only [reduceCtorEq, Nat.reduceEqDiff, ak, akF]) (by simp [bkOk2, memK]) (fun hl92 => ?_)
                  refine call_st (s4 := [(.arg 0, ⟨.fz, 3, cs0⟩), (.tmp 2 0, ⟨.box, 0, [.sc (.int .u32 a0_0), .sc (.int .i64 a0_1), .sc (.int .i64 a0_2), .sc (.int .i64 a0_3), .sc (.int .i64 a0_4), .sc (.int .i64 a0_5)]⟩), (.tmp 26 0, ⟨.lst, 5, encL c66 t18.1⟩), (.tmp 35 0, ⟨.lst, 5, encL c66 t73.2⟩), (.tmp 83 0, ⟨.lst, 3, encL c63 t15⟩), (.tmp 84 0, ⟨.lst, 5, encL c66 t25.1⟩)]) (m1' := []) (m2' := []) (v' := .tup [(false, [.ref (.tmp 84 0) [] 0 t25.1.length]), (false, [.sc (.int .i64 t25.2)])]) (Sto.mapN_killNil _ _) (mrgL_fz (mrgL_nil' _ _ _) rfl (by first | rfl | simp only [reduceCtorEq, Nat.reduceEqDiff, ak]) rfl (by intro R hR hh; cases hR; cases hh.2)) (by rfl) (mapT_killNil _ _) (by rfl) (by rfl) (by first | rfl | simp only [reduceCtorEq, Nat.reduceEqDiff, ak, akF, Nat.zero_add, List.append_nil, g54, g76]) ?_
                  simp only [Nat.reduceEqDiff, Nat.reduceAdd, Nat.reduceMul, Nat.reduceLeDiff, Nat.reduceLT, Int.reduceLE, Int.reduceLT, Int.reduceGT, Int.reduceGE, Int.reduceEq, Int.reduceNe, Int.reduceToNat, reduceCtorEq, ak]
                  refine hJ90 _ ?_
                  refine seq_k fun J94 hJ94 => ?_
                  obtain ⟨j95, h96, hn⟩ := of_bind h
                  refine seq_j (fun st => st = ⟨[(95, .c (.sc (.bool j95)))], [(.arg 0, ⟨.fz, 3, cs0⟩)], [], []⟩) (fun J97 hJ97 => ?_) ?_
                  · replace h := h96; clear hn
                    refine ga_k fun G98 G98n G98r G98x => ?_
                    refine reg_k ?_
                    simp only [Nat.reduceEqDiff, Nat.reduceAdd, Nat.reduceMul, Nat.reduceLeDiff, Nat.reduceLT, Int.reduceLE, Int.reduceLT, Int.reduceGT, Int.reduceGE, Int.reduceEq, Int.reduceNe, Int.reduceToNat, reduceCtorEq, ak]
                    obtain ⟨t99, h100, h⟩ := of_bind h
                    refine call_m [(.arg 0, ⟨(.tmp 84 0), [], none, .fz⟩), (.arg 1, ⟨(.tmp 26 0), [], none, .fz⟩)] (s0 := [(.arg 0, ⟨.fz, 5, encL c66 t25.1⟩), (.arg 1, ⟨.fz, 5, encL c66 t18.1⟩)]) (by intro t ht; cases ht; decide) rfl rfl (by first | rfl | simp only [reduceCtorEq, Nat.reduceEqDiff, ak, akF]) (laws_eqSubOutS.tri (encL c66 t25.1) 0 t25.1 (Vw.whole c66_w t25.1) (encL c66 t18.1) 0 t18.1 (Vw.whole c66_w t18.1) _ h100) (by first | rfl | simp only [reduceCtorEq, Nat.reduceEqDiff, ak, akF]) (by simp [bkOk2, memK]) (fun hl100 => ?_)
                    refine call_st (s4 := [(.arg 0, ⟨.fz, 3, cs0⟩), (.tmp 2 0, ⟨.box, 0, [.sc (.int .u32 a0_0), .sc (.int .i64 a0_1), .sc (.int .i64 a0_2), .sc (.int .i64 a0_3), .sc (.int .i64 a0_4), .sc (.int .i64 a0_5)]⟩), (.tmp 26 0, ⟨.lst, 5, encL c66 t18.1⟩), (.tmp 35 0, ⟨.lst, 5, encL c66 t73.2⟩), (.tmp 83 0, ⟨.lst, 3, encL c63 t15⟩), (.tmp 84 0, ⟨.lst, 5, encL c66 t25.1⟩)]) (m1' := []) (m2' := []) (v' := .c (.sc (.bool t99))) (Sto.mapN_killNil _ _) (mrgL_fz (mrgL_fz (mrgL_nil' _ _ _) rfl (by first | rfl | simp only [reduceCtorEq, Nat.reduceEqDiff, ak]) rfl (by intro R hR hh; cases hR; cases hh.2)) rfl (by first | rfl | simp only [reduceCtorEq, Nat.reduceEqDiff, ak]) rfl (by intro R hR hh; cases hR; cases hh.2)) (by rfl) (mapT_killNil _ _) (by rfl) (by rfl) (by first | rfl | simp only [reduceCtorEq, Nat.reduceEqDiff, ak, akF, Nat.zero_add, List.append_nil, g54, g76]) ?_
                    simp only [Nat.reduceEqDiff, Nat.reduceAdd, Nat.reduceMul, Nat.reduceLeDiff, Nat.reduceLT, Int.reduceLE, Int.reduceLT, Int.reduceGT, Int.reduceGE, Int.reduceEq, Int.reduceNe, Int.reduceToNat, reduceCtorEq, ak]
                    by_cases c102 : (!t99) = true
                    · rw [if_pos c102] at h
                      have e103 : (!t99) = true := c102
                      simp only [Nat.reduceEqDiff, Nat.reduceAdd, Nat.reduceMul, Nat.reduceLeDiff, Nat.reduceLT, Int.reduceLE, Int.reduceLT, Int.reduceGT, Int.reduceGE, Int.reduceEq, Int.reduceNe, Int.reduceToNat, reduceCtorEq, ak, e103]
                      obtain rfl := Option.some.inj h
                      refine G98n _ _ (((Weak.keep [95]).trans ((Weak.foc [(.arg 0, ⟨(.arg 0), [], none, .fz⟩)] rfl (by first | rfl | simp only [reduceCtorEq, Nat.reduceEqDiff, ak, akF, e103, g54, g76]) (by simp [argK, akG, ak])).trans (Weak.of_eq (by first | rfl | (simp only [reduceCtorEq, Nat.reduceEqDiff, ak, akF, e103, g54, g76]; done) | (simp [reduceCtorEq, Nat.reduceEqDiff, ak, akF, e103, g54, g76]; done)))))) (hJ97 _ rfl)
                    · rw [if_neg c102] at h
                      have e104 : (!t99) = false := Bool.eq_false_iff.2 c102
                      simp only [Nat.reduceEqDiff, Nat.reduceAdd, Nat.reduceMul, Nat.reduceLeDiff, Nat.reduceLT, Int.reduceLE, Int.reduceLT, Int.reduceGT, Int.reduceGE, Int.reduceEq, Int.reduceNe, Int.reduceToNat, reduceCtorEq, ak, e104]
                      obtain rfl := Option.some.inj h
                      refine G98n _ _ (((Weak.keep [95]).trans ((Weak.foc [(.arg 0, ⟨(.arg 0), [], none, .fz⟩)] rfl (by first | rfl | simp only [reduceCtorEq, Nat.reduceEqDiff, ak, akF, e104, g54, g76]) (by simp [argK, akG, ak])).trans (Weak.of_eq (by first | rfl | (simp only [reduceCtorEq, Nat.reduceEqDiff, ak, akF, e104, g54, g76]; done) | (simp [reduceCtorEq, Nat.reduceEqDiff, ak, akF, e104, g54, g76]; done)))))) (hJ97 _ rfl)
                  · replace h := hn; clear hn h96
                    rintro _ rfl
                    refine cond_k (b := j95) rfl (fun c105 => ?_) (fun c105 => ?_)
                    · rw [if_pos c105] at h
                      refine seq_k fun J106 hJ106 => ?_
                      refine reg_k ?_
                      simp only [Nat.reduceEqDiff, Nat.reduceAdd, Nat.reduceMul, Nat.reduceLeDiff, Nat.reduceLT, Int.reduceLE, Int.reduceLT, Int.reduceGT, Int.reduceGE, Int.reduceEq, Int.reduceNe, Int.reduceToNat, reduceCtorEq, ak]
                      refine hJ106 _ ?_
                      obtain rfl := Option.some.inj h
                      refine hKr _ ⟨_, rfl, [], _, rfl, rfl, ?_⟩
                      first | rfl | (simp only [reduceCtorEq, Nat.reduceEqDiff, ak, akF, g54, g76]; done) | (simp [reduceCtorEq, Nat.reduceEqDiff, ak, akF, g54, g76]; done)
                    · rw [if_neg (Bool.eq_false_iff.1 c105)] at h
                      refine hJ94 _ ?_
                      refine seq_k fun J107 hJ107 => ?_
                      refine reg_k ?_
                      simp only [Nat.reduceEqDiff, Nat.reduceAdd, Nat.reduceMul, Nat.reduceLeDiff, Nat.reduceLT, Int.reduceLE, Int.reduceLT, Int.reduceGT, Int.reduceGE, Int.reduceEq, Int.reduceNe, Int.reduceToNat, reduceCtorEq, ak]
                      refine hJ107 _ ?_
                      obtain rfl := Option.some.inj h
                      refine hKr _ ⟨_, rfl, [], _, rfl, rfl, ?_⟩
                      first | rfl | (simp only [reduceCtorEq, Nat.reduceEqDiff, ak, akF, g54, g76]; done) | (simp [reduceCtorEq, Nat.reduceEqDiff, ak, akF, g54, g76]; done)
end Go.AK
