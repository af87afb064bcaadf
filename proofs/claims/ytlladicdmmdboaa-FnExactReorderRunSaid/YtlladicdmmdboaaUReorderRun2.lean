-- by a program of this session (wip/ak/pw.py)
import Derived.Test.YtlladicdmmdboaaUReorderRun1
set_option linter.unusedVariables false
set_option linter.unusedSimpArgs false
namespace Go.AK
open Go Go.Proofs
/-! ### laws.eqByteS: function 123 -/
def c123_l0 : AC := .seq (.seq (.reg [.op none (.mv 11 (.tmp 5)), .op none (.mv 12 (.tmp 0)), .op none (.len 13 (.tmp 12)), .op none (.bin 14 .lss (.tmp 11) (.tmp 13)), .keep [0, 1, 5, 14]]) (.cond (.tmp 14) (.skip) (.gh (.exit 0)))) (.seq (.block 1 (.seq (.regD (.first (.op none (.mv 17 (.tmp 0))) (.first (.op none (.mv 18 (.tmp 5))) (.first (.op none (.iaddr 19 1 (.tmp 17) (.tmp 18))) (.first (.op none (.load 20 false 1 (.tmp 19))) (.first (.op none (.mv 21 (.tmp 1))) (.first (.op none (.mv 22 (.tmp 5))) (.first (.op none (.iaddr 23 1 (.tmp 21) (.tmp 22))) (.first (.op none (.load 24 false 1 (.tmp 23))) (.first (.op none (.bin 25 .neq (.tmp 20) (.tmp 24))) (.done)))))))))) [0, 1, 5, 25]) (.cond (.tmp 25) (.seq (.reg [.op none (.mv 4 (.const (.bool false))), .keep [4]]) (.gh .ret)) (.skip)))) (.reg [.op none (.mv 15 (.tmp 5)), .op none (.bin 16 .add (.tmp 15) (.const (.int .i64 1))), .op none (.mv 5 (.tmp 16)), .keep [0, 1, 5]]))
def c123 : AC := .seq (.reg [.op none (.mv 4 (.const (.bool false))), .keep [0, 1]]) (.seq (.seq (.reg [.op none (.mv 6 (.tmp 0)), .op none (.len 7 (.tmp 6)), .op none (.mv 8 (.tmp 1)), .op none (.len 9 (.tmp 8)), .op none (.bin 10 .neq (.tmp 7) (.tmp 9)), .keep [0, 1, 10]]) (.cond (.tmp 10) (.seq (.reg [.op none (.mv 4 (.const (.bool false))), .keep [4]]) (.ret)) (.skip))) (.seq (.seq (.reg [.op none (.mv 5 (.const (.int .i64 0))), .keep [0, 1, 5]]) (.block 0 (.gh (.loop (.ga c123_l0))))) (.seq (.reg [.op none (.mv 4 (.const (.bool true))), .keep [4]]) (.ret))))
def r123 : List RV := [.tmp 4]
theorem k123 : compC Try.prog 26 (Try.f123.body.getD .skip) = some c123.erase := by kernel_rfl
theorem q123 : rvsOf Try.prog Try.f123.results.toList = some r123 := by kernel_rfl
def laws_eqByteS.l0 (l0 : List Int) (l1 : List Int) (x0_0 : Int) : Option (Lp Unit Bool) := (if x0_0 < (l0.length : Int) then (if 0 ≤ x0_0 ∧ x0_0 < (l0.length : Int) then (if 0 ≤ x0_0 ∧ x0_0 < (l1.length : Int) then (if (rd 0 l0 x0_0) ≠ (rd 0 l1 x0_0) then (some (.b false)) else (laws_eqByteS.l0 l0 l1 (IntKind.i64.wrap (x0_0 + 1)))) else none) else none) else (some (.a ())))
  partial_fixpoint
def laws_eqByteS.f (l0 : List Int) (l1 : List Int) : Option Bool := (if (l0.length : Int) ≠ (l1.length : Int) then (some false) else (laws_eqByteS.l0 l0 l1 0 >>= fun (y21 : Lp Unit Bool) => match y21 with | .a x23 => (some true) | .b x23 => (some x23)))
set_option maxRecDepth 100000 in
set_option maxHeartbeats 4000000 in
theorem laws_eqByteS.l0_walk (cs0 : List Cell) (o0 : Nat) (l0 : List Int) (hv0 : Vw c_u8 1 cs0 o0 l0) (cs1 : List Cell) (o1 : Nat) (l1 : List Int) (hv1 : Vw c_u8 1 cs1 o1 l1) (x0_0 : Int) (y : Lp Unit Bool) (h : laws_eqByteS.l0 l0 l1 x0_0 = some y) (K : AE → St → Prop) (hx0 : ∀ x, y = .a x → K (.exit 0) ⟨[], [(.arg 0, ⟨.fz, 1, cs0⟩), (.arg 1, ⟨.fz, 1, cs1⟩)], [], []⟩) (hx1 : ∀ x, y = .b x → K .ret ⟨[(4, .c (.sc (.bool x)))], [(.arg 0, ⟨.fz, 1, cs0⟩), (.arg 1, ⟨.fz, 1, cs1⟩)], [], []⟩) : loopS Try.prog 26 (.ga c123_l0) K ⟨[(0, .c (.ref (.arg 0) [] o0 l0.length)), (1, .c (.ref (.arg 1) [] o1 l1.length)), (5, .c (.sc (.int .i64 x0_0)))], [(.arg 0, ⟨.fz, 1, cs0⟩), (.arg 1, ⟨.fz, 1, cs1⟩)], [], []⟩ := by
  refine laws_eqByteS.l0.partial_correctness l0 l1 (motive := fun x0_0 y => ∀ (K : AE → St → Prop), (∀ x, y = .a x → K (.exit 0) ⟨[], [(.arg 0, ⟨.fz, 1, cs0⟩), (.arg 1, ⟨.fz, 1, cs1⟩)], [], []⟩) → (∀ x, y = .b x → K .ret ⟨[(4, .c (.sc (.bool x)))], [(.arg 0, ⟨.fz, 1, cs0⟩), (.arg 1, ⟨.fz, 1, cs1⟩)], [], []⟩) → loopS Try.prog 26 (.ga c123_l0) K ⟨[(0, .c (.ref (.arg 0) [] o0 l0.length)), (1, .c (.ref (.arg 1) [] o1 l1.length)), (5, .c (.sc (.int .i64 x0_0)))], [(.arg 0, ⟨.fz, 1, cs0⟩), (.arg 1, ⟨.fz, 1, cs1⟩)], [], []⟩) ?_ x0_0 y h K hx0 hx1
  clear h hx0 hx1
  intro rec ih x0_0 y h K hx0 hx1
  refine loop_unroll (ga_k fun G0 G0n G0r G0x => ?_)
  unfold c123_l0
  refine seq_k fun J9 hJ9 => ?_
  refine seq_k fun J10 hJ10 => ?_
  refine reg_k ?_
  simp only [Nat.reduceEqDiff, Nat.reduceAdd, Nat.reduceMul, Nat.reduceLeDiff, Nat.reduceLT, Int.reduceLE, Int.reduceLT, Int.reduceGT, Int.reduceGE, Int.reduceEq, Int.reduceNe, Int.reduceToNat, reduceCtorEq, ak]
  refine hJ10 _ ?_
  refine cond_k (b := decide (x0_0 < (l0.length : Int))) rfl (fun c11 => ?_) (fun c11 => ?_)
  · replace c11 := of_decide_eq_true c11; rw [if_pos c11] at h
    refine hJ9 _ ?_
    refine seq_k fun J12 hJ12 => ?_
    refine block_k fun B13 B13n B13x B13r B13j => ?_
    refine seq_k fun J14 hJ14 => ?_
    refine regD_k ?_
    obtain ⟨b15, h⟩ := of_guard h
    have g16 : (cs0)[o0 + x0_0.toNat * 1]? = some (.sc (.int .u8 (rd 0 l0 x0_0))) := hv0.get 0 0 b15.1 b15.2 (by decide)
    obtain ⟨b17, h⟩ := of_guard h
    have g18 : (cs1)[o1 + x0_0.toNat * 1]? = some (.sc (.int .u8 (rd 0 l1 x0_0))) := hv1.get 0 0 b17.1 b17.2 (by decide)
    simp only [Nat.reduceEqDiff, Nat.reduceAdd, Nat.reduceMul, Nat.reduceLeDiff, Nat.reduceLT, Int.reduceLE, Int.reduceLT, Int.reduceGT, Int.reduceGE, Int.reduceEq, Int.reduceNe, Int.reduceToNat, reduceCtorEq, ak, b15, g16, b17, g18]
    refine hJ14 _ ?_
    refine cond_k (b := decide ((rd 0 l0 x0_0) ≠ (rd 0 l1 x0_0))) rfl (fun c19 => ?_) (fun c19 => ?_)
    · replace c19 := of_decide_eq_true c19; rw [if_pos c19] at h
      refine seq_k fun J20 hJ20 => ?_
      refine reg_k ?_
      simp only [Nat.reduceEqDiff, Nat.reduceAdd, Nat.reduceMul, Nat.reduceLeDiff, Nat.reduceLT, Int.reduceLE, Int.reduceLT, Int.reduceGT, Int.reduceGE, Int.reduceEq, Int.reduceNe, Int.reduceToNat, reduceCtorEq, ak]
      refine hJ20 _ ?_
      obtain rfl := Option.some.inj h
      refine gh_k (st' := ⟨[(4, .c (.sc (.bool false)))], [(.arg 0, ⟨.fz, 1, cs0⟩), (.arg 1, ⟨.fz, 1, cs1⟩)], [], []⟩) (((Weak.keep [4]).trans ((Weak.foc [(.arg 0, ⟨(.arg 0), [], none, .fz⟩), (.arg 1, ⟨(.arg 1), [], none, .fz⟩)] rfl (by first | rfl | simp only [reduceCtorEq, Nat.reduceEqDiff, ak, akF, b15, b17]) (by simp [argK, akG, ak])).trans (Weak.of_eq (by first | rfl | (simp only [reduceCtorEq, Nat.reduceEqDiff, ak, akF, b15, b17]; done) | (simp [reduceCtorEq, Nat.reduceEqDiff, ak, akF, b15, b17]; done)))))) ?_
      refine B13r _ ?_
      refine G0r _ ?_
      exact hx1 _ rfl
    · replace c19 := of_decide_eq_false c19; rw [if_neg c19] at h
      refine B13n _ ?_
      refine hJ12 _ ?_
      refine reg_k ?_
      simp only [Nat.reduceEqDiff, Nat.reduceAdd, Nat.reduceMul, Nat.reduceLeDiff, Nat.reduceLT, Int.reduceLE, Int.reduceLT, Int.reduceGT, Int.reduceGE, Int.reduceEq, Int.reduceNe, Int.reduceToNat, reduceCtorEq, ak]
      refine G0n _ (⟨[(0, .c (.ref (.arg 0) [] o0 l0.length)), (1, .c (.ref (.arg 1) [] o1 l1.length)), (5, .c (.sc (.int .i64 (IntKind.i64.wrap (x0_0 + 1)))))], [(.arg 0, ⟨.fz, 1, cs0⟩), (.arg 1, ⟨.fz, 1, cs1⟩)], [], []⟩) (((Weak.keep [0, 1, 5]).trans ((Weak.foc [(.arg 0, ⟨(.arg 0), [], none, .fz⟩), (.arg 1, ⟨(.arg 1), [], none, .fz⟩)] rfl (by first | rfl | simp only [reduceCtorEq, Nat.reduceEqDiff, ak, akF, b15, b17]) (by simp [argK, akG, ak])).trans (Weak.of_eq (by first | rfl | (simp only [reduceCtorEq, Nat.reduceEqDiff, ak, akF, b15, b17]; done) | (simp [reduceCtorEq, Nat.reduceEqDiff, ak, akF, b15, b17]; done)))))) (ih _ _ h K hx0 hx1)
  · replace c11 := of_decide_eq_false c11; rw [if_neg c11] at h
    obtain rfl := Option.some.inj h
    refine gh_k (st' := ⟨[], [(.arg 0, ⟨.fz, 1, cs0⟩), (.arg 1, ⟨.fz, 1, cs1⟩)], [], []⟩) (((Weak.keep []).trans ((Weak.foc [(.arg 0, ⟨(.arg 0), [], none, .fz⟩), (.arg 1, ⟨(.arg 1), [], none, .fz⟩)] rfl (by first | rfl | simp only [reduceCtorEq, Nat.reduceEqDiff, ak, akF]) (by simp [argK, akG, ak])).trans (Weak.of_eq (by first | rfl | (simp only [reduceCtorEq, Nat.reduceEqDiff, ak, akF]; done) | (simp [reduceCtorEq, Nat.reduceEqDiff, ak, akF]; done)))))) ?_
    refine G0x _ _ ?_
    exact hx0 _ rfl
set_option maxRecDepth 100000 in
set_option maxHeartbeats 4000000 in
theorem laws_eqByteS.tri (cs0 : List Cell) (o0 : Nat) (l0 : List Int) (hv0 : Vw c_u8 1 cs0 o0 l0) (cs1 : List Cell) (o1 : Nat) (l1 : List Int) (hv1 : Vw c_u8 1 cs1 o1 l1) (r : Bool) (h : laws_eqByteS.f l0 l1 = some r) : Tri Try.prog 123 [.c (.ref (.arg 0) [] o0 l0.length), .c (.ref (.arg 1) [] o1 l1.length)] [(.arg 0, ⟨.fz, 1, cs0⟩), (.arg 1, ⟨.fz, 1, cs1⟩)] (fun o => o = ⟨.c (.sc (.bool r)), [(.arg 0, ⟨.fz, 1, cs0⟩), (.arg 1, ⟨.fz, 1, cs1⟩)], [], []⟩) := by
  refine tri_of_body (ac := c123) (xs := r123) Try.func123 (show Try.f123.body = some (Try.f123.body.getD .skip) from rfl) k123 q123 (Nat.le_of_ble_eq_true rfl) ?_
  refine body_of fun K hKn hKr => ?_
  unfold laws_eqByteS.f at h
  unfold c123
  simp only [initT, Nat.reduceAdd]
  refine seq_k fun J1 hJ1 => ?_
  refine reg_k ?_
  simp only [Nat.reduceEqDiff, Nat.reduceAdd, Nat.reduceMul, Nat.reduceLeDiff, Nat.reduceLT, Int.reduceLE, Int.reduceLT, Int.reduceGT, Int.reduceGE, Int.reduceEq, Int.reduceNe, Int.reduceToNat, reduceCtorEq, ak]
  refine hJ1 _ ?_
  refine seq_k fun J2 hJ2 => ?_
  refine seq_k fun J3 hJ3 => ?_
  refine reg_k ?_
  simp only [Nat.reduceEqDiff, Nat.reduceAdd, Nat.reduceMul, Nat.reduceLeDiff, Nat.reduceLT, Int.reduceLE, Int.reduceLT, Int.reduceGT, Int.reduceGE, Int.reduceEq, Int.reduceNe, Int.reduceToNat, reduceCtorEq, ak]
  refine hJ3 _ ?_
  refine cond_k (b := decide ((l0.length : Int) ≠ (l1.length : Int))) rfl (fun c4 => ?_) (fun c4 => ?_)
  · replace c4 := of_decide_eq_true c4; rw [if_pos c4] at h
    refine seq_k fun J5 hJ5 => ?_
    refine reg_k ?_
    simp only [Nat.reduceEqDiff, Nat.reduceAdd, Nat.reduceMul, Nat.reduceLeDiff, Nat.reduceLT, Int.reduceLE, Int.reduceLT, Int.reduceGT, Int.reduceGE, Int.reduceEq, Int.reduceNe, Int.reduceToNat, reduceCtorEq, ak]
    refine hJ5 _ ?_
    obtain rfl := Option.some.inj h
    refine hKr _ ⟨_, rfl, [], _, rfl, rfl, ?_⟩
    first | rfl | (simp only [reduceCtorEq, Nat.reduceEqDiff, ak, akF]; done) | (simp [reduceCtorEq, Nat.reduceEqDiff, ak, akF]; done)
  · replace c4 := of_decide_eq_false c4; rw [if_neg c4] at h
    refine hJ2 _ ?_
    refine seq_k fun J6 hJ6 => ?_
    refine seq_k fun J7 hJ7 => ?_
    refine reg_k ?_
    simp only [Nat.reduceEqDiff, Nat.reduceAdd, Nat.reduceMul, Nat.reduceLeDiff, Nat.reduceLT, Int.reduceLE, Int.reduceLT, Int.reduceGT, Int.reduceGE, Int.reduceEq, Int.reduceNe, Int.reduceToNat, reduceCtorEq, ak]
    refine hJ7 _ ?_
    refine block_k fun B8 B8n B8x B8r B8j => ?_
    obtain ⟨y21, h22, h⟩ := of_bind h
    refine gh_k (st' := ⟨[(0, .c (.ref (.arg 0) [] o0 l0.length)), (1, .c (.ref (.arg 1) [] o1 l1.length)), (5, .c (.sc (.int .i64 0)))], [(.arg 0, ⟨.fz, 1, cs0⟩), (.arg 1, ⟨.fz, 1, cs1⟩)], [], []⟩) (((Weak.keep [0, 1, 5]).trans ((Weak.foc [(.arg 0, ⟨(.arg 0), [], none, .fz⟩), (.arg 1, ⟨(.arg 1), [], none, .fz⟩)] rfl (by first | rfl | simp only [reduceCtorEq, Nat.reduceEqDiff, ak, akF]) (by simp [argK, akG, ak])).trans (Weak.of_eq (by first | rfl | (simp only [reduceCtorEq, Nat.reduceEqDiff, ak, akF]; done) | (simp [reduceCtorEq, Nat.reduceEqDiff, ak, akF]; done)))))) ?_
    rw [e_loop]
    refine laws_eqByteS.l0_walk cs0 o0 l0 hv0 cs1 o1 l1 hv1 0 _ h22 _ ?_ ?_
    · rintro x23 rfl
      dsimp only at h
      refine B8x _ ?_
      refine hJ6 _ ?_
      refine seq_k fun J24 hJ24 => ?_
      refine reg_k ?_
      simp only [Nat.reduceEqDiff, Nat.reduceAdd, Nat.reduceMul, Nat.reduceLeDiff, Nat.reduceLT, Int.reduceLE, Int.reduceLT, Int.reduceGT, Int.reduceGE, Int.reduceEq, Int.reduceNe, Int.reduceToNat, reduceCtorEq, ak]
      refine hJ24 _ ?_
      obtain rfl := Option.some.inj h
      refine hKr _ ⟨_, rfl, [], _, rfl, rfl, ?_⟩
      first | rfl | (simp only [reduceCtorEq, Nat.reduceEqDiff, ak, akF]; done) | (simp [reduceCtorEq, Nat.reduceEqDiff, ak, akF]; done)
    · rintro x23 rfl
      dsimp only at h
      refine B8r _ ?_
      obtain rfl := Option.some.inj h
      refine hKr _ ⟨_, rfl, [], _, rfl, rfl, ?_⟩
      first | rfl | (simp only [reduceCtorEq, Nat.reduceEqDiff, ak, akF]; done) | (simp [reduceCtorEq, Nat.reduceEqDiff, ak, akF]; done)
/-! ### laws.eqReorderOut: function 103 -/
def c103 : AC := .seq (.reg [.op none (.box 2 (.tmp 0)), .op none (.box 3 (.tmp 1)), .op none (.mv 4 (.const (.bool false))), .keep [2, 3]]) (.seq (.seq (.reg [.op none (.faddr 5 0 (.tmp 2)), .op none (.load 6 false 1 (.tmp 5)), .op none (.faddr 7 0 (.tmp 3)), .op none (.load 8 false 1 (.tmp 7)), .op none (.bin 9 .neq (.tmp 6) (.tmp 8)), .keep [2, 3, 9]]) (.cond (.tmp 9) (.seq (.reg [.op none (.mv 4 (.const (.bool false))), .keep [4]]) (.ret)) (.skip))) (.seq (.seq (.reg [.op none (.faddr 10 1 (.tmp 2)), .op none (.load 11 false 1 (.tmp 10)), .op none (.faddr 12 1 (.tmp 3)), .op none (.load 13 false 1 (.tmp 12)), .op none (.bin 14 .neq (.tmp 11) (.tmp 13)), .keep [2, 3, 14]]) (.cond (.tmp 14) (.seq (.reg [.op none (.mv 4 (.const (.bool false))), .keep [4]]) (.ret)) (.skip))) (.seq (.seq (.reg [.op none (.faddr 15 2 (.tmp 2)), .op none (.load 16 false 1 (.tmp 15)), .op none (.faddr 17 2 (.tmp 3)), .op none (.load 18 false 1 (.tmp 17)), .call none (some 19) 123 [.tmp 16, .tmp 18], .op none (.un 20 .not (.tmp 19)), .keep [20]]) (.cond (.tmp 20) (.seq (.reg [.op none (.mv 4 (.const (.bool false))), .keep [4]]) (.ret)) (.skip))) (.seq (.reg [.op none (.mv 4 (.const (.bool true))), .keep [4]]) (.ret)))))
def r103 : List RV := [.tmp 4]
theorem k103 : compC Try.prog 21 (Try.f103.body.getD .skip) = some c103.erase := by kernel_rfl
theorem q103 : rvsOf Try.prog Try.f103.results.toList = some r103 := by kernel_rfl
def laws_eqReorderOut.f (a0_0 : Int) (a0_1 : Int) (l0_2 : List Int) (a1_0 : Int) (a1_1 : Int) (l1_2 : List Int) : Option Bool := (if a0_0 ≠ a1_0 then (some false) else (if a0_1 ≠ a1_1 then (some false) else (laws_eqByteS.f l0_2 l1_2 >>= fun t12 => (if (!t12) = true then (some false) else (some true)))))
set_option maxRecDepth 100000 in
set_option maxHeartbeats 4000000 in
theorem laws_eqReorderOut.tri (cs0 : List Cell) (o0 : Nat) (l0_2 : List Int) (hv0 : Vw c_u8 1 cs0 o0 l0_2) (cs1 : List Cell) (o1 : Nat) (l1_2 : List Int) (hv1 : Vw c_u8 1 cs1 o1 l1_2) (a0_0 : Int) (a0_1 : Int) (a1_0 : Int) (a1_1 : Int) (r : Bool) (h : laws_eqReorderOut.f a0_0 a0_1 l0_2 a1_0 a1_1 l1_2 = some r) : Tri Try.prog 103 [.g [.sc (.int .i64 a0_0), .sc (.int .i64 a0_1), .ref (.arg 0) [] o0 l0_2.length], .g [.sc (.int .i64 a1_0), .sc (.int .i64 a1_1), .ref (.arg 1) [] o1 l1_2.length]] [(.arg 0, ⟨.fz, 1, cs0⟩), (.arg 1, ⟨.fz, 1, cs1⟩)] (fun o => o = ⟨.c (.sc (.bool r)), [(.arg 0, ⟨.fz, 1, cs0⟩), (.arg 1, ⟨.fz, 1, cs1⟩)], [], []⟩) := by
  refine tri_of_body (ac := c103) (xs := r103) Try.func103 (show Try.f103.body = some (Try.f103.body.getD .skip) from rfl) k103 q103 (Nat.le_of_ble_eq_true rfl) ?_
  refine body_of fun K hKn hKr => ?_
  unfold laws_eqReorderOut.f at h
  unfold c103
  simp only [initT, Nat.reduceAdd]
  refine seq_k fun J1 hJ1 => ?_
  refine reg_k ?_
  simp only [Nat.reduceEqDiff, Nat.reduceAdd, Nat.reduceMul, Nat.reduceLeDiff, Nat.reduceLT, Int.reduceLE, Int.reduceLT, Int.reduceGT, Int.reduceGE, Int.reduceEq, Int.reduceNe, Int.reduceToNat, reduceCtorEq, ak]
  refine hJ1 _ ?_
  refine seq_k fun J2 hJ2 => ?_
  refine seq_k fun J3 hJ3 => ?_
  refine reg_k ?_
  simp only [Nat.reduceEqDiff, Nat.reduceAdd, Nat.reduceMul, Nat.reduceLeDiff, Nat.reduceLT, Int.reduceLE, Int.reduceLT, Int.reduceGT, Int.reduceGE, Int.reduceEq, Int.reduceNe, Int.reduceToNat, reduceCtorEq, ak]
  refine hJ3 _ ?_
  refine cond_k (b := decide (a0_0 ≠ a1_0)) rfl (fun c4 => ?_) (fun c4 => ?_)
  · replace c4 := of_decide_eq_true c4; rw [if_pos c4] at h
    refine seq_k fun J5 hJ5 => ?_
    refine reg_k ?_
    simp only [Nat.reduceEqDiff, Nat.reduceAdd, Nat.reduceMul, Nat.reduceLeDiff, Nat.reduceLT, Int.reduceLE, Int.reduceLT, Int.reduceGT, Int.reduceGE, Int.reduceEq, Int.reduceNe, Int.reduceToNat, reduceCtorEq, ak]
    refine hJ5 _ ?_
    obtain rfl := Option.some.inj h
    refine hKr _ ⟨_, rfl, [], _, rfl, rfl, ?_⟩
    first | rfl | (simp only [reduceCtorEq, Nat.reduceEqDiff, ak, akF]; done) | (simp [reduceCtorEq, Nat.reduceEqDiff, ak, akF]; done)
  · replace c4 := of_decide_eq_false c4; rw [if_neg c4] at h
    refine hJ2 _ ?_
    refine seq_k fun J6 hJ6 => ?_
    refine seq_k fun J7 hJ7 => ?_
    refine reg_k ?_
    simp only [Nat.reduceEqDiff, Nat.reduceAdd, Nat.reduceMul, Nat.reduceLeDiff, Nat.reduceLT, Int.reduceLE, Int.reduceLT, Int.reduceGT, Int.reduceGE, Int.reduceEq, Int.reduceNe, Int.reduceToNat, reduceCtorEq, ak]
    refine hJ7 _ ?_
    refine cond_k (b := decide (a0_1 ≠ a1_1)) rfl (fun c8 => ?_) (fun c8 => ?_)
    · replace c8 := of_decide_eq_true c8; rw [if_pos c8] at h
      refine seq_k fun J9 hJ9 => ?_
      refine reg_k ?_
      simp only [Nat.reduceEqDiff, Nat.reduceAdd, Nat.reduceMul, Nat.reduceLeDiff, Nat.reduceLT, Int.reduceLE, Int.reduceLT, Int.reduceGT, Int.reduceGE, Int.reduceEq, Int.reduceNe, Int.reduceToNat, reduceCtorEq, ak]
      refine hJ9 _ ?_
      obtain rfl := Option.some.inj h
      refine hKr _ ⟨_, rfl, [], _, rfl, rfl, ?_⟩
      first | rfl | (simp only [reduceCtorEq, Nat.reduceEqDiff, ak, akF]; done) | (simp [reduceCtorEq, Nat.reduceEqDiff, ak, akF]; done)
    · replace c8 := of_decide_eq_false c8; rw [if_neg c8] at h
      refine hJ6 _ ?_
      refine seq_k fun J10 hJ10 => ?_
      refine seq_k fun J11 hJ11 => ?_
      refine reg_k ?_
      simp only [Nat.reduceEqDiff, Nat.reduceAdd, Nat.reduceMul, Nat.reduceLeDiff, Nat.reduceLT, Int.reduceLE, Int.reduceLT, Int.reduceGT, Int.reduceGE, Int.reduceEq, Int.reduceNe, Int.reduceToNat, reduceCtorEq, ak]
      obtain ⟨t12, h13, h⟩ := of_bind h
      refine call_m [(.arg 0, ⟨(.arg 0), [], none, .fz⟩), (.arg 1, ⟨(.arg 1), [], none, .fz⟩)] (s0 := [(.arg 0, ⟨.fz, 1, cs0⟩), (.arg 1, ⟨.fz, 1, cs1⟩)]) (by intro t ht; cases ht; decide) rfl rfl (by first | rfl | simp only [reduceCtorEq, Nat.reduceEqDiff, ak, akF]) (laws_eqByteS.tri (cs0) o0 l0_2 hv0 (cs1) o1 l1_2 hv1 _ h13) (by first | rfl | simp only [reduceCtorEq, Nat.reduceEqDiff, ak, akF]) (by simp [bkOk2, memK]) (fun hl13 => ?_)
      refine call_st (s4 := [(.arg 0, ⟨.fz, 1, cs0⟩), (.arg 1, ⟨.fz, 1, cs1⟩), (.tmp 2 0, ⟨.box, 0, [.sc (.int .i64 a0_0), .sc (.int .i64 a0_1), .ref (.arg 0) [] o0 l0_2.length]⟩), (.tmp 3 0, ⟨.box, 0, [.sc (.int .i64 a1_0), .sc (.int .i64 a1_1), .ref (.arg 1) [] o1 l1_2.length]⟩)]) (m1' := []) (m2' := []) (v' := .c (.sc (.bool t12))) (Sto.mapN_killNil _ _) (mrgL_fz (mrgL_fz (mrgL_nil' _ _ _) rfl (by first | rfl | simp only [reduceCtorEq, Nat.reduceEqDiff, ak]) rfl (by intro R hR hh; cases hR; cases hh.2)) rfl (by first | rfl | simp only [reduceCtorEq, Nat.reduceEqDiff, ak]) rfl (by intro R hR hh; cases hR; cases hh.2)) (by rfl) (mapT_killNil _ _) (by rfl) (by rfl) (by first | rfl | simp only [reduceCtorEq, Nat.reduceEqDiff, ak, akF, Nat.zero_add, List.append_nil]) ?_
      simp only [Nat.reduceEqDiff, Nat.reduceAdd, Nat.reduceMul, Nat.reduceLeDiff, Nat.reduceLT, Int.reduceLE, Int.reduceLT, Int.reduceGT, Int.reduceGE, Int.reduceEq, Int.reduceNe, Int.reduceToNat, reduceCtorEq, ak]
      refine hJ11 _ ?_
      refine cond_k (b := !t12) rfl (fun c15 => ?_) (fun c15 => ?_)
      · rw [if_pos c15] at h
        refine seq_k fun J16 hJ16 => ?_
        refine reg_k ?_
        simp only [Nat.reduceEqDiff, Nat.reduceAdd, Nat.reduceMul, Nat.reduceLeDiff, Nat.reduceLT, Int.reduceLE, Int.reduceLT, Int.reduceGT, Int.reduceGE, Int.reduceEq, Int.reduceNe, Int.reduceToNat, reduceCtorEq, ak]
        refine hJ16 _ ?_
        obtain rfl := Option.some.inj h
        refine hKr _ ⟨_, rfl, [], _, rfl, rfl, ?_⟩
        first | rfl | (simp only [reduceCtorEq, Nat.reduceEqDiff, ak, akF]; done) | (simp [reduceCtorEq, Nat.reduceEqDiff, ak, akF]; done)
      · rw [if_neg (Bool.eq_false_iff.1 c15)] at h
        refine hJ10 _ ?_
        refine seq_k fun J17 hJ17 => ?_
        refine reg_k ?_
        simp only [Nat.reduceEqDiff, Nat.reduceAdd, Nat.reduceMul, Nat.reduceLeDiff, Nat.reduceLT, Int.reduceLE, Int.reduceLT, Int.reduceGT, Int.reduceGE, Int.reduceEq, Int.reduceNe, Int.reduceToNat, reduceCtorEq, ak]
        refine hJ17 _ ?_
        obtain rfl := Option.some.inj h
        refine hKr _ ⟨_, rfl, [], _, rfl, rfl, ?_⟩
        first | rfl | (simp only [reduceCtorEq, Nat.reduceEqDiff, ak, akF]; done) | (simp [reduceCtorEq, Nat.reduceEqDiff, ak, akF]; done)
/-! ### laws.eqReorderOutS: function 51 -/
def c51_l0 : AC := .seq (.seq (.reg [.op none (.mv 11 (.tmp 5)), .op none (.mv 12 (.tmp 0)), .op none (.len 13 (.tmp 12)), .op none (.bin 14 .lss (.tmp 11) (.tmp 13)), .keep [0, 1, 5, 14]]) (.cond (.tmp 14) (.skip) (.gh (.exit 0)))) (.seq (.block 1 (.seq (.regD (.first (.op none (.mv 17 (.tmp 0))) (.first (.op none (.mv 18 (.tmp 5))) (.first (.op none (.iaddr 19 3 (.tmp 17) (.tmp 18))) (.first (.op none (.load 20 true 3 (.tmp 19))) (.first (.op none (.mv 21 (.tmp 1))) (.first (.op none (.mv 22 (.tmp 5))) (.first (.op none (.iaddr 23 3 (.tmp 21) (.tmp 22))) (.first (.op none (.load 24 true 3 (.tmp 23))) (.alt (.call none (some 25) 103 [.tmp 20, .tmp 24]) (.first (.op none (.un 26 .not (.tmp 25))) (.done)) (.stop)))))))))) [0, 1, 5, 26]) (.cond (.tmp 26) (.seq (.reg [.op none (.mv 4 (.const (.bool false))), .keep [4]]) (.gh .ret)) (.skip)))) (.reg [.op none (.mv 15 (.tmp 5)), .op none (.bin 16 .add (.tmp 15) (.const (.int .i64 1))), .op none (.mv 5 (.tmp 16)), .keep [0, 1, 5]]))
def c51 : AC := .seq (.reg [.op none (.mv 4 (.const (.bool false))), .keep [0, 1]]) (.seq (.seq (.reg [.op none (.mv 6 (.tmp 0)), .op none (.len 7 (.tmp 6)), .op none (.mv 8 (.tmp 1)), .op none (.len 9 (.tmp 8)), .op none (.bin 10 .neq (.tmp 7) (.tmp 9)), .keep [0, 1, 10]]) (.cond (.tmp 10) (.seq (.reg [.op none (.mv 4 (.const (.bool false))), .keep [4]]) (.ret)) (.skip))) (.seq (.seq (.reg [.op none (.mv 5 (.const (.int .i64 0))), .keep [0, 1, 5]]) (.block 0 (.gh (.loop (.ga c51_l0))))) (.seq (.reg [.op none (.mv 4 (.const (.bool true))), .keep [4]]) (.ret))))
def r51 : List RV := [.tmp 4]
theorem k51 : compC Try.prog 27 (Try.f51.body.getD .skip) = some c51.erase := by kernel_rfl
theorem q51 : rvsOf Try.prog Try.f51.results.toList = some r51 := by kernel_rfl
def laws_eqReorderOutS.l0 (l0 : List S118) (l1 : List S118) (x0_0 : Int) : Option (Lp Unit Bool) := (if x0_0 < (l0.length : Int) then (if 0 ≤ x0_0 ∧ x0_0 < (l0.length : Int) then (if 0 ≤ x0_0 ∧ x0_0 < (l1.length : Int) then (laws_eqReorderOut.f ((rd z118 l0 x0_0).f0) ((rd z118 l0 x0_0).f1) ((rd z118 l0 x0_0).f2) ((rd z118 l1 x0_0).f0) ((rd z118 l1 x0_0).f1) ((rd z118 l1 x0_0).f2) >>= fun t21 => (if (!t21) = true then (some (.b false)) else (laws_eqReorderOutS.l0 l0 l1 (IntKind.i64.wrap (x0_0 + 1))))) else none) else none) else (some (.a ())))
  partial_fixpoint
def laws_eqReorderOutS.f (l0 : List S118) (l1 : List S118) : Option Bool := (if (l0.length : Int) ≠ (l1.length : Int) then (some false) else (laws_eqReorderOutS.l0 l0 l1 0 >>= fun (y29 : Lp Unit Bool) => match y29 with | .a x31 => (some true) | .b x31 => (some x31)))
set_option maxRecDepth 100000 in
set_option maxHeartbeats 4000000 in
theorem laws_eqReorderOutS.l0_walk (cs0 : List Cell) (o0 : Nat) (l0 : List S118) (hv0 : Vw c118 3 cs0 o0 l0) (cs1 : List Cell) (o1 : Nat) (l1 : List S118) (hv1 : Vw c118 3 cs1 o1 l1) (x0_0 : Int) (y : Lp Unit Bool) (h : laws_eqReorderOutS.l0 l0 l1 x0_0 = some y) (K : AE → St → Prop) (hx0 : ∀ x, y = .a x → K (.exit 0) ⟨[], [(.arg 0, ⟨.fz, 3, cs0⟩), (.arg 1, ⟨.fz, 3, cs1⟩)], [], []⟩) (hx1 : ∀ x, y = .b x → K .ret ⟨[(4, .c (.sc (.bool x)))], [(.arg 0, ⟨.fz, 3, cs0⟩), (.arg 1, ⟨.fz, 3, cs1⟩)], [], []⟩) : loopS Try.prog 27 (.ga c51_l0) K ⟨[(0, .c (.ref (.arg 0) [] o0 l0.length)), (1, .c (.ref (.arg 1) [] o1 l1.length)), (5, .c (.sc (.int .i64 x0_0)))], [(.arg 0, ⟨.fz, 3, cs0⟩), (.arg 1, ⟨.fz, 3, cs1⟩)], [], []⟩ := by
  refine laws_eqReorderOutS.l0.partial_correctness l0 l1 (motive := fun x0_0 y => ∀ (K : AE → St → Prop), (∀ x, y = .a x → K (.exit 0) ⟨[], [(.arg 0, ⟨.fz, 3, cs0⟩), (.arg 1, ⟨.fz, 3, cs1⟩)], [], []⟩) → (∀ x, y = .b x → K .ret ⟨[(4, .c (.sc (.bool x)))], [(.arg 0, ⟨.fz, 3, cs0⟩), (.arg 1, ⟨.fz, 3, cs1⟩)], [], []⟩) → loopS Try.prog 27 (.ga c51_l0) K ⟨[(0, .c (.ref (.arg 0) [] o0 l0.length)), (1, .c (.ref (.arg 1) [] o1 l1.length)), (5, .c (.sc (.int .i64 x0_0)))], [(.arg 0, ⟨.fz, 3, cs0⟩), (.arg 1, ⟨.fz, 3, cs1⟩)], [], []⟩) ?_ x0_0 y h K hx0 hx1
  clear h hx0 hx1
  intro rec ih x0_0 y h K hx0 hx1
  refine loop_unroll (ga_k fun G0 G0n G0r G0x => ?_)
  unfold c51_l0
  refine seq_k fun J9 hJ9 => ?_
  refine seq_k fun J10 hJ10 => ?_
  refine reg_k ?_
  simp only [Nat.reduceEqDiff, Nat.reduceAdd, Nat.reduceMul, Nat.reduceLeDiff, Nat.reduceLT, Int.reduceLE, Int.reduceLT, Int.reduceGT, Int.reduceGE, Int.reduceEq, Int.reduceNe, Int.reduceToNat, reduceCtorEq, ak]
  refine hJ10 _ ?_
  refine cond_k (b := decide (x0_0 < (l0.length : Int))) rfl (fun c11 => ?_) (fun c11 => ?_)
  · replace c11 := of_decide_eq_true c11; rw [if_pos c11] at h
    refine hJ9 _ ?_
    refine seq_k fun J12 hJ12 => ?_
    refine block_k fun B13 B13n B13x B13r B13j => ?_
    refine seq_k fun J14 hJ14 => ?_
    refine regD_k ?_
    obtain ⟨b15, h⟩ := of_guard h
    have g16 : (List.drop (o0 + x0_0.toNat * 3) (cs0)).take 3 = [.sc (.int .i64 ((rd z118 l0 x0_0).f0)), .sc (.int .i64 ((rd z118 l0 x0_0).f1)), .own 1 (((rd z118 l0 x0_0).f2).length) (encL c_u8 ((rd z118 l0 x0_0).f2))] := hv0.stretch z118 b15.1 b15.2
    obtain ⟨b17, h⟩ := of_guard h
    have g18 : (List.drop (o1 + x0_0.toNat * 3) (cs1)).take 3 = [.sc (.int .i64 ((rd z118 l1 x0_0).f0)), .sc (.int .i64 ((rd z118 l1 x0_0).f1)), .own 1 (((rd z118 l1 x0_0).f2).length) (encL c_u8 ((rd z118 l1 x0_0).f2))] := hv1.stretch z118 b17.1 b17.2
    simp only [Nat.reduceEqDiff, Nat.reduceAdd, Nat.reduceMul, Nat.reduceLeDiff, Nat.reduceLT, Int.reduceLE, Int.reduceLT, Int.reduceGT, Int.reduceGE, Int.reduceEq, Int.reduceNe, Int.reduceToNat, reduceCtorEq, ak, b15, g16, b17, g18]
    obtain ⟨t21, h22, h⟩ := of_bind h
    refine alt_k ?_ trivial
    · simp only [Nat.reduceEqDiff, Nat.reduceAdd, Nat.reduceMul, Nat.reduceLeDiff, Nat.reduceLT, Int.reduceLE, Int.reduceLT, Int.reduceGT, Int.reduceGE, Int.reduceEq, Int.reduceNe, Int.reduceToNat, reduceCtorEq, ak]
      have g24 : (cs0)[o0 + x0_0.toNat * 3 + 1 + 1]? = some (.own 1 (((rd z118 l0 x0_0).f2).length) (encL c_u8 ((rd z118 l0 x0_0).f2))) := hv0.get z118 2 b15.1 b15.2 (by decide)
      have g25 : (cs1)[o1 + x0_0.toNat * 3 + 1 + 1]? = some (.own 1 (((rd z118 l1 x0_0).f2).length) (encL c_u8 ((rd z118 l1 x0_0).f2))) := hv1.get z118 2 b17.1 b17.2 (by decide)
      refine call_m [(.arg 0, ⟨(.arg 0), [o0 + x0_0.toNat * 3 + 1 + 1], none, .fz⟩), (.arg 1, ⟨(.arg 1), [o1 + x0_0.toNat * 3 + 1 + 1], none, .fz⟩)] (s0 := [(.arg 0, ⟨.fz, 1, encL c_u8 ((rd z118 l0 x0_0).f2)⟩), (.arg 1, ⟨.fz, 1, encL c_u8 ((rd z118 l1 x0_0).f2)⟩)]) (by intro t ht; cases ht; decide) rfl rfl (by first | rfl | simp only [reduceCtorEq, Nat.reduceEqDiff, ak, akF, b15, b17, g16, g18, g24, g25]) (laws_eqReorderOut.tri (encL c_u8 ((rd z118 l0 x0_0).f2)) 0 ((rd z118 l0 x0_0).f2) (Vw.whole c_u8_w ((rd z118 l0 x0_0).f2)) (encL c_u8 ((rd z118 l1 x0_0).f2)) 0 ((rd z118 l1 x0_0).f2) (Vw.whole c_u8_w ((rd z118 l1 x0_0).f2)) ((rd z118 l0 x0_0).f0) ((rd z118 l0 x0_0).f1) ((rd z118 l1 x0_0).f0) ((rd z118 l1 x0_0).f1) _ h22) (by first | rfl | simp only [reduceCtorEq, Nat.reduceEqDiff, ak, akF]) (by simp [bkOk2, memK]) (fun hl25 => ?_)
      refine call_st (s4 := [(.arg 0, ⟨.fz, 3, cs0⟩), (.arg 1, ⟨.fz, 3, cs1⟩)]) (m1' := []) (m2' := []) (v' := .c (.sc (.bool t21))) (Sto.mapN_killNil _ _) (mrgL_fz (mrgL_fz (mrgL_nil' _ _ _) rfl (by first | rfl | simp only [reduceCtorEq, Nat.reduceEqDiff, ak, b15, b17, g16, g18, g24, g25]) rfl (by intro R hR hh; cases hh.1)) rfl (by first | rfl | simp only [reduceCtorEq, Nat.reduceEqDiff, ak, b15, b17, g16, g18, g24, g25]) rfl (by intro R hR hh; cases hh.1)) (by rfl) (mapT_killNil _ _) (by rfl) (by rfl) (by first | rfl | simp only [reduceCtorEq, Nat.reduceEqDiff, ak, akF, Nat.zero_add, List.append_nil, b15, b17]) ?_
      simp only [Nat.reduceEqDiff, Nat.reduceAdd, Nat.reduceMul, Nat.reduceLeDiff, Nat.reduceLT, Int.reduceLE, Int.reduceLT, Int.reduceGT, Int.reduceGE, Int.reduceEq, Int.reduceNe, Int.reduceToNat, reduceCtorEq, ak, b15, g24, b17, g25]
      refine hJ14 _ ?_
      refine cond_k (b := !t21) rfl (fun c27 => ?_) (fun c27 => ?_)
      · rw [if_pos c27] at h
        refine seq_k fun J28 hJ28 => ?_
        refine reg_k ?_
        simp only [Nat.reduceEqDiff, Nat.reduceAdd, Nat.reduceMul, Nat.reduceLeDiff, Nat.reduceLT, Int.reduceLE, Int.reduceLT, Int.reduceGT, Int.reduceGE, Int.reduceEq, Int.reduceNe, Int.reduceToNat, reduceCtorEq, ak]
        refine hJ28 _ ?_
        obtain rfl := Option.some.inj h
        refine gh_k (st' := ⟨[(4, .c (.sc (.bool false)))], [(.arg 0, ⟨.fz, 3, cs0⟩), (.arg 1, ⟨.fz, 3, cs1⟩)], [], []⟩) (((Weak.keep [4]).trans ((Weak.foc [(.arg 0, ⟨(.arg 0), [], none, .fz⟩), (.arg 1, ⟨(.arg 1), [], none, .fz⟩)] rfl (by first | rfl | simp only [reduceCtorEq, Nat.reduceEqDiff, ak, akF, b15, b17]) (by simp [argK, akG, ak])).trans (Weak.of_eq (by first | rfl | (simp only [reduceCtorEq, Nat.reduceEqDiff, ak, akF, b15, b17]; done) | (simp [reduceCtorEq, Nat.reduceEqDiff, ak, akF, b15, b17]; done)))))) ?_
        refine B13r _ ?_
        refine G0r _ ?_
        exact hx1 _ rfl
      · rw [if_neg (Bool.eq_false_iff.1 c27)] at h
        refine B13n _ ?_
        refine hJ12 _ ?_
        refine reg_k ?_
        simp only [Nat.reduceEqDiff, Nat.reduceAdd, Nat.reduceMul, Nat.reduceLeDiff, Nat.reduceLT, Int.reduceLE, Int.reduceLT, Int.reduceGT, Int.reduceGE, Int.reduceEq, Int.reduceNe, Int.reduceToNat, reduceCtorEq, ak]
        refine G0n _ (⟨[(0, .c (.ref (.arg 0) [] o0 l0.length)), (1, .c (.ref (.arg 1) [] o1 l1.length)), (5, .c (.sc (.int .i64 (IntKind.i64.wrap (x0_0 + 1)))))], [(.arg 0, ⟨.fz, 3, cs0⟩), (.arg 1, ⟨.fz, 3, cs1⟩)], [], []⟩) (((Weak.keep [0, 1, 5]).trans ((Weak.foc [(.arg 0, ⟨(.arg 0), [], none, .fz⟩), (.arg 1, ⟨(.arg 1), [], none, .fz⟩)] rfl (by first | rfl | simp only [reduceCtorEq, Nat.reduceEqDiff, ak, akF, b15, b17]) (by simp [argK, akG, ak])).trans (Weak.of_eq (by first | rfl | (simp only [reduceCtorEq, Nat.reduceEqDiff, ak, akF, b15, b17]; done) | (simp [reduceCtorEq, Nat.reduceEqDiff, ak, akF, b15, b17]; done)))))) (ih _ _ h K hx0 hx1)
  · replace c11 := of_decide_eq_false c11; rw [if_neg c11] at h
    obtain rfl := Option.some.inj h
    refine gh_k (st' := ⟨[], [(.arg 0, ⟨.fz, 3, cs0⟩), (.arg 1, ⟨.fz, 3, cs1⟩)], [], []⟩) (((Weak.keep []).trans ((Weak.foc [(.arg 0, ⟨(.arg 0), [], none, .fz⟩), (.arg 1, ⟨(.arg 1), [], none, .fz⟩)] rfl (by first | rfl | simp only [reduceCtorEq, Nat.reduceEqDiff, ak, akF]) (by simp [argK, akG, ak])).trans (Weak.of_eq (by first | rfl | (simp only [reduceCtorEq, Nat.reduceEqDiff, ak, akF]; done) | (simp [reduceCtorEq, Nat.reduceEqDiff, ak, akF]; done)))))) ?_
    refine G0x _ _ ?_
    exact hx0 _ rfl
set_option maxRecDepth 100000 in
set_option maxHeartbeats 4000000 in
theorem laws_eqReorderOutS.tri (cs0 : List Cell) (o0 : Nat) (l0 : List S118) (hv0 : Vw c118 3 cs0 o0 l0) (cs1 : List Cell) (o1 : Nat) (l1 : List S118) (hv1 : Vw c118 3 cs1 o1 l1) (r : Bool) (h : laws_eqReorderOutS.f l0 l1 = some r) : Tri Try.prog 51 [.c (.ref (.arg 0) [] o0 l0.length), .c (.ref (.arg 1) [] o1 l1.length)] [(.arg 0, ⟨.fz, 3, cs0⟩), (.arg 1, ⟨.fz, 3, cs1⟩)] (fun o => o = ⟨.c (.sc (.bool r)), [(.arg 0, ⟨.fz, 3, cs0⟩), (.arg 1, ⟨.fz, 3, cs1⟩)], [], []⟩) := by
  refine tri_of_body (ac := c51) (xs := r51) Try.func51 (show Try.f51.body = some (Try.f51.body.getD .skip) from rfl) k51 q51 (Nat.le_of_ble_eq_true rfl) ?_
  refine body_of fun K hKn hKr => ?_
  unfold laws_eqReorderOutS.f at h
  unfold c51
  simp only [initT, Nat.reduceAdd]
  refine seq_k fun J1 hJ1 => ?_
  refine reg_k ?_
  simp only [Nat.reduceEqDiff, Nat.reduceAdd, Nat.reduceMul, Nat.reduceLeDiff, Nat.reduceLT, Int.reduceLE, Int.reduceLT, Int.reduceGT, Int.reduceGE, Int.reduceEq, Int.reduceNe, Int.reduceToNat, reduceCtorEq, ak]
  refine hJ1 _ ?_
  refine seq_k fun J2 hJ2 => ?_
  refine seq_k fun J3 hJ3 => ?_
  refine reg_k ?_
  simp only [Nat.reduceEqDiff, Nat.reduceAdd, Nat.reduceMul, Nat.reduceLeDiff, Nat.reduceLT, Int.reduceLE, Int.reduceLT, Int.reduceGT, Int.reduceGE, Int.reduceEq, Int.reduceNe, Int.reduceToNat, reduceCtorEq, ak]
  refine hJ3 _ ?_
  refine cond_k (b := decide ((l0.length : Int) ≠ (l1.length : Int))) rfl (fun c4 => ?_) (fun c4 => ?_)
  · replace c4 := of_decide_eq_true c4; rw [if_pos c4] at h
    refine seq_k fun J5 hJ5 => ?_
    refine reg_k ?_
    simp only [Nat.reduceEqDiff, Nat.reduceAdd, Nat.reduceMul, Nat.reduceLeDiff, Nat.reduceLT, Int.reduceLE, Int.reduceLT, Int.reduceGT, Int.reduceGE, Int.reduceEq, Int.reduceNe, Int.reduceToNat, reduceCtorEq, ak]
    refine hJ5 _ ?_
    obtain rfl := Option.some.inj h
    refine hKr _ ⟨_, rfl, [], _, rfl, rfl, ?_⟩
    first | rfl | (simp only [reduceCtorEq, Nat.reduceEqDiff, ak, akF]; done) | (simp [reduceCtorEq, Nat.reduceEqDiff, ak, akF]; done)
  · replace c4 := of_decide_eq_false c4; rw [if_neg c4] at h
    refine hJ2 _ ?_
    refine seq_k fun J6 hJ6 => ?_
    refine seq_k fun J7 hJ7 => ?_
    refine reg_k ?_
    simp only [Nat.reduceEqDiff, Nat.reduceAdd, Nat.reduceMul, Nat.reduceLeDiff, Nat.reduceLT, Int.reduceLE, Int.reduceLT, Int.reduceGT, Int.reduceGE, Int.reduceEq, Int.reduceNe, Int.reduceToNat, reduceCtorEq, ak]
    refine hJ7 _ ?_
    refine block_k fun B8 B8n B8x B8r B8j => ?_
    obtain ⟨y29, h30, h⟩ := of_bind h
    refine gh_k (st' := ⟨[(0, .c (.ref (.arg 0) [] o0 l0.length)), (1, .c (.ref (.arg 1) [] o1 l1.length)), (5, .c (.sc (.int .i64 0)))], [(.arg 0, ⟨.fz, 3, cs0⟩), (.arg 1, ⟨.fz, 3, cs1⟩)], [], []⟩) (((Weak.keep [0, 1, 5]).trans ((Weak.foc [(.arg 0, ⟨(.arg 0), [], none, .fz⟩), (.arg 1, ⟨(.arg 1), [], none, .fz⟩)] rfl (by first | rfl | simp only [reduceCtorEq, Nat.reduceEqDiff, ak, akF]) (by simp [argK, akG, ak])).trans (Weak.of_eq (by first | rfl | (simp only [reduceCtorEq, Nat.reduceEqDiff, ak, akF]; done) | (simp [reduceCtorEq, Nat.reduceEqDiff, ak, akF]; done)))))) ?_
    rw [e_loop]
    refine laws_eqReorderOutS.l0_walk cs0 o0 l0 hv0 cs1 o1 l1 hv1 0 _ h30 _ ?_ ?_
    · rintro x31 rfl
      dsimp only at h
      refine B8x _ ?_
      refine hJ6 _ ?_
      refine seq_k fun J32 hJ32 => ?_
      refine reg_k ?_
      simp only [Nat.reduceEqDiff, Nat.reduceAdd, Nat.reduceMul, Nat.reduceLeDiff, Nat.reduceLT, Int.reduceLE, Int.reduceLT, Int.reduceGT, Int.reduceGE, Int.reduceEq, Int.reduceNe, Int.reduceToNat, reduceCtorEq, ak]
      refine hJ32 _ ?_
      obtain rfl := Option.some.inj h
      refine hKr _ ⟨_, rfl, [], _, rfl, rfl, ?_⟩
      first | rfl | (simp only [reduceCtorEq, Nat.reduceEqDiff, ak, akF]; done) | (simp [reduceCtorEq, Nat.reduceEqDiff, ak, akF]; done)
    · rintro x31 rfl
      dsimp only at h
      refine B8r _ ?_
      obtain rfl := Option.some.inj h
      refine hKr _ ⟨_, rfl, [], _, rfl, rfl, ?_⟩
      first | rfl | (simp only [reduceCtorEq, Nat.reduceEqDiff, ak, akF]; done) | (simp [reduceCtorEq, Nat.reduceEqDiff, ak, akF]; done)
/-! ### laws.eqReorderEvent: function 104 -/
def c104 : AC := .seq (.reg [.op none (.box 2 (.tmp 0)), .op none (.box 3 (.tmp 1)), .op none (.mv 4 (.const (.bool false))), .keep [2, 3]]) (.seq (.seq (.reg [.op none (.faddr 5 0 (.tmp 2)), .op none (.load 6 false 1 (.tmp 5)), .op none (.faddr 7 0 (.tmp 3)), .op none (.load 8 false 1 (.tmp 7)), .op none (.bin 9 .neq (.tmp 6) (.tmp 8)), .keep [2, 3, 9]]) (.cond (.tmp 9) (.seq (.reg [.op none (.mv 4 (.const (.bool false))), .keep [4]]) (.ret)) (.skip))) (.seq (.seq (.reg [.op none (.faddr 10 1 (.tmp 2)), .op none (.load 11 false 1 (.tmp 10)), .op none (.faddr 12 1 (.tmp 3)), .op none (.load 13 false 1 (.tmp 12)), .op none (.bin 14 .neq (.tmp 11) (.tmp 13)), .keep [2, 3, 14]]) (.cond (.tmp 14) (.seq (.reg [.op none (.mv 4 (.const (.bool false))), .keep [4]]) (.ret)) (.skip))) (.seq (.seq (.reg [.op none (.faddr 15 2 (.tmp 2)), .op none (.load 16 false 1 (.tmp 15)), .op none (.faddr 17 2 (.tmp 3)), .op none (.load 18 false 1 (.tmp 17)), .call none (some 19) 123 [.tmp 16, .tmp 18], .op none (.un 20 .not (.tmp 19)), .keep [2, 3, 20]]) (.cond (.tmp 20) (.seq (.reg [.op none (.mv 4 (.const (.bool false))), .keep [4]]) (.ret)) (.skip))) (.seq (.seq (.reg [.op none (.faddr 21 3 (.tmp 2)), .op none (.load 22 false 1 (.tmp 21)), .op none (.faddr 23 3 (.tmp 3)), .op none (.load 24 false 1 (.tmp 23)), .op none (.bin 25 .neq (.tmp 22) (.tmp 24)), .keep [25]]) (.cond (.tmp 25) (.seq (.reg [.op none (.mv 4 (.const (.bool false))), .keep [4]]) (.ret)) (.skip))) (.seq (.reg [.op none (.mv 4 (.const (.bool true))), .keep [4]]) (.ret))))))
def r104 : List RV := [.tmp 4]
theorem k104 : compC Try.prog 26 (Try.f104.body.getD .skip) = some c104.erase := by kernel_rfl
theorem q104 : rvsOf Try.prog Try.f104.results.toList = some r104 := by kernel_rfl
def laws_eqReorderEvent.f (a0_0 : Int) (a0_1 : Int) (l0_2 : List Int) (a0_3 : Int) (a1_0 : Int) (a1_1 : Int) (l1_2 : List Int) (a1_3 : Int) : Option Bool := (if a0_0 ≠ a1_0 then (some false) else (if a0_1 ≠ a1_1 then (some false) else (laws_eqByteS.f l0_2 l1_2 >>= fun t12 => (if (!t12) = true then (some false) else (if a0_3 ≠ a1_3 then (some false) else (some true))))))
set_option maxRecDepth 100000 in
set_option maxHeartbeats 4000000 in
theorem laws_eqReorderEvent.tri (cs0 : List Cell) (o0 : Nat) (l0_2 : List Int) (hv0 : Vw c_u8 1 cs0 o0 l0_2) (cs1 : List Cell) (o1 : Nat) (l1_2 : List Int) (hv1 : Vw c_u8 1 cs1 o1 l1_2) (a0_0 : Int) (a0_1 : Int) (a0_3 : Int) (a1_0 : Int) (a1_1 : Int) (a1_3 : Int) (r : Bool) (h : laws_eqReorderEvent.f a0_0 a0_1 l0_2 a0_3 a1_0 a1_1 l1_2 a1_3 = some r) : Tri Try.prog 104 [.g [.sc (.int .i64 a0_0), .sc (.int .u64 a0_1), .ref (.arg 0) [] o0 l0_2.length, .sc (.int .i64 a0_3)], .g [.sc (.int .i64 a1_0), .sc (.int .u64 a1_1), .ref (.arg 1) [] o1 l1_2.length, .sc (.int .i64 a1_3)]] [(.arg 0, ⟨.fz, 1, cs0⟩), (.arg 1, ⟨.fz, 1, cs1⟩)] (fun o => o = ⟨.c (.sc (.bool r)), [(.arg 0, ⟨.fz, 1, cs0⟩), (.arg 1, ⟨.fz, 1, cs1⟩)], [], []⟩) := by
  refine tri_of_body (ac := c104) (xs := r104) Try.func104 (show Try.f104.body = some (Try.f104.body.getD .skip) from rfl) k104 q104 (Nat.le_of_ble_eq_true rfl) ?_
  refine body_of fun K hKn hKr => ?_
  unfold laws_eqReorderEvent.f at h
  unfold c104
  simp only [initT, Nat.reduceAdd]
  refine seq_k fun J1 hJ1 => ?_
  refine reg_k ?_
  simp only [Nat.reduceEqDiff, Nat.reduceAdd, Nat.reduceMul, Nat.reduceLeDiff, Nat.reduceLT, Int.reduceLE, Int.reduceLT, Int.reduceGT, Int.reduceGE, Int.reduceEq, Int.reduceNe, Int.reduceToNat, reduceCtorEq, ak]
  refine hJ1 _ ?_
  refine seq_k fun J2 hJ2 => ?_
  refine seq_k fun J3 hJ3 => ?_
  refine reg_k ?_
  simp only [Nat.reduceEqDiff, Nat.reduceAdd, Nat.reduceMul, Nat.reduceLeDiff, Nat.reduceLT, Int.reduceLE, Int.reduceLT, Int.reduceGT, Int.reduceGE, Int.reduceEq, Int.reduceNe, Int.reduceToNat, reduceCtorEq, ak]
  refine hJ3 _ ?_
  refine cond_k (b := decide (a0_0 ≠ a1_0)) rfl (fun c4 => ?_) (fun c4 => ?_)
  · replace c4 := of_decide_eq_true c4; rw [if_pos c4] at h
    refine seq_k fun J5 hJ5 => ?_
    refine reg_k ?_
    simp only [Nat.reduceEqDiff, Nat.reduceAdd, Nat.reduceMul, Nat.reduceLeDiff, Nat.reduceLT, Int.reduceLE, Int.reduceLT, Int.reduceGT, Int.reduceGE, Int.reduceEq, Int.reduceNe, Int.reduceToNat, reduceCtorEq, ak]
    refine hJ5 _ ?_
    obtain rfl := Option.some.inj h
    refine hKr _ ⟨_, rfl, [], _, rfl, rfl, ?_⟩
    first | rfl | (simp only [reduceCtorEq, Nat.reduceEqDiff, ak, akF]; done) | (simp [reduceCtorEq, Nat.reduceEqDiff, ak, akF]; done)
  · replace c4 := of_decide_eq_false c4; rw [if_neg c4] at h
    refine hJ2 _ ?_
    refine seq_k fun J6 hJ6 => ?_
    refine seq_k fun J7 hJ7 => ?_
    refine reg_k ?_
    simp only [Nat.reduceEqDiff, Nat.reduceAdd, Nat.reduceMul, Nat.reduceLeDiff, Nat.reduceLT, Int.reduceLE, Int.reduceLT, Int.reduceGT, Int.reduceGE, Int.reduceEq, Int.reduceNe, Int.reduceToNat, reduceCtorEq, ak]
    refine hJ7 _ ?_
    refine cond_k (b := decide (a0_1 ≠ a1_1)) rfl (fun c8 => ?_) (fun c8 => ?_)
    · replace c8 := of_decide_eq_true c8; rw [if_pos c8] at h
      refine seq_k fun J9 hJ9 => ?_
      refine reg_k ?_
      simp only [Nat.reduceEqDiff, Nat.reduceAdd, Nat.reduceMul, Nat.reduceLeDiff, Nat.reduceLT, Int.reduceLE, Int.reduceLT, Int.reduceGT, Int.reduceGE, Int.reduceEq, Int.reduceNe, Int.reduceToNat, reduceCtorEq, ak]
      refine hJ9 _ ?_
      obtain rfl := Option.some.inj h
      refine hKr _ ⟨_, rfl, [], _, rfl, rfl, ?_⟩
      first | rfl | (simp only [reduceCtorEq, Nat.reduceEqDiff, ak, akF]; done) | (simp [reduceCtorEq, Nat.reduceEqDiff, ak, akF]; done)
    · replace c8 := of_decide_eq_false c8; rw [if_neg c8] at h
      refine hJ6 _ ?_
      refine seq_k fun J10 hJ10 => ?_
      refine seq_k fun J11 hJ11 => ?_
      refine reg_k ?_
      simp only [Nat.reduceEqDiff, Nat.reduceAdd, Nat.reduceMul, Nat.reduceLeDiff, Nat.reduceLT, Int.reduceLE, Int.reduceLT, Int.reduceGT, Int.reduceGE, Int.reduceEq, Int.reduceNe, Int.reduceToNat, reduceCtorEq, ak]
      obtain ⟨t12, h13, h⟩ := of_bind h
      refine call_m [(.arg 0, ⟨(.arg 0), [], none, .fz⟩), (.arg 1, ⟨(.arg 1), [], none, .fz⟩)] (s0 := [(.arg 0, ⟨.fz, 1, cs0⟩), (.arg 1, ⟨.fz, 1, cs1⟩)]) (by intro t ht; cases ht; decide) rfl rfl (by first | rfl | simp only [reduceCtorEq, Nat.reduceEqDiff, ak, akF]) (laws_eqByteS.tri (cs0) o0 l0_2 hv0 (cs1) o1 l1_2 hv1 _ h13) (by first | rfl | simp only [reduceCtorEq, Nat.reduceEqDiff, ak, akF]) (by simp [bkOk2, memK]) (fun hl13 => ?_)
      refine call_st (s4 := [(.arg 0, ⟨.fz, 1, cs0⟩), (.arg 1, ⟨.fz, 1, cs1⟩), (.tmp 2 0, ⟨.box, 0, [.sc (.int .i64 a0_0), .sc (.int .u64 a0_1), .ref (.arg 0) [] o0 l0_2.length, .sc (.int .i64 a0_3)]⟩), (.tmp 3 0, ⟨.box, 0, [.sc (.int .i64 a1_0), .sc (.int .u64 a1_1), .ref (.arg 1) [] o1 l1_2.length, .sc (.int .i64 a1_3)]⟩)]) (m1' := []) (m2' := []) (v' := .c (.sc (.bool t12))) (Sto.mapN_killNil _ _) (mrgL_fz (mrgL_fz (mrgL_nil' _ _ _) rfl (by first | rfl | simp only [reduceCtorEq, Nat.reduceEqDiff, ak]) rfl (by intro R hR hh; cases hR; cases hh.2)) rfl (by first | rfl | simp only [reduceCtorEq, Nat.reduceEqDiff, ak]) rfl (by intro R hR hh; cases hR; cases hh.2)) (by rfl) (mapT_killNil _ _) (by rfl) (by rfl) (by first | rfl | simp only [reduceCtorEq, Nat.reduceEqDiff, ak, akF, Nat.zero_add, List.append_nil]) ?_
      simp only [Nat.reduceEqDiff, Nat.reduceAdd, Nat.reduceMul, Nat.reduceLeDiff, Nat.reduceLT, Int.reduceLE, Int.reduceLT, Int.reduceGT, Int.reduceGE, Int.reduceEq, Int.reduceNe, Int.reduceToNat, reduceCtorEq, ak]
      refine hJ11 _ ?_
      refine cond_k (b := !t12) rfl (fun c15 => ?_) (fun c15 => ?_)
      · rw [if_pos c15] at h
        refine seq_k fun J16 hJ16 => ?_
        refine reg_k ?_
        simp only [Nat.reduceEqDiff, Nat.reduceAdd, Nat.reduceMul, Nat.reduceLeDiff, Nat.reduceLT, Int.reduceLE, Int.reduceLT, Int.reduceGT, Int.reduceGE, Int.reduceEq, Int.reduceNe, Int.reduceToNat, reduceCtorEq, ak]
        refine hJ16 _ ?_
        obtain rfl := Option.some.inj h
        refine hKr _ ⟨_, rfl, [], _, rfl, rfl, ?_⟩
        first | rfl | (simp only [reduceCtorEq, Nat.reduceEqDiff, ak, akF]; done) | (simp [reduceCtorEq, Nat.reduceEqDiff, ak, akF]; done)
      · rw [if_neg (Bool.eq_false_iff.1 c15)] at h
        refine hJ10 _ ?_
        refine seq_k fun J17 hJ17 => ?_
        refine seq_k fun J18 hJ18 => ?_
        refine reg_k ?_
        simp only [Nat.reduceEqDiff, Nat.reduceAdd, Nat.reduceMul, Nat.reduceLeDiff, Nat.reduceLT, Int.reduceLE, Int.reduceLT, Int.reduceGT, Int.reduceGE, Int.reduceEq, Int.reduceNe, Int.reduceToNat, reduceCtorEq, ak]
        refine hJ18 _ ?_
        refine cond_k (b := decide (a0_3 ≠ a1_3)) rfl (fun c19 => ?_) (fun c19 => ?_)
        · replace c19 := of_decide_eq_true c19; rw [if_pos c19] at h
          refine seq_k fun J20 hJ20 => ?_
          refine reg_k ?_
          simp only [Nat.reduceEqDiff, Nat.reduceAdd, Nat.reduceMul, Nat.reduceLeDiff, Nat.reduceLT, Int.reduceLE, Int.reduceLT, Int.reduceGT, Int.reduceGE, Int.reduceEq, Int.reduceNe, Int.reduceToNat, reduceCtorEq, ak]
          refine hJ20 _ ?_
          obtain rfl := Option.some.inj h
          refine hKr _ ⟨_, rfl, [], _, rfl, rfl, ?_⟩
          first | rfl | (simp only [reduceCtorEq, Nat.reduceEqDiff, ak, akF]; done) | (simp [reduceCtorEq, Nat.reduceEqDiff, ak, akF]; done)
        · replace c19 := of_decide_eq_false c19; rw [if_neg c19] at h
          refine hJ17 _ ?_
          refine seq_k fun J21 hJ21 => ?_
          refine reg_k ?_
          simp only [Nat.reduceEqDiff, Nat.reduceAdd, Nat.reduceMul, Nat.reduceLeDiff, Nat.reduceLT, Int.reduceLE, Int.reduceLT, Int.reduceGT, Int.reduceGE, Int.reduceEq, Int.reduceNe, Int.reduceToNat, reduceCtorEq, ak]
          refine hJ21 _ ?_
          obtain rfl := Option.some.inj h
          refine hKr _ ⟨_, rfl, [], _, rfl, rfl, ?_⟩
          first | rfl | (simp only [reduceCtorEq, Nat.reduceEqDiff, ak, akF]; done) | (simp [reduceCtorEq, Nat.reduceEqDiff, ak, akF]; done)
/-! ### laws.eqReorderEventS: function 52 -/
def c52_l0 : AC := .seq (.seq (.reg [.op none (.mv 11 (.tmp 5)), .op none (.mv 12 (.tmp 0)), .op none (.len 13 (.tmp 12)), .op none (.bin 14 .lss (.tmp 11) (.tmp 13)), .keep [0, 1, 5, 14]]) (.cond (.tmp 14) (.skip) (.gh (.exit 0)))) (.seq (.block 1 (.seq (.regD (.first (.op none (.mv 17 (.tmp 0))) (.first (.op none (.mv 18 (.tmp 5))) (.first (.op none (.iaddr 19 4 (.tmp 17) (.tmp 18))) (.first (.op none (.load 20 true 4 (.tmp 19))) (.first (.op none (.mv 21 (.tmp 1))) (.first (.op none (.mv 22 (.tmp 5))) (.first (.op none (.iaddr 23 4 (.tmp 21) (.tmp 22))) (.first (.op none (.load 24 true 4 (.tmp 23))) (.alt (.call none (some 25) 104 [.tmp 20, .tmp 24]) (.first (.op none (.un 26 .not (.tmp 25))) (.done)) (.stop)))))))))) [0, 1, 5, 26]) (.cond (.tmp 26) (.seq (.reg [.op none (.mv 4 (.const (.bool false))), .keep [4]]) (.gh .ret)) (.skip)))) (.reg [.op none (.mv 15 (.tmp 5)), .op none (.bin 16 .add (.tmp 15) (.const (.int .i64 1))), .op none (.mv 5 (.tmp 16)), .keep [0, 1, 5]]))
def c52 : AC := .seq (.reg [.op none (.mv 4 (.const (.bool false))), .keep [0, 1]]) (.seq (.seq (.reg [.op none (.mv 6 (.tmp 0)), .op none (.len 7 (.tmp 6)), .op none (.mv 8 (.tmp 1)), .op none (.len 9 (.tmp 8)), .op none (.bin 10 .neq (.tmp 7) (.tmp 9)), .keep [0, 1, 10]]) (.cond (.tmp 10) (.seq (.reg [.op none (.mv 4 (.const (.bool false))), .keep [4]]) (.ret)) (.skip))) (.seq (.seq (.reg [.op none (.mv 5 (.const (.int .i64 0))), .keep [0, 1, 5]]) (.block 0 (.gh (.loop (.ga c52_l0))))) (.seq (.reg [.op none (.mv 4 (.const (.bool true))), .keep [4]]) (.ret))))
def r52 : List RV := [.tmp 4]
theorem k52 : compC Try.prog 27 (Try.f52.body.getD .skip) = some c52.erase := by kernel_rfl
theorem q52 : rvsOf Try.prog Try.f52.results.toList = some r52 := by kernel_rfl
def laws_eqReorderEventS.l0 (l0 : List S116) (l1 : List S116) (x0_0 : Int) : Option (Lp Unit Bool) := (if x0_0 < (l0.length : Int) then (if 0 ≤ x0_0 ∧ x0_0 < (l0.length : Int) then (if 0 ≤ x0_0 ∧ x0_0 < (l1.length : Int) then (laws_eqReorderEvent.f ((rd z116 l0 x0_0).f0) ((rd z116 l0 x0_0).f1) ((rd z116 l0 x0_0).f2) ((rd z116 l0 x0_0).f3) ((rd z116 l1 x0_0).f0) ((rd z116 l1 x0_0).f1) ((rd z116 l1 x0_0).f2) ((rd z116 l1 x0_0).f3) >>= fun t21 => (if (!t21) = true then (some (.b false)) else (laws_eqReorderEventS.l0 l0 l1 (IntKind.i64.wrap (x0_0 + 1))))) else none) else none) else (some (.a ())))
  partial_fixpoint
def laws_eqReorderEventS.f (l0 : List S116) (l1 : List S116) : Option Bool := (if (l0.length : Int) ≠ (l1.length : Int) then (some false) else (laws_eqReorderEventS.l0 l0 l1 0 >>= fun (y29 : Lp Unit Bool) => match y29 with | .a x31 => (some true) | .b x31 => (some x31)))
set_option maxRecDepth 100000 in
set_option maxHeartbeats 4000000 in
theorem laws_eqReorderEventS.l0_walk (cs0 : List Cell) (o0 : Nat) (l0 : List S116) (hv0 : Vw c116 4 cs0 o0 l0) (cs1 : List Cell) (o1 : Nat) (l1 : List S116) (hv1 : Vw c116 4 cs1 o1 l1) (x0_0 : Int) (y : Lp Unit Bool) (h : laws_eqReorderEventS.l0 l0 l1 x0_0 = some y) (K : AE → St → Prop) (hx0 : ∀ x, y = .a x → K (.exit 0) ⟨[], [(.arg 0, ⟨.fz, 4, cs0⟩), (.arg 1, ⟨.fz, 4, cs1⟩)], [], []⟩) (hx1 : ∀ x, y = .b x → K .ret ⟨[(4, .c (.sc (.bool x)))], [(.arg 0, ⟨.fz, 4, cs0⟩), (.arg 1, ⟨.fz, 4, cs1⟩)], [], []⟩) : loopS Try.prog 27 (.ga c52_l0) K ⟨[(0, .c (.ref (.arg 0) [] o0 l0.length)), (1, .c (.ref (.arg 1) [] o1 l1.length)), (5, .c (.sc (.int .i64 x0_0)))], [(.arg 0, ⟨.fz, 4, cs0⟩), (.arg 1, ⟨.fz, 4, cs1⟩)], [], []⟩ := by
  refine laws_eqReorderEventS.l0.partial_correctness l0 l1 (motive := fun x0_0 y => ∀ (K : AE → St → Prop), (∀ x, y = .a x → K (.exit 0) ⟨[], [(.arg 0, ⟨.fz, 4, cs0⟩), (.arg 1, ⟨.fz, 4, cs1⟩)], [], []⟩) → (∀ x, y = .b x → K .ret ⟨[(4, .c (.sc (.bool x)))], [(.arg 0, ⟨.fz, 4, cs0⟩), (.arg 1, ⟨.fz, 4, cs1⟩)], [], []⟩) → loopS Try.prog 27 (.ga c52_l0) K ⟨[(0, .c (.ref (.arg 0) [] o0 l0.length)), (1, .c (.ref (.arg 1) [] o1 l1.length)), (5, .c (.sc (.int .i64 x0_0)))], [(.arg 0, ⟨.fz, 4, cs0⟩), (.arg 1, ⟨.fz, 4, cs1⟩)], [], []⟩) ?_ x0_0 y h K hx0 hx1
  clear h hx0 hx1
  intro rec ih x0_0 y h K hx0 hx1
  refine loop_unroll (ga_k fun G0 G0n G0r G0x => ?_)
  unfold c52_l0
  refine seq_k fun J9 hJ9 => ?_
  refine seq_k fun J10 hJ10 => ?_
  refine reg_k ?_
  simp only [Nat.reduceEqDiff, Nat.reduceAdd, Nat.reduceMul, Nat.reduceLeDiff, Nat.reduceLT, Int.reduceLE, Int.reduceLT, Int.reduceGT, Int.reduceGE, Int.reduceEq, Int.reduceNe, Int.reduceToNat, reduceCtorEq, ak]
  refine hJ10 _ ?_
  refine cond_k (b := decide (x0_0 < (l0.length : Int))) rfl (fun c11 => ?_) (fun c11 => ?_)
  · replace c11 := of_decide_eq_true c11; rw [if_pos c11] at h
    refine hJ9 _ ?_
    refine seq_k fun J12 hJ12 => ?_
    refine block_k fun B13 B13n B13x B13r B13j => ?_
    refine seq_k fun J14 hJ14 => ?_
    refine regD_k ?_
    obtain ⟨b15, h⟩ := of_guard h
    have g16 : (List.drop (o0 + x0_0.toNat * 4) (cs0)).take 4 = [.sc (.int .i64 ((rd z116 l0 x0_0).f0)), .sc (.int .u64 ((rd z116 l0 x0_0).f1)), .own 1 (((rd z116 l0 x0_0).f2).length) (encL c_u8 ((rd z116 l0 x0_0).f2)), .sc (.int .i64 ((rd z116 l0 x0_0).f3))] := hv0.stretch z116 b15.1 b15.2
    obtain ⟨b17, h⟩ := of_guard h
    have g18 : (List.drop (o1 + x0_0.toNat * 4) (cs1)).take 4 = [.sc (.int .i64 ((rd z116 l1 x0_0).f0)), .sc (.int .u64 ((rd z116 l1 x0_0).f1)), .own 1 (((rd z116 l1 x0_0).f2).length) (encL c_u8 ((rd z116 l1 x0_0).f2)), .sc (.int .i64 ((rd z116 l1 x0_0).f3))] := hv1.stretch z116 b17.1 b17.2
    simp only [Nat.reduceEqDiff, Nat.reduceAdd, Nat.reduceMul, Nat.reduceLeDiff, Nat.reduceLT, Int.reduceLE, Int.reduceLT, Int.reduceGT, Int.reduceGE, Int.reduceEq, Int.reduceNe, Int.reduceToNat, reduceCtorEq, ak, b15, g16, b17, g18]
    obtain ⟨t21, h22, h⟩ := of_bind h
    refine alt_k ?_ trivial
    · simp only [Nat.reduceEqDiff, Nat.reduceAdd, Nat.reduceMul, Nat.reduceLeDiff, Nat.reduceLT, Int.reduceLE, Int.reduceLT, Int.reduceGT, Int.reduceGE, Int.reduceEq, Int.reduceNe, Int.reduceToNat, reduceCtorEq, ak]
      have g24 : (cs0)[o0 + x0_0.toNat * 4 + 1 + 1]? = some (.own 1 (((rd z116 l0 x0_0).f2).length) (encL c_u8 ((rd z116 l0 x0_0).f2))) := hv0.get z116 2 b15.1 b15.2 (by decide)
      have g25 : (cs1)[o1 + x0_0.toNat * 4 + 1 + 1]? = some (.own 1 (((rd z116 l1 x0_0).f2).length) (encL c_u8 ((rd z116 l1 x0_0).f2))) := hv1.get z116 2 b17.1 b17.2 (by decide)
      refine call_m [(.arg 0, ⟨(.arg 0), [o0 + x0_0.toNat * 4 + 1 + 1], none, .fz⟩), (.arg 1, ⟨(.arg 1), [o1 + x0_0.toNat * 4 + 1 + 1], none, .fz⟩)] (s0 := [(.arg 0, ⟨.fz, 1, encL c_u8 ((rd z116 l0 x0_0).f2)⟩), (.arg 1, ⟨.fz, 1, encL c_u8 ((rd z116 l1 x0_0).f2)⟩)]) (by intro t ht; cases ht; decide) rfl rfl (by first | rfl | simp only [reduceCtorEq, Nat.reduceEqDiff, ak, akF, b15, b17, g16, g18, g24, g25]) (laws_eqReorderEvent.tri (encL c_u8 ((rd z116 l0 x0_0).f2)) 0 ((rd z116 l0 x0_0).f2) (Vw.whole c_u8_w ((rd z116 l0 x0_0).f2)) (encL c_u8 ((rd z116 l1 x0_0).f2)) 0 ((rd z116 l1 x0_0).f2) (Vw.whole c_u8_w ((rd z116 l1 x0_0).f2)) ((rd z116 l0 x0_0).f0) ((rd z116 l0 x0_0).f1) ((rd z116 l0 x0_0).f3) ((rd z116 l1 x0_0).f0) ((rd z116 l1 x0_0).f1) ((rd z116 l1 x0_0).f3) _ h22) (by first | rfl | simp only [reduceCtorEq, Nat.reduceEqDiff, ak, akF]) (by simp [bkOk2, memK]) (fun hl25 => ?_)
      refine call_st (s4 := [(.arg 0, ⟨.fz, 4, cs0⟩), (.arg 1, ⟨.fz, 4, cs1⟩)]) (m1' := []) (m2' := []) (v' := .c (.sc (.bool t21))) (Sto.mapN_killNil _ _) (mrgL_fz (mrgL_fz (mrgL_nil' _ _ _) rfl (by first | rfl | simp only [reduceCtorEq, Nat.reduceEqDiff, ak, b15, b17, g16, g18, g24, g25]) rfl (by intro R hR hh; cases hh.1)) rfl (by first | rfl | simp only [reduceCtorEq, Nat.reduceEqDiff, ak, b15, b17, g16, g18, g24, g25]) rfl (by intro R hR hh; cases hh.1)) (by rfl) (mapT_killNil _ _) (by rfl) (by rfl) (by first | rfl | simp only [reduceCtorEq, Nat.reduceEqDiff, ak, akF, Nat.zero_add, List.append_nil, b15, b17]) ?_
      simp only [Nat.reduceEqDiff, Nat.reduceAdd, Nat.reduceMul, Nat.reduceLeDiff, Nat.reduceLT, Int.reduceLE, Int.reduceLT, Int.reduceGT, Int.reduceGE, Int.reduceEq, Int.reduceNe, Int.reduceToNat, reduceCtorEq, ak, b15, g24, b17, g25]
      refine hJ14 _ ?_
      refine cond_k (b := !t21) rfl (fun c27 => ?_) (fun c27 => ?_)
      · rw [if_pos c27] at h
        refine seq_k fun J28 hJ28 => ?_
        refine reg_k ?_
        simp only [Nat.reduceEqDiff, Nat.reduceAdd, Nat.reduceMul, Nat.reduceLeDiff, Nat.reduceLT, Int.reduceLE, Int.reduceLT, Int.reduceGT, Int.reduceGE, Int.reduceEq, Int.reduceNe, Int.reduceToNat, reduceCtorEq, ak]
        refine hJ28 _ ?_
        obtain rfl := Option.some.inj h
        refine gh_k (st' := ⟨[(4, .c (.sc (.bool false)))], [(.arg 0, ⟨.fz, 4, cs0⟩), (.arg 1, ⟨.fz, 4, cs1⟩)], [], []⟩) (((Weak.keep [4]).trans ((Weak.foc [(.arg 0, ⟨(.arg 0), [], none, .fz⟩), (.arg 1, ⟨(.arg 1), [], none, .fz⟩)] rfl (by first | rfl | simp only [reduceCtorEq, Nat.reduceEqDiff, ak, akF, b15, b17]) (by simp [argK, akG, ak])).trans (Weak.of_eq (by first | rfl | (simp only [reduceCtorEq, Nat.reduceEqDiff, ak, akF, b15, b17]; done) | (simp [reduceCtorEq, Nat.reduceEqDiff, ak, akF, b15, b17]; done)))))) ?_
        refine B13r _ ?_
        refine G0r _ ?_
        exact hx1 _ rfl
      · rw [if_neg (Bool.eq_false_iff.1 c27)] at h
        refine B13n _ ?_
        refine hJ12 _ ?_
        refine reg_k ?_
        simp only [Nat.reduceEqDiff, Nat.reduceAdd, Nat.reduceMul, Nat.reduceLeDiff, Nat.reduceLT, Int.reduceLE, Int.reduceLT, Int.reduceGT, Int.reduceGE, Int.reduceEq, Int.reduceNe, Int.reduceToNat, reduceCtorEq, ak]
        refine G0n _ (⟨[(0, .c (.ref (.arg 0) [] o0 l0.length)), (1, .c (.ref (.arg 1) [] o1 l1.length)), (5, .c (.sc (.int .i64 (IntKind.i64.wrap (x0_0 + 1)))))], [(.arg 0, ⟨.fz, 4, cs0⟩), (.arg 1, ⟨.fz, 4, cs1⟩)], [], []⟩) (((Weak.keep [0, 1, 5]).trans ((Weak.foc [(.arg 0, ⟨(.arg 0), [], none, .fz⟩), (.arg 1, ⟨(.arg 1), [], none, .fz⟩)] rfl (by first | rfl | simp only [reduceCtorEq, Nat.reduceEqDiff, ak, akF, b15, b17]) (by simp [argK, akG, ak])).trans (Weak.of_eq (by first | rfl | (simp only [reduceCtorEq, Nat.reduceEqDiff, ak, akF, b15, b17]; done) | (simp [reduceCtorEq, Nat.reduceEqDiff, ak, akF, b15, b17]; done)))))) (ih _ _ h K hx0 hx1)
  · replace c11 := of_decide_eq_false c11; rw [if_neg c11] at h
    obtain rfl := Option.some.inj h
    refine gh_k (st' := ⟨[], [(.arg 0, ⟨.fz, 4, cs0⟩), (.arg 1, ⟨.fz, 4, cs1⟩)], [], []⟩) (((Weak.keep []).trans ((Weak.foc [(.arg 0, ⟨(.arg 0), [], none, .fz⟩), (.arg 1, ⟨(.arg 1), [], none, .fz⟩)] rfl (by first | rfl | simp only [reduceCtorEq, Nat.reduceEqDiff, ak, akF]) (by simp [argK, akG, ak])).trans (Weak.of_eq (by first | rfl | (simp only [reduceCtorEq, Nat.reduceEqDiff, ak, akF]; done) | (simp [reduceCtorEq, Nat.reduceEqDiff, ak, akF]; done)))))) ?_
    refine G0x _ _ ?_
    exact hx0 _ rfl
set_option maxRecDepth 100000 in
set_option maxHeartbeats 4000000 in
theorem laws_eqReorderEventS.tri (cs0 : List Cell) (o0 : Nat) (l0 : List S116) (hv0 : Vw c116 4 cs0 o0 l0) (cs1 : List Cell) (o1 : Nat) (l1 : List S116) (hv1 : Vw c116 4 cs1 o1 l1) (r : Bool) (h : laws_eqReorderEventS.f l0 l1 = some r) : Tri Try.prog 52 [.c (.ref (.arg 0) [] o0 l0.length), .c (.ref (.arg 1) [] o1 l1.length)] [(.arg 0, ⟨.fz, 4, cs0⟩), (.arg 1, ⟨.fz, 4, cs1⟩)] (fun o => o = ⟨.c (.sc (.bool r)), [(.arg 0, ⟨.fz, 4, cs0⟩), (.arg 1, ⟨.fz, 4, cs1⟩)], [], []⟩) := by
  refine tri_of_body (ac := c52) (xs := r52) Try.func52 (show Try.f52.body = some (Try.f52.body.getD .skip) from rfl) k52 q52 (Nat.le_of_ble_eq_true rfl) ?_
  refine body_of fun K hKn hKr => ?_
  unfold laws_eqReorderEventS.f at h
  unfold c52
  simp only [initT, Nat.reduceAdd]
  refine seq_k fun J1 hJ1 => ?_
  refine reg_k ?_
  simp only [Nat.reduceEqDiff, Nat.reduceAdd, Nat.reduceMul, Nat.reduceLeDiff, Nat.reduceLT, Int.reduceLE, Int.reduceLT, Int.reduceGT, Int.reduceGE, Int.reduceEq, Int.reduceNe, Int.reduceToNat, reduceCtorEq, ak]
  refine hJ1 _ ?_
  refine seq_k fun J2 hJ2 => ?_
  refine seq_k fun J3 hJ3 => ?_
  refine reg_k ?_
  simp only [Nat.reduceEqDiff, Nat.reduceAdd, Nat.reduceMul, Nat.reduceLeDiff, Nat.reduceLT, Int.reduceLE, Int.reduceLT, Int.reduceGT, Int.reduceGE, Int.reduceEq, Int.reduceNe, Int.reduceToNat, reduceCtorEq, ak]
  refine hJ3 _ ?_
  refine cond_k (b := decide ((l0.length : Int) ≠ (l1.length : Int))) rfl (fun c4 => ?_) (fun c4 => ?_)
  · replace c4 := of_decide_eq_true c4; rw [if_pos c4] at h
    refine seq_k fun J5 hJ5 => ?_
    refine reg_k ?_
    simp only [Nat.reduceEqDiff, Nat.reduceAdd, Nat.reduceMul, Nat.reduceLeDiff, Nat.reduceLT, Int.reduceLE, Int.reduceLT, Int.reduceGT, Int.reduceGE, Int.reduceEq, Int.reduceNe, Int.reduceToNat, reduceCtorEq, ak]
    refine hJ5 _ ?_
    obtain rfl := Option.some.inj h
    refine hKr _ ⟨_, rfl, [], _, rfl, rfl, ?_⟩
    first | rfl | (simp only [reduceCtorEq, Nat.reduceEqDiff, ak, akF]; done) | (simp [reduceCtorEq, Nat.reduceEqDiff, ak, akF]; done)
  · replace c4 := of_decide_eq_false c4; rw [if_neg c4] at h
    refine hJ2 _ ?_
    refine seq_k fun J6 hJ6 => ?_
    refine seq_k fun J7 hJ7 => ?_
    refine reg_k ?_
    simp only [Nat.reduceEqDiff, Nat.reduceAdd, Nat.reduceMul, Nat.reduceLeDiff, Nat.reduceLT, Int.reduceLE, Int.reduceLT, Int.reduceGT, Int.reduceGE, Int.reduceEq, Int.reduceNe, Int.reduceToNat, reduceCtorEq, ak]
    refine hJ7 _ ?_
    refine block_k fun B8 B8n B8x B8r B8j => ?_
    obtain ⟨y29, h30, h⟩ := of_bind h
    refine gh_k (st' := ⟨[(0, .c (.ref (.arg 0) [] o0 l0.length)), (1, .c (.ref (.arg 1) [] o1 l1.length)), (5, .c (.sc (.int .i64 0)))], [(.arg 0, ⟨.fz, 4, cs0⟩), (.arg 1, ⟨.fz, 4, cs1⟩)], [], []⟩) (((Weak.keep [0, 1, 5]).trans ((Weak.foc [(.arg 0, ⟨(.arg 0), [], none, .fz⟩), (.arg 1, ⟨(.arg 1), [], none, .fz⟩)] rfl (by first | rfl | simp only [reduceCtorEq, Nat.reduceEqDiff, ak, akF]) (by simp [argK, akG, ak])).trans (Weak.of_eq (by first | rfl | (simp only [reduceCtorEq, Nat.reduceEqDiff, ak, akF]; done) | (simp [reduceCtorEq, Nat.reduceEqDiff, ak, akF]; done)))))) ?_
    rw [e_loop]
    refine laws_eqReorderEventS.l0_walk cs0 o0 l0 hv0 cs1 o1 l1 hv1 0 _ h30 _ ?_ ?_
    · rintro x31 rfl
      dsimp only at h
      refine B8x _ ?_
      refine hJ6 _ ?_
      refine seq_k fun J32 hJ32 => ?_
      refine reg_k ?_
      simp only [Nat.reduceEqDiff, Nat.reduceAdd, Nat.reduceMul, Nat.reduceLeDiff, Nat.reduceLT, Int.reduceLE, Int.reduceLT, Int.reduceGT, Int.reduceGE, Int.reduceEq, Int.reduceNe, Int.reduceToNat, reduceCtorEq, ak]
      refine hJ32 _ ?_
      obtain rfl := Option.some.inj h
      refine hKr _ ⟨_, rfl, [], _, rfl, rfl, ?_⟩
      first | rfl | (simp only [reduceCtorEq, Nat.reduceEqDiff, ak, akF]; done) | (simp [reduceCtorEq, Nat.reduceEqDiff, ak, akF]; done)
    · rintro x31 rfl
      dsimp only at h
      refine B8r _ ?_
      obtain rfl := Option.some.inj h
      refine hKr _ ⟨_, rfl, [], _, rfl, rfl, ?_⟩
      first | rfl | (simp only [reduceCtorEq, Nat.reduceEqDiff, ak, akF]; done) | (simp [reduceCtorEq, Nat.reduceEqDiff, ak, akF]; done)
/-! ### laws.markByteS: function 78 -/
def c78_l0 : AC := .seq (.seq (.reg [.op none (.mv 6 (.tmp 5)), .op none (.mv 7 (.tmp 0)), .op none (.len 8 (.tmp 7)), .op none (.bin 9 .lss (.tmp 6) (.tmp 8)), .keep [0, 1, 5, 9]]) (.cond (.tmp 9) (.skip) (.gh (.exit 0)))) (.seq (.block 1 (.seq (.reg [.op none (.mv 12 (.tmp 0)), .op none (.mv 13 (.tmp 5)), .op none (.mv 14 (.tmp 1)), .op none (.conv 15 .u8 (.tmp 14)), .op none (.iaddr 16 1 (.tmp 12) (.tmp 13)), .op none (.store 1 (.tmp 16) (.tmp 15)), .keep [0, 1, 5]]) (.reg [.op none (.mv 17 (.tmp 1)), .op none (.bin 18 .add (.tmp 17) (.const (.int .i64 1))), .op none (.mv 1 (.tmp 18)), .keep [0, 1, 5]]))) (.reg [.op none (.mv 10 (.tmp 5)), .op none (.bin 11 .add (.tmp 10) (.const (.int .i64 1))), .op none (.mv 5 (.tmp 11)), .keep [0, 1, 5]]))
def c78 : AC := .seq (.reg [.op none (.mv 4 (.const (.int .i64 0))), .keep [0, 1]]) (.seq (.seq (.reg [.op none (.mv 5 (.const (.int .i64 0))), .keep [0, 1, 5]]) (.block 0 (.gh (.loop (.ga c78_l0))))) (.seq (.reg [.op none (.mv 19 (.tmp 1)), .op none (.mv 4 (.tmp 19)), .keep [4]]) (.ret)))
def r78 : List RV := [.tmp 4]
theorem k78 : compC Try.prog 20 (Try.f78.body.getD .skip) = some c78.erase := by kernel_rfl
theorem q78 : rvsOf Try.prog Try.f78.results.toList = some r78 := by kernel_rfl
def laws_markByteS.l0 (x0_0 : Int) (x0_1 : Int) (x0_2 : (List Int)) : Option (Int × (List Int)) := (if x0_1 < (x0_2.length : Int) then (if 0 ≤ x0_1 ∧ x0_1 < (x0_2.length : Int) then (laws_markByteS.l0 (IntKind.i64.wrap (x0_0 + 1)) (IntKind.i64.wrap (x0_1 + 1)) (x0_2.set x0_1.toNat (IntKind.u8.wrap x0_0))) else none) else (some (x0_0, x0_2)))
  partial_fixpoint
def laws_markByteS.f (l0 : List Int) (a1 : Int) : Option (Int × (List Int)) := (laws_markByteS.l0 a1 0 l0 >>= fun (y16 : (Int × (List Int))) => (some (y16.1, y16.2)))
set_option maxRecDepth 100000 in
set_option maxHeartbeats 4000000 in
theorem laws_markByteS.l0_walk (x0_0 : Int) (x0_1 : Int) (x0_2 : (List Int)) (y : (Int × (List Int))) (h : laws_markByteS.l0  x0_0 x0_1 x0_2 = some y) (K : AE → St → Prop) (hx0 : K (.exit 0) ⟨[(1, .c (.sc (.int .i64 y.1)))], [(.arg 0, ⟨.lst, 1, encL c_u8 y.2⟩)], [], []⟩) : loopS Try.prog 20 (.ga c78_l0) K ⟨[(0, .c (.ref (.arg 0) [] 0 x0_2.length)), (1, .c (.sc (.int .i64 x0_0))), (5, .c (.sc (.int .i64 x0_1)))], [(.arg 0, ⟨.lst, 1, encL c_u8 x0_2⟩)], [], []⟩ := by
  refine laws_markByteS.l0.partial_correctness  (motive := fun x0_0 x0_1 x0_2 y => ∀ (K : AE → St → Prop), (K (.exit 0) ⟨[(1, .c (.sc (.int .i64 y.1)))], [(.arg 0, ⟨.lst, 1, encL c_u8 y.2⟩)], [], []⟩) → loopS Try.prog 20 (.ga c78_l0) K ⟨[(0, .c (.ref (.arg 0) [] 0 x0_2.length)), (1, .c (.sc (.int .i64 x0_0))), (5, .c (.sc (.int .i64 x0_1)))], [(.arg 0, ⟨.lst, 1, encL c_u8 x0_2⟩)], [], []⟩) ?_ x0_0 x0_1 x0_2 y h K hx0
  clear h hx0
  intro rec ih x0_0 x0_1 x0_2 y h K hx0
  refine loop_unroll (ga_k fun G0 G0n G0r G0x => ?_)
  unfold c78_l0
  refine seq_k fun J5 hJ5 => ?_
  refine seq_k fun J6 hJ6 => ?_
  refine reg_k ?_
  simp only [Nat.reduceEqDiff, Nat.reduceAdd, Nat.reduceMul, Nat.reduceLeDiff, Nat.reduceLT, Int.reduceLE, Int.reduceLT, Int.reduceGT, Int.reduceGE, Int.reduceEq, Int.reduceNe, Int.reduceToNat, reduceCtorEq, ak]
  refine hJ6 _ ?_
  refine cond_k (b := decide (x0_1 < (x0_2.length : Int))) rfl (fun c7 => ?_) (fun c7 => ?_)
  · replace c7 := of_decide_eq_true c7; rw [if_pos c7] at h
    refine hJ5 _ ?_
    refine seq_k fun J8 hJ8 => ?_
    refine block_k fun B9 B9n B9x B9r B9j => ?_
    refine seq_k fun J10 hJ10 => ?_
    refine reg_k ?_
    obtain ⟨b11, h⟩ := of_guard h
    have g12 : 0 + x0_1.toNat * 1 + 1 ≤ (encL c_u8 x0_2).length := (Vw.whole c_u8_w x0_2).le b11.1 b11.2 (j := 0) (q := 1) (by decide)
    have g13 : 0 + x0_1.toNat * 1 < (encL c_u8 x0_2).length := (Vw.whole c_u8_w x0_2).lt b11.1 b11.2 (j := 0) (by decide)
    have g14 : (encL c_u8 x0_2)[0 + x0_1.toNat * 1]? = some (.sc (.int .u8 (rd 0 x0_2 x0_1))) := (Vw.whole c_u8_w x0_2).get 0 0 b11.1 b11.2 (by decide)
    have g15 : (encL c_u8 x0_2).set (0 + x0_1.toNat * 1) (.sc (.int .u8 (IntKind.u8.wrap x0_0))) = encL c_u8 (x0_2.set x0_1.toNat (IntKind.u8.wrap x0_0)) := encL_put c_u8_w 0 b11.1 b11.2 (j := 0) (by decide) rfl
    simp only [Nat.reduceEqDiff, Nat.reduceAdd, Nat.reduceMul, Nat.reduceLeDiff, Nat.reduceLT, Int.reduceLE, Int.reduceLT, Int.reduceGT, Int.reduceGE, Int.reduceEq, Int.reduceNe, Int.reduceToNat, reduceCtorEq, ak, b11, g12, g13, g14, g15]
    refine hJ10 _ ?_
    refine reg_k ?_
    simp only [Nat.reduceEqDiff, Nat.reduceAdd, Nat.reduceMul, Nat.reduceLeDiff, Nat.reduceLT, Int.reduceLE, Int.reduceLT, Int.reduceGT, Int.reduceGE, Int.reduceEq, Int.reduceNe, Int.reduceToNat, reduceCtorEq, ak]
    refine B9n _ ?_
    refine hJ8 _ ?_
    refine reg_k ?_
    simp only [Nat.reduceEqDiff, Nat.reduceAdd, Nat.reduceMul, Nat.reduceLeDiff, Nat.reduceLT, Int.reduceLE, Int.reduceLT, Int.reduceGT, Int.reduceGE, Int.reduceEq, Int.reduceNe, Int.reduceToNat, reduceCtorEq, ak]
    refine G0n _ (⟨[(0, .c (.ref (.arg 0) [] 0 ((x0_2.set x0_1.toNat (IntKind.u8.wrap x0_0)).length))), (1, .c (.sc (.int .i64 (IntKind.i64.wrap (x0_0 + 1))))), (5, .c (.sc (.int .i64 (IntKind.i64.wrap (x0_1 + 1)))))], [(.arg 0, ⟨.lst, 1, encL c_u8 (x0_2.set x0_1.toNat (IntKind.u8.wrap x0_0))⟩)], [], []⟩) (((Weak.keep [0, 1, 5]).trans ((Weak.foc [(.arg 0, ⟨(.arg 0), [], none, .lst⟩)] rfl (by first | rfl | simp only [reduceCtorEq, Nat.reduceEqDiff, ak, akF, b11]) (by simp [argK, akG, ak])).trans (Weak.of_eq (by first | rfl | (simp only [reduceCtorEq, Nat.reduceEqDiff, ak, akF, b11]; done) | (simp [reduceCtorEq, Nat.reduceEqDiff, ak, akF, b11]; done)))))) (ih _ _ _ _ h K hx0)
  · replace c7 := of_decide_eq_false c7; rw [if_neg c7] at h
    obtain rfl := Option.some.inj h
    refine gh_k (st' := ⟨[(1, .c (.sc (.int .i64 x0_0)))], [(.arg 0, ⟨.lst, 1, encL c_u8 x0_2⟩)], [], []⟩) (((Weak.keep [1]).trans ((Weak.foc [(.arg 0, ⟨(.arg 0), [], none, .lst⟩)] rfl (by first | rfl | simp only [reduceCtorEq, Nat.reduceEqDiff, ak, akF]) (by simp [argK, akG, ak])).trans (Weak.of_eq (by first | rfl | (simp only [reduceCtorEq, Nat.reduceEqDiff, ak, akF]; done) | (simp [reduceCtorEq, Nat.reduceEqDiff, ak, akF]; done)))))) ?_
    refine G0x _ _ ?_
    exact hx0
set_option maxRecDepth 100000 in
set_option maxHeartbeats 4000000 in
theorem laws_markByteS.tri (l0 : List Int) (a1 : Int) (r : Int × (List Int)) (h : laws_markByteS.f l0 a1 = some r) : Tri Try.prog 78 [.c (.ref (.arg 0) [] 0 l0.length), .c (.sc (.int .i64 a1))] [(.arg 0, ⟨.lst, 1, encL c_u8 l0⟩)] (fun o => o = ⟨.c (.sc (.int .i64 r.1)), [(.arg 0, ⟨.lst, 1, encL c_u8 r.2⟩)], [], []⟩) := by
  refine tri_of_body (ac := c78) (xs := r78) Try.func78 (show Try.f78.body = some (Try.f78.body.getD .skip) from rfl) k78 q78 (Nat.le_of_ble_eq_true rfl) ?_
  refine body_of fun K hKn hKr => ?_
  unfold laws_markByteS.f at h
  unfold c78
  simp only [initT, Nat.reduceAdd]
  refine seq_k fun J1 hJ1 => ?_
  refine reg_k ?_
  simp only [Nat.reduceEqDiff, Nat.reduceAdd, Nat.reduceMul, Nat.reduceLeDiff, Nat.reduceLT, Int.reduceLE, Int.reduceLT, Int.reduceGT, Int.reduceGE, Int.reduceEq, Int.reduceNe, Int.reduceToNat, reduceCtorEq, ak]
  refine hJ1 _ ?_
  refine seq_k fun J2 hJ2 => ?_
  refine seq_k fun J3 hJ3 => ?_
  refine reg_k ?_
  simp only [Nat.reduceEqDiff, Nat.reduceAdd, Nat.reduceMul, Nat.reduceLeDiff, Nat.reduceLT, Int.reduceLE, Int.reduceLT, Int.reduceGT, Int.reduceGE, Int.reduceEq, Int.reduceNe, Int.reduceToNat, reduceCtorEq, ak]
  refine hJ3 _ ?_
  refine block_k fun B4 B4n B4x B4r B4j => ?_
  obtain ⟨y16, h17, h⟩ := of_bind h
  refine gh_k (st' := ⟨[(0, .c (.ref (.arg 0) [] 0 l0.length)), (1, .c (.sc (.int .i64 a1))), (5, .c (.sc (.int .i64 0)))], [(.arg 0, ⟨.lst, 1, encL c_u8 l0⟩)], [], []⟩) (((Weak.keep [0, 1, 5]).trans ((Weak.foc [(.arg 0, ⟨(.arg 0), [], none, .lst⟩)] rfl (by first | rfl | simp only [reduceCtorEq, Nat.reduceEqDiff, ak, akF]) (by simp [argK, akG, ak])).trans (Weak.of_eq (by first | rfl | (simp only [reduceCtorEq, Nat.reduceEqDiff, ak, akF]; done) | (simp [reduceCtorEq, Nat.reduceEqDiff, ak, akF]; done)))))) ?_
  rw [e_loop]
  refine laws_markByteS.l0_walk a1 0 l0 _ h17 _ ?_
  refine B4x _ ?_
  refine hJ2 _ ?_
  refine seq_k fun J18 hJ18 => ?_
  refine reg_k ?_
  simp only [Nat.reduceEqDiff, Nat.reduceAdd, Nat.reduceMul, Nat.reduceLeDiff, Nat.reduceLT, Int.reduceLE, Int.reduceLT, Int.reduceGT, Int.reduceGE, Int.reduceEq, Int.reduceNe, Int.reduceToNat, reduceCtorEq, ak]
  refine hJ18 _ ?_
  obtain rfl := Option.some.inj h
  refine hKr _ ⟨_, rfl, [], _, rfl, rfl, ?_⟩
  first | rfl | (simp only [reduceCtorEq, Nat.reduceEqDiff, ak, akF]; done) | (simp [reduceCtorEq, Nat.reduceEqDiff, ak, akF]; done)
/-! ### laws.markReorderEventS: function 53 -/
def c53_l0 : AC := .seq (.seq (.reg [.op none (.mv 6 (.tmp 5)), .op none (.mv 7 (.tmp 0)), .op none (.len 8 (.tmp 7)), .op none (.bin 9 .lss (.tmp 6) (.tmp 8)), .keep [0, 1, 5, 9]]) (.cond (.tmp 9) (.skip) (.gh (.exit 0)))) (.seq (.block 1 (.seq (.reg [.op none (.mv 12 (.tmp 0)), .op none (.mv 13 (.tmp 5)), .op none (.mv 14 (.tmp 1)), .op none (.iaddr 15 4 (.tmp 12) (.tmp 13)), .op none (.faddr 16 0 (.tmp 15)), .op none (.store 1 (.tmp 16) (.tmp 14)), .keep [0, 1, 5]]) (.seq (.reg [.op none (.mv 17 (.tmp 1)), .op none (.bin 18 .add (.tmp 17) (.const (.int .i64 1))), .op none (.mv 1 (.tmp 18)), .keep [0, 1, 5]]) (.seq (.reg [.op none (.mv 19 (.tmp 0)), .op none (.mv 20 (.tmp 5)), .op none (.mv 21 (.tmp 1)), .op none (.conv 22 .u64 (.tmp 21)), .op none (.iaddr 23 4 (.tmp 19) (.tmp 20)), .op none (.faddr 24 1 (.tmp 23)), .op none (.store 1 (.tmp 24) (.tmp 22)), .keep [0, 1, 5]]) (.seq (.reg [.op none (.mv 25 (.tmp 1)), .op none (.bin 26 .add (.tmp 25) (.const (.int .i64 1))), .op none (.mv 1 (.tmp 26)), .keep [0, 1, 5]]) (.seq (.reg [.op none (.mv 27 (.tmp 0)), .op none (.mv 28 (.tmp 5)), .op none (.iaddr 29 4 (.tmp 27) (.tmp 28)), .op none (.faddr 30 2 (.tmp 29)), .op none (.load 31 false 1 (.tmp 30)), .op none (.mv 32 (.tmp 1)), .call none (some 33) 78 [.tmp 31, .tmp 32], .op none (.mv 1 (.tmp 33)), .keep [0, 1, 5]]) (.seq (.reg [.op none (.mv 34 (.tmp 0)), .op none (.mv 35 (.tmp 5)), .op none (.mv 36 (.tmp 1)), .op none (.iaddr 37 4 (.tmp 34) (.tmp 35)), .op none (.faddr 38 3 (.tmp 37)), .op none (.store 1 (.tmp 38) (.tmp 36)), .keep [0, 1, 5]]) (.reg [.op none (.mv 39 (.tmp 1)), .op none (.bin 40 .add (.tmp 39) (.const (.int .i64 1))), .op none (.mv 1 (.tmp 40)), .keep [0, 1, 5]])))))))) (.reg [.op none (.mv 10 (.tmp 5)), .op none (.bin 11 .add (.tmp 10) (.const (.int .i64 1))), .op none (.mv 5 (.tmp 11)), .keep [0, 1, 5]]))
def c53 : AC := .seq (.reg [.op none (.mv 4 (.const (.int .i64 0))), .keep [0, 1]]) (.seq (.seq (.reg [.op none (.mv 5 (.const (.int .i64 0))), .keep [0, 1, 5]]) (.block 0 (.gh (.loop (.ga c53_l0))))) (.seq (.reg [.op none (.mv 41 (.tmp 1)), .op none (.mv 4 (.tmp 41)), .keep [4]]) (.ret)))
def r53 : List RV := [.tmp 4]
theorem k53 : compC Try.prog 42 (Try.f53.body.getD .skip) = some c53.erase := by kernel_rfl
theorem q53 : rvsOf Try.prog Try.f53.results.toList = some r53 := by kernel_rfl
def laws_markReorderEventS.l0 (x0_0 : Int) (x0_1 : Int) (x0_2 : (List S116)) : Option (Int × (List S116)) := (if x0_1 < (x0_2.length : Int) then (if 0 ≤ x0_1 ∧ x0_1 < (x0_2.length : Int) then (laws_markByteS.f ((rd z116 x0_2 x0_1).f2) (IntKind.i64.wrap ((IntKind.i64.wrap (x0_0 + 1)) + 1)) >>= fun t28 => (laws_markReorderEventS.l0 (IntKind.i64.wrap (t28.1 + 1)) (IntKind.i64.wrap (x0_1 + 1)) (x0_2.set x0_1.toNat (⟨x0_0, IntKind.u64.wrap (IntKind.i64.wrap (x0_0 + 1)), t28.2, t28.1⟩ : S116)))) else none) else (some (x0_0, x0_2)))
  partial_fixpoint
def laws_markReorderEventS.f (l0 : List S116) (a1 : Int) : Option (Int × (List S116)) := (laws_markReorderEventS.l0 a1 0 l0 >>= fun (y38 : (Int × (List S116))) => (some (y38.1, y38.2)))
set_option maxRecDepth 100000 in
set_option maxHeartbeats 4000000 in
theorem laws_markReorderEventS.l0_walk (x0_0 : Int) (x0_1 : Int) (x0_2 : (List S116)) (y : (Int × (List S116))) (h : laws_markReorderEventS.l0  x0_0 x0_1 x0_2 = some y) (K : AE → St → Prop) (hx0 : K (.exit 0) ⟨[(1, .c (.sc (.int .i64 y.1)))], [(.arg 0, ⟨.lst, 4, encL c116 y.2⟩)], [], []⟩) : loopS Try.prog 42 (.ga c53_l0) K ⟨[(0, .c (.ref (.arg 0) [] 0 x0_2.length)), (1, .c (.sc (.int .i64 x0_0))), (5, .c (.sc (.int .i64 x0_1)))], [(.arg 0, ⟨.lst, 4, encL c116 x0_2⟩)], [], []⟩ := by
  refine laws_markReorderEventS.l0.partial_correctness  (motive := fun x0_0 x0_1 x0_2 y => ∀ (K : AE → St → Prop), (K (.exit 0) ⟨[(1, .c (.sc (.int .i64 y.1)))], [(.arg 0, ⟨.lst, 4, encL c116 y.2⟩)], [], []⟩) → loopS Try.prog 42 (.ga c53_l0) K ⟨[(0, .c (.ref (.arg 0) [] 0 x0_2.length)), (1, .c (.sc (.int .i64 x0_0))), (5, .c (.sc (.int .i64 x0_1)))], [(.arg 0, ⟨.lst, 4, encL c116 x0_2⟩)], [], []⟩) ?_ x0_0 x0_1 x0_2 y h K hx0
  clear h hx0
  intro rec ih x0_0 x0_1 x0_2 y h K hx0
  refine loop_unroll (ga_k fun G0 G0n G0r G0x => ?_)
  unfold c53_l0
  refine seq_k fun J5 hJ5 => ?_
  refine seq_k fun J6 hJ6 => ?_
  refine reg_k ?_
  simp only [Nat.reduceEqDiff, Nat.reduceAdd, Nat.reduceMul, Nat.reduceLeDiff, Nat.reduceLT, Int.reduceLE, Int.reduceLT, Int.reduceGT, Int.reduceGE, Int.reduceEq, Int.reduceNe, Int.reduceToNat, reduceCtorEq, ak]
  refine hJ6 _ ?_
  refine cond_k (b := decide (x0_1 < (x0_2.length : Int))) rfl (fun c7 => ?_) (fun c7 => ?_)
  · replace c7 := of_decide_eq_true c7; rw [if_pos c7] at h
    refine hJ5 _ ?_
    refine seq_k fun J8 hJ8 => ?_
    refine block_k fun B9 B9n B9x B9r B9j => ?_
    refine seq_k fun J10 hJ10 => ?_
    refine reg_k ?_
    obtain ⟨b11, h⟩ := of_guard h
    have g12 : 0 + x0_1.toNat * 4 + 0 ≤ (encL c116 x0_2).length := ((Vw.whole c116_w x0_2).len_le b11.1 b11.2 (by decide))
    have g13 : 0 + x0_1.toNat * 4 + 0 + 1 ≤ (encL c116 x0_2).length := (Vw.whole c116_w x0_2).le b11.1 b11.2 (j := 0) (q := 1) (by decide)
    have g14 : 0 + x0_1.toNat * 4 + 0 < (encL c116 x0_2).length := (Vw.whole c116_w x0_2).lt b11.1 b11.2 (j := 0) (by decide)
    have g15 : (encL c116 x0_2)[0 + x0_1.toNat * 4 + 0]? = some (.sc (.int .i64 ((rd z116 x0_2 x0_1).f0))) := (Vw.whole c116_w x0_2).get z116 0 b11.1 b11.2 (by decide)
    have g16 : (encL c116 x0_2).set (0 + x0_1.toNat * 4 + 0) (.sc (.int .i64 x0_0)) = encL c116 (x0_2.set x0_1.toNat (⟨x0_0, (rd z116 x0_2 x0_1).f1, (rd z116 x0_2 x0_1).f2, (rd z116 x0_2 x0_1).f3⟩ : S116)) := encL_put c116_w z116 b11.1 b11.2 (j := 0) (by decide) rfl
    simp only [Nat.reduceEqDiff, Nat.reduceAdd, Nat.reduceMul, Nat.reduceLeDiff, Nat.reduceLT, Int.reduceLE, Int.reduceLT, Int.reduceGT, Int.reduceGE, Int.reduceEq, Int.reduceNe, Int.reduceToNat, reduceCtorEq, ak, b11, g12, g13, g14, g15, g16]
    refine hJ10 _ ?_
    refine seq_k fun J17 hJ17 => ?_
    refine reg_k ?_
    simp only [Nat.reduceEqDiff, Nat.reduceAdd, Nat.reduceMul, Nat.reduceLeDiff, Nat.reduceLT, Int.reduceLE, Int.reduceLT, Int.reduceGT, Int.reduceGE, Int.reduceEq, Int.reduceNe, Int.reduceToNat, reduceCtorEq, ak]
    refine hJ17 _ ?_
    refine seq_k fun J18 hJ18 => ?_
    refine reg_k ?_
    have g19 : 0 + x0_1.toNat * 4 + 1 ≤ (encL c116 (x0_2.set x0_1.toNat (⟨x0_0, (rd z116 x0_2 x0_1).f1, (rd z116 x0_2 x0_1).f2, (rd z116 x0_2 x0_1).f3⟩ : S116))).length := ((Vw.whole c116_w (x0_2.set x0_1.toNat (⟨x0_0, (rd z116 x0_2 x0_1).f1, (rd z116 x0_2 x0_1).f2, (rd z116 x0_2 x0_1).f3⟩ : S116))).len_le b11.1 (lt_len b11.2 (by simp)) (by decide))
    have g20 : 0 + x0_1.toNat * 4 + 1 + 1 ≤ (encL c116 (x0_2.set x0_1.toNat (⟨x0_0, (rd z116 x0_2 x0_1).f1, (rd z116 x0_2 x0_1).f2, (rd z116 x0_2 x0_1).f3⟩ : S116))).length := (Vw.whole c116_w (x0_2.set x0_1.toNat (⟨x0_0, (rd z116 x0_2 x0_1).f1, (rd z116 x0_2 x0_1).f2, (rd z116 x0_2 x0_1).f3⟩ : S116))).le b11.1 (lt_len b11.2 (by simp)) (j := 1) (q := 1) (by decide)
    have g21 : 0 + x0_1.toNat * 4 + 1 < (encL c116 (x0_2.set x0_1.toNat (⟨x0_0, (rd z116 x0_2 x0_1).f1, (rd z116 x0_2 x0_1).f2, (rd z116 x0_2 x0_1).f3⟩ : S116))).length := encL_put_lt c116_w (⟨x0_0, (rd z116 x0_2 x0_1).f1, (rd z116 x0_2 x0_1).f2, (rd z116 x0_2 x0_1).f3⟩ : S116) b11.1 b11.2 (j := 1) (by decide)
    have g22 : (encL c116 (x0_2.set x0_1.toNat (⟨x0_0, (rd z116 x0_2 x0_1).f1, (rd z116 x0_2 x0_1).f2, (rd z116 x0_2 x0_1).f3⟩ : S116)))[0 + x0_1.toNat * 4 + 1]? = some (.sc (.int .u64 ((rd z116 x0_2 x0_1).f1))) := encL_put_get c116_w (⟨x0_0, (rd z116 x0_2 x0_1).f1, (rd z116 x0_2 x0_1).f2, (rd z116 x0_2 x0_1).f3⟩ : S116) b11.1 b11.2 (j := 1) (by decide)
    have g23 : (encL c116 (x0_2.set x0_1.toNat (⟨x0_0, (rd z116 x0_2 x0_1).f1, (rd z116 x0_2 x0_1).f2, (rd z116 x0_2 x0_1).f3⟩ : S116))).set (0 + x0_1.toNat * 4 + 1) (.sc (.int .u64 (IntKind.u64.wrap (IntKind.i64.wrap (x0_0 + 1))))) = encL c116 (x0_2.set x0_1.toNat (⟨x0_0, IntKind.u64.wrap (IntKind.i64.wrap (x0_0 + 1)), (rd z116 x0_2 x0_1).f2, (rd z116 x0_2 x0_1).f3⟩ : S116)) := encL_put2 c116_w b11.1 b11.2 (j := 1) (by decide) rfl
    simp only [Nat.reduceEqDiff, Nat.reduceAdd, Nat.reduceMul, Nat.reduceLeDiff, Nat.reduceLT, Int.reduceLE, Int.reduceLT, Int.reduceGT, Int.reduceGE, Int.reduceEq, Int.reduceNe, Int.reduceToNat, reduceCtorEq, ak, b11, g19, g20, g21, g22, g23]
    refine hJ18 _ ?_
    refine seq_k fun J24 hJ24 => ?_
    refine reg_k ?_
    simp only [Nat.reduceEqDiff, Nat.reduceAdd, Nat.reduceMul, Nat.reduceLeDiff, Nat.reduceLT, Int.reduceLE, Int.reduceLT, Int.reduceGT, Int.reduceGE, Int.reduceEq, Int.reduceNe, Int.reduceToNat, reduceCtorEq, ak]
    refine hJ24 _ ?_
    refine seq_k fun J25 hJ25 => ?_
    refine reg_k ?_
    have g26 : 0 + x0_1.toNat * 4 + 2 ≤ (encL c116 (x0_2.set x0_1.toNat (⟨x0_0, IntKind.u64.wrap (IntKind.i64.wrap (x0_0 + 1)), (rd z116 x0_2 x0_1).f2, (rd z116 x0_2 x0_1).f3⟩ : S116))).length := ((Vw.whole c116_w (x0_2.set x0_1.toNat (⟨x0_0, IntKind.u64.wrap (IntKind.i64.wrap (x0_0 + 1)), (rd z116 x0_2 x0_1).f2, (rd z116 x0_2 x0_1).f3⟩ : S116))).len_le b11.1 (lt_len b11.2 (by simp)) (by decide))
    have g27 : (encL c116 (x0_2.set x0_1.toNat (⟨x0_0, IntKind.u64.wrap (IntKind.i64.wrap (x0_0 + 1)), (rd z116 x0_2 x0_1).f2, (rd z116 x0_2 x0_1).f3⟩ : S116)))[0 + x0_1.toNat * 4 + 2]? = some (.own 1 (((rd z116 x0_2 x0_1).f2).length) (encL c_u8 ((rd z116 x0_2 x0_1).f2))) := encL_put_get c116_w (⟨x0_0, IntKind.u64.wrap (IntKind.i64.wrap (x0_0 + 1)), (rd z116 x0_2 x0_1).f2, (rd z116 x0_2 x0_1).f3⟩ : S116) b11.1 b11.2 (j := 2) (by decide)
    simp only [Nat.reduceEqDiff, Nat.reduceAdd, Nat.reduceMul, Nat.reduceLeDiff, Nat.reduceLT, Int.reduceLE, Int.reduceLT, Int.reduceGT, Int.reduceGE, Int.reduceEq, Int.reduceNe, Int.reduceToNat, reduceCtorEq, ak, b11, g26, g27]
    obtain ⟨t28, h29, h⟩ := of_bind h
    refine call_m [(.arg 0, ⟨(.arg 0), [0 + x0_1.toNat * 4 + 2], none, .lst⟩)] (s0 := [(.arg 0, ⟨.lst, 1, encL c_u8 ((rd z116 x0_2 x0_1).f2)⟩)]) (by intro t ht; cases ht; decide) rfl rfl (by first | rfl | simp only [reduceCtorEq, Nat.reduceEqDiff, ak, akF, b11, g12, g13, g14, g15, g16, g19, g20, g21, g22, g23, g26, g27]) (laws_markByteS.tri ((rd z116 x0_2 x0_1).f2) (IntKind.i64.wrap ((IntKind.i64.wrap (x0_0 + 1)) + 1)) _ h29) (by first | rfl | simp only [reduceCtorEq, Nat.reduceEqDiff, ak, akF]) (by simp [bkOk2, memK]) (fun hl29 => ?_)
    have g31 : t28.2.length = ((rd z116 x0_2 x0_1).f2).length := encL_len_inj c_u8_w (by decide) (hl29 0 (by decide) _ _ rfl rfl)
    refine call_st (s4 := [(.arg 0, ⟨.lst, 4, encL c116 (x0_2.set x0_1.toNat (⟨x0_0, IntKind.u64.wrap (IntKind.i64.wrap (x0_0 + 1)), t28.2, (rd z116 x0_2 x0_1).f3⟩ : S116))⟩)]) (m1' := []) (m2' := []) (v' := .c (.sc (.int .i64 t28.1))) (Sto.mapN_killNil _ _) (mrgL_nest' (cs := encL c_u8 ((rd z116 x0_2 x0_1).f2)) (cs' := encL c116 (x0_2.set x0_1.toNat (⟨x0_0, IntKind.u64.wrap (IntKind.i64.wrap (x0_0 + 1)), t28.2, (rd z116 x0_2 x0_1).f3⟩ : S116))) (mrgL_nil' _ _ _) rfl (by simp) (by rfl) (by first | rfl | simp only [reduceCtorEq, Nat.reduceEqDiff, ak, b11, g12, g13, g14, g15, g16, g19, g20, g21, g22, g23, g26, g27]) (by decide) (by simp only [reduceCtorEq, Nat.reduceEqDiff, ak, b11, g12, g13, g14, g15, g16, g19, g20, g21, g22, g23, g26, g27]; exact encL_mod2 c116_w b11.1 b11.2 (j := 2) (by decide) (by first | rfl | simp [c116, repl, g31]))) (by rfl) (mapT_killNil _ _) (by rfl) (by rfl) (by first | rfl | simp only [reduceCtorEq, Nat.reduceEqDiff, ak, akF, Nat.zero_add, List.append_nil, b11]) ?_
    simp only [Nat.reduceEqDiff, Nat.reduceAdd, Nat.reduceMul, Nat.reduceLeDiff, Nat.reduceLT, Int.reduceLE, Int.reduceLT, Int.reduceGT, Int.reduceGE, Int.reduceEq, Int.reduceNe, Int.reduceToNat, reduceCtorEq, ak, b11, g27]
    refine hJ25 _ ?_
    refine seq_k fun J32 hJ32 => ?_
    refine reg_k ?_
    have g33 : 0 + x0_1.toNat * 4 + 3 ≤ (encL c116 (x0_2.set x0_1.toNat (⟨x0_0, IntKind.u64.wrap (IntKind.i64.wrap (x0_0 + 1)), t28.2, (rd z116 x0_2 x0_1).f3⟩ : S116))).length := ((Vw.whole c116_w (x0_2.set x0_1.toNat (⟨x0_0, IntKind.u64.wrap (IntKind.i64.wrap (x0_0 + 1)), t28.2, (rd z116 x0_2 x0_1).f3⟩ : S116))).len_le b11.1 (lt_len b11.2 (by simp [g31])) (by decide))
    have g34 : 0 + x0_1.toNat * 4 + 3 + 1 ≤ (encL c116 (x0_2.set x0_1.toNat (⟨x0_0, IntKind.u64.wrap (IntKind.i64.wrap (x0_0 + 1)), t28.2, (rd z116 x0_2 x0_1).f3⟩ : S116))).length := (Vw.whole c116_w (x0_2.set x0_1.toNat (⟨x0_0, IntKind.u64.wrap (IntKind.i64.wrap (x0_0 + 1)), t28.2, (rd z116 x0_2 x0_1).f3⟩ : S116))).le b11.1 (lt_len b11.2 (by simp [g31])) (j := 3) (q := 1) (by decide)
    have g35 : 0 + x0_1.toNat * 4 + 3 < (encL c116 (x0_2.set x0_1.toNat (⟨x0_0, IntKind.u64.wrap (IntKind.i64.wrap (x0_0 + 1)), t28.2, (rd z116 x0_2 x0_1).f3⟩ : S116))).length := encL_put_lt c116_w (⟨x0_0, IntKind.u64.wrap (IntKind.i64.wrap (x0_0 + 1)), t28.2, (rd z116 x0_2 x0_1).f3⟩ : S116) b11.1 b11.2 (j := 3) (by decide)
    have g36 : (encL c116 (x0_2.set x0_1.toNat (⟨x0_0, IntKind.u64.wrap (IntKind.i64.wrap (x0_0 + 1)), t28.2, (rd z116 x0_2 x0_1).f3⟩ : S116)))[0 + x0_1.toNat * 4 + 3]? = some (.sc (.int .i64 ((rd z116 x0_2 x0_1).f3))) := encL_put_get c116_w (⟨x0_0, IntKind.u64.wrap (IntKind.i64.wrap (x0_0 + 1)), t28.2, (rd z116 x0_2 x0_1).f3⟩ : S116) b11.1 b11.2 (j := 3) (by decide)
    have g37 : (encL c116 (x0_2.set x0_1.toNat (⟨x0_0, IntKind.u64.wrap (IntKind.i64.wrap (x0_0 + 1)), t28.2, (rd z116 x0_2 x0_1).f3⟩ : S116))).set (0 + x0_1.toNat * 4 + 3) (.sc (.int .i64 t28.1)) = encL c116 (x0_2.set x0_1.toNat (⟨x0_0, IntKind.u64.wrap (IntKind.i64.wrap (x0_0 + 1)), t28.2, t28.1⟩ : S116)) := encL_put2 c116_w b11.1 b11.2 (j := 3) (by decide) rfl
    simp only [Nat.reduceEqDiff, Nat.reduceAdd, Nat.reduceMul, Nat.reduceLeDiff, Nat.reduceLT, Int.reduceLE, Int.reduceLT, Int.reduceGT, Int.reduceGE, Int.reduceEq, Int.reduceNe, Int.reduceToNat, reduceCtorEq, ak, b11, g33, g34, g35, g36, g37]
    refine hJ32 _ ?_
    refine reg_k ?_
    simp only [Nat.reduceEqDiff, Nat.reduceAdd, Nat.reduceMul, Nat.reduceLeDiff, Nat.reduceLT, Int.reduceLE, Int.reduceLT, Int.reduceGT, Int.reduceGE, Int.reduceEq, Int.reduceNe, Int.reduceToNat, reduceCtorEq, ak]
    refine B9n _ ?_
    refine hJ8 _ ?_
    refine reg_k ?_
    simp only [Nat.reduceEqDiff, Nat.reduceAdd, Nat.reduceMul, Nat.reduceLeDiff, Nat.reduceLT, Int.reduceLE, Int.reduceLT, Int.reduceGT, Int.reduceGE, Int.reduceEq, Int.reduceNe, Int.reduceToNat, reduceCtorEq, ak]
    refine G0n _ (⟨[(0, .c (.ref (.arg 0) [] 0 ((x0_2.set x0_1.toNat (⟨x0_0, IntKind.u64.wrap (IntKind.i64.wrap (x0_0 + 1)), t28.2, t28.1⟩ : S116)).length))), (1, .c (.sc (.int .i64 (IntKind.i64.wrap (t28.1 + 1))))), (5, .c (.sc (.int .i64 (IntKind.i64.wrap (x0_1 + 1)))))], [(.arg 0, ⟨.lst, 4, encL c116 (x0_2.set x0_1.toNat (⟨x0_0, IntKind.u64.wrap (IntKind.i64.wrap (x0_0 + 1)), t28.2, t28.1⟩ : S116))⟩)], [], []⟩) (((Weak.keep [0, 1, 5]).trans ((Weak.foc [(.arg 0, ⟨(.arg 0), [], none, .lst⟩)] rfl (by first | rfl | simp only [reduceCtorEq, Nat.reduceEqDiff, ak, akF, b11]) (by simp [argK, akG, ak])).trans (Weak.of_eq (by first | rfl | (simp only [reduceCtorEq, Nat.reduceEqDiff, ak, akF, b11]; done) | (simp [reduceCtorEq, Nat.reduceEqDiff, ak, akF, b11]; done)))))) (ih _ _ _ _ h K hx0)
  · replace c7 := of_decide_eq_false c7; rw [if_neg c7] at h
    obtain rfl := Option.some.inj h
    refine gh_k (st' := ⟨[(1, .c (.sc (.int .i64 x0_0)))], [(.arg 0, ⟨.lst, 4, encL c116 x0_2⟩)], [], []⟩) (((Weak.keep [1]).trans ((Weak.foc [(.arg 0, ⟨(.arg 0), [], none, .lst⟩)] rfl (by first | rfl | simp only [reduceCtorEq, Nat.reduceEqDiff, ak, akF]) (by simp [argK, akG, ak])).trans (Weak.of_eq (by first | rfl | (simp only [reduceCtorEq, Nat.reduceEqDiff, ak, akF]; done) | (simp [reduceCtorEq, Nat.reduceEqDiff, ak, akF]; done)))))) ?_
    refine G0x _ _ ?_
    exact hx0
set_option maxRecDepth 100000 in
set_option maxHeartbeats 4000000 in
theorem laws_markReorderEventS.tri (l0 : List S116) (a1 : Int) (r : Int × (List S116)) (h : laws_markReorderEventS.f l0 a1 = some r) : Tri Try.prog 53 [.c (.ref (.arg 0) [] 0 l0.length), .c (.sc (.int .i64 a1))] [(.arg 0, ⟨.lst, 4, encL c116 l0⟩)] (fun o => o = ⟨.c (.sc (.int .i64 r.1)), [(.arg 0, ⟨.lst, 4, encL c116 r.2⟩)], [], []⟩) := by
  refine tri_of_body (ac := c53) (xs := r53) Try.func53 (show Try.f53.body = some (Try.f53.body.getD .skip) from rfl) k53 q53 (Nat.le_of_ble_eq_true rfl) ?_
  refine body_of fun K hKn hKr => ?_
  unfold laws_markReorderEventS.f at h
  unfold c53
  simp only [initT, Nat.reduceAdd]
  refine seq_k fun J1 hJ1 => ?_
  refine reg_k ?_
  simp only [Nat.reduceEqDiff, Nat.reduceAdd, Nat.reduceMul, Nat.reduceLeDiff, Nat.reduceLT, Int.reduceLE, Int.reduceLT, Int.reduceGT, Int.reduceGE, Int.reduceEq, Int.reduceNe, Int.reduceToNat, reduceCtorEq, ak]
  refine hJ1 _ ?_
  refine seq_k fun J2 hJ2 => ?_
  refine seq_k fun J3 hJ3 => ?_
  refine reg_k ?_
  simp only [Nat.reduceEqDiff, Nat.reduceAdd, Nat.reduceMul, Nat.reduceLeDiff, Nat.reduceLT, Int.reduceLE, Int.reduceLT, Int.reduceGT, Int.reduceGE, Int.reduceEq, Int.reduceNe, Int.reduceToNat, reduceCtorEq, ak]
  refine hJ3 _ ?_
  refine block_k fun B4 B4n B4x B4r B4j => ?_
  obtain ⟨y38, h39, h⟩ := of_bind h
  refine gh_k (st' := ⟨[(0, .c (.ref (.arg 0) [] 0 l0.length)), (1, .c (.sc (.int .i64 a1))), (5, .c (.sc (.int .i64 0)))], [(.arg 0, ⟨.lst, 4, encL c116 l0⟩)], [], []⟩) (((Weak.keep [0, 1, 5]).trans ((Weak.foc [(.arg 0, ⟨(.arg 0), [], none, .lst⟩)] rfl (by first | rfl | simp only [reduceCtorEq, Nat.reduceEqDiff, ak, akF]) (by simp [argK, akG, ak])).trans (Weak.of_eq (by first | rfl | (simp only [reduceCtorEq, Nat.reduceEqDiff, ak, akF]; done) | (simp [reduceCtorEq, Nat.reduceEqDiff, ak, akF]; done)))))) ?_
  rw [e_loop]
  refine laws_markReorderEventS.l0_walk a1 0 l0 _ h39 _ ?_
  refine B4x _ ?_
  refine hJ2 _ ?_
  refine seq_k fun J40 hJ40 => ?_
  refine reg_k ?_
  simp only [Nat.reduceEqDiff, Nat.reduceAdd, Nat.reduceMul, Nat.reduceLeDiff, Nat.reduceLT, Int.reduceLE, Int.reduceLT, Int.reduceGT, Int.reduceGE, Int.reduceEq, Int.reduceNe, Int.reduceToNat, reduceCtorEq, ak]
  refine hJ40 _ ?_
  obtain rfl := Option.some.inj h
  refine hKr _ ⟨_, rfl, [], _, rfl, rfl, ?_⟩
  first | rfl | (simp only [reduceCtorEq, Nat.reduceEqDiff, ak, akF]; done) | (simp [reduceCtorEq, Nat.reduceEqDiff, ak, akF]; done)
/-! ### laws.markReorderOutS: function 54 -/
def c54_l0 : AC := .seq (.seq (.reg [.op none (.mv 6 (.tmp 5)), .op none (.mv 7 (.tmp 0)), .op none (.len 8 (.tmp 7)), .op none (.bin 9 .lss (.tmp 6) (.tmp 8)), .keep [0, 1, 5, 9]]) (.cond (.tmp 9) (.skip) (.gh (.exit 0)))) (.seq (.block 1 (.seq (.reg [.op none (.mv 12 (.tmp 0)), .op none (.mv 13 (.tmp 5)), .op none (.mv 14 (.tmp 1)), .op none (.iaddr 15 3 (.tmp 12) (.tmp 13)), .op none (.faddr 16 0 (.tmp 15)), .op none (.store 1 (.tmp 16) (.tmp 14)), .keep [0, 1, 5]]) (.seq (.reg [.op none (.mv 17 (.tmp 1)), .op none (.bin 18 .add (.tmp 17) (.const (.int .i64 1))), .op none (.mv 1 (.tmp 18)), .keep [0, 1, 5]]) (.seq (.reg [.op none (.mv 19 (.tmp 0)), .op none (.mv 20 (.tmp 5)), .op none (.mv 21 (.tmp 1)), .op none (.iaddr 22 3 (.tmp 19) (.tmp 20)), .op none (.faddr 23 1 (.tmp 22)), .op none (.store 1 (.tmp 23) (.tmp 21)), .keep [0, 1, 5]]) (.seq (.reg [.op none (.mv 24 (.tmp 1)), .op none (.bin 25 .add (.tmp 24) (.const (.int .i64 1))), .op none (.mv 1 (.tmp 25)), .keep [0, 1, 5]]) (.reg [.op none (.mv 26 (.tmp 0)), .op none (.mv 27 (.tmp 5)), .op none (.iaddr 28 3 (.tmp 26) (.tmp 27)), .op none (.faddr 29 2 (.tmp 28)), .op none (.load 30 false 1 (.tmp 29)), .op none (.mv 31 (.tmp 1)), .call none (some 32) 78 [.tmp 30, .tmp 31], .op none (.mv 1 (.tmp 32)), .keep [0, 1, 5]])))))) (.reg [.op none (.mv 10 (.tmp 5)), .op none (.bin 11 .add (.tmp 10) (.const (.int .i64 1))), .op none (.mv 5 (.tmp 11)), .keep [0, 1, 5]]))
def c54 : AC := .seq (.reg [.op none (.mv 4 (.const (.int .i64 0))), .keep [0, 1]]) (.seq (.seq (.reg [.op none (.mv 5 (.const (.int .i64 0))), .keep [0, 1, 5]]) (.block 0 (.gh (.loop (.ga c54_l0))))) (.seq (.reg [.op none (.mv 33 (.tmp 1)), .op none (.mv 4 (.tmp 33)), .keep [4]]) (.ret)))
def r54 : List RV := [.tmp 4]
theorem k54 : compC Try.prog 34 (Try.f54.body.getD .skip) = some c54.erase := by kernel_rfl
theorem q54 : rvsOf Try.prog Try.f54.results.toList = some r54 := by kernel_rfl
def laws_markReorderOutS.l0 (x0_0 : Int) (x0_1 : Int) (x0_2 : (List S118)) : Option (Int × (List S118)) := (if x0_1 < (x0_2.length : Int) then (if 0 ≤ x0_1 ∧ x0_1 < (x0_2.length : Int) then (laws_markByteS.f ((rd z118 x0_2 x0_1).f2) (IntKind.i64.wrap ((IntKind.i64.wrap (x0_0 + 1)) + 1)) >>= fun t27 => (laws_markReorderOutS.l0 t27.1 (IntKind.i64.wrap (x0_1 + 1)) (x0_2.set x0_1.toNat (⟨x0_0, IntKind.i64.wrap (x0_0 + 1), t27.2⟩ : S118)))) else none) else (some (x0_0, x0_2)))
  partial_fixpoint
def laws_markReorderOutS.f (l0 : List S118) (a1 : Int) : Option (Int × (List S118)) := (laws_markReorderOutS.l0 a1 0 l0 >>= fun (y31 : (Int × (List S118))) => (some (y31.1, y31.2)))
set_option maxRecDepth 100000 in
set_option maxHeartbeats 4000000 in
theorem laws_markReorderOutS.l0_walk (x0_0 : Int) (x0_1 : Int) (x0_2 : (List S118)) (y : (Int × (List S118))) (h : laws_markReorderOutS.l0  x0_0 x0_1 x0_2 = some y) (K : AE → St → Prop) (hx0 : K (.exit 0) ⟨[(1, .c (.sc (.int .i64 y.1)))], [(.arg 0, ⟨.lst, 3, encL c118 y.2⟩)], [], []⟩) : loopS Try.prog 34 (.ga c54_l0) K ⟨[(0, .c (.ref (.arg 0) [] 0 x0_2.length)), (1, .c (.sc (.int .i64 x0_0))), (5, .c (.sc (.int .i64 x0_1)))], [(.arg 0, ⟨.lst, 3, encL c118 x0_2⟩)], [], []⟩ := by
  refine laws_markReorderOutS.l0.partial_correctness  (motive := fun x0_0 x0_1 x0_2 y => ∀ (K : AE → St → Prop), (K (.exit 0) ⟨[(1, .c (.sc (.int .i64 y.1)))], [(.arg 0, ⟨.lst, 3, encL c118 y.2⟩)], [], []⟩) → loopS Try.prog 34 (.ga c54_l0) K ⟨[(0, .c (.ref (.arg 0) [] 0 x0_2.length)), (1, .c (.sc (.int .i64 x0_0))), (5, .c (.sc (.int .i64 x0_1)))], [(.arg 0, ⟨.lst, 3, encL c118 x0_2⟩)], [], []⟩) ?_ x0_0 x0_1 x0_2 y h K hx0
  clear h hx0
  intro rec ih x0_0 x0_1 x0_2 y h K hx0
  refine loop_unroll (ga_k fun G0 G0n G0r G0x => ?_)
  unfold c54_l0
  refine seq_k fun J5 hJ5 => ?_
  refine seq_k fun J6 hJ6 => ?_
  refine reg_k ?_
  simp only [Nat.reduceEqDiff, Nat.reduceAdd, Nat.reduceMul, Nat.reduceLeDiff, Nat.reduceLT, Int.reduceLE, Int.reduceLT, Int.reduceGT, Int.reduceGE, Int.reduceEq, Int.reduceNe, Int.reduceToNat, reduceCtorEq, ak]
  refine hJ6 _ ?_
  refine cond_k (b := decide (x0_1 < (x0_2.length : Int))) rfl (fun c7 => ?_) (fun c7 => ?_)
  · replace c7 := of_decide_eq_true c7; rw [if_pos c7] at h
    refine hJ5 _ ?_
    refine seq_k fun J8 hJ8 => ?_
    refine block_k fun B9 B9n B9x B9r B9j => ?_
    refine seq_k fun J10 hJ10 => ?_
    refine reg_k ?_
    obtain ⟨b11, h⟩ := of_guard h
    have g12 : 0 + x0_1.toNat * 3 + 0 ≤ (encL c118 x0_2).length := ((Vw.whole c118_w x0_2).len_le b11.1 b11.2 (by decide))
    have g13 : 0 + x0_1.toNat * 3 + 0 + 1 ≤ (encL c118 x0_2).length := (Vw.whole c118_w x0_2).le b11.1 b11.2 (j := 0) (q := 1) (by decide)
    have g14 : 0 + x0_1.toNat * 3 + 0 < (encL c118 x0_2).length := (Vw.whole c118_w x0_2).lt b11.1 b11.2 (j := 0) (by decide)
    have g15 : (encL c118 x0_2)[0 + x0_1.toNat * 3 + 0]? = some (.sc (.int .i64 ((rd z118 x0_2 x0_1).f0))) := (Vw.whole c118_w x0_2).get z118 0 b11.1 b11.2 (by decide)
    have g16 : (encL c118 x0_2).set (0 + x0_1.toNat * 3 + 0) (.sc (.int .i64 x0_0)) = encL c118 (x0_2.set x0_1.toNat (⟨x0_0, (rd z118 x0_2 x0_1).f1, (rd z118 x0_2 x0_1).f2⟩ : S118)) := encL_put c118_w z118 b11.1 b11.2 (j := 0) (by decide) rfl
    simp only [Nat.reduceEqDiff, Nat.reduceAdd, Nat.reduceMul, Nat.reduceLeDiff, Nat.reduceLT, Int.reduceLE, Int.reduceLT, Int.reduceGT, Int.reduceGE, Int.reduceEq, Int.reduceNe, Int.reduceToNat, reduceCtorEq, ak, b11, g12, g13, g14, g15, g16]
    refine hJ10 _ ?_
    refine seq_k fun J17 hJ17 => ?_
    refine reg_k ?_
    simp only [Nat.reduceEqDiff, Nat.reduceAdd, Nat.reduceMul, Nat.reduceLeDiff, Nat.reduceLT, Int.reduceLE, Int.reduceLT, Int.reduceGT, Int.reduceGE, Int.reduceEq, Int.reduceNe, Int.reduceToNat, reduceCtorEq, ak]
    refine hJ17 _ ?_
    refine seq_k fun J18 hJ18 => ?_
    refine reg_k ?_
    have g19 : 0 + x0_1.toNat * 3 + 1 ≤ (encL c118 (x0_2.set x0_1.toNat (⟨x0_0, (rd z118 x0_2 x0_1).f1, (rd z118 x0_2 x0_1).f2⟩ : S118))).length := ((Vw.whole c118_w (x0_2.set x0_1.toNat (⟨x0_0, (rd z118 x0_2 x0_1).f1, (rd z118 x0_2 x0_1).f2⟩ : S118))).len_le b11.1 (lt_len b11.2 (by simp)) (by decide))
    have g20 : 0 + x0_1.toNat * 3 + 1 + 1 ≤ (encL c118 (x0_2.set x0_1.toNat (⟨x0_0, (rd z118 x0_2 x0_1).f1, (rd z118 x0_2 x0_1).f2⟩ : S118))).length := (Vw.whole c118_w (x0_2.set x0_1.toNat (⟨x0_0, (rd z118 x0_2 x0_1).f1, (rd z118 x0_2 x0_1).f2⟩ : S118))).le b11.1 (lt_len b11.2 (by simp)) (j := 1) (q := 1) (by decide)
    have g21 : 0 + x0_1.toNat * 3 + 1 < (encL c118 (x0_2.set x0_1.toNat (⟨x0_0, (rd z118 x0_2 x0_1).f1, (rd z118 x0_2 x0_1).f2⟩ : S118))).length := encL_put_lt c118_w (⟨x0_0, (rd z118 x0_2 x0_1).f1, (rd z118 x0_2 x0_1).f2⟩ : S118) b11.1 b11.2 (j := 1) (by decide)
    have g22 : (encL c118 (x0_2.set x0_1.toNat (⟨x0_0, (rd z118 x0_2 x0_1).f1, (rd z118 x0_2 x0_1).f2⟩ : S118)))[0 + x0_1.toNat * 3 + 1]? = some (.sc (.int .i64 ((rd z118 x0_2 x0_1).f1))) := encL_put_get c118_w (⟨x0_0, (rd z118 x0_2 x0_1).f1, (rd z118 x0_2 x0_1).f2⟩ : S118) b11.1 b11.2 (j := 1) (by decide)
    have g23 : (encL c118 (x0_2.set x0_1.toNat (⟨x0_0, (rd z118 x0_2 x0_1).f1, (rd z118 x0_2 x0_1).f2⟩ : S118))).set (0 + x0_1.toNat * 3 + 1) (.sc (.int .i64 (IntKind.i64.wrap (x0_0 + 1)))) = encL c118 (x0_2.set x0_1.toNat (⟨x0_0, IntKind.i64.wrap (x0_0 + 1), (rd z118 x0_2 x0_1).f2⟩ : S118)) := encL_put2 c118_w b11.1 b11.2 (j := 1) (by decide) rfl
    simp only [Nat.reduceEqDiff, Nat.reduceAdd, Nat.reduceMul, Nat.reduceLeDiff, Nat.reduceLT, Int.reduceLE, Int.reduceLT, Int.reduceGT, Int.reduceGE, Int.reduceEq, Int.reduceNe, Int.reduceToNat, reduceCtorEq, ak, b11, g19, g20, g21, g22, g23]
    refine hJ18 _ ?_
    refine seq_k fun J24 hJ24 => ?_
    refine reg_k ?_
    simp only [Nat.reduceEqDiff, Nat.reduceAdd, Nat.reduceMul, Nat.reduceLeDiff, Nat.reduceLT, Int.reduceLE, Int.reduceLT, Int.reduceGT, Int.reduceGE, Int.reduceEq, Int.reduceNe, Int.reduceToNat, reduceCtorEq, ak]
    refine hJ24 _ ?_
    refine reg_k ?_
    have g25 : 0 + x0_1.toNat * 3 + 2 ≤ (encL c118 (x0_2.set x0_1.toNat (⟨x0_0, IntKind.i64.wrap (x0_0 + 1), (rd z118 x0_2 x0_1).f2⟩ : S118))).length := ((Vw.whole c118_w (x0_2.set x0_1.toNat (⟨x0_0, IntKind.i64.wrap (x0_0 + 1), (rd z118 x0_2 x0_1).f2⟩ : S118))).len_le b11.1 (lt_len b11.2 (by simp)) (by decide))
    have g26 : (encL c118 (x0_2.set x0_1.toNat (⟨x0_0, IntKind.i64.wrap (x0_0 + 1), (rd z118 x0_2 x0_1).f2⟩ : S118)))[0 + x0_1.toNat * 3 + 2]? = some (.own 1 (((rd z118 x0_2 x0_1).f2).length) (encL c_u8 ((rd z118 x0_2 x0_1).f2))) := encL_put_get c118_w (⟨x0_0, IntKind.i64.wrap (x0_0 + 1), (rd z118 x0_2 x0_1).f2⟩ : S118) b11.1 b11.2 (j := 2) (by decide)
    simp only [Nat.reduceEqDiff, Nat.reduceAdd, Nat.reduceMul, Nat.reduceLeDiff, Nat.reduceLT, Int.reduceLE, Int.reduceLT, Int.reduceGT, Int.reduceGE, Int.reduceEq, Int.reduceNe, Int.reduceToNat, reduceCtorEq, ak, b11, g25, g26]
    obtain ⟨t27, h28, h⟩ := of_bind h
    refine call_m [(.arg 0, ⟨(.arg 0), [0 + x0_1.toNat * 3 + 2], none, .lst⟩)] (s0 := [(.arg 0, ⟨.lst, 1, encL c_u8 ((rd z118 x0_2 x0_1).f2)⟩)]) (by intro t ht; cases ht; decide) rfl rfl (by first | rfl | simp only [reduceCtorEq, Nat.reduceEqDiff, ak, akF, b11, g12, g13, g14, g15, g16, g19, g20, g21, g22, g23, g25, g26]) (laws_markByteS.tri ((rd z118 x0_2 x0_1).f2) (IntKind.i64.wrap ((IntKind.i64.wrap (x0_0 + 1)) + 1)) _ h28) (by first | rfl | simp only [reduceCtorEq, Nat.reduceEqDiff, ak, akF]) (by simp [bkOk2, memK]) (fun hl28 => ?_)
    have g30 : t27.2.length = ((rd z118 x0_2 x0_1).f2).length := encL_len_inj c_u8_w (by decide) (hl28 0 (by decide) _ _ rfl rfl)
    refine call_st (s4 := [(.arg 0, ⟨.lst, 3, encL c118 (x0_2.set x0_1.toNat (⟨x0_0, IntKind.i64.wrap (x0_0 + 1), t27.2⟩ : S118))⟩)]) (m1' := []) (m2' := []) (v' := .c (.sc (.int .i64 t27.1))) (Sto.mapN_killNil _ _) (mrgL_nest' (cs := encL c_u8 ((rd z118 x0_2 x0_1).f2)) (cs' := encL c118 (x0_2.set x0_1.toNat (⟨x0_0, IntKind.i64.wrap (x0_0 + 1), t27.2⟩ : S118))) (mrgL_nil' _ _ _) rfl (by simp) (by rfl) (by first | rfl | simp only [reduceCtorEq, Nat.reduceEqDiff, ak, b11, g12, g13, g14, g15, g16, g19, g20, g21, g22, g23, g25, g26]) (by decide) (by simp only [reduceCtorEq, Nat.reduceEqDiff, ak, b11, g12, g13, g14, g15, g16, g19, g20, g21, g22, g23, g25, g26]; exact encL_mod2 c118_w b11.1 b11.2 (j := 2) (by decide) (by first | rfl | simp [c118, repl, g30]))) (by rfl) (mapT_killNil _ _) (by rfl) (by rfl) (by first | rfl | simp only [reduceCtorEq, Nat.reduceEqDiff, ak, akF, Nat.zero_add, List.append_nil, b11]) ?_
    simp only [Nat.reduceEqDiff, Nat.reduceAdd, Nat.reduceMul, Nat.reduceLeDiff, Nat.reduceLT, Int.reduceLE, Int.reduceLT, Int.reduceGT, Int.reduceGE, Int.reduceEq, Int.reduceNe, Int.reduceToNat, reduceCtorEq, ak, b11, g26]
    refine B9n _ ?_
    refine hJ8 _ ?_
    refine reg_k ?_
    simp only [Nat.reduceEqDiff, Nat.reduceAdd, Nat.reduceMul, Nat.reduceLeDiff, Nat.reduceLT, Int.reduceLE, Int.reduceLT, Int.reduceGT, Int.reduceGE, Int.reduceEq, Int.reduceNe, Int.reduceToNat, reduceCtorEq, ak]
    refine G0n _ (⟨[(0, .c (.ref (.arg 0) [] 0 ((x0_2.set x0_1.toNat (⟨x0_0, IntKind.i64.wrap (x0_0 + 1), t27.2⟩ : S118)).length))), (1, .c (.sc (.int .i64 t27.1))), (5, .c (.sc (.int .i64 (IntKind.i64.wrap (x0_1 + 1)))))], [(.arg 0, ⟨.lst, 3, encL c118 (x0_2.set x0_1.toNat (⟨x0_0, IntKind.i64.wrap (x0_0 + 1), t27.2⟩ : S118))⟩)], [], []⟩) (((Weak.keep [0, 1, 5]).trans ((Weak.foc [(.arg 0, ⟨(.arg 0), [], none, .lst⟩)] rfl (by first | rfl | simp only [reduceCtorEq, Nat.reduceEqDiff, ak, akF, b11]) (by simp [argK, akG, ak])).trans (Weak.of_eq (by first | rfl | (simp only [reduceCtorEq, Nat.reduceEqDiff, ak, akF, b11]; done) | (simp [reduceCtorEq, Nat.reduceEqDiff, ak, akF, b11]; done)))))) (ih _ _ _ _ h K hx0)
  · replace c7 := of_decide_eq_false c7; rw [if_neg c7] at h
    obtain rfl := Option.some.inj h
    refine gh_k (st' := ⟨[(1, .c (.sc (.int .i64 x0_0)))], [(.arg 0, ⟨.lst, 3, encL c118 x0_2⟩)], [], []⟩) (((Weak.keep [1]).trans ((Weak.foc [(.arg 0, ⟨(.arg 0), [], none, .lst⟩)] rfl (by first | rfl | simp only [reduceCtorEq, Nat.reduceEqDiff, ak, akF]) (by simp [argK, akG, ak])).trans (Weak.of_eq (by first | rfl | (simp only [reduceCtorEq, Nat.reduceEqDiff, ak, akF]; done) | (simp [reduceCtorEq, Nat.reduceEqDiff, ak, akF]; done)))))) ?_
    refine G0x _ _ ?_
    exact hx0
set_option maxRecDepth 100000 in
set_option maxHeartbeats 4000000 in
theorem laws_markReorderOutS.tri (l0 : List S118) (a1 : Int) (r : Int × (List S118)) (h : laws_markReorderOutS.f l0 a1 = some r) : Tri Try.prog 54 [.c (.ref (.arg 0) [] 0 l0.length), .c (.sc (.int .i64 a1))] [(.arg 0, ⟨.lst, 3, encL c118 l0⟩)] (fun o => o = ⟨.c (.sc (.int .i64 r.1)), [(.arg 0, ⟨.lst, 3, encL c118 r.2⟩)], [], []⟩) := by
  refine tri_of_body (ac := c54) (xs := r54) Try.func54 (show Try.f54.body = some (Try.f54.body.getD .skip) from rfl) k54 q54 (Nat.le_of_ble_eq_true rfl) ?_
  refine body_of fun K hKn hKr => ?_
  unfold laws_markReorderOutS.f at h
  unfold c54
  simp only [initT, Nat.reduceAdd]
  refine seq_k fun J1 hJ1 => ?_
  refine reg_k ?_
  simp only [Nat.reduceEqDiff, Nat.reduceAdd, Nat.reduceMul, Nat.reduceLeDiff, Nat.reduceLT, Int.reduceLE, Int.reduceLT, Int.reduceGT, Int.reduceGE, Int.reduceEq, Int.reduceNe, Int.reduceToNat, reduceCtorEq, ak]
  refine hJ1 _ ?_
  refine seq_k fun J2 hJ2 => ?_
  refine seq_k fun J3 hJ3 => ?_
  refine reg_k ?_
  simp only [Nat.reduceEqDiff, Nat.reduceAdd, Nat.reduceMul, Nat.reduceLeDiff, Nat.reduceLT, Int.reduceLE, Int.reduceLT, Int.reduceGT, Int.reduceGE, Int.reduceEq, Int.reduceNe, Int.reduceToNat, reduceCtorEq, ak]
  refine hJ3 _ ?_
  refine block_k fun B4 B4n B4x B4r B4j => ?_
  obtain ⟨y31, h32, h⟩ := of_bind h
  refine gh_k (st' := ⟨[(0, .c (.ref (.arg 0) [] 0 l0.length)), (1, .c (.sc (.int .i64 a1))), (5, .c (.sc (.int .i64 0)))], [(.arg 0, ⟨.lst, 3, encL c118 l0⟩)], [], []⟩) (((Weak.keep [0, 1, 5]).trans ((Weak.foc [(.arg 0, ⟨(.arg 0), [], none, .lst⟩)] rfl (by first | rfl | simp only [reduceCtorEq, Nat.reduceEqDiff, ak, akF]) (by simp [argK, akG, ak])).trans (Weak.of_eq (by first | rfl | (simp only [reduceCtorEq, Nat.reduceEqDiff, ak, akF]; done) | (simp [reduceCtorEq, Nat.reduceEqDiff, ak, akF]; done)))))) ?_
  rw [e_loop]
  refine laws_markReorderOutS.l0_walk a1 0 l0 _ h32 _ ?_
  refine B4x _ ?_
  refine hJ2 _ ?_
  refine seq_k fun J33 hJ33 => ?_
  refine reg_k ?_
  simp only [Nat.reduceEqDiff, Nat.reduceAdd, Nat.reduceMul, Nat.reduceLeDiff, Nat.reduceLT, Int.reduceLE, Int.reduceLT, Int.reduceGT, Int.reduceGE, Int.reduceEq, Int.reduceNe, Int.reduceToNat, reduceCtorEq, ak]
  refine hJ33 _ ?_
  obtain rfl := Option.some.inj h
  refine hKr _ ⟨_, rfl, [], _, rfl, rfl, ?_⟩
  first | rfl | (simp only [reduceCtorEq, Nat.reduceEqDiff, ak, akF]; done) | (simp [reduceCtorEq, Nat.reduceEqDiff, ak, akF]; done)
/-! ### laws.heldByteS: function 79 -/
def c79_l0 : AC := .seq (.seq (.reg [.op none (.mv 6 (.tmp 5)), .op none (.mv 7 (.tmp 0)), .op none (.len 8 (.tmp 7)), .op none (.bin 9 .lss (.tmp 6) (.tmp 8)), .keep [0, 1, 5, 9]]) (.cond (.tmp 9) (.skip) (.gh (.exit 0)))) (.seq (.block 1 (.seq (.seq (.reg [.op none (.mv 12 (.tmp 0)), .op none (.mv 13 (.tmp 5)), .op none (.iaddr 14 1 (.tmp 12) (.tmp 13)), .op none (.load 15 false 1 (.tmp 14)), .op none (.mv 16 (.tmp 1)), .op none (.conv 17 .u8 (.tmp 16)), .op none (.bin 18 .neq (.tmp 15) (.tmp 17)), .keep [0, 1, 5, 18]]) (.cond (.tmp 18) (.seq (.reg [.op none (.mv 4 (.const (.int .i64 (-1)))), .keep [4]]) (.gh .ret)) (.skip))) (.reg [.op none (.mv 19 (.tmp 1)), .op none (.bin 20 .add (.tmp 19) (.const (.int .i64 1))), .op none (.mv 1 (.tmp 20)), .keep [0, 1, 5]]))) (.reg [.op none (.mv 10 (.tmp 5)), .op none (.bin 11 .add (.tmp 10) (.const (.int .i64 1))), .op none (.mv 5 (.tmp 11)), .keep [0, 1, 5]]))
def c79 : AC := .seq (.reg [.op none (.mv 4 (.const (.int .i64 0))), .keep [0, 1]]) (.seq (.seq (.reg [.op none (.mv 5 (.const (.int .i64 0))), .keep [0, 1, 5]]) (.block 0 (.gh (.loop (.ga c79_l0))))) (.seq (.reg [.op none (.mv 21 (.tmp 1)), .op none (.mv 4 (.tmp 21)), .keep [4]]) (.ret)))
def r79 : List RV := [.tmp 4]
theorem k79 : compC Try.prog 22 (Try.f79.body.getD .skip) = some c79.erase := by kernel_rfl
theorem q79 : rvsOf Try.prog Try.f79.results.toList = some r79 := by kernel_rfl
def laws_heldByteS.l0 (l0 : List Int) (x0_0 : Int) (x0_1 : Int) : Option (Lp Int Unit) := (if x0_1 < (l0.length : Int) then (if 0 ≤ x0_1 ∧ x0_1 < (l0.length : Int) then (if (rd 0 l0 x0_1) ≠ IntKind.u8.wrap x0_0 then (some (.b ())) else (laws_heldByteS.l0 l0 (IntKind.i64.wrap (x0_0 + 1)) (IntKind.i64.wrap (x0_1 + 1)))) else none) else (some (.a x0_0)))
  partial_fixpoint
def laws_heldByteS.f (l0 : List Int) (a1 : Int) : Option Int := (laws_heldByteS.l0 l0 a1 0 >>= fun (y16 : Lp Int Unit) => match y16 with | .a x18 => (some x18) | .b x18 => (some (-1)))
set_option maxRecDepth 100000 in
set_option maxHeartbeats 4000000 in
theorem laws_heldByteS.l0_walk (cs0 : List Cell) (o0 : Nat) (l0 : List Int) (hv0 : Vw c_u8 1 cs0 o0 l0) (x0_0 : Int) (x0_1 : Int) (y : Lp Int Unit) (h : laws_heldByteS.l0 l0 x0_0 x0_1 = some y) (K : AE → St → Prop) (hx0 : ∀ x, y = .a x → K (.exit 0) ⟨[(1, .c (.sc (.int .i64 x)))], [(.arg 0, ⟨.fz, 1, cs0⟩)], [], []⟩) (hx1 : ∀ x, y = .b x → K .ret ⟨[(4, .c (.sc (.int .i64 (-1))))], [(.arg 0, ⟨.fz, 1, cs0⟩)], [], []⟩) : loopS Try.prog 22 (.ga c79_l0) K ⟨[(0, .c (.ref (.arg 0) [] o0 l0.length)), (1, .c (.sc (.int .i64 x0_0))), (5, .c (.sc (.int .i64 x0_1)))], [(.arg 0, ⟨.fz, 1, cs0⟩)], [], []⟩ := by
  refine laws_heldByteS.l0.partial_correctness l0 (motive := fun x0_0 x0_1 y => ∀ (K : AE → St → Prop), (∀ x, y = .a x → K (.exit 0) ⟨[(1, .c (.sc (.int .i64 x)))], [(.arg 0, ⟨.fz, 1, cs0⟩)], [], []⟩) → (∀ x, y = .b x → K .ret ⟨[(4, .c (.sc (.int .i64 (-1))))], [(.arg 0, ⟨.fz, 1, cs0⟩)], [], []⟩) → loopS Try.prog 22 (.ga c79_l0) K ⟨[(0, .c (.ref (.arg 0) [] o0 l0.length)), (1, .c (.sc (.int .i64 x0_0))), (5, .c (.sc (.int .i64 x0_1)))], [(.arg 0, ⟨.fz, 1, cs0⟩)], [], []⟩) ?_ x0_0 x0_1 y h K hx0 hx1
  clear h hx0 hx1
  intro rec ih x0_0 x0_1 y h K hx0 hx1
  refine loop_unroll (ga_k fun G0 G0n G0r G0x => ?_)
  unfold c79_l0
  refine seq_k fun J5 hJ5 => ?_
  refine seq_k fun J6 hJ6 => ?_
  refine reg_k ?_
  simp only [Nat.reduceEqDiff, Nat.reduceAdd, Nat.reduceMul, Nat.reduceLeDiff, Nat.reduceLT, Int.reduceLE, Int.reduceLT, Int.reduceGT, Int.reduceGE, Int.reduceEq, Int.reduceNe, Int.reduceToNat, reduceCtorEq, ak]
  refine hJ6 _ ?_
  refine cond_k (b := decide (x0_1 < (l0.length : Int))) rfl (fun c7 => ?_) (fun c7 => ?_)
  · replace c7 := of_decide_eq_true c7; rw [if_pos c7] at h
    refine hJ5 _ ?_
    refine seq_k fun J8 hJ8 => ?_
    refine block_k fun B9 B9n B9x B9r B9j => ?_
    refine seq_k fun J10 hJ10 => ?_
    refine seq_k fun J11 hJ11 => ?_
    refine reg_k ?_
    obtain ⟨b12, h⟩ := of_guard h
    have g13 : (cs0)[o0 + x0_1.toNat * 1]? = some (.sc (.int .u8 (rd 0 l0 x0_1))) := hv0.get 0 0 b12.1 b12.2 (by decide)
    simp only [Nat.reduceEqDiff, Nat.reduceAdd, Nat.reduceMul, Nat.reduceLeDiff, Nat.reduceLT, Int.reduceLE, Int.reduceLT, Int.reduceGT, Int.reduceGE, Int.reduceEq, Int.reduceNe, Int.reduceToNat, reduceCtorEq, ak, b12, g13]
    refine hJ11 _ ?_
    refine cond_k (b := decide ((rd 0 l0 x0_1) ≠ IntKind.u8.wrap x0_0)) rfl (fun c14 => ?_) (fun c14 => ?_)
    · replace c14 := of_decide_eq_true c14; rw [if_pos c14] at h
      refine seq_k fun J15 hJ15 => ?_
      refine reg_k ?_
      simp only [Nat.reduceEqDiff, Nat.reduceAdd, Nat.reduceMul, Nat.reduceLeDiff, Nat.reduceLT, Int.reduceLE, Int.reduceLT, Int.reduceGT, Int.reduceGE, Int.reduceEq, Int.reduceNe, Int.reduceToNat, reduceCtorEq, ak]
      refine hJ15 _ ?_
      obtain rfl := Option.some.inj h
      refine gh_k (st' := ⟨[(4, .c (.sc (.int .i64 (-1))))], [(.arg 0, ⟨.fz, 1, cs0⟩)], [], []⟩) (((Weak.keep [4]).trans ((Weak.foc [(.arg 0, ⟨(.arg 0), [], none, .fz⟩)] rfl (by first | rfl | simp only [reduceCtorEq, Nat.reduceEqDiff, ak, akF, b12]) (by simp [argK, akG, ak])).trans (Weak.of_eq (by first | rfl | (simp only [reduceCtorEq, Nat.reduceEqDiff, ak, akF, b12]; done) | (simp [reduceCtorEq, Nat.reduceEqDiff, ak, akF, b12]; done)))))) ?_
      refine B9r _ ?_
      refine G0r _ ?_
      exact hx1 _ rfl
    · replace c14 := of_decide_eq_false c14; rw [if_neg c14] at h
      refine hJ10 _ ?_
      refine reg_k ?_
      simp only [Nat.reduceEqDiff, Nat.reduceAdd, Nat.reduceMul, Nat.reduceLeDiff, Nat.reduceLT, Int.reduceLE, Int.reduceLT, Int.reduceGT, Int.reduceGE, Int.reduceEq, Int.reduceNe, Int.reduceToNat, reduceCtorEq, ak]
      refine B9n _ ?_
      refine hJ8 _ ?_
      refine reg_k ?_
      simp only [Nat.reduceEqDiff, Nat.reduceAdd, Nat.reduceMul, Nat.reduceLeDiff, Nat.reduceLT, Int.reduceLE, Int.reduceLT, Int.reduceGT, Int.reduceGE, Int.reduceEq, Int.reduceNe, Int.reduceToNat, reduceCtorEq, ak]
      refine G0n _ (⟨[(0, .c (.ref (.arg 0) [] o0 l0.length)), (1, .c (.sc (.int .i64 (IntKind.i64.wrap (x0_0 + 1))))), (5, .c (.sc (.int .i64 (IntKind.i64.wrap (x0_1 + 1)))))], [(.arg 0, ⟨.fz, 1, cs0⟩)], [], []⟩) (((Weak.keep [0, 1, 5]).trans ((Weak.foc [(.arg 0, ⟨(.arg 0), [], none, .fz⟩)] rfl (by first | rfl | simp only [reduceCtorEq, Nat.reduceEqDiff, ak, akF, b12]) (by simp [argK, akG, ak])).trans (Weak.of_eq (by first | rfl | (simp only [reduceCtorEq, Nat.reduceEqDiff, ak, akF, b12]; done) | (simp [reduceCtorEq, Nat.reduceEqDiff, ak, akF, b12]; done)))))) (ih _ _ _ h K hx0 hx1)
  · replace c7 := of_decide_eq_false c7; rw [if_neg c7] at h
    obtain rfl := Option.some.inj h
    refine gh_k (st' := ⟨[(1, .c (.sc (.int .i64 x0_0)))], [(.arg 0, ⟨.fz, 1, cs0⟩)], [], []⟩) (((Weak.keep [1]).trans ((Weak.foc [(.arg 0, ⟨(.arg 0), [], none, .fz⟩)] rfl (by first | rfl | simp only [reduceCtorEq, Nat.reduceEqDiff, ak, akF]) (by simp [argK, akG, ak])).trans (Weak.of_eq (by first | rfl | (simp only [reduceCtorEq, Nat.reduceEqDiff, ak, akF]; done) | (simp [reduceCtorEq, Nat.reduceEqDiff, ak, akF]; done)))))) ?_
    refine G0x _ _ ?_
    exact hx0 _ rfl
set_option maxRecDepth 100000 in
set_option maxHeartbeats 4000000 in
theorem laws_heldByteS.tri (cs0 : List Cell) (o0 : Nat) (l0 : List Int) (hv0 : Vw c_u8 1 cs0 o0 l0) (a1 : Int) (r : Int) (h : laws_heldByteS.f l0 a1 = some r) : Tri Try.prog 79 [.c (.ref (.arg 0) [] o0 l0.length), .c (.sc (.int .i64 a1))] [(.arg 0, ⟨.fz, 1, cs0⟩)] (fun o => o = ⟨.c (.sc (.int .i64 r)), [(.arg 0, ⟨.fz, 1, cs0⟩)], [], []⟩) := by
  refine tri_of_body (ac := c79) (xs := r79) Try.func79 (show Try.f79.body = some (Try.f79.body.getD .skip) from rfl) k79 q79 (Nat.le_of_ble_eq_true rfl) ?_
  refine body_of fun K hKn hKr => ?_
  unfold laws_heldByteS.f at h
  unfold c79
  simp only [initT, Nat.reduceAdd]
  refine seq_k fun J1 hJ1 => ?_
  refine reg_k ?_
  simp only [Nat.reduceEqDiff, Nat.reduceAdd, Nat.reduceMul, Nat.reduceLeDiff, Nat.reduceLT, Int.reduceLE, Int.reduceLT, Int.reduceGT, Int.reduceGE, Int.reduceEq, Int.reduceNe, Int.reduceToNat, reduceCtorEq, ak]
  refine hJ1 _ ?_
  refine seq_k fun J2 hJ2 => ?_
  refine seq_k fun J3 hJ3 => ?_
  refine reg_k ?_
  simp only [Nat.reduceEqDiff, Nat.reduceAdd, Nat.reduceMul, Nat.reduceLeDiff, Nat.reduceLT, Int.reduceLE, Int.reduceLT, Int.reduceGT, Int.reduceGE, Int.reduceEq, Int.reduceNe, Int.reduceToNat, reduceCtorEq, ak]
  refine hJ3 _ ?_
  refine block_k fun B4 B4n B4x B4r B4j => ?_
  obtain ⟨y16, h17, h⟩ := of_bind h
  refine gh_k (st' := ⟨[(0, .c (.ref (.arg 0) [] o0 l0.length)), (1, .c (.sc (.int .i64 a1))), (5, .c (.sc (.int .i64 0)))], [(.arg 0, ⟨.fz, 1, cs0⟩)], [], []⟩) (((Weak.keep [0, 1, 5]).trans ((Weak.foc [(.arg 0, ⟨(.arg 0), [], none, .fz⟩)] rfl (by first | rfl | simp only [reduceCtorEq, Nat.reduceEqDiff, ak, akF]) (by simp [argK, akG, ak])).trans (Weak.of_eq (by first | rfl | (simp only [reduceCtorEq, Nat.reduceEqDiff, ak, akF]; done) | (simp [reduceCtorEq, Nat.reduceEqDiff, ak, akF]; done)))))) ?_
  rw [e_loop]
  refine laws_heldByteS.l0_walk cs0 o0 l0 hv0 a1 0 _ h17 _ ?_ ?_
  · rintro x18 rfl
    dsimp only at h
    refine B4x _ ?_
    refine hJ2 _ ?_
    refine seq_k fun J19 hJ19 => ?_
    refine reg_k ?_
    simp only [Nat.reduceEqDiff, Nat.reduceAdd, Nat.reduceMul, Nat.reduceLeDiff, Nat.reduceLT, Int.reduceLE, Int.reduceLT, Int.reduceGT, Int.reduceGE, Int.reduceEq, Int.reduceNe, Int.reduceToNat, reduceCtorEq, ak]
    refine hJ19 _ ?_
    obtain rfl := Option.some.inj h
    refine hKr _ ⟨_, rfl, [], _, rfl, rfl, ?_⟩
    first | rfl | (simp only [reduceCtorEq, Nat.reduceEqDiff, ak, akF]; done) | (simp [reduceCtorEq, Nat.reduceEqDiff, ak, akF]; done)
  · rintro x18 rfl
    dsimp only at h
    refine B4r _ ?_
    obtain rfl := Option.some.inj h
    refine hKr _ ⟨_, rfl, [], _, rfl, rfl, ?_⟩
    first | rfl | (simp only [reduceCtorEq, Nat.reduceEqDiff, ak, akF]; done) | (simp [reduceCtorEq, Nat.reduceEqDiff, ak, akF]; done)
/-! ### laws.heldReorderOutS: function 55 -/
def c55_l0 : AC := .seq (.seq (.reg [.op none (.mv 6 (.tmp 5)), .op none (.mv 7 (.tmp 0)), .op none (.len 8 (.tmp 7)), .op none (.bin 9 .lss (.tmp 6) (.tmp 8)), .keep [0, 1, 5, 9]]) (.cond (.tmp 9) (.skip) (.gh (.exit 0)))) (.seq (.block 1 (.seq (.seq (.reg [.op none (.mv 12 (.tmp 0)), .op none (.mv 13 (.tmp 5)), .op none (.iaddr 14 3 (.tmp 12) (.tmp 13)), .op none (.faddr 15 0 (.tmp 14)), .op none (.load 16 false 1 (.tmp 15)), .op none (.mv 17 (.tmp 1)), .op none (.bin 18 .neq (.tmp 16) (.tmp 17)), .keep [0, 1, 5, 18]]) (.cond (.tmp 18) (.seq (.reg [.op none (.mv 4 (.const (.int .i64 (-1)))), .keep [4]]) (.gh .ret)) (.skip))) (.seq (.reg [.op none (.mv 19 (.tmp 1)), .op none (.bin 20 .add (.tmp 19) (.const (.int .i64 1))), .op none (.mv 1 (.tmp 20)), .keep [0, 1, 5]]) (.seq (.seq (.reg [.op none (.mv 21 (.tmp 0)), .op none (.mv 22 (.tmp 5)), .op none (.iaddr 23 3 (.tmp 21) (.tmp 22)), .op none (.faddr 24 1 (.tmp 23)), .op none (.load 25 false 1 (.tmp 24)), .op none (.mv 26 (.tmp 1)), .op none (.bin 27 .neq (.tmp 25) (.tmp 26)), .keep [0, 1, 5, 27]]) (.cond (.tmp 27) (.seq (.reg [.op none (.mv 4 (.const (.int .i64 (-1)))), .keep [4]]) (.gh .ret)) (.skip))) (.seq (.reg [.op none (.mv 28 (.tmp 1)), .op none (.bin 29 .add (.tmp 28) (.const (.int .i64 1))), .op none (.mv 1 (.tmp 29)), .keep [0, 1, 5]]) (.seq (.reg [.op none (.mv 30 (.tmp 0)), .op none (.mv 31 (.tmp 5)), .op none (.iaddr 32 3 (.tmp 30) (.tmp 31)), .op none (.faddr 33 2 (.tmp 32)), .op none (.load 34 false 1 (.tmp 33)), .op none (.mv 35 (.tmp 1)), .call none (some 36) 79 [.tmp 34, .tmp 35], .op none (.mv 1 (.tmp 36)), .keep [0, 1, 5]]) (.seq (.reg [.op none (.mv 37 (.tmp 1)), .op none (.bin 38 .lss (.tmp 37) (.const (.int .i64 0))), .keep [0, 1, 5, 38]]) (.cond (.tmp 38) (.seq (.reg [.op none (.mv 4 (.const (.int .i64 (-1)))), .keep [4]]) (.gh .ret)) (.skip))))))))) (.reg [.op none (.mv 10 (.tmp 5)), .op none (.bin 11 .add (.tmp 10) (.const (.int .i64 1))), .op none (.mv 5 (.tmp 11)), .keep [0, 1, 5]]))
def c55 : AC := .seq (.reg [.op none (.mv 4 (.const (.int .i64 0))), .keep [0, 1]]) (.seq (.seq (.reg [.op none (.mv 5 (.const (.int .i64 0))), .keep [0, 1, 5]]) (.block 0 (.gh (.loop (.ga c55_l0))))) (.seq (.reg [.op none (.mv 39 (.tmp 1)), .op none (.mv 4 (.tmp 39)), .keep [4]]) (.ret)))
def r55 : List RV := [.tmp 4]
theorem k55 : compC Try.prog 40 (Try.f55.body.getD .skip) = some c55.erase := by kernel_rfl
theorem q55 : rvsOf Try.prog Try.f55.results.toList = some r55 := by kernel_rfl
def laws_heldReorderOutS.l0 (l0 : List S118) (x0_0 : Int) (x0_1 : Int) : Option (Lp Int Unit) := (if x0_1 < (l0.length : Int) then (if 0 ≤ x0_1 ∧ x0_1 < (l0.length : Int) then (if (rd z118 l0 x0_1).f0 ≠ x0_0 then (some (.b ())) else (if (rd z118 l0 x0_1).f1 ≠ IntKind.i64.wrap (x0_0 + 1) then (some (.b ())) else (laws_heldByteS.f ((rd z118 l0 x0_1).f2) (IntKind.i64.wrap ((IntKind.i64.wrap (x0_0 + 1)) + 1)) >>= fun t28 => (if t28 < 0 then (some (.b ())) else (laws_heldReorderOutS.l0 l0 t28 (IntKind.i64.wrap (x0_1 + 1))))))) else none) else (some (.a x0_0)))
  partial_fixpoint
def laws_heldReorderOutS.f (l0 : List S118) (a1 : Int) : Option Int := (laws_heldReorderOutS.l0 l0 a1 0 >>= fun (y34 : Lp Int Unit) => match y34 with | .a x36 => (some x36) | .b x36 => (some (-1)))
set_option maxRecDepth 100000 in
set_option maxHeartbeats 4000000 in
theorem laws_heldReorderOutS.l0_walk (cs0 : List Cell) (o0 : Nat) (l0 : List S118) (hv0 : Vw c118 3 cs0 o0 l0) (x0_0 : Int) (x0_1 : Int) (y : Lp Int Unit) (h : laws_heldReorderOutS.l0 l0 x0_0 x0_1 = some y) (K : AE → St → Prop) (hx0 : ∀ x, y = .a x → K (.exit 0) ⟨[(1, .c (.sc (.int .i64 x)))], [(.arg 0, ⟨.fz, 3, cs0⟩)], [], []⟩) (hx1 : ∀ x, y = .b x → K .ret ⟨[(4, .c (.sc (.int .i64 (-1))))], [(.arg 0, ⟨.fz, 3, cs0⟩)], [], []⟩) : loopS Try.prog 40 (.ga c55_l0) K ⟨[(0, .c (.ref (.arg 0) [] o0 l0.length)), (1, .c (.sc (.int .i64 x0_0))), (5, .c (.sc (.int .i64 x0_1)))], [(.arg 0, ⟨.fz, 3, cs0⟩)], [], []⟩ := by
  refine laws_heldReorderOutS.l0.partial_correctness l0 (motive := fun x0_0 x0_1 y => ∀ (K : AE → St → Prop), (∀ x, y = .a x → K (.exit 0) ⟨[(1, .c (.sc (.int .i64 x)))], [(.arg 0, ⟨.fz, 3, cs0⟩)], [], []⟩) → (∀ x, y = .b x → K .ret ⟨[(4, .c (.sc (.int .i64 (-1))))], [(.arg 0, ⟨.fz, 3, cs0⟩)], [], []⟩) → loopS Try.prog 40 (.ga c55_l0) K ⟨[(0, .c (.ref (.arg 0) [] o0 l0.length)), (1, .c (.sc (.int .i64 x0_0))), (5, .c (.sc (.int .i64 x0_1)))], [(.arg 0, ⟨.fz, 3, cs0⟩)], [], []⟩) ?_ x0_0 x0_1 y h K hx0 hx1
  clear h hx0 hx1
  intro rec ih x0_0 x0_1 y h K hx0 hx1
  refine loop_unroll (ga_k fun G0 G0n G0r G0x => ?_)
  unfold c55_l0
  refine seq_k fun J5 hJ5 => ?_
  refine seq_k fun J6 hJ6 => ?_
  refine reg_k ?_
  simp only [Nat.reduceEqDiff, Nat.reduceAdd, Nat.reduceMul, Nat.reduceLeDiff, Nat.reduceLT, Int.reduceLE, Int.reduceLT, Int.reduceGT, Int.reduceGE, Int.reduceEq, Int.reduceNe, Int.reduceToNat, reduceCtorEq, ak]
  refine hJ6 _ ?_
  refine cond_k (b := decide (x0_1 < (l0.length : Int))) rfl (fun c7 => ?_) (fun c7 => ?_)
  · replace c7 := of_decide_eq_true c7; rw [if_pos c7] at h
    refine hJ5 _ ?_
    refine seq_k fun J8 hJ8 => ?_
    refine block_k fun B9 B9n B9x B9r B9j => ?_
    refine seq_k fun J10 hJ10 => ?_
    refine seq_k fun J11 hJ11 => ?_
    refine reg_k ?_
    obtain ⟨b12, h⟩ := of_guard h
    have g13 : o0 + x0_1.toNat * 3 + 0 ≤ (cs0).length := (hv0.len_le b12.1 b12.2 (by decide))
    have g14 : (cs0)[o0 + x0_1.toNat * 3 + 0]? = some (.sc (.int .i64 ((rd z118 l0 x0_1).f0))) := hv0.get z118 0 b12.1 b12.2 (by decide)
    simp only [Nat.reduceEqDiff, Nat.reduceAdd, Nat.reduceMul, Nat.reduceLeDiff, Nat.reduceLT, Int.reduceLE, Int.reduceLT, Int.reduceGT, Int.reduceGE, Int.reduceEq, Int.reduceNe, Int.reduceToNat, reduceCtorEq, ak, b12, g13, g14]
    refine hJ11 _ ?_
    refine cond_k (b := decide ((rd z118 l0 x0_1).f0 ≠ x0_0)) rfl (fun c15 => ?_) (fun c15 => ?_)
    · replace c15 := of_decide_eq_true c15; rw [if_pos c15] at h
      refine seq_k fun J16 hJ16 => ?_
      refine reg_k ?_
      simp only [Nat.reduceEqDiff, Nat.reduceAdd, Nat.reduceMul, Nat.reduceLeDiff, Nat.reduceLT, Int.reduceLE, Int.reduceLT, Int.reduceGT, Int.reduceGE, Int.reduceEq, Int.reduceNe, Int.reduceToNat, reduceCtorEq, ak]
      refine hJ16 _ ?_
      obtain rfl := Option.some.inj h
      refine gh_k (st' := ⟨[(4, .c (.sc (.int .i64 (-1))))], [(.arg 0, ⟨.fz, 3, cs0⟩)], [], []⟩) (((Weak.keep [4]).trans ((Weak.foc [(.arg 0, ⟨(.arg 0), [], none, .fz⟩)] rfl (by first | rfl | simp only [reduceCtorEq, Nat.reduceEqDiff, ak, akF, b12]) (by simp [argK, akG, ak])).trans (Weak.of_eq (by first | rfl | (simp only [reduceCtorEq, Nat.reduceEqDiff, ak, akF, b12]; done) | (simp [reduceCtorEq, Nat.reduceEqDiff, ak, akF, b12]; done)))))) ?_
      refine B9r _ ?_
      refine G0r _ ?_
      exact hx1 _ rfl
    · replace c15 := of_decide_eq_false c15; rw [if_neg c15] at h
      refine hJ10 _ ?_
      refine seq_k fun J17 hJ17 => ?_
      refine reg_k ?_
      simp only [Nat.reduceEqDiff, Nat.reduceAdd, Nat.reduceMul, Nat.reduceLeDiff, Nat.reduceLT, Int.reduceLE, Int.reduceLT, Int.reduceGT, Int.reduceGE, Int.reduceEq, Int.reduceNe, Int.reduceToNat, reduceCtorEq, ak]
      refine hJ17 _ ?_
      refine seq_k fun J18 hJ18 => ?_
      refine seq_k fun J19 hJ19 => ?_
      refine reg_k ?_
      have g20 : o0 + x0_1.toNat * 3 + 1 ≤ (cs0).length := (hv0.len_le b12.1 b12.2 (by decide))
      have g21 : (cs0)[o0 + x0_1.toNat * 3 + 1]? = some (.sc (.int .i64 ((rd z118 l0 x0_1).f1))) := hv0.get z118 1 b12.1 b12.2 (by decide)
      simp only [Nat.reduceEqDiff, Nat.reduceAdd, Nat.reduceMul, Nat.reduceLeDiff, Nat.reduceLT, Int.reduceLE, Int.reduceLT, Int.reduceGT, Int.reduceGE, Int.reduceEq, Int.reduceNe, Int.reduceToNat, reduceCtorEq, ak, b12, g20, g21]
      refine hJ19 _ ?_
      refine cond_k (b := decide ((rd z118 l0 x0_1).f1 ≠ IntKind.i64.wrap (x0_0 + 1))) rfl (fun c22 => ?_) (fun c22 => ?_)
      · replace c22 := of_decide_eq_true c22; rw [if_pos c22] at h
        refine seq_k fun J23 hJ23 => ?_
        refine reg_k ?_
        simp only [Nat.reduceEqDiff, Nat.reduceAdd, Nat.reduceMul, Nat.reduceLeDiff, Nat.reduceLT, Int.reduceLE, Int.reduceLT, Int.reduceGT, Int.reduceGE, Int.reduceEq, Int.reduceNe, Int.reduceToNat, reduceCtorEq, ak]
        refine hJ23 _ ?_
        obtain rfl := Option.some.inj h
        refine gh_k (st' := ⟨[(4, .c (.sc (.int .i64 (-1))))], [(.arg 0, ⟨.fz, 3, cs0⟩)], [], []⟩) (((Weak.keep [4]).trans ((Weak.foc [(.arg 0, ⟨(.arg 0), [], none, .fz⟩)] rfl (by first | rfl | simp only [reduceCtorEq, Nat.reduceEqDiff, ak, akF, b12]) (by simp [argK, akG, ak])).trans (Weak.of_eq (by first | rfl | (simp only [reduceCtorEq, Nat.reduceEqDiff, ak, akF, b12]; done) | (simp [reduceCtorEq, Nat.reduceEqDiff, ak, akF, b12]; done)))))) ?_
        refine B9r _ ?_
        refine G0r _ ?_
        exact hx1 _ rfl
      · replace c22 := of_decide_eq_false c22; rw [if_neg c22] at h
        refine hJ18 _ ?_
        refine seq_k fun J24 hJ24 => ?_
        refine reg_k ?_
        simp only [Nat.reduceEqDiff, Nat.reduceAdd, Nat.reduceMul, Nat.reduceLeDiff, Nat.reduceLT, Int.reduceLE, Int.reduceLT, Int.reduceGT, Int.reduceGE, Int.reduceEq, Int.reduceNe, Int.reduceToNat, reduceCtorEq, ak]
        refine hJ24 _ ?_
        refine seq_k fun J25 hJ25 => ?_
        refine reg_k ?_
        have g26 : o0 + x0_1.toNat * 3 + 2 ≤ (cs0).length := (hv0.len_le b12.1 b12.2 (by decide))
        have g27 : (cs0)[o0 + x0_1.toNat * 3 + 2]? = some (.own 1 (((rd z118 l0 x0_1).f2).length) (encL c_u8 ((rd z118 l0 x0_1).f2))) := hv0.get z118 2 b12.1 b12.2 (by decide)
        simp only [Nat.reduceEqDiff, Nat.reduceAdd, Nat.reduceMul, Nat.reduceLeDiff, Nat.reduceLT, Int.reduceLE, Int.reduceLT, Int.reduceGT, Int.reduceGE, Int.reduceEq, Int.reduceNe, Int.reduceToNat, reduceCtorEq, ak, b12, g26, g27]
        obtain ⟨t28, h29, h⟩ := of_bind h
        refine call_m [(.arg 0, ⟨(.arg 0), [o0 + x0_1.toNat * 3 + 2], none, .fz⟩)] (s0 := [(.arg 0, ⟨.fz, 1, encL c_u8 ((rd z118 l0 x0_1).f2)⟩)]) (by intro t ht; cases ht; decide) rfl rfl (by first | rfl | simp only [reduceCtorEq, Nat.reduceEqDiff, ak, akF, b12, g13, g14, g20, g21, g26, g27]) (laws_heldByteS.tri (encL c_u8 ((rd z118 l0 x0_1).f2)) 0 ((rd z118 l0 x0_1).f2) (Vw.whole c_u8_w ((rd z118 l0 x0_1).f2)) (IntKind.i64.wrap ((IntKind.i64.wrap (x0_0 + 1)) + 1)) _ h29) (by first | rfl | simp only [reduceCtorEq, Nat.reduceEqDiff, ak, akF]) (by simp [bkOk2, memK]) (fun hl29 => ?_)
        refine call_st (s4 := [(.arg 0, ⟨.fz, 3, cs0⟩)]) (m1' := []) (m2' := []) (v' := .c (.sc (.int .i64 t28))) (Sto.mapN_killNil _ _) (mrgL_fz (mrgL_nil' _ _ _) rfl (by first | rfl | simp only [reduceCtorEq, Nat.reduceEqDiff, ak, b12, g13, g14, g20, g21, g26, g27]) rfl (by intro R hR hh; cases hh.1)) (by rfl) (mapT_killNil _ _) (by rfl) (by rfl) (by first | rfl | simp only [reduceCtorEq, Nat.reduceEqDiff, ak, akF, Nat.zero_add, List.append_nil, b12]) ?_
        simp only [Nat.reduceEqDiff, Nat.reduceAdd, Nat.reduceMul, Nat.reduceLeDiff, Nat.reduceLT, Int.reduceLE, Int.reduceLT, Int.reduceGT, Int.reduceGE, Int.reduceEq, Int.reduceNe, Int.reduceToNat, reduceCtorEq, ak, b12, g27]
        refine hJ25 _ ?_
        refine seq_k fun J31 hJ31 => ?_
        refine reg_k ?_
        simp only [Nat.reduceEqDiff, Nat.reduceAdd, Nat.reduceMul, Nat.reduceLeDiff, Nat.reduceLT, Int.reduceLE, Int.reduceLT, Int.reduceGT, Int.reduceGE, Int.reduceEq, Int.reduceNe, Int.reduceToNat, reduceCtorEq, ak]
        refine hJ31 _ ?_
        refine cond_k (b := decide (t28 < 0)) rfl (fun c32 => ?_) (fun c32 => ?_)
        · replace c32 := of_decide_eq_true c32; rw [if_pos c32] at h
          refine seq_k fun J33 hJ33 => ?_
          refine reg_k ?_
          simp only [Nat.reduceEqDiff, Nat.reduceAdd, Nat.reduceMul, Nat.reduceLeDiff, Nat.reduceLT, Int.reduceLE, Int.reduceLT, Int.reduceGT, Int.reduceGE, Int.reduceEq, Int.reduceNe, Int.reduceToNat, reduceCtorEq, ak]
          refine hJ33 _ ?_
          obtain rfl := Option.some.inj h
          refine gh_k (st' := ⟨[(4, .c (.sc (.int .i64 (-1))))], [(.arg 0, ⟨.fz, 3, cs0⟩)], [], []⟩) (((Weak.keep [4]).trans ((Weak.foc [(.arg 0, ⟨(.arg 0), [], none, .fz⟩)] rfl (by first | rfl | simp only [reduceCtorEq, Nat.reduceEqDiff, ak, akF, b12]) (by simp [argK, akG, ak])).trans (Weak.of_eq (by first | rfl | (simp only [reduceCtorEq, Nat.reduceEqDiff, ak, akF, b12]; done) | (simp [reduceCtorEq, Nat.reduceEqDiff, ak, akF, b12]; done)))))) ?_
          refine B9r _ ?_
          refine G0r _ ?_
          exact hx1 _ rfl
        · replace c32 := of_decide_eq_false c32; rw [if_neg c32] at h
          refine B9n _ ?_
          refine hJ8 _ ?_
          refine reg_k ?_
          simp only [Nat.reduceEqDiff, Nat.reduceAdd, Nat.reduceMul, Nat.reduceLeDiff, Nat.reduceLT, Int.reduceLE, Int.reduceLT, Int.reduceGT, Int.reduceGE, Int.reduceEq, Int.reduceNe, Int.reduceToNat, reduceCtorEq, ak]
          refine G0n _ (⟨[(0, .c (.ref (.arg 0) [] o0 l0.length)), (1, .c (.sc (.int .i64 t28))), (5, .c (.sc (.int .i64 (IntKind.i64.wrap (x0_1 + 1)))))], [(.arg 0, ⟨.fz, 3, cs0⟩)], [], []⟩) (((Weak.keep [0, 1, 5]).trans ((Weak.foc [(.arg 0, ⟨(.arg 0), [], none, .fz⟩)] rfl (by first | rfl | simp only [reduceCtorEq, Nat.reduceEqDiff, ak, akF, b12]) (by simp [argK, akG, ak])).trans (Weak.of_eq (by first | rfl | (simp only [reduceCtorEq, Nat.reduceEqDiff, ak, akF, b12]; done) | (simp [reduceCtorEq, Nat.reduceEqDiff, ak, akF, b12]; done)))))) (ih _ _ _ h K hx0 hx1)
  · replace c7 := of_decide_eq_false c7; rw [if_neg c7] at h
    obtain rfl := Option.some.inj h
    refine gh_k (st' := ⟨[(1, .c (.sc (.int .i64 x0_0)))], [(.arg 0, ⟨.fz, 3, cs0⟩)], [], []⟩) (((Weak.keep [1]).trans ((Weak.foc [(.arg 0, ⟨(.arg 0), [], none, .fz⟩)] rfl (by first | rfl | simp only [reduceCtorEq, Nat.reduceEqDiff, ak, akF]) (by simp [argK, akG, ak])).trans (Weak.of_eq (by first | rfl | (simp only [reduceCtorEq, Nat.reduceEqDiff, ak, akF]; done) | (simp [reduceCtorEq, Nat.reduceEqDiff, ak, akF]; done)))))) ?_
    refine G0x _ _ ?_
    exact hx0 _ rfl
set_option maxRecDepth 100000 in
set_option maxHeartbeats 4000000 in
theorem laws_heldReorderOutS.tri (cs0 : List Cell) (o0 : Nat) (l0 : List S118) (hv0 : Vw c118 3 cs0 o0 l0) (a1 : Int) (r : Int) (h : laws_heldReorderOutS.f l0 a1 = some r) : Tri Try.prog 55 [.c (.ref (.arg 0) [] o0 l0.length), .c (.sc (.int .i64 a1))] [(.arg 0, ⟨.fz, 3, cs0⟩)] (fun o => o = ⟨.c (.sc (.int .i64 r)), [(.arg 0, ⟨.fz, 3, cs0⟩)], [], []⟩) := by
  refine tri_of_body (ac := c55) (xs := r55) Try.func55 (show Try.f55.body = some (Try.f55.body.getD .skip) from rfl) k55 q55 (Nat.le_of_ble_eq_true rfl) ?_
  refine body_of fun K hKn hKr => ?_
  unfold laws_heldReorderOutS.f at h
  unfold c55
  simp only [initT, Nat.reduceAdd]
  refine seq_k fun J1 hJ1 => ?_
  refine reg_k ?_
  simp only [Nat.reduceEqDiff, Nat.reduceAdd, Nat.reduceMul, Nat.reduceLeDiff, Nat.reduceLT, Int.reduceLE, Int.reduceLT, Int.reduceGT, Int.reduceGE, Int.reduceEq, Int.reduceNe, Int.reduceToNat, reduceCtorEq, ak]
  refine hJ1 _ ?_
  refine seq_k fun J2 hJ2 => ?_
  refine seq_k fun J3 hJ3 => ?_
  refine reg_k ?_
  simp only [Nat.reduceEqDiff, Nat.reduceAdd, Nat.reduceMul, Nat.reduceLeDiff, Nat.reduceLT, Int.reduceLE, Int.reduceLT, Int.reduceGT, Int.reduceGE, Int.reduceEq, Int.reduceNe, Int.reduceToNat, reduceCtorEq, ak]
  refine hJ3 _ ?_
  refine block_k fun B4 B4n B4x B4r B4j => ?_
  obtain ⟨y34, h35, h⟩ := of_bind h
  refine gh_k (st' := ⟨[(0, .c (.ref (.arg 0) [] o0 l0.length)), (1, .c (.sc (.int .i64 a1))), (5, .c (.sc (.int .i64 0)))], [(.arg 0, ⟨.fz, 3, cs0⟩)], [], []⟩) (((Weak.keep [0, 1, 5]).trans ((Weak.foc [(.arg 0, ⟨(.arg 0), [], none, .fz⟩)] rfl (by first | rfl | simp only [reduceCtorEq, Nat.reduceEqDiff, ak, akF]) (by simp [argK, akG, ak])).trans (Weak.of_eq (by first | rfl | (simp only [reduceCtorEq, Nat.reduceEqDiff, ak, akF]; done) | (simp [reduceCtorEq, Nat.reduceEqDiff, ak, akF]; done)))))) ?_
  rw [e_loop]
  refine laws_heldReorderOutS.l0_walk cs0 o0 l0 hv0 a1 0 _ h35 _ ?_ ?_
  · rintro x36 rfl
    dsimp only at h
    refine B4x _ ?_
    refine hJ2 _ ?_
    refine seq_k fun J37 hJ37 => ?_
    refine reg_k ?_
    simp only [Nat.reduceEqDiff, Nat.reduceAdd, Nat.reduceMul, Nat.reduceLeDiff, Nat.reduceLT, Int.reduceLE, Int.reduceLT, Int.reduceGT, Int.reduceGE, Int.reduceEq, Int.reduceNe, Int.reduceToNat, reduceCtorEq, ak]
    refine hJ37 _ ?_
    obtain rfl := Option.some.inj h
    refine hKr _ ⟨_, rfl, [], _, rfl, rfl, ?_⟩
    first | rfl | (simp only [reduceCtorEq, Nat.reduceEqDiff, ak, akF]; done) | (simp [reduceCtorEq, Nat.reduceEqDiff, ak, akF]; done)
  · rintro x36 rfl
    dsimp only at h
    refine B4r _ ?_
    obtain rfl := Option.some.inj h
    refine hKr _ ⟨_, rfl, [], _, rfl, rfl, ?_⟩
    first | rfl | (simp only [reduceCtorEq, Nat.reduceEqDiff, ak, akF]; done) | (simp [reduceCtorEq, Nat.reduceEqDiff, ak, akF]; done)
/-! ### laws.FnExactReorderRun: function 10 -/
def c10 : AC := .seq (.reg [.op none (.mv 6 (.const (.bool false))), .keep [0, 1, 2]]) (.seq (.reg [.op none (.mv 7 (.const (.int .i64 1048576))), .keep [0, 1, 2, 7]]) (.seq (.reg [.op none (.mv 18 (.tmp 2)), .op none (.mv 19 (.tmp 7)), .call none (some 20) 47 [.tmp 18, .tmp 19], .op none (.mv 7 (.tmp 20)), .keep [0, 1, 2, 7]]) (.seq (.seq (.reg [.op none (.mv 21 (.tmp 7)), .op none (.bin 22 .lss (.tmp 21) (.const (.int .i64 0))), .keep [0, 1, 2, 22]]) (.cond (.tmp 22) (.seq (.reg [.op none (.mv 6 (.const (.bool true))), .keep [6]]) (.ret)) (.skip))) (.seq (.reg [.op none (.mv 24 (.tmp 0)), .op none (.mv 25 (.tmp 1)), .op none (.mv 26 (.tmp 2)), .call none (some 27) 49 [.tmp 26], .call none (some 28) 48 [.tmp 24, .tmp 25, .tmp 27], .op none (.mv 23 (.tmp 28)), .op none (.extr 29 (.tmp 23) 0), .op none (.extr 30 (.tmp 23) 1), .op none (.mv 8 (.tmp 29)), .op none (.mv 9 (.tmp 30)), .keep [0, 1, 2, 8, 9]]) (.seq (.reg [.op none (.mv 31 (.tmp 2)), .call none (some 32) 49 [.tmp 31], .op none (.mv 10 (.tmp 32)), .keep [0, 1, 2, 8, 9, 10]]) (.seq (.reg [.op none (.mv 34 (.tmp 0)), .op none (.mv 35 (.tmp 1)), .op none (.mv 36 (.tmp 10)), .call none (some 37) 50 [.tmp 34, .tmp 35, .tmp 36], .op none (.mv 33 (.tmp 37)), .op none (.extr 38 (.tmp 33) 0), .op none (.extr 39 (.tmp 33) 1), .op none (.mv 11 (.tmp 38)), .op none (.mv 12 (.tmp 39)), .keep [0, 1, 2, 8, 9, 10, 11, 12]]) (.seq (.seq (.ga (.reg [.op none (.mv 40 (.tmp 11)), .op none (.mv 41 (.tmp 8)), .call none (some 42) 51 [.tmp 40, .tmp 41], .op none (.un 43 .not (.tmp 42)), .op none (.mv 44 (.tmp 43)), .op (some (44, false)) (.mv 45 (.tmp 12)), .op (some (44, false)) (.mv 46 (.tmp 9)), .op (some (44, false)) (.bin 47 .neq (.tmp 45) (.tmp 46)), .op none (.pick 48 (.tmp 44) (.const (.bool true)) (.tmp 47)), .keep [0, 1, 2, 8, 9, 10, 11, 12, 48]])) (.cond (.tmp 48) (.seq (.reg [.op none (.mv 6 (.const (.bool false))), .keep [6]]) (.ret)) (.skip))) (.seq (.seq (.reg [.op none (.mv 49 (.tmp 10)), .op none (.mv 50 (.tmp 2)), .call none (some 51) 49 [.tmp 50], .call none (some 52) 52 [.tmp 49, .tmp 51], .op none (.un 53 .not (.tmp 52)), .keep [0, 1, 2, 8, 9, 10, 11, 12, 53]]) (.cond (.tmp 53) (.seq (.reg [.op none (.mv 6 (.const (.bool false))), .keep [6]]) (.ret)) (.skip))) (.seq (.reg [.op none (.mv 13 (.const (.int .i64 1))), .keep [0, 1, 2, 8, 9, 10, 11, 12, 13]]) (.seq (.reg [.op none (.mv 54 (.tmp 10)), .op none (.mv 55 (.tmp 13)), .call none (some 56) 53 [.tmp 54, .tmp 55], .op none (.mv 13 (.tmp 56)), .keep [0, 1, 2, 8, 9, 11, 12, 13]]) (.seq (.seq (.ga (.reg [.op none (.mv 57 (.tmp 13)), .op none (.bin 58 .lss (.tmp 57) (.const (.int .i64 0))), .op none (.mv 59 (.tmp 58)), .op (some (59, false)) (.mv 60 (.tmp 11)), .op (some (59, false)) (.mv 61 (.tmp 8)), .call (some (59, false)) (some 62) 51 [.tmp 60, .tmp 61], .op (some (59, false)) (.un 63 .not (.tmp 62)), .op none (.pick 64 (.tmp 59) (.const (.bool true)) (.tmp 63)), .op none (.mv 65 (.tmp 64)), .op (some (65, false)) (.mv 66 (.tmp 12)), .op (some (65, false)) (.mv 67 (.tmp 9)), .op (some (65, false)) (.bin 68 .neq (.tmp 66) (.tmp 67)), .op none (.pick 69 (.tmp 65) (.const (.bool true)) (.tmp 68)), .keep [0, 1, 2, 8, 9, 11, 69]])) (.cond (.tmp 69) (.seq (.reg [.op none (.mv 6 (.const (.bool false))), .keep [6]]) (.ret)) (.skip))) (.seq (.reg [.op none (.mv 14 (.const (.int .i64 1))), .keep [0, 1, 2, 8, 9, 11, 14]]) (.seq (.reg [.op none (.mv 70 (.tmp 11)), .op none (.mv 71 (.tmp 14)), .call none (some 72) 54 [.tmp 70, .tmp 71], .op none (.mv 14 (.tmp 72)), .keep [0, 1, 2, 8, 9, 11, 14]]) (.seq (.reg [.op none (.mv 15 (.const (.int .i64 1))), .keep [0, 1, 2, 8, 9, 11, 14, 15]]) (.seq (.reg [.op none (.mv 73 (.tmp 11)), .op none (.mv 74 (.tmp 15)), .call none (some 75) 55 [.tmp 73, .tmp 74], .op none (.mv 15 (.tmp 75)), .keep [0, 1, 2, 8, 9, 14, 15]]) (.seq (.seq (.reg [.op none (.mv 76 (.tmp 15)), .op none (.bin 77 .lss (.tmp 76) (.const (.int .i64 0))), .keep [0, 1, 2, 8, 9, 14, 15, 77]]) (.cond (.tmp 77) (.seq (.reg [.op none (.mv 6 (.const (.bool false))), .keep [6]]) (.ret)) (.skip))) (.seq (.seq (.reg [.op none (.mv 78 (.tmp 15)), .op none (.mv 79 (.tmp 14)), .op none (.bin 80 .neq (.tmp 78) (.tmp 79)), .keep [0, 1, 2, 8, 9, 80]]) (.cond (.tmp 80) (.seq (.reg [.op none (.mv 6 (.const (.bool false))), .keep [6]]) (.ret)) (.skip))) (.seq (.reg [.op none (.mv 82 (.tmp 0)), .op none (.mv 83 (.tmp 1)), .op none (.mv 84 (.tmp 2)), .call none (some 85) 49 [.tmp 84], .call none (some 86) 50 [.tmp 82, .tmp 83, .tmp 85], .op none (.mv 81 (.tmp 86)), .op none (.extr 87 (.tmp 81) 0), .op none (.extr 88 (.tmp 81) 1), .op none (.mv 16 (.tmp 87)), .op none (.mv 17 (.tmp 88)), .keep [8, 9, 16, 17]]) (.seq (.seq (.ga (.reg [.op none (.mv 89 (.tmp 16)), .op none (.mv 90 (.tmp 8)), .call none (some 91) 51 [.tmp 89, .tmp 90], .op none (.un 92 .not (.tmp 91)), .op none (.mv 93 (.tmp 92)), .op (some (93, false)) (.mv 94 (.tmp 17)), .op (some (93, false)) (.mv 95 (.tmp 9)), .op (some (93, false)) (.bin 96 .neq (.tmp 94) (.tmp 95)), .op none (.pick 97 (.tmp 93) (.const (.bool true)) (.tmp 96)), .keep [97]])) (.cond (.tmp 97) (.seq (.reg [.op none (.mv 6 (.const (.bool false))), .keep [6]]) (.ret)) (.skip))) (.seq (.reg [.op none (.mv 6 (.const (.bool true))), .keep [6]]) (.ret)))))))))))))))))))))
def r10 : List RV := [.tmp 6]
theorem k10 : compC Try.prog 98 (Try.f10.body.getD .skip) = some c10.erase := by kernel_rfl
theorem q10 : rvsOf Try.prog Try.f10.results.toList = some r10 := by kernel_rfl
def laws_FnExactReorderRun.f (a0 : Int) (a1 : Int) (l2 : List S172) : Option Bool := (laws_szReorderEventS.f l2 1048576 >>= fun t4 => (if t4 < 0 then (some true) else (laws_toReorderEventS.f l2 >>= fun t12 => (spec_ReorderRun.f a0 a1 t12 >>= fun t15 => (impl_ReorderRun.f a0 a1 t12 >>= fun t21 => ((laws_eqReorderOutS.f t21.1 t15.1 >>= fun t29 => (if (!t29) = true then (some true) else (some (decide (t21.2 ≠ t15.2))))) >>= fun (j25 : Bool) => (if j25 = true then (some false) else (laws_eqReorderEventS.f t12 t12 >>= fun t40 => (if (!t40) = true then (some false) else (laws_markReorderEventS.f t12 1 >>= fun t47 => ((if t47.1 < 0 then (some true) else (laws_eqReorderOutS.f t21.1 t15.1 >>= fun t59 => (if (!t59) = true then (some true) else (some (decide (t21.2 ≠ t15.2)))))) >>= fun (j52 : Bool) => (if j52 = true then (some false) else (laws_markReorderOutS.f t21.1 1 >>= fun t69 => (laws_heldReorderOutS.f t69.2 1 >>= fun t75 => (if t75 < 0 then (some false) else (if t75 ≠ t69.1 then (some false) else ((laws_eqReorderOutS.f t21.1 t15.1 >>= fun t94 => (if (!t94) = true then (some true) else (some (decide (t21.2 ≠ t15.2))))) >>= fun (j90 : Bool) => (if j90 = true then (some false) else (some true)))))))))))))))))))
set_option maxRecDepth 100000 in
set_option maxHeartbeats 4000000 in
theorem laws_FnExactReorderRun.tri (cs0 : List Cell) (o0 : Nat) (l2 : List S172) (hv0 : Vw c172 4 cs0 o0 l2) (a0 : Int) (a1 : Int) (r : Bool) (h : laws_FnExactReorderRun.f a0 a1 l2 = some r) : Tri Try.prog 10 [.c (.sc (.int .u64 a0)), .c (.sc (.int .i64 a1)), .c (.ref (.arg 0) [] o0 l2.length)] [(.arg 0, ⟨.fz, 4, cs0⟩)] (fun o => o = ⟨.c (.sc (.bool r)), [(.arg 0, ⟨.fz, 4, cs0⟩)], [], []⟩) := by
  refine tri_of_body (ac := c10) (xs := r10) Try.func10 (show Try.f10.body = some (Try.f10.body.getD .skip) from rfl) k10 q10 (Nat.le_of_ble_eq_true rfl) ?_
  refine body_of fun K hKn hKr => ?_
  unfold laws_FnExactReorderRun.f at h
  unfold c10
  simp only [initT, Nat.reduceAdd]
  refine seq_k fun J1 hJ1 => ?_
  refine reg_k ?_
  simp only [Nat.reduceEqDiff, Nat.reduceAdd, Nat.reduceMul, Nat.reduceLeDiff, Nat.reduceLT, Int.reduceLE, Int.reduceLT, Int.reduceGT, Int.reduceGE, Int.reduceEq, Int.reduceNe, Int.reduceToNat, reduceCtorEq, ak]
  refine hJ1 _ ?_
  refine seq_k fun J2 hJ2 => ?_
  refine reg_k ?_
  simp only [Nat.reduceEqDiff, Nat.reduceAdd, Nat.reduceMul, Nat.reduceLeDiff, Nat.reduceLT, Int.reduceLE, Int.reduceLT, Int.reduceGT, Int.reduceGE, Int.reduceEq, Int.reduceNe, Int.reduceToNat, reduceCtorEq, ak]
  refine hJ2 _ ?_
  refine seq_k fun J3 hJ3 => ?_
  refine reg_k ?_
  simp only [Nat.reduceEqDiff, Nat.reduceAdd, Nat.reduceMul, Nat.reduceLeDiff, Nat.reduceLT, Int.reduceLE, Int.reduceLT, Int.reduceGT, Int.reduceGE, Int.reduceEq, Int.reduceNe, Int.reduceToNat, reduceCtorEq, ak]
  obtain ⟨t4, h5, h⟩ := of_bind h
  refine call_m [(.arg 0, ⟨(.arg 0), [], none, .fz⟩)] (s0 := [(.arg 0, ⟨.fz, 4, cs0⟩)]) (by intro t ht; cases ht; decide) rfl rfl (by first | rfl | simp only [reduceCtorEq, Nat.reduceEqDiff, ak, akF]) (laws_szReorderEventS.tri (cs0) o0 l2 hv0 1048576 _ h5) (by first | rfl | simp only [reduceCtorEq, Nat.reduceEqDiff, ak, akF]) (by simp [bkOk2, memK]) (fun hl5 => ?_)
  refine call_st (s4 := [(.arg 0, ⟨.fz, 4, cs0⟩)]) (m1' := []) (m2' := []) (v' := .c (.sc (.int .i64 t4))) (Sto.mapN_killNil _ _) (mrgL_fz (mrgL_nil' _ _ _) rfl (by first | rfl | simp only [reduceCtorEq, Nat.reduceEqDiff, ak]) rfl (by intro R hR hh; cases hR; cases hh.2)) (by rfl) (mapT_killNil _ _) (by rfl) (by rfl) (by first | rfl | simp only [reduceCtorEq, Nat.reduceEqDiff, ak, akF, Nat.zero_add, List.append_nil]) ?_
  simp only [Nat.reduceEqDiff, Nat.reduceAdd, Nat.reduceMul, Nat.reduceLeDiff, Nat.reduceLT, Int.reduceLE, Int.reduceLT, Int.reduceGT, Int.reduceGE, Int.reduceEq, Int.reduceNe, Int.reduceToNat, reduceCtorEq, ak]
  refine hJ3 _ ?_
  refine seq_k fun J7 hJ7 => ?_
  refine seq_k fun J8 hJ8 => ?_
  refine reg_k ?_
  simp only [Nat.reduceEqDiff, Nat.reduceAdd, Nat.reduceMul, Nat.reduceLeDiff, Nat.reduceLT, Int.reduceLE, Int.reduceLT, Int.reduceGT, Int.reduceGE, Int.reduceEq, Int.reduceNe, Int.reduceToNat, reduceCtorEq, ak]
  refine hJ8 _ ?_
  refine cond_k (b := decide (t4 < 0)) rfl (fun c9 => ?_) (fun c9 => ?_)
  · replace c9 := of_decide_eq_true c9; rw [if_pos c9] at h
    refine seq_k fun J10 hJ10 => ?_
    refine reg_k ?_
    simp only [Nat.reduceEqDiff, Nat.reduceAdd, Nat.reduceMul, Nat.reduceLeDiff, Nat.reduceLT, Int.reduceLE, Int.reduceLT, Int.reduceGT, Int.reduceGE, Int.reduceEq, Int.reduceNe, Int.reduceToNat, reduceCtorEq, ak]
    refine hJ10 _ ?_
    obtain rfl := Option.some.inj h
    refine hKr _ ⟨_, rfl, [], _, rfl, rfl, ?_⟩
    first | rfl | (simp only [reduceCtorEq, Nat.reduceEqDiff, ak, akF]; done) | (simp [reduceCtorEq, Nat.reduceEqDiff, ak, akF]; done)
  · replace c9 := of_decide_eq_false c9; rw [if_neg c9] at h
    refine hJ7 _ ?_
    refine seq_k fun J11 hJ11 => ?_
    refine reg_k ?_
    simp only [Nat.reduceEqDiff, Nat.reduceAdd, Nat.reduceMul, Nat.reduceLeDiff, Nat.reduceLT, Int.reduceLE, Int.reduceLT, Int.reduceGT, Int.reduceGE, Int.reduceEq, Int.reduceNe, Int.reduceToNat, reduceCtorEq, ak]
    obtain ⟨t12, h13, h⟩ := of_bind h
    refine call_m [(.arg 0, ⟨(.arg 0), [], none, .fz⟩)] (s0 := [(.arg 0, ⟨.fz, 4, cs0⟩)]) (by intro t ht; cases ht; decide) rfl rfl (by first | rfl | simp only [reduceCtorEq, Nat.reduceEqDiff, ak, akF]) (laws_toReorderEventS.tri (cs0) o0 l2 hv0 _ h13) (by first | rfl | simp only [reduceCtorEq, Nat.reduceEqDiff, ak, akF]) (by simp [bkOk2, memK]) (fun hl13 => ?_)
    refine call_st (s4 := [(.arg 0, ⟨.fz, 4, cs0⟩), (.tmp 27 0, ⟨.lst, 4, encL c116 t12⟩)]) (m1' := []) (m2' := []) (v' := .c (.ref (.tmp 27 0) [] 0 t12.length)) (Sto.mapN_killNil _ _) (mrgL_fz (mrgL_nil' _ _ _) rfl (by first | rfl | simp only [reduceCtorEq, Nat.reduceEqDiff, ak]) rfl (by intro R hR hh; cases hR; cases hh.2)) (by rfl) (mapT_killNil _ _) (by rfl) (by rfl) (by first | rfl | simp only [reduceCtorEq, Nat.reduceEqDiff, ak, akF, Nat.zero_add, List.append_nil]) ?_
    simp only [Nat.reduceEqDiff, Nat.reduceAdd, Nat.reduceMul, Nat.reduceLeDiff, Nat.reduceLT, Int.reduceLE, Int.reduceLT, Int.reduceGT, Int.reduceGE, Int.reduceEq, Int.reduceNe, Int.reduceToNat, reduceCtorEq, ak]
    obtain ⟨t15, h16, h⟩ := of_bind h
    refine call_m [(.arg 0, ⟨(.tmp 27 0), [], none, .fz⟩)] (s0 := [(.arg 0, ⟨.fz, 4, encL c116 t12⟩)]) (by intro t ht; cases ht; decide) rfl rfl (by first | rfl | simp only [reduceCtorEq, Nat.reduceEqDiff, ak, akF]) (spec_ReorderRun.tri (encL c116 t12) 0 t12 (Vw.whole c116_w t12) a0 a1 _ h16) (by first | rfl | simp only [reduceCtorEq, Nat.reduceEqDiff, ak, akF]) (by simp [bkOk2, memK]) (fun hl16 => ?_)
    refine call_st (s4 := [(.arg 0, ⟨.fz, 4, cs0⟩), (.tmp 27 0, ⟨.lst, 4, encL c116 t12⟩), (.tmp 28 0, ⟨.lst, 3, encL c118 t15.1⟩)]) (m1' := []) (m2' := []) (v' := .tup [(false, [.ref (.tmp 28 0) [] 0 t15.1.length]), (false, [.sc (.int .i64 t15.2)])]) (Sto.mapN_killNil _ _) (mrgL_fz (mrgL_nil' _ _ _) rfl (by first | rfl | simp only [reduceCtorEq, Nat.reduceEqDiff, ak]) rfl (by intro R hR hh; cases hR; cases hh.2)) (by rfl) (mapT_killNil _ _) (by rfl) (by rfl) (by first | rfl | simp only [reduceCtorEq, Nat.reduceEqDiff, ak, akF, Nat.zero_add, List.append_nil]) ?_
    simp only [Nat.reduceEqDiff, Nat.reduceAdd, Nat.reduceMul, Nat.reduceLeDiff, Nat.reduceLT, Int.reduceLE, Int.reduceLT, Int.reduceGT, Int.reduceGE, Int.reduceEq, Int.reduceNe, Int.reduceToNat, reduceCtorEq, ak]
    refine hJ11 _ ?_
    refine seq_k fun J18 hJ18 => ?_
    refine reg_k ?_
    simp only [Nat.reduceEqDiff, Nat.reduceAdd, Nat.reduceMul, Nat.reduceLeDiff, Nat.reduceLT, Int.reduceLE, Int.reduceLT, Int.reduceGT, Int.reduceGE, Int.reduceEq, Int.reduceNe, Int.reduceToNat, reduceCtorEq, ak]
    refine call_m [(.arg 0, ⟨(.arg 0), [], none, .fz⟩)] (s0 := [(.arg 0, ⟨.fz, 4, cs0⟩)]) (by intro t ht; cases ht; decide) rfl rfl (by first | rfl | simp only [reduceCtorEq, Nat.reduceEqDiff, ak, akF]) (laws_toReorderEventS.tri (cs0) o0 l2 hv0 _ h13) (by first | rfl | simp only [reduceCtorEq, Nat.reduceEqDiff, ak, akF]) (by simp [bkOk2, memK]) (fun hl18 => ?_)
    refine call_st (s4 := [(.arg 0, ⟨.fz, 4, cs0⟩), (.tmp 27 0, ⟨.lst, 4, encL c116 t12⟩), (.tmp 28 0, ⟨.lst, 3, encL c118 t15.1⟩), (.tmp 32 0, ⟨.lst, 4, encL c116 t12⟩)]) (m1' := []) (m2' := []) (v' := .c (.ref (.tmp 32 0) [] 0 t12.length)) (Sto.mapN_killNil _ _) (mrgL_fz (mrgL_nil' _ _ _) rfl (by first | rfl | simp only [reduceCtorEq, Nat.reduceEqDiff, ak]) rfl (by intro R hR hh; cases hR; cases hh.2)) (by rfl) (mapT_killNil _ _) (by rfl) (by rfl) (by first | rfl | simp only [reduceCtorEq, Nat.reduceEqDiff, ak, akF, Nat.zero_add, List.append_nil]) ?_
    simp only [Nat.reduceEqDiff, Nat.reduceAdd, Nat.reduceMul, Nat.reduceLeDiff, Nat.reduceLT, Int.reduceLE, Int.reduceLT, Int.reduceGT, Int.reduceGE, Int.reduceEq, Int.reduceNe, Int.reduceToNat, reduceCtorEq, ak]
    refine hJ18 _ ?_
    refine seq_k fun J20 hJ20 => ?_
    refine reg_k ?_
    simp only [Nat.reduceEqDiff, Nat.reduceAdd, Nat.reduceMul, Nat.reduceLeDiff, Nat.reduceLT, Int.reduceLE, Int.reduceLT, Int.reduceGT, Int.reduceGE, Int.reduceEq, Int.reduceNe, Int.reduceToNat, reduceCtorEq, ak]
    obtain ⟨t21, h22, h⟩ := of_bind h
    refine call_m [(.arg 0, ⟨(.tmp 32 0), [], none, .fz⟩)] (s0 := [(.arg 0, ⟨.fz, 4, encL c116 t12⟩)]) (by intro t ht; cases ht; decide) rfl rfl (by first | rfl | simp only [reduceCtorEq, Nat.reduceEqDiff, ak, akF]) (impl_ReorderRun.tri (encL c116 t12) 0 t12 (Vw.whole c116_w t12) a0 a1 _ h22) (by first | rfl | simp only [reduceCtorEq, Nat.reduceEqDiff, ak, akF]) (by simp [bkOk2, memK]) (fun hl22 => ?_)
    refine call_st (s4 := [(.arg 0, ⟨.fz, 4, cs0⟩), (.tmp 27 0, ⟨.lst, 4, encL c116 t12⟩), (.tmp 28 0, ⟨.lst, 3, encL c118 t15.1⟩), (.tmp 32 0, ⟨.lst, 4, encL c116 t12⟩), (.tmp 37 0, ⟨.lst, 3, encL c118 t21.1⟩)]) (m1' := []) (m2' := []) (v' := .tup [(false, [.ref (.tmp 37 0) [] 0 t21.1.length]), (false, [.sc (.int .i64 t21.2)])]) (Sto.mapN_killNil _ _) (mrgL_fz (mrgL_nil' _ _ _) rfl (by first | rfl | simp only [reduceCtorEq, Nat.reduceEqDiff, ak]) rfl (by intro R hR hh; cases hR; cases hh.2)) (by rfl) (mapT_killNil _ _) (by rfl) (by rfl) (by first | rfl | simp only [reduceCtorEq, Nat.reduceEqDiff, ak, akF, Nat.zero_add, List.append_nil]) ?_
    simp only [Nat.reduceEqDiff, Nat.reduceAdd, Nat.reduceMul, Nat.reduceLeDiff, Nat.reduceLT, Int.reduceLE, Int.reduceLT, Int.reduceGT, Int.reduceGE, Int.reduceEq, Int.reduceNe, Int.reduceToNat, reduceCtorEq, ak]
    refine hJ20 _ ?_
    refine seq_k fun J24 hJ24 => ?_
    obtain ⟨j25, h26, hn⟩ := of_bind h
    refine seq_j (fun st => st = ⟨[(0, .c (.sc (.int .u64 a0))), (1, .c (.sc (.int .i64 a1))), (2, .c (.ref (.arg 0) [] o0 l2.length)), (8, .c (.ref (.tmp 28 0) [] 0 t15.1.length)), (9, .c (.sc (.int .i64 t15.2))), (10, .c (.ref (.tmp 32 0) [] 0 t12.length)), (11, .c (.ref (.tmp 37 0) [] 0 t21.1.length)), (12, .c (.sc (.int .i64 t21.2))), (48, .c (.sc (.bool j25)))], [(.arg 0, ⟨.fz, 4, cs0⟩), (.tmp 28 0, ⟨.lst, 3, encL c118 t15.1⟩), (.tmp 32 0, ⟨.lst, 4, encL c116 t12⟩), (.tmp 37 0, ⟨.lst, 3, encL c118 t21.1⟩)], [], []⟩) (fun J27 hJ27 => ?_) ?_
    · replace h := h26; clear hn
      refine ga_k fun G28 G28n G28r G28x => ?_
      refine reg_k ?_
      simp only [Nat.reduceEqDiff, Nat.reduceAdd, Nat.reduceMul, Nat.reduceLeDiff, Nat.reduceLT, Int.reduceLE, Int.reduceLT, Int.reduceGT, Int.reduceGE, Int.reduceEq, Int.reduceNe, Int.reduceToNat, reduceCtorEq, ak]
      obtain ⟨t29, h30, h⟩ := of_bind h
      refine call_m [(.arg 0, ⟨(.tmp 37 0), [], none, .fz⟩), (.arg 1, ⟨(.tmp 28 0), [], none, .fz⟩)] (s0 := [(.arg 0, ⟨.fz, 3, encL c118 t21.1⟩), (.arg 1, ⟨.fz, 3, encL c118 t15.1⟩)]) (by intro t ht; cases ht; decide) rfl rfl (by first | rfl | simp only [reduceCtorEq, Nat.reduceEqDiff, ak, akF]) (laws_eqReorderOutS.tri (encL c118 t21.1) 0 t21.1 (Vw.whole c118_w t21.1) (encL c118 t15.1) 0 t15.1 (Vw.whole c118_w t15.1) _ h30) (by first | rfl | simp only [reduceCtorEq, Nat.reduceEqDiff, ak, akF]) (by simp [bkOk2, memK]) (fun hl30 => ?_)
      refine call_st (s4 := [(.arg 0, ⟨.fz, 4, cs0⟩), (.tmp 27 0, ⟨.lst, 4, encL c116 t12⟩), (.tmp 28 0, ⟨.lst, 3, encL c118 t15.1⟩), (.tmp 32 0, ⟨.lst, 4, encL c116 t12⟩), (.tmp 37 0, ⟨.lst, 3, encL c118 t21.1⟩)]) (m1' := []) (m2' := []) (v' := .c (.sc (.bool t29))) (Sto.mapN_killNil _ _) (mrgL_fz (mrgL_fz (mrgL_nil' _ _ _) rfl (by first | rfl | simp only [reduceCtorEq, Nat.reduceEqDiff, ak]) rfl (by intro R hR hh; cases hR; cases hh.2)) rfl (by first | rfl | simp only [reduceCtorEq, Nat.reduceEqDiff, ak]) rfl (by intro R hR hh; cases hR; cases hh.2)) (by rfl) (mapT_killNil _ _) (by rfl) (by rfl) (by first | rfl | simp only [reduceCtorEq, Nat.reduceEqDiff, ak, akF, Nat.zero_add, List.append_nil]) ?_
      simp only [Nat.reduceEqDiff, Nat.reduceAdd, Nat.reduceMul, Nat.reduceLeDiff, Nat.reduceLT, Int.reduceLE, Int.reduceLT, Int.reduceGT, Int.reduceGE, Int.reduceEq, Int.reduceNe, Int.reduceToNat, reduceCtorEq, ak]
      by_cases c32 : (!t29) = true
      · rw [if_pos c32] at h
        have e33 : (!t29) = true := c32
        simp only [Nat.reduceEqDiff, Nat.reduceAdd, Nat.reduceMul, Nat.reduceLeDiff, Nat.reduceLT, Int.reduceLE, Int.reduceLT, Int.reduceGT, Int.reduceGE, Int.reduceEq, Int.reduceNe, Int.reduceToNat, reduceCtorEq, ak, e33]
        obtain rfl := Option.some.inj h
        refine G28n _ _ (((Weak.keep [0, 1, 2, 8, 9, 10, 11, 12, 48]).trans ((Weak.foc [(.arg 0, ⟨(.arg 0), [], none, .fz⟩), (.tmp 28 0, ⟨(.tmp 28 0), [], none, .lst⟩), (.tmp 32 0, ⟨(.tmp 32 0), [], none, .lst⟩), (.tmp 37 0, ⟨(.tmp 37 0), [], none, .lst⟩)] rfl (by first | rfl | simp only [reduceCtorEq, Nat.reduceEqDiff, ak, akF, e33]) (by simp [argK, akG, ak])).trans (Weak.of_eq (by first | rfl | (simp only [reduceCtorEq, Nat.reduceEqDiff, ak, akF, e33]; done) | (simp [reduceCtorEq, Nat.reduceEqDiff, ak, akF, e33]; done)))))) (hJ27 _ rfl)
      · rw [if_neg c32] at h
        have e34 : (!t29) = false := Bool.eq_false_iff.2 c32
        simp only [Nat.reduceEqDiff, Nat.reduceAdd, Nat.reduceMul, Nat.reduceLeDiff, Nat.reduceLT, Int.reduceLE, Int.reduceLT, Int.reduceGT, Int.reduceGE, Int.reduceEq, Int.reduceNe, Int.reduceToNat, reduceCtorEq, ak, e34]
        obtain rfl := Option.some.inj h
        refine G28n _ _ (((Weak.keep [0, 1, 2, 8, 9, 10, 11, 12, 48]).trans ((Weak.foc [(.arg 0, ⟨(.arg 0), [], none, .fz⟩), (.tmp 28 0, ⟨(.tmp 28 0), [], none, .lst⟩), (.tmp 32 0, ⟨(.tmp 32 0), [], none, .lst⟩), (.tmp 37 0, ⟨(.tmp 37 0), [], none, .lst⟩)] rfl (by first | rfl | simp only [reduceCtorEq, Nat.reduceEqDiff, ak, akF, e34]) (by simp [argK, akG, ak])).trans (Weak.of_eq (by first | rfl | (simp only [reduceCtorEq, Nat.reduceEqDiff, ak, akF, e34]; done) | (simp [reduceCtorEq, Nat.reduceEqDiff, ak, akF, e34]; done)))))) (hJ27 _ rfl)
    · replace h := hn; clear hn h26
      rintro _ rfl
      refine cond_k (b := j25) rfl (fun c35 => ?_) (fun c35 => ?_)
      · rw [if_pos c35] at h
        refine seq_k fun J36 hJ36 => ?_
        refine reg_k ?_
        simp only [Nat.reduceEqDiff, Nat.reduceAdd, Nat.reduceMul, Nat.reduceLeDiff, Nat.reduceLT, Int.reduceLE, Int.reduceLT, Int.reduceGT, Int.reduceGE, Int.reduceEq, Int.reduceNe, Int.reduceToNat, reduceCtorEq, ak]
        refine hJ36 _ ?_
        obtain rfl := Option.some.inj h
        refine hKr _ ⟨_, rfl, [], _, rfl, rfl, ?_⟩
        first | rfl | (simp only [reduceCtorEq, Nat.reduceEqDiff, ak, akF]; done) | (simp [reduceCtorEq, Nat.reduceEqDiff, ak, akF]; done)
      · rw [if_neg (Bool.eq_false_iff.1 c35)] at h
        refine hJ24 _ ?_
        refine seq_k fun J37 hJ37 => ?_
        refine seq_k fun J38 hJ38 => ?_
        refine reg_k ?_
        simp only [Nat.reduceEqDiff, Nat.reduceAdd, Nat.reduceMul, Nat.reduceLeDiff, Nat.reduceLT, Int.reduceLE, Int.reduceLT, Int.reduceGT, Int.reduceGE, Int.reduceEq, Int.reduceNe, Int.reduceToNat, reduceCtorEq, ak]
        refine call_m [(.arg 0, ⟨(.arg 0), [], none, .fz⟩)] (s0 := [(.arg 0, ⟨.fz, 4, cs0⟩)]) (by intro t ht; cases ht; decide) rfl rfl (by first | rfl | simp only [reduceCtorEq, Nat.reduceEqDiff, ak, akF]) (laws_toReorderEventS.tri (cs0) o0 l2 hv0 _ h13) (by first | rfl | simp only [reduceCtorEq, Nat.reduceEqDiff, ak, akF]) (by simp [bkOk2, memK]) (fun hl38 => ?_)
        refine call_st (s4 := [(.arg 0, ⟨.fz, 4, cs0⟩), (.tmp 28 0, ⟨.lst, 3, encL c118 t15.1⟩), (.tmp 32 0, ⟨.lst, 4, encL c116 t12⟩), (.tmp 37 0, ⟨.lst, 3, encL c118 t21.1⟩), (.tmp 51 0, ⟨.lst, 4, encL c116 t12⟩)]) (m1' := []) (m2' := []) (v' := .c (.ref (.tmp 51 0) [] 0 t12.length)) (Sto.mapN_killNil _ _) (mrgL_fz (mrgL_nil' _ _ _) rfl (by first | rfl | simp only [reduceCtorEq, Nat.reduceEqDiff, ak]) rfl (by intro R hR hh; cases hR; cases hh.2)) (by rfl) (mapT_killNil _ _) (by rfl) (by rfl) (by first | rfl | simp only [reduceCtorEq, Nat.reduceEqDiff, ak, akF, Nat.zero_add, List.append_nil]) ?_
        simp only [Nat.reduceEqDiff, Nat.reduceAdd, Nat.reduceMul, Nat.reduceLeDiff, Nat.reduceLT, Int.reduceLE, Int.reduceLT, Int.reduceGT, Int.reduceGE, Int.reduceEq, Int.reduceNe, Int.reduceToNat, reduceCtorEq, ak]
        obtain ⟨t40, h41, h⟩ := of_bind h
        refine call_m [(.arg 0, ⟨(.tmp 32 0), [], none, .fz⟩), (.arg 1, ⟨(.tmp 51 0), [], none, .fz⟩)] (s0 := [(.arg 0, ⟨.fz, 4, encL c116 t12⟩), (.arg 1, ⟨.fz, 4, encL c116 t12⟩)]) (by intro t ht; cases ht; decide) rfl rfl (by first | rfl | simp only [reduceCtorEq, Nat.reduceEqDiff, ak, akF]) (laws_eqReorderEventS.tri (encL c116 t12) 0 t12 (Vw.whole c116_w t12) (encL c116 t12) 0 t12 (Vw.whole c116_w t12) _ h41) (by first | rfl | simp only [reduceCtorEq, Nat.reduceEqDiff, ak, akF]) (by simp [bkOk2, memK]) (fun hl41 => ?_)
        refine call_st (s4 := [(.arg 0, ⟨.fz, 4, cs0⟩), (.tmp 28 0, ⟨.lst, 3, encL c118 t15.1⟩), (.tmp 32 0, ⟨.lst, 4, encL c116 t12⟩), (.tmp 37 0, ⟨.lst, 3, encL c118 t21.1⟩), (.tmp 51 0, ⟨.lst, 4, encL c116 t12⟩)]) (m1' := []) (m2' := []) (v' := .c (.sc (.bool t40))) (Sto.mapN_killNil _ _) (mrgL_fz (mrgL_fz (mrgL_nil' _ _ _) rfl (by first | rfl | simp only [reduceCtorEq, Nat.reduceEqDiff, ak]) rfl (by intro R hR hh; cases hR; cases hh.2)) rfl (by first | rfl | simp only [reduceCtorEq, Nat.reduceEqDiff, ak]) rfl (by intro R hR hh; cases hR; cases hh.2)) (by rfl) (mapT_killNil _ _) (by rfl) (by rfl) (by first | rfl | simp only [reduceCtorEq, Nat.reduceEqDiff, ak, akF, Nat.zero_add, List.append_nil]) ?_
        simp only [Nat.reduceEqDiff, Nat.reduceAdd, Nat.reduceMul, Nat.reduceLeDiff, Nat.reduceLT, Int.reduceLE, Int.reduceLT, Int.reduceGT, Int.reduceGE, Int.reduceEq, Int.reduceNe, Int.reduceToNat, reduceCtorEq, ak]
        refine hJ38 _ ?_
        refine cond_k (b := !t40) rfl (fun c43 => ?_) (fun c43 => ?_)
        · rw [if_pos c43] at h
          refine seq_k fun J44 hJ44 => ?_
          refine reg_k ?_
          simp only [Nat.reduceEqDiff, Nat.reduceAdd, Nat.reduceMul, Nat.reduceLeDiff, Nat.reduceLT, Int.reduceLE, Int.reduceLT, Int.reduceGT, Int.reduceGE, Int.reduceEq, Int.reduceNe, Int.reduceToNat, reduceCtorEq, ak]
          refine hJ44 _ ?_
          obtain rfl := Option.some.inj h
          refine hKr _ ⟨_, rfl, [], _, rfl, rfl, ?_⟩
          first | rfl | (simp only [reduceCtorEq, Nat.reduceEqDiff, ak, akF]; done) | (simp [reduceCtorEq, Nat.reduceEqDiff, ak, akF]; done)
        · rw [if_neg (Bool.eq_false_iff.1 c43)] at h
          refine hJ37 _ ?_
          refine seq_k fun J45 hJ45 => ?_
          refine reg_k ?_
          simp only [Nat.reduceEqDiff, Nat.reduceAdd, Nat.reduceMul, Nat.reduceLeDiff, Nat.reduceLT, Int.reduceLE, Int.reduceLT, Int.reduceGT, Int.reduceGE, Int.reduceEq, Int.reduceNe, Int.reduceToNat, reduceCtorEq, ak]
          refine hJ45 _ ?_
          refine seq_k fun J46 hJ46 => ?_
          refine reg_k ?_
          simp only [Nat.reduceEqDiff, Nat.reduceAdd, Nat.reduceMul, Nat.reduceLeDiff, Nat.reduceLT, Int.reduceLE, Int.reduceLT, Int.reduceGT, Int.reduceGE, Int.reduceEq, Int.reduceNe, Int.reduceToNat, reduceCtorEq, ak]
          obtain ⟨t47, h48, h⟩ := of_bind h
          refine call_m [(.arg 0, ⟨(.tmp 32 0), [], none, .lst⟩)] (s0 := [(.arg 0, ⟨.lst, 4, encL c116 t12⟩)]) (by intro t ht; cases ht; decide) rfl rfl (by first | rfl | simp only [reduceCtorEq, Nat.reduceEqDiff, ak, akF]) (laws_markReorderEventS.tri t12 1 _ h48) (by first | rfl | simp only [reduceCtorEq, Nat.reduceEqDiff, ak, akF]) (by simp [bkOk2, memK]) (fun hl48 => ?_)
          have g50 : t47.2.length = t12.length := encL_len_inj c116_w (by decide) (hl48 0 (by decide) _ _ rfl rfl)
          refine call_st (s4 := [(.arg 0, ⟨.fz, 4, cs0⟩), (.tmp 28 0, ⟨.lst, 3, encL c118 t15.1⟩), (.tmp 32 0, ⟨.lst, 4, encL c116 t47.2⟩), (.tmp 37 0, ⟨.lst, 3, encL c118 t21.1⟩), (.tmp 51 0, ⟨.lst, 4, encL c116 t12⟩)]) (m1' := []) (m2' := []) (v' := .c (.sc (.int .i64 t47.1))) (Sto.mapN_killNil _ _) (mrgL_whole (mrgL_nil' _ _ _) rfl (by rfl) (.inr ⟨by decide, by decide, rfl⟩)) (by rfl) (mapT_killNil _ _) (by rfl) (by rfl) (by first | rfl | simp only [reduceCtorEq, Nat.reduceEqDiff, ak, akF, Nat.zero_add, List.append_nil]) ?_
          simp only [Nat.reduceEqDiff, Nat.reduceAdd, Nat.reduceMul, Nat.reduceLeDiff, Nat.reduceLT, Int.reduceLE, Int.reduceLT, Int.reduceGT, Int.reduceGE, Int.reduceEq, Int.reduceNe, Int.reduceToNat, reduceCtorEq, ak]
          refine hJ46 _ ?_
          refine seq_k fun J51 hJ51 => ?_
          obtain ⟨j52, h53, hn⟩ := of_bind h
          refine seq_j (fun st => st = ⟨[(0, .c (.sc (.int .u64 a0))), (1, .c (.sc (.int .i64 a1))), (2, .c (.ref (.arg 0) [] o0 l2.length)), (8, .c (.ref (.tmp 28 0) [] 0 t15.1.length)), (9, .c (.sc (.int .i64 t15.2))), (11, .c (.ref (.tmp 37 0) [] 0 t21.1.length)), (69, .c (.sc (.bool j52)))], [(.arg 0, ⟨.fz, 4, cs0⟩), (.tmp 28 0, ⟨.lst, 3, encL c118 t15.1⟩), (.tmp 37 0, ⟨.lst, 3, encL c118 t21.1⟩)], [], []⟩) (fun J54 hJ54 => ?_) ?_
          · replace h := h53; clear hn
            refine ga_k fun G55 G55n G55r G55x => ?_
            refine reg_k ?_
            simp only [Nat.reduceEqDiff, Nat.reduceAdd, Nat.reduceMul, Nat.reduceLeDiff, Nat.reduceLT, Int.reduceLE, Int.reduceLT, Int.reduceGT, Int.reduceGE, Int.reduceEq, Int.reduceNe, Int.reduceToNat, reduceCtorEq, ak]
            by_cases c56 : t47.1 < 0
            · rw [if_pos c56] at h
              have e57 : decide (t47.1 < 0) = true := decide_eq_true c56
              simp only [Nat.reduceEqDiff, Nat.reduceAdd, Nat.reduceMul, Nat.reduceLeDiff, Nat.reduceLT, Int.reduceLE, Int.reduceLT, Int.reduceGT, Int.reduceGE, Int.reduceEq, Int.reduceNe, Int.reduceToNat, reduceCtorEq, ak, e57]
              obtain rfl := Option.some.inj h
              refine G55n _ _ (((Weak.keep [0, 1, 2, 8, 9, 11, 69]).trans ((Weak.foc [(.arg 0, ⟨(.arg 0), [], none, .fz⟩), (.tmp 28 0, ⟨(.tmp 28 0), [], none, .lst⟩), (.tmp 37 0, ⟨(.tmp 37 0), [], none, .lst⟩)] rfl (by first | rfl | simp only [reduceCtorEq, Nat.reduceEqDiff, ak, akF, e57]) (by simp [argK, akG, ak])).trans (Weak.of_eq (by first | rfl | (simp only [reduceCtorEq, Nat.reduceEqDiff, ak, akF, e57]; done) | (simp [reduceCtorEq, Nat.reduceEqDiff, ak, akF, e57]; done)))))) (hJ54 _ rfl)
            · rw [if_neg c56] at h
              have e58 : decide (t47.1 < 0) = false := decide_eq_false c56
              simp only [Nat.reduceEqDiff, Nat.reduceAdd, Nat.reduceMul, Nat.reduceLeDiff, Nat.reduceLT, Int.reduceLE, Int.reduceLT, Int.reduceGT, Int.reduceGE, Int.reduceEq, Int.reduceNe, Int.reduceToNat, reduceCtorEq, ak, e58]
              obtain ⟨t59, h60, h⟩ := of_bind h
              refine call_m [(.arg 0, ⟨(.tmp 37 0), [], none, .fz⟩), (.arg 1, ⟨(.tmp 28 0), [], none, .fz⟩)] (s0 := [(.arg 0, ⟨.fz, 3, encL c118 t21.1⟩), (.arg 1, ⟨.fz, 3, encL c118 t15.1⟩)]) (by intro t ht; cases ht; decide) rfl rfl (by first | rfl | simp only [reduceCtorEq, Nat.reduceEqDiff, ak, akF, e58]) (laws_eqReorderOutS.tri (encL c118 t21.1) 0 t21.1 (Vw.whole c118_w t21.1) (encL c118 t15.1) 0 t15.1 (Vw.whole c118_w t15.1) _ h60) (by first | rfl | simp only [reduceCtorEq, Nat.reduceEqDiff, ak, akF]) (by simp [bkOk2, memK]) (fun hl60 => ?_)
              refine call_st (s4 := [(.arg 0, ⟨.fz, 4, cs0⟩), (.tmp 28 0, ⟨.lst, 3, encL c118 t15.1⟩), (.tmp 32 0, ⟨.lst, 4, encL c116 t47.2⟩), (.tmp 37 0, ⟨.lst, 3, encL c118 t21.1⟩), (.tmp 51 0, ⟨.lst, 4, encL c116 t12⟩)]) (m1' := []) (m2' := []) (v' := .c (.sc (.bool t59))) (Sto.mapN_killNil _ _) (mrgL_fz (mrgL_fz (mrgL_nil' _ _ _) rfl (by first | rfl | simp only [reduceCtorEq, Nat.reduceEqDiff, ak, e58]) rfl (by intro R hR hh; cases hR; cases hh.2)) rfl (by first | rfl | simp only [reduceCtorEq, Nat.reduceEqDiff, ak, e58]) rfl (by intro R hR hh; cases hR; cases hh.2)) (by rfl) (mapT_killNil _ _) (by rfl) (by rfl) (by first | rfl | simp only [reduceCtorEq, Nat.reduceEqDiff, ak, akF, Nat.zero_add, List.append_nil, e58]) ?_
              simp only [Nat.reduceEqDiff, Nat.reduceAdd, Nat.reduceMul, Nat.reduceLeDiff, Nat.reduceLT, Int.reduceLE, Int.reduceLT, Int.reduceGT, Int.reduceGE, Int.reduceEq, Int.reduceNe, Int.reduceToNat, reduceCtorEq, ak]
              by_cases c62 : (!t59) = true
              · rw [if_pos c62] at h
                have e63 : (!t59) = true := c62
                simp only [Nat.reduceEqDiff, Nat.reduceAdd, Nat.reduceMul, Nat.reduceLeDiff, Nat.reduceLT, Int.reduceLE, Int.reduceLT, Int.reduceGT, Int.reduceGE, Int.reduceEq, Int.reduceNe, Int.reduceToNat, reduceCtorEq, ak, e63]
                obtain rfl := Option.some.inj h
                refine G55n _ _ (((Weak.keep [0, 1, 2, 8, 9, 11, 69]).trans ((Weak.foc [(.arg 0, ⟨(.arg 0), [], none, .fz⟩), (.tmp 28 0, ⟨(.tmp 28 0), [], none, .lst⟩), (.tmp 37 0, ⟨(.tmp 37 0), [], none, .lst⟩)] rfl (by first | rfl | simp only [reduceCtorEq, Nat.reduceEqDiff, ak, akF, e58, e63]) (by simp [argK, akG, ak])).trans (Weak.of_eq (by first | rfl | (simp only [reduceCtorEq, Nat.reduceEqDiff, ak, akF, e58, e63]; done) | (simp [reduceCtorEq, Nat.reduceEqDiff, ak, akF, e58, e63]; done)))))) (hJ54 _ rfl)
              · rw [if_neg c62] at h
                have e64 : (!t59) = false := Bool.eq_false_iff.2 c62
                simp only [Nat.reduceEqDiff, Nat.reduceAdd, Nat.reduceMul, Nat.reduceLeDiff, Nat.reduceLT, Int.reduceLE, Int.reduceLT, Int.reduceGT, Int.reduceGE, Int.reduceEq, Int.reduceNe, Int.reduceToNat, reduceCtorEq, ak, e64]
                obtain rfl := Option.some.inj h
                refine G55n _ _ (((Weak.keep [0, 1, 2, 8, 9, 11, 69]).trans ((Weak.foc [(.arg 0, ⟨(.arg 0), [], none, .fz⟩), (.tmp 28 0, ⟨(.tmp 28 0), [], none, .lst⟩), (.tmp 37 0, ⟨(.tmp 37 0), [], none, .lst⟩)] rfl (by first | rfl | simp only [reduceCtorEq, Nat.reduceEqDiff, ak, akF, e58, e64]) (by simp [argK, akG, ak])).trans (Weak.of_eq (by first | rfl | (simp only [reduceCtorEq, Nat.reduceEqDiff, ak, akF, e58, e64]; done) | (simp [reduceCtorEq, Nat.reduceEqDiff, ak, akF, e58, e64]; done)))))) (hJ54 _ rfl)
          · replace h := hn; clear hn h53
            rintro _ rfl
            refine cond_k (b := j52) rfl (fun c65 => ?_) (fun c65 => ?_)
            · rw [if_pos c65] at h
              refine seq_k fun J66 hJ66 => ?_
              refine reg_k ?_
              simp only [Nat.reduceEqDiff, Nat.reduceAdd, Nat.reduceMul, Nat.reduceLeDiff, Nat.reduceLT, Int.reduceLE, Int.reduceLT, Int.reduceGT, Int.reduceGE, Int.reduceEq, Int.reduceNe, Int.reduceToNat, reduceCtorEq, ak]
              refine hJ66 _ ?_
              obtain rfl := Option.some.inj h
              refine hKr _ ⟨_, rfl, [], _, rfl, rfl, ?_⟩
              first | rfl | (simp only [reduceCtorEq, Nat.reduceEqDiff, ak, akF]; done) | (simp [reduceCtorEq, Nat.reduceEqDiff, ak, akF]; done)
            · rw [if_neg (Bool.eq_false_iff.1 c65)] at h
              refine hJ51 _ ?_
              refine seq_k fun J67 hJ67 => ?_
              refine reg_k ?_
              simp only [Nat.reduceEqDiff, Nat.reduceAdd, Nat.reduceMul, Nat.reduceLeDiff, Nat.reduceLT, Int.reduceLE, Int.reduceLT, Int.reduceGT, Int.reduceGE, Int.reduceEq, Int.reduceNe, Int.reduceToNat, reduceCtorEq, ak]
              refine hJ67 _ ?_
              refine seq_k fun J68 hJ68 => ?_
              refine reg_k ?_
              simp only [Nat.reduceEqDiff, Nat.reduceAdd, Nat.reduceMul, Nat.reduceLeDiff, Nat.reduceLT, Int.reduceLE, Int.reduceLT, Int.reduceGT, Int.reduceGE, Int.reduceEq, Int.reduceNe, Int.reduceToNat, reduceCtorEq, ak]
              obtain ⟨t69, h70, h⟩ := of_bind h
              refine call_m [(.arg 0, ⟨(.tmp 37 0), [], none, .lst⟩)] (s0 := [(.arg 0, ⟨.lst, 3, encL c118 t21.1⟩)]) (by intro t ht; cases ht; decide) rfl rfl (by first | rfl | simp only [reduceCtorEq, Nat.reduceEqDiff, ak, akF]) (laws_markReorderOutS.tri t21.1 1 _ h70) (by first | rfl | simp only [reduceCtorEq, Nat.reduceEqDiff, ak, akF]) (by simp [bkOk2, memK]) (fun hl70 => ?_)
              have g72 : t69.2.length = t21.1.length := encL_len_inj c118_w (by decide) (hl70 0 (by decide) _ _ rfl rfl)
              refine call_st (s4 := [(.arg 0, ⟨.fz, 4, cs0⟩), (.tmp 28 0, ⟨.lst, 3, encL c118 t15.1⟩), (.tmp 37 0, ⟨.lst, 3, encL c118 t69.2⟩)]) (m1' := []) (m2' := []) (v' := .c (.sc (.int .i64 t69.1))) (Sto.mapN_killNil _ _) (mrgL_whole (mrgL_nil' _ _ _) rfl (by rfl) (.inr ⟨by decide, by decide, rfl⟩)) (by rfl) (mapT_killNil _ _) (by rfl) (by rfl) (by first | rfl | simp only [reduceCtorEq, Nat.reduceEqDiff, ak, akF, Nat.zero_add, List.append_nil]) ?_
              simp only [Nat.reduceEqDiff, Nat.reduceAdd, Nat.reduceMul, Nat.reduceLeDiff, Nat.reduceLT, Int.reduceLE, Int.reduceLT, Int.reduceGT, Int.reduceGE, Int.reduceEq, Int.reduceNe, Int.reduceToNat, reduceCtorEq, ak]
              refine hJ68 _ ?_
              refine seq_k fun J73 hJ73 => ?_
              refine reg_k ?_
              simp only [Nat.reduceEqDiff, Nat.reduceAdd, Nat.reduceMul, Nat.reduceLeDiff, Nat.reduceLT, Int.reduceLE, Int.reduceLT, Int.reduceGT, Int.reduceGE, Int.reduceEq, Int.reduceNe, Int.reduceToNat, reduceCtorEq, ak]
              refine hJ73 _ ?_
              refine seq_k fun J74 hJ74 => ?_
              refine reg_k ?_
              simp only [Nat.reduceEqDiff, Nat.reduceAdd, Nat.reduceMul, Nat.reduceLeDiff, Nat.reduceLT, Int.reduceLE, Int.reduceLT, Int.reduceGT, Int.reduceGE, Int.reduceEq, Int.reduceNe, Int.reduceToNat, reduceCtorEq, ak]
              obtain ⟨t75, h76, h⟩ := of_bind h
              refine call_m [(.arg 0, ⟨(.tmp 37 0), [], none, .fz⟩)] (s0 := [(.arg 0, ⟨.fz, 3, encL c118 t69.2⟩)]) (by intro t ht; cases ht; decide) rfl rfl (by first | rfl | simp only [reduceCtorEq, Nat.reduceEqDiff, ak, akF, (show t21.1.length = t69.2.length by simp [g50, g72])]) (laws_heldReorderOutS.tri (encL c118 t69.2) 0 t69.2 (Vw.whole c118_w t69.2) 1 _ h76) (by first | rfl | simp only [reduceCtorEq, Nat.reduceEqDiff, ak, akF, (show t21.1.length = t69.2.length by simp [g50, g72])]) (by simp [bkOk2, memK]) (fun hl76 => ?_)
              refine call_st (s4 := [(.arg 0, ⟨.fz, 4, cs0⟩), (.tmp 28 0, ⟨.lst, 3, encL c118 t15.1⟩), (.tmp 37 0, ⟨.lst, 3, encL c118 t69.2⟩)]) (m1' := []) (m2' := []) (v' := .c (.sc (.int .i64 t75))) (Sto.mapN_killNil _ _) (mrgL_fz (mrgL_nil' _ _ _) rfl (by first | rfl | simp only [reduceCtorEq, Nat.reduceEqDiff, ak]) rfl (by intro R hR hh; cases hR; cases hh.2)) (by rfl) (mapT_killNil _ _) (by rfl) (by rfl) (by first | rfl | simp only [reduceCtorEq, Nat.reduceEqDiff, ak, akF, Nat.zero_add, List.append_nil]) ?_
              simp only [Nat.reduceEqDiff, Nat.reduceAdd, Nat.reduceMul, Nat.reduceLeDiff, Nat.reduceLT, Int.reduceLE, Int.reduceLT, Int.reduceGT, Int.reduceGE, Int.reduceEq, Int.reduceNe, Int.reduceToNat, reduceCtorEq, ak]
              refine hJ74 _ ?_
              refine seq_k fun J78 hJ78 => ?_
              refine seq_k fun J79 hJ79 => ?_
              refine reg_k ?_
              simp only [Nat.reduceEqDiff, Nat.reduceAdd, Nat.reduceMul, Nat.reduceLeDiff, Nat.reduceLT, Int.reduceLE, Int.reduceLT, Int.reduceGT, Int.reduceGE, Int.reduceEq, Int.reduceNe, Int.reduceToNat, reduceCtorEq, ak]
              refine hJ79 _ ?_
              refine cond_k (b := decide (t75 < 0)) rfl (fun c80 => ?_) (fun c80 => ?_)
              · replace c80 := of_decide_eq_true c80; rw [if_pos c80] at h
                refine seq_k fun J81 hJ81 => ?_
                refine reg_k ?_
                simp only [Nat.reduceEqDiff, Nat.reduceAdd, Nat.reduceMul, Nat.reduceLeDiff, Nat.reduceLT, Int.reduceLE, Int.reduceLT, Int.reduceGT, Int.reduceGE, Int.reduceEq, Int.reduceNe, Int.reduceToNat, reduceCtorEq, ak]
                refine hJ81 _ ?_
                obtain rfl := Option.some.inj h
                refine hKr _ ⟨_, rfl, [], _, rfl, rfl, ?_⟩
                first | rfl | (simp only [reduceCtorEq, Nat.reduceEqDiff, ak, akF]; done) | (simp [reduceCtorEq, Nat.reduceEqDiff, ak, akF]; done)
              · replace c80 := of_decide_eq_false c80; rw [if_neg c80] at h
                refine hJ78 _ ?_
                refine seq_k fun J82 hJ82 => ?_
                refine seq_k fun J83 hJ83 => ?_
                refine reg_k ?_
                simp only [Nat.reduceEqDiff, Nat.reduceAdd, Nat.reduceMul, Nat.reduceLeDiff, Nat.reduceLT, Int.reduceLE, Int.reduceLT, Int.reduceGT, Int.reduceGE, Int.reduceEq, Int.reduceNe, Int.reduceToNat, reduceCtorEq, ak]
                refine hJ83 _ ?_
                refine cond_k (b := decide (t75 ≠ t69.1)) rfl (fun c84 => ?_) (fun c84 => ?_)
                · replace c84 := of_decide_eq_true c84; rw [if_pos c84] at h
                  refine seq_k fun J85 hJ85 => ?_
                  refine reg_k ?_
                  simp only [Nat.reduceEqDiff, Nat.reduceAdd, Nat.reduceMul, Nat.reduceLeDiff, Nat.reduceLT, Int.reduceLE, Int.reduceLT, Int.reduceGT, Int.reduceGE, Int.reduceEq, Int.reduceNe, Int.reduceToNat, reduceCtorEq, ak]
                  refine hJ85 _ ?_
                  obtain rfl := Option.some.inj h
                  refine hKr _ ⟨_, rfl, [], _, rfl, rfl, ?_⟩
                  first | rfl | (simp only [reduceCtorEq, Nat.reduceEqDiff, ak, akF]; done) | (simp [reduceCtorEq, Nat.reduceEqDiff, ak, akF]; done)
                · replace c84 := of_decide_eq_false c84; rw [if_neg c84] at h
                  refine hJ82 _ ?_
                  refine seq_k fun J86 hJ86 => ?_
                  refine reg_k ?_
                  simp only [Nat.reduceEqDiff, Nat.reduceAdd, Nat.reduceMul, Nat.reduceLeDiff, Nat.reduceLT, Int.reduceLE, Int.reduceLT, Int.reduceGT, Int.reduceGE, Int.reduceEq, Int.reduceNe, Int.reduceToNat, reduceCtorEq, ak]
                  refine call_m [(.arg 0, ⟨(.arg 0), [], none, .fz⟩)] (s0 := [(.arg 0, ⟨.fz, 4, cs0⟩)]) (by intro t ht; cases ht; decide) rfl rfl (by first | rfl | simp only [reduceCtorEq, Nat.reduceEqDiff, ak, akF]) (laws_toReorderEventS.tri (cs0) o0 l2 hv0 _ h13) (by first | rfl | simp only [reduceCtorEq, Nat.reduceEqDiff, ak, akF]) (by simp [bkOk2, memK]) (fun hl86 => ?_)
                  refine call_st (s4 := [(.arg 0, ⟨.fz, 4, cs0⟩), (.tmp 28 0, ⟨.lst, 3, encL c118 t15.1⟩), (.tmp 37 0, ⟨.lst, 3, encL c118 t69.2⟩), (.tmp 85 0, ⟨.lst, 4, encL c116 t12⟩)]) (m1' := []) (m2' := []) (v' := .c (.ref (.tmp 85 0) [] 0 t12.length)) (Sto.mapN_killNil _ _) (mrgL_fz (mrgL_nil' _ _ _) rfl (by first | rfl | simp only [reduceCtorEq, Nat.reduceEqDiff, ak]) rfl (by intro R hR hh; cases hR; cases hh.2)) (by rfl) (mapT_killNil _ _) (by rfl) (by rfl) (by first | rfl | simp only [reduceCtorEq, Nat.reduceEqDiff, ak, akF, Nat.zero_add, List.append_nil]) ?_
                  simp only [Nat.reduceEqDiff, Nat.reduceAdd, Nat.reduceMul, Nat.reduceLeDiff, Nat.reduceLT, Int.reduceLE, Int.reduceLT, Int.reduceGT, Int.reduceGE, Int.reduceEq, Int.reduceNe, Int.reduceToNat, reduceCtorEq, ak]
                  refine call_m [(.arg 0, ⟨(.tmp 85 0), [], none, .fz⟩)] (s0 := [(.arg 0, ⟨.fz, 4, encL c116 t12⟩)]) (by intro t ht; cases ht; decide) rfl rfl (by first | rfl | simp only [reduceCtorEq, Nat.reduceEqDiff, ak, akF]) (impl_ReorderRun.tri (encL c116 t12) 0 t12 (Vw.whole c116_w t12) a0 a1 _ h22) (by first | rfl | simp only [reduceCtorEq, Nat.reduceEqDiff, ak, akF]) (by simp [bkOk2, memK]) (fun hl87 => ?_)
                  refine call_st (s4 := [(.arg 0, ⟨.fz, 4, cs0⟩), (.tmp 28 0, ⟨.lst, 3, encL c118 t15.1⟩), (.tmp 37 0, ⟨.lst, 3, encL c118 t69.2⟩), (.tmp 85 0, ⟨.lst, 4, encL c116 t12⟩), (.tmp 86 0, ⟨.lst, 3, encL c118 t21.1⟩)]) (m1' := []) (m2' := []) (v' := .tup [(false, [.ref (.tmp 86 0) [] 0 t21.1.length]), (false, [.sc (.int .i64 t21.2)])]) (Sto.mapN_killNil _ _) (mrgL_fz (mrgL_nil' _ _ _) rfl (by first | rfl | simp only [reduceCtorEq, Nat.reduceEqDiff, ak]) rfl (by intro R hR hh; cases hR; cases hh.2)) (by rfl) (mapT_killNil _ _) (by rfl) (by rfl) (by first | rfl | simp only [reduceCtorEq, Nat.reduceEqDiff, ak, akF, Nat.zero_add, List.append_nil]) ?_
                  simp only [Nat.reduceEqDiff, Nat.reduceAdd, Nat.reduceMul, Nat.reduceLeDiff, Nat.reduceLT, Int.reduceLE, Int.reduceLT, Int.reduceGT, Int.reduceGE, Int.reduceEq, Int.reduceNe, Int.reduceToNat, reduceCtorEq, ak]
                  refine hJ86 _ ?_
                  refine seq_k fun J89 hJ89 => ?_
                  obtain ⟨j90, h91, hn⟩ := of_bind h
                  refine seq_j (fun st => st = ⟨[(97, .c (.sc (.bool j90)))], [(.arg 0, ⟨.fz, 4, cs0⟩)], [], []⟩) (fun J92 hJ92 => ?_) ?_
                  · replace h := h91; clear hn
                    refine ga_k fun G93 G93n G93r G93x => ?_
                    refine reg_k ?_
                    simp only [Nat.reduceEqDiff, Nat.reduceAdd, Nat.reduceMul, Nat.reduceLeDiff, Nat.reduceLT, Int.reduceLE, Int.reduceLT, Int.reduceGT, Int.reduceGE, Int.reduceEq, Int.reduceNe, Int.reduceToNat, reduceCtorEq, ak]
                    obtain ⟨t94, h95, h⟩ := of_bind h
                    refine call_m [(.arg 0, ⟨(.tmp 86 0), [], none, .fz⟩), (.arg 1, ⟨(.tmp 28 0), [], none, .fz⟩)] (s0 := [(.arg 0, ⟨.fz, 3, encL c118 t21.1⟩), (.arg 1, ⟨.fz, 3, encL c118 t15.1⟩)]) (by intro t ht; cases ht; decide) rfl rfl (by first | rfl | simp only [reduceCtorEq, Nat.reduceEqDiff, ak, akF]) (laws_eqReorderOutS.tri (encL c118 t21.1) 0 t21.1 (Vw.whole c118_w t21.1) (encL c118 t15.1) 0 t15.1 (Vw.whole c118_w t15.1) _ h95) (by first | rfl | simp only [reduceCtorEq, Nat.reduceEqDiff, ak, akF]) (by simp [bkOk2, memK]) (fun hl95 => ?_)
                    refine call_st (s4 := [(.arg 0, ⟨.fz, 4, cs0⟩), (.tmp 28 0, ⟨.lst, 3, encL c118 t15.1⟩), (.tmp 37 0, ⟨.lst, 3, encL c118 t69.2⟩), (.tmp 85 0, ⟨.lst, 4, encL c116 t12⟩), (.tmp 86 0, ⟨.lst, 3, encL c118 t21.1⟩)]) (m1' := []) (m2' := []) (v' := .c (.sc (.bool t94))) (Sto.mapN_killNil _ _) (mrgL_fz (mrgL_fz (mrgL_nil' _ _ _) rfl (by first | rfl | simp only [reduceCtorEq, Nat.reduceEqDiff, ak]) rfl (by intro R hR hh; cases hR; cases hh.2)) rfl (by first | rfl | simp only [reduceCtorEq, Nat.reduceEqDiff, ak]) rfl (by intro R hR hh; cases hR; cases hh.2)) (by rfl) (mapT_killNil _ _) (by rfl) (by rfl) (by first | rfl | simp only [reduceCtorEq, Nat.reduceEqDiff, ak, akF, Nat.zero_add, List.append_nil]) ?_
                    simp only [Nat.reduceEqDiff, Nat.reduceAdd, Nat.reduceMul, Nat.reduceLeDiff, Nat.reduceLT, Int.reduceLE, Int.reduceLT, Int.reduceGT, Int.reduceGE, Int.reduceEq, Int.reduceNe, Int.reduceToNat, reduceCtorEq, ak]
                    by_cases c97 : (!t94) = true
                    · rw [if_pos c97] at h
                      have e98 : (!t94) = true := c97
                      simp only [Nat.reduceEqDiff, Nat.reduceAdd, Nat.reduceMul, Nat.reduceLeDiff, Nat.reduceLT, Int.reduceLE, Int.reduceLT, Int.reduceGT, Int.reduceGE, Int.reduceEq, Int.reduceNe, Int.reduceToNat, reduceCtorEq, ak, e98]
                      obtain rfl := Option.some.inj h
                      refine G93n _ _ (((Weak.keep [97]).trans ((Weak.foc [(.arg 0, ⟨(.arg 0), [], none, .fz⟩)] rfl (by first | rfl | simp only [reduceCtorEq, Nat.reduceEqDiff, ak, akF, e98]) (by simp [argK, akG, ak])).trans (Weak.of_eq (by first | rfl | (simp only [reduceCtorEq, Nat.reduceEqDiff, ak, akF, e98]; done) | (simp [reduceCtorEq, Nat.reduceEqDiff, ak, akF, e98]; done)))))) (hJ92 _ rfl)
                    · rw [if_neg c97] at h
                      have e99 : (!t94) = false := Bool.eq_false_iff.2 c97
                      simp only [Nat.reduceEqDiff, Nat.reduceAdd, Nat.reduceMul, Nat.reduceLeDiff, Nat.reduceLT, Int.reduceLE, Int.reduceLT, Int.reduceGT, Int.reduceGE, Int.reduceEq, Int.reduceNe, Int.reduceToNat, reduceCtorEq, ak, e99]
                      obtain rfl := Option.some.inj h
                      refine G93n _ _ (((Weak.keep [97]).trans ((Weak.foc [(.arg 0, ⟨(.arg 0), [], none, .fz⟩)] rfl (by first | rfl | simp only [reduceCtorEq, Nat.reduceEqDiff, ak, akF, e99]) (by simp [argK, akG, ak])).trans (Weak.of_eq (by first | rfl | (simp only [reduceCtorEq, Nat.reduceEqDiff, ak, akF, e99]; done) | (simp [reduceCtorEq, Nat.reduceEqDiff, ak, akF, e99]; done)))))) (hJ92 _ rfl)
                  · replace h := hn; clear hn h91
                    rintro _ rfl
                    refine cond_k (b := j90) rfl (fun c100 => ?_) (fun c100 => ?_)
                    · rw [if_pos c100] at h
                      refine seq_k fun J101 hJ101 => ?_
                      refine reg_k ?_
                      simp only [Nat.reduceEqDiff, Nat.reduceAdd, Nat.reduceMul, Nat.reduceLeDiff, Nat.reduceLT, Int.reduceLE, Int.reduceLT, Int.reduceGT, Int.reduceGE, Int.reduceEq, Int.reduceNe, Int.reduceToNat, reduceCtorEq, ak]
                      refine hJ101 _ ?_
                      obtain rfl := Option.some.inj h
                      refine hKr _ ⟨_, rfl, [], _, rfl, rfl, ?_⟩
                      first | rfl | (simp only [reduceCtorEq, Nat.reduceEqDiff, ak, akF]; done) | (simp [reduceCtorEq, Nat.reduceEqDiff, ak, akF]; done)
                    · rw [if_neg (Bool.eq_false_iff.1 c100)] at h
                      refine hJ89 _ ?_
                      refine seq_k fun J102 hJ102 => ?_
                      refine reg_k ?_
                      simp only [Nat.reduceEqDiff, Nat.reduceAdd, Nat.reduceMul, Nat.reduceLeDiff, Nat.reduceLT, Int.reduceLE, Int.reduceLT, Int.reduceGT, Int.reduceGE, Int.reduceEq, Int.reduceNe, Int.reduceToNat, reduceCtorEq, ak]
                      refine hJ102 _ ?_
                      obtain rfl := Option.some.inj h
                      refine hKr _ ⟨_, rfl, [], _, rfl, rfl, ?_⟩
                      first | rfl | (simp only [reduceCtorEq, Nat.reduceEqDiff, ak, akF]; done) | (simp [reduceCtorEq, Nat.reduceEqDiff, ak, akF]; done)
end Go.AK
