-- by a program of this session (wip/ak/pw.py)
import Derived.Test.YtlladicdmmdboaaUReorderState1
set_option synthInstance.maxSize 2000
set_option maxRecDepth 100000
set_option maxHeartbeats 4000000
set_option linter.unusedVariables false
set_option linter.unusedSimpArgs false
namespace Go.AK
open Go Go.Proofs
/-! ### laws.eqReorderView: function 58 -/
def C58 : AC := .seq (.reg [.op none (.box 2 (.tmp 0)), .op none (.box 3 (.tmp 1)), .op none (.mv 4 (.const (.bool false))), .keep [2, 3]]) (.seq (.seq (.reg [.op none (.faddr 5 0 (.tmp 2)), .op none (.load 6 false 1 (.tmp 5)), .op none (.faddr 7 0 (.tmp 3)), .op none (.load 8 false 1 (.tmp 7)), .op none (.bin 9 .neq (.tmp 6) (.tmp 8)), .keep [2, 3, 9]]) (.cond (.tmp 9) (.seq (.reg [.op none (.mv 4 (.const (.bool false))), .keep [4]]) (.ret)) (.skip))) (.seq (.seq (.reg [.op none (.faddr 10 1 (.tmp 2)), .op none (.load 11 false 1 (.tmp 10)), .op none (.faddr 12 1 (.tmp 3)), .op none (.load 13 false 1 (.tmp 12)), .op none (.bin 14 .neq (.tmp 11) (.tmp 13)), .keep [2, 3, 14]]) (.cond (.tmp 14) (.seq (.reg [.op none (.mv 4 (.const (.bool false))), .keep [4]]) (.ret)) (.skip))) (.seq (.seq (.reg [.op none (.faddr 15 2 (.tmp 2)), .op none (.load 16 false 1 (.tmp 15)), .op none (.faddr 17 2 (.tmp 3)), .op none (.load 18 false 1 (.tmp 17)), .call none (some 19) 107 [.tmp 16, .tmp 18], .op none (.un 20 .not (.tmp 19)), .keep [2, 3, 20]]) (.cond (.tmp 20) (.seq (.reg [.op none (.mv 4 (.const (.bool false))), .keep [4]]) (.ret)) (.skip))) (.seq (.seq (.reg [.op none (.faddr 21 3 (.tmp 2)), .op none (.load 22 false 1 (.tmp 21)), .op none (.faddr 23 3 (.tmp 3)), .op none (.load 24 false 1 (.tmp 23)), .op none (.bin 25 .neq (.tmp 22) (.tmp 24)), .keep [2, 3, 25]]) (.cond (.tmp 25) (.seq (.reg [.op none (.mv 4 (.const (.bool false))), .keep [4]]) (.ret)) (.skip))) (.seq (.seq (.reg [.op none (.faddr 26 4 (.tmp 2)), .op none (.load 27 false 1 (.tmp 26)), .op none (.faddr 28 4 (.tmp 3)), .op none (.load 29 false 1 (.tmp 28)), .op none (.bin 30 .neq (.tmp 27) (.tmp 29)), .keep [30]]) (.cond (.tmp 30) (.seq (.reg [.op none (.mv 4 (.const (.bool false))), .keep [4]]) (.ret)) (.skip))) (.seq (.reg [.op none (.mv 4 (.const (.bool true))), .keep [4]]) (.ret)))))))
def r58 : List RV := [.tmp 4]
theorem k58 : compC Try.prog 31 C58 (Try.f58.body.getD .skip) = some C58.erase := by kernel_rfl
theorem q58 : rvsOf Try.prog Try.f58.results.toList = some r58 := by kernel_rfl
def laws_eqReorderView.f (a0_0 : Int) (a0_1 : Int) (l0_2 : List S122) (a0_3 : Int) (a0_4 : Int) (a1_0 : Int) (a1_1 : Int) (l1_2 : List S122) (a1_3 : Int) (a1_4 : Int) : Option Bool := (if a0_0 ≠ a1_0 then (some false) else (if a0_1 ≠ a1_1 then (some false) else (laws_eqSpanS.f l0_2 l1_2 >>= fun t12 => (if (!t12) = true then (some false) else (if a0_3 ≠ a1_3 then (some false) else (if a0_4 ≠ a1_4 then (some false) else (some true)))))))
theorem laws_eqReorderView.tri (cs0 : List Cell) (o0 : Nat) (l0_2 : List S122) (hv0 : Vw c122 2 cs0 o0 l0_2) (cs1 : List Cell) (o1 : Nat) (l1_2 : List S122) (hv1 : Vw c122 2 cs1 o1 l1_2) (a0_0 : Int) (a0_1 : Int) (a0_3 : Int) (a0_4 : Int) (a1_0 : Int) (a1_1 : Int) (a1_3 : Int) (a1_4 : Int) (r : Bool) (h : laws_eqReorderView.f a0_0 a0_1 l0_2 a0_3 a0_4 a1_0 a1_1 l1_2 a1_3 a1_4 = some r) : Tri Try.prog 58 [.g [.sc (.int .u64 a0_0), .sc (.int .u64 a0_1), .ref (.arg 0) [] o0 l0_2.length, .sc (.int .i64 a0_3), .sc (.int .u64 a0_4)], .g [.sc (.int .u64 a1_0), .sc (.int .u64 a1_1), .ref (.arg 1) [] o1 l1_2.length, .sc (.int .i64 a1_3), .sc (.int .u64 a1_4)]] [(.arg 0, ⟨.fz, 2, cs0⟩), (.arg 1, ⟨.fz, 2, cs1⟩)] (fun o => o = ⟨.c (.sc (.bool r)), [(.arg 0, ⟨.fz, 2, cs0⟩), (.arg 1, ⟨.fz, 2, cs1⟩)], [], []⟩) := by
  refine tri_of_body (ac := C58) (xs := r58) Try.func58 (show Try.f58.body = some (Try.f58.body.getD .skip) from rfl) k58 q58 (Nat.le_of_ble_eq_true rfl) ?_
  refine body_of fun K hKn hKr => ?_
  unfold laws_eqReorderView.f at h
  unfold C58
  simp only [initT, Nat.reduceAdd]
  refine sr_k fun J1 hJ1 => ?_
  simp +decide only [Nat.reduceAdd, Nat.reduceMul, Int.reduceToNat, ak]
  refine hJ1 _ ?_
  refine seq_k fun J2 hJ2 => ?_
  refine sr_k fun J3 hJ3 => ?_
  simp +decide only [Nat.reduceAdd, Nat.reduceMul, Int.reduceToNat, ak]
  refine hJ3 _ ?_
  refine cond_k (b := decide (a0_0 ≠ a1_0)) rfl (fun c4 => ?_) (fun c4 => ?_)
  · replace c4 := of_decide_eq_true c4; rw [if_pos c4] at h
    refine sr_k fun J5 hJ5 => ?_
    simp +decide only [Nat.reduceAdd, Nat.reduceMul, Int.reduceToNat, ak]
    refine hJ5 _ ?_
    obtain rfl := Option.some.inj h
    refine hKr _ ⟨_, rfl, [], _, rfl, rfl, ?_⟩
    first | rfl | (simp only [reduceCtorEq, Nat.reduceEqDiff, ak, akF]; done) | (simp [reduceCtorEq, Nat.reduceEqDiff, ak, akF] <;> omega)
  · replace c4 := of_decide_eq_false c4; rw [if_neg c4] at h
    refine hJ2 _ ?_
    refine seq_k fun J6 hJ6 => ?_
    refine sr_k fun J7 hJ7 => ?_
    simp +decide only [Nat.reduceAdd, Nat.reduceMul, Int.reduceToNat, ak]
    refine hJ7 _ ?_
    refine cond_k (b := decide (a0_1 ≠ a1_1)) rfl (fun c8 => ?_) (fun c8 => ?_)
    · replace c8 := of_decide_eq_true c8; rw [if_pos c8] at h
      refine sr_k fun J9 hJ9 => ?_
      simp +decide only [Nat.reduceAdd, Nat.reduceMul, Int.reduceToNat, ak]
      refine hJ9 _ ?_
      obtain rfl := Option.some.inj h
      refine hKr _ ⟨_, rfl, [], _, rfl, rfl, ?_⟩
      first | rfl | (simp only [reduceCtorEq, Nat.reduceEqDiff, ak, akF]; done) | (simp [reduceCtorEq, Nat.reduceEqDiff, ak, akF] <;> omega)
    · replace c8 := of_decide_eq_false c8; rw [if_neg c8] at h
      refine hJ6 _ ?_
      refine seq_k fun J10 hJ10 => ?_
      refine sr_k fun J11 hJ11 => ?_
      simp +decide only [Nat.reduceAdd, Nat.reduceMul, Int.reduceToNat, ak]
      obtain ⟨t12, h13, h⟩ := of_bind h
      refine call_m [(.arg 0, ⟨(.arg 0), [], none, .fz⟩), (.arg 1, ⟨(.arg 1), [], none, .fz⟩)] (s0 := [(.arg 0, ⟨.fz, 2, cs0⟩), (.arg 1, ⟨.fz, 2, cs1⟩)]) (by intro t ht; cases ht; decide) rfl rfl (by first | rfl | simp only [reduceCtorEq, Nat.reduceEqDiff, ak, akF]) (laws_eqSpanS.tri (cs0) o0 l0_2 hv0 (cs1) o1 l1_2 hv1 _ h13) (by first | rfl | simp only [reduceCtorEq, Nat.reduceEqDiff, ak, akF]) (by simp [bkOk2, memK]) (fun hl13 => ?_)
      refine call_st (s4 := [(.arg 0, ⟨.fz, 2, cs0⟩), (.arg 1, ⟨.fz, 2, cs1⟩), (.tmp 2 0, ⟨.box, 0, [.sc (.int .u64 a0_0), .sc (.int .u64 a0_1), .ref (.arg 0) [] o0 l0_2.length, .sc (.int .i64 a0_3), .sc (.int .u64 a0_4)]⟩), (.tmp 3 0, ⟨.box, 0, [.sc (.int .u64 a1_0), .sc (.int .u64 a1_1), .ref (.arg 1) [] o1 l1_2.length, .sc (.int .i64 a1_3), .sc (.int .u64 a1_4)]⟩)]) (m1' := []) (m2' := []) (v' := .c (.sc (.bool t12))) (Sto.mapN_killNil _ _) (mrgL_fz (mrgL_fz (mrgL_nil' _ _ _) rfl (by first | rfl | simp only [reduceCtorEq, Nat.reduceEqDiff, ak]) rfl (by intro R hR hh; cases hR; cases hh.2)) rfl (by first | rfl | simp only [reduceCtorEq, Nat.reduceEqDiff, ak]) rfl (by intro R hR hh; cases hR; cases hh.2)) (by rfl) (mapT_killNil _ _) (by rfl) (by rfl) (by first | rfl | simp only [reduceCtorEq, Nat.reduceEqDiff, ak, akF, Nat.zero_add, List.append_nil]) ?_
      simp +decide only [Nat.reduceAdd, Nat.reduceMul, Int.reduceToNat, ak]
      refine hJ11 _ ?_
      refine cond_k (b := !t12) rfl (fun c15 => ?_) (fun c15 => ?_)
      · rw [if_pos c15] at h
        refine sr_k fun J16 hJ16 => ?_
        simp +decide only [Nat.reduceAdd, Nat.reduceMul, Int.reduceToNat, ak]
        refine hJ16 _ ?_
        obtain rfl := Option.some.inj h
        refine hKr _ ⟨_, rfl, [], _, rfl, rfl, ?_⟩
        first | rfl | (simp only [reduceCtorEq, Nat.reduceEqDiff, ak, akF]; done) | (simp [reduceCtorEq, Nat.reduceEqDiff, ak, akF] <;> omega)
      · rw [if_neg (Bool.eq_false_iff.1 c15)] at h
        refine hJ10 _ ?_
        refine seq_k fun J17 hJ17 => ?_
        refine sr_k fun J18 hJ18 => ?_
        simp +decide only [Nat.reduceAdd, Nat.reduceMul, Int.reduceToNat, ak]
        refine hJ18 _ ?_
        refine cond_k (b := decide (a0_3 ≠ a1_3)) rfl (fun c19 => ?_) (fun c19 => ?_)
        · replace c19 := of_decide_eq_true c19; rw [if_pos c19] at h
          refine sr_k fun J20 hJ20 => ?_
          simp +decide only [Nat.reduceAdd, Nat.reduceMul, Int.reduceToNat, ak]
          refine hJ20 _ ?_
          obtain rfl := Option.some.inj h
          refine hKr _ ⟨_, rfl, [], _, rfl, rfl, ?_⟩
          first | rfl | (simp only [reduceCtorEq, Nat.reduceEqDiff, ak, akF]; done) | (simp [reduceCtorEq, Nat.reduceEqDiff, ak, akF] <;> omega)
        · replace c19 := of_decide_eq_false c19; rw [if_neg c19] at h
          refine hJ17 _ ?_
          refine seq_k fun J21 hJ21 => ?_
          refine sr_k fun J22 hJ22 => ?_
          simp +decide only [Nat.reduceAdd, Nat.reduceMul, Int.reduceToNat, ak]
          refine hJ22 _ ?_
          refine cond_k (b := decide (a0_4 ≠ a1_4)) rfl (fun c23 => ?_) (fun c23 => ?_)
          · replace c23 := of_decide_eq_true c23; rw [if_pos c23] at h
            refine sr_k fun J24 hJ24 => ?_
            simp +decide only [Nat.reduceAdd, Nat.reduceMul, Int.reduceToNat, ak]
            refine hJ24 _ ?_
            obtain rfl := Option.some.inj h
            refine hKr _ ⟨_, rfl, [], _, rfl, rfl, ?_⟩
            first | rfl | (simp only [reduceCtorEq, Nat.reduceEqDiff, ak, akF]; done) | (simp [reduceCtorEq, Nat.reduceEqDiff, ak, akF] <;> omega)
          · replace c23 := of_decide_eq_false c23; rw [if_neg c23] at h
            refine hJ21 _ ?_
            refine sr_k fun J25 hJ25 => ?_
            simp +decide only [Nat.reduceAdd, Nat.reduceMul, Int.reduceToNat, ak]
            refine hJ25 _ ?_
            obtain rfl := Option.some.inj h
            refine hKr _ ⟨_, rfl, [], _, rfl, rfl, ?_⟩
            first | rfl | (simp only [reduceCtorEq, Nat.reduceEqDiff, ak, akF]; done) | (simp [reduceCtorEq, Nat.reduceEqDiff, ak, akF] <;> omega)
/-! ### laws.eqByteS: function 123 -/
def C123_l0 : AC := .seq (.seq (.reg [.op none (.mv 11 (.tmp 5)), .op none (.mv 12 (.tmp 0)), .op none (.len 13 (.tmp 12)), .op none (.bin 14 .lss (.tmp 11) (.tmp 13)), .keep [0, 1, 5, 14]]) (.cond (.tmp 14) (.skip) (.gh (.exit 0)))) (.seq (.block 1 (.seq (.regD (.first (.op none (.mv 17 (.tmp 0))) (.first (.op none (.mv 18 (.tmp 5))) (.first (.op none (.iaddr 19 1 (.tmp 17) (.tmp 18))) (.first (.op none (.load 20 false 1 (.tmp 19))) (.first (.op none (.mv 21 (.tmp 1))) (.first (.op none (.mv 22 (.tmp 5))) (.first (.op none (.iaddr 23 1 (.tmp 21) (.tmp 22))) (.first (.op none (.load 24 false 1 (.tmp 23))) (.first (.op none (.bin 25 .neq (.tmp 20) (.tmp 24))) (.done)))))))))) [0, 1, 5, 25]) (.cond (.tmp 25) (.seq (.reg [.op none (.mv 4 (.const (.bool false))), .keep [4]]) (.gh .ret)) (.skip)))) (.reg [.op none (.mv 15 (.tmp 5)), .op none (.bin 16 .add (.tmp 15) (.const (.int .i64 1))), .op none (.mv 5 (.tmp 16)), .keep [0, 1, 5]]))
def C123 : AC := .seq (.reg [.op none (.mv 4 (.const (.bool false))), .keep [0, 1]]) (.seq (.seq (.reg [.op none (.mv 6 (.tmp 0)), .op none (.len 7 (.tmp 6)), .op none (.mv 8 (.tmp 1)), .op none (.len 9 (.tmp 8)), .op none (.bin 10 .neq (.tmp 7) (.tmp 9)), .keep [0, 1, 10]]) (.cond (.tmp 10) (.seq (.reg [.op none (.mv 4 (.const (.bool false))), .keep [4]]) (.ret)) (.skip))) (.seq (.seq (.reg [.op none (.mv 5 (.const (.int .i64 0))), .keep [0, 1, 5]]) (.block 0 (.gh (.loop (.ga C123_l0))))) (.seq (.reg [.op none (.mv 4 (.const (.bool true))), .keep [4]]) (.ret))))
def r123 : List RV := [.tmp 4]
theorem k123 : compC Try.prog 26 C123 (Try.f123.body.getD .skip) = some C123.erase := by kernel_rfl
theorem q123 : rvsOf Try.prog Try.f123.results.toList = some r123 := by kernel_rfl
def laws_eqByteS.l0 (l0 : List Int) (l1 : List Int) (x0_0 : Int) : Option (Lp Unit Bool) := (if x0_0 < (l0.length : Int) then (if 0 ≤ x0_0 ∧ x0_0 < (l0.length : Int) then (if 0 ≤ x0_0 ∧ x0_0 < (l1.length : Int) then (if (rd 0 l0 x0_0) ≠ (rd 0 l1 x0_0) then (some (.b false)) else (laws_eqByteS.l0 l0 l1 (IntKind.i64.wrap (x0_0 + 1)))) else none) else none) else (some (.a ())))
  partial_fixpoint
def laws_eqByteS.f (l0 : List Int) (l1 : List Int) : Option Bool := (if (l0.length : Int) ≠ (l1.length : Int) then (some false) else (laws_eqByteS.l0 l0 l1 0 >>= fun (y21 : Lp Unit Bool) => match y21 with | .a x23 => (some true) | .b x23 => (some x23)))
def laws_eqByteS.l0_M (cs0 : List Cell) (o0 : Nat) (l0 : List Int) (hv0 : Vw c_u8 1 cs0 o0 l0) (cs1 : List Cell) (o1 : Nat) (l1 : List Int) (hv1 : Vw c_u8 1 cs1 o1 l1) (x0_0 : Int) (y : Lp Unit Bool) : Prop := ∀ (K : AE → St → Prop), (∀ x, y = .a x → K (.exit 0) ⟨[], [(.arg 0, ⟨.fz, 1, cs0⟩), (.arg 1, ⟨.fz, 1, cs1⟩)], [], []⟩) → (∀ x, y = .b x → K .ret ⟨[(4, .c (.sc (.bool x)))], [(.arg 0, ⟨.fz, 1, cs0⟩), (.arg 1, ⟨.fz, 1, cs1⟩)], [], []⟩) → loopS Try.prog 26 (.ga C123_l0) K ⟨[(0, .c (.ref (.arg 0) [] o0 l0.length)), (1, .c (.ref (.arg 1) [] o1 l1.length)), (5, .c (.sc (.int .i64 x0_0)))], [(.arg 0, ⟨.fz, 1, cs0⟩), (.arg 1, ⟨.fz, 1, cs1⟩)], [], []⟩
theorem laws_eqByteS.l0_walk (cs0 : List Cell) (o0 : Nat) (l0 : List Int) (hv0 : Vw c_u8 1 cs0 o0 l0) (cs1 : List Cell) (o1 : Nat) (l1 : List Int) (hv1 : Vw c_u8 1 cs1 o1 l1) (x0_0 : Int) (y : Lp Unit Bool) (h : laws_eqByteS.l0 l0 l1 x0_0 = some y) : laws_eqByteS.l0_M cs0 o0 l0 hv0 cs1 o1 l1 hv1 x0_0 y := by
  refine laws_eqByteS.l0.partial_correctness l0 l1 (motive := fun x0_0 y => laws_eqByteS.l0_M cs0 o0 l0 hv0 cs1 o1 l1 hv1 x0_0 y) ?_ x0_0 y h
  clear h
  unfold laws_eqByteS.l0_M
  intro rec ih x0_0 y h K hx0 hx1
  refine loop_unroll (ga_k fun G0 G0n G0r G0x => ?_)
  unfold C123_l0
  refine seq_k fun J9 hJ9 => ?_
  refine sr_k fun J10 hJ10 => ?_
  simp +decide only [Nat.reduceAdd, Nat.reduceMul, Int.reduceToNat, ak]
  refine hJ10 _ ?_
  refine cond_k (b := decide (x0_0 < (l0.length : Int))) rfl (fun c11 => ?_) (fun c11 => ?_)
  · replace c11 := of_decide_eq_true c11; rw [if_pos c11] at h
    refine hJ9 _ ?_
    refine seq_k fun J12 hJ12 => ?_
    refine block_k fun B13 B13n B13x B13r B13j => ?_
    refine sd_k fun J14 hJ14 => ?_
    obtain ⟨b15, h⟩ := of_guard h
    have g16 : (cs0)[o0 + x0_0.toNat * 1]? = some (.sc (.int .u8 (rd 0 l0 x0_0))) := hv0.get 0 0 b15.1 b15.2 (by decide)
    obtain ⟨b17, h⟩ := of_guard h
    have g18 : (cs1)[o1 + x0_0.toNat * 1]? = some (.sc (.int .u8 (rd 0 l1 x0_0))) := hv1.get 0 0 b17.1 b17.2 (by decide)
    simp +decide only [Nat.reduceAdd, Nat.reduceMul, Int.reduceToNat, ak, b15, g16, b17, g18]
    refine hJ14 _ ?_
    refine cond_k (b := decide ((rd 0 l0 x0_0) ≠ (rd 0 l1 x0_0))) rfl (fun c19 => ?_) (fun c19 => ?_)
    · replace c19 := of_decide_eq_true c19; rw [if_pos c19] at h
      refine sr_k fun J20 hJ20 => ?_
      simp +decide only [Nat.reduceAdd, Nat.reduceMul, Int.reduceToNat, ak]
      refine hJ20 _ ?_
      obtain rfl := Option.some.inj h
      refine gh_k (wk [4] [pI (.arg 0) .fz, pI (.arg 1) .fz]) ?_
      refine B13r _ ?_
      refine G0r _ ?_
      exact hx1 _ rfl
    · replace c19 := of_decide_eq_false c19; rw [if_neg c19] at h
      refine B13n _ ?_
      refine hJ12 _ ?_
      refine reg_k ?_
      simp +decide only [Nat.reduceAdd, Nat.reduceMul, Int.reduceToNat, ak]
      refine G0n _ _ (wk [0, 1, 5] [pI (.arg 0) .fz, pI (.arg 1) .fz]) (ih _ _ h K hx0 hx1)
  · replace c11 := of_decide_eq_false c11; rw [if_neg c11] at h
    obtain rfl := Option.some.inj h
    refine gh_k (wk [] [pI (.arg 0) .fz, pI (.arg 1) .fz]) ?_
    refine G0x _ _ ?_
    exact hx0 _ rfl
theorem laws_eqByteS.tri (cs0 : List Cell) (o0 : Nat) (l0 : List Int) (hv0 : Vw c_u8 1 cs0 o0 l0) (cs1 : List Cell) (o1 : Nat) (l1 : List Int) (hv1 : Vw c_u8 1 cs1 o1 l1) (r : Bool) (h : laws_eqByteS.f l0 l1 = some r) : Tri Try.prog 123 [.c (.ref (.arg 0) [] o0 l0.length), .c (.ref (.arg 1) [] o1 l1.length)] [(.arg 0, ⟨.fz, 1, cs0⟩), (.arg 1, ⟨.fz, 1, cs1⟩)] (fun o => o = ⟨.c (.sc (.bool r)), [(.arg 0, ⟨.fz, 1, cs0⟩), (.arg 1, ⟨.fz, 1, cs1⟩)], [], []⟩) := by
  refine tri_of_body (ac := C123) (xs := r123) Try.func123 (show Try.f123.body = some (Try.f123.body.getD .skip) from rfl) k123 q123 (Nat.le_of_ble_eq_true rfl) ?_
  refine body_of fun K hKn hKr => ?_
  unfold laws_eqByteS.f at h
  unfold C123
  simp only [initT, Nat.reduceAdd]
  refine sr_k fun J1 hJ1 => ?_
  simp +decide only [Nat.reduceAdd, Nat.reduceMul, Int.reduceToNat, ak]
  refine hJ1 _ ?_
  refine seq_k fun J2 hJ2 => ?_
  refine sr_k fun J3 hJ3 => ?_
  simp +decide only [Nat.reduceAdd, Nat.reduceMul, Int.reduceToNat, ak]
  refine hJ3 _ ?_
  refine cond_k (b := decide ((l0.length : Int) ≠ (l1.length : Int))) rfl (fun c4 => ?_) (fun c4 => ?_)
  · replace c4 := of_decide_eq_true c4; rw [if_pos c4] at h
    refine sr_k fun J5 hJ5 => ?_
    simp +decide only [Nat.reduceAdd, Nat.reduceMul, Int.reduceToNat, ak]
    refine hJ5 _ ?_
    obtain rfl := Option.some.inj h
    refine hKr _ ⟨_, rfl, [], _, rfl, rfl, ?_⟩
    first | rfl | (simp only [reduceCtorEq, Nat.reduceEqDiff, ak, akF]; done) | (simp [reduceCtorEq, Nat.reduceEqDiff, ak, akF] <;> omega)
  · replace c4 := of_decide_eq_false c4; rw [if_neg c4] at h
    refine hJ2 _ ?_
    refine seq_k fun J6 hJ6 => ?_
    refine sr_k fun J7 hJ7 => ?_
    simp +decide only [Nat.reduceAdd, Nat.reduceMul, Int.reduceToNat, ak]
    refine hJ7 _ ?_
    refine block_k fun B8 B8n B8x B8r B8j => ?_
    obtain ⟨y21, h22, h⟩ := of_bind h
    refine gh_k (wk [0, 1, 5] [pI (.arg 0) .fz, pI (.arg 1) .fz]) ?_
    rw [e_loop]
    refine laws_eqByteS.l0_walk cs0 o0 l0 hv0 cs1 o1 l1 hv1 0 _ h22 _ ?_ ?_
    · rintro x23 rfl
      dsimp only at h
      refine B8x _ ?_
      refine hJ6 _ ?_
      refine sr_k fun J24 hJ24 => ?_
      simp +decide only [Nat.reduceAdd, Nat.reduceMul, Int.reduceToNat, ak]
      refine hJ24 _ ?_
      obtain rfl := Option.some.inj h
      refine hKr _ ⟨_, rfl, [], _, rfl, rfl, ?_⟩
      first | rfl | (simp only [reduceCtorEq, Nat.reduceEqDiff, ak, akF]; done) | (simp [reduceCtorEq, Nat.reduceEqDiff, ak, akF] <;> omega)
    · rintro x23 rfl
      dsimp only at h
      refine B8r _ ?_
      obtain rfl := Option.some.inj h
      refine hKr _ ⟨_, rfl, [], _, rfl, rfl, ?_⟩
      first | rfl | (simp only [reduceCtorEq, Nat.reduceEqDiff, ak, akF]; done) | (simp [reduceCtorEq, Nat.reduceEqDiff, ak, akF] <;> omega)
/-! ### laws.eqReorderEvent: function 104 -/
def C104 : AC := .seq (.reg [.op none (.box 2 (.tmp 0)), .op none (.box 3 (.tmp 1)), .op none (.mv 4 (.const (.bool false))), .keep [2, 3]]) (.seq (.seq (.reg [.op none (.faddr 5 0 (.tmp 2)), .op none (.load 6 false 1 (.tmp 5)), .op none (.faddr 7 0 (.tmp 3)), .op none (.load 8 false 1 (.tmp 7)), .op none (.bin 9 .neq (.tmp 6) (.tmp 8)), .keep [2, 3, 9]]) (.cond (.tmp 9) (.seq (.reg [.op none (.mv 4 (.const (.bool false))), .keep [4]]) (.ret)) (.skip))) (.seq (.seq (.reg [.op none (.faddr 10 1 (.tmp 2)), .op none (.load 11 false 1 (.tmp 10)), .op none (.faddr 12 1 (.tmp 3)), .op none (.load 13 false 1 (.tmp 12)), .op none (.bin 14 .neq (.tmp 11) (.tmp 13)), .keep [2, 3, 14]]) (.cond (.tmp 14) (.seq (.reg [.op none (.mv 4 (.const (.bool false))), .keep [4]]) (.ret)) (.skip))) (.seq (.seq (.reg [.op none (.faddr 15 2 (.tmp 2)), .op none (.load 16 false 1 (.tmp 15)), .op none (.faddr 17 2 (.tmp 3)), .op none (.load 18 false 1 (.tmp 17)), .call none (some 19) 123 [.tmp 16, .tmp 18], .op none (.un 20 .not (.tmp 19)), .keep [2, 3, 20]]) (.cond (.tmp 20) (.seq (.reg [.op none (.mv 4 (.const (.bool false))), .keep [4]]) (.ret)) (.skip))) (.seq (.seq (.reg [.op none (.faddr 21 3 (.tmp 2)), .op none (.load 22 false 1 (.tmp 21)), .op none (.faddr 23 3 (.tmp 3)), .op none (.load 24 false 1 (.tmp 23)), .op none (.bin 25 .neq (.tmp 22) (.tmp 24)), .keep [25]]) (.cond (.tmp 25) (.seq (.reg [.op none (.mv 4 (.const (.bool false))), .keep [4]]) (.ret)) (.skip))) (.seq (.reg [.op none (.mv 4 (.const (.bool true))), .keep [4]]) (.ret))))))
def r104 : List RV := [.tmp 4]
theorem k104 : compC Try.prog 26 C104 (Try.f104.body.getD .skip) = some C104.erase := by kernel_rfl
theorem q104 : rvsOf Try.prog Try.f104.results.toList = some r104 := by kernel_rfl
def laws_eqReorderEvent.f (a0_0 : Int) (a0_1 : Int) (l0_2 : List Int) (a0_3 : Int) (a1_0 : Int) (a1_1 : Int) (l1_2 : List Int) (a1_3 : Int) : Option Bool := (if a0_0 ≠ a1_0 then (some false) else (if a0_1 ≠ a1_1 then (some false) else (laws_eqByteS.f l0_2 l1_2 >>= fun t12 => (if (!t12) = true then (some false) else (if a0_3 ≠ a1_3 then (some false) else (some true))))))
theorem laws_eqReorderEvent.tri (cs0 : List Cell) (o0 : Nat) (l0_2 : List Int) (hv0 : Vw c_u8 1 cs0 o0 l0_2) (cs1 : List Cell) (o1 : Nat) (l1_2 : List Int) (hv1 : Vw c_u8 1 cs1 o1 l1_2) (a0_0 : Int) (a0_1 : Int) (a0_3 : Int) (a1_0 : Int) (a1_1 : Int) (a1_3 : Int) (r : Bool) (h : laws_eqReorderEvent.f a0_0 a0_1 l0_2 a0_3 a1_0 a1_1 l1_2 a1_3 = some r) : Tri Try.prog 104 [.g [.sc (.int .i64 a0_0), .sc (.int .u64 a0_1), .ref (.arg 0) [] o0 l0_2.length, .sc (.int .i64 a0_3)], .g [.sc (.int .i64 a1_0), .sc (.int .u64 a1_1), .ref (.arg 1) [] o1 l1_2.length, .sc (.int .i64 a1_3)]] [(.arg 0, ⟨.fz, 1, cs0⟩), (.arg 1, ⟨.fz, 1, cs1⟩)] (fun o => o = ⟨.c (.sc (.bool r)), [(.arg 0, ⟨.fz, 1, cs0⟩), (.arg 1, ⟨.fz, 1, cs1⟩)], [], []⟩) := by
  refine tri_of_body (ac := C104) (xs := r104) Try.func104 (show Try.f104.body = some (Try.f104.body.getD .skip) from rfl) k104 q104 (Nat.le_of_ble_eq_true rfl) ?_
  refine body_of fun K hKn hKr => ?_
  unfold laws_eqReorderEvent.f at h
  unfold C104
  simp only [initT, Nat.reduceAdd]
  refine sr_k fun J1 hJ1 => ?_
  simp +decide only [Nat.reduceAdd, Nat.reduceMul, Int.reduceToNat, ak]
  refine hJ1 _ ?_
  refine seq_k fun J2 hJ2 => ?_
  refine sr_k fun J3 hJ3 => ?_
  simp +decide only [Nat.reduceAdd, Nat.reduceMul, Int.reduceToNat, ak]
  refine hJ3 _ ?_
  refine cond_k (b := decide (a0_0 ≠ a1_0)) rfl (fun c4 => ?_) (fun c4 => ?_)
  · replace c4 := of_decide_eq_true c4; rw [if_pos c4] at h
    refine sr_k fun J5 hJ5 => ?_
    simp +decide only [Nat.reduceAdd, Nat.reduceMul, Int.reduceToNat, ak]
    refine hJ5 _ ?_
    obtain rfl := Option.some.inj h
    refine hKr _ ⟨_, rfl, [], _, rfl, rfl, ?_⟩
    first | rfl | (simp only [reduceCtorEq, Nat.reduceEqDiff, ak, akF]; done) | (simp [reduceCtorEq, Nat.reduceEqDiff, ak, akF] <;> omega)
  · replace c4 := of_decide_eq_false c4; rw [if_neg c4] at h
    refine hJ2 _ ?_
    refine seq_k fun J6 hJ6 => ?_
    refine sr_k fun J7 hJ7 => ?_
    simp +decide only [Nat.reduceAdd, Nat.reduceMul, Int.reduceToNat, ak]
    refine hJ7 _ ?_
    refine cond_k (b := decide (a0_1 ≠ a1_1)) rfl (fun c8 => ?_) (fun c8 => ?_)
    · replace c8 := of_decide_eq_true c8; rw [if_pos c8] at h
      refine sr_k fun J9 hJ9 => ?_
      simp +decide only [Nat.reduceAdd, Nat.reduceMul, Int.reduceToNat, ak]
      refine hJ9 _ ?_
      obtain rfl := Option.some.inj h
      refine hKr _ ⟨_, rfl, [], _, rfl, rfl, ?_⟩
      first | rfl | (simp only [reduceCtorEq, Nat.reduceEqDiff, ak, akF]; done) | (simp [reduceCtorEq, Nat.reduceEqDiff, ak, akF] <;> omega)
    · replace c8 := of_decide_eq_false c8; rw [if_neg c8] at h
      refine hJ6 _ ?_
      refine seq_k fun J10 hJ10 => ?_
      refine sr_k fun J11 hJ11 => ?_
      simp +decide only [Nat.reduceAdd, Nat.reduceMul, Int.reduceToNat, ak]
      obtain ⟨t12, h13, h⟩ := of_bind h
      refine call_m [(.arg 0, ⟨(.arg 0), [], none, .fz⟩), (.arg 1, ⟨(.arg 1), [], none, .fz⟩)] (s0 := [(.arg 0, ⟨.fz, 1, cs0⟩), (.arg 1, ⟨.fz, 1, cs1⟩)]) (by intro t ht; cases ht; decide) rfl rfl (by first | rfl | simp only [reduceCtorEq, Nat.reduceEqDiff, ak, akF]) (laws_eqByteS.tri (cs0) o0 l0_2 hv0 (cs1) o1 l1_2 hv1 _ h13) (by first | rfl | simp only [reduceCtorEq, Nat.reduceEqDiff, ak, akF]) (by simp [bkOk2, memK]) (fun hl13 => ?_)
      refine call_st (s4 := [(.arg 0, ⟨.fz, 1, cs0⟩), (.arg 1, ⟨.fz, 1, cs1⟩), (.tmp 2 0, ⟨.box, 0, [.sc (.int .i64 a0_0), .sc (.int .u64 a0_1), .ref (.arg 0) [] o0 l0_2.length, .sc (.int .i64 a0_3)]⟩), (.tmp 3 0, ⟨.box, 0, [.sc (.int .i64 a1_0), .sc (.int .u64 a1_1), .ref (.arg 1) [] o1 l1_2.length, .sc (.int .i64 a1_3)]⟩)]) (m1' := []) (m2' := []) (v' := .c (.sc (.bool t12))) (Sto.mapN_killNil _ _) (mrgL_fz (mrgL_fz (mrgL_nil' _ _ _) rfl (by first | rfl | simp only [reduceCtorEq, Nat.reduceEqDiff, ak]) rfl (by intro R hR hh; cases hR; cases hh.2)) rfl (by first | rfl | simp only [reduceCtorEq, Nat.reduceEqDiff, ak]) rfl (by intro R hR hh; cases hR; cases hh.2)) (by rfl) (mapT_killNil _ _) (by rfl) (by rfl) (by first | rfl | simp only [reduceCtorEq, Nat.reduceEqDiff, ak, akF, Nat.zero_add, List.append_nil]) ?_
      simp +decide only [Nat.reduceAdd, Nat.reduceMul, Int.reduceToNat, ak]
      refine hJ11 _ ?_
      refine cond_k (b := !t12) rfl (fun c15 => ?_) (fun c15 => ?_)
      · rw [if_pos c15] at h
        refine sr_k fun J16 hJ16 => ?_
        simp +decide only [Nat.reduceAdd, Nat.reduceMul, Int.reduceToNat, ak]
        refine hJ16 _ ?_
        obtain rfl := Option.some.inj h
        refine hKr _ ⟨_, rfl, [], _, rfl, rfl, ?_⟩
        first | rfl | (simp only [reduceCtorEq, Nat.reduceEqDiff, ak, akF]; done) | (simp [reduceCtorEq, Nat.reduceEqDiff, ak, akF] <;> omega)
      · rw [if_neg (Bool.eq_false_iff.1 c15)] at h
        refine hJ10 _ ?_
        refine seq_k fun J17 hJ17 => ?_
        refine sr_k fun J18 hJ18 => ?_
        simp +decide only [Nat.reduceAdd, Nat.reduceMul, Int.reduceToNat, ak]
        refine hJ18 _ ?_
        refine cond_k (b := decide (a0_3 ≠ a1_3)) rfl (fun c19 => ?_) (fun c19 => ?_)
        · replace c19 := of_decide_eq_true c19; rw [if_pos c19] at h
          refine sr_k fun J20 hJ20 => ?_
          simp +decide only [Nat.reduceAdd, Nat.reduceMul, Int.reduceToNat, ak]
          refine hJ20 _ ?_
          obtain rfl := Option.some.inj h
          refine hKr _ ⟨_, rfl, [], _, rfl, rfl, ?_⟩
          first | rfl | (simp only [reduceCtorEq, Nat.reduceEqDiff, ak, akF]; done) | (simp [reduceCtorEq, Nat.reduceEqDiff, ak, akF] <;> omega)
        · replace c19 := of_decide_eq_false c19; rw [if_neg c19] at h
          refine hJ17 _ ?_
          refine sr_k fun J21 hJ21 => ?_
          simp +decide only [Nat.reduceAdd, Nat.reduceMul, Int.reduceToNat, ak]
          refine hJ21 _ ?_
          obtain rfl := Option.some.inj h
          refine hKr _ ⟨_, rfl, [], _, rfl, rfl, ?_⟩
          first | rfl | (simp only [reduceCtorEq, Nat.reduceEqDiff, ak, akF]; done) | (simp [reduceCtorEq, Nat.reduceEqDiff, ak, akF] <;> omega)
/-! ### laws.eqReorderEventS: function 52 -/
def C52_l0 : AC := .seq (.seq (.reg [.op none (.mv 11 (.tmp 5)), .op none (.mv 12 (.tmp 0)), .op none (.len 13 (.tmp 12)), .op none (.bin 14 .lss (.tmp 11) (.tmp 13)), .keep [0, 1, 5, 14]]) (.cond (.tmp 14) (.skip) (.gh (.exit 0)))) (.seq (.block 1 (.seq (.regD (.first (.op none (.mv 17 (.tmp 0))) (.first (.op none (.mv 18 (.tmp 5))) (.first (.op none (.iaddr 19 4 (.tmp 17) (.tmp 18))) (.first (.op none (.load 20 true 4 (.tmp 19))) (.first (.op none (.mv 21 (.tmp 1))) (.first (.op none (.mv 22 (.tmp 5))) (.first (.op none (.iaddr 23 4 (.tmp 21) (.tmp 22))) (.first (.op none (.load 24 true 4 (.tmp 23))) (.alt (.call none (some 25) 104 [.tmp 20, .tmp 24]) none (.first (.op none (.un 26 .not (.tmp 25))) (.done)) (.stop)))))))))) [0, 1, 5, 26]) (.cond (.tmp 26) (.seq (.reg [.op none (.mv 4 (.const (.bool false))), .keep [4]]) (.gh .ret)) (.skip)))) (.reg [.op none (.mv 15 (.tmp 5)), .op none (.bin 16 .add (.tmp 15) (.const (.int .i64 1))), .op none (.mv 5 (.tmp 16)), .keep [0, 1, 5]]))
def C52 : AC := .seq (.reg [.op none (.mv 4 (.const (.bool false))), .keep [0, 1]]) (.seq (.seq (.reg [.op none (.mv 6 (.tmp 0)), .op none (.len 7 (.tmp 6)), .op none (.mv 8 (.tmp 1)), .op none (.len 9 (.tmp 8)), .op none (.bin 10 .neq (.tmp 7) (.tmp 9)), .keep [0, 1, 10]]) (.cond (.tmp 10) (.seq (.reg [.op none (.mv 4 (.const (.bool false))), .keep [4]]) (.ret)) (.skip))) (.seq (.seq (.reg [.op none (.mv 5 (.const (.int .i64 0))), .keep [0, 1, 5]]) (.block 0 (.gh (.loop (.ga C52_l0))))) (.seq (.reg [.op none (.mv 4 (.const (.bool true))), .keep [4]]) (.ret))))
def r52 : List RV := [.tmp 4]
theorem k52 : compC Try.prog 27 C52 (Try.f52.body.getD .skip) = some C52.erase := by kernel_rfl
theorem q52 : rvsOf Try.prog Try.f52.results.toList = some r52 := by kernel_rfl
def laws_eqReorderEventS.l0 (l0 : List S116) (l1 : List S116) (x0_0 : Int) : Option (Lp Unit Bool) := (if x0_0 < (l0.length : Int) then (if 0 ≤ x0_0 ∧ x0_0 < (l0.length : Int) then (if 0 ≤ x0_0 ∧ x0_0 < (l1.length : Int) then (laws_eqReorderEvent.f ((rd z116 l0 x0_0).f0) ((rd z116 l0 x0_0).f1) ((rd z116 l0 x0_0).f2) ((rd z116 l0 x0_0).f3) ((rd z116 l1 x0_0).f0) ((rd z116 l1 x0_0).f1) ((rd z116 l1 x0_0).f2) ((rd z116 l1 x0_0).f3) >>= fun t21 => (if (!t21) = true then (some (.b false)) else (laws_eqReorderEventS.l0 l0 l1 (IntKind.i64.wrap (x0_0 + 1))))) else none) else none) else (some (.a ())))
  partial_fixpoint
def laws_eqReorderEventS.f (l0 : List S116) (l1 : List S116) : Option Bool := (if (l0.length : Int) ≠ (l1.length : Int) then (some false) else (laws_eqReorderEventS.l0 l0 l1 0 >>= fun (y29 : Lp Unit Bool) => match y29 with | .a x31 => (some true) | .b x31 => (some x31)))
def laws_eqReorderEventS.l0_M (cs0 : List Cell) (o0 : Nat) (l0 : List S116) (hv0 : Vw c116 4 cs0 o0 l0) (cs1 : List Cell) (o1 : Nat) (l1 : List S116) (hv1 : Vw c116 4 cs1 o1 l1) (x0_0 : Int) (y : Lp Unit Bool) : Prop := ∀ (K : AE → St → Prop), (∀ x, y = .a x → K (.exit 0) ⟨[], [(.arg 0, ⟨.fz, 4, cs0⟩), (.arg 1, ⟨.fz, 4, cs1⟩)], [], []⟩) → (∀ x, y = .b x → K .ret ⟨[(4, .c (.sc (.bool x)))], [(.arg 0, ⟨.fz, 4, cs0⟩), (.arg 1, ⟨.fz, 4, cs1⟩)], [], []⟩) → loopS Try.prog 27 (.ga C52_l0) K ⟨[(0, .c (.ref (.arg 0) [] o0 l0.length)), (1, .c (.ref (.arg 1) [] o1 l1.length)), (5, .c (.sc (.int .i64 x0_0)))], [(.arg 0, ⟨.fz, 4, cs0⟩), (.arg 1, ⟨.fz, 4, cs1⟩)], [], []⟩
theorem laws_eqReorderEventS.l0_walk (cs0 : List Cell) (o0 : Nat) (l0 : List S116) (hv0 : Vw c116 4 cs0 o0 l0) (cs1 : List Cell) (o1 : Nat) (l1 : List S116) (hv1 : Vw c116 4 cs1 o1 l1) (x0_0 : Int) (y : Lp Unit Bool) (h : laws_eqReorderEventS.l0 l0 l1 x0_0 = some y) : laws_eqReorderEventS.l0_M cs0 o0 l0 hv0 cs1 o1 l1 hv1 x0_0 y := by
  refine laws_eqReorderEventS.l0.partial_correctness l0 l1 (motive := fun x0_0 y => laws_eqReorderEventS.l0_M cs0 o0 l0 hv0 cs1 o1 l1 hv1 x0_0 y) ?_ x0_0 y h
  clear h
  unfold laws_eqReorderEventS.l0_M
  intro rec ih x0_0 y h K hx0 hx1
  refine loop_unroll (ga_k fun G0 G0n G0r G0x => ?_)
  unfold C52_l0
  refine seq_k fun J9 hJ9 => ?_
  refine sr_k fun J10 hJ10 => ?_
  simp +decide only [Nat.reduceAdd, Nat.reduceMul, Int.reduceToNat, ak]
  refine hJ10 _ ?_
  refine cond_k (b := decide (x0_0 < (l0.length : Int))) rfl (fun c11 => ?_) (fun c11 => ?_)
  · replace c11 := of_decide_eq_true c11; rw [if_pos c11] at h
    refine hJ9 _ ?_
    refine seq_k fun J12 hJ12 => ?_
    refine block_k fun B13 B13n B13x B13r B13j => ?_
    refine sd_k fun J14 hJ14 => ?_
    obtain ⟨b15, h⟩ := of_guard h
    have g16 : (List.drop (o0 + x0_0.toNat * 4) (cs0)).take 4 = [.sc (.int .i64 ((rd z116 l0 x0_0).f0)), .sc (.int .u64 ((rd z116 l0 x0_0).f1)), .own 1 (((rd z116 l0 x0_0).f2).length) (encL c_u8 ((rd z116 l0 x0_0).f2)), .sc (.int .i64 ((rd z116 l0 x0_0).f3))] := hv0.stretch z116 b15.1 b15.2
    obtain ⟨b17, h⟩ := of_guard h
    have g18 : (List.drop (o1 + x0_0.toNat * 4) (cs1)).take 4 = [.sc (.int .i64 ((rd z116 l1 x0_0).f0)), .sc (.int .u64 ((rd z116 l1 x0_0).f1)), .own 1 (((rd z116 l1 x0_0).f2).length) (encL c_u8 ((rd z116 l1 x0_0).f2)), .sc (.int .i64 ((rd z116 l1 x0_0).f3))] := hv1.stretch z116 b17.1 b17.2
    simp +decide only [Nat.reduceAdd, Nat.reduceMul, Int.reduceToNat, ak, b15, g16, b17, g18]
    obtain ⟨t21, h22, h⟩ := of_bind h
    refine alt_e ?_
    · simp +decide only [Nat.reduceAdd, Nat.reduceMul, Int.reduceToNat, ak]
      have g24 : (cs0)[o0 + x0_0.toNat * 4 + 1 + 1]? = some (.own 1 (((rd z116 l0 x0_0).f2).length) (encL c_u8 ((rd z116 l0 x0_0).f2))) := hv0.get z116 2 b15.1 b15.2 (by decide)
      have g25 : (cs1)[o1 + x0_0.toNat * 4 + 1 + 1]? = some (.own 1 (((rd z116 l1 x0_0).f2).length) (encL c_u8 ((rd z116 l1 x0_0).f2))) := hv1.get z116 2 b17.1 b17.2 (by decide)
      refine call_m [(.arg 0, ⟨(.arg 0), [o0 + x0_0.toNat * 4 + 1 + 1], none, .fz⟩), (.arg 1, ⟨(.arg 1), [o1 + x0_0.toNat * 4 + 1 + 1], none, .fz⟩)] (s0 := [(.arg 0, ⟨.fz, 1, encL c_u8 ((rd z116 l0 x0_0).f2)⟩), (.arg 1, ⟨.fz, 1, encL c_u8 ((rd z116 l1 x0_0).f2)⟩)]) (by intro t ht; cases ht; decide) rfl rfl (by first | rfl | simp only [reduceCtorEq, Nat.reduceEqDiff, ak, akF, b15, b17, g16, g18, g24, g25]) (laws_eqReorderEvent.tri (encL c_u8 ((rd z116 l0 x0_0).f2)) 0 ((rd z116 l0 x0_0).f2) (Vw.whole c_u8_w ((rd z116 l0 x0_0).f2)) (encL c_u8 ((rd z116 l1 x0_0).f2)) 0 ((rd z116 l1 x0_0).f2) (Vw.whole c_u8_w ((rd z116 l1 x0_0).f2)) ((rd z116 l0 x0_0).f0) ((rd z116 l0 x0_0).f1) ((rd z116 l0 x0_0).f3) ((rd z116 l1 x0_0).f0) ((rd z116 l1 x0_0).f1) ((rd z116 l1 x0_0).f3) _ h22) (by first | rfl | simp only [reduceCtorEq, Nat.reduceEqDiff, ak, akF]) (by simp [bkOk2, memK]) (fun hl25 => ?_)
      refine call_st (s4 := [(.arg 0, ⟨.fz, 4, cs0⟩), (.arg 1, ⟨.fz, 4, cs1⟩)]) (m1' := []) (m2' := []) (v' := .c (.sc (.bool t21))) (Sto.mapN_killNil _ _) (mrgL_fz (mrgL_fz (mrgL_nil' _ _ _) rfl (by first | rfl | simp only [reduceCtorEq, Nat.reduceEqDiff, ak, b15, b17, g16, g18, g24, g25]) rfl (by intro R hR hh; cases hh.1)) rfl (by first | rfl | simp only [reduceCtorEq, Nat.reduceEqDiff, ak, b15, b17, g16, g18, g24, g25]) rfl (by intro R hR hh; cases hh.1)) (by rfl) (mapT_killNil _ _) (by rfl) (by rfl) (by first | rfl | simp only [reduceCtorEq, Nat.reduceEqDiff, ak, akF, Nat.zero_add, List.append_nil, b15, b17]) ?_
      simp +decide only [Nat.reduceAdd, Nat.reduceMul, Int.reduceToNat, ak, b15, g24, b17, g25]
      refine hJ14 _ ?_
      refine cond_k (b := !t21) rfl (fun c27 => ?_) (fun c27 => ?_)
      · rw [if_pos c27] at h
        refine sr_k fun J28 hJ28 => ?_
        simp +decide only [Nat.reduceAdd, Nat.reduceMul, Int.reduceToNat, ak]
        refine hJ28 _ ?_
        obtain rfl := Option.some.inj h
        refine gh_k (wk [4] [pI (.arg 0) .fz, pI (.arg 1) .fz]) ?_
        refine B13r _ ?_
        refine G0r _ ?_
        exact hx1 _ rfl
      · rw [if_neg (Bool.eq_false_iff.1 c27)] at h
        refine B13n _ ?_
        refine hJ12 _ ?_
        refine reg_k ?_
        simp +decide only [Nat.reduceAdd, Nat.reduceMul, Int.reduceToNat, ak]
        refine G0n _ _ (wk [0, 1, 5] [pI (.arg 0) .fz, pI (.arg 1) .fz]) (ih _ _ h K hx0 hx1)
  · replace c11 := of_decide_eq_false c11; rw [if_neg c11] at h
    obtain rfl := Option.some.inj h
    refine gh_k (wk [] [pI (.arg 0) .fz, pI (.arg 1) .fz]) ?_
    refine G0x _ _ ?_
    exact hx0 _ rfl
theorem laws_eqReorderEventS.tri (cs0 : List Cell) (o0 : Nat) (l0 : List S116) (hv0 : Vw c116 4 cs0 o0 l0) (cs1 : List Cell) (o1 : Nat) (l1 : List S116) (hv1 : Vw c116 4 cs1 o1 l1) (r : Bool) (h : laws_eqReorderEventS.f l0 l1 = some r) : Tri Try.prog 52 [.c (.ref (.arg 0) [] o0 l0.length), .c (.ref (.arg 1) [] o1 l1.length)] [(.arg 0, ⟨.fz, 4, cs0⟩), (.arg 1, ⟨.fz, 4, cs1⟩)] (fun o => o = ⟨.c (.sc (.bool r)), [(.arg 0, ⟨.fz, 4, cs0⟩), (.arg 1, ⟨.fz, 4, cs1⟩)], [], []⟩) := by
  refine tri_of_body (ac := C52) (xs := r52) Try.func52 (show Try.f52.body = some (Try.f52.body.getD .skip) from rfl) k52 q52 (Nat.le_of_ble_eq_true rfl) ?_
  refine body_of fun K hKn hKr => ?_
  unfold laws_eqReorderEventS.f at h
  unfold C52
  simp only [initT, Nat.reduceAdd]
  refine sr_k fun J1 hJ1 => ?_
  simp +decide only [Nat.reduceAdd, Nat.reduceMul, Int.reduceToNat, ak]
  refine hJ1 _ ?_
  refine seq_k fun J2 hJ2 => ?_
  refine sr_k fun J3 hJ3 => ?_
  simp +decide only [Nat.reduceAdd, Nat.reduceMul, Int.reduceToNat, ak]
  refine hJ3 _ ?_
  refine cond_k (b := decide ((l0.length : Int) ≠ (l1.length : Int))) rfl (fun c4 => ?_) (fun c4 => ?_)
  · replace c4 := of_decide_eq_true c4; rw [if_pos c4] at h
    refine sr_k fun J5 hJ5 => ?_
    simp +decide only [Nat.reduceAdd, Nat.reduceMul, Int.reduceToNat, ak]
    refine hJ5 _ ?_
    obtain rfl := Option.some.inj h
    refine hKr _ ⟨_, rfl, [], _, rfl, rfl, ?_⟩
    first | rfl | (simp only [reduceCtorEq, Nat.reduceEqDiff, ak, akF]; done) | (simp [reduceCtorEq, Nat.reduceEqDiff, ak, akF] <;> omega)
  · replace c4 := of_decide_eq_false c4; rw [if_neg c4] at h
    refine hJ2 _ ?_
    refine seq_k fun J6 hJ6 => ?_
    refine sr_k fun J7 hJ7 => ?_
    simp +decide only [Nat.reduceAdd, Nat.reduceMul, Int.reduceToNat, ak]
    refine hJ7 _ ?_
    refine block_k fun B8 B8n B8x B8r B8j => ?_
    obtain ⟨y29, h30, h⟩ := of_bind h
    refine gh_k (wk [0, 1, 5] [pI (.arg 0) .fz, pI (.arg 1) .fz]) ?_
    rw [e_loop]
    refine laws_eqReorderEventS.l0_walk cs0 o0 l0 hv0 cs1 o1 l1 hv1 0 _ h30 _ ?_ ?_
    · rintro x31 rfl
      dsimp only at h
      refine B8x _ ?_
      refine hJ6 _ ?_
      refine sr_k fun J32 hJ32 => ?_
      simp +decide only [Nat.reduceAdd, Nat.reduceMul, Int.reduceToNat, ak]
      refine hJ32 _ ?_
      obtain rfl := Option.some.inj h
      refine hKr _ ⟨_, rfl, [], _, rfl, rfl, ?_⟩
      first | rfl | (simp only [reduceCtorEq, Nat.reduceEqDiff, ak, akF]; done) | (simp [reduceCtorEq, Nat.reduceEqDiff, ak, akF] <;> omega)
    · rintro x31 rfl
      dsimp only at h
      refine B8r _ ?_
      obtain rfl := Option.some.inj h
      refine hKr _ ⟨_, rfl, [], _, rfl, rfl, ?_⟩
      first | rfl | (simp only [reduceCtorEq, Nat.reduceEqDiff, ak, akF]; done) | (simp [reduceCtorEq, Nat.reduceEqDiff, ak, akF] <;> omega)
/-! ### laws.markByteS: function 78 -/
def C78_l0 : AC := .seq (.seq (.reg [.op none (.mv 6 (.tmp 5)), .op none (.mv 7 (.tmp 0)), .op none (.len 8 (.tmp 7)), .op none (.bin 9 .lss (.tmp 6) (.tmp 8)), .keep [0, 1, 5, 9]]) (.cond (.tmp 9) (.skip) (.gh (.exit 0)))) (.seq (.block 1 (.seq (.reg [.op none (.mv 12 (.tmp 0)), .op none (.mv 13 (.tmp 5)), .op none (.mv 14 (.tmp 1)), .op none (.conv 15 .u8 (.tmp 14)), .op none (.iaddr 16 1 (.tmp 12) (.tmp 13)), .op none (.store 1 (.tmp 16) (.tmp 15)), .keep [0, 1, 5]]) (.reg [.op none (.mv 17 (.tmp 1)), .op none (.bin 18 .add (.tmp 17) (.const (.int .i64 1))), .op none (.mv 1 (.tmp 18)), .keep [0, 1, 5]]))) (.reg [.op none (.mv 10 (.tmp 5)), .op none (.bin 11 .add (.tmp 10) (.const (.int .i64 1))), .op none (.mv 5 (.tmp 11)), .keep [0, 1, 5]]))
def C78 : AC := .seq (.reg [.op none (.mv 4 (.const (.int .i64 0))), .keep [0, 1]]) (.seq (.seq (.reg [.op none (.mv 5 (.const (.int .i64 0))), .keep [0, 1, 5]]) (.block 0 (.gh (.loop (.ga C78_l0))))) (.seq (.reg [.op none (.mv 19 (.tmp 1)), .op none (.mv 4 (.tmp 19)), .keep [4]]) (.ret)))
def r78 : List RV := [.tmp 4]
theorem k78 : compC Try.prog 20 C78 (Try.f78.body.getD .skip) = some C78.erase := by kernel_rfl
theorem q78 : rvsOf Try.prog Try.f78.results.toList = some r78 := by kernel_rfl
def laws_markByteS.l0 (x0_0 : Int) (x0_1 : Int) (x0_2 : (List Int)) : Option (Int × (List Int)) := (if x0_1 < (x0_2.length : Int) then (if 0 ≤ x0_1 ∧ x0_1 < (x0_2.length : Int) then (laws_markByteS.l0 (IntKind.i64.wrap (x0_0 + 1)) (IntKind.i64.wrap (x0_1 + 1)) (x0_2.set x0_1.toNat (IntKind.u8.wrap x0_0))) else none) else (some (x0_0, x0_2)))
  partial_fixpoint
def laws_markByteS.f (l0 : List Int) (a1 : Int) : Option (Int × (List Int)) := (laws_markByteS.l0 a1 0 l0 >>= fun (y16 : (Int × (List Int))) => (some (y16.1, y16.2)))
def laws_markByteS.l0_M (x0_0 : Int) (x0_1 : Int) (x0_2 : (List Int)) (y : (Int × (List Int))) : Prop := ∀ (K : AE → St → Prop), (K (.exit 0) ⟨[(1, .c (.sc (.int .i64 y.1)))], [(.arg 0, ⟨.lst, 1, encL c_u8 y.2⟩)], [], []⟩) → loopS Try.prog 20 (.ga C78_l0) K ⟨[(0, .c (.ref (.arg 0) [] 0 x0_2.length)), (1, .c (.sc (.int .i64 x0_0))), (5, .c (.sc (.int .i64 x0_1)))], [(.arg 0, ⟨.lst, 1, encL c_u8 x0_2⟩)], [], []⟩
theorem laws_markByteS.l0_walk (x0_0 : Int) (x0_1 : Int) (x0_2 : (List Int)) (y : (Int × (List Int))) (h : laws_markByteS.l0  x0_0 x0_1 x0_2 = some y) : laws_markByteS.l0_M x0_0 x0_1 x0_2 y := by
  refine laws_markByteS.l0.partial_correctness  (motive := fun x0_0 x0_1 x0_2 y => laws_markByteS.l0_M x0_0 x0_1 x0_2 y) ?_ x0_0 x0_1 x0_2 y h
  clear h
  unfold laws_markByteS.l0_M
  intro rec ih x0_0 x0_1 x0_2 y h K hx0
  refine loop_unroll (ga_k fun G0 G0n G0r G0x => ?_)
  unfold C78_l0
  refine seq_k fun J5 hJ5 => ?_
  refine sr_k fun J6 hJ6 => ?_
  simp +decide only [Nat.reduceAdd, Nat.reduceMul, Int.reduceToNat, ak]
  refine hJ6 _ ?_
  refine cond_k (b := decide (x0_1 < (x0_2.length : Int))) rfl (fun c7 => ?_) (fun c7 => ?_)
  · replace c7 := of_decide_eq_true c7; rw [if_pos c7] at h
    refine hJ5 _ ?_
    refine seq_k fun J8 hJ8 => ?_
    refine block_k fun B9 B9n B9x B9r B9j => ?_
    refine sr_k fun J10 hJ10 => ?_
    obtain ⟨b11, h⟩ := of_guard h
    have g12 : 0 + x0_1.toNat * 1 + 1 ≤ (encL c_u8 x0_2).length := (Vw.whole c_u8_w x0_2).le b11.1 b11.2 (j := 0) (q := 1) (by decide)
    have g13 : 0 + x0_1.toNat * 1 < (encL c_u8 x0_2).length := (Vw.whole c_u8_w x0_2).lt b11.1 b11.2 (j := 0) (by decide)
    have g14 : (encL c_u8 x0_2)[0 + x0_1.toNat * 1]? = some (.sc (.int .u8 (rd 0 x0_2 x0_1))) := (Vw.whole c_u8_w x0_2).get 0 0 b11.1 b11.2 (by decide)
    have g15 : (encL c_u8 x0_2).set (0 + x0_1.toNat * 1) (.sc (.int .u8 (IntKind.u8.wrap x0_0))) = encL c_u8 (x0_2.set x0_1.toNat (IntKind.u8.wrap x0_0)) := encL_put c_u8_w 0 b11.1 b11.2 (j := 0) (by decide) rfl
    simp +decide only [Nat.reduceAdd, Nat.reduceMul, Int.reduceToNat, ak, b11, g12, g13, g14, g15]
    refine hJ10 _ ?_
    refine reg_k ?_
    simp +decide only [Nat.reduceAdd, Nat.reduceMul, Int.reduceToNat, ak]
    refine B9n _ ?_
    refine hJ8 _ ?_
    refine reg_k ?_
    simp +decide only [Nat.reduceAdd, Nat.reduceMul, Int.reduceToNat, ak]
    refine G0n _ _ (wk [0, 1, 5] [pI (.arg 0) .lst] (h0 := by first | rfl | simp +decide only [ak, akF, b11]) (h := by first | rfl | (simp +decide only [ak, akF, b11]; done) | (simp +decide [ak, akF, b11] <;> omega))) (ih _ _ _ _ h K hx0)
  · replace c7 := of_decide_eq_false c7; rw [if_neg c7] at h
    obtain rfl := Option.some.inj h
    refine gh_k (wk [1] [pI (.arg 0) .lst]) ?_
    refine G0x _ _ ?_
    exact hx0
theorem laws_markByteS.tri (l0 : List Int) (a1 : Int) (r : Int × (List Int)) (h : laws_markByteS.f l0 a1 = some r) : Tri Try.prog 78 [.c (.ref (.arg 0) [] 0 l0.length), .c (.sc (.int .i64 a1))] [(.arg 0, ⟨.lst, 1, encL c_u8 l0⟩)] (fun o => o = ⟨.c (.sc (.int .i64 r.1)), [(.arg 0, ⟨.lst, 1, encL c_u8 r.2⟩)], [], []⟩) := by
  refine tri_of_body (ac := C78) (xs := r78) Try.func78 (show Try.f78.body = some (Try.f78.body.getD .skip) from rfl) k78 q78 (Nat.le_of_ble_eq_true rfl) ?_
  refine body_of fun K hKn hKr => ?_
  unfold laws_markByteS.f at h
  unfold C78
  simp only [initT, Nat.reduceAdd]
  refine sr_k fun J1 hJ1 => ?_
  simp +decide only [Nat.reduceAdd, Nat.reduceMul, Int.reduceToNat, ak]
  refine hJ1 _ ?_
  refine seq_k fun J2 hJ2 => ?_
  refine sr_k fun J3 hJ3 => ?_
  simp +decide only [Nat.reduceAdd, Nat.reduceMul, Int.reduceToNat, ak]
  refine hJ3 _ ?_
  refine block_k fun B4 B4n B4x B4r B4j => ?_
  obtain ⟨y16, h17, h⟩ := of_bind h
  refine gh_k (wk [0, 1, 5] [pI (.arg 0) .lst]) ?_
  rw [e_loop]
  refine laws_markByteS.l0_walk a1 0 l0 _ h17 _ ?_
  refine B4x _ ?_
  refine hJ2 _ ?_
  refine sr_k fun J18 hJ18 => ?_
  simp +decide only [Nat.reduceAdd, Nat.reduceMul, Int.reduceToNat, ak]
  refine hJ18 _ ?_
  obtain rfl := Option.some.inj h
  refine hKr _ ⟨_, rfl, [], _, rfl, rfl, ?_⟩
  first | rfl | (simp only [reduceCtorEq, Nat.reduceEqDiff, ak, akF]; done) | (simp [reduceCtorEq, Nat.reduceEqDiff, ak, akF] <;> omega)
/-! ### laws.markReorderEventS: function 53 -/
def C53_l0 : AC := .seq (.seq (.reg [.op none (.mv 6 (.tmp 5)), .op none (.mv 7 (.tmp 0)), .op none (.len 8 (.tmp 7)), .op none (.bin 9 .lss (.tmp 6) (.tmp 8)), .keep [0, 1, 5, 9]]) (.cond (.tmp 9) (.skip) (.gh (.exit 0)))) (.seq (.block 1 (.seq (.reg [.op none (.mv 12 (.tmp 0)), .op none (.mv 13 (.tmp 5)), .op none (.mv 14 (.tmp 1)), .op none (.iaddr 15 4 (.tmp 12) (.tmp 13)), .op none (.faddr 16 0 (.tmp 15)), .op none (.store 1 (.tmp 16) (.tmp 14)), .keep [0, 1, 5]]) (.seq (.reg [.op none (.mv 17 (.tmp 1)), .op none (.bin 18 .add (.tmp 17) (.const (.int .i64 1))), .op none (.mv 1 (.tmp 18)), .keep [0, 1, 5]]) (.seq (.reg [.op none (.mv 19 (.tmp 0)), .op none (.mv 20 (.tmp 5)), .op none (.mv 21 (.tmp 1)), .op none (.conv 22 .u64 (.tmp 21)), .op none (.iaddr 23 4 (.tmp 19) (.tmp 20)), .op none (.faddr 24 1 (.tmp 23)), .op none (.store 1 (.tmp 24) (.tmp 22)), .keep [0, 1, 5]]) (.seq (.reg [.op none (.mv 25 (.tmp 1)), .op none (.bin 26 .add (.tmp 25) (.const (.int .i64 1))), .op none (.mv 1 (.tmp 26)), .keep [0, 1, 5]]) (.seq (.reg [.op none (.mv 27 (.tmp 0)), .op none (.mv 28 (.tmp 5)), .op none (.iaddr 29 4 (.tmp 27) (.tmp 28)), .op none (.faddr 30 2 (.tmp 29)), .op none (.load 31 false 1 (.tmp 30)), .op none (.mv 32 (.tmp 1)), .call none (some 33) 78 [.tmp 31, .tmp 32], .op none (.mv 1 (.tmp 33)), .keep [0, 1, 5]]) (.seq (.reg [.op none (.mv 34 (.tmp 0)), .op none (.mv 35 (.tmp 5)), .op none (.mv 36 (.tmp 1)), .op none (.iaddr 37 4 (.tmp 34) (.tmp 35)), .op none (.faddr 38 3 (.tmp 37)), .op none (.store 1 (.tmp 38) (.tmp 36)), .keep [0, 1, 5]]) (.reg [.op none (.mv 39 (.tmp 1)), .op none (.bin 40 .add (.tmp 39) (.const (.int .i64 1))), .op none (.mv 1 (.tmp 40)), .keep [0, 1, 5]])))))))) (.reg [.op none (.mv 10 (.tmp 5)), .op none (.bin 11 .add (.tmp 10) (.const (.int .i64 1))), .op none (.mv 5 (.tmp 11)), .keep [0, 1, 5]]))
def C53 : AC := .seq (.reg [.op none (.mv 4 (.const (.int .i64 0))), .keep [0, 1]]) (.seq (.seq (.reg [.op none (.mv 5 (.const (.int .i64 0))), .keep [0, 1, 5]]) (.block 0 (.gh (.loop (.ga C53_l0))))) (.seq (.reg [.op none (.mv 41 (.tmp 1)), .op none (.mv 4 (.tmp 41)), .keep [4]]) (.ret)))
def r53 : List RV := [.tmp 4]
theorem k53 : compC Try.prog 42 C53 (Try.f53.body.getD .skip) = some C53.erase := by kernel_rfl
theorem q53 : rvsOf Try.prog Try.f53.results.toList = some r53 := by kernel_rfl
def laws_markReorderEventS.l0 (x0_0 : Int) (x0_1 : Int) (x0_2 : (List S116)) : Option (Int × (List S116)) := (if x0_1 < (x0_2.length : Int) then (if 0 ≤ x0_1 ∧ x0_1 < (x0_2.length : Int) then (laws_markByteS.f ((rd z116 x0_2 x0_1).f2) (IntKind.i64.wrap ((IntKind.i64.wrap (x0_0 + 1)) + 1)) >>= fun t28 => (laws_markReorderEventS.l0 (IntKind.i64.wrap (t28.1 + 1)) (IntKind.i64.wrap (x0_1 + 1)) (x0_2.set x0_1.toNat (⟨x0_0, IntKind.u64.wrap (IntKind.i64.wrap (x0_0 + 1)), t28.2, t28.1⟩ : S116)))) else none) else (some (x0_0, x0_2)))
  partial_fixpoint
def laws_markReorderEventS.f (l0 : List S116) (a1 : Int) : Option (Int × (List S116)) := (laws_markReorderEventS.l0 a1 0 l0 >>= fun (y38 : (Int × (List S116))) => (some (y38.1, y38.2)))
def laws_markReorderEventS.l0_M (x0_0 : Int) (x0_1 : Int) (x0_2 : (List S116)) (y : (Int × (List S116))) : Prop := ∀ (K : AE → St → Prop), (K (.exit 0) ⟨[(1, .c (.sc (.int .i64 y.1)))], [(.arg 0, ⟨.lst, 4, encL c116 y.2⟩)], [], []⟩) → loopS Try.prog 42 (.ga C53_l0) K ⟨[(0, .c (.ref (.arg 0) [] 0 x0_2.length)), (1, .c (.sc (.int .i64 x0_0))), (5, .c (.sc (.int .i64 x0_1)))], [(.arg 0, ⟨.lst, 4, encL c116 x0_2⟩)], [], []⟩
theorem laws_markReorderEventS.l0_walk (x0_0 : Int) (x0_1 : Int) (x0_2 : (List S116)) (y : (Int × (List S116))) (h : laws_markReorderEventS.l0  x0_0 x0_1 x0_2 = some y) : laws_markReorderEventS.l0_M x0_0 x0_1 x0_2 y := by
  refine laws_markReorderEventS.l0.partial_correctness  (motive := fun x0_0 x0_1 x0_2 y => laws_markReorderEventS.l0_M x0_0 x0_1 x0_2 y) ?_ x0_0 x0_1 x0_2 y h
  clear h
  unfold laws_markReorderEventS.l0_M
  intro rec ih x0_0 x0_1 x0_2 y h K hx0
  refine loop_unroll (ga_k fun G0 G0n G0r G0x => ?_)
  unfold C53_l0
  refine seq_k fun J5 hJ5 => ?_
  refine sr_k fun J6 hJ6 => ?_
  simp +decide only [Nat.reduceAdd, Nat.reduceMul, Int.reduceToNat, ak]
  refine hJ6 _ ?_
  refine cond_k (b := decide (x0_1 < (x0_2.length : Int))) rfl (fun c7 => ?_) (fun c7 => ?_)
  · replace c7 := of_decide_eq_true c7; rw [if_pos c7] at h
    refine hJ5 _ ?_
    refine seq_k fun J8 hJ8 => ?_
    refine block_k fun B9 B9n B9x B9r B9j => ?_
    refine sr_k fun J10 hJ10 => ?_
    obtain ⟨b11, h⟩ := of_guard h
    have g12 : 0 + x0_1.toNat * 4 + 0 ≤ (encL c116 x0_2).length := ((Vw.whole c116_w x0_2).len_le b11.1 b11.2 (by decide))
    have g13 : 0 + x0_1.toNat * 4 + 0 + 1 ≤ (encL c116 x0_2).length := (Vw.whole c116_w x0_2).le b11.1 b11.2 (j := 0) (q := 1) (by decide)
    have g14 : 0 + x0_1.toNat * 4 + 0 < (encL c116 x0_2).length := (Vw.whole c116_w x0_2).lt b11.1 b11.2 (j := 0) (by decide)
    have g15 : (encL c116 x0_2)[0 + x0_1.toNat * 4 + 0]? = some (.sc (.int .i64 ((rd z116 x0_2 x0_1).f0))) := (Vw.whole c116_w x0_2).get z116 0 b11.1 b11.2 (by decide)
    have g16 : (encL c116 x0_2).set (0 + x0_1.toNat * 4 + 0) (.sc (.int .i64 x0_0)) = encL c116 (x0_2.set x0_1.toNat (⟨x0_0, (rd z116 x0_2 x0_1).f1, (rd z116 x0_2 x0_1).f2, (rd z116 x0_2 x0_1).f3⟩ : S116)) := encL_put c116_w z116 b11.1 b11.2 (j := 0) (by decide) rfl
    simp +decide only [Nat.reduceAdd, Nat.reduceMul, Int.reduceToNat, ak, b11, g12, g13, g14, g15, g16]
    refine hJ10 _ ?_
    refine sr_k fun J17 hJ17 => ?_
    simp +decide only [Nat.reduceAdd, Nat.reduceMul, Int.reduceToNat, ak]
    refine hJ17 _ ?_
    refine sr_k fun J18 hJ18 => ?_
    have g19 : 0 + x0_1.toNat * 4 + 1 ≤ (encL c116 (x0_2.set x0_1.toNat (⟨x0_0, (rd z116 x0_2 x0_1).f1, (rd z116 x0_2 x0_1).f2, (rd z116 x0_2 x0_1).f3⟩ : S116))).length := ((Vw.whole c116_w (x0_2.set x0_1.toNat (⟨x0_0, (rd z116 x0_2 x0_1).f1, (rd z116 x0_2 x0_1).f2, (rd z116 x0_2 x0_1).f3⟩ : S116))).len_le b11.1 (lt_len b11.2 (by simp)) (by decide))
    have g20 : 0 + x0_1.toNat * 4 + 1 + 1 ≤ (encL c116 (x0_2.set x0_1.toNat (⟨x0_0, (rd z116 x0_2 x0_1).f1, (rd z116 x0_2 x0_1).f2, (rd z116 x0_2 x0_1).f3⟩ : S116))).length := (Vw.whole c116_w (x0_2.set x0_1.toNat (⟨x0_0, (rd z116 x0_2 x0_1).f1, (rd z116 x0_2 x0_1).f2, (rd z116 x0_2 x0_1).f3⟩ : S116))).le b11.1 (lt_len b11.2 (by simp)) (j := 1) (q := 1) (by decide)
    have g21 : 0 + x0_1.toNat * 4 + 1 < (encL c116 (x0_2.set x0_1.toNat (⟨x0_0, (rd z116 x0_2 x0_1).f1, (rd z116 x0_2 x0_1).f2, (rd z116 x0_2 x0_1).f3⟩ : S116))).length := encL_put_lt c116_w (⟨x0_0, (rd z116 x0_2 x0_1).f1, (rd z116 x0_2 x0_1).f2, (rd z116 x0_2 x0_1).f3⟩ : S116) b11.1 b11.2 (j := 1) (by decide)
    have g22 : (encL c116 (x0_2.set x0_1.toNat (⟨x0_0, (rd z116 x0_2 x0_1).f1, (rd z116 x0_2 x0_1).f2, (rd z116 x0_2 x0_1).f3⟩ : S116)))[0 + x0_1.toNat * 4 + 1]? = some (.sc (.int .u64 ((rd z116 x0_2 x0_1).f1))) := encL_put_get c116_w (⟨x0_0, (rd z116 x0_2 x0_1).f1, (rd z116 x0_2 x0_1).f2, (rd z116 x0_2 x0_1).f3⟩ : S116) b11.1 b11.2 (j := 1) (by decide)
    have g23 : (encL c116 (x0_2.set x0_1.toNat (⟨x0_0, (rd z116 x0_2 x0_1).f1, (rd z116 x0_2 x0_1).f2, (rd z116 x0_2 x0_1).f3⟩ : S116))).set (0 + x0_1.toNat * 4 + 1) (.sc (.int .u64 (IntKind.u64.wrap (IntKind.i64.wrap (x0_0 + 1))))) = encL c116 (x0_2.set x0_1.toNat (⟨x0_0, IntKind.u64.wrap (IntKind.i64.wrap (x0_0 + 1)), (rd z116 x0_2 x0_1).f2, (rd z116 x0_2 x0_1).f3⟩ : S116)) := encL_put2 c116_w b11.1 b11.2 (j := 1) (by decide) rfl
    simp +decide only [Nat.reduceAdd, Nat.reduceMul, Int.reduceToNat, ak, b11, g19, g20, g21, g22, g23]
    refine hJ18 _ ?_
    refine sr_k fun J24 hJ24 => ?_
    simp +decide only [Nat.reduceAdd, Nat.reduceMul, Int.reduceToNat, ak]
    refine hJ24 _ ?_
    refine sr_k fun J25 hJ25 => ?_
    have g26 : 0 + x0_1.toNat * 4 + 2 ≤ (encL c116 (x0_2.set x0_1.toNat (⟨x0_0, IntKind.u64.wrap (IntKind.i64.wrap (x0_0 + 1)), (rd z116 x0_2 x0_1).f2, (rd z116 x0_2 x0_1).f3⟩ : S116))).length := ((Vw.whole c116_w (x0_2.set x0_1.toNat (⟨x0_0, IntKind.u64.wrap (IntKind.i64.wrap (x0_0 + 1)), (rd z116 x0_2 x0_1).f2, (rd z116 x0_2 x0_1).f3⟩ : S116))).len_le b11.1 (lt_len b11.2 (by simp)) (by decide))
    have g27 : (encL c116 (x0_2.set x0_1.toNat (⟨x0_0, IntKind.u64.wrap (IntKind.i64.wrap (x0_0 + 1)), (rd z116 x0_2 x0_1).f2, (rd z116 x0_2 x0_1).f3⟩ : S116)))[0 + x0_1.toNat * 4 + 2]? = some (.own 1 (((rd z116 x0_2 x0_1).f2).length) (encL c_u8 ((rd z116 x0_2 x0_1).f2))) := encL_put_get c116_w (⟨x0_0, IntKind.u64.wrap (IntKind.i64.wrap (x0_0 + 1)), (rd z116 x0_2 x0_1).f2, (rd z116 x0_2 x0_1).f3⟩ : S116) b11.1 b11.2 (j := 2) (by decide)
    simp +decide only [Nat.reduceAdd, Nat.reduceMul, Int.reduceToNat, ak, b11, g26, g27]
    obtain ⟨t28, h29, h⟩ := of_bind h
    refine call_m [(.arg 0, ⟨(.arg 0), [0 + x0_1.toNat * 4 + 2], none, .lst⟩)] (s0 := [(.arg 0, ⟨.lst, 1, encL c_u8 ((rd z116 x0_2 x0_1).f2)⟩)]) (by intro t ht; cases ht; decide) rfl rfl (by first | rfl | simp only [reduceCtorEq, Nat.reduceEqDiff, ak, akF, b11, g12, g13, g14, g15, g16, g19, g20, g21, g22, g23, g26, g27]) (laws_markByteS.tri ((rd z116 x0_2 x0_1).f2) (IntKind.i64.wrap ((IntKind.i64.wrap (x0_0 + 1)) + 1)) _ h29) (by first | rfl | simp only [reduceCtorEq, Nat.reduceEqDiff, ak, akF]) (by simp [bkOk2, memK]) (fun hl29 => ?_)
    have g31 : t28.2.length = ((rd z116 x0_2 x0_1).f2).length := encL_len_inj c_u8_w (by decide) (hl29 0 (by decide) _ _ rfl rfl)
    refine call_st (s4 := [(.arg 0, ⟨.lst, 4, encL c116 (x0_2.set x0_1.toNat (⟨x0_0, IntKind.u64.wrap (IntKind.i64.wrap (x0_0 + 1)), t28.2, (rd z116 x0_2 x0_1).f3⟩ : S116))⟩)]) (m1' := []) (m2' := []) (v' := .c (.sc (.int .i64 t28.1))) (Sto.mapN_killNil _ _) (mrgL_nest' (cs := encL c_u8 ((rd z116 x0_2 x0_1).f2)) (cs' := encL c116 (x0_2.set x0_1.toNat (⟨x0_0, IntKind.u64.wrap (IntKind.i64.wrap (x0_0 + 1)), t28.2, (rd z116 x0_2 x0_1).f3⟩ : S116))) (mrgL_nil' _ _ _) rfl (by simp) (by rfl) (by first | rfl | simp only [reduceCtorEq, Nat.reduceEqDiff, ak, b11, g12, g13, g14, g15, g16, g19, g20, g21, g22, g23, g26, g27]) (by decide) (by simp only [reduceCtorEq, Nat.reduceEqDiff, ak, b11, g12, g13, g14, g15, g16, g19, g20, g21, g22, g23, g26, g27]; exact encL_mod2 c116_w b11.1 b11.2 (j := 2) (by decide) (by first | rfl | simp [c116, repl, g31]))) (by rfl) (mapT_killNil _ _) (by rfl) (by rfl) (by first | rfl | simp only [reduceCtorEq, Nat.reduceEqDiff, ak, akF, Nat.zero_add, List.append_nil, b11, g31]) ?_
    simp +decide only [Nat.reduceAdd, Nat.reduceMul, Int.reduceToNat, ak, b11, g27]
    refine hJ25 _ ?_
    refine sr_k fun J32 hJ32 => ?_
    have g33 : 0 + x0_1.toNat * 4 + 3 ≤ (encL c116 (x0_2.set x0_1.toNat (⟨x0_0, IntKind.u64.wrap (IntKind.i64.wrap (x0_0 + 1)), t28.2, (rd z116 x0_2 x0_1).f3⟩ : S116))).length := ((Vw.whole c116_w (x0_2.set x0_1.toNat (⟨x0_0, IntKind.u64.wrap (IntKind.i64.wrap (x0_0 + 1)), t28.2, (rd z116 x0_2 x0_1).f3⟩ : S116))).len_le b11.1 (lt_len b11.2 (by simp [g31])) (by decide))
    have g34 : 0 + x0_1.toNat * 4 + 3 + 1 ≤ (encL c116 (x0_2.set x0_1.toNat (⟨x0_0, IntKind.u64.wrap (IntKind.i64.wrap (x0_0 + 1)), t28.2, (rd z116 x0_2 x0_1).f3⟩ : S116))).length := (Vw.whole c116_w (x0_2.set x0_1.toNat (⟨x0_0, IntKind.u64.wrap (IntKind.i64.wrap (x0_0 + 1)), t28.2, (rd z116 x0_2 x0_1).f3⟩ : S116))).le b11.1 (lt_len b11.2 (by simp [g31])) (j := 3) (q := 1) (by decide)
    have g35 : 0 + x0_1.toNat * 4 + 3 < (encL c116 (x0_2.set x0_1.toNat (⟨x0_0, IntKind.u64.wrap (IntKind.i64.wrap (x0_0 + 1)), t28.2, (rd z116 x0_2 x0_1).f3⟩ : S116))).length := encL_put_lt c116_w (⟨x0_0, IntKind.u64.wrap (IntKind.i64.wrap (x0_0 + 1)), t28.2, (rd z116 x0_2 x0_1).f3⟩ : S116) b11.1 b11.2 (j := 3) (by decide)
    have g36 : (encL c116 (x0_2.set x0_1.toNat (⟨x0_0, IntKind.u64.wrap (IntKind.i64.wrap (x0_0 + 1)), t28.2, (rd z116 x0_2 x0_1).f3⟩ : S116)))[0 + x0_1.toNat * 4 + 3]? = some (.sc (.int .i64 ((rd z116 x0_2 x0_1).f3))) := encL_put_get c116_w (⟨x0_0, IntKind.u64.wrap (IntKind.i64.wrap (x0_0 + 1)), t28.2, (rd z116 x0_2 x0_1).f3⟩ : S116) b11.1 b11.2 (j := 3) (by decide)
    have g37 : (encL c116 (x0_2.set x0_1.toNat (⟨x0_0, IntKind.u64.wrap (IntKind.i64.wrap (x0_0 + 1)), t28.2, (rd z116 x0_2 x0_1).f3⟩ : S116))).set (0 + x0_1.toNat * 4 + 3) (.sc (.int .i64 t28.1)) = encL c116 (x0_2.set x0_1.toNat (⟨x0_0, IntKind.u64.wrap (IntKind.i64.wrap (x0_0 + 1)), t28.2, t28.1⟩ : S116)) := encL_put2 c116_w b11.1 b11.2 (j := 3) (by decide) rfl
    simp +decide only [Nat.reduceAdd, Nat.reduceMul, Int.reduceToNat, ak, b11, g33, g34, g35, g36, g37]
    refine hJ32 _ ?_
    refine reg_k ?_
    simp +decide only [Nat.reduceAdd, Nat.reduceMul, Int.reduceToNat, ak]
    refine B9n _ ?_
    refine hJ8 _ ?_
    refine reg_k ?_
    simp +decide only [Nat.reduceAdd, Nat.reduceMul, Int.reduceToNat, ak]
    refine G0n _ _ (wk [0, 1, 5] [pI (.arg 0) .lst] (h0 := by first | rfl | simp +decide only [ak, akF, b11, g31]) (h := by first | rfl | (simp +decide only [ak, akF, b11, g31]; done) | (simp +decide [ak, akF, b11, g31] <;> omega))) (ih _ _ _ _ h K hx0)
  · replace c7 := of_decide_eq_false c7; rw [if_neg c7] at h
    obtain rfl := Option.some.inj h
    refine gh_k (wk [1] [pI (.arg 0) .lst]) ?_
    refine G0x _ _ ?_
    exact hx0
theorem laws_markReorderEventS.tri (l0 : List S116) (a1 : Int) (r : Int × (List S116)) (h : laws_markReorderEventS.f l0 a1 = some r) : Tri Try.prog 53 [.c (.ref (.arg 0) [] 0 l0.length), .c (.sc (.int .i64 a1))] [(.arg 0, ⟨.lst, 4, encL c116 l0⟩)] (fun o => o = ⟨.c (.sc (.int .i64 r.1)), [(.arg 0, ⟨.lst, 4, encL c116 r.2⟩)], [], []⟩) := by
  refine tri_of_body (ac := C53) (xs := r53) Try.func53 (show Try.f53.body = some (Try.f53.body.getD .skip) from rfl) k53 q53 (Nat.le_of_ble_eq_true rfl) ?_
  refine body_of fun K hKn hKr => ?_
  unfold laws_markReorderEventS.f at h
  unfold C53
  simp only [initT, Nat.reduceAdd]
  refine sr_k fun J1 hJ1 => ?_
  simp +decide only [Nat.reduceAdd, Nat.reduceMul, Int.reduceToNat, ak]
  refine hJ1 _ ?_
  refine seq_k fun J2 hJ2 => ?_
  refine sr_k fun J3 hJ3 => ?_
  simp +decide only [Nat.reduceAdd, Nat.reduceMul, Int.reduceToNat, ak]
  refine hJ3 _ ?_
  refine block_k fun B4 B4n B4x B4r B4j => ?_
  obtain ⟨y38, h39, h⟩ := of_bind h
  refine gh_k (wk [0, 1, 5] [pI (.arg 0) .lst]) ?_
  rw [e_loop]
  refine laws_markReorderEventS.l0_walk a1 0 l0 _ h39 _ ?_
  refine B4x _ ?_
  refine hJ2 _ ?_
  refine sr_k fun J40 hJ40 => ?_
  simp +decide only [Nat.reduceAdd, Nat.reduceMul, Int.reduceToNat, ak]
  refine hJ40 _ ?_
  obtain rfl := Option.some.inj h
  refine hKr _ ⟨_, rfl, [], _, rfl, rfl, ?_⟩
  first | rfl | (simp only [reduceCtorEq, Nat.reduceEqDiff, ak, akF]; done) | (simp [reduceCtorEq, Nat.reduceEqDiff, ak, akF] <;> omega)
/-! ### laws.markSpanS: function 108 -/
def C108_l0 : AC := .seq (.seq (.reg [.op none (.mv 6 (.tmp 5)), .op none (.mv 7 (.tmp 0)), .op none (.len 8 (.tmp 7)), .op none (.bin 9 .lss (.tmp 6) (.tmp 8)), .keep [0, 1, 5, 9]]) (.cond (.tmp 9) (.skip) (.gh (.exit 0)))) (.seq (.block 1 (.seq (.reg [.op none (.mv 12 (.tmp 0)), .op none (.mv 13 (.tmp 5)), .op none (.mv 14 (.tmp 1)), .op none (.conv 15 .u64 (.tmp 14)), .op none (.iaddr 16 2 (.tmp 12) (.tmp 13)), .op none (.faddr 17 0 (.tmp 16)), .op none (.store 1 (.tmp 17) (.tmp 15)), .keep [0, 1, 5]]) (.seq (.reg [.op none (.mv 18 (.tmp 1)), .op none (.bin 19 .add (.tmp 18) (.const (.int .i64 1))), .op none (.mv 1 (.tmp 19)), .keep [0, 1, 5]]) (.seq (.reg [.op none (.mv 20 (.tmp 0)), .op none (.mv 21 (.tmp 5)), .op none (.mv 22 (.tmp 1)), .op none (.conv 23 .u64 (.tmp 22)), .op none (.iaddr 24 2 (.tmp 20) (.tmp 21)), .op none (.faddr 25 1 (.tmp 24)), .op none (.store 1 (.tmp 25) (.tmp 23)), .keep [0, 1, 5]]) (.reg [.op none (.mv 26 (.tmp 1)), .op none (.bin 27 .add (.tmp 26) (.const (.int .i64 1))), .op none (.mv 1 (.tmp 27)), .keep [0, 1, 5]]))))) (.reg [.op none (.mv 10 (.tmp 5)), .op none (.bin 11 .add (.tmp 10) (.const (.int .i64 1))), .op none (.mv 5 (.tmp 11)), .keep [0, 1, 5]]))
def C108 : AC := .seq (.reg [.op none (.mv 4 (.const (.int .i64 0))), .keep [0, 1]]) (.seq (.seq (.reg [.op none (.mv 5 (.const (.int .i64 0))), .keep [0, 1, 5]]) (.block 0 (.gh (.loop (.ga C108_l0))))) (.seq (.reg [.op none (.mv 28 (.tmp 1)), .op none (.mv 4 (.tmp 28)), .keep [4]]) (.ret)))
def r108 : List RV := [.tmp 4]
theorem k108 : compC Try.prog 29 C108 (Try.f108.body.getD .skip) = some C108.erase := by kernel_rfl
theorem q108 : rvsOf Try.prog Try.f108.results.toList = some r108 := by kernel_rfl
def laws_markSpanS.l0 (x0_0 : Int) (x0_1 : Int) (x0_2 : (List S122)) : Option (Int × (List S122)) := (if x0_1 < (x0_2.length : Int) then (if 0 ≤ x0_1 ∧ x0_1 < (x0_2.length : Int) then (laws_markSpanS.l0 (IntKind.i64.wrap ((IntKind.i64.wrap (x0_0 + 1)) + 1)) (IntKind.i64.wrap (x0_1 + 1)) (x0_2.set x0_1.toNat (⟨IntKind.u64.wrap x0_0, IntKind.u64.wrap (IntKind.i64.wrap (x0_0 + 1))⟩ : S122))) else none) else (some (x0_0, x0_2)))
  partial_fixpoint
def laws_markSpanS.f (l0 : List S122) (a1 : Int) : Option (Int × (List S122)) := (laws_markSpanS.l0 a1 0 l0 >>= fun (y24 : (Int × (List S122))) => (some (y24.1, y24.2)))
def laws_markSpanS.l0_M (x0_0 : Int) (x0_1 : Int) (x0_2 : (List S122)) (y : (Int × (List S122))) : Prop := ∀ (K : AE → St → Prop), (K (.exit 0) ⟨[(1, .c (.sc (.int .i64 y.1)))], [(.arg 0, ⟨.lst, 2, encL c122 y.2⟩)], [], []⟩) → loopS Try.prog 29 (.ga C108_l0) K ⟨[(0, .c (.ref (.arg 0) [] 0 x0_2.length)), (1, .c (.sc (.int .i64 x0_0))), (5, .c (.sc (.int .i64 x0_1)))], [(.arg 0, ⟨.lst, 2, encL c122 x0_2⟩)], [], []⟩
theorem laws_markSpanS.l0_walk (x0_0 : Int) (x0_1 : Int) (x0_2 : (List S122)) (y : (Int × (List S122))) (h : laws_markSpanS.l0  x0_0 x0_1 x0_2 = some y) : laws_markSpanS.l0_M x0_0 x0_1 x0_2 y := by
  refine laws_markSpanS.l0.partial_correctness  (motive := fun x0_0 x0_1 x0_2 y => laws_markSpanS.l0_M x0_0 x0_1 x0_2 y) ?_ x0_0 x0_1 x0_2 y h
  clear h
  unfold laws_markSpanS.l0_M
  intro rec ih x0_0 x0_1 x0_2 y h K hx0
  refine loop_unroll (ga_k fun G0 G0n G0r G0x => ?_)
  unfold C108_l0
  refine seq_k fun J5 hJ5 => ?_
  refine sr_k fun J6 hJ6 => ?_
  simp +decide only [Nat.reduceAdd, Nat.reduceMul, Int.reduceToNat, ak]
  refine hJ6 _ ?_
  refine cond_k (b := decide (x0_1 < (x0_2.length : Int))) rfl (fun c7 => ?_) (fun c7 => ?_)
  · replace c7 := of_decide_eq_true c7; rw [if_pos c7] at h
    refine hJ5 _ ?_
    refine seq_k fun J8 hJ8 => ?_
    refine block_k fun B9 B9n B9x B9r B9j => ?_
    refine sr_k fun J10 hJ10 => ?_
    obtain ⟨b11, h⟩ := of_guard h
    have g12 : 0 + x0_1.toNat * 2 + 0 ≤ (encL c122 x0_2).length := ((Vw.whole c122_w x0_2).len_le b11.1 b11.2 (by decide))
    have g13 : 0 + x0_1.toNat * 2 + 0 + 1 ≤ (encL c122 x0_2).length := (Vw.whole c122_w x0_2).le b11.1 b11.2 (j := 0) (q := 1) (by decide)
    have g14 : 0 + x0_1.toNat * 2 + 0 < (encL c122 x0_2).length := (Vw.whole c122_w x0_2).lt b11.1 b11.2 (j := 0) (by decide)
    have g15 : (encL c122 x0_2)[0 + x0_1.toNat * 2 + 0]? = some (.sc (.int .u64 ((rd z122 x0_2 x0_1).f0))) := (Vw.whole c122_w x0_2).get z122 0 b11.1 b11.2 (by decide)
    have g16 : (encL c122 x0_2).set (0 + x0_1.toNat * 2 + 0) (.sc (.int .u64 (IntKind.u64.wrap x0_0))) = encL c122 (x0_2.set x0_1.toNat (⟨IntKind.u64.wrap x0_0, (rd z122 x0_2 x0_1).f1⟩ : S122)) := encL_put c122_w z122 b11.1 b11.2 (j := 0) (by decide) rfl
    simp +decide only [Nat.reduceAdd, Nat.reduceMul, Int.reduceToNat, ak, b11, g12, g13, g14, g15, g16]
    refine hJ10 _ ?_
    refine sr_k fun J17 hJ17 => ?_
    simp +decide only [Nat.reduceAdd, Nat.reduceMul, Int.reduceToNat, ak]
    refine hJ17 _ ?_
    refine sr_k fun J18 hJ18 => ?_
    have g19 : 0 + x0_1.toNat * 2 + 1 ≤ (encL c122 (x0_2.set x0_1.toNat (⟨IntKind.u64.wrap x0_0, (rd z122 x0_2 x0_1).f1⟩ : S122))).length := ((Vw.whole c122_w (x0_2.set x0_1.toNat (⟨IntKind.u64.wrap x0_0, (rd z122 x0_2 x0_1).f1⟩ : S122))).len_le b11.1 (lt_len b11.2 (by simp)) (by decide))
    have g20 : 0 + x0_1.toNat * 2 + 1 + 1 ≤ (encL c122 (x0_2.set x0_1.toNat (⟨IntKind.u64.wrap x0_0, (rd z122 x0_2 x0_1).f1⟩ : S122))).length := (Vw.whole c122_w (x0_2.set x0_1.toNat (⟨IntKind.u64.wrap x0_0, (rd z122 x0_2 x0_1).f1⟩ : S122))).le b11.1 (lt_len b11.2 (by simp)) (j := 1) (q := 1) (by decide)
    have g21 : 0 + x0_1.toNat * 2 + 1 < (encL c122 (x0_2.set x0_1.toNat (⟨IntKind.u64.wrap x0_0, (rd z122 x0_2 x0_1).f1⟩ : S122))).length := encL_put_lt c122_w (⟨IntKind.u64.wrap x0_0, (rd z122 x0_2 x0_1).f1⟩ : S122) b11.1 b11.2 (j := 1) (by decide)
    have g22 : (encL c122 (x0_2.set x0_1.toNat (⟨IntKind.u64.wrap x0_0, (rd z122 x0_2 x0_1).f1⟩ : S122)))[0 + x0_1.toNat * 2 + 1]? = some (.sc (.int .u64 ((rd z122 x0_2 x0_1).f1))) := encL_put_get c122_w (⟨IntKind.u64.wrap x0_0, (rd z122 x0_2 x0_1).f1⟩ : S122) b11.1 b11.2 (j := 1) (by decide)
    have g23 : (encL c122 (x0_2.set x0_1.toNat (⟨IntKind.u64.wrap x0_0, (rd z122 x0_2 x0_1).f1⟩ : S122))).set (0 + x0_1.toNat * 2 + 1) (.sc (.int .u64 (IntKind.u64.wrap (IntKind.i64.wrap (x0_0 + 1))))) = encL c122 (x0_2.set x0_1.toNat (⟨IntKind.u64.wrap x0_0, IntKind.u64.wrap (IntKind.i64.wrap (x0_0 + 1))⟩ : S122)) := encL_put2 c122_w b11.1 b11.2 (j := 1) (by decide) rfl
    simp +decide only [Nat.reduceAdd, Nat.reduceMul, Int.reduceToNat, ak, b11, g19, g20, g21, g22, g23]
    refine hJ18 _ ?_
    refine reg_k ?_
    simp +decide only [Nat.reduceAdd, Nat.reduceMul, Int.reduceToNat, ak]
    refine B9n _ ?_
    refine hJ8 _ ?_
    refine reg_k ?_
    simp +decide only [Nat.reduceAdd, Nat.reduceMul, Int.reduceToNat, ak]
    refine G0n _ _ (wk [0, 1, 5] [pI (.arg 0) .lst] (h0 := by first | rfl | simp +decide only [ak, akF, b11]) (h := by first | rfl | (simp +decide only [ak, akF, b11]; done) | (simp +decide [ak, akF, b11] <;> omega))) (ih _ _ _ _ h K hx0)
  · replace c7 := of_decide_eq_false c7; rw [if_neg c7] at h
    obtain rfl := Option.some.inj h
    refine gh_k (wk [1] [pI (.arg 0) .lst]) ?_
    refine G0x _ _ ?_
    exact hx0
theorem laws_markSpanS.tri (l0 : List S122) (a1 : Int) (r : Int × (List S122)) (h : laws_markSpanS.f l0 a1 = some r) : Tri Try.prog 108 [.c (.ref (.arg 0) [] 0 l0.length), .c (.sc (.int .i64 a1))] [(.arg 0, ⟨.lst, 2, encL c122 l0⟩)] (fun o => o = ⟨.c (.sc (.int .i64 r.1)), [(.arg 0, ⟨.lst, 2, encL c122 r.2⟩)], [], []⟩) := by
  refine tri_of_body (ac := C108) (xs := r108) Try.func108 (show Try.f108.body = some (Try.f108.body.getD .skip) from rfl) k108 q108 (Nat.le_of_ble_eq_true rfl) ?_
  refine body_of fun K hKn hKr => ?_
  unfold laws_markSpanS.f at h
  unfold C108
  simp only [initT, Nat.reduceAdd]
  refine sr_k fun J1 hJ1 => ?_
  simp +decide only [Nat.reduceAdd, Nat.reduceMul, Int.reduceToNat, ak]
  refine hJ1 _ ?_
  refine seq_k fun J2 hJ2 => ?_
  refine sr_k fun J3 hJ3 => ?_
  simp +decide only [Nat.reduceAdd, Nat.reduceMul, Int.reduceToNat, ak]
  refine hJ3 _ ?_
  refine block_k fun B4 B4n B4x B4r B4j => ?_
  obtain ⟨y24, h25, h⟩ := of_bind h
  refine gh_k (wk [0, 1, 5] [pI (.arg 0) .lst]) ?_
  rw [e_loop]
  refine laws_markSpanS.l0_walk a1 0 l0 _ h25 _ ?_
  refine B4x _ ?_
  refine hJ2 _ ?_
  refine sr_k fun J26 hJ26 => ?_
  simp +decide only [Nat.reduceAdd, Nat.reduceMul, Int.reduceToNat, ak]
  refine hJ26 _ ?_
  obtain rfl := Option.some.inj h
  refine hKr _ ⟨_, rfl, [], _, rfl, rfl, ?_⟩
  first | rfl | (simp only [reduceCtorEq, Nat.reduceEqDiff, ak, akF]; done) | (simp [reduceCtorEq, Nat.reduceEqDiff, ak, akF] <;> omega)
/-! ### laws.markReorderView: function 59 -/
def C59 : AC := .seq (.reg [.op none (.box 2 (.tmp 0)), .op none (.mv 4 (.const (.int .i64 0))), .keep [1, 2]]) (.seq (.reg [.op none (.faddr 5 2 (.tmp 2)), .op none (.load 6 false 1 (.tmp 5)), .op none (.mv 7 (.tmp 1)), .call none (some 8) 108 [.tmp 6, .tmp 7], .op none (.mv 1 (.tmp 8)), .keep [1]]) (.seq (.reg [.op none (.mv 9 (.tmp 1)), .op none (.mv 4 (.tmp 9)), .keep [4]]) (.ret)))
def r59 : List RV := [.tmp 4]
theorem k59 : compC Try.prog 10 C59 (Try.f59.body.getD .skip) = some C59.erase := by kernel_rfl
theorem q59 : rvsOf Try.prog Try.f59.results.toList = some r59 := by kernel_rfl
def laws_markReorderView.f (a0_0 : Int) (a0_1 : Int) (l0_2 : List S122) (a0_3 : Int) (a0_4 : Int) (a1 : Int) : Option (Int × (List S122)) := (laws_markSpanS.f l0_2 a1 >>= fun t3 => (some (t3.1, t3.2)))
theorem laws_markReorderView.tri (a0_0 : Int) (a0_1 : Int) (l0_2 : List S122) (a0_3 : Int) (a0_4 : Int) (a1 : Int) (r : Int × (List S122)) (h : laws_markReorderView.f a0_0 a0_1 l0_2 a0_3 a0_4 a1 = some r) : Tri Try.prog 59 [.g [.sc (.int .u64 a0_0), .sc (.int .u64 a0_1), .ref (.arg 0) [] 0 l0_2.length, .sc (.int .i64 a0_3), .sc (.int .u64 a0_4)], .c (.sc (.int .i64 a1))] [(.arg 0, ⟨.lst, 2, encL c122 l0_2⟩)] (fun o => o = ⟨.c (.sc (.int .i64 r.1)), [(.arg 0, ⟨.lst, 2, encL c122 r.2⟩)], [], []⟩) := by
  refine tri_of_body (ac := C59) (xs := r59) Try.func59 (show Try.f59.body = some (Try.f59.body.getD .skip) from rfl) k59 q59 (Nat.le_of_ble_eq_true rfl) ?_
  refine body_of fun K hKn hKr => ?_
  unfold laws_markReorderView.f at h
  unfold C59
  simp only [initT, Nat.reduceAdd]
  refine sr_k fun J1 hJ1 => ?_
  simp +decide only [Nat.reduceAdd, Nat.reduceMul, Int.reduceToNat, ak]
  refine hJ1 _ ?_
  refine sr_k fun J2 hJ2 => ?_
  simp +decide only [Nat.reduceAdd, Nat.reduceMul, Int.reduceToNat, ak]
  obtain ⟨t3, h4, h⟩ := of_bind h
  refine call_m [(.arg 0, ⟨(.arg 0), [], none, .lst⟩)] (s0 := [(.arg 0, ⟨.lst, 2, encL c122 l0_2⟩)]) (by intro t ht; cases ht; decide) rfl rfl (by first | rfl | simp only [reduceCtorEq, Nat.reduceEqDiff, ak, akF]) (laws_markSpanS.tri l0_2 a1 _ h4) (by first | rfl | simp only [reduceCtorEq, Nat.reduceEqDiff, ak, akF]) (by simp [bkOk2, memK]) (fun hl4 => ?_)
  have g6 : t3.2.length = l0_2.length := encL_len_inj c122_w (by decide) (hl4 0 (by decide) _ _ rfl rfl)
  refine call_st (s4 := [(.arg 0, ⟨.lst, 2, encL c122 t3.2⟩), (.tmp 2 0, ⟨.box, 0, [.sc (.int .u64 a0_0), .sc (.int .u64 a0_1), .ref (.arg 0) [] 0 l0_2.length, .sc (.int .i64 a0_3), .sc (.int .u64 a0_4)]⟩)]) (m1' := []) (m2' := []) (v' := .c (.sc (.int .i64 t3.1))) (Sto.mapN_killNil _ _) (mrgL_whole (mrgL_nil' _ _ _) rfl (by rfl) (.inr ⟨by decide, by decide, rfl⟩)) (by rfl) (mapT_killNil _ _) (by rfl) (by rfl) (by first | rfl | simp only [reduceCtorEq, Nat.reduceEqDiff, ak, akF, Nat.zero_add, List.append_nil, g6]) ?_
  simp +decide only [Nat.reduceAdd, Nat.reduceMul, Int.reduceToNat, ak]
  refine hJ2 _ ?_
  refine sr_k fun J7 hJ7 => ?_
  simp +decide only [Nat.reduceAdd, Nat.reduceMul, Int.reduceToNat, ak]
  refine hJ7 _ ?_
  obtain rfl := Option.some.inj h
  refine hKr _ ⟨_, rfl, [], _, rfl, rfl, ?_⟩
  first | rfl | (simp only [reduceCtorEq, Nat.reduceEqDiff, ak, akF, g6]; done) | (simp [reduceCtorEq, Nat.reduceEqDiff, ak, akF, g6] <;> omega)
/-! ### laws.heldSpanS: function 109 -/
def C109_l0 : AC := .seq (.seq (.reg [.op none (.mv 6 (.tmp 5)), .op none (.mv 7 (.tmp 0)), .op none (.len 8 (.tmp 7)), .op none (.bin 9 .lss (.tmp 6) (.tmp 8)), .keep [0, 1, 5, 9]]) (.cond (.tmp 9) (.skip) (.gh (.exit 0)))) (.seq (.block 1 (.seq (.seq (.reg [.op none (.mv 12 (.tmp 0)), .op none (.mv 13 (.tmp 5)), .op none (.iaddr 14 2 (.tmp 12) (.tmp 13)), .op none (.faddr 15 0 (.tmp 14)), .op none (.load 16 false 1 (.tmp 15)), .op none (.mv 17 (.tmp 1)), .op none (.conv 18 .u64 (.tmp 17)), .op none (.bin 19 .neq (.tmp 16) (.tmp 18)), .keep [0, 1, 5, 19]]) (.cond (.tmp 19) (.seq (.reg [.op none (.mv 4 (.const (.int .i64 (-1)))), .keep [4]]) (.gh .ret)) (.skip))) (.seq (.reg [.op none (.mv 20 (.tmp 1)), .op none (.bin 21 .add (.tmp 20) (.const (.int .i64 1))), .op none (.mv 1 (.tmp 21)), .keep [0, 1, 5]]) (.seq (.seq (.reg [.op none (.mv 22 (.tmp 0)), .op none (.mv 23 (.tmp 5)), .op none (.iaddr 24 2 (.tmp 22) (.tmp 23)), .op none (.faddr 25 1 (.tmp 24)), .op none (.load 26 false 1 (.tmp 25)), .op none (.mv 27 (.tmp 1)), .op none (.conv 28 .u64 (.tmp 27)), .op none (.bin 29 .neq (.tmp 26) (.tmp 28)), .keep [0, 1, 5, 29]]) (.cond (.tmp 29) (.seq (.reg [.op none (.mv 4 (.const (.int .i64 (-1)))), .keep [4]]) (.gh .ret)) (.skip))) (.reg [.op none (.mv 30 (.tmp 1)), .op none (.bin 31 .add (.tmp 30) (.const (.int .i64 1))), .op none (.mv 1 (.tmp 31)), .keep [0, 1, 5]]))))) (.reg [.op none (.mv 10 (.tmp 5)), .op none (.bin 11 .add (.tmp 10) (.const (.int .i64 1))), .op none (.mv 5 (.tmp 11)), .keep [0, 1, 5]]))
def C109 : AC := .seq (.reg [.op none (.mv 4 (.const (.int .i64 0))), .keep [0, 1]]) (.seq (.seq (.reg [.op none (.mv 5 (.const (.int .i64 0))), .keep [0, 1, 5]]) (.block 0 (.gh (.loop (.ga C109_l0))))) (.seq (.reg [.op none (.mv 32 (.tmp 1)), .op none (.mv 4 (.tmp 32)), .keep [4]]) (.ret)))
def r109 : List RV := [.tmp 4]
theorem k109 : compC Try.prog 33 C109 (Try.f109.body.getD .skip) = some C109.erase := by kernel_rfl
theorem q109 : rvsOf Try.prog Try.f109.results.toList = some r109 := by kernel_rfl
def laws_heldSpanS.l0 (l0 : List S122) (x0_0 : Int) (x0_1 : Int) : Option (Lp Int Unit) := (if x0_1 < (l0.length : Int) then (if 0 ≤ x0_1 ∧ x0_1 < (l0.length : Int) then (if (rd z122 l0 x0_1).f0 ≠ IntKind.u64.wrap x0_0 then (some (.b ())) else (if (rd z122 l0 x0_1).f1 ≠ IntKind.u64.wrap (IntKind.i64.wrap (x0_0 + 1)) then (some (.b ())) else (laws_heldSpanS.l0 l0 (IntKind.i64.wrap ((IntKind.i64.wrap (x0_0 + 1)) + 1)) (IntKind.i64.wrap (x0_1 + 1))))) else none) else (some (.a x0_0)))
  partial_fixpoint
def laws_heldSpanS.f (l0 : List S122) (a1 : Int) : Option Int := (laws_heldSpanS.l0 l0 a1 0 >>= fun (y24 : Lp Int Unit) => match y24 with | .a x26 => (some x26) | .b x26 => (some (-1)))
def laws_heldSpanS.l0_M (cs0 : List Cell) (o0 : Nat) (l0 : List S122) (hv0 : Vw c122 2 cs0 o0 l0) (x0_0 : Int) (x0_1 : Int) (y : Lp Int Unit) : Prop := ∀ (K : AE → St → Prop), (∀ x, y = .a x → K (.exit 0) ⟨[(1, .c (.sc (.int .i64 x)))], [(.arg 0, ⟨.fz, 2, cs0⟩)], [], []⟩) → (∀ x, y = .b x → K .ret ⟨[(4, .c (.sc (.int .i64 (-1))))], [(.arg 0, ⟨.fz, 2, cs0⟩)], [], []⟩) → loopS Try.prog 33 (.ga C109_l0) K ⟨[(0, .c (.ref (.arg 0) [] o0 l0.length)), (1, .c (.sc (.int .i64 x0_0))), (5, .c (.sc (.int .i64 x0_1)))], [(.arg 0, ⟨.fz, 2, cs0⟩)], [], []⟩
theorem laws_heldSpanS.l0_walk (cs0 : List Cell) (o0 : Nat) (l0 : List S122) (hv0 : Vw c122 2 cs0 o0 l0) (x0_0 : Int) (x0_1 : Int) (y : Lp Int Unit) (h : laws_heldSpanS.l0 l0 x0_0 x0_1 = some y) : laws_heldSpanS.l0_M cs0 o0 l0 hv0 x0_0 x0_1 y := by
  refine laws_heldSpanS.l0.partial_correctness l0 (motive := fun x0_0 x0_1 y => laws_heldSpanS.l0_M cs0 o0 l0 hv0 x0_0 x0_1 y) ?_ x0_0 x0_1 y h
  clear h
  unfold laws_heldSpanS.l0_M
  intro rec ih x0_0 x0_1 y h K hx0 hx1
  refine loop_unroll (ga_k fun G0 G0n G0r G0x => ?_)
  unfold C109_l0
  refine seq_k fun J5 hJ5 => ?_
  refine sr_k fun J6 hJ6 => ?_
  simp +decide only [Nat.reduceAdd, Nat.reduceMul, Int.reduceToNat, ak]
  refine hJ6 _ ?_
  refine cond_k (b := decide (x0_1 < (l0.length : Int))) rfl (fun c7 => ?_) (fun c7 => ?_)
  · replace c7 := of_decide_eq_true c7; rw [if_pos c7] at h
    refine hJ5 _ ?_
    refine seq_k fun J8 hJ8 => ?_
    refine block_k fun B9 B9n B9x B9r B9j => ?_
    refine seq_k fun J10 hJ10 => ?_
    refine sr_k fun J11 hJ11 => ?_
    obtain ⟨b12, h⟩ := of_guard h
    have g13 : o0 + x0_1.toNat * 2 + 0 ≤ (cs0).length := (hv0.len_le b12.1 b12.2 (by decide))
    have g14 : (cs0)[o0 + x0_1.toNat * 2 + 0]? = some (.sc (.int .u64 ((rd z122 l0 x0_1).f0))) := hv0.get z122 0 b12.1 b12.2 (by decide)
    simp +decide only [Nat.reduceAdd, Nat.reduceMul, Int.reduceToNat, ak, b12, g13, g14]
    refine hJ11 _ ?_
    refine cond_k (b := decide ((rd z122 l0 x0_1).f0 ≠ IntKind.u64.wrap x0_0)) rfl (fun c15 => ?_) (fun c15 => ?_)
    · replace c15 := of_decide_eq_true c15; rw [if_pos c15] at h
      refine sr_k fun J16 hJ16 => ?_
      simp +decide only [Nat.reduceAdd, Nat.reduceMul, Int.reduceToNat, ak]
      refine hJ16 _ ?_
      obtain rfl := Option.some.inj h
      refine gh_k (wk [4] [pI (.arg 0) .fz]) ?_
      refine B9r _ ?_
      refine G0r _ ?_
      exact hx1 _ rfl
    · replace c15 := of_decide_eq_false c15; rw [if_neg c15] at h
      refine hJ10 _ ?_
      refine sr_k fun J17 hJ17 => ?_
      simp +decide only [Nat.reduceAdd, Nat.reduceMul, Int.reduceToNat, ak]
      refine hJ17 _ ?_
      refine seq_k fun J18 hJ18 => ?_
      refine sr_k fun J19 hJ19 => ?_
      have g20 : o0 + x0_1.toNat * 2 + 1 ≤ (cs0).length := (hv0.len_le b12.1 b12.2 (by decide))
      have g21 : (cs0)[o0 + x0_1.toNat * 2 + 1]? = some (.sc (.int .u64 ((rd z122 l0 x0_1).f1))) := hv0.get z122 1 b12.1 b12.2 (by decide)
      simp +decide only [Nat.reduceAdd, Nat.reduceMul, Int.reduceToNat, ak, b12, g20, g21]
      refine hJ19 _ ?_
      refine cond_k (b := decide ((rd z122 l0 x0_1).f1 ≠ IntKind.u64.wrap (IntKind.i64.wrap (x0_0 + 1)))) rfl (fun c22 => ?_) (fun c22 => ?_)
      · replace c22 := of_decide_eq_true c22; rw [if_pos c22] at h
        refine sr_k fun J23 hJ23 => ?_
        simp +decide only [Nat.reduceAdd, Nat.reduceMul, Int.reduceToNat, ak]
        refine hJ23 _ ?_
        obtain rfl := Option.some.inj h
        refine gh_k (wk [4] [pI (.arg 0) .fz]) ?_
        refine B9r _ ?_
        refine G0r _ ?_
        exact hx1 _ rfl
      · replace c22 := of_decide_eq_false c22; rw [if_neg c22] at h
        refine hJ18 _ ?_
        refine reg_k ?_
        simp +decide only [Nat.reduceAdd, Nat.reduceMul, Int.reduceToNat, ak]
        refine B9n _ ?_
        refine hJ8 _ ?_
        refine reg_k ?_
        simp +decide only [Nat.reduceAdd, Nat.reduceMul, Int.reduceToNat, ak]
        refine G0n _ _ (wk [0, 1, 5] [pI (.arg 0) .fz]) (ih _ _ _ h K hx0 hx1)
  · replace c7 := of_decide_eq_false c7; rw [if_neg c7] at h
    obtain rfl := Option.some.inj h
    refine gh_k (wk [1] [pI (.arg 0) .fz]) ?_
    refine G0x _ _ ?_
    exact hx0 _ rfl
theorem laws_heldSpanS.tri (cs0 : List Cell) (o0 : Nat) (l0 : List S122) (hv0 : Vw c122 2 cs0 o0 l0) (a1 : Int) (r : Int) (h : laws_heldSpanS.f l0 a1 = some r) : Tri Try.prog 109 [.c (.ref (.arg 0) [] o0 l0.length), .c (.sc (.int .i64 a1))] [(.arg 0, ⟨.fz, 2, cs0⟩)] (fun o => o = ⟨.c (.sc (.int .i64 r)), [(.arg 0, ⟨.fz, 2, cs0⟩)], [], []⟩) := by
  refine tri_of_body (ac := C109) (xs := r109) Try.func109 (show Try.f109.body = some (Try.f109.body.getD .skip) from rfl) k109 q109 (Nat.le_of_ble_eq_true rfl) ?_
  refine body_of fun K hKn hKr => ?_
  unfold laws_heldSpanS.f at h
  unfold C109
  simp only [initT, Nat.reduceAdd]
  refine sr_k fun J1 hJ1 => ?_
  simp +decide only [Nat.reduceAdd, Nat.reduceMul, Int.reduceToNat, ak]
  refine hJ1 _ ?_
  refine seq_k fun J2 hJ2 => ?_
  refine sr_k fun J3 hJ3 => ?_
  simp +decide only [Nat.reduceAdd, Nat.reduceMul, Int.reduceToNat, ak]
  refine hJ3 _ ?_
  refine block_k fun B4 B4n B4x B4r B4j => ?_
  obtain ⟨y24, h25, h⟩ := of_bind h
  refine gh_k (wk [0, 1, 5] [pI (.arg 0) .fz]) ?_
  rw [e_loop]
  refine laws_heldSpanS.l0_walk cs0 o0 l0 hv0 a1 0 _ h25 _ ?_ ?_
  · rintro x26 rfl
    dsimp only at h
    refine B4x _ ?_
    refine hJ2 _ ?_
    refine sr_k fun J27 hJ27 => ?_
    simp +decide only [Nat.reduceAdd, Nat.reduceMul, Int.reduceToNat, ak]
    refine hJ27 _ ?_
    obtain rfl := Option.some.inj h
    refine hKr _ ⟨_, rfl, [], _, rfl, rfl, ?_⟩
    first | rfl | (simp only [reduceCtorEq, Nat.reduceEqDiff, ak, akF]; done) | (simp [reduceCtorEq, Nat.reduceEqDiff, ak, akF] <;> omega)
  · rintro x26 rfl
    dsimp only at h
    refine B4r _ ?_
    obtain rfl := Option.some.inj h
    refine hKr _ ⟨_, rfl, [], _, rfl, rfl, ?_⟩
    first | rfl | (simp only [reduceCtorEq, Nat.reduceEqDiff, ak, akF]; done) | (simp [reduceCtorEq, Nat.reduceEqDiff, ak, akF] <;> omega)
/-! ### laws.heldReorderView: function 60 -/
def C60 : AC := .seq (.reg [.op none (.box 2 (.tmp 0)), .op none (.mv 4 (.const (.int .i64 0))), .keep [1, 2]]) (.seq (.reg [.op none (.faddr 5 2 (.tmp 2)), .op none (.load 6 false 1 (.tmp 5)), .op none (.mv 7 (.tmp 1)), .call none (some 8) 109 [.tmp 6, .tmp 7], .op none (.mv 1 (.tmp 8)), .keep [1]]) (.seq (.seq (.reg [.op none (.mv 9 (.tmp 1)), .op none (.bin 10 .lss (.tmp 9) (.const (.int .i64 0))), .keep [1, 10]]) (.cond (.tmp 10) (.seq (.reg [.op none (.mv 4 (.const (.int .i64 (-1)))), .keep [4]]) (.ret)) (.skip))) (.seq (.reg [.op none (.mv 11 (.tmp 1)), .op none (.mv 4 (.tmp 11)), .keep [4]]) (.ret))))
def r60 : List RV := [.tmp 4]
theorem k60 : compC Try.prog 12 C60 (Try.f60.body.getD .skip) = some C60.erase := by kernel_rfl
theorem q60 : rvsOf Try.prog Try.f60.results.toList = some r60 := by kernel_rfl
def laws_heldReorderView.f (a0_0 : Int) (a0_1 : Int) (l0_2 : List S122) (a0_3 : Int) (a0_4 : Int) (a1 : Int) : Option Int := (laws_heldSpanS.f l0_2 a1 >>= fun t3 => (if t3 < 0 then (some (-1)) else (some t3)))
theorem laws_heldReorderView.tri (cs0 : List Cell) (o0 : Nat) (l0_2 : List S122) (hv0 : Vw c122 2 cs0 o0 l0_2) (a0_0 : Int) (a0_1 : Int) (a0_3 : Int) (a0_4 : Int) (a1 : Int) (r : Int) (h : laws_heldReorderView.f a0_0 a0_1 l0_2 a0_3 a0_4 a1 = some r) : Tri Try.prog 60 [.g [.sc (.int .u64 a0_0), .sc (.int .u64 a0_1), .ref (.arg 0) [] o0 l0_2.length, .sc (.int .i64 a0_3), .sc (.int .u64 a0_4)], .c (.sc (.int .i64 a1))] [(.arg 0, ⟨.fz, 2, cs0⟩)] (fun o => o = ⟨.c (.sc (.int .i64 r)), [(.arg 0, ⟨.fz, 2, cs0⟩)], [], []⟩) := by
  refine tri_of_body (ac := C60) (xs := r60) Try.func60 (show Try.f60.body = some (Try.f60.body.getD .skip) from rfl) k60 q60 (Nat.le_of_ble_eq_true rfl) ?_
  refine body_of fun K hKn hKr => ?_
  unfold laws_heldReorderView.f at h
  unfold C60
  simp only [initT, Nat.reduceAdd]
  refine sr_k fun J1 hJ1 => ?_
  simp +decide only [Nat.reduceAdd, Nat.reduceMul, Int.reduceToNat, ak]
  refine hJ1 _ ?_
  refine sr_k fun J2 hJ2 => ?_
  simp +decide only [Nat.reduceAdd, Nat.reduceMul, Int.reduceToNat, ak]
  obtain ⟨t3, h4, h⟩ := of_bind h
  refine call_m [(.arg 0, ⟨(.arg 0), [], none, .fz⟩)] (s0 := [(.arg 0, ⟨.fz, 2, cs0⟩)]) (by intro t ht; cases ht; decide) rfl rfl (by first | rfl | simp only [reduceCtorEq, Nat.reduceEqDiff, ak, akF]) (laws_heldSpanS.tri (cs0) o0 l0_2 hv0 a1 _ h4) (by first | rfl | simp only [reduceCtorEq, Nat.reduceEqDiff, ak, akF]) (by simp [bkOk2, memK]) (fun hl4 => ?_)
  refine call_st (s4 := [(.arg 0, ⟨.fz, 2, cs0⟩), (.tmp 2 0, ⟨.box, 0, [.sc (.int .u64 a0_0), .sc (.int .u64 a0_1), .ref (.arg 0) [] o0 l0_2.length, .sc (.int .i64 a0_3), .sc (.int .u64 a0_4)]⟩)]) (m1' := []) (m2' := []) (v' := .c (.sc (.int .i64 t3))) (Sto.mapN_killNil _ _) (mrgL_fz (mrgL_nil' _ _ _) rfl (by first | rfl | simp only [reduceCtorEq, Nat.reduceEqDiff, ak]) rfl (by intro R hR hh; cases hR; cases hh.2)) (by rfl) (mapT_killNil _ _) (by rfl) (by rfl) (by first | rfl | simp only [reduceCtorEq, Nat.reduceEqDiff, ak, akF, Nat.zero_add, List.append_nil]) ?_
  simp +decide only [Nat.reduceAdd, Nat.reduceMul, Int.reduceToNat, ak]
  refine hJ2 _ ?_
  refine seq_k fun J6 hJ6 => ?_
  refine sr_k fun J7 hJ7 => ?_
  simp +decide only [Nat.reduceAdd, Nat.reduceMul, Int.reduceToNat, ak]
  refine hJ7 _ ?_
  refine cond_k (b := decide (t3 < 0)) rfl (fun c8 => ?_) (fun c8 => ?_)
  · replace c8 := of_decide_eq_true c8; rw [if_pos c8] at h
    refine sr_k fun J9 hJ9 => ?_
    simp +decide only [Nat.reduceAdd, Nat.reduceMul, Int.reduceToNat, ak]
    refine hJ9 _ ?_
    obtain rfl := Option.some.inj h
    refine hKr _ ⟨_, rfl, [], _, rfl, rfl, ?_⟩
    first | rfl | (simp only [reduceCtorEq, Nat.reduceEqDiff, ak, akF]; done) | (simp [reduceCtorEq, Nat.reduceEqDiff, ak, akF] <;> omega)
  · replace c8 := of_decide_eq_false c8; rw [if_neg c8] at h
    refine hJ6 _ ?_
    refine sr_k fun J10 hJ10 => ?_
    simp +decide only [Nat.reduceAdd, Nat.reduceMul, Int.reduceToNat, ak]
    refine hJ10 _ ?_
    obtain rfl := Option.some.inj h
    refine hKr _ ⟨_, rfl, [], _, rfl, rfl, ?_⟩
    first | rfl | (simp only [reduceCtorEq, Nat.reduceEqDiff, ak, akF]; done) | (simp [reduceCtorEq, Nat.reduceEqDiff, ak, akF] <;> omega)
/-! ### laws.FnExactReorderState: function 11 -/
def C11 : AC := .seq (.reg [.op none (.mv 6 (.const (.bool false))), .keep [0, 1, 2]]) (.seq (.reg [.op none (.mv 7 (.const (.int .i64 1048576))), .keep [0, 1, 2, 7]]) (.seq (.reg [.op none (.mv 18 (.tmp 2)), .op none (.mv 19 (.tmp 7)), .call none (some 20) 47 [.tmp 18, .tmp 19], .op none (.mv 7 (.tmp 20)), .keep [0, 1, 2, 7]]) (.seq (.seq (.reg [.op none (.mv 21 (.tmp 7)), .op none (.bin 22 .lss (.tmp 21) (.const (.int .i64 0))), .keep [0, 1, 2, 22]]) (.cond (.tmp 22) (.seq (.reg [.op none (.mv 6 (.const (.bool true))), .keep [6]]) (.ret)) (.skip))) (.seq (.reg [.op none (.mv 24 (.tmp 0)), .op none (.mv 25 (.tmp 1)), .op none (.mv 26 (.tmp 2)), .call none (some 27) 49 [.tmp 26], .call none (some 28) 56 [.tmp 24, .tmp 25, .tmp 27], .op none (.mv 23 (.tmp 28)), .op none (.extr 29 (.tmp 23) 0), .op none (.extr 30 (.tmp 23) 1), .op none (.alloc 8 [.int .u64 0, .int .u64 0, .slice none 0 0, .int .i64 0, .int .u64 0]), .gh, .op none (.store 5 (.tmp 8) (.tmp 29)), .op none (.mv 9 (.tmp 30)), .keep [0, 1, 2, 8, 9]]) (.seq (.reg [.op none (.mv 31 (.tmp 2)), .call none (some 32) 49 [.tmp 31], .op none (.mv 10 (.tmp 32)), .keep [0, 1, 2, 8, 9, 10]]) (.seq (.reg [.op none (.mv 34 (.tmp 0)), .op none (.mv 35 (.tmp 1)), .op none (.mv 36 (.tmp 10)), .call none (some 37) 57 [.tmp 34, .tmp 35, .tmp 36], .op none (.mv 33 (.tmp 37)), .op none (.extr 38 (.tmp 33) 0), .op none (.extr 39 (.tmp 33) 1), .op none (.alloc 11 [.int .u64 0, .int .u64 0, .slice none 0 0, .int .i64 0, .int .u64 0]), .gh, .op none (.store 5 (.tmp 11) (.tmp 38)), .op none (.mv 12 (.tmp 39)), .keep [0, 1, 2, 8, 9, 10, 11, 12]]) (.seq (.seq (.ga (.reg [.op none (.load 40 true 5 (.tmp 11)), .op none (.load 41 true 5 (.tmp 8)), .call none (some 42) 58 [.tmp 40, .tmp 41], .op none (.un 43 .not (.tmp 42)), .op none (.mv 44 (.tmp 43)), .op (some (44, false)) (.mv 45 (.tmp 12)), .op (some (44, false)) (.mv 46 (.tmp 9)), .op (some (44, false)) (.bin 47 .neq (.tmp 45) (.tmp 46)), .op none (.pick 48 (.tmp 44) (.const (.bool true)) (.tmp 47)), .keep [0, 1, 2, 8, 9, 10, 11, 12, 48]])) (.cond (.tmp 48) (.seq (.reg [.op none (.mv 6 (.const (.bool false))), .keep [6]]) (.ret)) (.skip))) (.seq (.seq (.reg [.op none (.mv 49 (.tmp 10)), .op none (.mv 50 (.tmp 2)), .call none (some 51) 49 [.tmp 50], .call none (some 52) 52 [.tmp 49, .tmp 51], .op none (.un 53 .not (.tmp 52)), .keep [0, 1, 2, 8, 9, 10, 11, 12, 53]]) (.cond (.tmp 53) (.seq (.reg [.op none (.mv 6 (.const (.bool false))), .keep [6]]) (.ret)) (.skip))) (.seq (.reg [.op none (.mv 13 (.const (.int .i64 1))), .keep [0, 1, 2, 8, 9, 10, 11, 12, 13]]) (.seq (.reg [.op none (.mv 54 (.tmp 10)), .op none (.mv 55 (.tmp 13)), .call none (some 56) 53 [.tmp 54, .tmp 55], .op none (.mv 13 (.tmp 56)), .keep [0, 1, 2, 8, 9, 11, 12, 13]]) (.seq (.seq (.ga (.reg [.op none (.mv 57 (.tmp 13)), .op none (.bin 58 .lss (.tmp 57) (.const (.int .i64 0))), .op none (.mv 59 (.tmp 58)), .op (some (59, false)) (.load 60 true 5 (.tmp 11)), .op (some (59, false)) (.load 61 true 5 (.tmp 8)), .call (some (59, false)) (some 62) 58 [.tmp 60, .tmp 61], .op (some (59, false)) (.un 63 .not (.tmp 62)), .op none (.pick 64 (.tmp 59) (.const (.bool true)) (.tmp 63)), .op none (.mv 65 (.tmp 64)), .op (some (65, false)) (.mv 66 (.tmp 12)), .op (some (65, false)) (.mv 67 (.tmp 9)), .op (some (65, false)) (.bin 68 .neq (.tmp 66) (.tmp 67)), .op none (.pick 69 (.tmp 65) (.const (.bool true)) (.tmp 68)), .keep [0, 1, 2, 8, 9, 11, 69]])) (.cond (.tmp 69) (.seq (.reg [.op none (.mv 6 (.const (.bool false))), .keep [6]]) (.ret)) (.skip))) (.seq (.reg [.op none (.mv 14 (.const (.int .i64 1))), .keep [0, 1, 2, 8, 9, 11, 14]]) (.seq (.reg [.op none (.load 70 true 5 (.tmp 11)), .op none (.mv 71 (.tmp 14)), .call none (some 72) 59 [.tmp 70, .tmp 71], .op none (.mv 14 (.tmp 72)), .keep [0, 1, 2, 8, 9, 11, 14]]) (.seq (.reg [.op none (.mv 15 (.const (.int .i64 1))), .keep [0, 1, 2, 8, 9, 11, 14, 15]]) (.seq (.reg [.op none (.load 73 true 5 (.tmp 11)), .op none (.mv 74 (.tmp 15)), .call none (some 75) 60 [.tmp 73, .tmp 74], .op none (.mv 15 (.tmp 75)), .keep [0, 1, 2, 8, 9, 14, 15]]) (.seq (.seq (.reg [.op none (.mv 76 (.tmp 15)), .op none (.bin 77 .lss (.tmp 76) (.const (.int .i64 0))), .keep [0, 1, 2, 8, 9, 14, 15, 77]]) (.cond (.tmp 77) (.seq (.reg [.op none (.mv 6 (.const (.bool false))), .keep [6]]) (.ret)) (.skip))) (.seq (.seq (.reg [.op none (.mv 78 (.tmp 15)), .op none (.mv 79 (.tmp 14)), .op none (.bin 80 .neq (.tmp 78) (.tmp 79)), .keep [0, 1, 2, 8, 9, 80]]) (.cond (.tmp 80) (.seq (.reg [.op none (.mv 6 (.const (.bool false))), .keep [6]]) (.ret)) (.skip))) (.seq (.reg [.op none (.mv 82 (.tmp 0)), .op none (.mv 83 (.tmp 1)), .op none (.mv 84 (.tmp 2)), .call none (some 85) 49 [.tmp 84], .call none (some 86) 57 [.tmp 82, .tmp 83, .tmp 85], .op none (.mv 81 (.tmp 86)), .op none (.extr 87 (.tmp 81) 0), .op none (.extr 88 (.tmp 81) 1), .op none (.alloc 16 [.int .u64 0, .int .u64 0, .slice none 0 0, .int .i64 0, .int .u64 0]), .gh, .op none (.store 5 (.tmp 16) (.tmp 87)), .op none (.mv 17 (.tmp 88)), .keep [8, 9, 16, 17]]) (.seq (.seq (.ga (.reg [.op none (.load 89 true 5 (.tmp 16)), .op none (.load 90 true 5 (.tmp 8)), .call none (some 91) 58 [.tmp 89, .tmp 90], .op none (.un 92 .not (.tmp 91)), .op none (.mv 93 (.tmp 92)), .op (some (93, false)) (.mv 94 (.tmp 17)), .op (some (93, false)) (.mv 95 (.tmp 9)), .op (some (93, false)) (.bin 96 .neq (.tmp 94) (.tmp 95)), .op none (.pick 97 (.tmp 93) (.const (.bool true)) (.tmp 96)), .keep [97]])) (.cond (.tmp 97) (.seq (.reg [.op none (.mv 6 (.const (.bool false))), .keep [6]]) (.ret)) (.skip))) (.seq (.reg [.op none (.mv 6 (.const (.bool true))), .keep [6]]) (.ret)))))))))))))))))))))
def r11 : List RV := [.tmp 6]
theorem k11 : compC Try.prog 98 C11 (Try.f11.body.getD .skip) = some C11.erase := by kernel_rfl
theorem q11 : rvsOf Try.prog Try.f11.results.toList = some r11 := by kernel_rfl
def laws_FnExactReorderState.f (a0 : Int) (a1 : Int) (l2 : List S172) : Option Bool := (laws_szReorderEventS.f l2 1048576 >>= fun t4 => (if t4 < 0 then (some true) else (laws_toReorderEventS.f l2 >>= fun t12 => (spec_ReorderState.f a0 a1 t12 >>= fun t15 => (impl_ReorderState.f a0 a1 t12 >>= fun t22 => ((laws_eqReorderView.f t22.1 t22.2.1 t22.2.2.1 t22.2.2.2.1 t22.2.2.2.2.1 t15.1 t15.2.1 t15.2.2.1 t15.2.2.2.1 t15.2.2.2.2.1 >>= fun t31 => (if (!t31) = true then (some true) else (some (decide (t22.2.2.2.2.2 ≠ t15.2.2.2.2.2))))) >>= fun (j27 : Bool) => (if j27 = true then (some false) else (laws_eqReorderEventS.f t12 t12 >>= fun t42 => (if (!t42) = true then (some false) else (laws_markReorderEventS.f t12 1 >>= fun t49 => ((if t49.1 < 0 then (some true) else (laws_eqReorderView.f t22.1 t22.2.1 t22.2.2.1 t22.2.2.2.1 t22.2.2.2.2.1 t15.1 t15.2.1 t15.2.2.1 t15.2.2.2.1 t15.2.2.2.2.1 >>= fun t61 => (if (!t61) = true then (some true) else (some (decide (t22.2.2.2.2.2 ≠ t15.2.2.2.2.2)))))) >>= fun (j54 : Bool) => (if j54 = true then (some false) else (laws_markReorderView.f t22.1 t22.2.1 t22.2.2.1 t22.2.2.2.1 t22.2.2.2.2.1 1 >>= fun t71 => (laws_heldReorderView.f t22.1 t22.2.1 t71.2 t22.2.2.2.1 t22.2.2.2.2.1 1 >>= fun t77 => (if t77 < 0 then (some false) else (if t77 ≠ t71.1 then (some false) else ((laws_eqReorderView.f t22.1 t22.2.1 t22.2.2.1 t22.2.2.2.1 t22.2.2.2.2.1 t15.1 t15.2.1 t15.2.2.1 t15.2.2.2.1 t15.2.2.2.2.1 >>= fun t96 => (if (!t96) = true then (some true) else (some (decide (t22.2.2.2.2.2 ≠ t15.2.2.2.2.2))))) >>= fun (j92 : Bool) => (if j92 = true then (some false) else (some true)))))))))))))))))))
theorem laws_FnExactReorderState.tri (cs0 : List Cell) (o0 : Nat) (l2 : List S172) (hv0 : Vw c172 4 cs0 o0 l2) (a0 : Int) (a1 : Int) (r : Bool) (h : laws_FnExactReorderState.f a0 a1 l2 = some r) : Tri Try.prog 11 [.c (.sc (.int .u64 a0)), .c (.sc (.int .i64 a1)), .c (.ref (.arg 0) [] o0 l2.length)] [(.arg 0, ⟨.fz, 4, cs0⟩)] (fun o => o = ⟨.c (.sc (.bool r)), [(.arg 0, ⟨.fz, 4, cs0⟩)], [], []⟩) := by
  refine tri_of_body (ac := C11) (xs := r11) Try.func11 (show Try.f11.body = some (Try.f11.body.getD .skip) from rfl) k11 q11 (Nat.le_of_ble_eq_true rfl) ?_
  refine body_of fun K hKn hKr => ?_
  unfold laws_FnExactReorderState.f at h
  unfold C11
  simp only [initT, Nat.reduceAdd]
  refine sr_k fun J1 hJ1 => ?_
  simp +decide only [Nat.reduceAdd, Nat.reduceMul, Int.reduceToNat, ak]
  refine hJ1 _ ?_
  refine sr_k fun J2 hJ2 => ?_
  simp +decide only [Nat.reduceAdd, Nat.reduceMul, Int.reduceToNat, ak]
  refine hJ2 _ ?_
  refine sr_k fun J3 hJ3 => ?_
  simp +decide only [Nat.reduceAdd, Nat.reduceMul, Int.reduceToNat, ak]
  obtain ⟨t4, h5, h⟩ := of_bind h
  refine call_m [(.arg 0, ⟨(.arg 0), [], none, .fz⟩)] (s0 := [(.arg 0, ⟨.fz, 4, cs0⟩)]) (by intro t ht; cases ht; decide) rfl rfl (by first | rfl | simp only [reduceCtorEq, Nat.reduceEqDiff, ak, akF]) (laws_szReorderEventS.tri (cs0) o0 l2 hv0 1048576 _ h5) (by first | rfl | simp only [reduceCtorEq, Nat.reduceEqDiff, ak, akF]) (by simp [bkOk2, memK]) (fun hl5 => ?_)
  refine call_st (s4 := [(.arg 0, ⟨.fz, 4, cs0⟩)]) (m1' := []) (m2' := []) (v' := .c (.sc (.int .i64 t4))) (Sto.mapN_killNil _ _) (mrgL_fz (mrgL_nil' _ _ _) rfl (by first | rfl | simp only [reduceCtorEq, Nat.reduceEqDiff, ak]) rfl (by intro R hR hh; cases hR; cases hh.2)) (by rfl) (mapT_killNil _ _) (by rfl) (by rfl) (by first | rfl | simp only [reduceCtorEq, Nat.reduceEqDiff, ak, akF, Nat.zero_add, List.append_nil]) ?_
  simp +decide only [Nat.reduceAdd, Nat.reduceMul, Int.reduceToNat, ak]
  refine hJ3 _ ?_
  refine seq_k fun J7 hJ7 => ?_
  refine sr_k fun J8 hJ8 => ?_
  simp +decide only [Nat.reduceAdd, Nat.reduceMul, Int.reduceToNat, ak]
  refine hJ8 _ ?_
  refine cond_k (b := decide (t4 < 0)) rfl (fun c9 => ?_) (fun c9 => ?_)
  · replace c9 := of_decide_eq_true c9; rw [if_pos c9] at h
    refine sr_k fun J10 hJ10 => ?_
    simp +decide only [Nat.reduceAdd, Nat.reduceMul, Int.reduceToNat, ak]
    refine hJ10 _ ?_
    obtain rfl := Option.some.inj h
    refine hKr _ ⟨_, rfl, [], _, rfl, rfl, ?_⟩
    first | rfl | (simp only [reduceCtorEq, Nat.reduceEqDiff, ak, akF]; done) | (simp [reduceCtorEq, Nat.reduceEqDiff, ak, akF] <;> omega)
  · replace c9 := of_decide_eq_false c9; rw [if_neg c9] at h
    refine hJ7 _ ?_
    refine sr_k fun J11 hJ11 => ?_
    simp +decide only [Nat.reduceAdd, Nat.reduceMul, Int.reduceToNat, ak]
    obtain ⟨t12, h13, h⟩ := of_bind h
    refine call_m [(.arg 0, ⟨(.arg 0), [], none, .fz⟩)] (s0 := [(.arg 0, ⟨.fz, 4, cs0⟩)]) (by intro t ht; cases ht; decide) rfl rfl (by first | rfl | simp only [reduceCtorEq, Nat.reduceEqDiff, ak, akF]) (laws_toReorderEventS.tri (cs0) o0 l2 hv0 _ h13) (by first | rfl | simp only [reduceCtorEq, Nat.reduceEqDiff, ak, akF]) (by simp [bkOk2, memK]) (fun hl13 => ?_)
    refine call_st (s4 := [(.arg 0, ⟨.fz, 4, cs0⟩), (.tmp 27 0, ⟨.lst, 4, encL c116 t12⟩)]) (m1' := []) (m2' := []) (v' := .c (.ref (.tmp 27 0) [] 0 t12.length)) (Sto.mapN_killNil _ _) (mrgL_fz (mrgL_nil' _ _ _) rfl (by first | rfl | simp only [reduceCtorEq, Nat.reduceEqDiff, ak]) rfl (by intro R hR hh; cases hR; cases hh.2)) (by rfl) (mapT_killNil _ _) (by rfl) (by rfl) (by first | rfl | simp only [reduceCtorEq, Nat.reduceEqDiff, ak, akF, Nat.zero_add, List.append_nil]) ?_
    simp +decide only [Nat.reduceAdd, Nat.reduceMul, Int.reduceToNat, ak]
    obtain ⟨t15, h16, h⟩ := of_bind h
    refine call_m [(.arg 0, ⟨(.tmp 27 0), [], none, .fz⟩)] (s0 := [(.arg 0, ⟨.fz, 4, encL c116 t12⟩)]) (by intro t ht; cases ht; decide) rfl rfl (by first | rfl | simp only [reduceCtorEq, Nat.reduceEqDiff, ak, akF]) (spec_ReorderState.tri (encL c116 t12) 0 t12 (Vw.whole c116_w t12) a0 a1 _ h16) (by first | rfl | simp only [reduceCtorEq, Nat.reduceEqDiff, ak, akF]) (by simp [bkOk2, memK]) (fun hl16 => ?_)
    refine call_st (s4 := [(.arg 0, ⟨.fz, 4, cs0⟩), (.tmp 27 0, ⟨.lst, 4, encL c116 t12⟩), (.tmp 28 0, ⟨.lst, 2, encL c122 t15.2.2.1⟩)]) (m1' := []) (m2' := []) (v' := .tup [(true, [.sc (.int .u64 t15.1), .sc (.int .u64 t15.2.1), .ref (.tmp 28 0) [] 0 t15.2.2.1.length, .sc (.int .i64 t15.2.2.2.1), .sc (.int .u64 t15.2.2.2.2.1)]), (false, [.sc (.int .i64 t15.2.2.2.2.2)])]) (Sto.mapN_killNil _ _) (mrgL_fz (mrgL_nil' _ _ _) rfl (by first | rfl | simp only [reduceCtorEq, Nat.reduceEqDiff, ak]) rfl (by intro R hR hh; cases hR; cases hh.2)) (by rfl) (mapT_killNil _ _) (by rfl) (by rfl) (by first | rfl | simp only [reduceCtorEq, Nat.reduceEqDiff, ak, akF, Nat.zero_add, List.append_nil]) ?_
    simp +decide only [Nat.reduceAdd, Nat.reduceMul, Int.reduceToNat, ak]
    refine gho_k (Weak.own (.tmp 8 0) (cs' := [.sc (.int .u64 0), .sc (.int .u64 0), .own 2 (([] : List S122).length) (encL c122 ([] : List S122)), .sc (.int .i64 0), .sc (.int .u64 0)]) rfl ⟨.inl rfl, .inl rfl, .inr ⟨rfl, _, rfl⟩, .inl rfl, .inl rfl, trivial⟩) ?_
    have g18 : (encL c122 t15.2.2.1).length = t15.2.2.1.length * 2 := by simp [encL_length c122_w]
    simp +decide only [Nat.reduceAdd, Nat.reduceMul, Int.reduceToNat, ak, g18]
    refine hJ11 _ ?_
    refine sr_k fun J19 hJ19 => ?_
    simp +decide only [Nat.reduceAdd, Nat.reduceMul, Int.reduceToNat, ak]
    refine call_m [(.arg 0, ⟨(.arg 0), [], none, .fz⟩)] (s0 := [(.arg 0, ⟨.fz, 4, cs0⟩)]) (by intro t ht; cases ht; decide) rfl rfl (by first | rfl | simp only [reduceCtorEq, Nat.reduceEqDiff, ak, akF, g18]) (laws_toReorderEventS.tri (cs0) o0 l2 hv0 _ h13) (by first | rfl | simp only [reduceCtorEq, Nat.reduceEqDiff, ak, akF]) (by simp [bkOk2, memK]) (fun hl19 => ?_)
    refine call_st (s4 := [(.arg 0, ⟨.fz, 4, cs0⟩), (.tmp 27 0, ⟨.lst, 4, encL c116 t12⟩), (.tmp 8 0, ⟨.box, 0, [.sc (.int .u64 t15.1), .sc (.int .u64 t15.2.1), .own 2 t15.2.2.1.length (encL c122 t15.2.2.1), .sc (.int .i64 t15.2.2.2.1), .sc (.int .u64 t15.2.2.2.2.1)]⟩), (.tmp 32 0, ⟨.lst, 4, encL c116 t12⟩)]) (m1' := []) (m2' := []) (v' := .c (.ref (.tmp 32 0) [] 0 t12.length)) (Sto.mapN_killNil _ _) (mrgL_fz (mrgL_nil' _ _ _) rfl (by first | rfl | simp only [reduceCtorEq, Nat.reduceEqDiff, ak, g18]) rfl (by intro R hR hh; cases hR; cases hh.2)) (by rfl) (mapT_killNil _ _) (by rfl) (by rfl) (by first | rfl | simp only [reduceCtorEq, Nat.reduceEqDiff, ak, akF, Nat.zero_add, List.append_nil]) ?_
    simp +decide only [Nat.reduceAdd, Nat.reduceMul, Int.reduceToNat, ak]
    refine hJ19 _ ?_
    refine sr_k fun J21 hJ21 => ?_
    simp +decide only [Nat.reduceAdd, Nat.reduceMul, Int.reduceToNat, ak]
    obtain ⟨t22, h23, h⟩ := of_bind h
    refine call_m [(.arg 0, ⟨(.tmp 32 0), [], none, .fz⟩)] (s0 := [(.arg 0, ⟨.fz, 4, encL c116 t12⟩)]) (by intro t ht; cases ht; decide) rfl rfl (by first | rfl | simp only [reduceCtorEq, Nat.reduceEqDiff, ak, akF, g18]) (impl_ReorderState.tri (encL c116 t12) 0 t12 (Vw.whole c116_w t12) a0 a1 _ h23) (by first | rfl | simp only [reduceCtorEq, Nat.reduceEqDiff, ak, akF]) (by simp [bkOk2, memK]) (fun hl23 => ?_)
    refine call_st (s4 := [(.arg 0, ⟨.fz, 4, cs0⟩), (.tmp 27 0, ⟨.lst, 4, encL c116 t12⟩), (.tmp 8 0, ⟨.box, 0, [.sc (.int .u64 t15.1), .sc (.int .u64 t15.2.1), .own 2 t15.2.2.1.length (encL c122 t15.2.2.1), .sc (.int .i64 t15.2.2.2.1), .sc (.int .u64 t15.2.2.2.2.1)]⟩), (.tmp 32 0, ⟨.lst, 4, encL c116 t12⟩), (.tmp 37 0, ⟨.lst, 2, encL c122 t22.2.2.1⟩)]) (m1' := []) (m2' := []) (v' := .tup [(true, [.sc (.int .u64 t22.1), .sc (.int .u64 t22.2.1), .ref (.tmp 37 0) [] 0 t22.2.2.1.length, .sc (.int .i64 t22.2.2.2.1), .sc (.int .u64 t22.2.2.2.2.1)]), (false, [.sc (.int .i64 t22.2.2.2.2.2)])]) (Sto.mapN_killNil _ _) (mrgL_fz (mrgL_nil' _ _ _) rfl (by first | rfl | simp only [reduceCtorEq, Nat.reduceEqDiff, ak, g18]) rfl (by intro R hR hh; cases hR; cases hh.2)) (by rfl) (mapT_killNil _ _) (by rfl) (by rfl) (by first | rfl | simp only [reduceCtorEq, Nat.reduceEqDiff, ak, akF, Nat.zero_add, List.append_nil]) ?_
    simp +decide only [Nat.reduceAdd, Nat.reduceMul, Int.reduceToNat, ak]
    refine gho_k (Weak.own (.tmp 11 0) (cs' := [.sc (.int .u64 0), .sc (.int .u64 0), .own 2 (([] : List S122).length) (encL c122 ([] : List S122)), .sc (.int .i64 0), .sc (.int .u64 0)]) rfl ⟨.inl rfl, .inl rfl, .inr ⟨rfl, _, rfl⟩, .inl rfl, .inl rfl, trivial⟩) ?_
    have g25 : (encL c122 t22.2.2.1).length = t22.2.2.1.length * 2 := by simp [encL_length c122_w]
    simp +decide only [Nat.reduceAdd, Nat.reduceMul, Int.reduceToNat, ak, g25]
    refine hJ21 _ ?_
    refine seq_k fun J26 hJ26 => ?_
    obtain ⟨j27, h28, hn⟩ := of_bind h
    refine seq_j (fun st => st = ⟨[(0, .c (.sc (.int .u64 a0))), (1, .c (.sc (.int .i64 a1))), (2, .c (.ref (.arg 0) [] o0 l2.length)), (8, .c (.ptr (.tmp 8 0) [] 0)), (9, .c (.sc (.int .i64 t15.2.2.2.2.2))), (10, .c (.ref (.tmp 32 0) [] 0 t12.length)), (11, .c (.ptr (.tmp 11 0) [] 0)), (12, .c (.sc (.int .i64 t22.2.2.2.2.2))), (48, .c (.sc (.bool j27)))], [(.arg 0, ⟨.fz, 4, cs0⟩), (.tmp 8 0, ⟨.box, 0, [.sc (.int .u64 t15.1), .sc (.int .u64 t15.2.1), .own 2 t15.2.2.1.length (encL c122 t15.2.2.1), .sc (.int .i64 t15.2.2.2.1), .sc (.int .u64 t15.2.2.2.2.1)]⟩), (.tmp 32 0, ⟨.lst, 4, encL c116 t12⟩), (.tmp 11 0, ⟨.box, 0, [.sc (.int .u64 t22.1), .sc (.int .u64 t22.2.1), .own 2 t22.2.2.1.length (encL c122 t22.2.2.1), .sc (.int .i64 t22.2.2.2.1), .sc (.int .u64 t22.2.2.2.2.1)]⟩)], [], []⟩) (fun J29 hJ29 => ?_) ?_
    · replace h := h28; clear hn
      refine ga_k fun G30 G30n G30r G30x => ?_
      refine reg_k ?_
      simp +decide only [Nat.reduceAdd, Nat.reduceMul, Int.reduceToNat, ak]
      obtain ⟨t31, h32, h⟩ := of_bind h
      refine call_m [(.arg 0, ⟨(.tmp 11 0), [2], none, .fz⟩), (.arg 1, ⟨(.tmp 8 0), [2], none, .fz⟩)] (s0 := [(.arg 0, ⟨.fz, 2, encL c122 t22.2.2.1⟩), (.arg 1, ⟨.fz, 2, encL c122 t15.2.2.1⟩)]) (by intro t ht; cases ht; decide) rfl rfl (by first | rfl | simp only [reduceCtorEq, Nat.reduceEqDiff, ak, akF, g18, g25]) (laws_eqReorderView.tri (encL c122 t22.2.2.1) 0 t22.2.2.1 (Vw.whole c122_w t22.2.2.1) (encL c122 t15.2.2.1) 0 t15.2.2.1 (Vw.whole c122_w t15.2.2.1) t22.1 t22.2.1 t22.2.2.2.1 t22.2.2.2.2.1 t15.1 t15.2.1 t15.2.2.2.1 t15.2.2.2.2.1 _ h32) (by first | rfl | simp only [reduceCtorEq, Nat.reduceEqDiff, ak, akF]) (by simp [bkOk2, memK]) (fun hl32 => ?_)
      refine call_st (s4 := [(.arg 0, ⟨.fz, 4, cs0⟩), (.tmp 27 0, ⟨.lst, 4, encL c116 t12⟩), (.tmp 8 0, ⟨.box, 0, [.sc (.int .u64 t15.1), .sc (.int .u64 t15.2.1), .own 2 t15.2.2.1.length (encL c122 t15.2.2.1), .sc (.int .i64 t15.2.2.2.1), .sc (.int .u64 t15.2.2.2.2.1)]⟩), (.tmp 32 0, ⟨.lst, 4, encL c116 t12⟩), (.tmp 11 0, ⟨.box, 0, [.sc (.int .u64 t22.1), .sc (.int .u64 t22.2.1), .own 2 t22.2.2.1.length (encL c122 t22.2.2.1), .sc (.int .i64 t22.2.2.2.1), .sc (.int .u64 t22.2.2.2.2.1)]⟩)]) (m1' := []) (m2' := []) (v' := .c (.sc (.bool t31))) (Sto.mapN_killNil _ _) (mrgL_fz (mrgL_fz (mrgL_nil' _ _ _) rfl (by first | rfl | simp only [reduceCtorEq, Nat.reduceEqDiff, ak, g18, g25]) rfl (by intro R hR hh; cases hh.1)) rfl (by first | rfl | simp only [reduceCtorEq, Nat.reduceEqDiff, ak, g18, g25]) rfl (by intro R hR hh; cases hh.1)) (by rfl) (mapT_killNil _ _) (by rfl) (by rfl) (by first | rfl | simp only [reduceCtorEq, Nat.reduceEqDiff, ak, akF, Nat.zero_add, List.append_nil]) ?_
      simp +decide only [Nat.reduceAdd, Nat.reduceMul, Int.reduceToNat, ak]
      by_cases c34 : (!t31) = true
      · rw [if_pos c34] at h
        have e35 : (!t31) = true := c34
        simp +decide only [Nat.reduceAdd, Nat.reduceMul, Int.reduceToNat, ak, e35]
        obtain rfl := Option.some.inj h
        refine G30n _ _ (wk [0, 1, 2, 8, 9, 10, 11, 12, 48] [pI (.arg 0) .fz, pI (.tmp 8 0) .box, pI (.tmp 32 0) .lst, pI (.tmp 11 0) .box] (h0 := by first | rfl | simp +decide only [ak, akF, e35]) (h := by first | rfl | (simp +decide only [ak, akF, e35]; done) | (simp +decide [ak, akF, e35] <;> omega))) (hJ29 _ rfl)
      · rw [if_neg c34] at h
        have e36 : (!t31) = false := Bool.eq_false_iff.2 c34
        simp +decide only [Nat.reduceAdd, Nat.reduceMul, Int.reduceToNat, ak, e36]
        obtain rfl := Option.some.inj h
        refine G30n _ _ (wk [0, 1, 2, 8, 9, 10, 11, 12, 48] [pI (.arg 0) .fz, pI (.tmp 8 0) .box, pI (.tmp 32 0) .lst, pI (.tmp 11 0) .box] (h0 := by first | rfl | simp +decide only [ak, akF, e36]) (h := by first | rfl | (simp +decide only [ak, akF, e36]; done) | (simp +decide [ak, akF, e36] <;> omega))) (hJ29 _ rfl)
    · replace h := hn; clear hn h28
      rintro _ rfl
      refine cond_k (b := j27) rfl (fun c37 => ?_) (fun c37 => ?_)
      · rw [if_pos c37] at h
        refine sr_k fun J38 hJ38 => ?_
        simp +decide only [Nat.reduceAdd, Nat.reduceMul, Int.reduceToNat, ak]
        refine hJ38 _ ?_
        obtain rfl := Option.some.inj h
        refine hKr _ ⟨_, rfl, [], _, rfl, rfl, ?_⟩
        first | rfl | (simp only [reduceCtorEq, Nat.reduceEqDiff, ak, akF]; done) | (simp [reduceCtorEq, Nat.reduceEqDiff, ak, akF] <;> omega)
      · rw [if_neg (Bool.eq_false_iff.1 c37)] at h
        refine hJ26 _ ?_
        refine seq_k fun J39 hJ39 => ?_
        refine sr_k fun J40 hJ40 => ?_
        simp +decide only [Nat.reduceAdd, Nat.reduceMul, Int.reduceToNat, ak]
        refine call_m [(.arg 0, ⟨(.arg 0), [], none, .fz⟩)] (s0 := [(.arg 0, ⟨.fz, 4, cs0⟩)]) (by intro t ht; cases ht; decide) rfl rfl (by first | rfl | simp only [reduceCtorEq, Nat.reduceEqDiff, ak, akF, g18, g25]) (laws_toReorderEventS.tri (cs0) o0 l2 hv0 _ h13) (by first | rfl | simp only [reduceCtorEq, Nat.reduceEqDiff, ak, akF]) (by simp [bkOk2, memK]) (fun hl40 => ?_)
        refine call_st (s4 := [(.arg 0, ⟨.fz, 4, cs0⟩), (.tmp 8 0, ⟨.box, 0, [.sc (.int .u64 t15.1), .sc (.int .u64 t15.2.1), .own 2 t15.2.2.1.length (encL c122 t15.2.2.1), .sc (.int .i64 t15.2.2.2.1), .sc (.int .u64 t15.2.2.2.2.1)]⟩), (.tmp 32 0, ⟨.lst, 4, encL c116 t12⟩), (.tmp 11 0, ⟨.box, 0, [.sc (.int .u64 t22.1), .sc (.int .u64 t22.2.1), .own 2 t22.2.2.1.length (encL c122 t22.2.2.1), .sc (.int .i64 t22.2.2.2.1), .sc (.int .u64 t22.2.2.2.2.1)]⟩), (.tmp 51 0, ⟨.lst, 4, encL c116 t12⟩)]) (m1' := []) (m2' := []) (v' := .c (.ref (.tmp 51 0) [] 0 t12.length)) (Sto.mapN_killNil _ _) (mrgL_fz (mrgL_nil' _ _ _) rfl (by first | rfl | simp only [reduceCtorEq, Nat.reduceEqDiff, ak, g18, g25]) rfl (by intro R hR hh; cases hR; cases hh.2)) (by rfl) (mapT_killNil _ _) (by rfl) (by rfl) (by first | rfl | simp only [reduceCtorEq, Nat.reduceEqDiff, ak, akF, Nat.zero_add, List.append_nil]) ?_
        simp +decide only [Nat.reduceAdd, Nat.reduceMul, Int.reduceToNat, ak]
        obtain ⟨t42, h43, h⟩ := of_bind h
        refine call_m [(.arg 0, ⟨(.tmp 32 0), [], none, .fz⟩), (.arg 1, ⟨(.tmp 51 0), [], none, .fz⟩)] (s0 := [(.arg 0, ⟨.fz, 4, encL c116 t12⟩), (.arg 1, ⟨.fz, 4, encL c116 t12⟩)]) (by intro t ht; cases ht; decide) rfl rfl (by first | rfl | simp only [reduceCtorEq, Nat.reduceEqDiff, ak, akF, g18, g25]) (laws_eqReorderEventS.tri (encL c116 t12) 0 t12 (Vw.whole c116_w t12) (encL c116 t12) 0 t12 (Vw.whole c116_w t12) _ h43) (by first | rfl | simp only [reduceCtorEq, Nat.reduceEqDiff, ak, akF]) (by simp [bkOk2, memK]) (fun hl43 => ?_)
        refine call_st (s4 := [(.arg 0, ⟨.fz, 4, cs0⟩), (.tmp 8 0, ⟨.box, 0, [.sc (.int .u64 t15.1), .sc (.int .u64 t15.2.1), .own 2 t15.2.2.1.length (encL c122 t15.2.2.1), .sc (.int .i64 t15.2.2.2.1), .sc (.int .u64 t15.2.2.2.2.1)]⟩), (.tmp 32 0, ⟨.lst, 4, encL c116 t12⟩), (.tmp 11 0, ⟨.box, 0, [.sc (.int .u64 t22.1), .sc (.int .u64 t22.2.1), .own 2 t22.2.2.1.length (encL c122 t22.2.2.1), .sc (.int .i64 t22.2.2.2.1), .sc (.int .u64 t22.2.2.2.2.1)]⟩), (.tmp 51 0, ⟨.lst, 4, encL c116 t12⟩)]) (m1' := []) (m2' := []) (v' := .c (.sc (.bool t42))) (Sto.mapN_killNil _ _) (mrgL_fz (mrgL_fz (mrgL_nil' _ _ _) rfl (by first | rfl | simp only [reduceCtorEq, Nat.reduceEqDiff, ak, g18, g25]) rfl (by intro R hR hh; cases hR; cases hh.2)) rfl (by first | rfl | simp only [reduceCtorEq, Nat.reduceEqDiff, ak, g18, g25]) rfl (by intro R hR hh; cases hR; cases hh.2)) (by rfl) (mapT_killNil _ _) (by rfl) (by rfl) (by first | rfl | simp only [reduceCtorEq, Nat.reduceEqDiff, ak, akF, Nat.zero_add, List.append_nil]) ?_
        simp +decide only [Nat.reduceAdd, Nat.reduceMul, Int.reduceToNat, ak]
        refine hJ40 _ ?_
        refine cond_k (b := !t42) rfl (fun c45 => ?_) (fun c45 => ?_)
        · rw [if_pos c45] at h
          refine sr_k fun J46 hJ46 => ?_
          simp +decide only [Nat.reduceAdd, Nat.reduceMul, Int.reduceToNat, ak]
          refine hJ46 _ ?_
          obtain rfl := Option.some.inj h
          refine hKr _ ⟨_, rfl, [], _, rfl, rfl, ?_⟩
          first | rfl | (simp only [reduceCtorEq, Nat.reduceEqDiff, ak, akF]; done) | (simp [reduceCtorEq, Nat.reduceEqDiff, ak, akF] <;> omega)
        · rw [if_neg (Bool.eq_false_iff.1 c45)] at h
          refine hJ39 _ ?_
          refine sr_k fun J47 hJ47 => ?_
          simp +decide only [Nat.reduceAdd, Nat.reduceMul, Int.reduceToNat, ak]
          refine hJ47 _ ?_
          refine sr_k fun J48 hJ48 => ?_
          simp +decide only [Nat.reduceAdd, Nat.reduceMul, Int.reduceToNat, ak]
          obtain ⟨t49, h50, h⟩ := of_bind h
          refine call_m [(.arg 0, ⟨(.tmp 32 0), [], none, .lst⟩)] (s0 := [(.arg 0, ⟨.lst, 4, encL c116 t12⟩)]) (by intro t ht; cases ht; decide) rfl rfl (by first | rfl | simp only [reduceCtorEq, Nat.reduceEqDiff, ak, akF, g18, g25]) (laws_markReorderEventS.tri t12 1 _ h50) (by first | rfl | simp only [reduceCtorEq, Nat.reduceEqDiff, ak, akF]) (by simp [bkOk2, memK]) (fun hl50 => ?_)
          have g52 : t49.2.length = t12.length := encL_len_inj c116_w (by decide) (hl50 0 (by decide) _ _ rfl rfl)
          refine call_st (s4 := [(.arg 0, ⟨.fz, 4, cs0⟩), (.tmp 8 0, ⟨.box, 0, [.sc (.int .u64 t15.1), .sc (.int .u64 t15.2.1), .own 2 t15.2.2.1.length (encL c122 t15.2.2.1), .sc (.int .i64 t15.2.2.2.1), .sc (.int .u64 t15.2.2.2.2.1)]⟩), (.tmp 32 0, ⟨.lst, 4, encL c116 t49.2⟩), (.tmp 11 0, ⟨.box, 0, [.sc (.int .u64 t22.1), .sc (.int .u64 t22.2.1), .own 2 t22.2.2.1.length (encL c122 t22.2.2.1), .sc (.int .i64 t22.2.2.2.1), .sc (.int .u64 t22.2.2.2.2.1)]⟩), (.tmp 51 0, ⟨.lst, 4, encL c116 t12⟩)]) (m1' := []) (m2' := []) (v' := .c (.sc (.int .i64 t49.1))) (Sto.mapN_killNil _ _) (mrgL_whole (mrgL_nil' _ _ _) rfl (by rfl) (.inr ⟨by decide, by decide, rfl⟩)) (by rfl) (mapT_killNil _ _) (by rfl) (by rfl) (by first | rfl | simp only [reduceCtorEq, Nat.reduceEqDiff, ak, akF, Nat.zero_add, List.append_nil, g52]) ?_
          simp +decide only [Nat.reduceAdd, Nat.reduceMul, Int.reduceToNat, ak]
          refine hJ48 _ ?_
          refine seq_k fun J53 hJ53 => ?_
          obtain ⟨j54, h55, hn⟩ := of_bind h
          refine seq_j (fun st => st = ⟨[(0, .c (.sc (.int .u64 a0))), (1, .c (.sc (.int .i64 a1))), (2, .c (.ref (.arg 0) [] o0 l2.length)), (8, .c (.ptr (.tmp 8 0) [] 0)), (9, .c (.sc (.int .i64 t15.2.2.2.2.2))), (11, .c (.ptr (.tmp 11 0) [] 0)), (69, .c (.sc (.bool j54)))], [(.arg 0, ⟨.fz, 4, cs0⟩), (.tmp 8 0, ⟨.box, 0, [.sc (.int .u64 t15.1), .sc (.int .u64 t15.2.1), .own 2 t15.2.2.1.length (encL c122 t15.2.2.1), .sc (.int .i64 t15.2.2.2.1), .sc (.int .u64 t15.2.2.2.2.1)]⟩), (.tmp 11 0, ⟨.box, 0, [.sc (.int .u64 t22.1), .sc (.int .u64 t22.2.1), .own 2 t22.2.2.1.length (encL c122 t22.2.2.1), .sc (.int .i64 t22.2.2.2.1), .sc (.int .u64 t22.2.2.2.2.1)]⟩)], [], []⟩) (fun J56 hJ56 => ?_) ?_
          · replace h := h55; clear hn
            refine ga_k fun G57 G57n G57r G57x => ?_
            refine reg_k ?_
            simp +decide only [Nat.reduceAdd, Nat.reduceMul, Int.reduceToNat, ak]
            by_cases c58 : t49.1 < 0
            · rw [if_pos c58] at h
              have e59 : decide (t49.1 < 0) = true := decide_eq_true c58
              simp +decide only [Nat.reduceAdd, Nat.reduceMul, Int.reduceToNat, ak, e59]
              obtain rfl := Option.some.inj h
              refine G57n _ _ (wk [0, 1, 2, 8, 9, 11, 69] [pI (.arg 0) .fz, pI (.tmp 8 0) .box, pI (.tmp 11 0) .box] (h0 := by first | rfl | simp +decide only [ak, akF, e59, g52]) (h := by first | rfl | (simp +decide only [ak, akF, e59, g52]; done) | (simp +decide [ak, akF, e59, g52] <;> omega))) (hJ56 _ rfl)
            · rw [if_neg c58] at h
              have e60 : decide (t49.1 < 0) = false := decide_eq_false c58
              simp +decide only [Nat.reduceAdd, Nat.reduceMul, Int.reduceToNat, ak, e60]
              obtain ⟨t61, h62, h⟩ := of_bind h
              refine call_m [(.arg 0, ⟨(.tmp 11 0), [2], none, .fz⟩), (.arg 1, ⟨(.tmp 8 0), [2], none, .fz⟩)] (s0 := [(.arg 0, ⟨.fz, 2, encL c122 t22.2.2.1⟩), (.arg 1, ⟨.fz, 2, encL c122 t15.2.2.1⟩)]) (by intro t ht; cases ht; decide) rfl rfl (by first | rfl | simp only [reduceCtorEq, Nat.reduceEqDiff, ak, akF, e60, g18, g25]) (laws_eqReorderView.tri (encL c122 t22.2.2.1) 0 t22.2.2.1 (Vw.whole c122_w t22.2.2.1) (encL c122 t15.2.2.1) 0 t15.2.2.1 (Vw.whole c122_w t15.2.2.1) t22.1 t22.2.1 t22.2.2.2.1 t22.2.2.2.2.1 t15.1 t15.2.1 t15.2.2.2.1 t15.2.2.2.2.1 _ h62) (by first | rfl | simp only [reduceCtorEq, Nat.reduceEqDiff, ak, akF]) (by simp [bkOk2, memK]) (fun hl62 => ?_)
              refine call_st (s4 := [(.arg 0, ⟨.fz, 4, cs0⟩), (.tmp 8 0, ⟨.box, 0, [.sc (.int .u64 t15.1), .sc (.int .u64 t15.2.1), .own 2 t15.2.2.1.length (encL c122 t15.2.2.1), .sc (.int .i64 t15.2.2.2.1), .sc (.int .u64 t15.2.2.2.2.1)]⟩), (.tmp 32 0, ⟨.lst, 4, encL c116 t49.2⟩), (.tmp 11 0, ⟨.box, 0, [.sc (.int .u64 t22.1), .sc (.int .u64 t22.2.1), .own 2 t22.2.2.1.length (encL c122 t22.2.2.1), .sc (.int .i64 t22.2.2.2.1), .sc (.int .u64 t22.2.2.2.2.1)]⟩), (.tmp 51 0, ⟨.lst, 4, encL c116 t12⟩)]) (m1' := []) (m2' := []) (v' := .c (.sc (.bool t61))) (Sto.mapN_killNil _ _) (mrgL_fz (mrgL_fz (mrgL_nil' _ _ _) rfl (by first | rfl | simp only [reduceCtorEq, Nat.reduceEqDiff, ak, e60, g18, g25]) rfl (by intro R hR hh; cases hh.1)) rfl (by first | rfl | simp only [reduceCtorEq, Nat.reduceEqDiff, ak, e60, g18, g25]) rfl (by intro R hR hh; cases hh.1)) (by rfl) (mapT_killNil _ _) (by rfl) (by rfl) (by first | rfl | simp only [reduceCtorEq, Nat.reduceEqDiff, ak, akF, Nat.zero_add, List.append_nil, e60, g52]) ?_
              simp +decide only [Nat.reduceAdd, Nat.reduceMul, Int.reduceToNat, ak]
              by_cases c64 : (!t61) = true
              · rw [if_pos c64] at h
                have e65 : (!t61) = true := c64
                simp +decide only [Nat.reduceAdd, Nat.reduceMul, Int.reduceToNat, ak, e65]
                obtain rfl := Option.some.inj h
                refine G57n _ _ (wk [0, 1, 2, 8, 9, 11, 69] [pI (.arg 0) .fz, pI (.tmp 8 0) .box, pI (.tmp 11 0) .box] (h0 := by first | rfl | simp +decide only [ak, akF, e60, e65, g52]) (h := by first | rfl | (simp +decide only [ak, akF, e60, e65, g52]; done) | (simp +decide [ak, akF, e60, e65, g52] <;> omega))) (hJ56 _ rfl)
              · rw [if_neg c64] at h
                have e66 : (!t61) = false := Bool.eq_false_iff.2 c64
                simp +decide only [Nat.reduceAdd, Nat.reduceMul, Int.reduceToNat, ak, e66]
                obtain rfl := Option.some.inj h
                refine G57n _ _ (wk [0, 1, 2, 8, 9, 11, 69] [pI (.arg 0) .fz, pI (.tmp 8 0) .box, pI (.tmp 11 0) .box] (h0 := by first | rfl | simp +decide only [ak, akF, e60, e66, g52]) (h := by first | rfl | (simp +decide only [ak, akF, e60, e66, g52]; done) | (simp +decide [ak, akF, e60, e66, g52] <;> omega))) (hJ56 _ rfl)
          · replace h := hn; clear hn h55
            rintro _ rfl
            refine cond_k (b := j54) rfl (fun c67 => ?_) (fun c67 => ?_)
            · rw [if_pos c67] at h
              refine sr_k fun J68 hJ68 => ?_
              simp +decide only [Nat.reduceAdd, Nat.reduceMul, Int.reduceToNat, ak]
              refine hJ68 _ ?_
              obtain rfl := Option.some.inj h
              refine hKr _ ⟨_, rfl, [], _, rfl, rfl, ?_⟩
              first | rfl | (simp only [reduceCtorEq, Nat.reduceEqDiff, ak, akF, g52]; done) | (simp [reduceCtorEq, Nat.reduceEqDiff, ak, akF, g52] <;> omega)
            · rw [if_neg (Bool.eq_false_iff.1 c67)] at h
              refine hJ53 _ ?_
              refine sr_k fun J69 hJ69 => ?_
              simp +decide only [Nat.reduceAdd, Nat.reduceMul, Int.reduceToNat, ak]
              refine hJ69 _ ?_
              refine sr_k fun J70 hJ70 => ?_
              simp +decide only [Nat.reduceAdd, Nat.reduceMul, Int.reduceToNat, ak]
              obtain ⟨t71, h72, h⟩ := of_bind h
              refine call_m [(.arg 0, ⟨(.tmp 11 0), [2], none, .lst⟩)] (s0 := [(.arg 0, ⟨.lst, 2, encL c122 t22.2.2.1⟩)]) (by intro t ht; cases ht; decide) rfl rfl (by first | rfl | simp only [reduceCtorEq, Nat.reduceEqDiff, ak, akF, g18, g25]) (laws_markReorderView.tri t22.1 t22.2.1 t22.2.2.1 t22.2.2.2.1 t22.2.2.2.2.1 1 _ h72) (by first | rfl | simp only [reduceCtorEq, Nat.reduceEqDiff, ak, akF]) (by simp [bkOk2, memK]) (fun hl72 => ?_)
              have g74 : t71.2.length = t22.2.2.1.length := encL_len_inj c122_w (by decide) (hl72 0 (by decide) _ _ rfl rfl)
              refine call_st (s4 := [(.arg 0, ⟨.fz, 4, cs0⟩), (.tmp 8 0, ⟨.box, 0, [.sc (.int .u64 t15.1), .sc (.int .u64 t15.2.1), .own 2 t15.2.2.1.length (encL c122 t15.2.2.1), .sc (.int .i64 t15.2.2.2.1), .sc (.int .u64 t15.2.2.2.2.1)]⟩), (.tmp 11 0, ⟨.box, 0, [.sc (.int .u64 t22.1), .sc (.int .u64 t22.2.1), .own 2 t71.2.length (encL c122 t71.2), .sc (.int .i64 t22.2.2.2.1), .sc (.int .u64 t22.2.2.2.2.1)]⟩)]) (m1' := []) (m2' := []) (v' := .c (.sc (.int .i64 t71.1))) (Sto.mapN_killNil _ _) (mrgL_nest' (cs := encL c122 t22.2.2.1) (cs' := [.sc (.int .u64 t22.1), .sc (.int .u64 t22.2.1), .own 2 t71.2.length (encL c122 t71.2), .sc (.int .i64 t22.2.2.2.1), .sc (.int .u64 t22.2.2.2.2.1)]) (mrgL_nil' _ _ _) rfl (by simp) (by rfl) (by first | rfl | simp only [reduceCtorEq, Nat.reduceEqDiff, ak, g18, g25]) (by decide) (by first | rfl | (simp only [reduceCtorEq, Nat.reduceEqDiff, ak, g52, g74]; done) | (simp [ak, g52, g74]; done))) (by rfl) (mapT_killNil _ _) (by rfl) (by rfl) (by first | rfl | simp only [reduceCtorEq, Nat.reduceEqDiff, ak, akF, Nat.zero_add, List.append_nil, g52, g74]) ?_
              simp +decide only [Nat.reduceAdd, Nat.reduceMul, Int.reduceToNat, ak]
              refine hJ70 _ ?_
              refine sr_k fun J75 hJ75 => ?_
              simp +decide only [Nat.reduceAdd, Nat.reduceMul, Int.reduceToNat, ak]
              refine hJ75 _ ?_
              refine sr_k fun J76 hJ76 => ?_
              simp +decide only [Nat.reduceAdd, Nat.reduceMul, Int.reduceToNat, ak]
              obtain ⟨t77, h78, h⟩ := of_bind h
              refine call_m [(.arg 0, ⟨(.tmp 11 0), [2], none, .fz⟩)] (s0 := [(.arg 0, ⟨.fz, 2, encL c122 t71.2⟩)]) (by intro t ht; cases ht; decide) rfl rfl (by first | rfl | simp only [reduceCtorEq, Nat.reduceEqDiff, ak, akF, g18, g25]) (laws_heldReorderView.tri (encL c122 t71.2) 0 t71.2 (Vw.whole c122_w t71.2) t22.1 t22.2.1 t22.2.2.2.1 t22.2.2.2.2.1 1 _ h78) (by first | rfl | simp only [reduceCtorEq, Nat.reduceEqDiff, ak, akF]) (by simp [bkOk2, memK]) (fun hl78 => ?_)
              refine call_st (s4 := [(.arg 0, ⟨.fz, 4, cs0⟩), (.tmp 8 0, ⟨.box, 0, [.sc (.int .u64 t15.1), .sc (.int .u64 t15.2.1), .own 2 t15.2.2.1.length (encL c122 t15.2.2.1), .sc (.int .i64 t15.2.2.2.1), .sc (.int .u64 t15.2.2.2.2.1)]⟩), (.tmp 11 0, ⟨.box, 0, [.sc (.int .u64 t22.1), .sc (.int .u64 t22.2.1), .own 2 t71.2.length (encL c122 t71.2), .sc (.int .i64 t22.2.2.2.1), .sc (.int .u64 t22.2.2.2.2.1)]⟩)]) (m1' := []) (m2' := []) (v' := .c (.sc (.int .i64 t77))) (Sto.mapN_killNil _ _) (mrgL_fz (mrgL_nil' _ _ _) rfl (by first | rfl | simp only [reduceCtorEq, Nat.reduceEqDiff, ak, g18, g25]) rfl (by intro R hR hh; cases hh.1)) (by rfl) (mapT_killNil _ _) (by rfl) (by rfl) (by first | rfl | simp only [reduceCtorEq, Nat.reduceEqDiff, ak, akF, Nat.zero_add, List.append_nil, g52, g74]) ?_
              simp +decide only [Nat.reduceAdd, Nat.reduceMul, Int.reduceToNat, ak]
              refine hJ76 _ ?_
              refine seq_k fun J80 hJ80 => ?_
              refine sr_k fun J81 hJ81 => ?_
              simp +decide only [Nat.reduceAdd, Nat.reduceMul, Int.reduceToNat, ak]
              refine hJ81 _ ?_
              refine cond_k (b := decide (t77 < 0)) rfl (fun c82 => ?_) (fun c82 => ?_)
              · replace c82 := of_decide_eq_true c82; rw [if_pos c82] at h
                refine sr_k fun J83 hJ83 => ?_
                simp +decide only [Nat.reduceAdd, Nat.reduceMul, Int.reduceToNat, ak]
                refine hJ83 _ ?_
                obtain rfl := Option.some.inj h
                refine hKr _ ⟨_, rfl, [], _, rfl, rfl, ?_⟩
                first | rfl | (simp only [reduceCtorEq, Nat.reduceEqDiff, ak, akF, g52, g74]; done) | (simp [reduceCtorEq, Nat.reduceEqDiff, ak, akF, g52, g74] <;> omega)
              · replace c82 := of_decide_eq_false c82; rw [if_neg c82] at h
                refine hJ80 _ ?_
                refine seq_k fun J84 hJ84 => ?_
                refine sr_k fun J85 hJ85 => ?_
                simp +decide only [Nat.reduceAdd, Nat.reduceMul, Int.reduceToNat, ak]
                refine hJ85 _ ?_
                refine cond_k (b := decide (t77 ≠ t71.1)) rfl (fun c86 => ?_) (fun c86 => ?_)
                · replace c86 := of_decide_eq_true c86; rw [if_pos c86] at h
                  refine sr_k fun J87 hJ87 => ?_
                  simp +decide only [Nat.reduceAdd, Nat.reduceMul, Int.reduceToNat, ak]
                  refine hJ87 _ ?_
                  obtain rfl := Option.some.inj h
                  refine hKr _ ⟨_, rfl, [], _, rfl, rfl, ?_⟩
                  first | rfl | (simp only [reduceCtorEq, Nat.reduceEqDiff, ak, akF, g52, g74]; done) | (simp [reduceCtorEq, Nat.reduceEqDiff, ak, akF, g52, g74] <;> omega)
                · replace c86 := of_decide_eq_false c86; rw [if_neg c86] at h
                  refine hJ84 _ ?_
                  refine sr_k fun J88 hJ88 => ?_
                  simp +decide only [Nat.reduceAdd, Nat.reduceMul, Int.reduceToNat, ak]
                  refine call_m [(.arg 0, ⟨(.arg 0), [], none, .fz⟩)] (s0 := [(.arg 0, ⟨.fz, 4, cs0⟩)]) (by intro t ht; cases ht; decide) rfl rfl (by first | rfl | simp only [reduceCtorEq, Nat.reduceEqDiff, ak, akF, g18, g25]) (laws_toReorderEventS.tri (cs0) o0 l2 hv0 _ h13) (by first | rfl | simp only [reduceCtorEq, Nat.reduceEqDiff, ak, akF]) (by simp [bkOk2, memK]) (fun hl88 => ?_)
                  refine call_st (s4 := [(.arg 0, ⟨.fz, 4, cs0⟩), (.tmp 8 0, ⟨.box, 0, [.sc (.int .u64 t15.1), .sc (.int .u64 t15.2.1), .own 2 t15.2.2.1.length (encL c122 t15.2.2.1), .sc (.int .i64 t15.2.2.2.1), .sc (.int .u64 t15.2.2.2.2.1)]⟩), (.tmp 11 0, ⟨.box, 0, [.sc (.int .u64 t22.1), .sc (.int .u64 t22.2.1), .own 2 t71.2.length (encL c122 t71.2), .sc (.int .i64 t22.2.2.2.1), .sc (.int .u64 t22.2.2.2.2.1)]⟩), (.tmp 85 0, ⟨.lst, 4, encL c116 t12⟩)]) (m1' := []) (m2' := []) (v' := .c (.ref (.tmp 85 0) [] 0 t12.length)) (Sto.mapN_killNil _ _) (mrgL_fz (mrgL_nil' _ _ _) rfl (by first | rfl | simp only [reduceCtorEq, Nat.reduceEqDiff, ak, g18, g25]) rfl (by intro R hR hh; cases hR; cases hh.2)) (by rfl) (mapT_killNil _ _) (by rfl) (by rfl) (by first | rfl | simp only [reduceCtorEq, Nat.reduceEqDiff, ak, akF, Nat.zero_add, List.append_nil, g52, g74]) ?_
                  simp +decide only [Nat.reduceAdd, Nat.reduceMul, Int.reduceToNat, ak]
                  refine call_m [(.arg 0, ⟨(.tmp 85 0), [], none, .fz⟩)] (s0 := [(.arg 0, ⟨.fz, 4, encL c116 t12⟩)]) (by intro t ht; cases ht; decide) rfl rfl (by first | rfl | simp only [reduceCtorEq, Nat.reduceEqDiff, ak, akF, g18, g25]) (impl_ReorderState.tri (encL c116 t12) 0 t12 (Vw.whole c116_w t12) a0 a1 _ h23) (by first | rfl | simp only [reduceCtorEq, Nat.reduceEqDiff, ak, akF]) (by simp [bkOk2, memK]) (fun hl89 => ?_)
                  refine call_st (s4 := [(.arg 0, ⟨.fz, 4, cs0⟩), (.tmp 8 0, ⟨.box, 0, [.sc (.int .u64 t15.1), .sc (.int .u64 t15.2.1), .own 2 t15.2.2.1.length (encL c122 t15.2.2.1), .sc (.int .i64 t15.2.2.2.1), .sc (.int .u64 t15.2.2.2.2.1)]⟩), (.tmp 11 0, ⟨.box, 0, [.sc (.int .u64 t22.1), .sc (.int .u64 t22.2.1), .own 2 t71.2.length (encL c122 t71.2), .sc (.int .i64 t22.2.2.2.1), .sc (.int .u64 t22.2.2.2.2.1)]⟩), (.tmp 85 0, ⟨.lst, 4, encL c116 t12⟩), (.tmp 86 0, ⟨.lst, 2, encL c122 t22.2.2.1⟩)]) (m1' := []) (m2' := []) (v' := .tup [(true, [.sc (.int .u64 t22.1), .sc (.int .u64 t22.2.1), .ref (.tmp 86 0) [] 0 t22.2.2.1.length, .sc (.int .i64 t22.2.2.2.1), .sc (.int .u64 t22.2.2.2.2.1)]), (false, [.sc (.int .i64 t22.2.2.2.2.2)])]) (Sto.mapN_killNil _ _) (mrgL_fz (mrgL_nil' _ _ _) rfl (by first | rfl | simp only [reduceCtorEq, Nat.reduceEqDiff, ak, g18, g25]) rfl (by intro R hR hh; cases hR; cases hh.2)) (by rfl) (mapT_killNil _ _) (by rfl) (by rfl) (by first | rfl | simp only [reduceCtorEq, Nat.reduceEqDiff, ak, akF, Nat.zero_add, List.append_nil, g52, g74]) ?_
                  simp +decide only [Nat.reduceAdd, Nat.reduceMul, Int.reduceToNat, ak]
                  refine gho_k (Weak.own (.tmp 16 0) (cs' := [.sc (.int .u64 0), .sc (.int .u64 0), .own 2 (([] : List S122).length) (encL c122 ([] : List S122)), .sc (.int .i64 0), .sc (.int .u64 0)]) rfl ⟨.inl rfl, .inl rfl, .inr ⟨rfl, _, rfl⟩, .inl rfl, .inl rfl, trivial⟩) ?_
                  simp +decide only [Nat.reduceAdd, Nat.reduceMul, Int.reduceToNat, ak, g25]
                  refine hJ88 _ ?_
                  refine seq_k fun J91 hJ91 => ?_
                  obtain ⟨j92, h93, hn⟩ := of_bind h
                  refine seq_j (fun st => st = ⟨[(97, .c (.sc (.bool j92)))], [(.arg 0, ⟨.fz, 4, cs0⟩)], [], []⟩) (fun J94 hJ94 => ?_) ?_
                  · replace h := h93; clear hn
                    refine ga_k fun G95 G95n G95r G95x => ?_
                    refine reg_k ?_
                    simp +decide only [Nat.reduceAdd, Nat.reduceMul, Int.reduceToNat, ak]
                    obtain ⟨t96, h97, h⟩ := of_bind h
                    refine call_m [(.arg 0, ⟨(.tmp 16 0), [2], none, .fz⟩), (.arg 1, ⟨(.tmp 8 0), [2], none, .fz⟩)] (s0 := [(.arg 0, ⟨.fz, 2, encL c122 t22.2.2.1⟩), (.arg 1, ⟨.fz, 2, encL c122 t15.2.2.1⟩)]) (by intro t ht; cases ht; decide) rfl rfl (by first | rfl | simp only [reduceCtorEq, Nat.reduceEqDiff, ak, akF, g18, g25]) (laws_eqReorderView.tri (encL c122 t22.2.2.1) 0 t22.2.2.1 (Vw.whole c122_w t22.2.2.1) (encL c122 t15.2.2.1) 0 t15.2.2.1 (Vw.whole c122_w t15.2.2.1) t22.1 t22.2.1 t22.2.2.2.1 t22.2.2.2.2.1 t15.1 t15.2.1 t15.2.2.2.1 t15.2.2.2.2.1 _ h97) (by first | rfl | simp only [reduceCtorEq, Nat.reduceEqDiff, ak, akF]) (by simp [bkOk2, memK]) (fun hl97 => ?_)
                    refine call_st (s4 := [(.arg 0, ⟨.fz, 4, cs0⟩), (.tmp 8 0, ⟨.box, 0, [.sc (.int .u64 t15.1), .sc (.int .u64 t15.2.1), .own 2 t15.2.2.1.length (encL c122 t15.2.2.1), .sc (.int .i64 t15.2.2.2.1), .sc (.int .u64 t15.2.2.2.2.1)]⟩), (.tmp 11 0, ⟨.box, 0, [.sc (.int .u64 t22.1), .sc (.int .u64 t22.2.1), .own 2 t71.2.length (encL c122 t71.2), .sc (.int .i64 t22.2.2.2.1), .sc (.int .u64 t22.2.2.2.2.1)]⟩), (.tmp 85 0, ⟨.lst, 4, encL c116 t12⟩), (.tmp 16 0, ⟨.box, 0, [.sc (.int .u64 t22.1), .sc (.int .u64 t22.2.1), .own 2 t22.2.2.1.length (encL c122 t22.2.2.1), .sc (.int .i64 t22.2.2.2.1), .sc (.int .u64 t22.2.2.2.2.1)]⟩)]) (m1' := []) (m2' := []) (v' := .c (.sc (.bool t96))) (Sto.mapN_killNil _ _) (mrgL_fz (mrgL_fz (mrgL_nil' _ _ _) rfl (by first | rfl | simp only [reduceCtorEq, Nat.reduceEqDiff, ak, g18, g25]) rfl (by intro R hR hh; cases hh.1)) rfl (by first | rfl | simp only [reduceCtorEq, Nat.reduceEqDiff, ak, g18, g25]) rfl (by intro R hR hh; cases hh.1)) (by rfl) (mapT_killNil _ _) (by rfl) (by rfl) (by first | rfl | simp only [reduceCtorEq, Nat.reduceEqDiff, ak, akF, Nat.zero_add, List.append_nil, g52, g74]) ?_
                    simp +decide only [Nat.reduceAdd, Nat.reduceMul, Int.reduceToNat, ak]
                    by_cases c99 : (!t96) = true
                    · rw [if_pos c99] at h
                      have e100 : (!t96) = true := c99
                      simp +decide only [Nat.reduceAdd, Nat.reduceMul, Int.reduceToNat, ak, e100]
                      obtain rfl := Option.some.inj h
                      refine G95n _ _ (wk [97] [pI (.arg 0) .fz] (h0 := by first | rfl | simp +decide only [ak, akF, e100, g52, g74]) (h := by first | rfl | (simp +decide only [ak, akF, e100, g52, g74]; done) | (simp +decide [ak, akF, e100, g52, g74] <;> omega))) (hJ94 _ rfl)
                    · rw [if_neg c99] at h
                      have e101 : (!t96) = false := Bool.eq_false_iff.2 c99
                      simp +decide only [Nat.reduceAdd, Nat.reduceMul, Int.reduceToNat, ak, e101]
                      obtain rfl := Option.some.inj h
                      refine G95n _ _ (wk [97] [pI (.arg 0) .fz] (h0 := by first | rfl | simp +decide only [ak, akF, e101, g52, g74]) (h := by first | rfl | (simp +decide only [ak, akF, e101, g52, g74]; done) | (simp +decide [ak, akF, e101, g52, g74] <;> omega))) (hJ94 _ rfl)
                  · replace h := hn; clear hn h93
                    rintro _ rfl
                    refine cond_k (b := j92) rfl (fun c102 => ?_) (fun c102 => ?_)
                    · rw [if_pos c102] at h
                      refine sr_k fun J103 hJ103 => ?_
                      simp +decide only [Nat.reduceAdd, Nat.reduceMul, Int.reduceToNat, ak]
                      refine hJ103 _ ?_
                      obtain rfl := Option.some.inj h
                      refine hKr _ ⟨_, rfl, [], _, rfl, rfl, ?_⟩
                      first | rfl | (simp only [reduceCtorEq, Nat.reduceEqDiff, ak, akF, g52, g74]; done) | (simp [reduceCtorEq, Nat.reduceEqDiff, ak, akF, g52, g74] <;> omega)
                    · rw [if_neg (Bool.eq_false_iff.1 c102)] at h
                      refine hJ91 _ ?_
                      refine sr_k fun J104 hJ104 => ?_
                      simp +decide only [Nat.reduceAdd, Nat.reduceMul, Int.reduceToNat, ak]
                      refine hJ104 _ ?_
                      obtain rfl := Option.some.inj h
                      refine hKr _ ⟨_, rfl, [], _, rfl, rfl, ?_⟩
                      first | rfl | (simp only [reduceCtorEq, Nat.reduceEqDiff, ak, akF, g52, g74]; done) | (simp [reduceCtorEq, Nat.reduceEqDiff, ak, akF, g52, g74] <;> omega)
end Go.AK
