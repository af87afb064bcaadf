-- by a program of this session (wip/ak/pw.py)
import Derived.Test.YtakeenidhkhmiaaUFnPlan0
set_option synthInstance.maxSize 20000
set_option synthInstance.maxHeartbeats 400000
set_option maxRecDepth 100000
set_option maxHeartbeats 4000000
set_option linter.unusedVariables false
set_option linter.unusedSimpArgs false
namespace Go.AK
open Go Go.Proofs
open Nat (reduceAdd reduceMul)
open Int (reduceToNat)
/-! ### spec.l6MapsOK: function 72 -/
def C72_l0 : AC := .seq (.sr [.m 10 3, .m 11 0, .ln 12 11, .o (.bin 13 .lss (.t 10) (.t 12)), .keep [0, 3, 13]] (.cond (.t 13) (.skip) (.gh (.exit 0)))) (.seq (.block 1 (.sr [.m 16 0, .m 17 3, .ia 18 5 16 17, .o (.load 19 true 5 (.t 18)), .o (.alloc 4 [.int .u64 0, .int .i64 0, .int .i64 0, .int .i64 0, .int .i64 0]), .st 5 4 19, .keep [0, 3, 4]] (.seq (.seq (.ga (.reg [.fa 20 0 4, .ld 21 1 20, .o (.bin 22 .gtr (.t 21) (.const (.int .u64 4611686018427387904))), .m 23 22, .op (some (23, false)) (.faddr 24 3 (.t 4)), .op (some (23, false)) (.load 25 false 1 (.t 24)), .op (some (23, false)) (.bin 26 .lss (.t 25) (.k 1)), .o (.pick 27 (.t 23) (.const (.bool true)) (.t 26)), .m 28 27, .op (some (28, false)) (.faddr 29 3 (.t 4)), .op (some (28, false)) (.load 30 false 1 (.t 29)), .op (some (28, false)) (.bin 31 .gtr (.t 30) (.k 255)), .o (.pick 32 (.t 28) (.const (.bool true)) (.t 31)), .m 33 32, .op (some (33, false)) (.faddr 34 4 (.t 4)), .op (some (33, false)) (.load 35 false 1 (.t 34)), .op (some (33, false)) (.bin 36 .neq (.t 35) (.k 0)), .op (some (33, false)) (.mv 37 (.t 36)), .op (some (37, true)) (.faddr 38 4 (.t 4)), .op (some (37, true)) (.load 39 false 1 (.t 38)), .op (some (37, true)) (.bin 40 .neq (.t 39) (.k 1)), .op (some (33, false)) (.pick 41 (.t 37) (.t 40) (.const (.bool false))), .o (.pick 42 (.t 33) (.const (.bool true)) (.t 41)), .keep [0, 3, 4, 42]])) (.cond (.t 42) (.sr [.o (.mv 2 (.const (.bool false))), .keep [2]] (.gh .ret)) (.skip))) (.seq (.ga (.reg [.fa 43 2 4, .ld 44 1 43, .o (.bin 45 .eql (.t 44) (.k 0)), .m 46 45, .op (some (46, true)) (.faddr 47 1 (.t 4)), .op (some (46, true)) (.load 48 false 1 (.t 47)), .op (some (46, true)) (.bin 49 .geq (.t 48) (.k 1)), .o (.pick 50 (.t 46) (.t 49) (.const (.bool false))), .m 51 50, .op (some (51, true)) (.faddr 52 1 (.t 4)), .op (some (51, true)) (.load 53 false 1 (.t 52)), .op (some (51, true)) (.bin 54 .leq (.t 53) (.k 32)), .o (.pick 55 (.t 51) (.t 54) (.const (.bool false))), .m 5 55, .keep [0, 3, 4, 5]])) (.seq (.ga (.reg [.fa 56 2 4, .ld 57 1 56, .o (.bin 58 .eql (.t 57) (.k 1)), .m 59 58, .op (some (59, true)) (.faddr 60 1 (.t 4)), .op (some (59, true)) (.load 61 false 1 (.t 60)), .op (some (59, true)) (.bin 62 .eql (.t 61) (.k 0)), .o (.pick 63 (.t 59) (.t 62) (.const (.bool false))), .m 64 63, .op (some (64, true)) (.mv 65 (.t 3)), .op (some (64, true)) (.mv 66 (.t 0)), .op (some (64, true)) (.len 67 (.t 66)), .op (some (64, true)) (.bin 68 .sub (.t 67) (.k 1)), .op (some (64, true)) (.bin 69 .eql (.t 65) (.t 68)), .o (.pick 70 (.t 64) (.t 69) (.const (.bool false))), .m 6 70, .keep [0, 3, 4, 5, 6]])) (.seq (.ga (.regD (.f (.m 71 5) (.f (.o (.un 72 .not (.t 71))) (.f (.m 73 72) (.f (.op (some (73, true)) (.mv 74 (.t 6))) (.f (.op (some (73, true)) (.un 75 .not (.t 74))) (.f (.o (.pick 76 (.t 73) (.t 75) (.const (.bool false)))) (.f (.m 77 76) (.f (.op (some (77, false)) (.mv 78 (.t 3))) (.f (.op (some (77, false)) (.bin 79 .gtr (.t 78) (.k 0))) (.f (.op (some (77, false)) (.mv 80 (.t 79))) (.f (.op (some (80, true)) (.faddr 81 0 (.t 4))) (.f (.op (some (80, true)) (.load 82 false 1 (.t 81))) (.f (.op (some (80, true)) (.mv 83 (.t 0))) (.f (.op (some (80, true)) (.mv 84 (.t 3))) (.f (.op (some (80, true)) (.bin 85 .sub (.t 84) (.k 1))) (.f (.op (some (80, true)) (.iaddr 86 5 (.t 83) (.t 85))) (.f (.op (some (80, true)) (.faddr 87 0 (.t 86))) (.f (.op (some (80, true)) (.load 88 false 1 (.t 87))) (.f (.op (some (80, true)) (.mv 89 (.t 0))) (.f (.op (some (80, true)) (.mv 90 (.t 3))) (.f (.op (some (80, true)) (.bin 91 .sub (.t 90) (.k 1))) (.f (.op (some (80, true)) (.iaddr 92 5 (.t 89) (.t 91))) (.f (.op (some (80, true)) (.faddr 93 1 (.t 92))) (.f (.op (some (80, true)) (.load 94 false 1 (.t 93))) (.f (.op (some (80, true)) (.conv 95 .u64 (.t 94))) (.f (.op (some (80, true)) (.bin 96 .add (.t 88) (.t 95))) (.f (.op (some (80, true)) (.bin 97 .lss (.t 82) (.t 96))) (.f (.op (some (77, false)) (.pick 98 (.t 80) (.t 97) (.const (.bool false)))) (.f (.o (.pick 99 (.t 77) (.const (.bool true)) (.t 98))) (.done)))))))))))))))))))))))))))))) [0, 3, 99])) (.cond (.t 99) (.sr [.o (.mv 2 (.const (.bool false))), .keep [2]] (.gh .ret)) (.skip)))))))) (.reg [.m 14 3, .o (.bin 15 .add (.t 14) (.k 1)), .m 3 15, .keep [0, 3]]))
def C72 : AC := .sr [.o (.mv 2 (.const (.bool false))), .keep [0]] (.seq (.sr [.m 7 0, .ln 8 7, .o (.bin 9 .gtr (.t 8) (.k 256)), .keep [0, 9]] (.cond (.t 9) (.sr [.o (.mv 2 (.const (.bool false))), .keep [2]] (.ret)) (.skip))) (.seq (.sr [.o (.mv 3 (.k 0)), .keep [0, 3]] (.block 0 (.gh (.loop (.ga C72_l0))))) (.sr [.o (.mv 2 (.const (.bool true))), .keep [2]] (.ret))))
def r72 : List RV := [.tmp 2]
theorem k72 : compC Try.prog 100 C72 (Try.f72.body.getD .skip) = some C72.erase := by kernel_rfl
theorem q72 : rvsOf Try.prog Try.f72.results.toList = some r72 := by kernel_rfl
def spec_l6MapsOK.l0 (l0 : List S84) (x0_0 : Int) : Option (Lp Unit Bool) := (if x0_0 < (l0.length : Int) then (if 0 ≤ x0_0 ∧ x0_0 < (l0.length : Int) then ((if (rd z84 l0 x0_0).f0 > 4611686018427387904 then (some true) else (if (rd z84 l0 x0_0).f3 < 1 then (some true) else (if (rd z84 l0 x0_0).f3 > 255 then (some true) else (if (rd z84 l0 x0_0).f4 ≠ 0 then (some (decide ((rd z84 l0 x0_0).f4 ≠ 1))) else (some false))))) >>= fun (j18 : Bool) => (if j18 = true then (some (.b false)) else ((if (rd z84 l0 x0_0).f2 = 0 then (if (rd z84 l0 x0_0).f1 ≥ 1 then (some (decide ((rd z84 l0 x0_0).f1 ≤ 32))) else (some false)) else (some false)) >>= fun (j36 : Bool) => ((if (rd z84 l0 x0_0).f2 = 1 then (if (rd z84 l0 x0_0).f1 = 0 then (some (decide (x0_0 = IntKind.i64.wrap ((l0.length : Int) - 1)))) else (some false)) else (some false)) >>= fun (j46 : Bool) => ((if (!j36) = true then (if (!j46) = true then (some true) else (if x0_0 > 0 then (if 0 ≤ IntKind.i64.wrap (x0_0 - 1) ∧ IntKind.i64.wrap (x0_0 - 1) < (l0.length : Int) then (some (decide ((rd z84 l0 x0_0).f0 < IntKind.u64.wrap (((rd z84 l0 (IntKind.i64.wrap (x0_0 - 1))).f0) + (IntKind.u64.wrap ((rd z84 l0 (IntKind.i64.wrap (x0_0 - 1))).f1)))))) else none) else (some false))) else (if x0_0 > 0 then (if 0 ≤ IntKind.i64.wrap (x0_0 - 1) ∧ IntKind.i64.wrap (x0_0 - 1) < (l0.length : Int) then (some (decide ((rd z84 l0 x0_0).f0 < IntKind.u64.wrap (((rd z84 l0 (IntKind.i64.wrap (x0_0 - 1))).f0) + (IntKind.u64.wrap ((rd z84 l0 (IntKind.i64.wrap (x0_0 - 1))).f1)))))) else none) else (some false))) >>= fun (j56 : Bool) => (if j56 = true then (some (.b false)) else (spec_l6MapsOK.l0 l0 (IntKind.i64.wrap (x0_0 + 1))))))))) else none) else (some (.a ())))
 partial_fixpoint
def spec_l6MapsOK.f (l0 : List S84) : Option Bool := (if (l0.length : Int) > 256 then (some false) else (spec_l6MapsOK.l0 l0 0 >>= fun (y84 : Lp Unit Bool) => match y84 with | .a x86 => (some true) | .b x86 => (some x86)))
def spec_l6MapsOK.l0_M (cs0 : List Cell) (o0 : Nat) (l0 : List S84) (hv0 : Vw c84 5 cs0 o0 l0) (x0_0 : Int) (y : Lp Unit Bool) : Prop := ∀ (K : AE → St → Prop), (∀ x, y = .a x → K (.exit 0) ⟨[], [(.arg 0, ⟨.fz, 5, cs0⟩)], [], []⟩) → (∀ x, y = .b x → K .ret ⟨[(2, .c (.sc (.bool x)))], [(.arg 0, ⟨.fz, 5, cs0⟩)], [], []⟩) → loopS Try.prog 100 (.ga C72_l0) K ⟨[(0, .c (.ref (.arg 0) [] o0 l0.length)), (3, .c (.sc (.int .i64 x0_0)))], [(.arg 0, ⟨.fz, 5, cs0⟩)], [], []⟩
theorem spec_l6MapsOK.l0_walk (cs0 : List Cell) (o0 : Nat) (l0 : List S84) (hv0 : Vw c84 5 cs0 o0 l0) (x0_0 : Int) (y : Lp Unit Bool) (h : spec_l6MapsOK.l0 l0 x0_0 = some y) : spec_l6MapsOK.l0_M cs0 o0 l0 hv0 x0_0 y := by
 refine spec_l6MapsOK.l0.partial_correctness l0 (motive := fun x0_0 y => spec_l6MapsOK.l0_M cs0 o0 l0 hv0 x0_0 y) ?_ x0_0 y h
 clear h
 unfold spec_l6MapsOK.l0_M
 intro rec ih x0_0 y h K hx0 hx1
 refine loop_unroll (ga_k fun G0 G0n G0r G0x => ?_)
 unfold C72_l0
 refine seq_k fun J9 hJ9 => ?_
 refine sr_k fun J10 hJ10 => ?_
 simp +decide only [reduceAdd, reduceMul, reduceToNat, ak]
 refine hJ10 _ ?_
 refine cond_k (b := decide (x0_0 < (l0.length : Int))) rfl (fun c11 => ?_) (fun c11 => ?_)
 ·replace c11 := of_decide_eq_true c11; rw [if_pos c11] at h
  refine hJ9 _ ?_
  refine seq_k fun J12 hJ12 => ?_
  refine block_k fun B13 B13n B13x B13r B13j => ?_
  refine sr_k fun J14 hJ14 => ?_
  obtain ⟨b15, h⟩ := of_guard h
  have g16 : (List.drop (o0 + x0_0.toNat * 5) (cs0)).take 5 = [.sc (.int .u64 ((rd z84 l0 x0_0).f0)), .sc (.int .i64 ((rd z84 l0 x0_0).f1)), .sc (.int .i64 ((rd z84 l0 x0_0).f2)), .sc (.int .i64 ((rd z84 l0 x0_0).f3)), .sc (.int .i64 ((rd z84 l0 x0_0).f4))] := hv0.stretch z84 b15.1 b15.2
  simp +decide only [reduceAdd, reduceMul, reduceToNat, ak, b15, g16]
  refine hJ14 _ ?_
  refine seq_k fun J17 hJ17 => ?_
  obtain ⟨j18, h19, hn⟩ := of_bind h
  refine seq_j (fun st => st = ⟨[(0, .c (.ref (.arg 0) [] o0 l0.length)), (3, .c (.sc (.int .i64 x0_0))), (4, .c (.ptr (.tmp 4 0) [] 0)), (42, .c (.sc (.bool j18)))], [(.arg 0, ⟨.fz, 5, cs0⟩), (.tmp 4 0, ⟨.box, 0, [.sc (.int .u64 ((rd z84 l0 x0_0).f0)), .sc (.int .i64 ((rd z84 l0 x0_0).f1)), .sc (.int .i64 ((rd z84 l0 x0_0).f2)), .sc (.int .i64 ((rd z84 l0 x0_0).f3)), .sc (.int .i64 ((rd z84 l0 x0_0).f4))]⟩)], [], []⟩) (fun J20 hJ20 => ?_) ?_
  ·replace h := h19; clear hn
   refine ga_k fun G21 G21n G21r G21x => ?_
   refine reg_k ?_
   simp +decide only [reduceAdd, reduceMul, reduceToNat, ak]
   by_cases c22 : (rd z84 l0 x0_0).f0 > 4611686018427387904
   ·rw [if_pos c22] at h
    have e23 : decide ((rd z84 l0 x0_0).f0 > 4611686018427387904) = true := decide_eq_true c22
    simp +decide only [reduceAdd, reduceMul, reduceToNat, ak, e23]
    obtain rfl := Option.some.inj h
    refine G21n _ _ (wj [0, 3, 4, 42] [pI (.arg 0) .fz, pI (.tmp 4 0) .box]) (hJ20 _ rfl)
   ·rw [if_neg c22] at h
    have e24 : decide ((rd z84 l0 x0_0).f0 > 4611686018427387904) = false := decide_eq_false c22
    simp +decide only [reduceAdd, reduceMul, reduceToNat, ak, e24]
    by_cases c25 : (rd z84 l0 x0_0).f3 < 1
    ·rw [if_pos c25] at h
     have e26 : decide ((rd z84 l0 x0_0).f3 < 1) = true := decide_eq_true c25
     simp +decide only [reduceAdd, reduceMul, reduceToNat, ak, e26]
     obtain rfl := Option.some.inj h
     refine G21n _ _ (wj [0, 3, 4, 42] [pI (.arg 0) .fz, pI (.tmp 4 0) .box]) (hJ20 _ rfl)
    ·rw [if_neg c25] at h
     have e27 : decide ((rd z84 l0 x0_0).f3 < 1) = false := decide_eq_false c25
     simp +decide only [reduceAdd, reduceMul, reduceToNat, ak, e27]
     by_cases c28 : (rd z84 l0 x0_0).f3 > 255
     ·rw [if_pos c28] at h
      have e29 : decide ((rd z84 l0 x0_0).f3 > 255) = true := decide_eq_true c28
      simp +decide only [reduceAdd, reduceMul, reduceToNat, ak, e29]
      obtain rfl := Option.some.inj h
      refine G21n _ _ (wj [0, 3, 4, 42] [pI (.arg 0) .fz, pI (.tmp 4 0) .box]) (hJ20 _ rfl)
     ·rw [if_neg c28] at h
      have e30 : decide ((rd z84 l0 x0_0).f3 > 255) = false := decide_eq_false c28
      simp +decide only [reduceAdd, reduceMul, reduceToNat, ak, e30]
      by_cases c31 : (rd z84 l0 x0_0).f4 ≠ 0
      ·rw [if_pos c31] at h
       have e32 : decide ((rd z84 l0 x0_0).f4 ≠ 0) = true := decide_eq_true c31
       simp +decide only [reduceAdd, reduceMul, reduceToNat, ak, e32]
       obtain rfl := Option.some.inj h
       refine G21n _ _ (wj [0, 3, 4, 42] [pI (.arg 0) .fz, pI (.tmp 4 0) .box]) (hJ20 _ rfl)
      ·rw [if_neg c31] at h
       have e33 : decide ((rd z84 l0 x0_0).f4 ≠ 0) = false := decide_eq_false c31
       simp +decide only [reduceAdd, reduceMul, reduceToNat, ak, e33]
       obtain rfl := Option.some.inj h
       refine G21n _ _ (wj [0, 3, 4, 42] [pI (.arg 0) .fz, pI (.tmp 4 0) .box]) (hJ20 _ rfl)
  ·replace h := hn; clear hn h19
   rintro _ rfl
   refine cond_k (b := j18) rfl (fun c34 => ?_) (fun c34 => ?_)
   ·rw [if_pos c34] at h
    refine sr_k fun J35 hJ35 => ?_
    simp +decide only [reduceAdd, reduceMul, reduceToNat, ak]
    refine hJ35 _ ?_
    obtain rfl := Option.some.inj h
    refine gh_k (wk [2] [pI (.arg 0) .fz]) ?_
    refine B13r _ ?_
    refine G0r _ ?_
    exact hx1 _ rfl
   ·rw [if_neg (Bool.eq_false_iff.1 c34)] at h
    refine hJ17 _ ?_
    obtain ⟨j36, h37, hn⟩ := of_bind h
    refine seq_j (fun st => st = ⟨[(0, .c (.ref (.arg 0) [] o0 l0.length)), (3, .c (.sc (.int .i64 x0_0))), (4, .c (.ptr (.tmp 4 0) [] 0)), (5, .c (.sc (.bool j36)))], [(.arg 0, ⟨.fz, 5, cs0⟩), (.tmp 4 0, ⟨.box, 0, [.sc (.int .u64 ((rd z84 l0 x0_0).f0)), .sc (.int .i64 ((rd z84 l0 x0_0).f1)), .sc (.int .i64 ((rd z84 l0 x0_0).f2)), .sc (.int .i64 ((rd z84 l0 x0_0).f3)), .sc (.int .i64 ((rd z84 l0 x0_0).f4))]⟩)], [], []⟩) (fun J38 hJ38 => ?_) ?_
    ·replace h := h37; clear hn
     refine ga_k fun G39 G39n G39r G39x => ?_
     refine reg_k ?_
     simp +decide only [reduceAdd, reduceMul, reduceToNat, ak]
     by_cases c40 : (rd z84 l0 x0_0).f2 = 0
     ·rw [if_pos c40] at h
      have e41 : decide ((rd z84 l0 x0_0).f2 = 0) = true := decide_eq_true c40
      simp +decide only [reduceAdd, reduceMul, reduceToNat, ak, e41]
      by_cases c42 : (rd z84 l0 x0_0).f1 ≥ 1
      ·rw [if_pos c42] at h
       have e43 : decide ((rd z84 l0 x0_0).f1 ≥ 1) = true := decide_eq_true c42
       simp +decide only [reduceAdd, reduceMul, reduceToNat, ak, e43]
       obtain rfl := Option.some.inj h
       refine G39n _ _ (wj [0, 3, 4, 5] [pI (.arg 0) .fz, pI (.tmp 4 0) .box]) (hJ38 _ rfl)
      ·rw [if_neg c42] at h
       have e44 : decide ((rd z84 l0 x0_0).f1 ≥ 1) = false := decide_eq_false c42
       simp +decide only [reduceAdd, reduceMul, reduceToNat, ak, e44]
       obtain rfl := Option.some.inj h
       refine G39n _ _ (wj [0, 3, 4, 5] [pI (.arg 0) .fz, pI (.tmp 4 0) .box]) (hJ38 _ rfl)
     ·rw [if_neg c40] at h
      have e45 : decide ((rd z84 l0 x0_0).f2 = 0) = false := decide_eq_false c40
      simp +decide only [reduceAdd, reduceMul, reduceToNat, ak, e45]
      obtain rfl := Option.some.inj h
      refine G39n _ _ (wj [0, 3, 4, 5] [pI (.arg 0) .fz, pI (.tmp 4 0) .box]) (hJ38 _ rfl)
    ·replace h := hn; clear hn h37
     rintro _ rfl
     obtain ⟨j46, h47, hn⟩ := of_bind h
     refine seq_j (fun st => st = ⟨[(0, .c (.ref (.arg 0) [] o0 l0.length)), (3, .c (.sc (.int .i64 x0_0))), (4, .c (.ptr (.tmp 4 0) [] 0)), (5, .c (.sc (.bool j36))), (6, .c (.sc (.bool j46)))], [(.arg 0, ⟨.fz, 5, cs0⟩), (.tmp 4 0, ⟨.box, 0, [.sc (.int .u64 ((rd z84 l0 x0_0).f0)), .sc (.int .i64 ((rd z84 l0 x0_0).f1)), .sc (.int .i64 ((rd z84 l0 x0_0).f2)), .sc (.int .i64 ((rd z84 l0 x0_0).f3)), .sc (.int .i64 ((rd z84 l0 x0_0).f4))]⟩)], [], []⟩) (fun J48 hJ48 => ?_) ?_
     ·replace h := h47; clear hn
      refine ga_k fun G49 G49n G49r G49x => ?_
      refine reg_k ?_
      simp +decide only [reduceAdd, reduceMul, reduceToNat, ak]
      by_cases c50 : (rd z84 l0 x0_0).f2 = 1
      ·rw [if_pos c50] at h
       have e51 : decide ((rd z84 l0 x0_0).f2 = 1) = true := decide_eq_true c50
       simp +decide only [reduceAdd, reduceMul, reduceToNat, ak, e51]
       by_cases c52 : (rd z84 l0 x0_0).f1 = 0
       ·rw [if_pos c52] at h
        have e53 : decide ((rd z84 l0 x0_0).f1 = 0) = true := decide_eq_true c52
        simp +decide only [reduceAdd, reduceMul, reduceToNat, ak, e53]
        obtain rfl := Option.some.inj h
        refine G49n _ _ (wj [0, 3, 4, 5, 6] [pI (.arg 0) .fz, pI (.tmp 4 0) .box]) (hJ48 _ rfl)
       ·rw [if_neg c52] at h
        have e54 : decide ((rd z84 l0 x0_0).f1 = 0) = false := decide_eq_false c52
        simp +decide only [reduceAdd, reduceMul, reduceToNat, ak, e54]
        obtain rfl := Option.some.inj h
        refine G49n _ _ (wj [0, 3, 4, 5, 6] [pI (.arg 0) .fz, pI (.tmp 4 0) .box]) (hJ48 _ rfl)
      ·rw [if_neg c50] at h
       have e55 : decide ((rd z84 l0 x0_0).f2 = 1) = false := decide_eq_false c50
       simp +decide only [reduceAdd, reduceMul, reduceToNat, ak, e55]
       obtain rfl := Option.some.inj h
       refine G49n _ _ (wj [0, 3, 4, 5, 6] [pI (.arg 0) .fz, pI (.tmp 4 0) .box]) (hJ48 _ rfl)
     ·replace h := hn; clear hn h47
      rintro _ rfl
      obtain ⟨j56, h57, hn⟩ := of_bind h
      refine seq_j (fun st => st = ⟨[(0, .c (.ref (.arg 0) [] o0 l0.length)), (3, .c (.sc (.int .i64 x0_0))), (99, .c (.sc (.bool j56)))], [(.arg 0, ⟨.fz, 5, cs0⟩)], [], []⟩) (fun J58 hJ58 => ?_) ?_
      ·replace h := h57; clear hn
       refine ga_k fun G59 G59n G59r G59x => ?_
       refine regD_k ?_
       simp +decide only [reduceAdd, reduceMul, reduceToNat, ak]
       by_cases c60 : (!j36) = true
       ·rw [if_pos c60] at h
        have e61 : (!j36) = true := c60
        simp +decide only [reduceAdd, reduceMul, reduceToNat, ak, e61]
        by_cases c62 : (!j46) = true
        ·rw [if_pos c62] at h
         have e63 : (!j46) = true := c62
         simp +decide only [reduceAdd, reduceMul, reduceToNat, ak, e63]
         obtain rfl := Option.some.inj h
         refine G59n _ _ (wj [0, 3, 99] [pI (.arg 0) .fz]) (hJ58 _ rfl)
        ·rw [if_neg c62] at h
         have e64 : (!j46) = false := Bool.eq_false_iff.2 c62
         simp +decide only [reduceAdd, reduceMul, reduceToNat, ak, e64]
         by_cases c65 : x0_0 > 0
         ·rw [if_pos c65] at h
          have e66 : decide (x0_0 > 0) = true := decide_eq_true c65
          obtain ⟨b67, h⟩ := of_guard h
          have g68 : o0 + (IntKind.i64.wrap (x0_0 - 1)).toNat * 5 + 0 ≤ (cs0).length := (hv0.len_le b67.1 b67.2 (by decide))
          have g69 : (cs0)[o0 + (IntKind.i64.wrap (x0_0 - 1)).toNat * 5 + 0]? = some (.sc (.int .u64 ((rd z84 l0 (IntKind.i64.wrap (x0_0 - 1))).f0))) := hv0.get z84 0 b67.1 b67.2 (by decide)
          have g70 : o0 + (IntKind.i64.wrap (x0_0 - 1)).toNat * 5 + 1 ≤ (cs0).length := (hv0.len_le b67.1 b67.2 (by decide))
          have g71 : (cs0)[o0 + (IntKind.i64.wrap (x0_0 - 1)).toNat * 5 + 1]? = some (.sc (.int .i64 ((rd z84 l0 (IntKind.i64.wrap (x0_0 - 1))).f1))) := hv0.get z84 1 b67.1 b67.2 (by decide)
          simp +decide only [reduceAdd, reduceMul, reduceToNat, ak, e66, b67, g68, g69, g70, g71]
          obtain rfl := Option.some.inj h
          refine G59n _ _ (wj [0, 3, 99] [pI (.arg 0) .fz]) (hJ58 _ rfl)
         ·rw [if_neg c65] at h
          have e72 : decide (x0_0 > 0) = false := decide_eq_false c65
          simp +decide only [reduceAdd, reduceMul, reduceToNat, ak, e72]
          obtain rfl := Option.some.inj h
          refine G59n _ _ (wj [0, 3, 99] [pI (.arg 0) .fz]) (hJ58 _ rfl)
       ·rw [if_neg c60] at h
        have e73 : (!j36) = false := Bool.eq_false_iff.2 c60
        simp +decide only [reduceAdd, reduceMul, reduceToNat, ak, e73]
        by_cases c74 : x0_0 > 0
        ·rw [if_pos c74] at h
         have e75 : decide (x0_0 > 0) = true := decide_eq_true c74
         obtain ⟨b76, h⟩ := of_guard h
         have g77 : o0 + (IntKind.i64.wrap (x0_0 - 1)).toNat * 5 + 0 ≤ (cs0).length := (hv0.len_le b76.1 b76.2 (by decide))
         have g78 : (cs0)[o0 + (IntKind.i64.wrap (x0_0 - 1)).toNat * 5 + 0]? = some (.sc (.int .u64 ((rd z84 l0 (IntKind.i64.wrap (x0_0 - 1))).f0))) := hv0.get z84 0 b76.1 b76.2 (by decide)
         have g79 : o0 + (IntKind.i64.wrap (x0_0 - 1)).toNat * 5 + 1 ≤ (cs0).length := (hv0.len_le b76.1 b76.2 (by decide))
         have g80 : (cs0)[o0 + (IntKind.i64.wrap (x0_0 - 1)).toNat * 5 + 1]? = some (.sc (.int .i64 ((rd z84 l0 (IntKind.i64.wrap (x0_0 - 1))).f1))) := hv0.get z84 1 b76.1 b76.2 (by decide)
         simp +decide only [reduceAdd, reduceMul, reduceToNat, ak, e75, b76, g77, g78, g79, g80]
         obtain rfl := Option.some.inj h
         refine G59n _ _ (wj [0, 3, 99] [pI (.arg 0) .fz]) (hJ58 _ rfl)
        ·rw [if_neg c74] at h
         have e81 : decide (x0_0 > 0) = false := decide_eq_false c74
         simp +decide only [reduceAdd, reduceMul, reduceToNat, ak, e81]
         obtain rfl := Option.some.inj h
         refine G59n _ _ (wj [0, 3, 99] [pI (.arg 0) .fz]) (hJ58 _ rfl)
      ·replace h := hn; clear hn h57
       rintro _ rfl
       refine cond_k (b := j56) rfl (fun c82 => ?_) (fun c82 => ?_)
       ·rw [if_pos c82] at h
        refine sr_k fun J83 hJ83 => ?_
        simp +decide only [reduceAdd, reduceMul, reduceToNat, ak]
        refine hJ83 _ ?_
        obtain rfl := Option.some.inj h
        refine gh_k (wk [2] [pI (.arg 0) .fz]) ?_
        refine B13r _ ?_
        refine G0r _ ?_
        exact hx1 _ rfl
       ·rw [if_neg (Bool.eq_false_iff.1 c82)] at h
        refine B13n _ ?_
        refine hJ12 _ ?_
        refine reg_k ?_
        simp +decide only [reduceAdd, reduceMul, reduceToNat, ak]
        refine G0n _ _ (wk [0, 3] [pI (.arg 0) .fz]) (ih _ _ h K hx0 hx1)
 ·replace c11 := of_decide_eq_false c11; rw [if_neg c11] at h
  obtain rfl := Option.some.inj h
  refine gh_k (wk [] [pI (.arg 0) .fz]) ?_
  refine G0x _ _ ?_
  exact hx0 _ rfl
theorem spec_l6MapsOK.tri (cs0 : List Cell) (o0 : Nat) (l0 : List S84) (hv0 : Vw c84 5 cs0 o0 l0) (r : Bool) (h : spec_l6MapsOK.f l0 = some r) : Tri Try.prog 72 [.c (.ref (.arg 0) [] o0 l0.length)] [(.arg 0, ⟨.fz, 5, cs0⟩)] (fun o => o = ⟨.c (.sc (.bool r)), [(.arg 0, ⟨.fz, 5, cs0⟩)], [], []⟩) := by
 refine tri_of_body (ac := C72) (xs := r72) Try.func72 (show Try.f72.body = some (Try.f72.body.getD .skip) from rfl) k72 q72 (Nat.le_of_ble_eq_true rfl) ?_
 refine body_of fun K hKn hKr => ?_
 unfold spec_l6MapsOK.f at h
 unfold C72
 simp only [initT, Nat.reduceAdd]
 refine sr_k fun J1 hJ1 => ?_
 simp +decide only [reduceAdd, reduceMul, reduceToNat, ak]
 refine hJ1 _ ?_
 refine seq_k fun J2 hJ2 => ?_
 refine sr_k fun J3 hJ3 => ?_
 simp +decide only [reduceAdd, reduceMul, reduceToNat, ak]
 refine hJ3 _ ?_
 refine cond_k (b := decide ((l0.length : Int) > 256)) rfl (fun c4 => ?_) (fun c4 => ?_)
 ·replace c4 := of_decide_eq_true c4; rw [if_pos c4] at h
  refine sr_k fun J5 hJ5 => ?_
  simp +decide only [reduceAdd, reduceMul, reduceToNat, ak]
  refine hJ5 _ ?_
  obtain rfl := Option.some.inj h
  refine hKr _ ⟨_, rfl, [], _, rfl, rfl, ?_⟩
  exact cl
 ·replace c4 := of_decide_eq_false c4; rw [if_neg c4] at h
  refine hJ2 _ ?_
  refine seq_k fun J6 hJ6 => ?_
  refine sr_k fun J7 hJ7 => ?_
  simp +decide only [reduceAdd, reduceMul, reduceToNat, ak]
  refine hJ7 _ ?_
  refine block_k fun B8 B8n B8x B8r B8j => ?_
  obtain ⟨y84, h85, h⟩ := of_bind h
  refine gh_k (wk [0, 3] [pI (.arg 0) .fz]) ?_
  rw [e_loop]
  refine spec_l6MapsOK.l0_walk cs0 o0 l0 hv0 0 _ h85 _ ?_ ?_
  ·rintro x86 rfl
   dsimp only at h
   refine B8x _ ?_
   refine hJ6 _ ?_
   refine sr_k fun J87 hJ87 => ?_
   simp +decide only [reduceAdd, reduceMul, reduceToNat, ak]
   refine hJ87 _ ?_
   obtain rfl := Option.some.inj h
   refine hKr _ ⟨_, rfl, [], _, rfl, rfl, ?_⟩
   exact cl
  ·rintro x86 rfl
   dsimp only at h
   refine B8r _ ?_
   obtain rfl := Option.some.inj h
   refine hKr _ ⟨_, rfl, [], _, rfl, rfl, ?_⟩
   exact cl
/-! ### spec.l6InputCode: function 86 -/
def C86 : AC := .sr [.o (.box 1 (.t 0)), .o (.mv 2 (.k 0)), .keep [1]] (.seq (.seq (.ga (.reg [.fa 3 0 1, .ld 4 1 3, .o (.bin 5 .lss (.t 4) (.k 1)), .m 6 5, .op (some (6, false)) (.faddr 7 0 (.t 1)), .op (some (6, false)) (.load 8 false 1 (.t 7)), .op (some (6, false)) (.bin 9 .gtr (.t 8) (.k 4)), .o (.pick 10 (.t 6) (.const (.bool true)) (.t 9)), .keep [1, 10]])) (.cond (.t 10) (.sr [.o (.mv 2 (.k 17)), .keep [2]] (.ret)) (.skip))) (.seq (.sr [.fa 11 3 1, .ld 12 1 11, .call none (some 13) 78 [.tmp 12], .o (.un 14 .not (.t 13)), .keep [1, 14]] (.cond (.t 14) (.sr [.o (.mv 2 (.k 6)), .keep [2]] (.ret)) (.skip))) (.seq (.seq (.ga (.reg [.fa 15 1 1, .ld 16 1 15, .o (.bin 17 .lss (.t 16) (.k 0)), .m 18 17, .op (some (18, false)) (.faddr 19 1 (.t 1)), .op (some (18, false)) (.load 20 false 1 (.t 19)), .op (some (18, false)) (.faddr 21 3 (.t 1)), .op (some (18, false)) (.load 22 false 1 (.t 21)), .op (some (18, false)) (.len 23 (.t 22)), .op (some (18, false)) (.bin 24 .geq (.t 20) (.t 23)), .o (.pick 25 (.t 18) (.const (.bool true)) (.t 24)), .m 26 25, .op (some (26, false)) (.faddr 27 5 (.t 1)), .op (some (26, false)) (.load 28 false 1 (.t 27)), .op (some (26, false)) (.bin 29 .lss (.t 28) (.k 1)), .o (.pick 30 (.t 26) (.const (.bool true)) (.t 29)), .m 31 30, .op (some (31, false)) (.faddr 32 5 (.t 1)), .op (some (31, false)) (.load 33 false 1 (.t 32)), .op (some (31, false)) (.bin 34 .gtr (.t 33) (.k 256)), .o (.pick 35 (.t 31) (.const (.bool true)) (.t 34)), .m 36 35, .op (some (36, false)) (.faddr 37 11 (.t 1)), .op (some (36, false)) (.load 38 false 1 (.t 37)), .op (some (36, false)) (.bin 39 .lss (.t 38) (.k 1)), .o (.pick 40 (.t 36) (.const (.bool true)) (.t 39)), .m 41 40, .op (some (41, false)) (.faddr 42 11 (.t 1)), .op (some (41, false)) (.load 43 false 1 (.t 42)), .op (some (41, false)) (.bin 44 .gtr (.t 43) (.k 32)), .o (.pick 45 (.t 41) (.const (.bool true)) (.t 44)), .m 46 45, .op (some (46, false)) (.faddr 47 2 (.t 1)), .op (some (46, false)) (.load 48 false 1 (.t 47)), .op (some (46, false)) (.len 49 (.t 48)), .op (some (46, false)) (.bin 50 .gtr (.t 49) (.k 1000)), .o (.pick 51 (.t 46) (.const (.bool true)) (.t 50)), .keep [1, 51]])) (.cond (.t 51) (.sr [.o (.mv 2 (.k 4)), .keep [2]] (.ret)) (.skip))) (.seq (.seq (.ga (.reg [.fa 52 6 1, .ld 53 1 52, .o (.bin 54 .gtr (.t 53) (.const (.int .u64 4611686018427387904))), .m 55 54, .op (some (55, false)) (.faddr 56 7 (.t 1)), .op (some (55, false)) (.load 57 false 1 (.t 56)), .op (some (55, false)) (.bin 58 .gtr (.t 57) (.const (.int .u64 4611686018427387904))), .o (.pick 59 (.t 55) (.const (.bool true)) (.t 58)), .m 60 59, .op (some (60, false)) (.faddr 61 8 (.t 1)), .op (some (60, false)) (.load 62 false 1 (.t 61)), .op (some (60, false)) (.bin 63 .gtr (.t 62) (.const (.int .u64 4611686018427387904))), .o (.pick 64 (.t 60) (.const (.bool true)) (.t 63)), .m 65 64, .op (some (65, false)) (.faddr 66 6 (.t 1)), .op (some (65, false)) (.load 67 false 1 (.t 66)), .op (some (65, false)) (.faddr 68 7 (.t 1)), .op (some (65, false)) (.load 69 false 1 (.t 68)), .op (some (65, false)) (.bin 70 .gtr (.t 67) (.t 69)), .o (.pick 71 (.t 65) (.const (.bool true)) (.t 70)), .m 72 71, .op (some (72, false)) (.faddr 73 9 (.t 1)), .op (some (72, false)) (.load 74 false 1 (.t 73)), .call (some (72, false)) (some 75) 117 [.tmp 74], .op (some (72, false)) (.un 76 .not (.t 75)), .o (.pick 77 (.t 72) (.const (.bool true)) (.t 76)), .m 78 77, .op (some (78, false)) (.faddr 79 10 (.t 1)), .op (some (78, false)) (.load 80 false 1 (.t 79)), .call (some (78, false)) (some 81) 117 [.tmp 80], .op (some (78, false)) (.un 82 .not (.t 81)), .o (.pick 83 (.t 78) (.const (.bool true)) (.t 82)), .keep [1, 83]])) (.cond (.t 83) (.sr [.o (.mv 2 (.k 4)), .keep [2]] (.ret)) (.skip))) (.seq (.seq (.ga (.reg [.fa 84 4 1, .ld 85 1 84, .call none (some 86) 72 [.tmp 85], .o (.un 87 .not (.t 86)), .m 88 87, .op (some (88, false)) (.faddr 89 4 (.t 1)), .op (some (88, false)) (.load 90 false 1 (.t 89)), .op (some (88, false)) (.len 91 (.t 90)), .op (some (88, false)) (.faddr 92 5 (.t 1)), .op (some (88, false)) (.load 93 false 1 (.t 92)), .op (some (88, false)) (.bin 94 .gtr (.t 91) (.t 93)), .o (.pick 95 (.t 88) (.const (.bool true)) (.t 94)), .keep [95]])) (.cond (.t 95) (.sr [.o (.mv 2 (.k 1)), .keep [2]] (.ret)) (.skip))) (.sr [.o (.mv 2 (.k 0)), .keep [2]] (.ret)))))))
def r86 : List RV := [.tmp 2]
theorem k86 : compC Try.prog 96 C86 (Try.f86.body.getD .skip) = some C86.erase := by kernel_rfl
theorem q86 : rvsOf Try.prog Try.f86.results.toList = some r86 := by kernel_rfl
def spec_l6InputCode.f (a0_0 : Int) (a0_1 : Int) (l0_2 : List Int) (l0_3 : List S86) (l0_4 : List S84) (a0_5 : Int) (a0_6 : Int) (a0_7 : Int) (a0_8 : Int) (a0_9 : Int) (a0_10 : Int) (a0_11 : Int) : Option Int := ((if a0_0 < 1 then (some true) else (some (decide (a0_0 > 4)))) >>= fun (j3 : Bool) => (if j3 = true then (some 17) else (spec_l6PathsOK.f l0_3 >>= fun t14 => (if (!t14) = true then (some 6) else ((if a0_1 < 0 then (some true) else (if a0_1 ≥ (l0_3.length : Int) then (some true) else (if a0_5 < 1 then (some true) else (if a0_5 > 256 then (some true) else (if a0_11 < 1 then (some true) else (if a0_11 > 32 then (some true) else (some (decide ((l0_2.length : Int) > 1000))))))))) >>= fun (j20 : Bool) => (if j20 = true then (some 4) else ((if a0_6 > 4611686018427387904 then (some true) else (if a0_7 > 4611686018427387904 then (some true) else (if a0_8 > 4611686018427387904 then (some true) else (if a0_6 > a0_7 then (some true) else (spec_l6Mark.f a0_9 >>= fun t61 => (if (!t61) = true then (some true) else (spec_l6Mark.f a0_10 >>= fun t67 => (some (!t67))))))))) >>= fun (j45 : Bool) => (if j45 = true then (some 4) else ((spec_l6MapsOK.f l0_4 >>= fun t77 => (if (!t77) = true then (some true) else (some (decide ((l0_4.length : Int) > a0_5))))) >>= fun (j73 : Bool) => (if j73 = true then (some 1) else (some 0)))))))))))
theorem spec_l6InputCode.tri (cs0 : List Cell) (o0 : Nat) (l0_2 : List Int) (hv0 : Vw c_i64 1 cs0 o0 l0_2) (cs1 : List Cell) (o1 : Nat) (l0_3 : List S86) (hv1 : Vw c86 3 cs1 o1 l0_3) (cs2 : List Cell) (o2 : Nat) (l0_4 : List S84) (hv2 : Vw c84 5 cs2 o2 l0_4) (a0_0 : Int) (a0_1 : Int) (a0_5 : Int) (a0_6 : Int) (a0_7 : Int) (a0_8 : Int) (a0_9 : Int) (a0_10 : Int) (a0_11 : Int) (r : Int) (h : spec_l6InputCode.f a0_0 a0_1 l0_2 l0_3 l0_4 a0_5 a0_6 a0_7 a0_8 a0_9 a0_10 a0_11 = some r) : Tri Try.prog 86 [.g [.sc (.int .i64 a0_0), .sc (.int .i64 a0_1), .ref (.arg 0) [] o0 l0_2.length, .ref (.arg 1) [] o1 l0_3.length, .ref (.arg 2) [] o2 l0_4.length, .sc (.int .i64 a0_5), .sc (.int .u64 a0_6), .sc (.int .u64 a0_7), .sc (.int .u64 a0_8), .sc (.int .i64 a0_9), .sc (.int .i64 a0_10), .sc (.int .i64 a0_11)]] [(.arg 0, ⟨.fz, 1, cs0⟩), (.arg 1, ⟨.fz, 3, cs1⟩), (.arg 2, ⟨.fz, 5, cs2⟩)] (fun o => o = ⟨.c (.sc (.int .i64 r)), [(.arg 0, ⟨.fz, 1, cs0⟩), (.arg 1, ⟨.fz, 3, cs1⟩), (.arg 2, ⟨.fz, 5, cs2⟩)], [], []⟩) := by
 refine tri_of_body (ac := C86) (xs := r86) Try.func86 (show Try.f86.body = some (Try.f86.body.getD .skip) from rfl) k86 q86 (Nat.le_of_ble_eq_true rfl) ?_
 refine body_of fun K hKn hKr => ?_
 unfold spec_l6InputCode.f at h
 unfold C86
 simp only [initT, Nat.reduceAdd]
 refine sr_k fun J1 hJ1 => ?_
 simp +decide only [reduceAdd, reduceMul, reduceToNat, ak]
 refine hJ1 _ ?_
 refine seq_k fun J2 hJ2 => ?_
 obtain ⟨j3, h4, hn⟩ := of_bind h
 refine seq_j (fun st => st = ⟨[(1, .c (.ptr (.tmp 1 0) [] 0)), (10, .c (.sc (.bool j3)))], [(.arg 0, ⟨.fz, 1, cs0⟩), (.arg 1, ⟨.fz, 3, cs1⟩), (.arg 2, ⟨.fz, 5, cs2⟩), (.tmp 1 0, ⟨.box, 0, [.sc (.int .i64 a0_0), .sc (.int .i64 a0_1), .ref (.arg 0) [] o0 l0_2.length, .ref (.arg 1) [] o1 l0_3.length, .ref (.arg 2) [] o2 l0_4.length, .sc (.int .i64 a0_5), .sc (.int .u64 a0_6), .sc (.int .u64 a0_7), .sc (.int .u64 a0_8), .sc (.int .i64 a0_9), .sc (.int .i64 a0_10), .sc (.int .i64 a0_11)]⟩)], [], []⟩) (fun J5 hJ5 => ?_) ?_
 ·replace h := h4; clear hn
  refine ga_k fun G6 G6n G6r G6x => ?_
  refine reg_k ?_
  simp +decide only [reduceAdd, reduceMul, reduceToNat, ak]
  by_cases c7 : a0_0 < 1
  ·rw [if_pos c7] at h
   have e8 : decide (a0_0 < 1) = true := decide_eq_true c7
   simp +decide only [reduceAdd, reduceMul, reduceToNat, ak, e8]
   obtain rfl := Option.some.inj h
   refine G6n _ _ (wj [1, 10] [pI (.arg 0) .fz, pI (.arg 1) .fz, pI (.arg 2) .fz, pI (.tmp 1 0) .box]) (hJ5 _ rfl)
  ·rw [if_neg c7] at h
   have e9 : decide (a0_0 < 1) = false := decide_eq_false c7
   simp +decide only [reduceAdd, reduceMul, reduceToNat, ak, e9]
   obtain rfl := Option.some.inj h
   refine G6n _ _ (wj [1, 10] [pI (.arg 0) .fz, pI (.arg 1) .fz, pI (.arg 2) .fz, pI (.tmp 1 0) .box]) (hJ5 _ rfl)
 ·replace h := hn; clear hn h4
  rintro _ rfl
  refine cond_k (b := j3) rfl (fun c10 => ?_) (fun c10 => ?_)
  ·rw [if_pos c10] at h
   refine sr_k fun J11 hJ11 => ?_
   simp +decide only [reduceAdd, reduceMul, reduceToNat, ak]
   refine hJ11 _ ?_
   obtain rfl := Option.some.inj h
   refine hKr _ ⟨_, rfl, [], _, rfl, rfl, ?_⟩
   exact cl
  ·rw [if_neg (Bool.eq_false_iff.1 c10)] at h
   refine hJ2 _ ?_
   refine seq_k fun J12 hJ12 => ?_
   refine sr_k fun J13 hJ13 => ?_
   simp +decide only [reduceAdd, reduceMul, reduceToNat, ak]
   obtain ⟨t14, h15, h⟩ := of_bind h
   refine cm [pN (.arg 0) (.arg 1) .fz] (spec_l6PathsOK.tri (cs1) o1 l0_3 hv1 _ h15) (fun hl15 => ?_)
   refine cs (mF (mN ..)) ?_ (s4 := [(.arg 0, ⟨.fz, 1, cs0⟩), (.arg 1, ⟨.fz, 3, cs1⟩), (.arg 2, ⟨.fz, 5, cs2⟩), (.tmp 1 0, ⟨.box, 0, [.sc (.int .i64 a0_0), .sc (.int .i64 a0_1), .ref (.arg 0) [] o0 l0_2.length, .ref (.arg 1) [] o1 l0_3.length, .ref (.arg 2) [] o2 l0_4.length, .sc (.int .i64 a0_5), .sc (.int .u64 a0_6), .sc (.int .u64 a0_7), .sc (.int .u64 a0_8), .sc (.int .i64 a0_9), .sc (.int .i64 a0_10), .sc (.int .i64 a0_11)]⟩)])
   simp +decide only [reduceAdd, reduceMul, reduceToNat, ak]
   refine hJ13 _ ?_
   refine cond_k (b := !t14) rfl (fun c17 => ?_) (fun c17 => ?_)
   ·rw [if_pos c17] at h
    refine sr_k fun J18 hJ18 => ?_
    simp +decide only [reduceAdd, reduceMul, reduceToNat, ak]
    refine hJ18 _ ?_
    obtain rfl := Option.some.inj h
    refine hKr _ ⟨_, rfl, [], _, rfl, rfl, ?_⟩
    exact cl
   ·rw [if_neg (Bool.eq_false_iff.1 c17)] at h
    refine hJ12 _ ?_
    refine seq_k fun J19 hJ19 => ?_
    obtain ⟨j20, h21, hn⟩ := of_bind h
    refine seq_j (fun st => st = ⟨[(1, .c (.ptr (.tmp 1 0) [] 0)), (51, .c (.sc (.bool j20)))], [(.arg 0, ⟨.fz, 1, cs0⟩), (.arg 1, ⟨.fz, 3, cs1⟩), (.arg 2, ⟨.fz, 5, cs2⟩), (.tmp 1 0, ⟨.box, 0, [.sc (.int .i64 a0_0), .sc (.int .i64 a0_1), .ref (.arg 0) [] o0 l0_2.length, .ref (.arg 1) [] o1 l0_3.length, .ref (.arg 2) [] o2 l0_4.length, .sc (.int .i64 a0_5), .sc (.int .u64 a0_6), .sc (.int .u64 a0_7), .sc (.int .u64 a0_8), .sc (.int .i64 a0_9), .sc (.int .i64 a0_10), .sc (.int .i64 a0_11)]⟩)], [], []⟩) (fun J22 hJ22 => ?_) ?_
    ·replace h := h21; clear hn
     refine ga_k fun G23 G23n G23r G23x => ?_
     refine reg_k ?_
     simp +decide only [reduceAdd, reduceMul, reduceToNat, ak]
     by_cases c24 : a0_1 < 0
     ·rw [if_pos c24] at h
      have e25 : decide (a0_1 < 0) = true := decide_eq_true c24
      simp +decide only [reduceAdd, reduceMul, reduceToNat, ak, e25]
      obtain rfl := Option.some.inj h
      refine G23n _ _ (wj [1, 51] [pI (.arg 0) .fz, pI (.arg 1) .fz, pI (.arg 2) .fz, pI (.tmp 1 0) .box]) (hJ22 _ rfl)
     ·rw [if_neg c24] at h
      have e26 : decide (a0_1 < 0) = false := decide_eq_false c24
      simp +decide only [reduceAdd, reduceMul, reduceToNat, ak, e26]
      by_cases c27 : a0_1 ≥ (l0_3.length : Int)
      ·rw [if_pos c27] at h
       have e28 : decide (a0_1 ≥ (l0_3.length : Int)) = true := decide_eq_true c27
       simp +decide only [reduceAdd, reduceMul, reduceToNat, ak, e28]
       obtain rfl := Option.some.inj h
       refine G23n _ _ (wj [1, 51] [pI (.arg 0) .fz, pI (.arg 1) .fz, pI (.arg 2) .fz, pI (.tmp 1 0) .box]) (hJ22 _ rfl)
      ·rw [if_neg c27] at h
       have e29 : decide (a0_1 ≥ (l0_3.length : Int)) = false := decide_eq_false c27
       simp +decide only [reduceAdd, reduceMul, reduceToNat, ak, e29]
       by_cases c30 : a0_5 < 1
       ·rw [if_pos c30] at h
        have e31 : decide (a0_5 < 1) = true := decide_eq_true c30
        simp +decide only [reduceAdd, reduceMul, reduceToNat, ak, e31]
        obtain rfl := Option.some.inj h
        refine G23n _ _ (wj [1, 51] [pI (.arg 0) .fz, pI (.arg 1) .fz, pI (.arg 2) .fz, pI (.tmp 1 0) .box]) (hJ22 _ rfl)
       ·rw [if_neg c30] at h
        have e32 : decide (a0_5 < 1) = false := decide_eq_false c30
        simp +decide only [reduceAdd, reduceMul, reduceToNat, ak, e32]
        by_cases c33 : a0_5 > 256
        ·rw [if_pos c33] at h
         have e34 : decide (a0_5 > 256) = true := decide_eq_true c33
         simp +decide only [reduceAdd, reduceMul, reduceToNat, ak, e34]
         obtain rfl := Option.some.inj h
         refine G23n _ _ (wj [1, 51] [pI (.arg 0) .fz, pI (.arg 1) .fz, pI (.arg 2) .fz, pI (.tmp 1 0) .box]) (hJ22 _ rfl)
        ·rw [if_neg c33] at h
         have e35 : decide (a0_5 > 256) = false := decide_eq_false c33
         simp +decide only [reduceAdd, reduceMul, reduceToNat, ak, e35]
         by_cases c36 : a0_11 < 1
         ·rw [if_pos c36] at h
          have e37 : decide (a0_11 < 1) = true := decide_eq_true c36
          simp +decide only [reduceAdd, reduceMul, reduceToNat, ak, e37]
          obtain rfl := Option.some.inj h
          refine G23n _ _ (wj [1, 51] [pI (.arg 0) .fz, pI (.arg 1) .fz, pI (.arg 2) .fz, pI (.tmp 1 0) .box]) (hJ22 _ rfl)
         ·rw [if_neg c36] at h
          have e38 : decide (a0_11 < 1) = false := decide_eq_false c36
          simp +decide only [reduceAdd, reduceMul, reduceToNat, ak, e38]
          by_cases c39 : a0_11 > 32
          ·rw [if_pos c39] at h
           have e40 : decide (a0_11 > 32) = true := decide_eq_true c39
           simp +decide only [reduceAdd, reduceMul, reduceToNat, ak, e40]
           obtain rfl := Option.some.inj h
           refine G23n _ _ (wj [1, 51] [pI (.arg 0) .fz, pI (.arg 1) .fz, pI (.arg 2) .fz, pI (.tmp 1 0) .box]) (hJ22 _ rfl)
          ·rw [if_neg c39] at h
           have e41 : decide (a0_11 > 32) = false := decide_eq_false c39
           simp +decide only [reduceAdd, reduceMul, reduceToNat, ak, e41]
           obtain rfl := Option.some.inj h
           refine G23n _ _ (wj [1, 51] [pI (.arg 0) .fz, pI (.arg 1) .fz, pI (.arg 2) .fz, pI (.tmp 1 0) .box]) (hJ22 _ rfl)
    ·replace h := hn; clear hn h21
     rintro _ rfl
     refine cond_k (b := j20) rfl (fun c42 => ?_) (fun c42 => ?_)
     ·rw [if_pos c42] at h
      refine sr_k fun J43 hJ43 => ?_
      simp +decide only [reduceAdd, reduceMul, reduceToNat, ak]
      refine hJ43 _ ?_
      obtain rfl := Option.some.inj h
      refine hKr _ ⟨_, rfl, [], _, rfl, rfl, ?_⟩
      exact cl
     ·rw [if_neg (Bool.eq_false_iff.1 c42)] at h
      refine hJ19 _ ?_
      refine seq_k fun J44 hJ44 => ?_
      obtain ⟨j45, h46, hn⟩ := of_bind h
      refine seq_j (fun st => st = ⟨[(1, .c (.ptr (.tmp 1 0) [] 0)), (83, .c (.sc (.bool j45)))], [(.arg 0, ⟨.fz, 1, cs0⟩), (.arg 1, ⟨.fz, 3, cs1⟩), (.arg 2, ⟨.fz, 5, cs2⟩), (.tmp 1 0, ⟨.box, 0, [.sc (.int .i64 a0_0), .sc (.int .i64 a0_1), .ref (.arg 0) [] o0 l0_2.length, .ref (.arg 1) [] o1 l0_3.length, .ref (.arg 2) [] o2 l0_4.length, .sc (.int .i64 a0_5), .sc (.int .u64 a0_6), .sc (.int .u64 a0_7), .sc (.int .u64 a0_8), .sc (.int .i64 a0_9), .sc (.int .i64 a0_10), .sc (.int .i64 a0_11)]⟩)], [], []⟩) (fun J47 hJ47 => ?_) ?_
      ·replace h := h46; clear hn
       refine ga_k fun G48 G48n G48r G48x => ?_
       refine reg_k ?_
       simp +decide only [reduceAdd, reduceMul, reduceToNat, ak]
       by_cases c49 : a0_6 > 4611686018427387904
       ·rw [if_pos c49] at h
        have e50 : decide (a0_6 > 4611686018427387904) = true := decide_eq_true c49
        simp +decide only [reduceAdd, reduceMul, reduceToNat, ak, e50]
        obtain rfl := Option.some.inj h
        refine G48n _ _ (wj [1, 83] [pI (.arg 0) .fz, pI (.arg 1) .fz, pI (.arg 2) .fz, pI (.tmp 1 0) .box]) (hJ47 _ rfl)
       ·rw [if_neg c49] at h
        have e51 : decide (a0_6 > 4611686018427387904) = false := decide_eq_false c49
        simp +decide only [reduceAdd, reduceMul, reduceToNat, ak, e51]
        by_cases c52 : a0_7 > 4611686018427387904
        ·rw [if_pos c52] at h
         have e53 : decide (a0_7 > 4611686018427387904) = true := decide_eq_true c52
         simp +decide only [reduceAdd, reduceMul, reduceToNat, ak, e53]
         obtain rfl := Option.some.inj h
         refine G48n _ _ (wj [1, 83] [pI (.arg 0) .fz, pI (.arg 1) .fz, pI (.arg 2) .fz, pI (.tmp 1 0) .box]) (hJ47 _ rfl)
        ·rw [if_neg c52] at h
         have e54 : decide (a0_7 > 4611686018427387904) = false := decide_eq_false c52
         simp +decide only [reduceAdd, reduceMul, reduceToNat, ak, e54]
         by_cases c55 : a0_8 > 4611686018427387904
         ·rw [if_pos c55] at h
          have e56 : decide (a0_8 > 4611686018427387904) = true := decide_eq_true c55
          simp +decide only [reduceAdd, reduceMul, reduceToNat, ak, e56]
          obtain rfl := Option.some.inj h
          refine G48n _ _ (wj [1, 83] [pI (.arg 0) .fz, pI (.arg 1) .fz, pI (.arg 2) .fz, pI (.tmp 1 0) .box]) (hJ47 _ rfl)
         ·rw [if_neg c55] at h
          have e57 : decide (a0_8 > 4611686018427387904) = false := decide_eq_false c55
          simp +decide only [reduceAdd, reduceMul, reduceToNat, ak, e57]
          by_cases c58 : a0_6 > a0_7
          ·rw [if_pos c58] at h
           have e59 : decide (a0_6 > a0_7) = true := decide_eq_true c58
           simp +decide only [reduceAdd, reduceMul, reduceToNat, ak, e59]
           obtain rfl := Option.some.inj h
           refine G48n _ _ (wj [1, 83] [pI (.arg 0) .fz, pI (.arg 1) .fz, pI (.arg 2) .fz, pI (.tmp 1 0) .box]) (hJ47 _ rfl)
          ·rw [if_neg c58] at h
           have e60 : decide (a0_6 > a0_7) = false := decide_eq_false c58
           simp +decide only [reduceAdd, reduceMul, reduceToNat, ak, e60]
           obtain ⟨t61, h62, h⟩ := of_bind h
           refine cm [] (spec_l6Mark.tri a0_9 _ h62) (fun hl62 => ?_)
           refine cs (mN ..) ?_ (s4 := [(.arg 0, ⟨.fz, 1, cs0⟩), (.arg 1, ⟨.fz, 3, cs1⟩), (.arg 2, ⟨.fz, 5, cs2⟩), (.tmp 1 0, ⟨.box, 0, [.sc (.int .i64 a0_0), .sc (.int .i64 a0_1), .ref (.arg 0) [] o0 l0_2.length, .ref (.arg 1) [] o1 l0_3.length, .ref (.arg 2) [] o2 l0_4.length, .sc (.int .i64 a0_5), .sc (.int .u64 a0_6), .sc (.int .u64 a0_7), .sc (.int .u64 a0_8), .sc (.int .i64 a0_9), .sc (.int .i64 a0_10), .sc (.int .i64 a0_11)]⟩)])
           simp +decide only [reduceAdd, reduceMul, reduceToNat, ak]
           by_cases c64 : (!t61) = true
           ·rw [if_pos c64] at h
            have e65 : (!t61) = true := c64
            simp +decide only [reduceAdd, reduceMul, reduceToNat, ak, e65]
            obtain rfl := Option.some.inj h
            refine G48n _ _ (wj [1, 83] [pI (.arg 0) .fz, pI (.arg 1) .fz, pI (.arg 2) .fz, pI (.tmp 1 0) .box]) (hJ47 _ rfl)
           ·rw [if_neg c64] at h
            have e66 : (!t61) = false := Bool.eq_false_iff.2 c64
            simp +decide only [reduceAdd, reduceMul, reduceToNat, ak, e66]
            obtain ⟨t67, h68, h⟩ := of_bind h
            refine cm [] (spec_l6Mark.tri a0_10 _ h68) (fun hl68 => ?_)
            refine cs (mN ..) ?_ (s4 := [(.arg 0, ⟨.fz, 1, cs0⟩), (.arg 1, ⟨.fz, 3, cs1⟩), (.arg 2, ⟨.fz, 5, cs2⟩), (.tmp 1 0, ⟨.box, 0, [.sc (.int .i64 a0_0), .sc (.int .i64 a0_1), .ref (.arg 0) [] o0 l0_2.length, .ref (.arg 1) [] o1 l0_3.length, .ref (.arg 2) [] o2 l0_4.length, .sc (.int .i64 a0_5), .sc (.int .u64 a0_6), .sc (.int .u64 a0_7), .sc (.int .u64 a0_8), .sc (.int .i64 a0_9), .sc (.int .i64 a0_10), .sc (.int .i64 a0_11)]⟩)])
            simp +decide only [reduceAdd, reduceMul, reduceToNat, ak]
            obtain rfl := Option.some.inj h
            refine G48n _ _ (wj [1, 83] [pI (.arg 0) .fz, pI (.arg 1) .fz, pI (.arg 2) .fz, pI (.tmp 1 0) .box]) (hJ47 _ rfl)
      ·replace h := hn; clear hn h46
       rintro _ rfl
       refine cond_k (b := j45) rfl (fun c70 => ?_) (fun c70 => ?_)
       ·rw [if_pos c70] at h
        refine sr_k fun J71 hJ71 => ?_
        simp +decide only [reduceAdd, reduceMul, reduceToNat, ak]
        refine hJ71 _ ?_
        obtain rfl := Option.some.inj h
        refine hKr _ ⟨_, rfl, [], _, rfl, rfl, ?_⟩
        exact cl
       ·rw [if_neg (Bool.eq_false_iff.1 c70)] at h
        refine hJ44 _ ?_
        refine seq_k fun J72 hJ72 => ?_
        obtain ⟨j73, h74, hn⟩ := of_bind h
        refine seq_j (fun st => st = ⟨[(95, .c (.sc (.bool j73)))], [(.arg 0, ⟨.fz, 1, cs0⟩), (.arg 1, ⟨.fz, 3, cs1⟩), (.arg 2, ⟨.fz, 5, cs2⟩)], [], []⟩) (fun J75 hJ75 => ?_) ?_
        ·replace h := h74; clear hn
         refine ga_k fun G76 G76n G76r G76x => ?_
         refine reg_k ?_
         simp +decide only [reduceAdd, reduceMul, reduceToNat, ak]
         obtain ⟨t77, h78, h⟩ := of_bind h
         refine cm [pN (.arg 0) (.arg 2) .fz] (spec_l6MapsOK.tri (cs2) o2 l0_4 hv2 _ h78) (fun hl78 => ?_)
         refine cs (mF (mN ..)) ?_ (s4 := [(.arg 0, ⟨.fz, 1, cs0⟩), (.arg 1, ⟨.fz, 3, cs1⟩), (.arg 2, ⟨.fz, 5, cs2⟩), (.tmp 1 0, ⟨.box, 0, [.sc (.int .i64 a0_0), .sc (.int .i64 a0_1), .ref (.arg 0) [] o0 l0_2.length, .ref (.arg 1) [] o1 l0_3.length, .ref (.arg 2) [] o2 l0_4.length, .sc (.int .i64 a0_5), .sc (.int .u64 a0_6), .sc (.int .u64 a0_7), .sc (.int .u64 a0_8), .sc (.int .i64 a0_9), .sc (.int .i64 a0_10), .sc (.int .i64 a0_11)]⟩)])
         simp +decide only [reduceAdd, reduceMul, reduceToNat, ak]
         by_cases c80 : (!t77) = true
         ·rw [if_pos c80] at h
          have e81 : (!t77) = true := c80
          simp +decide only [reduceAdd, reduceMul, reduceToNat, ak, e81]
          obtain rfl := Option.some.inj h
          refine G76n _ _ (wj [95] [pI (.arg 0) .fz, pI (.arg 1) .fz, pI (.arg 2) .fz]) (hJ75 _ rfl)
         ·rw [if_neg c80] at h
          have e82 : (!t77) = false := Bool.eq_false_iff.2 c80
          simp +decide only [reduceAdd, reduceMul, reduceToNat, ak, e82]
          obtain rfl := Option.some.inj h
          refine G76n _ _ (wj [95] [pI (.arg 0) .fz, pI (.arg 1) .fz, pI (.arg 2) .fz]) (hJ75 _ rfl)
        ·replace h := hn; clear hn h74
         rintro _ rfl
         refine cond_k (b := j73) rfl (fun c83 => ?_) (fun c83 => ?_)
         ·rw [if_pos c83] at h
          refine sr_k fun J84 hJ84 => ?_
          simp +decide only [reduceAdd, reduceMul, reduceToNat, ak]
          refine hJ84 _ ?_
          obtain rfl := Option.some.inj h
          refine hKr _ ⟨_, rfl, [], _, rfl, rfl, ?_⟩
          exact cl
         ·rw [if_neg (Bool.eq_false_iff.1 c83)] at h
          refine hJ72 _ ?_
          refine sr_k fun J85 hJ85 => ?_
          simp +decide only [reduceAdd, reduceMul, reduceToNat, ak]
          refine hJ85 _ ?_
          obtain rfl := Option.some.inj h
          refine hKr _ ⟨_, rfl, [], _, rfl, rfl, ?_⟩
          exact cl
/-! ### spec.l6Bit: function 77 -/
def C77_l0 : AC := .seq (.sr [.m 6 5, .m 7 1, .o (.bin 8 .lss (.t 6) (.t 7)), .keep [0, 1, 5, 8]] (.cond (.t 8) (.skip) (.gh (.exit 0)))) (.seq (.block 1 (.reg [.m 11 0, .o (.bin 12 .quo (.t 11) (.k 2)), .m 0 12, .keep [0, 1, 5]])) (.reg [.m 9 5, .o (.bin 10 .add (.t 9) (.k 1)), .m 5 10, .keep [0, 1, 5]]))
def C77 : AC := .sr [.o (.mv 4 (.const (.bool false))), .keep [0, 1]] (.seq (.sr [.o (.mv 5 (.k 0)), .keep [0, 1, 5]] (.block 0 (.gh (.loop (.ga C77_l0))))) (.sr [.m 13 0, .o (.bin 14 .rem (.t 13) (.k 2)), .o (.bin 15 .eql (.t 14) (.k 1)), .m 4 15, .keep [4]] (.ret)))
def r77 : List RV := [.tmp 4]
theorem k77 : compC Try.prog 16 C77 (Try.f77.body.getD .skip) = some C77.erase := by kernel_rfl
theorem q77 : rvsOf Try.prog Try.f77.results.toList = some r77 := by kernel_rfl
def spec_l6Bit.l0 (x0_1 : Int) (x0_0 : Int) (x0_2 : Int) : Option Int := (if x0_2 < x0_1 then (spec_l6Bit.l0 x0_1 (IntKind.i64.wrap (x0_0.tdiv 2)) (IntKind.i64.wrap (x0_2 + 1))) else (some x0_0))
 partial_fixpoint
def spec_l6Bit.f (a0 : Int) (a1 : Int) : Option Bool := (spec_l6Bit.l0 a1 a0 0 >>= fun (y10 : Int) => (some (decide (y10.tmod 2 = 1))))
def spec_l6Bit.l0_M (x0_1 : Int) (x0_0 : Int) (x0_2 : Int) (y : Int) : Prop := ∀ (K : AE → St → Prop), (K (.exit 0) ⟨[(0, .c (.sc (.int .i64 y)))], [], [], []⟩) → loopS Try.prog 16 (.ga C77_l0) K ⟨[(0, .c (.sc (.int .i64 x0_0))), (1, .c (.sc (.int .i64 x0_1))), (5, .c (.sc (.int .i64 x0_2)))], [], [], []⟩
theorem spec_l6Bit.l0_walk (x0_1 : Int) (x0_0 : Int) (x0_2 : Int) (y : Int) (h : spec_l6Bit.l0 x0_1 x0_0 x0_2 = some y) : spec_l6Bit.l0_M x0_1 x0_0 x0_2 y := by
 refine spec_l6Bit.l0.partial_correctness x0_1 (motive := fun x0_0 x0_2 y => spec_l6Bit.l0_M x0_1 x0_0 x0_2 y) ?_ x0_0 x0_2 y h
 clear h
 unfold spec_l6Bit.l0_M
 intro rec ih x0_0 x0_2 y h K hx0
 refine loop_unroll (ga_k fun G0 G0n G0r G0x => ?_)
 unfold C77_l0
 refine seq_k fun J5 hJ5 => ?_
 refine sr_k fun J6 hJ6 => ?_
 simp +decide only [reduceAdd, reduceMul, reduceToNat, ak]
 refine hJ6 _ ?_
 refine cond_k (b := decide (x0_2 < x0_1)) rfl (fun c7 => ?_) (fun c7 => ?_)
 ·replace c7 := of_decide_eq_true c7; rw [if_pos c7] at h
  refine hJ5 _ ?_
  refine seq_k fun J8 hJ8 => ?_
  refine block_k fun B9 B9n B9x B9r B9j => ?_
  refine reg_k ?_
  simp +decide only [reduceAdd, reduceMul, reduceToNat, ak, ne_lit]
  refine B9n _ ?_
  refine hJ8 _ ?_
  refine reg_k ?_
  simp +decide only [reduceAdd, reduceMul, reduceToNat, ak]
  refine G0n _ _ (wk [0, 1, 5] []) (ih _ _ _ h K hx0)
 ·replace c7 := of_decide_eq_false c7; rw [if_neg c7] at h
  obtain rfl := Option.some.inj h
  refine gh_k (wk [0] []) ?_
  refine G0x _ _ ?_
  exact hx0
theorem spec_l6Bit.tri (a0 : Int) (a1 : Int) (r : Bool) (h : spec_l6Bit.f a0 a1 = some r) : Tri Try.prog 77 [.c (.sc (.int .i64 a0)), .c (.sc (.int .i64 a1))] [] (fun o => o = ⟨.c (.sc (.bool r)), [], [], []⟩) := by
 refine tri_of_body (ac := C77) (xs := r77) Try.func77 (show Try.f77.body = some (Try.f77.body.getD .skip) from rfl) k77 q77 (Nat.le_of_ble_eq_true rfl) ?_
 refine body_of fun K hKn hKr => ?_
 unfold spec_l6Bit.f at h
 unfold C77
 simp only [initT, Nat.reduceAdd]
 refine sr_k fun J1 hJ1 => ?_
 simp +decide only [reduceAdd, reduceMul, reduceToNat, ak]
 refine hJ1 _ ?_
 refine seq_k fun J2 hJ2 => ?_
 refine sr_k fun J3 hJ3 => ?_
 simp +decide only [reduceAdd, reduceMul, reduceToNat, ak]
 refine hJ3 _ ?_
 refine block_k fun B4 B4n B4x B4r B4j => ?_
 obtain ⟨y10, h11, h⟩ := of_bind h
 refine gh_k (wk [0, 1, 5] []) ?_
 rw [e_loop]
 refine spec_l6Bit.l0_walk a1 a0 0 _ h11 _ ?_
 refine B4x _ ?_
 refine hJ2 _ ?_
 refine sr_k fun J12 hJ12 => ?_
 simp +decide only [reduceAdd, reduceMul, reduceToNat, ak, ne_lit]
 refine hJ12 _ ?_
 obtain rfl := Option.some.inj h
 refine hKr _ ⟨_, rfl, [], _, rfl, rfl, ?_⟩
 exact cl
/-! ### spec.l6Eligible: function 111 -/
def C111_l0 : AC := .seq (.sr [.m 8 6, .m 9 0, .ln 10 9, .o (.bin 11 .lss (.t 8) (.t 10)), .keep [0, 1, 5, 6, 11]] (.cond (.t 11) (.skip) (.gh (.exit 0)))) (.seq (.ga (.block 1 (.seq (.ga (.reg [.m 14 0, .m 15 6, .ia 16 3 14 15, .fa 17 0 16, .ld 18 1 17, .o (.bin 19 .eql (.t 18) (.k 1)), .m 20 19, .op (some (20, true)) (.mv 21 (.t 0)), .op (some (20, true)) (.mv 22 (.t 6)), .op (some (20, true)) (.iaddr 23 3 (.t 21) (.t 22)), .op (some (20, true)) (.faddr 24 2 (.t 23)), .op (some (20, true)) (.load 25 false 1 (.t 24)), .op (some (20, true)) (.bin 26 .gtr (.t 25) (.k 0)), .o (.pick 27 (.t 20) (.t 26) (.const (.bool false))), .m 28 27, .op (some (28, true)) (.mv 29 (.t 1)), .op (some (28, true)) (.mv 30 (.t 6)), .call (some (28, true)) (some 31) 77 [.tmp 29, .tmp 30], .op (some (28, true)) (.un 32 .not (.t 31)), .o (.pick 33 (.t 28) (.t 32) (.const (.bool false))), .keep [0, 1, 5, 6, 33]])) (.cond (.t 33) (.reg [.m 34 5, .m 35 6, .o (.bslice 36 1 [.int .i64 0] 1 [(0, .tmp 35)]), .o (.app 37 1 8 true (.t 34) (.t 36)), .m 5 37, .keep [0, 1, 5, 6]]) (.skip))))) (.reg [.m 12 6, .o (.bin 13 .add (.t 12) (.k 1)), .m 6 13, .keep [0, 1, 5, 6]]))
def C111 : AC := .sr [.o (.mv 4 (.const (.slice none 0 0))), .gh, .keep [0, 1]] (.sr [.o (.bslice 7 1 [.int .i64 0] 0 []), .m 5 7, .keep [0, 1, 5]] (.seq (.sr [.o (.mv 6 (.k 0)), .keep [0, 1, 5, 6]] (.block 0 (.gh (.loop (.ga C111_l0))))) (.sr [.m 38 5, .m 4 38, .keep [4]] (.ret))))
def r111 : List RV := [.tmp 4]
theorem k111 : compC Try.prog 39 C111 (Try.f111.body.getD .skip) = some C111.erase := by kernel_rfl
theorem q111 : rvsOf Try.prog Try.f111.results.toList = some r111 := by kernel_rfl
def spec_l6Eligible.l0 (l0 : List S86) (x0_0 : Int) (x0_1 : Int) (x0_2 : (List Int)) : Option (List Int) := (if x0_1 < (l0.length : Int) then (((if 0 ≤ x0_1 ∧ x0_1 < (l0.length : Int) then (if (rd z86 l0 x0_1).f0 = 1 then (if (rd z86 l0 x0_1).f2 > 0 then (spec_l6Bit.f x0_0 x0_1 >>= fun t30 => (some (!t30))) else (some false)) else (some false)) else none) >>= fun (j17 : Bool) => (if j17 = true then (if (x0_2.length + 1) * 8 ≤ 140737488355328 then (some (x0_2 ++ ([x0_1] : List Int))) else none) else (some x0_2))) >>= fun (j12 : (List Int)) => (spec_l6Eligible.l0 l0 x0_0 (IntKind.i64.wrap (x0_1 + 1)) j12)) else (some x0_2))
 partial_fixpoint
def spec_l6Eligible.f (l0 : List S86) (a1 : Int) : Option (List Int) := (spec_l6Eligible.l0 l0 a1 0 ([] : List Int) >>= fun (y45 : (List Int)) => (some y45))
def spec_l6Eligible.l0_M (cs0 : List Cell) (o0 : Nat) (l0 : List S86) (hv0 : Vw c86 3 cs0 o0 l0) (x0_0 : Int) (x0_1 : Int) (x0_2 : (List Int)) (y : (List Int)) : Prop := ∀ (K : AE → St → Prop), (K (.exit 0) ⟨[(5, .c (.ref (.tmp 7 0) [] 0 y.length))], [(.arg 0, ⟨.fz, 3, cs0⟩), (.tmp 7 0, ⟨.lst, 1, encL c_i64 y⟩)], [], []⟩) → loopS Try.prog 39 (.ga C111_l0) K ⟨[(0, .c (.ref (.arg 0) [] o0 l0.length)), (1, .c (.sc (.int .i64 x0_0))), (5, .c (.ref (.tmp 7 0) [] 0 x0_2.length)), (6, .c (.sc (.int .i64 x0_1)))], [(.arg 0, ⟨.fz, 3, cs0⟩), (.tmp 7 0, ⟨.lst, 1, encL c_i64 x0_2⟩)], [], []⟩
theorem spec_l6Eligible.l0_walk (cs0 : List Cell) (o0 : Nat) (l0 : List S86) (hv0 : Vw c86 3 cs0 o0 l0) (x0_0 : Int) (x0_1 : Int) (x0_2 : (List Int)) (y : (List Int)) (h : spec_l6Eligible.l0 l0 x0_0 x0_1 x0_2 = some y) : spec_l6Eligible.l0_M cs0 o0 l0 hv0 x0_0 x0_1 x0_2 y := by
 refine spec_l6Eligible.l0.partial_correctness l0 x0_0 (motive := fun x0_1 x0_2 y => spec_l6Eligible.l0_M cs0 o0 l0 hv0 x0_0 x0_1 x0_2 y) ?_ x0_1 x0_2 y h
 clear h
 unfold spec_l6Eligible.l0_M
 intro rec ih x0_1 x0_2 y h K hx0
 refine loop_unroll (ga_k fun G0 G0n G0r G0x => ?_)
 unfold C111_l0
 refine seq_k fun J9 hJ9 => ?_
 refine sr_k fun J10 hJ10 => ?_
 simp +decide only [reduceAdd, reduceMul, reduceToNat, ak]
 refine hJ10 _ ?_
 refine cond_k (b := decide (x0_1 < (l0.length : Int))) rfl (fun c11 => ?_) (fun c11 => ?_)
 ·replace c11 := of_decide_eq_true c11; rw [if_pos c11] at h
  refine hJ9 _ ?_
  obtain ⟨j12, h13, hn⟩ := of_bind h
  refine seq_j (fun st => st = ⟨[(0, .c (.ref (.arg 0) [] o0 l0.length)), (1, .c (.sc (.int .i64 x0_0))), (5, .c (.ref (.tmp 7 0) [] 0 j12.length)), (6, .c (.sc (.int .i64 x0_1)))], [(.arg 0, ⟨.fz, 3, cs0⟩), (.tmp 7 0, ⟨.lst, 1, encL c_i64 j12⟩)], [], []⟩) (fun J14 hJ14 => ?_) ?_
  ·replace h := h13; clear hn
   refine ga_k fun G15 G15n G15r G15x => ?_
   refine block_k fun B16 B16n B16x B16r B16j => ?_
   obtain ⟨j17, h18, hn⟩ := of_bind h
   refine seq_j (fun st => st = ⟨[(0, .c (.ref (.arg 0) [] o0 l0.length)), (1, .c (.sc (.int .i64 x0_0))), (5, .c (.ref (.tmp 7 0) [] 0 x0_2.length)), (6, .c (.sc (.int .i64 x0_1))), (33, .c (.sc (.bool j17)))], [(.arg 0, ⟨.fz, 3, cs0⟩), (.tmp 7 0, ⟨.lst, 1, encL c_i64 x0_2⟩)], [], []⟩) (fun J19 hJ19 => ?_) ?_
   ·replace h := h18; clear hn
    refine ga_k fun G20 G20n G20r G20x => ?_
    refine reg_k ?_
    obtain ⟨b21, h⟩ := of_guard h
    have g22 : o0 + x0_1.toNat * 3 + 0 ≤ (cs0).length := (hv0.len_le b21.1 b21.2 (by decide))
    have g23 : (cs0)[o0 + x0_1.toNat * 3 + 0]? = some (.sc (.int .i64 ((rd z86 l0 x0_1).f0))) := hv0.get z86 0 b21.1 b21.2 (by decide)
    simp +decide only [reduceAdd, reduceMul, reduceToNat, ak, b21, g22, g23]
    by_cases c24 : (rd z86 l0 x0_1).f0 = 1
    ·rw [if_pos c24] at h
     have e25 : decide ((rd z86 l0 x0_1).f0 = 1) = true := decide_eq_true c24
     have g26 : o0 + x0_1.toNat * 3 + 2 ≤ (cs0).length := (hv0.len_le b21.1 b21.2 (by decide))
     have g27 : (cs0)[o0 + x0_1.toNat * 3 + 2]? = some (.sc (.int .i64 ((rd z86 l0 x0_1).f2))) := hv0.get z86 2 b21.1 b21.2 (by decide)
     simp +decide only [reduceAdd, reduceMul, reduceToNat, ak, e25, b21, g26, g27]
     by_cases c28 : (rd z86 l0 x0_1).f2 > 0
     ·rw [if_pos c28] at h
      have e29 : decide ((rd z86 l0 x0_1).f2 > 0) = true := decide_eq_true c28
      simp +decide only [reduceAdd, reduceMul, reduceToNat, ak, e29]
      obtain ⟨t30, h31, h⟩ := of_bind h
      refine cm [] (spec_l6Bit.tri x0_0 x0_1 _ h31) (fun hl31 => ?_)
      refine cs (mN ..) ?_ (s4 := [(.arg 0, ⟨.fz, 3, cs0⟩), (.tmp 7 0, ⟨.lst, 1, encL c_i64 x0_2⟩)])
      simp +decide only [reduceAdd, reduceMul, reduceToNat, ak]
      obtain rfl := Option.some.inj h
      refine G20n _ _ (wj [0, 1, 5, 6, 33] [pI (.arg 0) .fz, pI (.tmp 7 0) .lst]) (hJ19 _ rfl)
     ·rw [if_neg c28] at h
      have e33 : decide ((rd z86 l0 x0_1).f2 > 0) = false := decide_eq_false c28
      simp +decide only [reduceAdd, reduceMul, reduceToNat, ak, e33]
      obtain rfl := Option.some.inj h
      refine G20n _ _ (wj [0, 1, 5, 6, 33] [pI (.arg 0) .fz, pI (.tmp 7 0) .lst]) (hJ19 _ rfl)
    ·rw [if_neg c24] at h
     have e34 : decide ((rd z86 l0 x0_1).f0 = 1) = false := decide_eq_false c24
     simp +decide only [reduceAdd, reduceMul, reduceToNat, ak, e34]
     obtain rfl := Option.some.inj h
     refine G20n _ _ (wj [0, 1, 5, 6, 33] [pI (.arg 0) .fz, pI (.tmp 7 0) .lst]) (hJ19 _ rfl)
   ·replace h := hn; clear hn h18
    rintro _ rfl
    refine cond_k (b := j17) rfl (fun c35 => ?_) (fun c35 => ?_)
    ·rw [if_pos c35] at h
     refine reg_k ?_
     have g36 : (List.replicate 1 ([.int .i64 0] : List Value)).flatten = [.int .i64 0] := rfl
     have g37 : (⟨.lst, 1, [.sc (.int .i64 x0_1)]⟩ : Root) = ⟨.lst, 1, encL c_i64 ([x0_1] : List Int)⟩ := rfl
     have g38 : ([x0_1] : List Int).length = 1 := rfl
     have g39 : (encL c_i64 ([x0_1] : List Int)).length = 1 * 1 := by simp [encL_length c_i64_w]
     have g40 : (encL c_i64 ([x0_1] : List Int)).all nd = true := rfl
     obtain ⟨b41, h⟩ := of_guard h
     have g42 : appLim x0_2.length 1 8 := ⟨b41, by have := b41; omega⟩
     have g43 : (encL c_i64 x0_2).length = x0_2.length * 1 := by simp [encL_length c_i64_w]
     have g44 : encL c_i64 x0_2 ++ encL c_i64 ([x0_1] : List Int) = encL c_i64 (x0_2 ++ ([x0_1] : List Int)) := (encL_append _ _).symm
     simp +decide only [reduceAdd, reduceMul, reduceToNat, ak, g36, g37, g38, g39, g40, g42, g43, g44]
     refine B16n _ ?_
     obtain rfl := Option.some.inj h
     refine G15n _ _ (wj [0, 1, 5, 6] [pI (.arg 0) .fz, pI (.tmp 7 0) .lst]) (hJ14 _ rfl)
    ·rw [if_neg (Bool.eq_false_iff.1 c35)] at h
     refine B16n _ ?_
     obtain rfl := Option.some.inj h
     refine G15n _ _ (wk [0, 1, 5, 6] [pI (.arg 0) .fz, pI (.tmp 7 0) .lst]) (hJ14 _ rfl)
  ·replace h := hn; clear hn h13
   rintro _ rfl
   refine reg_k ?_
   simp +decide only [reduceAdd, reduceMul, reduceToNat, ak]
   refine G0n _ _ (wk [0, 1, 5, 6] [pI (.arg 0) .fz, pI (.tmp 7 0) .lst]) (ih _ _ _ h K hx0)
 ·replace c11 := of_decide_eq_false c11; rw [if_neg c11] at h
  obtain rfl := Option.some.inj h
  refine gh_k (wk [5] [pI (.arg 0) .fz, pI (.tmp 7 0) .lst]) ?_
  refine G0x _ _ ?_
  exact hx0
theorem spec_l6Eligible.tri (cs0 : List Cell) (o0 : Nat) (l0 : List S86) (hv0 : Vw c86 3 cs0 o0 l0) (a1 : Int) (r : (List Int)) (h : spec_l6Eligible.f l0 a1 = some r) : Tri Try.prog 111 [.c (.ref (.arg 0) [] o0 l0.length), .c (.sc (.int .i64 a1))] [(.arg 0, ⟨.fz, 3, cs0⟩)] (fun o => o = ⟨.c (.ref (.res 0) [] 0 r.length), [(.arg 0, ⟨.fz, 3, cs0⟩), (.res 0, ⟨.lst, 1, encL c_i64 r⟩)], [], []⟩) := by
 refine tri_of_body (ac := C111) (xs := r111) Try.func111 (show Try.f111.body = some (Try.f111.body.getD .skip) from rfl) k111 q111 (Nat.le_of_ble_eq_true rfl) ?_
 refine body_of fun K hKn hKr => ?_
 unfold spec_l6Eligible.f at h
 unfold C111
 simp only [initT, Nat.reduceAdd]
 refine sr_k fun J1 hJ1 => ?_
 simp +decide only [reduceAdd, reduceMul, reduceToNat, ak]
 refine gho_k (Weak.nm' 4 (.tmp 4 20) 1 (encL c_i64 ([] : List Int)) rfl rfl rfl) ?_
 simp +decide only [reduceAdd, reduceMul, reduceToNat, ak]
 refine hJ1 _ ?_
 refine sr_k fun J2 hJ2 => ?_
 have g3 : (List.replicate 0 ([.int .i64 0] : List Value)).flatten = [] := rfl
 have g4 : (⟨.lst, 1, []⟩ : Root) = ⟨.lst, 1, encL c_i64 ([] : List Int)⟩ := rfl
 have g5 : ([] : List Int).length = 0 := rfl
 simp +decide only [reduceAdd, reduceMul, reduceToNat, ak, g3, g4, g5]
 refine hJ2 _ ?_
 refine seq_k fun J6 hJ6 => ?_
 refine sr_k fun J7 hJ7 => ?_
 simp +decide only [reduceAdd, reduceMul, reduceToNat, ak]
 refine hJ7 _ ?_
 refine block_k fun B8 B8n B8x B8r B8j => ?_
 obtain ⟨y45, h46, h⟩ := of_bind h
 refine gh_k (st' := ⟨[(0, .c (.ref (.arg 0) [] o0 l0.length)), (1, .c (.sc (.int .i64 a1))), (5, .c (.ref (.tmp 7 0) [] 0 (([] : List Int).length))), (6, .c (.sc (.int .i64 0)))], [(.arg 0, ⟨.fz, 3, cs0⟩), (.tmp 7 0, ⟨.lst, 1, encL c_i64 ([] : List Int)⟩)], [], []⟩) (wk [0, 1, 5, 6] [pI (.arg 0) .fz, pI (.tmp 7 0) .lst] (h := by first | rfl | (simp +decide only [ak, akF]; done) | (simp +decide [ak, akF] <;> omega))) ?_
 rw [e_loop]
 refine spec_l6Eligible.l0_walk cs0 o0 l0 hv0 a1 0 ([] : List Int) _ h46 _ ?_
 refine B8x _ ?_
 refine hJ6 _ ?_
 refine sr_k fun J47 hJ47 => ?_
 simp +decide only [reduceAdd, reduceMul, reduceToNat, ak]
 refine hJ47 _ ?_
 obtain rfl := Option.some.inj h
 refine hKr _ ⟨_, rfl, [⟨(.tmp 7 0), [], none, .lst⟩], _, rfl, rfl, ?_⟩
 exact cl
/-! ### spec.l6Least: function 118 -/
def C118 : AC := .sr [.o (.mv 6 (.k 0)), .keep [0, 1, 2]] (.seq (.ga (.sr [.m 7 1, .m 8 0, .o (.bin 9 .lss (.t 7) (.t 8)), .keep [0, 1, 2, 9]] (.cond (.t 9) (.reg [.m 10 1, .m 0 10, .keep [0, 2]]) (.skip)))) (.seq (.ga (.sr [.m 11 2, .m 12 0, .o (.bin 13 .lss (.t 11) (.t 12)), .keep [0, 2, 13]] (.cond (.t 13) (.reg [.m 14 2, .m 0 14, .keep [0]]) (.skip)))) (.sr [.m 15 0, .o (.conv 16 .i64 (.t 15)), .m 6 16, .keep [6]] (.ret))))
def r118 : List RV := [.tmp 6]
theorem k118 : compC Try.prog 17 C118 (Try.f118.body.getD .skip) = some C118.erase := by kernel_rfl
theorem q118 : rvsOf Try.prog Try.f118.results.toList = some r118 := by kernel_rfl
def spec_l6Least.f (a0 : Int) (a1 : Int) (a2 : Int) : Option Int := ((if a1 < a0 then (some a1) else (some a0)) >>= fun (j2 : Int) => ((if a2 < j2 then (some a2) else (some j2)) >>= fun (j8 : Int) => (some (IntKind.i64.wrap j8))))
theorem spec_l6Least.tri (a0 : Int) (a1 : Int) (a2 : Int) (r : Int) (h : spec_l6Least.f a0 a1 a2 = some r) : Tri Try.prog 118 [.c (.sc (.int .u64 a0)), .c (.sc (.int .u64 a1)), .c (.sc (.int .u64 a2))] [] (fun o => o = ⟨.c (.sc (.int .i64 r)), [], [], []⟩) := by
 refine tri_of_body (ac := C118) (xs := r118) Try.func118 (show Try.f118.body = some (Try.f118.body.getD .skip) from rfl) k118 q118 (Nat.le_of_ble_eq_true rfl) ?_
 refine body_of fun K hKn hKr => ?_
 unfold spec_l6Least.f at h
 unfold C118
 simp only [initT, Nat.reduceAdd]
 refine sr_k fun J1 hJ1 => ?_
 simp +decide only [reduceAdd, reduceMul, reduceToNat, ak]
 refine hJ1 _ ?_
 obtain ⟨j2, h3, hn⟩ := of_bind h
 refine seq_j (fun st => st = ⟨[(0, .c (.sc (.int .u64 j2))), (2, .c (.sc (.int .u64 a2)))], [], [], []⟩) (fun J4 hJ4 => ?_) ?_
 ·replace h := h3; clear hn
  refine ga_k fun G5 G5n G5r G5x => ?_
  refine sr_k fun J6 hJ6 => ?_
  simp +decide only [reduceAdd, reduceMul, reduceToNat, ak]
  refine hJ6 _ ?_
  refine cond_k (b := decide (a1 < a0)) rfl (fun c7 => ?_) (fun c7 => ?_)
  ·replace c7 := of_decide_eq_true c7; rw [if_pos c7] at h
   refine reg_k ?_
   simp +decide only [reduceAdd, reduceMul, reduceToNat, ak]
   obtain rfl := Option.some.inj h
   refine G5n _ _ (wk [0, 2] []) (hJ4 _ rfl)
  ·replace c7 := of_decide_eq_false c7; rw [if_neg c7] at h
   obtain rfl := Option.some.inj h
   refine G5n _ _ (wk [0, 2] []) (hJ4 _ rfl)
 ·replace h := hn; clear hn h3
  rintro _ rfl
  obtain ⟨j8, h9, hn⟩ := of_bind h
  refine seq_j (fun st => st = ⟨[(0, .c (.sc (.int .u64 j8)))], [], [], []⟩) (fun J10 hJ10 => ?_) ?_
  ·replace h := h9; clear hn
   refine ga_k fun G11 G11n G11r G11x => ?_
   refine sr_k fun J12 hJ12 => ?_
   simp +decide only [reduceAdd, reduceMul, reduceToNat, ak]
   refine hJ12 _ ?_
   refine cond_k (b := decide (a2 < j2)) rfl (fun c13 => ?_) (fun c13 => ?_)
   ·replace c13 := of_decide_eq_true c13; rw [if_pos c13] at h
    refine reg_k ?_
    simp +decide only [reduceAdd, reduceMul, reduceToNat, ak]
    obtain rfl := Option.some.inj h
    refine G11n _ _ (wk [0] []) (hJ10 _ rfl)
   ·replace c13 := of_decide_eq_false c13; rw [if_neg c13] at h
    obtain rfl := Option.some.inj h
    refine G11n _ _ (wk [0] []) (hJ10 _ rfl)
  ·replace h := hn; clear hn h9
   rintro _ rfl
   refine sr_k fun J14 hJ14 => ?_
   simp +decide only [reduceAdd, reduceMul, reduceToNat, ak]
   refine hJ14 _ ?_
   obtain rfl := Option.some.inj h
   refine hKr _ ⟨_, rfl, [], _, rfl, rfl, ?_⟩
   exact cl
/-! ### spec.l6Rank: function 112 -/
def C112 : AC := .sr [.o (.mv 10 (.k 0)), .keep [0, 1, 2, 3, 4]] (.sr [.m 12 3, .ln 13 12, .m 11 13, .keep [0, 1, 2, 3, 4, 11]] (.seq (.sr [.m 14 0, .keep [1, 2, 3, 4, 11, 14]] (.block 0 (.sr [.o (.bin 16 .eql (.t 14) (.k 1)), .m 15 16, .keep [1, 2, 3, 4, 11, 14, 15]] (.cond (.t 15) (.sr [.m 17 4, .m 18 1, .o (.bin 19 .sub (.t 17) (.t 18)), .m 20 11, .o (.bin 21 .add (.t 19) (.t 20)), .m 22 11, .o (.bin 23 .rem (.t 21) (.t 22)), .m 10 23, .keep [10]] (.ret)) (.sr [.o (.bin 25 .eql (.t 14) (.k 2)), .m 24 25, .keep [2, 3, 4, 11, 24]] (.cond (.t 24) (.sr [.m 26 3, .m 27 4, .ia 28 3 26 27, .fa 29 1 28, .ld 30 1 29, .m 31 11, .o (.bin 32 .mul (.t 30) (.t 31)), .m 33 4, .o (.bin 34 .add (.t 32) (.t 33)), .m 10 34, .keep [10]] (.ret)) (.skip))))))) (.seq (.sr [.m 35 4, .m 36 2, .o (.bin 37 .eql (.t 35) (.t 36)), .keep [4, 37]] (.cond (.t 37) (.sr [.o (.mv 10 (.const (.int .i64 (-1)))), .keep [10]] (.ret)) (.skip))) (.sr [.m 38 4, .m 10 38, .keep [10]] (.ret)))))
def r112 : List RV := [.tmp 10]
theorem k112 : compC Try.prog 39 C112 (Try.f112.body.getD .skip) = some C112.erase := by kernel_rfl
theorem q112 : rvsOf Try.prog Try.f112.results.toList = some r112 := by kernel_rfl
def spec_l6Rank.f (a0 : Int) (a1 : Int) (a2 : Int) (l3 : List S86) (a4 : Int) : Option Int := (if a0 = 1 then (if ¬ (l3.length : Int) = 0 then (some ((IntKind.i64.wrap ((IntKind.i64.wrap (a4 - a1)) + (l3.length : Int))).tmod (l3.length : Int))) else none) else (if a0 = 2 then (if 0 ≤ a4 ∧ a4 < (l3.length : Int) then (some (IntKind.i64.wrap ((IntKind.i64.wrap (((rd z86 l3 a4).f1) * (l3.length : Int))) + a4))) else none) else (if a4 = a2 then (some (-1)) else (some a4))))
theorem spec_l6Rank.tri (cs0 : List Cell) (o0 : Nat) (l3 : List S86) (hv0 : Vw c86 3 cs0 o0 l3) (a0 : Int) (a1 : Int) (a2 : Int) (a4 : Int) (r : Int) (h : spec_l6Rank.f a0 a1 a2 l3 a4 = some r) : Tri Try.prog 112 [.c (.sc (.int .i64 a0)), .c (.sc (.int .i64 a1)), .c (.sc (.int .i64 a2)), .c (.ref (.arg 0) [] o0 l3.length), .c (.sc (.int .i64 a4))] [(.arg 0, ⟨.fz, 3, cs0⟩)] (fun o => o = ⟨.c (.sc (.int .i64 r)), [(.arg 0, ⟨.fz, 3, cs0⟩)], [], []⟩) := by
 refine tri_of_body (ac := C112) (xs := r112) Try.func112 (show Try.f112.body = some (Try.f112.body.getD .skip) from rfl) k112 q112 (Nat.le_of_ble_eq_true rfl) ?_
 refine body_of fun K hKn hKr => ?_
 unfold spec_l6Rank.f at h
 unfold C112
 simp only [initT, Nat.reduceAdd]
 refine sr_k fun J1 hJ1 => ?_
 simp +decide only [reduceAdd, reduceMul, reduceToNat, ak]
 refine hJ1 _ ?_
 refine sr_k fun J2 hJ2 => ?_
 simp +decide only [reduceAdd, reduceMul, reduceToNat, ak]
 refine hJ2 _ ?_
 refine seq_k fun J3 hJ3 => ?_
 refine sr_k fun J4 hJ4 => ?_
 simp +decide only [reduceAdd, reduceMul, reduceToNat, ak]
 refine hJ4 _ ?_
 refine block_k fun B5 B5n B5x B5r B5j => ?_
 refine sr_k fun J6 hJ6 => ?_
 simp +decide only [reduceAdd, reduceMul, reduceToNat, ak]
 refine hJ6 _ ?_
 refine cond_k (b := decide (a0 = 1)) rfl (fun c7 => ?_) (fun c7 => ?_)
 ·replace c7 := of_decide_eq_true c7; rw [if_pos c7] at h
  refine sr_k fun J8 hJ8 => ?_
  obtain ⟨b9, h⟩ := of_guard h
  simp +decide only [reduceAdd, reduceMul, reduceToNat, ak, b9]
  refine hJ8 _ ?_
  refine B5r _ ?_
  obtain rfl := Option.some.inj h
  refine hKr _ ⟨_, rfl, [], _, rfl, rfl, ?_⟩
  exact cl
 ·replace c7 := of_decide_eq_false c7; rw [if_neg c7] at h
  refine sr_k fun J10 hJ10 => ?_
  simp +decide only [reduceAdd, reduceMul, reduceToNat, ak]
  refine hJ10 _ ?_
  refine cond_k (b := decide (a0 = 2)) rfl (fun c11 => ?_) (fun c11 => ?_)
  ·replace c11 := of_decide_eq_true c11; rw [if_pos c11] at h
   refine sr_k fun J12 hJ12 => ?_
   obtain ⟨b13, h⟩ := of_guard h
   have g14 : o0 + a4.toNat * 3 + 1 ≤ (cs0).length := (hv0.len_le b13.1 b13.2 (by decide))
   have g15 : (cs0)[o0 + a4.toNat * 3 + 1]? = some (.sc (.int .i64 ((rd z86 l3 a4).f1))) := hv0.get z86 1 b13.1 b13.2 (by decide)
   simp +decide only [reduceAdd, reduceMul, reduceToNat, ak, b13, g14, g15]
   refine hJ12 _ ?_
   refine B5r _ ?_
   obtain rfl := Option.some.inj h
   refine hKr _ ⟨_, rfl, [], _, rfl, rfl, ?_⟩
   exact cl
  ·replace c11 := of_decide_eq_false c11; rw [if_neg c11] at h
   refine B5n _ ?_
   refine hJ3 _ ?_
   refine seq_k fun J16 hJ16 => ?_
   refine sr_k fun J17 hJ17 => ?_
   simp +decide only [reduceAdd, reduceMul, reduceToNat, ak]
   refine hJ17 _ ?_
   refine cond_k (b := decide (a4 = a2)) rfl (fun c18 => ?_) (fun c18 => ?_)
   ·replace c18 := of_decide_eq_true c18; rw [if_pos c18] at h
    refine sr_k fun J19 hJ19 => ?_
    simp +decide only [reduceAdd, reduceMul, reduceToNat, ak]
    refine hJ19 _ ?_
    obtain rfl := Option.some.inj h
    refine hKr _ ⟨_, rfl, [], _, rfl, rfl, ?_⟩
    exact cl
   ·replace c18 := of_decide_eq_false c18; rw [if_neg c18] at h
    refine hJ16 _ ?_
    refine sr_k fun J20 hJ20 => ?_
    simp +decide only [reduceAdd, reduceMul, reduceToNat, ak]
    refine hJ20 _ ?_
    obtain rfl := Option.some.inj h
    refine hKr _ ⟨_, rfl, [], _, rfl, rfl, ?_⟩
    exact cl
/-! ### spec.l6Pick: function 79 -/
def C79_l0 : AC := .seq (.sr [.m 30 14, .m 31 12, .ln 32 31, .o (.bin 33 .lss (.t 30) (.t 32)), .keep [0, 1, 2, 3, 12, 13, 14, 33]] (.cond (.t 33) (.skip) (.gh (.exit 0)))) (.seq (.ga (.block 1 (.sr [.m 36 0, .m 37 1, .m 38 2, .m 39 3, .m 40 12, .m 41 14, .ia 42 1 40 41, .ld 43 1 42, .call none (some 44) 112 [.tmp 36, .tmp 37, .tmp 38, .tmp 39, .tmp 43], .m 45 0, .m 46 1, .m 47 2, .m 48 3, .m 49 13, .call none (some 50) 112 [.tmp 45, .tmp 46, .tmp 47, .tmp 48, .tmp 49], .o (.bin 51 .lss (.t 44) (.t 50)), .keep [0, 1, 2, 3, 12, 13, 14, 51]] (.cond (.t 51) (.reg [.m 52 12, .m 53 14, .ia 54 1 52 53, .ld 55 1 54, .m 13 55, .keep [0, 1, 2, 3, 12, 13, 14]]) (.skip))))) (.reg [.m 34 14, .o (.bin 35 .add (.t 34) (.k 1)), .m 14 35, .keep [0, 1, 2, 3, 12, 13, 14]]))
def C79 : AC := .sr [.o (.mv 10 (.const (.slice none 0 0))), .gh, .o (.mv 11 (.k 0)), .keep [0, 1, 2, 3, 4]] (.sr [.m 15 3, .m 16 4, .call none (some 17) 111 [.tmp 15, .tmp 16], .m 12 17, .keep [0, 1, 2, 3, 12]] (.seq (.seq (.ga (.reg [.m 18 0, .o (.bin 19 .eql (.t 18) (.k 3)), .m 20 19, .op (some (20, false)) (.mv 21 (.t 12)), .op (some (20, false)) (.len 22 (.t 21)), .op (some (20, false)) (.bin 23 .eql (.t 22) (.k 0)), .o (.pick 24 (.t 20) (.const (.bool true)) (.t 23)), .keep [0, 1, 2, 3, 12, 24]])) (.cond (.t 24) (.sr [.m 25 12, .m 26 1, .m 10 25, .m 11 26, .keep [10, 11]] (.ret)) (.skip))) (.sr [.m 27 12, .o (.iaddr 28 1 (.t 27) (.k 0)), .ld 29 1 28, .m 13 29, .keep [0, 1, 2, 3, 12, 13]] (.seq (.sr [.o (.mv 14 (.k 0)), .keep [0, 1, 2, 3, 12, 13, 14]] (.block 0 (.gh (.loop (.ga C79_l0))))) (.seq (.ga (.sr [.m 56 0, .o (.bin 57 .eql (.t 56) (.k 1)), .keep [1, 3, 13, 57]] (.cond (.t 57) (.reg [.m 58 13, .o (.bin 59 .add (.t 58) (.k 1)), .m 60 3, .ln 61 60, .o (.bin 62 .rem (.t 59) (.t 61)), .m 1 62, .keep [1, 13]]) (.skip)))) (.sr [.m 63 13, .o (.bslice 64 1 [.int .i64 0] 1 [(0, .tmp 63)]), .m 65 1, .m 10 64, .m 11 65, .keep [10, 11]] (.ret)))))))
def r79 : List RV := [.tmp 10, .tmp 11]
theorem k79 : compC Try.prog 66 C79 (Try.f79.body.getD .skip) = some C79.erase := by kernel_rfl
theorem q79 : rvsOf Try.prog Try.f79.results.toList = some r79 := by kernel_rfl
def spec_l6Pick.l0 (l3 : List S86) (x0_0 : Int) (x0_1 : Int) (x0_2 : Int) (x0_5 : (List Int)) (x0_3 : Int) (x0_4 : Int) : Option Int := (if x0_4 < (x0_5.length : Int) then ((if 0 ≤ x0_4 ∧ x0_4 < (x0_5.length : Int) then (spec_l6Rank.f x0_0 x0_1 x0_2 l3 (rd 0 x0_5 x0_4) >>= fun t33 => (spec_l6Rank.f x0_0 x0_1 x0_2 l3 x0_3 >>= fun t36 => (if t33 < t36 then (some (rd 0 x0_5 x0_4)) else (some x0_3)))) else none) >>= fun (j25 : Int) => (spec_l6Pick.l0 l3 x0_0 x0_1 x0_2 x0_5 j25 (IntKind.i64.wrap (x0_4 + 1)))) else (some x0_3))
 partial_fixpoint
def spec_l6Pick.f (a0 : Int) (a1 : Int) (a2 : Int) (l3 : List S86) (a4 : Int) : Option ((List Int) × Int) := (spec_l6Eligible.f l3 a4 >>= fun t3 => ((if a0 = 3 then (some true) else (some (decide ((t3.length : Int) = 0)))) >>= fun (j7 : Bool) => (if j7 = true then (some (t3, a1)) else (if (0 : Int) ≤ 0 ∧ 0 < (t3.length : Int) then (spec_l6Pick.l0 l3 a0 a1 a2 t3 (rd 0 t3 0) 0 >>= fun (y40 : Int) => ((if a0 = 1 then (if ¬ (l3.length : Int) = 0 then (some ((IntKind.i64.wrap (y40 + 1)).tmod (l3.length : Int))) else none) else (some a1)) >>= fun (j42 : Int) => (some (([y40] : List Int), j42)))) else none))))
def spec_l6Pick.l0_M (cs0 : List Cell) (o0 : Nat) (l3 : List S86) (hv0 : Vw c86 3 cs0 o0 l3) (x0_0 : Int) (x0_1 : Int) (x0_2 : Int) (x0_5 : (List Int)) (x0_3 : Int) (x0_4 : Int) (y : Int) : Prop := ∀ (K : AE → St → Prop), (K (.exit 0) ⟨[(0, .c (.sc (.int .i64 x0_0))), (1, .c (.sc (.int .i64 x0_1))), (3, .c (.ref (.arg 0) [] o0 l3.length)), (13, .c (.sc (.int .i64 y)))], [(.arg 0, ⟨.fz, 3, cs0⟩)], [], []⟩) → loopS Try.prog 66 (.ga C79_l0) K ⟨[(0, .c (.sc (.int .i64 x0_0))), (1, .c (.sc (.int .i64 x0_1))), (2, .c (.sc (.int .i64 x0_2))), (3, .c (.ref (.arg 0) [] o0 l3.length)), (12, .c (.ref (.tmp 17 0) [] 0 x0_5.length)), (13, .c (.sc (.int .i64 x0_3))), (14, .c (.sc (.int .i64 x0_4)))], [(.arg 0, ⟨.fz, 3, cs0⟩), (.tmp 17 0, ⟨.lst, 1, encL c_i64 x0_5⟩)], [], []⟩
theorem spec_l6Pick.l0_walk (cs0 : List Cell) (o0 : Nat) (l3 : List S86) (hv0 : Vw c86 3 cs0 o0 l3) (x0_0 : Int) (x0_1 : Int) (x0_2 : Int) (x0_5 : (List Int)) (x0_3 : Int) (x0_4 : Int) (y : Int) (h : spec_l6Pick.l0 l3 x0_0 x0_1 x0_2 x0_5 x0_3 x0_4 = some y) : spec_l6Pick.l0_M cs0 o0 l3 hv0 x0_0 x0_1 x0_2 x0_5 x0_3 x0_4 y := by
 refine spec_l6Pick.l0.partial_correctness l3 x0_0 x0_1 x0_2 x0_5 (motive := fun x0_3 x0_4 y => spec_l6Pick.l0_M cs0 o0 l3 hv0 x0_0 x0_1 x0_2 x0_5 x0_3 x0_4 y) ?_ x0_3 x0_4 y h
 clear h
 unfold spec_l6Pick.l0_M
 intro rec ih x0_3 x0_4 y h K hx0
 refine loop_unroll (ga_k fun G0 G0n G0r G0x => ?_)
 unfold C79_l0
 refine seq_k fun J22 hJ22 => ?_
 refine sr_k fun J23 hJ23 => ?_
 simp +decide only [reduceAdd, reduceMul, reduceToNat, ak]
 refine hJ23 _ ?_
 refine cond_k (b := decide (x0_4 < (x0_5.length : Int))) rfl (fun c24 => ?_) (fun c24 => ?_)
 ·replace c24 := of_decide_eq_true c24; rw [if_pos c24] at h
  refine hJ22 _ ?_
  obtain ⟨j25, h26, hn⟩ := of_bind h
  refine seq_j (fun st => st = ⟨[(0, .c (.sc (.int .i64 x0_0))), (1, .c (.sc (.int .i64 x0_1))), (2, .c (.sc (.int .i64 x0_2))), (3, .c (.ref (.arg 0) [] o0 l3.length)), (12, .c (.ref (.tmp 17 0) [] 0 x0_5.length)), (13, .c (.sc (.int .i64 j25))), (14, .c (.sc (.int .i64 x0_4)))], [(.arg 0, ⟨.fz, 3, cs0⟩), (.tmp 17 0, ⟨.lst, 1, encL c_i64 x0_5⟩)], [], []⟩) (fun J27 hJ27 => ?_) ?_
  ·replace h := h26; clear hn
   refine ga_k fun G28 G28n G28r G28x => ?_
   refine block_k fun B29 B29n B29x B29r B29j => ?_
   refine sr_k fun J30 hJ30 => ?_
   obtain ⟨b31, h⟩ := of_guard h
   have g32 : (encL c_i64 x0_5)[0 + x0_4.toNat * 1]? = some (.sc (.int .i64 (rd 0 x0_5 x0_4))) := (Vw.whole c_i64_w x0_5).get 0 0 b31.1 b31.2 (by decide)
   simp +decide only [reduceAdd, reduceMul, reduceToNat, ak, b31, g32]
   obtain ⟨t33, h34, h⟩ := of_bind h
   refine cm [pI (.arg 0) .fz] (spec_l6Rank.tri (cs0) o0 l3 hv0 x0_0 x0_1 x0_2 (rd 0 x0_5 x0_4) _ h34) (fun hl34 => ?_)
   refine cs (mF (mN ..)) ?_ (s4 := [(.arg 0, ⟨.fz, 3, cs0⟩), (.tmp 17 0, ⟨.lst, 1, encL c_i64 x0_5⟩)])
   simp +decide only [reduceAdd, reduceMul, reduceToNat, ak]
   obtain ⟨t36, h37, h⟩ := of_bind h
   refine cm [pI (.arg 0) .fz] (spec_l6Rank.tri (cs0) o0 l3 hv0 x0_0 x0_1 x0_2 x0_3 _ h37) (fun hl37 => ?_)
   refine cs (mF (mN ..)) ?_ (s4 := [(.arg 0, ⟨.fz, 3, cs0⟩), (.tmp 17 0, ⟨.lst, 1, encL c_i64 x0_5⟩)])
   simp +decide only [reduceAdd, reduceMul, reduceToNat, ak]
   refine hJ30 _ ?_
   refine cond_k (b := decide (t33 < t36)) rfl (fun c39 => ?_) (fun c39 => ?_)
   ·replace c39 := of_decide_eq_true c39; rw [if_pos c39] at h
    refine reg_k ?_
    simp +decide only [reduceAdd, reduceMul, reduceToNat, ak, b31, g32]
    refine B29n _ ?_
    obtain rfl := Option.some.inj h
    refine G28n _ _ (wk [0, 1, 2, 3, 12, 13, 14] [pI (.arg 0) .fz, pI (.tmp 17 0) .lst]) (hJ27 _ rfl)
   ·replace c39 := of_decide_eq_false c39; rw [if_neg c39] at h
    refine B29n _ ?_
    obtain rfl := Option.some.inj h
    refine G28n _ _ (wk [0, 1, 2, 3, 12, 13, 14] [pI (.arg 0) .fz, pI (.tmp 17 0) .lst]) (hJ27 _ rfl)
  ·replace h := hn; clear hn h26
   rintro _ rfl
   refine reg_k ?_
   simp +decide only [reduceAdd, reduceMul, reduceToNat, ak]
   refine G0n _ _ (wk [0, 1, 2, 3, 12, 13, 14] [pI (.arg 0) .fz, pI (.tmp 17 0) .lst]) (ih _ _ _ h K hx0)
 ·replace c24 := of_decide_eq_false c24; rw [if_neg c24] at h
  obtain rfl := Option.some.inj h
  refine gh_k (wk [0, 1, 3, 13] [pI (.arg 0) .fz]) ?_
  refine G0x _ _ ?_
  exact hx0
theorem spec_l6Pick.tri (cs0 : List Cell) (o0 : Nat) (l3 : List S86) (hv0 : Vw c86 3 cs0 o0 l3) (a0 : Int) (a1 : Int) (a2 : Int) (a4 : Int) (r : (List Int) × Int) (h : spec_l6Pick.f a0 a1 a2 l3 a4 = some r) : Tri Try.prog 79 [.c (.sc (.int .i64 a0)), .c (.sc (.int .i64 a1)), .c (.sc (.int .i64 a2)), .c (.ref (.arg 0) [] o0 l3.length), .c (.sc (.int .i64 a4))] [(.arg 0, ⟨.fz, 3, cs0⟩)] (fun o => o = ⟨.tup [(false, [.ref (.res 0) [] 0 r.1.length]), (false, [.sc (.int .i64 r.2)])], [(.arg 0, ⟨.fz, 3, cs0⟩), (.res 0, ⟨.lst, 1, encL c_i64 r.1⟩)], [], []⟩) := by
 refine tri_of_body (ac := C79) (xs := r79) Try.func79 (show Try.f79.body = some (Try.f79.body.getD .skip) from rfl) k79 q79 (Nat.le_of_ble_eq_true rfl) ?_
 refine body_of fun K hKn hKr => ?_
 unfold spec_l6Pick.f at h
 unfold C79
 simp only [initT, Nat.reduceAdd]
 refine sr_k fun J1 hJ1 => ?_
 simp +decide only [reduceAdd, reduceMul, reduceToNat, ak]
 refine gho_k (Weak.nm' 10 (.tmp 10 20) 1 (encL c_i64 ([] : List Int)) rfl rfl rfl) ?_
 simp +decide only [reduceAdd, reduceMul, reduceToNat, ak]
 refine hJ1 _ ?_
 refine sr_k fun J2 hJ2 => ?_
 simp +decide only [reduceAdd, reduceMul, reduceToNat, ak]
 obtain ⟨t3, h4, h⟩ := of_bind h
 refine cm [pI (.arg 0) .fz] (spec_l6Eligible.tri (cs0) o0 l3 hv0 a4 _ h4) (fun hl4 => ?_)
 refine ct (.c (.ref (.tmp 17 0) [] 0 t3.length)) (mF (mN ..)) ?_ (s4 := [(.arg 0, ⟨.fz, 3, cs0⟩), (.tmp 10 20, ⟨.lst, 1, encL c_i64 ([] : List Int)⟩), (.tmp 17 0, ⟨.lst, 1, encL c_i64 t3⟩)])
 simp +decide only [reduceAdd, reduceMul, reduceToNat, ak]
 refine hJ2 _ ?_
 refine seq_k fun J6 hJ6 => ?_
 obtain ⟨j7, h8, hn⟩ := of_bind h
 refine seq_j (fun st => st = ⟨[(0, .c (.sc (.int .i64 a0))), (1, .c (.sc (.int .i64 a1))), (2, .c (.sc (.int .i64 a2))), (3, .c (.ref (.arg 0) [] o0 l3.length)), (12, .c (.ref (.tmp 17 0) [] 0 t3.length)), (24, .c (.sc (.bool j7)))], [(.arg 0, ⟨.fz, 3, cs0⟩), (.tmp 17 0, ⟨.lst, 1, encL c_i64 t3⟩)], [], []⟩) (fun J9 hJ9 => ?_) ?_
 ·replace h := h8; clear hn
  refine ga_k fun G10 G10n G10r G10x => ?_
  refine reg_k ?_
  simp +decide only [reduceAdd, reduceMul, reduceToNat, ak]
  by_cases c11 : a0 = 3
  ·rw [if_pos c11] at h
   have e12 : decide (a0 = 3) = true := decide_eq_true c11
   simp +decide only [reduceAdd, reduceMul, reduceToNat, ak, e12]
   obtain rfl := Option.some.inj h
   refine G10n _ _ (wj [0, 1, 2, 3, 12, 24] [pI (.arg 0) .fz, pI (.tmp 17 0) .lst]) (hJ9 _ rfl)
  ·rw [if_neg c11] at h
   have e13 : decide (a0 = 3) = false := decide_eq_false c11
   simp +decide only [reduceAdd, reduceMul, reduceToNat, ak, e13]
   obtain rfl := Option.some.inj h
   refine G10n _ _ (wj [0, 1, 2, 3, 12, 24] [pI (.arg 0) .fz, pI (.tmp 17 0) .lst]) (hJ9 _ rfl)
 ·replace h := hn; clear hn h8
  rintro _ rfl
  refine cond_k (b := j7) rfl (fun c14 => ?_) (fun c14 => ?_)
  ·rw [if_pos c14] at h
   refine sr_k fun J15 hJ15 => ?_
   simp +decide only [reduceAdd, reduceMul, reduceToNat, ak]
   refine hJ15 _ ?_
   obtain rfl := Option.some.inj h
   refine hKr _ ⟨_, rfl, [⟨(.tmp 17 0), [], none, .lst⟩], _, rfl, rfl, ?_⟩
   exact cl
  ·rw [if_neg (Bool.eq_false_iff.1 c14)] at h
   refine hJ6 _ ?_
   refine sr_k fun J16 hJ16 => ?_
   obtain ⟨b17, h⟩ := of_guard h
   have g18 : (encL c_i64 t3)[0]? = some (.sc (.int .i64 (rd 0 t3 0))) := (by have := (Vw.whole c_i64_w t3).get 0 0 b17.1 b17.2 (by decide); first | exact this | simpa using this)
   simp +decide only [reduceAdd, reduceMul, reduceToNat, ak, b17, g18]
   refine hJ16 _ ?_
   refine seq_k fun J19 hJ19 => ?_
   refine sr_k fun J20 hJ20 => ?_
   simp +decide only [reduceAdd, reduceMul, reduceToNat, ak]
   refine hJ20 _ ?_
   refine block_k fun B21 B21n B21x B21r B21j => ?_
   obtain ⟨y40, h41, h⟩ := of_bind h
   refine gh_k (wk [0, 1, 2, 3, 12, 13, 14] [pI (.arg 0) .fz, pI (.tmp 17 0) .lst]) ?_
   rw [e_loop]
   refine spec_l6Pick.l0_walk cs0 o0 l3 hv0 a0 a1 a2 t3 (rd 0 t3 0) 0 _ h41 _ ?_
   refine B21x _ ?_
   refine hJ19 _ ?_
   obtain ⟨j42, h43, hn⟩ := of_bind h
   refine seq_j (fun st => st = ⟨[(1, .c (.sc (.int .i64 j42))), (13, .c (.sc (.int .i64 y40)))], [(.arg 0, ⟨.fz, 3, cs0⟩)], [], []⟩) (fun J44 hJ44 => ?_) ?_
   ·replace h := h43; clear hn
    refine ga_k fun G45 G45n G45r G45x => ?_
    refine sr_k fun J46 hJ46 => ?_
    simp +decide only [reduceAdd, reduceMul, reduceToNat, ak]
    refine hJ46 _ ?_
    refine cond_k (b := decide (a0 = 1)) rfl (fun c47 => ?_) (fun c47 => ?_)
    ·replace c47 := of_decide_eq_true c47; rw [if_pos c47] at h
     refine reg_k ?_
     obtain ⟨b48, h⟩ := of_guard h
     simp +decide only [reduceAdd, reduceMul, reduceToNat, ak, b48]
     obtain rfl := Option.some.inj h
     refine G45n _ _ (wk [1, 13] [pI (.arg 0) .fz]) (hJ44 _ rfl)
    ·replace c47 := of_decide_eq_false c47; rw [if_neg c47] at h
     obtain rfl := Option.some.inj h
     refine G45n _ _ (wk [1, 13] [pI (.arg 0) .fz]) (hJ44 _ rfl)
   ·replace h := hn; clear hn h43
    rintro _ rfl
    refine sr_k fun J49 hJ49 => ?_
    have g50 : (List.replicate 1 ([.int .i64 0] : List Value)).flatten = [.int .i64 0] := rfl
    have g51 : (⟨.lst, 1, [.sc (.int .i64 y40)]⟩ : Root) = ⟨.lst, 1, encL c_i64 ([y40] : List Int)⟩ := rfl
    have g52 : ([y40] : List Int).length = 1 := rfl
    simp +decide only [reduceAdd, reduceMul, reduceToNat, ak, g50, g51, g52]
    refine hJ49 _ ?_
    obtain rfl := Option.some.inj h
    refine hKr _ ⟨_, rfl, [⟨(.tmp 64 0), [], none, .lst⟩], _, rfl, rfl, ?_⟩
    exact cl
/-! ### spec.l6Plan: function 87 -/
def C87_l0 : AC := .seq (.seq (.ga (.reg [.m 10 5, .fa 11 4 1, .ld 12 1 11, .ln 13 12, .o (.bin 14 .lss (.t 10) (.t 13)), .m 15 14, .op (some (15, true)) (.faddr 16 0 (.t 3)), .op (some (15, true)) (.load 17 false 1 (.t 16)), .op (some (15, true)) (.bin 18 .eql (.t 17) (.k 0)), .o (.pick 19 (.t 15) (.t 18) (.const (.bool false))), .keep [1, 2, 3, 4, 5, 19]])) (.cond (.t 19) (.skip) (.gh (.exit 0)))) (.seq (.ga (.block 1 (.sr [.fa 22 4 1, .ld 23 1 22, .m 24 5, .ia 25 5 23 24, .o (.load 26 true 5 (.t 25)), .o (.alloc 6 [.int .u64 0, .int .i64 0, .int .i64 0, .int .i64 0, .int .i64 0]), .st 5 6 26, .keep [1, 2, 3, 4, 5, 6]] (.seq (.ga (.reg [.fa 27 4 6, .ld 28 1 27, .o (.bin 29 .eql (.t 28) (.k 1)), .m 30 29, .op (some (30, true)) (.faddr 31 3 (.t 1)), .op (some (30, true)) (.load 32 false 1 (.t 31)), .op (some (30, true)) (.faddr 33 3 (.t 6)), .op (some (30, true)) (.load 34 false 1 (.t 33)), .call (some (30, true)) (some 35) 111 [.tmp 32, .tmp 34], .op (some (30, true)) (.len 36 (.t 35)), .op (some (30, true)) (.bin 37 .gtr (.t 36) (.k 0)), .o (.pick 38 (.t 30) (.t 37) (.const (.bool false))), .keep [1, 2, 3, 4, 5, 6, 38]])) (.cond (.t 38) (.sr [.m 39 5, .fa 40 0 6, .ld 41 1 40, .fa 42 1 6, .ld 43 1 42, .o (.build 44 [.int .i64 0, .int .i64 0, .int .u64 0, .int .i64 0, .slice none 0 0, .int .i64 0, .int .i64 0] [(0, 1, .const (.int .i64 1)), (1, 1, .tmp 39), (2, 1, .tmp 41), (3, 1, .tmp 43)]), .gh, .st 7 3 44, .keep [1, 2, 3, 5, 6]] (.reg [.fa 45 3 6, .ld 46 1 45, .m 4 46, .keep [1, 2, 3, 4, 5]])) (.skip)))))) (.reg [.m 20 5, .o (.bin 21 .add (.t 20) (.k 1)), .m 5 21, .keep [1, 2, 3, 4, 5]]))
def C87 : AC := .sr [.o (.box 1 (.t 0)), .o (.alloc 2 [.int .i64 0, .int .i64 0, .int .u64 0, .int .i64 0, .slice none 0 0, .int .i64 0, .int .i64 0]), .gh, .keep [1, 2]] (.sr [.o (.build 9 [.int .i64 0, .int .i64 0, .int .u64 0, .int .i64 0, .slice none 0 0, .int .i64 0, .int .i64 0] []), .gh, .o (.alloc 3 [.int .i64 0, .int .i64 0, .int .u64 0, .int .i64 0, .slice none 0 0, .int .i64 0, .int .i64 0]), .gh, .st 7 3 9, .keep [1, 2, 3]] (.sr [.o (.mv 4 (.k 0)), .keep [1, 2, 3, 4]] (.seq (.sr [.o (.mv 5 (.k 0)), .keep [1, 2, 3, 4, 5]] (.block 0 (.gh (.loop (.ga C87_l0))))) (.seq (.ga (.reg [.fa 47 0 3, .ld 48 1 47, .o (.bin 49 .eql (.t 48) (.k 0)), .m 50 49, .op (some (50, true)) (.faddr 51 4 (.t 1)), .op (some (50, true)) (.load 52 false 1 (.t 51)), .op (some (50, true)) (.len 53 (.t 52)), .op (some (50, true)) (.faddr 54 5 (.t 1)), .op (some (50, true)) (.load 55 false 1 (.t 54)), .op (some (50, true)) (.bin 56 .lss (.t 53) (.t 55)), .o (.pick 57 (.t 50) (.t 56) (.const (.bool false))), .m 58 57, .op (some (58, true)) (.faddr 59 3 (.t 1)), .op (some (58, true)) (.load 60 false 1 (.t 59)), .call (some (58, true)) (some 61) 111 [.tmp 60, .const (.int .i64 0)], .op (some (58, true)) (.len 62 (.t 61)), .op (some (58, true)) (.bin 63 .gtr (.t 62) (.k 0)), .o (.pick 64 (.t 58) (.t 63) (.const (.bool false))), .m 7 64, .keep [1, 2, 3, 4, 7]])) (.seq (.ga (.seq (.ga (.reg [.m 65 7, .m 66 65, .op (some (66, true)) (.faddr 67 6 (.t 1)), .op (some (66, true)) (.load 68 false 1 (.t 67)), .op (some (66, true)) (.faddr 69 7 (.t 1)), .op (some (66, true)) (.load 70 false 1 (.t 69)), .op (some (66, true)) (.bin 71 .lss (.t 68) (.t 70)), .o (.pick 72 (.t 66) (.t 71) (.const (.bool false))), .m 73 72, .op (some (73, true)) (.faddr 74 6 (.t 1)), .op (some (73, true)) (.load 75 false 1 (.t 74)), .op (some (73, true)) (.faddr 76 8 (.t 1)), .op (some (73, true)) (.load 77 false 1 (.t 76)), .op (some (73, true)) (.bin 78 .lss (.t 75) (.t 77)), .o (.pick 79 (.t 73) (.t 78) (.const (.bool false))), .keep [1, 2, 3, 4, 7, 79]])) (.cond (.t 79) (.regD (.f (.fa 80 6 1) (.f (.fa 82 11 1) (.f (.ld 83 1 82) (.f (.o (.conv 84 .u64 (.t 83))) (.f (.fa 85 7 1) (.f (.ld 86 1 85) (.f (.fa 87 6 1) (.f (.ld 88 1 87) (.f (.o (.bin 89 .sub (.t 86) (.t 88))) (.f (.fa 90 8 1) (.f (.ld 91 1 90) (.f (.fa 92 6 1) (.f (.ld 93 1 92) (.f (.o (.bin 94 .sub (.t 91) (.t 93))) (.pin [17, 16] (.ld 81 1 80) (.alt (.call none (some 95) 118 [.tmp 84, .tmp 89, .tmp 94]) none (.alt (.o (.build 96 [.int .i64 0, .int .i64 0, .int .u64 0, .int .i64 0, .slice none 0 0, .int .i64 0, .int .i64 0] [(0, 1, .const (.int .i64 2)), (2, 1, .tmp 81), (3, 1, .tmp 95)])) (some 16) (.gh (.alt (.st 7 3 96) none (.done) (.stop))) (.stop)) (.stop))))))))))))))))) [1, 2, 3, 4]) (.seq (.ga (.reg [.m 97 7, .m 98 97, .op (some (98, true)) (.faddr 99 9 (.t 1)), .op (some (98, true)) (.load 100 false 1 (.t 99)), .op (some (98, true)) (.bin 101 .eql (.t 100) (.k 1)), .o (.pick 102 (.t 98) (.t 101) (.const (.bool false))), .m 103 102, .op (some (103, true)) (.faddr 104 10 (.t 1)), .op (some (103, true)) (.load 105 false 1 (.t 104)), .op (some (103, true)) (.bin 106 .eql (.t 105) (.k 0)), .o (.pick 107 (.t 103) (.t 106) (.const (.bool false))), .m 108 107, .op (some (108, true)) (.faddr 109 6 (.t 1)), .op (some (108, true)) (.load 110 false 1 (.t 109)), .op (some (108, true)) (.faddr 111 7 (.t 1)), .op (some (108, true)) (.load 112 false 1 (.t 111)), .op (some (108, true)) (.bin 113 .eql (.t 110) (.t 112)), .o (.pick 114 (.t 108) (.t 113) (.const (.bool false))), .keep [1, 2, 3, 4, 114]])) (.cond (.t 114) (.reg [.fa 115 7 1, .ld 116 1 115, .o (.build 117 [.int .i64 0, .int .i64 0, .int .u64 0, .int .i64 0, .slice none 0 0, .int .i64 0, .int .i64 0] [(0, 1, .const (.int .i64 3)), (2, 1, .tmp 116)]), .gh, .st 7 3 117, .keep [1, 2, 3, 4]]) (.skip)))))) (.sr [.fa 118 1 1, .ld 119 1 118, .fa 120 5 3, .st 1 120 119, .keep [1, 2, 3, 4]] (.seq (.sr [.fa 121 0 3, .ld 122 1 121, .o (.bin 123 .eql (.t 122) (.k 0)), .keep [1, 2, 3, 4, 123]] (.cond (.t 123) (.sr [.o (.load 124 true 7 (.t 3)), .st 7 2 124, .keep [2]] (.ret)) (.skip))) (.sr [.o (.mv 8 (.k 0)), .keep [1, 2, 3, 4, 8]] (.seq (.ga (.sr [.fa 125 2 1, .ld 126 1 125, .ln 127 126, .o (.bin 128 .gtr (.t 127) (.k 0)), .keep [1, 2, 3, 4, 8, 128]] (.cond (.t 128) (.sr [.fa 129 2 1, .ld 130 1 129, .o (.iaddr 131 1 (.t 130) (.k 0)), .ld 132 1 131, .m 8 132, .keep [1, 2, 3, 4, 8]] (.sr [.fa 133 0 1, .ld 134 1 133, .o (.bin 135 .eql (.t 134) (.k 4)), .keep [1, 2, 3, 4, 8, 135]] (.cond (.t 135) (.reg [.fa 136 6 3, .o (.store 1 (.t 136) (.k 1)), .keep [1, 2, 3, 4, 8]]) (.skip)))) (.skip)))) (.sr [.fa 138 0 1, .ld 139 1 138, .fa 140 1 1, .ld 141 1 140, .m 142 8, .fa 143 3 1, .ld 144 1 143, .m 145 4, .call none (some 146) 79 [.tmp 139, .tmp 141, .tmp 142, .tmp 144, .tmp 145], .m 137 146, .o (.extr 147 (.t 137) 0), .o (.extr 148 (.t 137) 1), .fa 149 4 3, .st 1 149 147, .fa 150 5 3, .st 1 150 148, .keep [2, 3]] (.sr [.o (.load 151 true 7 (.t 3)), .st 7 2 151, .keep [2]] (.ret))))))))))))
def r87 : List RV := [.cell 2 true 7]
theorem k87 : compC Try.prog 152 C87 (Try.f87.body.getD .skip) = some C87.erase := by kernel_rfl
theorem q87 : rvsOf Try.prog Try.f87.results.toList = some r87 := by kernel_rfl
def spec_l6Plan.l0 (l0_3 : List S86) (l0_4 : List S84) (x0_2 : Int) (x0_3 : Int) (x0_4 : Int) (x0_5 : Int) (x0_6 : Int) (x0_7 : Int) (x0_8 : Int) (x0_9 : Int) (x0_10 : Int) (x0_11 : Int) (x0_12 : Int) (x0_13 : Int) (x0_14 : Int) (x0_15 : (List Int)) (x0_16 : Int) (x0_17 : Int) (x0_0 : Int) (x0_1 : Int) (x0_18 : Int) (x0_19 : Int) (x0_20 : Int) (x0_21 : Int) (x0_22 : (List Int)) (x0_23 : Int) (x0_24 : Int) : Option (Int × Int × Int × Int × Int × (List Int) × Int × Int) := ((if x0_1 < (l0_4.length : Int) then (some (decide (x0_18 = 0))) else (some false)) >>= fun (j9 : Bool) => (if j9 = true then ((if 0 ≤ x0_1 ∧ x0_1 < (l0_4.length : Int) then ((if (rd z84 l0_4 x0_1).f4 = 1 then (spec_l6Eligible.f l0_3 ((rd z84 l0_4 x0_1).f3) >>= fun t31 => (some (decide ((t31.length : Int) > 0)))) else (some false)) >>= fun (j25 : Bool) => (if j25 = true then (some ((rd z84 l0_4 x0_1).f3, 1, x0_1, (rd z84 l0_4 x0_1).f0, (rd z84 l0_4 x0_1).f1, ([] : List Int), 0, 0)) else (some (x0_0, x0_18, x0_19, x0_20, x0_21, x0_22, x0_23, x0_24)))) else none) >>= fun (j17 : Int × Int × Int × Int × Int × (List Int) × Int × Int) => (spec_l6Plan.l0 l0_3 l0_4 x0_2 x0_3 x0_4 x0_5 x0_6 x0_7 x0_8 x0_9 x0_10 x0_11 x0_12 x0_13 x0_14 x0_15 x0_16 x0_17 j17.1 (IntKind.i64.wrap (x0_1 + 1)) j17.2.1 j17.2.2.1 j17.2.2.2.1 j17.2.2.2.2.1 j17.2.2.2.2.2.1 j17.2.2.2.2.2.2.1 j17.2.2.2.2.2.2.2)) else (some (x0_0, x0_18, x0_19, x0_20, x0_21, x0_22, x0_23, x0_24))))
 partial_fixpoint
def spec_l6Plan.f (a0_0 : Int) (a0_1 : Int) (l0_2 : List Int) (l0_3 : List S86) (l0_4 : List S84) (a0_5 : Int) (a0_6 : Int) (a0_7 : Int) (a0_8 : Int) (a0_9 : Int) (a0_10 : Int) (a0_11 : Int) : Option (Int × Int × Int × Int × (List Int) × Int × Int) := (spec_l6Plan.l0 l0_3 l0_4 a0_0 a0_1 a0_5 a0_6 a0_7 a0_8 a0_9 a0_10 a0_11 0 0 0 0 ([] : List Int) 0 0 0 0 0 0 0 0 ([] : List Int) 0 0 >>= fun (y38 : (Int × Int × Int × Int × Int × (List Int) × Int × Int)) => ((if y38.2.1 = 0 then (if (l0_4.length : Int) < a0_5 then (spec_l6Eligible.f l0_3 0 >>= fun t48 => (some (decide ((t48.length : Int) > 0)))) else (some false)) else (some false)) >>= fun (j40 : Bool) => (((if j40 = true then (if a0_6 < a0_7 then (some (true, decide (a0_6 < a0_8))) else (some (true, false))) else (some (false, false))) >>= fun (j57 : Bool × Bool) => (if j57.2 = true then (spec_l6Least.f (IntKind.u64.wrap a0_11) (IntKind.u64.wrap (a0_7 - a0_6)) (IntKind.u64.wrap (a0_8 - a0_6)) >>= fun t68 => (some (2, 0, a0_6, t68, ([] : List Int), 0, 0))) else ((if j57.1 = true then (if a0_9 = 1 then (if a0_10 = 0 then (some (decide (a0_6 = a0_7))) else (some false)) else (some false)) else (some false)) >>= fun (j72 : Bool) => (if j72 = true then (some (3, 0, a0_7, 0, ([] : List Int), 0, 0)) else (some (y38.2.1, y38.2.2.1, y38.2.2.2.1, y38.2.2.2.2.1, y38.2.2.2.2.2.1, y38.2.2.2.2.2.2.1, y38.2.2.2.2.2.2.2)))))) >>= fun (j53 : Int × Int × Int × Int × (List Int) × Int × Int) => (if j53.1 = 0 then (some (j53.1, j53.2.1, j53.2.2.1, j53.2.2.2.1, j53.2.2.2.2.1, a0_1, j53.2.2.2.2.2.2)) else ((if (l0_2.length : Int) > 0 then (if (0 : Int) ≤ 0 ∧ 0 < (l0_2.length : Int) then (if a0_0 = 4 then (some ((rd 0 l0_2 0), 1)) else (some ((rd 0 l0_2 0), j53.2.2.2.2.2.2))) else none) else (some (0, j53.2.2.2.2.2.2))) >>= fun (j92 : Int × Int) => (spec_l6Pick.f a0_0 a0_1 j92.1 l0_3 y38.1 >>= fun t104 => (some (j53.1, j53.2.1, j53.2.2.1, j53.2.2.2.1, t104.1, t104.2, j92.2))))))))
def spec_l6Plan.l0_M (cs0 : List Cell) (o0 : Nat) (l0_2 : List Int) (hv0 : Vw c_i64 1 cs0 o0 l0_2) (cs1 : List Cell) (o1 : Nat) (l0_3 : List S86) (hv1 : Vw c86 3 cs1 o1 l0_3) (cs2 : List Cell) (o2 : Nat) (l0_4 : List S84) (hv2 : Vw c84 5 cs2 o2 l0_4) (x0_2 : Int) (x0_3 : Int) (x0_4 : Int) (x0_5 : Int) (x0_6 : Int) (x0_7 : Int) (x0_8 : Int) (x0_9 : Int) (x0_10 : Int) (x0_11 : Int) (x0_12 : Int) (x0_13 : Int) (x0_14 : Int) (x0_15 : (List Int)) (x0_16 : Int) (x0_17 : Int) (x0_0 : Int) (x0_1 : Int) (x0_18 : Int) (x0_19 : Int) (x0_20 : Int) (x0_21 : Int) (x0_22 : (List Int)) (x0_23 : Int) (x0_24 : Int) (y : (Int × Int × Int × Int × Int × (List Int) × Int × Int)) : Prop := ∀ (K : AE → St → Prop), (K (.exit 0) ⟨[(1, .c (.ptr (.tmp 1 0) [] 0)), (2, .c (.ptr (.tmp 2 0) [] 0)), (3, .c (.ptr (.tmp 3 0) [] 0)), (4, .c (.sc (.int .i64 y.1)))], [(.arg 0, ⟨.fz, 1, cs0⟩), (.arg 1, ⟨.fz, 3, cs1⟩), (.arg 2, ⟨.fz, 5, cs2⟩), (.tmp 1 0, ⟨.box, 0, [.sc (.int .i64 x0_2), .sc (.int .i64 x0_3), .ref (.arg 0) [] o0 l0_2.length, .ref (.arg 1) [] o1 l0_3.length, .ref (.arg 2) [] o2 l0_4.length, .sc (.int .i64 x0_4), .sc (.int .u64 x0_5), .sc (.int .u64 x0_6), .sc (.int .u64 x0_7), .sc (.int .i64 x0_8), .sc (.int .i64 x0_9), .sc (.int .i64 x0_10)]⟩), (.tmp 2 0, ⟨.box, 0, [.sc (.int .i64 x0_11), .sc (.int .i64 x0_12), .sc (.int .u64 x0_13), .sc (.int .i64 x0_14), .own 1 x0_15.length (encL c_i64 x0_15), .sc (.int .i64 x0_16), .sc (.int .i64 x0_17)]⟩), (.tmp 3 0, ⟨.box, 0, [.sc (.int .i64 y.2.1), .sc (.int .i64 y.2.2.1), .sc (.int .u64 y.2.2.2.1), .sc (.int .i64 y.2.2.2.2.1), .own 1 y.2.2.2.2.2.1.length (encL c_i64 y.2.2.2.2.2.1), .sc (.int .i64 y.2.2.2.2.2.2.1), .sc (.int .i64 y.2.2.2.2.2.2.2)]⟩)], [], []⟩) → loopS Try.prog 152 (.ga C87_l0) K ⟨[(1, .c (.ptr (.tmp 1 0) [] 0)), (2, .c (.ptr (.tmp 2 0) [] 0)), (3, .c (.ptr (.tmp 3 0) [] 0)), (4, .c (.sc (.int .i64 x0_0))), (5, .c (.sc (.int .i64 x0_1)))], [(.arg 0, ⟨.fz, 1, cs0⟩), (.arg 1, ⟨.fz, 3, cs1⟩), (.arg 2, ⟨.fz, 5, cs2⟩), (.tmp 1 0, ⟨.box, 0, [.sc (.int .i64 x0_2), .sc (.int .i64 x0_3), .ref (.arg 0) [] o0 l0_2.length, .ref (.arg 1) [] o1 l0_3.length, .ref (.arg 2) [] o2 l0_4.length, .sc (.int .i64 x0_4), .sc (.int .u64 x0_5), .sc (.int .u64 x0_6), .sc (.int .u64 x0_7), .sc (.int .i64 x0_8), .sc (.int .i64 x0_9), .sc (.int .i64 x0_10)]⟩), (.tmp 2 0, ⟨.box, 0, [.sc (.int .i64 x0_11), .sc (.int .i64 x0_12), .sc (.int .u64 x0_13), .sc (.int .i64 x0_14), .own 1 x0_15.length (encL c_i64 x0_15), .sc (.int .i64 x0_16), .sc (.int .i64 x0_17)]⟩), (.tmp 3 0, ⟨.box, 0, [.sc (.int .i64 x0_18), .sc (.int .i64 x0_19), .sc (.int .u64 x0_20), .sc (.int .i64 x0_21), .own 1 x0_22.length (encL c_i64 x0_22), .sc (.int .i64 x0_23), .sc (.int .i64 x0_24)]⟩)], [], []⟩
theorem spec_l6Plan.l0_walk (cs0 : List Cell) (o0 : Nat) (l0_2 : List Int) (hv0 : Vw c_i64 1 cs0 o0 l0_2) (cs1 : List Cell) (o1 : Nat) (l0_3 : List S86) (hv1 : Vw c86 3 cs1 o1 l0_3) (cs2 : List Cell) (o2 : Nat) (l0_4 : List S84) (hv2 : Vw c84 5 cs2 o2 l0_4) (x0_2 : Int) (x0_3 : Int) (x0_4 : Int) (x0_5 : Int) (x0_6 : Int) (x0_7 : Int) (x0_8 : Int) (x0_9 : Int) (x0_10 : Int) (x0_11 : Int) (x0_12 : Int) (x0_13 : Int) (x0_14 : Int) (x0_15 : (List Int)) (x0_16 : Int) (x0_17 : Int) (x0_0 : Int) (x0_1 : Int) (x0_18 : Int) (x0_19 : Int) (x0_20 : Int) (x0_21 : Int) (x0_22 : (List Int)) (x0_23 : Int) (x0_24 : Int) (y : (Int × Int × Int × Int × Int × (List Int) × Int × Int)) (h : spec_l6Plan.l0 l0_3 l0_4 x0_2 x0_3 x0_4 x0_5 x0_6 x0_7 x0_8 x0_9 x0_10 x0_11 x0_12 x0_13 x0_14 x0_15 x0_16 x0_17 x0_0 x0_1 x0_18 x0_19 x0_20 x0_21 x0_22 x0_23 x0_24 = some y) : spec_l6Plan.l0_M cs0 o0 l0_2 hv0 cs1 o1 l0_3 hv1 cs2 o2 l0_4 hv2 x0_2 x0_3 x0_4 x0_5 x0_6 x0_7 x0_8 x0_9 x0_10 x0_11 x0_12 x0_13 x0_14 x0_15 x0_16 x0_17 x0_0 x0_1 x0_18 x0_19 x0_20 x0_21 x0_22 x0_23 x0_24 y := by
 refine spec_l6Plan.l0.partial_correctness l0_3 l0_4 x0_2 x0_3 x0_4 x0_5 x0_6 x0_7 x0_8 x0_9 x0_10 x0_11 x0_12 x0_13 x0_14 x0_15 x0_16 x0_17 (motive := fun x0_0 x0_1 x0_18 x0_19 x0_20 x0_21 x0_22 x0_23 x0_24 y => spec_l6Plan.l0_M cs0 o0 l0_2 hv0 cs1 o1 l0_3 hv1 cs2 o2 l0_4 hv2 x0_2 x0_3 x0_4 x0_5 x0_6 x0_7 x0_8 x0_9 x0_10 x0_11 x0_12 x0_13 x0_14 x0_15 x0_16 x0_17 x0_0 x0_1 x0_18 x0_19 x0_20 x0_21 x0_22 x0_23 x0_24 y) ?_ x0_0 x0_1 x0_18 x0_19 x0_20 x0_21 x0_22 x0_23 x0_24 y h
 clear h
 unfold spec_l6Plan.l0_M
 intro rec ih x0_0 x0_1 x0_18 x0_19 x0_20 x0_21 x0_22 x0_23 x0_24 y h K hx0
 refine loop_unroll (ga_k fun G0 G0n G0r G0x => ?_)
 unfold C87_l0
 refine seq_k fun J8 hJ8 => ?_
 obtain ⟨j9, h10, hn⟩ := of_bind h
 refine seq_j (fun st => st = ⟨[(1, .c (.ptr (.tmp 1 0) [] 0)), (2, .c (.ptr (.tmp 2 0) [] 0)), (3, .c (.ptr (.tmp 3 0) [] 0)), (4, .c (.sc (.int .i64 x0_0))), (5, .c (.sc (.int .i64 x0_1))), (19, .c (.sc (.bool j9)))], [(.arg 0, ⟨.fz, 1, cs0⟩), (.arg 1, ⟨.fz, 3, cs1⟩), (.arg 2, ⟨.fz, 5, cs2⟩), (.tmp 1 0, ⟨.box, 0, [.sc (.int .i64 x0_2), .sc (.int .i64 x0_3), .ref (.arg 0) [] o0 l0_2.length, .ref (.arg 1) [] o1 l0_3.length, .ref (.arg 2) [] o2 l0_4.length, .sc (.int .i64 x0_4), .sc (.int .u64 x0_5), .sc (.int .u64 x0_6), .sc (.int .u64 x0_7), .sc (.int .i64 x0_8), .sc (.int .i64 x0_9), .sc (.int .i64 x0_10)]⟩), (.tmp 2 0, ⟨.box, 0, [.sc (.int .i64 x0_11), .sc (.int .i64 x0_12), .sc (.int .u64 x0_13), .sc (.int .i64 x0_14), .own 1 x0_15.length (encL c_i64 x0_15), .sc (.int .i64 x0_16), .sc (.int .i64 x0_17)]⟩), (.tmp 3 0, ⟨.box, 0, [.sc (.int .i64 x0_18), .sc (.int .i64 x0_19), .sc (.int .u64 x0_20), .sc (.int .i64 x0_21), .own 1 x0_22.length (encL c_i64 x0_22), .sc (.int .i64 x0_23), .sc (.int .i64 x0_24)]⟩)], [], []⟩) (fun J11 hJ11 => ?_) ?_
 ·replace h := h10; clear hn
  refine ga_k fun G12 G12n G12r G12x => ?_
  refine reg_k ?_
  simp +decide only [reduceAdd, reduceMul, reduceToNat, ak]
  by_cases c13 : x0_1 < (l0_4.length : Int)
  ·rw [if_pos c13] at h
   have e14 : decide (x0_1 < (l0_4.length : Int)) = true := decide_eq_true c13
   simp +decide only [reduceAdd, reduceMul, reduceToNat, ak, e14]
   obtain rfl := Option.some.inj h
   refine G12n _ _ (wj [1, 2, 3, 4, 5, 19] [pI (.arg 0) .fz, pI (.arg 1) .fz, pI (.arg 2) .fz, pI (.tmp 1 0) .box, pI (.tmp 2 0) .box, pI (.tmp 3 0) .box]) (hJ11 _ rfl)
  ·rw [if_neg c13] at h
   have e15 : decide (x0_1 < (l0_4.length : Int)) = false := decide_eq_false c13
   simp +decide only [reduceAdd, reduceMul, reduceToNat, ak, e15]
   obtain rfl := Option.some.inj h
   refine G12n _ _ (wj [1, 2, 3, 4, 5, 19] [pI (.arg 0) .fz, pI (.arg 1) .fz, pI (.arg 2) .fz, pI (.tmp 1 0) .box, pI (.tmp 2 0) .box, pI (.tmp 3 0) .box]) (hJ11 _ rfl)
 ·replace h := hn; clear hn h10
  rintro _ rfl
  refine cond_k (b := j9) rfl (fun c16 => ?_) (fun c16 => ?_)
  ·rw [if_pos c16] at h
   refine hJ8 _ ?_
   obtain ⟨j17, h18, hn⟩ := of_bind h
   refine seq_j (fun st => st = ⟨[(1, .c (.ptr (.tmp 1 0) [] 0)), (2, .c (.ptr (.tmp 2 0) [] 0)), (3, .c (.ptr (.tmp 3 0) [] 0)), (4, .c (.sc (.int .i64 j17.1))), (5, .c (.sc (.int .i64 x0_1)))], [(.arg 0, ⟨.fz, 1, cs0⟩), (.arg 1, ⟨.fz, 3, cs1⟩), (.arg 2, ⟨.fz, 5, cs2⟩), (.tmp 1 0, ⟨.box, 0, [.sc (.int .i64 x0_2), .sc (.int .i64 x0_3), .ref (.arg 0) [] o0 l0_2.length, .ref (.arg 1) [] o1 l0_3.length, .ref (.arg 2) [] o2 l0_4.length, .sc (.int .i64 x0_4), .sc (.int .u64 x0_5), .sc (.int .u64 x0_6), .sc (.int .u64 x0_7), .sc (.int .i64 x0_8), .sc (.int .i64 x0_9), .sc (.int .i64 x0_10)]⟩), (.tmp 2 0, ⟨.box, 0, [.sc (.int .i64 x0_11), .sc (.int .i64 x0_12), .sc (.int .u64 x0_13), .sc (.int .i64 x0_14), .own 1 x0_15.length (encL c_i64 x0_15), .sc (.int .i64 x0_16), .sc (.int .i64 x0_17)]⟩), (.tmp 3 0, ⟨.box, 0, [.sc (.int .i64 j17.2.1), .sc (.int .i64 j17.2.2.1), .sc (.int .u64 j17.2.2.2.1), .sc (.int .i64 j17.2.2.2.2.1), .own 1 j17.2.2.2.2.2.1.length (encL c_i64 j17.2.2.2.2.2.1), .sc (.int .i64 j17.2.2.2.2.2.2.1), .sc (.int .i64 j17.2.2.2.2.2.2.2)]⟩)], [], []⟩) (fun J19 hJ19 => ?_) ?_
   ·replace h := h18; clear hn
    refine ga_k fun G20 G20n G20r G20x => ?_
    refine block_k fun B21 B21n B21x B21r B21j => ?_
    refine sr_k fun J22 hJ22 => ?_
    obtain ⟨b23, h⟩ := of_guard h
    have g24 : (List.drop (o2 + x0_1.toNat * 5) (cs2)).take 5 = [.sc (.int .u64 ((rd z84 l0_4 x0_1).f0)), .sc (.int .i64 ((rd z84 l0_4 x0_1).f1)), .sc (.int .i64 ((rd z84 l0_4 x0_1).f2)), .sc (.int .i64 ((rd z84 l0_4 x0_1).f3)), .sc (.int .i64 ((rd z84 l0_4 x0_1).f4))] := hv2.stretch z84 b23.1 b23.2
    simp +decide only [reduceAdd, reduceMul, reduceToNat, ak, b23, g24]
    refine hJ22 _ ?_
    obtain ⟨j25, h26, hn⟩ := of_bind h
    refine seq_j (fun st => st = ⟨[(1, .c (.ptr (.tmp 1 0) [] 0)), (2, .c (.ptr (.tmp 2 0) [] 0)), (3, .c (.ptr (.tmp 3 0) [] 0)), (4, .c (.sc (.int .i64 x0_0))), (5, .c (.sc (.int .i64 x0_1))), (6, .c (.ptr (.tmp 6 0) [] 0)), (38, .c (.sc (.bool j25)))], [(.arg 0, ⟨.fz, 1, cs0⟩), (.arg 1, ⟨.fz, 3, cs1⟩), (.arg 2, ⟨.fz, 5, cs2⟩), (.tmp 1 0, ⟨.box, 0, [.sc (.int .i64 x0_2), .sc (.int .i64 x0_3), .ref (.arg 0) [] o0 l0_2.length, .ref (.arg 1) [] o1 l0_3.length, .ref (.arg 2) [] o2 l0_4.length, .sc (.int .i64 x0_4), .sc (.int .u64 x0_5), .sc (.int .u64 x0_6), .sc (.int .u64 x0_7), .sc (.int .i64 x0_8), .sc (.int .i64 x0_9), .sc (.int .i64 x0_10)]⟩), (.tmp 2 0, ⟨.box, 0, [.sc (.int .i64 x0_11), .sc (.int .i64 x0_12), .sc (.int .u64 x0_13), .sc (.int .i64 x0_14), .own 1 x0_15.length (encL c_i64 x0_15), .sc (.int .i64 x0_16), .sc (.int .i64 x0_17)]⟩), (.tmp 3 0, ⟨.box, 0, [.sc (.int .i64 x0_18), .sc (.int .i64 x0_19), .sc (.int .u64 x0_20), .sc (.int .i64 x0_21), .own 1 x0_22.length (encL c_i64 x0_22), .sc (.int .i64 x0_23), .sc (.int .i64 x0_24)]⟩), (.tmp 6 0, ⟨.box, 0, [.sc (.int .u64 ((rd z84 l0_4 x0_1).f0)), .sc (.int .i64 ((rd z84 l0_4 x0_1).f1)), .sc (.int .i64 ((rd z84 l0_4 x0_1).f2)), .sc (.int .i64 ((rd z84 l0_4 x0_1).f3)), .sc (.int .i64 ((rd z84 l0_4 x0_1).f4))]⟩)], [], []⟩) (fun J27 hJ27 => ?_) ?_
    ·replace h := h26; clear hn
     refine ga_k fun G28 G28n G28r G28x => ?_
     refine reg_k ?_
     simp +decide only [reduceAdd, reduceMul, reduceToNat, ak]
     by_cases c29 : (rd z84 l0_4 x0_1).f4 = 1
     ·rw [if_pos c29] at h
      have e30 : decide ((rd z84 l0_4 x0_1).f4 = 1) = true := decide_eq_true c29
      simp +decide only [reduceAdd, reduceMul, reduceToNat, ak, e30]
      obtain ⟨t31, h32, h⟩ := of_bind h
      refine cm [pN (.arg 0) (.arg 1) .fz] (spec_l6Eligible.tri (cs1) o1 l0_3 hv1 ((rd z84 l0_4 x0_1).f3) _ h32) (fun hl32 => ?_)
      refine ct (.c (.ref (.tmp 35 0) [] 0 t31.length)) (mF (mN ..)) ?_ (s4 := [(.arg 0, ⟨.fz, 1, cs0⟩), (.arg 1, ⟨.fz, 3, cs1⟩), (.arg 2, ⟨.fz, 5, cs2⟩), (.tmp 1 0, ⟨.box, 0, [.sc (.int .i64 x0_2), .sc (.int .i64 x0_3), .ref (.arg 0) [] o0 l0_2.length, .ref (.arg 1) [] o1 l0_3.length, .ref (.arg 2) [] o2 l0_4.length, .sc (.int .i64 x0_4), .sc (.int .u64 x0_5), .sc (.int .u64 x0_6), .sc (.int .u64 x0_7), .sc (.int .i64 x0_8), .sc (.int .i64 x0_9), .sc (.int .i64 x0_10)]⟩), (.tmp 2 0, ⟨.box, 0, [.sc (.int .i64 x0_11), .sc (.int .i64 x0_12), .sc (.int .u64 x0_13), .sc (.int .i64 x0_14), .own 1 x0_15.length (encL c_i64 x0_15), .sc (.int .i64 x0_16), .sc (.int .i64 x0_17)]⟩), (.tmp 3 0, ⟨.box, 0, [.sc (.int .i64 x0_18), .sc (.int .i64 x0_19), .sc (.int .u64 x0_20), .sc (.int .i64 x0_21), .own 1 x0_22.length (encL c_i64 x0_22), .sc (.int .i64 x0_23), .sc (.int .i64 x0_24)]⟩), (.tmp 6 0, ⟨.box, 0, [.sc (.int .u64 ((rd z84 l0_4 x0_1).f0)), .sc (.int .i64 ((rd z84 l0_4 x0_1).f1)), .sc (.int .i64 ((rd z84 l0_4 x0_1).f2)), .sc (.int .i64 ((rd z84 l0_4 x0_1).f3)), .sc (.int .i64 ((rd z84 l0_4 x0_1).f4))]⟩), (.tmp 35 0, ⟨.lst, 1, encL c_i64 t31⟩)])
      simp +decide only [reduceAdd, reduceMul, reduceToNat, ak]
      obtain rfl := Option.some.inj h
      refine G28n _ _ (wj [1, 2, 3, 4, 5, 6, 38] [pI (.arg 0) .fz, pI (.arg 1) .fz, pI (.arg 2) .fz, pI (.tmp 1 0) .box, pI (.tmp 2 0) .box, pI (.tmp 3 0) .box, pI (.tmp 6 0) .box]) (hJ27 _ rfl)
     ·rw [if_neg c29] at h
      have e34 : decide ((rd z84 l0_4 x0_1).f4 = 1) = false := decide_eq_false c29
      simp +decide only [reduceAdd, reduceMul, reduceToNat, ak, e34]
      obtain rfl := Option.some.inj h
      refine G28n _ _ (wj [1, 2, 3, 4, 5, 6, 38] [pI (.arg 0) .fz, pI (.arg 1) .fz, pI (.arg 2) .fz, pI (.tmp 1 0) .box, pI (.tmp 2 0) .box, pI (.tmp 3 0) .box, pI (.tmp 6 0) .box]) (hJ27 _ rfl)
    ·replace h := hn; clear hn h26
     rintro _ rfl
     refine cond_k (b := j25) rfl (fun c35 => ?_) (fun c35 => ?_)
     ·rw [if_pos c35] at h
      refine sr_k fun J36 hJ36 => ?_
      simp +decide only [reduceAdd, reduceMul, reduceToNat, ak]
      refine gho_k (Weak.nmg' 44 4 (.tmp 44 24) 1 (encL c_i64 ([] : List Int)) rfl rfl rfl rfl) ?_
      have g37 : (encL c_i64 ([] : List Int)).length = 0 * 1 := by simp [encL_length c_i64_w]
      simp +decide only [reduceAdd, reduceMul, reduceToNat, ak, g37]
      refine hJ36 _ ?_
      refine reg_k ?_
      simp +decide only [reduceAdd, reduceMul, reduceToNat, ak]
      refine B21n _ ?_
      obtain rfl := Option.some.inj h
      refine G20n _ _ (wj [1, 2, 3, 4, 5] [pI (.arg 0) .fz, pI (.arg 1) .fz, pI (.arg 2) .fz, pI (.tmp 1 0) .box, pI (.tmp 2 0) .box, pI (.tmp 3 0) .box]) (hJ19 _ rfl)
     ·rw [if_neg (Bool.eq_false_iff.1 c35)] at h
      refine B21n _ ?_
      obtain rfl := Option.some.inj h
      refine G20n _ _ (wk [1, 2, 3, 4, 5] [pI (.arg 0) .fz, pI (.arg 1) .fz, pI (.arg 2) .fz, pI (.tmp 1 0) .box, pI (.tmp 2 0) .box, pI (.tmp 3 0) .box]) (hJ19 _ rfl)
   ·replace h := hn; clear hn h18
    rintro _ rfl
    refine reg_k ?_
    simp +decide only [reduceAdd, reduceMul, reduceToNat, ak]
    refine G0n _ _ (wk [1, 2, 3, 4, 5] [pI (.arg 0) .fz, pI (.arg 1) .fz, pI (.arg 2) .fz, pI (.tmp 1 0) .box, pI (.tmp 2 0) .box, pI (.tmp 3 0) .box]) (ih _ _ _ _ _ _ _ _ _ _ h K hx0)
  ·rw [if_neg (Bool.eq_false_iff.1 c16)] at h
   obtain rfl := Option.some.inj h
   refine gh_k (wk [1, 2, 3, 4] [pI (.arg 0) .fz, pI (.arg 1) .fz, pI (.arg 2) .fz, pI (.tmp 1 0) .box, pI (.tmp 2 0) .box, pI (.tmp 3 0) .box]) ?_
   refine G0x _ _ ?_
   exact hx0
theorem spec_l6Plan.tri (cs0 : List Cell) (o0 : Nat) (l0_2 : List Int) (hv0 : Vw c_i64 1 cs0 o0 l0_2) (cs1 : List Cell) (o1 : Nat) (l0_3 : List S86) (hv1 : Vw c86 3 cs1 o1 l0_3) (cs2 : List Cell) (o2 : Nat) (l0_4 : List S84) (hv2 : Vw c84 5 cs2 o2 l0_4) (a0_0 : Int) (a0_1 : Int) (a0_5 : Int) (a0_6 : Int) (a0_7 : Int) (a0_8 : Int) (a0_9 : Int) (a0_10 : Int) (a0_11 : Int) (r : Int × Int × Int × Int × (List Int) × Int × Int) (h : spec_l6Plan.f a0_0 a0_1 l0_2 l0_3 l0_4 a0_5 a0_6 a0_7 a0_8 a0_9 a0_10 a0_11 = some r) : Tri Try.prog 87 [.g [.sc (.int .i64 a0_0), .sc (.int .i64 a0_1), .ref (.arg 0) [] o0 l0_2.length, .ref (.arg 1) [] o1 l0_3.length, .ref (.arg 2) [] o2 l0_4.length, .sc (.int .i64 a0_5), .sc (.int .u64 a0_6), .sc (.int .u64 a0_7), .sc (.int .u64 a0_8), .sc (.int .i64 a0_9), .sc (.int .i64 a0_10), .sc (.int .i64 a0_11)]] [(.arg 0, ⟨.fz, 1, cs0⟩), (.arg 1, ⟨.fz, 3, cs1⟩), (.arg 2, ⟨.fz, 5, cs2⟩)] (fun o => o = ⟨.g [.sc (.int .i64 r.1), .sc (.int .i64 r.2.1), .sc (.int .u64 r.2.2.1), .sc (.int .i64 r.2.2.2.1), .ref (.res 0) [] 0 r.2.2.2.2.1.length, .sc (.int .i64 r.2.2.2.2.2.1), .sc (.int .i64 r.2.2.2.2.2.2)], [(.arg 0, ⟨.fz, 1, cs0⟩), (.arg 1, ⟨.fz, 3, cs1⟩), (.arg 2, ⟨.fz, 5, cs2⟩), (.res 0, ⟨.lst, 1, encL c_i64 r.2.2.2.2.1⟩)], [], []⟩) := by
 refine tri_of_body (ac := C87) (xs := r87) Try.func87 (show Try.f87.body = some (Try.f87.body.getD .skip) from rfl) k87 q87 (Nat.le_of_ble_eq_true rfl) ?_
 refine body_of fun K hKn hKr => ?_
 unfold spec_l6Plan.f at h
 unfold C87
 simp only [initT, Nat.reduceAdd]
 refine sr_k fun J1 hJ1 => ?_
 simp +decide only [reduceAdd, reduceMul, reduceToNat, ak]
 refine gho_k (Weak.own (.tmp 2 0) (cs' := [.sc (.int .i64 0), .sc (.int .i64 0), .sc (.int .u64 0), .sc (.int .i64 0), .own 1 (([] : List Int).length) (encL c_i64 ([] : List Int)), .sc (.int .i64 0), .sc (.int .i64 0)]) rfl ⟨.inl rfl, .inl rfl, .inl rfl, .inl rfl, .inr ⟨rfl, _, rfl⟩, .inl rfl, .inl rfl, trivial⟩) ?_
 simp +decide only [reduceAdd, reduceMul, reduceToNat, ak]
 refine hJ1 _ ?_
 refine sr_k fun J2 hJ2 => ?_
 simp +decide only [reduceAdd, reduceMul, reduceToNat, ak]
 refine gho_k (Weak.nmg' 9 4 (.tmp 9 24) 1 (encL c_i64 ([] : List Int)) rfl rfl rfl rfl) ?_
 simp +decide only [reduceAdd, reduceMul, reduceToNat, ak]
 refine gho_k (Weak.own (.tmp 3 0) (cs' := [.sc (.int .i64 0), .sc (.int .i64 0), .sc (.int .u64 0), .sc (.int .i64 0), .own 1 (([] : List Int).length) (encL c_i64 ([] : List Int)), .sc (.int .i64 0), .sc (.int .i64 0)]) rfl ⟨.inl rfl, .inl rfl, .inl rfl, .inl rfl, .inr ⟨rfl, _, rfl⟩, .inl rfl, .inl rfl, trivial⟩) ?_
 have g3 : (encL c_i64 ([] : List Int)).length = 0 * 1 := by simp [encL_length c_i64_w]
 simp +decide only [reduceAdd, reduceMul, reduceToNat, ak, g3]
 refine hJ2 _ ?_
 refine sr_k fun J4 hJ4 => ?_
 simp +decide only [reduceAdd, reduceMul, reduceToNat, ak]
 refine hJ4 _ ?_
 refine seq_k fun J5 hJ5 => ?_
 refine sr_k fun J6 hJ6 => ?_
 simp +decide only [reduceAdd, reduceMul, reduceToNat, ak]
 refine hJ6 _ ?_
 refine block_k fun B7 B7n B7x B7r B7j => ?_
 obtain ⟨y38, h39, h⟩ := of_bind h
 refine gh_k (st' := ⟨[(1, .c (.ptr (.tmp 1 0) [] 0)), (2, .c (.ptr (.tmp 2 0) [] 0)), (3, .c (.ptr (.tmp 3 0) [] 0)), (4, .c (.sc (.int .i64 0))), (5, .c (.sc (.int .i64 0)))], [(.arg 0, ⟨.fz, 1, cs0⟩), (.arg 1, ⟨.fz, 3, cs1⟩), (.arg 2, ⟨.fz, 5, cs2⟩), (.tmp 1 0, ⟨.box, 0, [.sc (.int .i64 a0_0), .sc (.int .i64 a0_1), .ref (.arg 0) [] o0 l0_2.length, .ref (.arg 1) [] o1 l0_3.length, .ref (.arg 2) [] o2 l0_4.length, .sc (.int .i64 a0_5), .sc (.int .u64 a0_6), .sc (.int .u64 a0_7), .sc (.int .u64 a0_8), .sc (.int .i64 a0_9), .sc (.int .i64 a0_10), .sc (.int .i64 a0_11)]⟩), (.tmp 2 0, ⟨.box, 0, [.sc (.int .i64 0), .sc (.int .i64 0), .sc (.int .u64 0), .sc (.int .i64 0), .own 1 (([] : List Int).length) (encL c_i64 ([] : List Int)), .sc (.int .i64 0), .sc (.int .i64 0)]⟩), (.tmp 3 0, ⟨.box, 0, [.sc (.int .i64 0), .sc (.int .i64 0), .sc (.int .u64 0), .sc (.int .i64 0), .own 1 (([] : List Int).length) (encL c_i64 ([] : List Int)), .sc (.int .i64 0), .sc (.int .i64 0)]⟩)], [], []⟩) (wk [1, 2, 3, 4, 5] [pI (.arg 0) .fz, pI (.arg 1) .fz, pI (.arg 2) .fz, pI (.tmp 1 0) .box, pI (.tmp 2 0) .box, pI (.tmp 3 0) .box] (h := by first | rfl | (simp +decide only [ak, akF]; done) | (simp +decide [ak, akF] <;> omega))) ?_
 rw [e_loop]
 refine spec_l6Plan.l0_walk cs0 o0 l0_2 hv0 cs1 o1 l0_3 hv1 cs2 o2 l0_4 hv2 a0_0 a0_1 a0_5 a0_6 a0_7 a0_8 a0_9 a0_10 a0_11 0 0 0 0 ([] : List Int) 0 0 0 0 0 0 0 0 ([] : List Int) 0 0 _ h39 _ ?_
 refine B7x _ ?_
 refine hJ5 _ ?_
 obtain ⟨j40, h41, hn⟩ := of_bind h
 refine seq_j (fun st => st = ⟨[(1, .c (.ptr (.tmp 1 0) [] 0)), (2, .c (.ptr (.tmp 2 0) [] 0)), (3, .c (.ptr (.tmp 3 0) [] 0)), (4, .c (.sc (.int .i64 y38.1))), (7, .c (.sc (.bool j40)))], [(.arg 0, ⟨.fz, 1, cs0⟩), (.arg 1, ⟨.fz, 3, cs1⟩), (.arg 2, ⟨.fz, 5, cs2⟩), (.tmp 1 0, ⟨.box, 0, [.sc (.int .i64 a0_0), .sc (.int .i64 a0_1), .ref (.arg 0) [] o0 l0_2.length, .ref (.arg 1) [] o1 l0_3.length, .ref (.arg 2) [] o2 l0_4.length, .sc (.int .i64 a0_5), .sc (.int .u64 a0_6), .sc (.int .u64 a0_7), .sc (.int .u64 a0_8), .sc (.int .i64 a0_9), .sc (.int .i64 a0_10), .sc (.int .i64 a0_11)]⟩), (.tmp 2 0, ⟨.box, 0, [.sc (.int .i64 0), .sc (.int .i64 0), .sc (.int .u64 0), .sc (.int .i64 0), .own 1 (([] : List Int).length) (encL c_i64 ([] : List Int)), .sc (.int .i64 0), .sc (.int .i64 0)]⟩), (.tmp 3 0, ⟨.box, 0, [.sc (.int .i64 y38.2.1), .sc (.int .i64 y38.2.2.1), .sc (.int .u64 y38.2.2.2.1), .sc (.int .i64 y38.2.2.2.2.1), .own 1 y38.2.2.2.2.2.1.length (encL c_i64 y38.2.2.2.2.2.1), .sc (.int .i64 y38.2.2.2.2.2.2.1), .sc (.int .i64 y38.2.2.2.2.2.2.2)]⟩)], [], []⟩) (fun J42 hJ42 => ?_) ?_
 ·replace h := h41; clear hn
  refine ga_k fun G43 G43n G43r G43x => ?_
  refine reg_k ?_
  simp +decide only [reduceAdd, reduceMul, reduceToNat, ak]
  by_cases c44 : y38.2.1 = 0
  ·rw [if_pos c44] at h
   have e45 : decide (y38.2.1 = 0) = true := decide_eq_true c44
   simp +decide only [reduceAdd, reduceMul, reduceToNat, ak, e45]
   by_cases c46 : (l0_4.length : Int) < a0_5
   ·rw [if_pos c46] at h
    have e47 : decide ((l0_4.length : Int) < a0_5) = true := decide_eq_true c46
    simp +decide only [reduceAdd, reduceMul, reduceToNat, ak, e47]
    obtain ⟨t48, h49, h⟩ := of_bind h
    refine cm [pN (.arg 0) (.arg 1) .fz] (spec_l6Eligible.tri (cs1) o1 l0_3 hv1 0 _ h49) (fun hl49 => ?_)
    refine ct (.c (.ref (.tmp 61 0) [] 0 t48.length)) (mF (mN ..)) ?_ (s4 := [(.arg 0, ⟨.fz, 1, cs0⟩), (.arg 1, ⟨.fz, 3, cs1⟩), (.arg 2, ⟨.fz, 5, cs2⟩), (.tmp 1 0, ⟨.box, 0, [.sc (.int .i64 a0_0), .sc (.int .i64 a0_1), .ref (.arg 0) [] o0 l0_2.length, .ref (.arg 1) [] o1 l0_3.length, .ref (.arg 2) [] o2 l0_4.length, .sc (.int .i64 a0_5), .sc (.int .u64 a0_6), .sc (.int .u64 a0_7), .sc (.int .u64 a0_8), .sc (.int .i64 a0_9), .sc (.int .i64 a0_10), .sc (.int .i64 a0_11)]⟩), (.tmp 2 0, ⟨.box, 0, [.sc (.int .i64 0), .sc (.int .i64 0), .sc (.int .u64 0), .sc (.int .i64 0), .own 1 (([] : List Int).length) (encL c_i64 ([] : List Int)), .sc (.int .i64 0), .sc (.int .i64 0)]⟩), (.tmp 3 0, ⟨.box, 0, [.sc (.int .i64 y38.2.1), .sc (.int .i64 y38.2.2.1), .sc (.int .u64 y38.2.2.2.1), .sc (.int .i64 y38.2.2.2.2.1), .own 1 y38.2.2.2.2.2.1.length (encL c_i64 y38.2.2.2.2.2.1), .sc (.int .i64 y38.2.2.2.2.2.2.1), .sc (.int .i64 y38.2.2.2.2.2.2.2)]⟩), (.tmp 61 0, ⟨.lst, 1, encL c_i64 t48⟩)])
    simp +decide only [reduceAdd, reduceMul, reduceToNat, ak]
    obtain rfl := Option.some.inj h
    refine G43n _ _ (wj [1, 2, 3, 4, 7] [pI (.arg 0) .fz, pI (.arg 1) .fz, pI (.arg 2) .fz, pI (.tmp 1 0) .box, pI (.tmp 2 0) .box, pI (.tmp 3 0) .box]) (hJ42 _ rfl)
   ·rw [if_neg c46] at h
    have e51 : decide ((l0_4.length : Int) < a0_5) = false := decide_eq_false c46
    simp +decide only [reduceAdd, reduceMul, reduceToNat, ak, e51]
    obtain rfl := Option.some.inj h
    refine G43n _ _ (wj [1, 2, 3, 4, 7] [pI (.arg 0) .fz, pI (.arg 1) .fz, pI (.arg 2) .fz, pI (.tmp 1 0) .box, pI (.tmp 2 0) .box, pI (.tmp 3 0) .box]) (hJ42 _ rfl)
  ·rw [if_neg c44] at h
   have e52 : decide (y38.2.1 = 0) = false := decide_eq_false c44
   simp +decide only [reduceAdd, reduceMul, reduceToNat, ak, e52]
   obtain rfl := Option.some.inj h
   refine G43n _ _ (wj [1, 2, 3, 4, 7] [pI (.arg 0) .fz, pI (.arg 1) .fz, pI (.arg 2) .fz, pI (.tmp 1 0) .box, pI (.tmp 2 0) .box, pI (.tmp 3 0) .box]) (hJ42 _ rfl)
 ·replace h := hn; clear hn h41
  rintro _ rfl
  obtain ⟨j53, h54, hn⟩ := of_bind h
  refine seq_j (fun st => st = ⟨[(1, .c (.ptr (.tmp 1 0) [] 0)), (2, .c (.ptr (.tmp 2 0) [] 0)), (3, .c (.ptr (.tmp 3 0) [] 0)), (4, .c (.sc (.int .i64 y38.1)))], [(.arg 0, ⟨.fz, 1, cs0⟩), (.arg 1, ⟨.fz, 3, cs1⟩), (.arg 2, ⟨.fz, 5, cs2⟩), (.tmp 1 0, ⟨.box, 0, [.sc (.int .i64 a0_0), .sc (.int .i64 a0_1), .ref (.arg 0) [] o0 l0_2.length, .ref (.arg 1) [] o1 l0_3.length, .ref (.arg 2) [] o2 l0_4.length, .sc (.int .i64 a0_5), .sc (.int .u64 a0_6), .sc (.int .u64 a0_7), .sc (.int .u64 a0_8), .sc (.int .i64 a0_9), .sc (.int .i64 a0_10), .sc (.int .i64 a0_11)]⟩), (.tmp 2 0, ⟨.box, 0, [.sc (.int .i64 0), .sc (.int .i64 0), .sc (.int .u64 0), .sc (.int .i64 0), .own 1 (([] : List Int).length) (encL c_i64 ([] : List Int)), .sc (.int .i64 0), .sc (.int .i64 0)]⟩), (.tmp 3 0, ⟨.box, 0, [.sc (.int .i64 j53.1), .sc (.int .i64 j53.2.1), .sc (.int .u64 j53.2.2.1), .sc (.int .i64 j53.2.2.2.1), .own 1 j53.2.2.2.2.1.length (encL c_i64 j53.2.2.2.2.1), .sc (.int .i64 j53.2.2.2.2.2.1), .sc (.int .i64 j53.2.2.2.2.2.2)]⟩)], [], []⟩) (fun J55 hJ55 => ?_) ?_
  ·replace h := h54; clear hn
   refine ga_k fun G56 G56n G56r G56x => ?_
   obtain ⟨j57, h58, hn⟩ := of_bind h
   refine seq_j (fun st => st = ⟨[(1, .c (.ptr (.tmp 1 0) [] 0)), (2, .c (.ptr (.tmp 2 0) [] 0)), (3, .c (.ptr (.tmp 3 0) [] 0)), (4, .c (.sc (.int .i64 y38.1))), (7, .c (.sc (.bool j57.1))), (79, .c (.sc (.bool j57.2)))], [(.arg 0, ⟨.fz, 1, cs0⟩), (.arg 1, ⟨.fz, 3, cs1⟩), (.arg 2, ⟨.fz, 5, cs2⟩), (.tmp 1 0, ⟨.box, 0, [.sc (.int .i64 a0_0), .sc (.int .i64 a0_1), .ref (.arg 0) [] o0 l0_2.length, .ref (.arg 1) [] o1 l0_3.length, .ref (.arg 2) [] o2 l0_4.length, .sc (.int .i64 a0_5), .sc (.int .u64 a0_6), .sc (.int .u64 a0_7), .sc (.int .u64 a0_8), .sc (.int .i64 a0_9), .sc (.int .i64 a0_10), .sc (.int .i64 a0_11)]⟩), (.tmp 2 0, ⟨.box, 0, [.sc (.int .i64 0), .sc (.int .i64 0), .sc (.int .u64 0), .sc (.int .i64 0), .own 1 (([] : List Int).length) (encL c_i64 ([] : List Int)), .sc (.int .i64 0), .sc (.int .i64 0)]⟩), (.tmp 3 0, ⟨.box, 0, [.sc (.int .i64 y38.2.1), .sc (.int .i64 y38.2.2.1), .sc (.int .u64 y38.2.2.2.1), .sc (.int .i64 y38.2.2.2.2.1), .own 1 y38.2.2.2.2.2.1.length (encL c_i64 y38.2.2.2.2.2.1), .sc (.int .i64 y38.2.2.2.2.2.2.1), .sc (.int .i64 y38.2.2.2.2.2.2.2)]⟩)], [], []⟩) (fun J59 hJ59 => ?_) ?_
   ·replace h := h58; clear hn
    refine ga_k fun G60 G60n G60r G60x => ?_
    refine reg_k ?_
    simp +decide only [reduceAdd, reduceMul, reduceToNat, ak]
    by_cases c61 : j40 = true
    ·rw [if_pos c61] at h
     have e62 : (j40) = true := c61
     simp +decide only [reduceAdd, reduceMul, reduceToNat, ak, e62]
     by_cases c63 : a0_6 < a0_7
     ·rw [if_pos c63] at h
      have e64 : decide (a0_6 < a0_7) = true := decide_eq_true c63
      simp +decide only [reduceAdd, reduceMul, reduceToNat, ak, e64]
      obtain rfl := Option.some.inj h
      refine G60n _ _ (wj [1, 2, 3, 4, 7, 79] [pI (.arg 0) .fz, pI (.arg 1) .fz, pI (.arg 2) .fz, pI (.tmp 1 0) .box, pI (.tmp 2 0) .box, pI (.tmp 3 0) .box]) (hJ59 _ rfl)
     ·rw [if_neg c63] at h
      have e65 : decide (a0_6 < a0_7) = false := decide_eq_false c63
      simp +decide only [reduceAdd, reduceMul, reduceToNat, ak, e65]
      obtain rfl := Option.some.inj h
      refine G60n _ _ (wj [1, 2, 3, 4, 7, 79] [pI (.arg 0) .fz, pI (.arg 1) .fz, pI (.arg 2) .fz, pI (.tmp 1 0) .box, pI (.tmp 2 0) .box, pI (.tmp 3 0) .box]) (hJ59 _ rfl)
    ·rw [if_neg c61] at h
     have e66 : (j40) = false := Bool.eq_false_iff.2 c61
     simp +decide only [reduceAdd, reduceMul, reduceToNat, ak, e66]
     obtain rfl := Option.some.inj h
     refine G60n _ _ (wj [1, 2, 3, 4, 7, 79] [pI (.arg 0) .fz, pI (.arg 1) .fz, pI (.arg 2) .fz, pI (.tmp 1 0) .box, pI (.tmp 2 0) .box, pI (.tmp 3 0) .box]) (hJ59 _ rfl)
   ·replace h := hn; clear hn h58
    rintro _ rfl
    refine cond_k (b := j57.2) rfl (fun c67 => ?_) (fun c67 => ?_)
    ·rw [if_pos c67] at h
     refine regD_k ?_
     simp +decide only [reduceAdd, reduceMul, reduceToNat, ak]
     obtain ⟨t68, h69, h⟩ := of_bind h
     refine alt_e ?_
     ·simp +decide only [reduceAdd, reduceMul, reduceToNat, ak]
      refine cm [] (spec_l6Least.tri (IntKind.u64.wrap a0_11) (IntKind.u64.wrap (a0_7 - a0_6)) (IntKind.u64.wrap (a0_8 - a0_6)) _ h69) (fun hl70 => ?_)
      refine cs (mN ..) ?_ (s4 := [(.arg 0, ⟨.fz, 1, cs0⟩), (.arg 1, ⟨.fz, 3, cs1⟩), (.arg 2, ⟨.fz, 5, cs2⟩), (.tmp 1 0, ⟨.box, 0, [.sc (.int .i64 a0_0), .sc (.int .i64 a0_1), .ref (.arg 0) [] o0 l0_2.length, .ref (.arg 1) [] o1 l0_3.length, .ref (.arg 2) [] o2 l0_4.length, .sc (.int .i64 a0_5), .sc (.int .u64 a0_6), .sc (.int .u64 a0_7), .sc (.int .u64 a0_8), .sc (.int .i64 a0_9), .sc (.int .i64 a0_10), .sc (.int .i64 a0_11)]⟩), (.tmp 2 0, ⟨.box, 0, [.sc (.int .i64 0), .sc (.int .i64 0), .sc (.int .u64 0), .sc (.int .i64 0), .own 1 (([] : List Int).length) (encL c_i64 ([] : List Int)), .sc (.int .i64 0), .sc (.int .i64 0)]⟩), (.tmp 3 0, ⟨.box, 0, [.sc (.int .i64 y38.2.1), .sc (.int .i64 y38.2.2.1), .sc (.int .u64 y38.2.2.2.1), .sc (.int .i64 y38.2.2.2.2.1), .own 1 y38.2.2.2.2.2.1.length (encL c_i64 y38.2.2.2.2.2.1), .sc (.int .i64 y38.2.2.2.2.2.2.1), .sc (.int .i64 y38.2.2.2.2.2.2.2)]⟩)])
      simp +decide only [reduceAdd, reduceMul, reduceToNat, ak]
      refine alt_e ?_
      ·simp +decide only [reduceAdd, reduceMul, reduceToNat, ak]
       refine ghp_k (Weak.nmg' 96 4 (.tmp 96 24) 1 (encL c_i64 ([] : List Int)) rfl rfl rfl rfl) ?_
       try simp +decide only [reduceAdd, reduceMul, reduceToNat, ak]
       refine alt_e ?_
       ·simp +decide only [reduceAdd, reduceMul, reduceToNat, ak, g3]
        obtain rfl := Option.some.inj h
        refine G56n _ _ (wj [1, 2, 3, 4] [pI (.arg 0) .fz, pI (.arg 1) .fz, pI (.arg 2) .fz, pI (.tmp 1 0) .box, pI (.tmp 2 0) .box, pI (.tmp 3 0) .box]) (hJ55 _ rfl)
    ·rw [if_neg (Bool.eq_false_iff.1 c67)] at h
     obtain ⟨j72, h73, hn⟩ := of_bind h
     refine seq_j (fun st => st = ⟨[(1, .c (.ptr (.tmp 1 0) [] 0)), (2, .c (.ptr (.tmp 2 0) [] 0)), (3, .c (.ptr (.tmp 3 0) [] 0)), (4, .c (.sc (.int .i64 y38.1))), (114, .c (.sc (.bool j72)))], [(.arg 0, ⟨.fz, 1, cs0⟩), (.arg 1, ⟨.fz, 3, cs1⟩), (.arg 2, ⟨.fz, 5, cs2⟩), (.tmp 1 0, ⟨.box, 0, [.sc (.int .i64 a0_0), .sc (.int .i64 a0_1), .ref (.arg 0) [] o0 l0_2.length, .ref (.arg 1) [] o1 l0_3.length, .ref (.arg 2) [] o2 l0_4.length, .sc (.int .i64 a0_5), .sc (.int .u64 a0_6), .sc (.int .u64 a0_7), .sc (.int .u64 a0_8), .sc (.int .i64 a0_9), .sc (.int .i64 a0_10), .sc (.int .i64 a0_11)]⟩), (.tmp 2 0, ⟨.box, 0, [.sc (.int .i64 0), .sc (.int .i64 0), .sc (.int .u64 0), .sc (.int .i64 0), .own 1 (([] : List Int).length) (encL c_i64 ([] : List Int)), .sc (.int .i64 0), .sc (.int .i64 0)]⟩), (.tmp 3 0, ⟨.box, 0, [.sc (.int .i64 y38.2.1), .sc (.int .i64 y38.2.2.1), .sc (.int .u64 y38.2.2.2.1), .sc (.int .i64 y38.2.2.2.2.1), .own 1 y38.2.2.2.2.2.1.length (encL c_i64 y38.2.2.2.2.2.1), .sc (.int .i64 y38.2.2.2.2.2.2.1), .sc (.int .i64 y38.2.2.2.2.2.2.2)]⟩)], [], []⟩) (fun J74 hJ74 => ?_) ?_
     ·replace h := h73; clear hn
      refine ga_k fun G75 G75n G75r G75x => ?_
      refine reg_k ?_
      simp +decide only [reduceAdd, reduceMul, reduceToNat, ak]
      by_cases c76 : j57.1 = true
      ·rw [if_pos c76] at h
       have e77 : (j57.1) = true := c76
       simp +decide only [reduceAdd, reduceMul, reduceToNat, ak, e77]
       by_cases c78 : a0_9 = 1
       ·rw [if_pos c78] at h
        have e79 : decide (a0_9 = 1) = true := decide_eq_true c78
        simp +decide only [reduceAdd, reduceMul, reduceToNat, ak, e79]
        by_cases c80 : a0_10 = 0
        ·rw [if_pos c80] at h
         have e81 : decide (a0_10 = 0) = true := decide_eq_true c80
         simp +decide only [reduceAdd, reduceMul, reduceToNat, ak, e81]
         obtain rfl := Option.some.inj h
         refine G75n _ _ (wj [1, 2, 3, 4, 114] [pI (.arg 0) .fz, pI (.arg 1) .fz, pI (.arg 2) .fz, pI (.tmp 1 0) .box, pI (.tmp 2 0) .box, pI (.tmp 3 0) .box]) (hJ74 _ rfl)
        ·rw [if_neg c80] at h
         have e82 : decide (a0_10 = 0) = false := decide_eq_false c80
         simp +decide only [reduceAdd, reduceMul, reduceToNat, ak, e82]
         obtain rfl := Option.some.inj h
         refine G75n _ _ (wj [1, 2, 3, 4, 114] [pI (.arg 0) .fz, pI (.arg 1) .fz, pI (.arg 2) .fz, pI (.tmp 1 0) .box, pI (.tmp 2 0) .box, pI (.tmp 3 0) .box]) (hJ74 _ rfl)
       ·rw [if_neg c78] at h
        have e83 : decide (a0_9 = 1) = false := decide_eq_false c78
        simp +decide only [reduceAdd, reduceMul, reduceToNat, ak, e83]
        obtain rfl := Option.some.inj h
        refine G75n _ _ (wj [1, 2, 3, 4, 114] [pI (.arg 0) .fz, pI (.arg 1) .fz, pI (.arg 2) .fz, pI (.tmp 1 0) .box, pI (.tmp 2 0) .box, pI (.tmp 3 0) .box]) (hJ74 _ rfl)
      ·rw [if_neg c76] at h
       have e84 : (j57.1) = false := Bool.eq_false_iff.2 c76
       simp +decide only [reduceAdd, reduceMul, reduceToNat, ak, e84]
       obtain rfl := Option.some.inj h
       refine G75n _ _ (wj [1, 2, 3, 4, 114] [pI (.arg 0) .fz, pI (.arg 1) .fz, pI (.arg 2) .fz, pI (.tmp 1 0) .box, pI (.tmp 2 0) .box, pI (.tmp 3 0) .box]) (hJ74 _ rfl)
     ·replace h := hn; clear hn h73
      rintro _ rfl
      refine cond_k (b := j72) rfl (fun c85 => ?_) (fun c85 => ?_)
      ·rw [if_pos c85] at h
       refine reg_k ?_
       simp +decide only [reduceAdd, reduceMul, reduceToNat, ak]
       refine gho_k (Weak.nmg' 117 4 (.tmp 117 24) 1 (encL c_i64 ([] : List Int)) rfl rfl rfl rfl) ?_
       simp +decide only [reduceAdd, reduceMul, reduceToNat, ak, g3]
       obtain rfl := Option.some.inj h
       refine G56n _ _ (wj [1, 2, 3, 4] [pI (.arg 0) .fz, pI (.arg 1) .fz, pI (.arg 2) .fz, pI (.tmp 1 0) .box, pI (.tmp 2 0) .box, pI (.tmp 3 0) .box]) (hJ55 _ rfl)
      ·rw [if_neg (Bool.eq_false_iff.1 c85)] at h
       obtain rfl := Option.some.inj h
       refine G56n _ _ (wk [1, 2, 3, 4] [pI (.arg 0) .fz, pI (.arg 1) .fz, pI (.arg 2) .fz, pI (.tmp 1 0) .box, pI (.tmp 2 0) .box, pI (.tmp 3 0) .box]) (hJ55 _ rfl)
  ·replace h := hn; clear hn h54
   rintro _ rfl
   refine sr_k fun J86 hJ86 => ?_
   simp +decide only [reduceAdd, reduceMul, reduceToNat, ak]
   refine hJ86 _ ?_
   refine seq_k fun J87 hJ87 => ?_
   refine sr_k fun J88 hJ88 => ?_
   simp +decide only [reduceAdd, reduceMul, reduceToNat, ak]
   refine hJ88 _ ?_
   refine cond_k (b := decide (j53.1 = 0)) rfl (fun c89 => ?_) (fun c89 => ?_)
   ·replace c89 := of_decide_eq_true c89; rw [if_pos c89] at h
    refine sr_k fun J90 hJ90 => ?_
    simp +decide only [reduceAdd, reduceMul, reduceToNat, ak]
    refine hJ90 _ ?_
    obtain rfl := Option.some.inj h
    refine hKr _ ⟨_, rfl, [⟨(.tmp 3 0), [4], none, .lst⟩], _, rfl, rfl, ?_⟩
    exact cl
   ·replace c89 := of_decide_eq_false c89; rw [if_neg c89] at h
    refine hJ87 _ ?_
    refine sr_k fun J91 hJ91 => ?_
    simp +decide only [reduceAdd, reduceMul, reduceToNat, ak]
    refine hJ91 _ ?_
    obtain ⟨j92, h93, hn⟩ := of_bind h
    refine seq_j (fun st => st = ⟨[(1, .c (.ptr (.tmp 1 0) [] 0)), (2, .c (.ptr (.tmp 2 0) [] 0)), (3, .c (.ptr (.tmp 3 0) [] 0)), (4, .c (.sc (.int .i64 y38.1))), (8, .c (.sc (.int .i64 j92.1)))], [(.arg 0, ⟨.fz, 1, cs0⟩), (.arg 1, ⟨.fz, 3, cs1⟩), (.arg 2, ⟨.fz, 5, cs2⟩), (.tmp 1 0, ⟨.box, 0, [.sc (.int .i64 a0_0), .sc (.int .i64 a0_1), .ref (.arg 0) [] o0 l0_2.length, .ref (.arg 1) [] o1 l0_3.length, .ref (.arg 2) [] o2 l0_4.length, .sc (.int .i64 a0_5), .sc (.int .u64 a0_6), .sc (.int .u64 a0_7), .sc (.int .u64 a0_8), .sc (.int .i64 a0_9), .sc (.int .i64 a0_10), .sc (.int .i64 a0_11)]⟩), (.tmp 2 0, ⟨.box, 0, [.sc (.int .i64 0), .sc (.int .i64 0), .sc (.int .u64 0), .sc (.int .i64 0), .own 1 (([] : List Int).length) (encL c_i64 ([] : List Int)), .sc (.int .i64 0), .sc (.int .i64 0)]⟩), (.tmp 3 0, ⟨.box, 0, [.sc (.int .i64 j53.1), .sc (.int .i64 j53.2.1), .sc (.int .u64 j53.2.2.1), .sc (.int .i64 j53.2.2.2.1), .own 1 j53.2.2.2.2.1.length (encL c_i64 j53.2.2.2.2.1), .sc (.int .i64 a0_1), .sc (.int .i64 j92.2)]⟩)], [], []⟩) (fun J94 hJ94 => ?_) ?_
    ·replace h := h93; clear hn
     refine ga_k fun G95 G95n G95r G95x => ?_
     refine sr_k fun J96 hJ96 => ?_
     simp +decide only [reduceAdd, reduceMul, reduceToNat, ak]
     refine hJ96 _ ?_
     refine cond_k (b := decide ((l0_2.length : Int) > 0)) rfl (fun c97 => ?_) (fun c97 => ?_)
     ·replace c97 := of_decide_eq_true c97; rw [if_pos c97] at h
      refine sr_k fun J98 hJ98 => ?_
      obtain ⟨b99, h⟩ := of_guard h
      have g100 : (cs0)[o0 + 0]? = some (.sc (.int .i64 (rd 0 l0_2 0))) := hv0.get 0 0 b99.1 b99.2 (by decide)
      simp +decide only [reduceAdd, reduceMul, reduceToNat, ak, b99, g100]
      refine hJ98 _ ?_
      refine sr_k fun J101 hJ101 => ?_
      simp +decide only [reduceAdd, reduceMul, reduceToNat, ak]
      refine hJ101 _ ?_
      refine cond_k (b := decide (a0_0 = 4)) rfl (fun c102 => ?_) (fun c102 => ?_)
      ·replace c102 := of_decide_eq_true c102; rw [if_pos c102] at h
       refine reg_k ?_
       simp +decide only [reduceAdd, reduceMul, reduceToNat, ak]
       obtain rfl := Option.some.inj h
       refine G95n _ _ (wk [1, 2, 3, 4, 8] [pI (.arg 0) .fz, pI (.arg 1) .fz, pI (.arg 2) .fz, pI (.tmp 1 0) .box, pI (.tmp 2 0) .box, pI (.tmp 3 0) .box]) (hJ94 _ rfl)
      ·replace c102 := of_decide_eq_false c102; rw [if_neg c102] at h
       obtain rfl := Option.some.inj h
       refine G95n _ _ (wk [1, 2, 3, 4, 8] [pI (.arg 0) .fz, pI (.arg 1) .fz, pI (.arg 2) .fz, pI (.tmp 1 0) .box, pI (.tmp 2 0) .box, pI (.tmp 3 0) .box]) (hJ94 _ rfl)
     ·replace c97 := of_decide_eq_false c97; rw [if_neg c97] at h
      obtain rfl := Option.some.inj h
      refine G95n _ _ (wk [1, 2, 3, 4, 8] [pI (.arg 0) .fz, pI (.arg 1) .fz, pI (.arg 2) .fz, pI (.tmp 1 0) .box, pI (.tmp 2 0) .box, pI (.tmp 3 0) .box]) (hJ94 _ rfl)
    ·replace h := hn; clear hn h93
     rintro _ rfl
     refine sr_k fun J103 hJ103 => ?_
     simp +decide only [reduceAdd, reduceMul, reduceToNat, ak]
     obtain ⟨t104, h105, h⟩ := of_bind h
     refine cm [pN (.arg 0) (.arg 1) .fz] (spec_l6Pick.tri (cs1) o1 l0_3 hv1 a0_0 a0_1 j92.1 y38.1 _ h105) (fun hl105 => ?_)
     refine ct (.tup [(false, [.ref (.tmp 146 0) [] 0 t104.1.length]), (false, [.sc (.int .i64 t104.2)])]) (mF (mN ..)) ?_ (s4 := [(.arg 0, ⟨.fz, 1, cs0⟩), (.arg 1, ⟨.fz, 3, cs1⟩), (.arg 2, ⟨.fz, 5, cs2⟩), (.tmp 1 0, ⟨.box, 0, [.sc (.int .i64 a0_0), .sc (.int .i64 a0_1), .ref (.arg 0) [] o0 l0_2.length, .ref (.arg 1) [] o1 l0_3.length, .ref (.arg 2) [] o2 l0_4.length, .sc (.int .i64 a0_5), .sc (.int .u64 a0_6), .sc (.int .u64 a0_7), .sc (.int .u64 a0_8), .sc (.int .i64 a0_9), .sc (.int .i64 a0_10), .sc (.int .i64 a0_11)]⟩), (.tmp 2 0, ⟨.box, 0, [.sc (.int .i64 0), .sc (.int .i64 0), .sc (.int .u64 0), .sc (.int .i64 0), .own 1 (([] : List Int).length) (encL c_i64 ([] : List Int)), .sc (.int .i64 0), .sc (.int .i64 0)]⟩), (.tmp 3 0, ⟨.box, 0, [.sc (.int .i64 j53.1), .sc (.int .i64 j53.2.1), .sc (.int .u64 j53.2.2.1), .sc (.int .i64 j53.2.2.2.1), .own 1 j53.2.2.2.2.1.length (encL c_i64 j53.2.2.2.2.1), .sc (.int .i64 a0_1), .sc (.int .i64 j92.2)]⟩), (.tmp 146 0, ⟨.lst, 1, encL c_i64 t104.1⟩)])
     have g107 : (encL c_i64 t104.1).length = t104.1.length * 1 := by simp [encL_length c_i64_w]
     simp +decide only [reduceAdd, reduceMul, reduceToNat, ak, g107]
     refine hJ103 _ ?_
     refine sr_k fun J108 hJ108 => ?_
     simp +decide only [reduceAdd, reduceMul, reduceToNat, ak]
     refine hJ108 _ ?_
     obtain rfl := Option.some.inj h
     refine hKr _ ⟨_, rfl, [⟨(.tmp 3 0), [4], none, .lst⟩], _, rfl, rfl, ?_⟩
     exact cl
/-! ### spec.PlanSend: function 46 -/
def C46 : AC := .sr [.o (.box 1 (.t 0)), .o (.alloc 2 [.int .i64 0, .int .i64 0, .int .u64 0, .int .i64 0, .slice none 0 0, .int .i64 0, .int .i64 0]), .gh, .o (.mv 3 (.k 0)), .keep [1, 2]] (.sr [.o (.load 5 true 12 (.t 1)), .call none (some 6) 86 [.tmp 5], .m 4 6, .keep [1, 2, 4]] (.seq (.sr [.m 7 4, .o (.bin 8 .neq (.t 7) (.k 0)), .keep [1, 2, 4, 8]] (.cond (.t 8) (.sr [.o (.build 9 [.int .i64 0, .int .i64 0, .int .u64 0, .int .i64 0, .slice none 0 0, .int .i64 0, .int .i64 0] []), .gh, .m 10 4, .st 7 2 9, .m 3 10, .keep [2, 3]] (.ret)) (.skip))) (.sr [.o (.load 11 true 12 (.t 1)), .call none (some 12) 87 [.tmp 11], .st 7 2 12, .o (.mv 3 (.k 0)), .keep [2, 3]] (.ret))))
def r46 : List RV := [.cell 2 true 7, .tmp 3]
theorem k46 : compC Try.prog 13 C46 (Try.f46.body.getD .skip) = some C46.erase := by kernel_rfl
theorem q46 : rvsOf Try.prog Try.f46.results.toList = some r46 := by kernel_rfl
def spec_PlanSend.f (a0_0 : Int) (a0_1 : Int) (l0_2 : List Int) (l0_3 : List S86) (l0_4 : List S84) (a0_5 : Int) (a0_6 : Int) (a0_7 : Int) (a0_8 : Int) (a0_9 : Int) (a0_10 : Int) (a0_11 : Int) : Option (Int × Int × Int × Int × (List Int) × Int × Int × Int) := (spec_l6InputCode.f a0_0 a0_1 l0_2 l0_3 l0_4 a0_5 a0_6 a0_7 a0_8 a0_9 a0_10 a0_11 >>= fun t3 => (if t3 ≠ 0 then (some (0, 0, 0, 0, ([] : List Int), 0, 0, t3)) else (spec_l6Plan.f a0_0 a0_1 l0_2 l0_3 l0_4 a0_5 a0_6 a0_7 a0_8 a0_9 a0_10 a0_11 >>= fun t12 => (some (t12.1, t12.2.1, t12.2.2.1, t12.2.2.2.1, t12.2.2.2.2.1, t12.2.2.2.2.2.1, t12.2.2.2.2.2.2, 0)))))
theorem spec_PlanSend.tri (cs0 : List Cell) (o0 : Nat) (l0_2 : List Int) (hv0 : Vw c_i64 1 cs0 o0 l0_2) (cs1 : List Cell) (o1 : Nat) (l0_3 : List S86) (hv1 : Vw c86 3 cs1 o1 l0_3) (cs2 : List Cell) (o2 : Nat) (l0_4 : List S84) (hv2 : Vw c84 5 cs2 o2 l0_4) (a0_0 : Int) (a0_1 : Int) (a0_5 : Int) (a0_6 : Int) (a0_7 : Int) (a0_8 : Int) (a0_9 : Int) (a0_10 : Int) (a0_11 : Int) (r : Int × Int × Int × Int × (List Int) × Int × Int × Int) (h : spec_PlanSend.f a0_0 a0_1 l0_2 l0_3 l0_4 a0_5 a0_6 a0_7 a0_8 a0_9 a0_10 a0_11 = some r) : Tri Try.prog 46 [.g [.sc (.int .i64 a0_0), .sc (.int .i64 a0_1), .ref (.arg 0) [] o0 l0_2.length, .ref (.arg 1) [] o1 l0_3.length, .ref (.arg 2) [] o2 l0_4.length, .sc (.int .i64 a0_5), .sc (.int .u64 a0_6), .sc (.int .u64 a0_7), .sc (.int .u64 a0_8), .sc (.int .i64 a0_9), .sc (.int .i64 a0_10), .sc (.int .i64 a0_11)]] [(.arg 0, ⟨.fz, 1, cs0⟩), (.arg 1, ⟨.fz, 3, cs1⟩), (.arg 2, ⟨.fz, 5, cs2⟩)] (fun o => o = ⟨.tup [(true, [.sc (.int .i64 r.1), .sc (.int .i64 r.2.1), .sc (.int .u64 r.2.2.1), .sc (.int .i64 r.2.2.2.1), .ref (.res 0) [] 0 r.2.2.2.2.1.length, .sc (.int .i64 r.2.2.2.2.2.1), .sc (.int .i64 r.2.2.2.2.2.2.1)]), (false, [.sc (.int .i64 r.2.2.2.2.2.2.2)])], [(.arg 0, ⟨.fz, 1, cs0⟩), (.arg 1, ⟨.fz, 3, cs1⟩), (.arg 2, ⟨.fz, 5, cs2⟩), (.res 0, ⟨.lst, 1, encL c_i64 r.2.2.2.2.1⟩)], [], []⟩) := by
 refine tri_of_body (ac := C46) (xs := r46) Try.func46 (show Try.f46.body = some (Try.f46.body.getD .skip) from rfl) k46 q46 (Nat.le_of_ble_eq_true rfl) ?_
 refine body_of fun K hKn hKr => ?_
 unfold spec_PlanSend.f at h
 unfold C46
 simp only [initT, Nat.reduceAdd]
 refine sr_k fun J1 hJ1 => ?_
 simp +decide only [reduceAdd, reduceMul, reduceToNat, ak]
 refine gho_k (Weak.own (.tmp 2 0) (cs' := [.sc (.int .i64 0), .sc (.int .i64 0), .sc (.int .u64 0), .sc (.int .i64 0), .own 1 (([] : List Int).length) (encL c_i64 ([] : List Int)), .sc (.int .i64 0), .sc (.int .i64 0)]) rfl ⟨.inl rfl, .inl rfl, .inl rfl, .inl rfl, .inr ⟨rfl, _, rfl⟩, .inl rfl, .inl rfl, trivial⟩) ?_
 simp +decide only [reduceAdd, reduceMul, reduceToNat, ak]
 refine hJ1 _ ?_
 refine sr_k fun J2 hJ2 => ?_
 simp +decide only [reduceAdd, reduceMul, reduceToNat, ak]
 obtain ⟨t3, h4, h⟩ := of_bind h
 refine cm [pI (.arg 0) .fz, pI (.arg 1) .fz, pI (.arg 2) .fz] (spec_l6InputCode.tri (cs0) o0 l0_2 hv0 (cs1) o1 l0_3 hv1 (cs2) o2 l0_4 hv2 a0_0 a0_1 a0_5 a0_6 a0_7 a0_8 a0_9 a0_10 a0_11 _ h4) (fun hl4 => ?_)
 refine cs (mF (mF (mF (mN ..)))) ?_ (s4 := [(.arg 0, ⟨.fz, 1, cs0⟩), (.arg 1, ⟨.fz, 3, cs1⟩), (.arg 2, ⟨.fz, 5, cs2⟩), (.tmp 1 0, ⟨.box, 0, [.sc (.int .i64 a0_0), .sc (.int .i64 a0_1), .ref (.arg 0) [] o0 l0_2.length, .ref (.arg 1) [] o1 l0_3.length, .ref (.arg 2) [] o2 l0_4.length, .sc (.int .i64 a0_5), .sc (.int .u64 a0_6), .sc (.int .u64 a0_7), .sc (.int .u64 a0_8), .sc (.int .i64 a0_9), .sc (.int .i64 a0_10), .sc (.int .i64 a0_11)]⟩), (.tmp 2 0, ⟨.box, 0, [.sc (.int .i64 0), .sc (.int .i64 0), .sc (.int .u64 0), .sc (.int .i64 0), .own 1 (([] : List Int).length) (encL c_i64 ([] : List Int)), .sc (.int .i64 0), .sc (.int .i64 0)]⟩)])
 simp +decide only [reduceAdd, reduceMul, reduceToNat, ak]
 refine hJ2 _ ?_
 refine seq_k fun J6 hJ6 => ?_
 refine sr_k fun J7 hJ7 => ?_
 simp +decide only [reduceAdd, reduceMul, reduceToNat, ak]
 refine hJ7 _ ?_
 refine cond_k (b := decide (t3 ≠ 0)) rfl (fun c8 => ?_) (fun c8 => ?_)
 ·replace c8 := of_decide_eq_true c8; rw [if_pos c8] at h
  refine sr_k fun J9 hJ9 => ?_
  simp +decide only [reduceAdd, reduceMul, reduceToNat, ak]
  refine gho_k (Weak.nmg' 9 4 (.tmp 9 24) 1 (encL c_i64 ([] : List Int)) rfl rfl rfl rfl) ?_
  have g10 : (encL c_i64 ([] : List Int)).length = 0 * 1 := by simp [encL_length c_i64_w]
  simp +decide only [reduceAdd, reduceMul, reduceToNat, ak, g10]
  refine hJ9 _ ?_
  obtain rfl := Option.some.inj h
  refine hKr _ ⟨_, rfl, [⟨(.tmp 2 0), [4], none, .lst⟩], _, rfl, rfl, ?_⟩
  exact cl
 ·replace c8 := of_decide_eq_false c8; rw [if_neg c8] at h
  refine hJ6 _ ?_
  refine sr_k fun J11 hJ11 => ?_
  simp +decide only [reduceAdd, reduceMul, reduceToNat, ak]
  obtain ⟨t12, h13, h⟩ := of_bind h
  refine cm [pI (.arg 0) .fz, pI (.arg 1) .fz, pI (.arg 2) .fz] (spec_l6Plan.tri (cs0) o0 l0_2 hv0 (cs1) o1 l0_3 hv1 (cs2) o2 l0_4 hv2 a0_0 a0_1 a0_5 a0_6 a0_7 a0_8 a0_9 a0_10 a0_11 _ h13) (fun hl13 => ?_)
  refine ct (.g [.sc (.int .i64 t12.1), .sc (.int .i64 t12.2.1), .sc (.int .u64 t12.2.2.1), .sc (.int .i64 t12.2.2.2.1), .ref (.tmp 12 0) [] 0 t12.2.2.2.2.1.length, .sc (.int .i64 t12.2.2.2.2.2.1), .sc (.int .i64 t12.2.2.2.2.2.2)]) (mF (mF (mF (mN ..)))) ?_ (s4 := [(.arg 0, ⟨.fz, 1, cs0⟩), (.arg 1, ⟨.fz, 3, cs1⟩), (.arg 2, ⟨.fz, 5, cs2⟩), (.tmp 1 0, ⟨.box, 0, [.sc (.int .i64 a0_0), .sc (.int .i64 a0_1), .ref (.arg 0) [] o0 l0_2.length, .ref (.arg 1) [] o1 l0_3.length, .ref (.arg 2) [] o2 l0_4.length, .sc (.int .i64 a0_5), .sc (.int .u64 a0_6), .sc (.int .u64 a0_7), .sc (.int .u64 a0_8), .sc (.int .i64 a0_9), .sc (.int .i64 a0_10), .sc (.int .i64 a0_11)]⟩), (.tmp 2 0, ⟨.box, 0, [.sc (.int .i64 0), .sc (.int .i64 0), .sc (.int .u64 0), .sc (.int .i64 0), .own 1 (([] : List Int).length) (encL c_i64 ([] : List Int)), .sc (.int .i64 0), .sc (.int .i64 0)]⟩), (.tmp 12 0, ⟨.lst, 1, encL c_i64 t12.2.2.2.2.1⟩)])
  have g15 : (encL c_i64 t12.2.2.2.2.1).length = t12.2.2.2.2.1.length * 1 := by simp [encL_length c_i64_w]
  simp +decide only [reduceAdd, reduceMul, reduceToNat, ak, g15]
  refine hJ11 _ ?_
  obtain rfl := Option.some.inj h
  refine hKr _ ⟨_, rfl, [⟨(.tmp 2 0), [4], none, .lst⟩], _, rfl, rfl, ?_⟩
  exact cl
/-! ### impl.policyOf: function 81 -/
def C81 : AC := .sr [.o (.alloc 2 [.string .empty, .nilFunc]), .o (.mv 3 (.const (.bool false))), .keep [0, 2]] (.seq (.sr [.m 4 0, .keep [2, 4]] (.block 0 (.sr [.o (.bin 6 .eql (.t 4) (.k 1)), .m 5 6, .keep [2, 4, 5]] (.cond (.t 5) (.sr [.o (.build 7 [.string .empty, .nilFunc] [(0, 1, .const (.string ⟨#[114, 111, 117, 110, 100]⟩)), (1, 1, .func 113)]), .st 2 2 7, .o (.mv 3 (.const (.bool true))), .keep [2, 3]] (.ret)) (.sr [.o (.bin 9 .eql (.t 4) (.k 2)), .m 8 9, .keep [2, 4, 8]] (.cond (.t 8) (.sr [.o (.build 10 [.string .empty, .nilFunc] [(0, 1, .const (.string ⟨#[98, 97, 99, 107, 108, 111, 103]⟩)), (1, 1, .func 114)]), .st 2 2 10, .o (.mv 3 (.const (.bool true))), .keep [2, 3]] (.ret)) (.sr [.o (.bin 12 .eql (.t 4) (.k 3)), .m 11 12, .keep [2, 4, 11]] (.cond (.t 11) (.sr [.o (.build 13 [.string .empty, .nilFunc] [(0, 1, .const (.string ⟨#[97, 108, 108]⟩)), (1, 1, .func 115)]), .st 2 2 13, .o (.mv 3 (.const (.bool true))), .keep [2, 3]] (.ret)) (.sr [.o (.bin 15 .eql (.t 4) (.k 4)), .m 14 15, .keep [2, 14]] (.cond (.t 14) (.sr [.o (.build 16 [.string .empty, .nilFunc] [(0, 1, .const (.string ⟨#[115, 99, 114, 105, 112, 116]⟩)), (1, 1, .func 116)]), .st 2 2 16, .o (.mv 3 (.const (.bool true))), .keep [2, 3]] (.ret)) (.skip))))))))))) (.sr [.o (.build 17 [.string .empty, .nilFunc] []), .st 2 2 17, .o (.mv 3 (.const (.bool false))), .keep [2, 3]] (.ret)))
def r81 : List RV := [.cell 2 true 2, .tmp 3]
theorem k81 : compC Try.prog 18 C81 (Try.f81.body.getD .skip) = some C81.erase := by kernel_rfl
theorem q81 : rvsOf Try.prog Try.f81.results.toList = some r81 := by kernel_rfl
def impl_policyOf.f (a0 : Int) : Option (ByteArray × Int × Bool) := (if a0 = 1 then (some (⟨#[114, 111, 117, 110, 100]⟩, 113, true)) else (if a0 = 2 then (some (⟨#[98, 97, 99, 107, 108, 111, 103]⟩, 114, true)) else (if a0 = 3 then (some (⟨#[97, 108, 108]⟩, 115, true)) else (if a0 = 4 then (some (⟨#[115, 99, 114, 105, 112, 116]⟩, 116, true)) else (some (ByteArray.empty, 0, false))))))
theorem impl_policyOf.tri (a0 : Int) (r : ByteArray × Int × Bool) (h : impl_policyOf.f a0 = some r) : Tri Try.prog 81 [.c (.sc (.int .i64 a0))] [] (fun o => o = ⟨.tup [(true, [.sc (.string r.1), .sc (fnv r.2.1)]), (false, [.sc (.bool r.2.2)])], [], [], []⟩) := by
 refine tri_of_body (ac := C81) (xs := r81) Try.func81 (show Try.f81.body = some (Try.f81.body.getD .skip) from rfl) k81 q81 (Nat.le_of_ble_eq_true rfl) ?_
 refine body_of fun K hKn hKr => ?_
 unfold impl_policyOf.f at h
 unfold C81
 simp only [initT, Nat.reduceAdd]
 refine sr_k fun J1 hJ1 => ?_
 simp +decide only [reduceAdd, reduceMul, reduceToNat, ak]
 refine hJ1 _ ?_
 refine seq_k fun J2 hJ2 => ?_
 refine sr_k fun J3 hJ3 => ?_
 simp +decide only [reduceAdd, reduceMul, reduceToNat, ak]
 refine hJ3 _ ?_
 refine block_k fun B4 B4n B4x B4r B4j => ?_
 refine sr_k fun J5 hJ5 => ?_
 simp +decide only [reduceAdd, reduceMul, reduceToNat, ak]
 refine hJ5 _ ?_
 refine cond_k (b := decide (a0 = 1)) rfl (fun c6 => ?_) (fun c6 => ?_)
 ·replace c6 := of_decide_eq_true c6; rw [if_pos c6] at h
  refine sr_k fun J7 hJ7 => ?_
  simp +decide only [reduceAdd, reduceMul, reduceToNat, ak]
  refine hJ7 _ ?_
  refine B4r _ ?_
  obtain rfl := Option.some.inj h
  refine hKr _ ⟨_, rfl, [], _, rfl, rfl, ?_⟩
  exact cl
 ·replace c6 := of_decide_eq_false c6; rw [if_neg c6] at h
  refine sr_k fun J8 hJ8 => ?_
  simp +decide only [reduceAdd, reduceMul, reduceToNat, ak]
  refine hJ8 _ ?_
  refine cond_k (b := decide (a0 = 2)) rfl (fun c9 => ?_) (fun c9 => ?_)
  ·replace c9 := of_decide_eq_true c9; rw [if_pos c9] at h
   refine sr_k fun J10 hJ10 => ?_
   simp +decide only [reduceAdd, reduceMul, reduceToNat, ak]
   refine hJ10 _ ?_
   refine B4r _ ?_
   obtain rfl := Option.some.inj h
   refine hKr _ ⟨_, rfl, [], _, rfl, rfl, ?_⟩
   exact cl
  ·replace c9 := of_decide_eq_false c9; rw [if_neg c9] at h
   refine sr_k fun J11 hJ11 => ?_
   simp +decide only [reduceAdd, reduceMul, reduceToNat, ak]
   refine hJ11 _ ?_
   refine cond_k (b := decide (a0 = 3)) rfl (fun c12 => ?_) (fun c12 => ?_)
   ·replace c12 := of_decide_eq_true c12; rw [if_pos c12] at h
    refine sr_k fun J13 hJ13 => ?_
    simp +decide only [reduceAdd, reduceMul, reduceToNat, ak]
    refine hJ13 _ ?_
    refine B4r _ ?_
    obtain rfl := Option.some.inj h
    refine hKr _ ⟨_, rfl, [], _, rfl, rfl, ?_⟩
    exact cl
   ·replace c12 := of_decide_eq_false c12; rw [if_neg c12] at h
    refine sr_k fun J14 hJ14 => ?_
    simp +decide only [reduceAdd, reduceMul, reduceToNat, ak]
    refine hJ14 _ ?_
    refine cond_k (b := decide (a0 = 4)) rfl (fun c15 => ?_) (fun c15 => ?_)
    ·replace c15 := of_decide_eq_true c15; rw [if_pos c15] at h
     refine sr_k fun J16 hJ16 => ?_
     simp +decide only [reduceAdd, reduceMul, reduceToNat, ak]
     refine hJ16 _ ?_
     refine B4r _ ?_
     obtain rfl := Option.some.inj h
     refine hKr _ ⟨_, rfl, [], _, rfl, rfl, ?_⟩
     exact cl
    ·replace c15 := of_decide_eq_false c15; rw [if_neg c15] at h
     refine B4n _ ?_
     refine hJ2 _ ?_
     refine sr_k fun J17 hJ17 => ?_
     simp +decide only [reduceAdd, reduceMul, reduceToNat, ak]
     refine hJ17 _ ?_
     obtain rfl := Option.some.inj h
     refine hKr _ ⟨_, rfl, [], _, rfl, rfl, ?_⟩
     exact cl
/-! ### impl.validPaths: function 82 -/
def C82_l0 : AC := .sr [.o (.bin 16 .lss (.t 15) (.t 14)), .keep [13, 14, 15, 16]] (.seq (.cond (.t 16) (.skip) (.gh (.exit 0))) (.seq (.block 1 (.sr [.ia 17 3 13 15, .o (.load 18 true 3 (.t 17)), .o (.alloc 4 [.int .i64 0, .int .i64 0, .int .i64 0]), .st 3 4 18, .keep [4, 13, 14, 15]] (.seq (.ga (.reg [.fa 19 0 4, .ld 20 1 19, .o (.bin 21 .neq (.t 20) (.k 0)), .m 22 21, .op (some (22, true)) (.faddr 23 0 (.t 4)), .op (some (22, true)) (.load 24 false 1 (.t 23)), .op (some (22, true)) (.bin 25 .neq (.t 24) (.k 1)), .o (.pick 26 (.t 22) (.t 25) (.const (.bool false))), .m 27 26, .op (some (27, false)) (.faddr 28 1 (.t 4)), .op (some (27, false)) (.load 29 false 1 (.t 28)), .op (some (27, false)) (.bin 30 .lss (.t 29) (.k 0)), .o (.pick 31 (.t 27) (.const (.bool true)) (.t 30)), .m 32 31, .op (some (32, false)) (.faddr 33 1 (.t 4)), .op (some (32, false)) (.load 34 false 1 (.t 33)), .op (some (32, false)) (.bin 35 .gtr (.t 34) (.k 16)), .o (.pick 36 (.t 32) (.const (.bool true)) (.t 35)), .m 37 36, .op (some (37, false)) (.faddr 38 2 (.t 4)), .op (some (37, false)) (.load 39 false 1 (.t 38)), .op (some (37, false)) (.bin 40 .lss (.t 39) (.k 0)), .o (.pick 41 (.t 37) (.const (.bool true)) (.t 40)), .m 42 41, .op (some (42, false)) (.faddr 43 2 (.t 4)), .op (some (42, false)) (.load 44 false 1 (.t 43)), .op (some (42, false)) (.bin 45 .gtr (.t 44) (.k 16)), .o (.pick 46 (.t 42) (.const (.bool true)) (.t 45)), .keep [13, 14, 15, 46]])) (.cond (.t 46) (.sr [.o (.mv 2 (.const (.bool false))), .keep [2]] (.gh .ret)) (.skip))))) (.reg [.o (.bin 47 .add (.t 15) (.k 1)), .m 15 47, .keep [13, 14, 15]])))
def C82 : AC := .sr [.o (.mv 2 (.const (.bool false))), .keep [0]] (.seq (.seq (.ga (.reg [.m 5 0, .ln 6 5, .o (.bin 7 .lss (.t 6) (.k 1)), .m 8 7, .op (some (8, false)) (.mv 9 (.t 0)), .op (some (8, false)) (.len 10 (.t 9)), .op (some (8, false)) (.bin 11 .gtr (.t 10) (.k 8)), .o (.pick 12 (.t 8) (.const (.bool true)) (.t 11)), .keep [0, 12]])) (.cond (.t 12) (.sr [.o (.mv 2 (.const (.bool false))), .keep [2]] (.ret)) (.skip))) (.seq (.sr [.m 13 0, .ln 14 13, .o (.mv 15 (.k 0)), .keep [13, 14, 15]] (.block 0 (.gh (.loop (.ga C82_l0))))) (.sr [.o (.mv 2 (.const (.bool true))), .keep [2]] (.ret))))
def r82 : List RV := [.tmp 2]
theorem k82 : compC Try.prog 48 C82 (Try.f82.body.getD .skip) = some C82.erase := by kernel_rfl
theorem q82 : rvsOf Try.prog Try.f82.results.toList = some r82 := by kernel_rfl
def impl_validPaths.l0 (l0 : List S86) (x0_0 : Int) (x0_1 : Int) : Option (Lp Unit Bool) := (if x0_1 < x0_0 then (if 0 ≤ x0_1 ∧ x0_1 < (l0.length : Int) then ((if (rd z86 l0 x0_1).f0 ≠ 0 then (if (rd z86 l0 x0_1).f0 ≠ 1 then (some true) else (if (rd z86 l0 x0_1).f1 < 0 then (some true) else (if (rd z86 l0 x0_1).f1 > 16 then (some true) else (if (rd z86 l0 x0_1).f2 < 0 then (some true) else (some (decide ((rd z86 l0 x0_1).f2 > 16))))))) else (if (rd z86 l0 x0_1).f1 < 0 then (some true) else (if (rd z86 l0 x0_1).f1 > 16 then (some true) else (if (rd z86 l0 x0_1).f2 < 0 then (some true) else (some (decide ((rd z86 l0 x0_1).f2 > 16))))))) >>= fun (j23 : Bool) => (if j23 = true then (some (.b false)) else (impl_validPaths.l0 l0 x0_0 (IntKind.i64.wrap (x0_1 + 1))))) else none) else (some (.a ())))
 partial_fixpoint
def impl_validPaths.f (l0 : List S86) : Option Bool := ((if (l0.length : Int) < 1 then (some true) else (some (decide ((l0.length : Int) > 8)))) >>= fun (j3 : Bool) => (if j3 = true then (some false) else (impl_validPaths.l0 l0 (l0.length : Int) 0 >>= fun (y53 : Lp Unit Bool) => match y53 with | .a x55 => (some true) | .b x55 => (some x55))))
def impl_validPaths.l0_M (cs0 : List Cell) (o0 : Nat) (l0 : List S86) (hv0 : Vw c86 3 cs0 o0 l0) (x0_0 : Int) (x0_1 : Int) (y : Lp Unit Bool) : Prop := ∀ (K : AE → St → Prop), (∀ x, y = .a x → K (.exit 0) ⟨[], [(.arg 0, ⟨.fz, 3, cs0⟩)], [], []⟩) → (∀ x, y = .b x → K .ret ⟨[(2, .c (.sc (.bool x)))], [(.arg 0, ⟨.fz, 3, cs0⟩)], [], []⟩) → loopS Try.prog 48 (.ga C82_l0) K ⟨[(13, .c (.ref (.arg 0) [] o0 l0.length)), (14, .c (.sc (.int .i64 x0_0))), (15, .c (.sc (.int .i64 x0_1)))], [(.arg 0, ⟨.fz, 3, cs0⟩)], [], []⟩
theorem impl_validPaths.l0_walk (cs0 : List Cell) (o0 : Nat) (l0 : List S86) (hv0 : Vw c86 3 cs0 o0 l0) (x0_0 : Int) (x0_1 : Int) (y : Lp Unit Bool) (h : impl_validPaths.l0 l0 x0_0 x0_1 = some y) : impl_validPaths.l0_M cs0 o0 l0 hv0 x0_0 x0_1 y := by
 refine impl_validPaths.l0.partial_correctness l0 x0_0 (motive := fun x0_1 y => impl_validPaths.l0_M cs0 o0 l0 hv0 x0_0 x0_1 y) ?_ x0_1 y h
 clear h
 unfold impl_validPaths.l0_M
 intro rec ih x0_1 y h K hx0 hx1
 refine loop_unroll (ga_k fun G0 G0n G0r G0x => ?_)
 unfold C82_l0
 refine sr_k fun J15 hJ15 => ?_
 simp +decide only [reduceAdd, reduceMul, reduceToNat, ak]
 refine hJ15 _ ?_
 refine seq_k fun J16 hJ16 => ?_
 refine cond_k (b := decide (x0_1 < x0_0)) rfl (fun c17 => ?_) (fun c17 => ?_)
 ·replace c17 := of_decide_eq_true c17; rw [if_pos c17] at h
  refine hJ16 _ ?_
  refine seq_k fun J18 hJ18 => ?_
  refine block_k fun B19 B19n B19x B19r B19j => ?_
  refine sr_k fun J20 hJ20 => ?_
  obtain ⟨b21, h⟩ := of_guard h
  have g22 : (List.drop (o0 + x0_1.toNat * 3) (cs0)).take 3 = [.sc (.int .i64 ((rd z86 l0 x0_1).f0)), .sc (.int .i64 ((rd z86 l0 x0_1).f1)), .sc (.int .i64 ((rd z86 l0 x0_1).f2))] := hv0.stretch z86 b21.1 b21.2
  simp +decide only [reduceAdd, reduceMul, reduceToNat, ak, b21, g22]
  refine hJ20 _ ?_
  obtain ⟨j23, h24, hn⟩ := of_bind h
  refine seq_j (fun st => st = ⟨[(13, .c (.ref (.arg 0) [] o0 l0.length)), (14, .c (.sc (.int .i64 x0_0))), (15, .c (.sc (.int .i64 x0_1))), (46, .c (.sc (.bool j23)))], [(.arg 0, ⟨.fz, 3, cs0⟩)], [], []⟩) (fun J25 hJ25 => ?_) ?_
  ·replace h := h24; clear hn
   refine ga_k fun G26 G26n G26r G26x => ?_
   refine reg_k ?_
   simp +decide only [reduceAdd, reduceMul, reduceToNat, ak]
   by_cases c27 : (rd z86 l0 x0_1).f0 ≠ 0
   ·rw [if_pos c27] at h
    have e28 : decide ((rd z86 l0 x0_1).f0 ≠ 0) = true := decide_eq_true c27
    simp +decide only [reduceAdd, reduceMul, reduceToNat, ak, e28]
    by_cases c29 : (rd z86 l0 x0_1).f0 ≠ 1
    ·rw [if_pos c29] at h
     have e30 : decide ((rd z86 l0 x0_1).f0 ≠ 1) = true := decide_eq_true c29
     simp +decide only [reduceAdd, reduceMul, reduceToNat, ak, e30]
     obtain rfl := Option.some.inj h
     refine G26n _ _ (wj [13, 14, 15, 46] [pI (.arg 0) .fz]) (hJ25 _ rfl)
    ·rw [if_neg c29] at h
     have e31 : decide ((rd z86 l0 x0_1).f0 ≠ 1) = false := decide_eq_false c29
     simp +decide only [reduceAdd, reduceMul, reduceToNat, ak, e31]
     by_cases c32 : (rd z86 l0 x0_1).f1 < 0
     ·rw [if_pos c32] at h
      have e33 : decide ((rd z86 l0 x0_1).f1 < 0) = true := decide_eq_true c32
      simp +decide only [reduceAdd, reduceMul, reduceToNat, ak, e33]
      obtain rfl := Option.some.inj h
      refine G26n _ _ (wj [13, 14, 15, 46] [pI (.arg 0) .fz]) (hJ25 _ rfl)
     ·rw [if_neg c32] at h
      have e34 : decide ((rd z86 l0 x0_1).f1 < 0) = false := decide_eq_false c32
      simp +decide only [reduceAdd, reduceMul, reduceToNat, ak, e34]
      by_cases c35 : (rd z86 l0 x0_1).f1 > 16
      ·rw [if_pos c35] at h
       have e36 : decide ((rd z86 l0 x0_1).f1 > 16) = true := decide_eq_true c35
       simp +decide only [reduceAdd, reduceMul, reduceToNat, ak, e36]
       obtain rfl := Option.some.inj h
       refine G26n _ _ (wj [13, 14, 15, 46] [pI (.arg 0) .fz]) (hJ25 _ rfl)
      ·rw [if_neg c35] at h
       have e37 : decide ((rd z86 l0 x0_1).f1 > 16) = false := decide_eq_false c35
       simp +decide only [reduceAdd, reduceMul, reduceToNat, ak, e37]
       by_cases c38 : (rd z86 l0 x0_1).f2 < 0
       ·rw [if_pos c38] at h
        have e39 : decide ((rd z86 l0 x0_1).f2 < 0) = true := decide_eq_true c38
        simp +decide only [reduceAdd, reduceMul, reduceToNat, ak, e39]
        obtain rfl := Option.some.inj h
        refine G26n _ _ (wj [13, 14, 15, 46] [pI (.arg 0) .fz]) (hJ25 _ rfl)
       ·rw [if_neg c38] at h
        have e40 : decide ((rd z86 l0 x0_1).f2 < 0) = false := decide_eq_false c38
        simp +decide only [reduceAdd, reduceMul, reduceToNat, ak, e40]
        obtain rfl := Option.some.inj h
        refine G26n _ _ (wj [13, 14, 15, 46] [pI (.arg 0) .fz]) (hJ25 _ rfl)
   ·rw [if_neg c27] at h
    have e41 : decide ((rd z86 l0 x0_1).f0 ≠ 0) = false := decide_eq_false c27
    simp +decide only [reduceAdd, reduceMul, reduceToNat, ak, e41]
    by_cases c42 : (rd z86 l0 x0_1).f1 < 0
    ·rw [if_pos c42] at h
     have e43 : decide ((rd z86 l0 x0_1).f1 < 0) = true := decide_eq_true c42
     simp +decide only [reduceAdd, reduceMul, reduceToNat, ak, e43]
     obtain rfl := Option.some.inj h
     refine G26n _ _ (wj [13, 14, 15, 46] [pI (.arg 0) .fz]) (hJ25 _ rfl)
    ·rw [if_neg c42] at h
     have e44 : decide ((rd z86 l0 x0_1).f1 < 0) = false := decide_eq_false c42
     simp +decide only [reduceAdd, reduceMul, reduceToNat, ak, e44]
     by_cases c45 : (rd z86 l0 x0_1).f1 > 16
     ·rw [if_pos c45] at h
      have e46 : decide ((rd z86 l0 x0_1).f1 > 16) = true := decide_eq_true c45
      simp +decide only [reduceAdd, reduceMul, reduceToNat, ak, e46]
      obtain rfl := Option.some.inj h
      refine G26n _ _ (wj [13, 14, 15, 46] [pI (.arg 0) .fz]) (hJ25 _ rfl)
     ·rw [if_neg c45] at h
      have e47 : decide ((rd z86 l0 x0_1).f1 > 16) = false := decide_eq_false c45
      simp +decide only [reduceAdd, reduceMul, reduceToNat, ak, e47]
      by_cases c48 : (rd z86 l0 x0_1).f2 < 0
      ·rw [if_pos c48] at h
       have e49 : decide ((rd z86 l0 x0_1).f2 < 0) = true := decide_eq_true c48
       simp +decide only [reduceAdd, reduceMul, reduceToNat, ak, e49]
       obtain rfl := Option.some.inj h
       refine G26n _ _ (wj [13, 14, 15, 46] [pI (.arg 0) .fz]) (hJ25 _ rfl)
      ·rw [if_neg c48] at h
       have e50 : decide ((rd z86 l0 x0_1).f2 < 0) = false := decide_eq_false c48
       simp +decide only [reduceAdd, reduceMul, reduceToNat, ak, e50]
       obtain rfl := Option.some.inj h
       refine G26n _ _ (wj [13, 14, 15, 46] [pI (.arg 0) .fz]) (hJ25 _ rfl)
  ·replace h := hn; clear hn h24
   rintro _ rfl
   refine cond_k (b := j23) rfl (fun c51 => ?_) (fun c51 => ?_)
   ·rw [if_pos c51] at h
    refine sr_k fun J52 hJ52 => ?_
    simp +decide only [reduceAdd, reduceMul, reduceToNat, ak]
    refine hJ52 _ ?_
    obtain rfl := Option.some.inj h
    refine gh_k (wk [2] [pI (.arg 0) .fz]) ?_
    refine B19r _ ?_
    refine G0r _ ?_
    exact hx1 _ rfl
   ·rw [if_neg (Bool.eq_false_iff.1 c51)] at h
    refine B19n _ ?_
    refine hJ18 _ ?_
    refine reg_k ?_
    simp +decide only [reduceAdd, reduceMul, reduceToNat, ak]
    refine G0n _ _ (wk [13, 14, 15] [pI (.arg 0) .fz]) (ih _ _ h K hx0 hx1)
 ·replace c17 := of_decide_eq_false c17; rw [if_neg c17] at h
  obtain rfl := Option.some.inj h
  refine gh_k (wk [] [pI (.arg 0) .fz]) ?_
  refine G0x _ _ ?_
  exact hx0 _ rfl
theorem impl_validPaths.tri (cs0 : List Cell) (o0 : Nat) (l0 : List S86) (hv0 : Vw c86 3 cs0 o0 l0) (r : Bool) (h : impl_validPaths.f l0 = some r) : Tri Try.prog 82 [.c (.ref (.arg 0) [] o0 l0.length)] [(.arg 0, ⟨.fz, 3, cs0⟩)] (fun o => o = ⟨.c (.sc (.bool r)), [(.arg 0, ⟨.fz, 3, cs0⟩)], [], []⟩) := by
 refine tri_of_body (ac := C82) (xs := r82) Try.func82 (show Try.f82.body = some (Try.f82.body.getD .skip) from rfl) k82 q82 (Nat.le_of_ble_eq_true rfl) ?_
 refine body_of fun K hKn hKr => ?_
 unfold impl_validPaths.f at h
 unfold C82
 simp only [initT, Nat.reduceAdd]
 refine sr_k fun J1 hJ1 => ?_
 simp +decide only [reduceAdd, reduceMul, reduceToNat, ak]
 refine hJ1 _ ?_
 refine seq_k fun J2 hJ2 => ?_
 obtain ⟨j3, h4, hn⟩ := of_bind h
 refine seq_j (fun st => st = ⟨[(0, .c (.ref (.arg 0) [] o0 l0.length)), (12, .c (.sc (.bool j3)))], [(.arg 0, ⟨.fz, 3, cs0⟩)], [], []⟩) (fun J5 hJ5 => ?_) ?_
 ·replace h := h4; clear hn
  refine ga_k fun G6 G6n G6r G6x => ?_
  refine reg_k ?_
  simp +decide only [reduceAdd, reduceMul, reduceToNat, ak]
  by_cases c7 : (l0.length : Int) < 1
  ·rw [if_pos c7] at h
   have e8 : decide ((l0.length : Int) < 1) = true := decide_eq_true c7
   simp +decide only [reduceAdd, reduceMul, reduceToNat, ak, e8]
   obtain rfl := Option.some.inj h
   refine G6n _ _ (wj [0, 12] [pI (.arg 0) .fz]) (hJ5 _ rfl)
  ·rw [if_neg c7] at h
   have e9 : decide ((l0.length : Int) < 1) = false := decide_eq_false c7
   simp +decide only [reduceAdd, reduceMul, reduceToNat, ak, e9]
   obtain rfl := Option.some.inj h
   refine G6n _ _ (wj [0, 12] [pI (.arg 0) .fz]) (hJ5 _ rfl)
 ·replace h := hn; clear hn h4
  rintro _ rfl
  refine cond_k (b := j3) rfl (fun c10 => ?_) (fun c10 => ?_)
  ·rw [if_pos c10] at h
   refine sr_k fun J11 hJ11 => ?_
   simp +decide only [reduceAdd, reduceMul, reduceToNat, ak]
   refine hJ11 _ ?_
   obtain rfl := Option.some.inj h
   refine hKr _ ⟨_, rfl, [], _, rfl, rfl, ?_⟩
   exact cl
  ·rw [if_neg (Bool.eq_false_iff.1 c10)] at h
   refine hJ2 _ ?_
   refine seq_k fun J12 hJ12 => ?_
   refine sr_k fun J13 hJ13 => ?_
   simp +decide only [reduceAdd, reduceMul, reduceToNat, ak]
   refine hJ13 _ ?_
   refine block_k fun B14 B14n B14x B14r B14j => ?_
   obtain ⟨y53, h54, h⟩ := of_bind h
   refine gh_k (wk [13, 14, 15] [pI (.arg 0) .fz]) ?_
   rw [e_loop]
   refine impl_validPaths.l0_walk cs0 o0 l0 hv0 (l0.length : Int) 0 _ h54 _ ?_ ?_
   ·rintro x55 rfl
    dsimp only at h
    refine B14x _ ?_
    refine hJ12 _ ?_
    refine sr_k fun J56 hJ56 => ?_
    simp +decide only [reduceAdd, reduceMul, reduceToNat, ak]
    refine hJ56 _ ?_
    obtain rfl := Option.some.inj h
    refine hKr _ ⟨_, rfl, [], _, rfl, rfl, ?_⟩
    exact cl
   ·rintro x55 rfl
    dsimp only at h
    refine B14r _ ?_
    obtain rfl := Option.some.inj h
    refine hKr _ ⟨_, rfl, [], _, rfl, rfl, ?_⟩
    exact cl
/-! ### impl.validMaps: function 74 -/
def C74_l0 : AC := .sr [.o (.bin 13 .lss (.t 12) (.t 11)), .keep [0, 10, 11, 12, 13]] (.seq (.cond (.t 13) (.skip) (.gh (.exit 0))) (.seq (.block 1 (.sr [.m 14 12, .ia 15 5 10 12, .o (.load 16 true 5 (.t 15)), .o (.alloc 4 [.int .u64 0, .int .i64 0, .int .i64 0, .int .i64 0, .int .i64 0]), .m 3 14, .st 5 4 16, .keep [0, 3, 4, 10, 11, 12]] (.seq (.ga (.reg [.fa 17 2 4, .ld 18 1 17, .o (.bin 19 .eql (.t 18) (.k 0)), .m 20 19, .op (some (20, true)) (.faddr 21 1 (.t 4)), .op (some (20, true)) (.load 22 false 1 (.t 21)), .op (some (20, true)) (.bin 23 .geq (.t 22) (.k 1)), .o (.pick 24 (.t 20) (.t 23) (.const (.bool false))), .m 25 24, .op (some (25, true)) (.faddr 26 1 (.t 4)), .op (some (25, true)) (.load 27 false 1 (.t 26)), .op (some (25, true)) (.bin 28 .leq (.t 27) (.k 32)), .o (.pick 29 (.t 25) (.t 28) (.const (.bool false))), .m 5 29, .keep [0, 3, 4, 5, 10, 11, 12]])) (.seq (.ga (.reg [.fa 30 2 4, .ld 31 1 30, .o (.bin 32 .eql (.t 31) (.k 1)), .m 33 32, .op (some (33, true)) (.faddr 34 1 (.t 4)), .op (some (33, true)) (.load 35 false 1 (.t 34)), .op (some (33, true)) (.bin 36 .eql (.t 35) (.k 0)), .o (.pick 37 (.t 33) (.t 36) (.const (.bool false))), .m 38 37, .op (some (38, true)) (.mv 39 (.t 3)), .op (some (38, true)) (.mv 40 (.t 0)), .op (some (38, true)) (.len 41 (.t 40)), .op (some (38, true)) (.bin 42 .sub (.t 41) (.k 1)), .op (some (38, true)) (.bin 43 .eql (.t 39) (.t 42)), .o (.pick 44 (.t 38) (.t 43) (.const (.bool false))), .m 6 44, .keep [0, 3, 4, 5, 6, 10, 11, 12]])) (.seq (.seq (.ga (.reg [.fa 45 0 4, .ld 46 1 45, .o (.bin 47 .gtr (.t 46) (.const (.int .u64 4611686018427387904))), .m 48 47, .op (some (48, false)) (.mv 49 (.t 5)), .op (some (48, false)) (.un 50 .not (.t 49)), .op (some (48, false)) (.mv 51 (.t 50)), .op (some (51, true)) (.mv 52 (.t 6)), .op (some (51, true)) (.un 53 .not (.t 52)), .op (some (48, false)) (.pick 54 (.t 51) (.t 53) (.const (.bool false))), .o (.pick 55 (.t 48) (.const (.bool true)) (.t 54)), .m 56 55, .op (some (56, false)) (.faddr 57 3 (.t 4)), .op (some (56, false)) (.load 58 false 1 (.t 57)), .op (some (56, false)) (.bin 59 .lss (.t 58) (.k 1)), .o (.pick 60 (.t 56) (.const (.bool true)) (.t 59)), .m 61 60, .op (some (61, false)) (.faddr 62 3 (.t 4)), .op (some (61, false)) (.load 63 false 1 (.t 62)), .op (some (61, false)) (.bin 64 .gtr (.t 63) (.k 255)), .o (.pick 65 (.t 61) (.const (.bool true)) (.t 64)), .m 66 65, .op (some (66, false)) (.faddr 67 4 (.t 4)), .op (some (66, false)) (.load 68 false 1 (.t 67)), .op (some (66, false)) (.bin 69 .neq (.t 68) (.k 0)), .op (some (66, false)) (.mv 70 (.t 69)), .op (some (70, true)) (.faddr 71 4 (.t 4)), .op (some (70, true)) (.load 72 false 1 (.t 71)), .op (some (70, true)) (.bin 73 .neq (.t 72) (.k 1)), .op (some (66, false)) (.pick 74 (.t 70) (.t 73) (.const (.bool false))), .o (.pick 75 (.t 66) (.const (.bool true)) (.t 74)), .keep [0, 3, 4, 10, 11, 12, 75]])) (.cond (.t 75) (.sr [.o (.mv 2 (.const (.bool false))), .keep [2]] (.gh .ret)) (.skip))) (.seq (.ga (.regD (.f (.m 76 3) (.f (.o (.bin 77 .gtr (.t 76) (.k 0))) (.f (.m 78 77) (.f (.op (some (78, true)) (.faddr 79 0 (.t 4))) (.f (.op (some (78, true)) (.load 80 false 1 (.t 79))) (.f (.op (some (78, true)) (.mv 81 (.t 0))) (.f (.op (some (78, true)) (.mv 82 (.t 3))) (.f (.op (some (78, true)) (.bin 83 .sub (.t 82) (.k 1))) (.f (.op (some (78, true)) (.iaddr 84 5 (.t 81) (.t 83))) (.f (.op (some (78, true)) (.faddr 85 0 (.t 84))) (.f (.op (some (78, true)) (.load 86 false 1 (.t 85))) (.f (.op (some (78, true)) (.mv 87 (.t 0))) (.f (.op (some (78, true)) (.mv 88 (.t 3))) (.f (.op (some (78, true)) (.bin 89 .sub (.t 88) (.k 1))) (.f (.op (some (78, true)) (.iaddr 90 5 (.t 87) (.t 89))) (.f (.op (some (78, true)) (.faddr 91 1 (.t 90))) (.f (.op (some (78, true)) (.load 92 false 1 (.t 91))) (.f (.op (some (78, true)) (.conv 93 .u64 (.t 92))) (.f (.op (some (78, true)) (.bin 94 .add (.t 86) (.t 93))) (.f (.op (some (78, true)) (.bin 95 .lss (.t 80) (.t 94))) (.f (.o (.pick 96 (.t 78) (.t 95) (.const (.bool false)))) (.done)))))))))))))))))))))) [0, 10, 11, 12, 96])) (.cond (.t 96) (.sr [.o (.mv 2 (.const (.bool false))), .keep [2]] (.gh .ret)) (.skip)))))))) (.reg [.o (.bin 97 .add (.t 12) (.k 1)), .m 12 97, .keep [0, 10, 11, 12]])))
def C74 : AC := .sr [.o (.mv 2 (.const (.bool false))), .keep [0]] (.seq (.sr [.m 7 0, .ln 8 7, .o (.bin 9 .gtr (.t 8) (.k 256)), .keep [0, 9]] (.cond (.t 9) (.sr [.o (.mv 2 (.const (.bool false))), .keep [2]] (.ret)) (.skip))) (.seq (.sr [.m 10 0, .ln 11 10, .o (.mv 12 (.k 0)), .keep [0, 10, 11, 12]] (.block 0 (.gh (.loop (.ga C74_l0))))) (.sr [.o (.mv 2 (.const (.bool true))), .keep [2]] (.ret))))
def r74 : List RV := [.tmp 2]
theorem k74 : compC Try.prog 98 C74 (Try.f74.body.getD .skip) = some C74.erase := by kernel_rfl
theorem q74 : rvsOf Try.prog Try.f74.results.toList = some r74 := by kernel_rfl
def impl_validMaps.l0 (l0 : List S84) (x0_0 : Int) (x0_1 : Int) : Option (Lp Unit Bool) := (if x0_1 < x0_0 then (if 0 ≤ x0_1 ∧ x0_1 < (l0.length : Int) then ((if (rd z84 l0 x0_1).f2 = 0 then (if (rd z84 l0 x0_1).f1 ≥ 1 then (some (decide ((rd z84 l0 x0_1).f1 ≤ 32))) else (some false)) else (some false)) >>= fun (j17 : Bool) => ((if (rd z84 l0 x0_1).f2 = 1 then (if (rd z84 l0 x0_1).f1 = 0 then (some (decide (x0_1 = IntKind.i64.wrap ((l0.length : Int) - 1)))) else (some false)) else (some false)) >>= fun (j27 : Bool) => ((if (rd z84 l0 x0_1).f0 > 4611686018427387904 then (some true) else (if (!j17) = true then (if (!j27) = true then (some true) else (if (rd z84 l0 x0_1).f3 < 1 then (some true) else (if (rd z84 l0 x0_1).f3 > 255 then (some true) else (if (rd z84 l0 x0_1).f4 ≠ 0 then (some (decide ((rd z84 l0 x0_1).f4 ≠ 1))) else (some false))))) else (if (rd z84 l0 x0_1).f3 < 1 then (some true) else (if (rd z84 l0 x0_1).f3 > 255 then (some true) else (if (rd z84 l0 x0_1).f4 ≠ 0 then (some (decide ((rd z84 l0 x0_1).f4 ≠ 1))) else (some false)))))) >>= fun (j38 : Bool) => (if j38 = true then (some (.b false)) else ((if x0_1 > 0 then (if 0 ≤ IntKind.i64.wrap (x0_1 - 1) ∧ IntKind.i64.wrap (x0_1 - 1) < (l0.length : Int) then (some (decide ((rd z84 l0 x0_1).f0 < IntKind.u64.wrap (((rd z84 l0 (IntKind.i64.wrap (x0_1 - 1))).f0) + (IntKind.u64.wrap ((rd z84 l0 (IntKind.i64.wrap (x0_1 - 1))).f1)))))) else none) else (some false)) >>= fun (j71 : Bool) => (if j71 = true then (some (.b false)) else (impl_validMaps.l0 l0 x0_0 (IntKind.i64.wrap (x0_1 + 1))))))))) else none) else (some (.a ())))
 partial_fixpoint
def impl_validMaps.f (l0 : List S84) : Option Bool := (if (l0.length : Int) > 256 then (some false) else (impl_validMaps.l0 l0 (l0.length : Int) 0 >>= fun (y85 : Lp Unit Bool) => match y85 with | .a x87 => (some true) | .b x87 => (some x87)))
def impl_validMaps.l0_M (cs0 : List Cell) (o0 : Nat) (l0 : List S84) (hv0 : Vw c84 5 cs0 o0 l0) (x0_0 : Int) (x0_1 : Int) (y : Lp Unit Bool) : Prop := ∀ (K : AE → St → Prop), (∀ x, y = .a x → K (.exit 0) ⟨[], [(.arg 0, ⟨.fz, 5, cs0⟩)], [], []⟩) → (∀ x, y = .b x → K .ret ⟨[(2, .c (.sc (.bool x)))], [(.arg 0, ⟨.fz, 5, cs0⟩)], [], []⟩) → loopS Try.prog 98 (.ga C74_l0) K ⟨[(0, .c (.ref (.arg 0) [] o0 l0.length)), (10, .c (.ref (.arg 0) [] o0 l0.length)), (11, .c (.sc (.int .i64 x0_0))), (12, .c (.sc (.int .i64 x0_1)))], [(.arg 0, ⟨.fz, 5, cs0⟩)], [], []⟩
theorem impl_validMaps.l0_walk (cs0 : List Cell) (o0 : Nat) (l0 : List S84) (hv0 : Vw c84 5 cs0 o0 l0) (x0_0 : Int) (x0_1 : Int) (y : Lp Unit Bool) (h : impl_validMaps.l0 l0 x0_0 x0_1 = some y) : impl_validMaps.l0_M cs0 o0 l0 hv0 x0_0 x0_1 y := by
 refine impl_validMaps.l0.partial_correctness l0 x0_0 (motive := fun x0_1 y => impl_validMaps.l0_M cs0 o0 l0 hv0 x0_0 x0_1 y) ?_ x0_1 y h
 clear h
 unfold impl_validMaps.l0_M
 intro rec ih x0_1 y h K hx0 hx1
 refine loop_unroll (ga_k fun G0 G0n G0r G0x => ?_)
 unfold C74_l0
 refine sr_k fun J9 hJ9 => ?_
 simp +decide only [reduceAdd, reduceMul, reduceToNat, ak]
 refine hJ9 _ ?_
 refine seq_k fun J10 hJ10 => ?_
 refine cond_k (b := decide (x0_1 < x0_0)) rfl (fun c11 => ?_) (fun c11 => ?_)
 ·replace c11 := of_decide_eq_true c11; rw [if_pos c11] at h
  refine hJ10 _ ?_
  refine seq_k fun J12 hJ12 => ?_
  refine block_k fun B13 B13n B13x B13r B13j => ?_
  refine sr_k fun J14 hJ14 => ?_
  obtain ⟨b15, h⟩ := of_guard h
  have g16 : (List.drop (o0 + x0_1.toNat * 5) (cs0)).take 5 = [.sc (.int .u64 ((rd z84 l0 x0_1).f0)), .sc (.int .i64 ((rd z84 l0 x0_1).f1)), .sc (.int .i64 ((rd z84 l0 x0_1).f2)), .sc (.int .i64 ((rd z84 l0 x0_1).f3)), .sc (.int .i64 ((rd z84 l0 x0_1).f4))] := hv0.stretch z84 b15.1 b15.2
  simp +decide only [reduceAdd, reduceMul, reduceToNat, ak, b15, g16]
  refine hJ14 _ ?_
  obtain ⟨j17, h18, hn⟩ := of_bind h
  refine seq_j (fun st => st = ⟨[(0, .c (.ref (.arg 0) [] o0 l0.length)), (3, .c (.sc (.int .i64 x0_1))), (4, .c (.ptr (.tmp 4 0) [] 0)), (5, .c (.sc (.bool j17))), (10, .c (.ref (.arg 0) [] o0 l0.length)), (11, .c (.sc (.int .i64 x0_0))), (12, .c (.sc (.int .i64 x0_1)))], [(.arg 0, ⟨.fz, 5, cs0⟩), (.tmp 4 0, ⟨.box, 0, [.sc (.int .u64 ((rd z84 l0 x0_1).f0)), .sc (.int .i64 ((rd z84 l0 x0_1).f1)), .sc (.int .i64 ((rd z84 l0 x0_1).f2)), .sc (.int .i64 ((rd z84 l0 x0_1).f3)), .sc (.int .i64 ((rd z84 l0 x0_1).f4))]⟩)], [], []⟩) (fun J19 hJ19 => ?_) ?_
  ·replace h := h18; clear hn
   refine ga_k fun G20 G20n G20r G20x => ?_
   refine reg_k ?_
   simp +decide only [reduceAdd, reduceMul, reduceToNat, ak]
   by_cases c21 : (rd z84 l0 x0_1).f2 = 0
   ·rw [if_pos c21] at h
    have e22 : decide ((rd z84 l0 x0_1).f2 = 0) = true := decide_eq_true c21
    simp +decide only [reduceAdd, reduceMul, reduceToNat, ak, e22]
    by_cases c23 : (rd z84 l0 x0_1).f1 ≥ 1
    ·rw [if_pos c23] at h
     have e24 : decide ((rd z84 l0 x0_1).f1 ≥ 1) = true := decide_eq_true c23
     simp +decide only [reduceAdd, reduceMul, reduceToNat, ak, e24]
     obtain rfl := Option.some.inj h
     refine G20n _ _ (wj [0, 3, 4, 5, 10, 11, 12] [pI (.arg 0) .fz, pI (.tmp 4 0) .box]) (hJ19 _ rfl)
    ·rw [if_neg c23] at h
     have e25 : decide ((rd z84 l0 x0_1).f1 ≥ 1) = false := decide_eq_false c23
     simp +decide only [reduceAdd, reduceMul, reduceToNat, ak, e25]
     obtain rfl := Option.some.inj h
     refine G20n _ _ (wj [0, 3, 4, 5, 10, 11, 12] [pI (.arg 0) .fz, pI (.tmp 4 0) .box]) (hJ19 _ rfl)
   ·rw [if_neg c21] at h
    have e26 : decide ((rd z84 l0 x0_1).f2 = 0) = false := decide_eq_false c21
    simp +decide only [reduceAdd, reduceMul, reduceToNat, ak, e26]
    obtain rfl := Option.some.inj h
    refine G20n _ _ (wj [0, 3, 4, 5, 10, 11, 12] [pI (.arg 0) .fz, pI (.tmp 4 0) .box]) (hJ19 _ rfl)
  ·replace h := hn; clear hn h18
   rintro _ rfl
   obtain ⟨j27, h28, hn⟩ := of_bind h
   refine seq_j (fun st => st = ⟨[(0, .c (.ref (.arg 0) [] o0 l0.length)), (3, .c (.sc (.int .i64 x0_1))), (4, .c (.ptr (.tmp 4 0) [] 0)), (5, .c (.sc (.bool j17))), (6, .c (.sc (.bool j27))), (10, .c (.ref (.arg 0) [] o0 l0.length)), (11, .c (.sc (.int .i64 x0_0))), (12, .c (.sc (.int .i64 x0_1)))], [(.arg 0, ⟨.fz, 5, cs0⟩), (.tmp 4 0, ⟨.box, 0, [.sc (.int .u64 ((rd z84 l0 x0_1).f0)), .sc (.int .i64 ((rd z84 l0 x0_1).f1)), .sc (.int .i64 ((rd z84 l0 x0_1).f2)), .sc (.int .i64 ((rd z84 l0 x0_1).f3)), .sc (.int .i64 ((rd z84 l0 x0_1).f4))]⟩)], [], []⟩) (fun J29 hJ29 => ?_) ?_
   ·replace h := h28; clear hn
    refine ga_k fun G30 G30n G30r G30x => ?_
    refine reg_k ?_
    simp +decide only [reduceAdd, reduceMul, reduceToNat, ak]
    by_cases c31 : (rd z84 l0 x0_1).f2 = 1
    ·rw [if_pos c31] at h
     have e32 : decide ((rd z84 l0 x0_1).f2 = 1) = true := decide_eq_true c31
     simp +decide only [reduceAdd, reduceMul, reduceToNat, ak, e32]
     by_cases c33 : (rd z84 l0 x0_1).f1 = 0
     ·rw [if_pos c33] at h
      have e34 : decide ((rd z84 l0 x0_1).f1 = 0) = true := decide_eq_true c33
      simp +decide only [reduceAdd, reduceMul, reduceToNat, ak, e34]
      obtain rfl := Option.some.inj h
      refine G30n _ _ (wj [0, 3, 4, 5, 6, 10, 11, 12] [pI (.arg 0) .fz, pI (.tmp 4 0) .box]) (hJ29 _ rfl)
     ·rw [if_neg c33] at h
      have e35 : decide ((rd z84 l0 x0_1).f1 = 0) = false := decide_eq_false c33
      simp +decide only [reduceAdd, reduceMul, reduceToNat, ak, e35]
      obtain rfl := Option.some.inj h
      refine G30n _ _ (wj [0, 3, 4, 5, 6, 10, 11, 12] [pI (.arg 0) .fz, pI (.tmp 4 0) .box]) (hJ29 _ rfl)
    ·rw [if_neg c31] at h
     have e36 : decide ((rd z84 l0 x0_1).f2 = 1) = false := decide_eq_false c31
     simp +decide only [reduceAdd, reduceMul, reduceToNat, ak, e36]
     obtain rfl := Option.some.inj h
     refine G30n _ _ (wj [0, 3, 4, 5, 6, 10, 11, 12] [pI (.arg 0) .fz, pI (.tmp 4 0) .box]) (hJ29 _ rfl)
   ·replace h := hn; clear hn h28
    rintro _ rfl
    refine seq_k fun J37 hJ37 => ?_
    obtain ⟨j38, h39, hn⟩ := of_bind h
    refine seq_j (fun st => st = ⟨[(0, .c (.ref (.arg 0) [] o0 l0.length)), (3, .c (.sc (.int .i64 x0_1))), (4, .c (.ptr (.tmp 4 0) [] 0)), (10, .c (.ref (.arg 0) [] o0 l0.length)), (11, .c (.sc (.int .i64 x0_0))), (12, .c (.sc (.int .i64 x0_1))), (75, .c (.sc (.bool j38)))], [(.arg 0, ⟨.fz, 5, cs0⟩), (.tmp 4 0, ⟨.box, 0, [.sc (.int .u64 ((rd z84 l0 x0_1).f0)), .sc (.int .i64 ((rd z84 l0 x0_1).f1)), .sc (.int .i64 ((rd z84 l0 x0_1).f2)), .sc (.int .i64 ((rd z84 l0 x0_1).f3)), .sc (.int .i64 ((rd z84 l0 x0_1).f4))]⟩)], [], []⟩) (fun J40 hJ40 => ?_) ?_
    ·replace h := h39; clear hn
     refine ga_k fun G41 G41n G41r G41x => ?_
     refine reg_k ?_
     simp +decide only [reduceAdd, reduceMul, reduceToNat, ak]
     by_cases c42 : (rd z84 l0 x0_1).f0 > 4611686018427387904
     ·rw [if_pos c42] at h
      have e43 : decide ((rd z84 l0 x0_1).f0 > 4611686018427387904) = true := decide_eq_true c42
      simp +decide only [reduceAdd, reduceMul, reduceToNat, ak, e43]
      obtain rfl := Option.some.inj h
      refine G41n _ _ (wj [0, 3, 4, 10, 11, 12, 75] [pI (.arg 0) .fz, pI (.tmp 4 0) .box]) (hJ40 _ rfl)
     ·rw [if_neg c42] at h
      have e44 : decide ((rd z84 l0 x0_1).f0 > 4611686018427387904) = false := decide_eq_false c42
      simp +decide only [reduceAdd, reduceMul, reduceToNat, ak, e44]
      by_cases c45 : (!j17) = true
      ·rw [if_pos c45] at h
       have e46 : (!j17) = true := c45
       simp +decide only [reduceAdd, reduceMul, reduceToNat, ak, e46]
       by_cases c47 : (!j27) = true
       ·rw [if_pos c47] at h
        have e48 : (!j27) = true := c47
        simp +decide only [reduceAdd, reduceMul, reduceToNat, ak, e48]
        obtain rfl := Option.some.inj h
        refine G41n _ _ (wj [0, 3, 4, 10, 11, 12, 75] [pI (.arg 0) .fz, pI (.tmp 4 0) .box]) (hJ40 _ rfl)
       ·rw [if_neg c47] at h
        have e49 : (!j27) = false := Bool.eq_false_iff.2 c47
        simp +decide only [reduceAdd, reduceMul, reduceToNat, ak, e49]
        by_cases c50 : (rd z84 l0 x0_1).f3 < 1
        ·rw [if_pos c50] at h
         have e51 : decide ((rd z84 l0 x0_1).f3 < 1) = true := decide_eq_true c50
         simp +decide only [reduceAdd, reduceMul, reduceToNat, ak, e51]
         obtain rfl := Option.some.inj h
         refine G41n _ _ (wj [0, 3, 4, 10, 11, 12, 75] [pI (.arg 0) .fz, pI (.tmp 4 0) .box]) (hJ40 _ rfl)
        ·rw [if_neg c50] at h
         have e52 : decide ((rd z84 l0 x0_1).f3 < 1) = false := decide_eq_false c50
         simp +decide only [reduceAdd, reduceMul, reduceToNat, ak, e52]
         by_cases c53 : (rd z84 l0 x0_1).f3 > 255
         ·rw [if_pos c53] at h
          have e54 : decide ((rd z84 l0 x0_1).f3 > 255) = true := decide_eq_true c53
          simp +decide only [reduceAdd, reduceMul, reduceToNat, ak, e54]
          obtain rfl := Option.some.inj h
          refine G41n _ _ (wj [0, 3, 4, 10, 11, 12, 75] [pI (.arg 0) .fz, pI (.tmp 4 0) .box]) (hJ40 _ rfl)
         ·rw [if_neg c53] at h
          have e55 : decide ((rd z84 l0 x0_1).f3 > 255) = false := decide_eq_false c53
          simp +decide only [reduceAdd, reduceMul, reduceToNat, ak, e55]
          by_cases c56 : (rd z84 l0 x0_1).f4 ≠ 0
          ·rw [if_pos c56] at h
           have e57 : decide ((rd z84 l0 x0_1).f4 ≠ 0) = true := decide_eq_true c56
           simp +decide only [reduceAdd, reduceMul, reduceToNat, ak, e57]
           obtain rfl := Option.some.inj h
           refine G41n _ _ (wj [0, 3, 4, 10, 11, 12, 75] [pI (.arg 0) .fz, pI (.tmp 4 0) .box]) (hJ40 _ rfl)
          ·rw [if_neg c56] at h
           have e58 : decide ((rd z84 l0 x0_1).f4 ≠ 0) = false := decide_eq_false c56
           simp +decide only [reduceAdd, reduceMul, reduceToNat, ak, e58]
           obtain rfl := Option.some.inj h
           refine G41n _ _ (wj [0, 3, 4, 10, 11, 12, 75] [pI (.arg 0) .fz, pI (.tmp 4 0) .box]) (hJ40 _ rfl)
      ·rw [if_neg c45] at h
       have e59 : (!j17) = false := Bool.eq_false_iff.2 c45
       simp +decide only [reduceAdd, reduceMul, reduceToNat, ak, e59]
       by_cases c60 : (rd z84 l0 x0_1).f3 < 1
       ·rw [if_pos c60] at h
        have e61 : decide ((rd z84 l0 x0_1).f3 < 1) = true := decide_eq_true c60
        simp +decide only [reduceAdd, reduceMul, reduceToNat, ak, e61]
        obtain rfl := Option.some.inj h
        refine G41n _ _ (wj [0, 3, 4, 10, 11, 12, 75] [pI (.arg 0) .fz, pI (.tmp 4 0) .box]) (hJ40 _ rfl)
       ·rw [if_neg c60] at h
        have e62 : decide ((rd z84 l0 x0_1).f3 < 1) = false := decide_eq_false c60
        simp +decide only [reduceAdd, reduceMul, reduceToNat, ak, e62]
        by_cases c63 : (rd z84 l0 x0_1).f3 > 255
        ·rw [if_pos c63] at h
         have e64 : decide ((rd z84 l0 x0_1).f3 > 255) = true := decide_eq_true c63
         simp +decide only [reduceAdd, reduceMul, reduceToNat, ak, e64]
         obtain rfl := Option.some.inj h
         refine G41n _ _ (wj [0, 3, 4, 10, 11, 12, 75] [pI (.arg 0) .fz, pI (.tmp 4 0) .box]) (hJ40 _ rfl)
        ·rw [if_neg c63] at h
         have e65 : decide ((rd z84 l0 x0_1).f3 > 255) = false := decide_eq_false c63
         simp +decide only [reduceAdd, reduceMul, reduceToNat, ak, e65]
         by_cases c66 : (rd z84 l0 x0_1).f4 ≠ 0
         ·rw [if_pos c66] at h
          have e67 : decide ((rd z84 l0 x0_1).f4 ≠ 0) = true := decide_eq_true c66
          simp +decide only [reduceAdd, reduceMul, reduceToNat, ak, e67]
          obtain rfl := Option.some.inj h
          refine G41n _ _ (wj [0, 3, 4, 10, 11, 12, 75] [pI (.arg 0) .fz, pI (.tmp 4 0) .box]) (hJ40 _ rfl)
         ·rw [if_neg c66] at h
          have e68 : decide ((rd z84 l0 x0_1).f4 ≠ 0) = false := decide_eq_false c66
          simp +decide only [reduceAdd, reduceMul, reduceToNat, ak, e68]
          obtain rfl := Option.some.inj h
          refine G41n _ _ (wj [0, 3, 4, 10, 11, 12, 75] [pI (.arg 0) .fz, pI (.tmp 4 0) .box]) (hJ40 _ rfl)
    ·replace h := hn; clear hn h39
     rintro _ rfl
     refine cond_k (b := j38) rfl (fun c69 => ?_) (fun c69 => ?_)
     ·rw [if_pos c69] at h
      refine sr_k fun J70 hJ70 => ?_
      simp +decide only [reduceAdd, reduceMul, reduceToNat, ak]
      refine hJ70 _ ?_
      obtain rfl := Option.some.inj h
      refine gh_k (wk [2] [pI (.arg 0) .fz]) ?_
      refine B13r _ ?_
      refine G0r _ ?_
      exact hx1 _ rfl
     ·rw [if_neg (Bool.eq_false_iff.1 c69)] at h
      refine hJ37 _ ?_
      obtain ⟨j71, h72, hn⟩ := of_bind h
      refine seq_j (fun st => st = ⟨[(0, .c (.ref (.arg 0) [] o0 l0.length)), (10, .c (.ref (.arg 0) [] o0 l0.length)), (11, .c (.sc (.int .i64 x0_0))), (12, .c (.sc (.int .i64 x0_1))), (96, .c (.sc (.bool j71)))], [(.arg 0, ⟨.fz, 5, cs0⟩)], [], []⟩) (fun J73 hJ73 => ?_) ?_
      ·replace h := h72; clear hn
       refine ga_k fun G74 G74n G74r G74x => ?_
       refine regD_k ?_
       simp +decide only [reduceAdd, reduceMul, reduceToNat, ak]
       by_cases c75 : x0_1 > 0
       ·rw [if_pos c75] at h
        have e76 : decide (x0_1 > 0) = true := decide_eq_true c75
        obtain ⟨b77, h⟩ := of_guard h
        have g78 : o0 + (IntKind.i64.wrap (x0_1 - 1)).toNat * 5 + 0 ≤ (cs0).length := (hv0.len_le b77.1 b77.2 (by decide))
        have g79 : (cs0)[o0 + (IntKind.i64.wrap (x0_1 - 1)).toNat * 5 + 0]? = some (.sc (.int .u64 ((rd z84 l0 (IntKind.i64.wrap (x0_1 - 1))).f0))) := hv0.get z84 0 b77.1 b77.2 (by decide)
        have g80 : o0 + (IntKind.i64.wrap (x0_1 - 1)).toNat * 5 + 1 ≤ (cs0).length := (hv0.len_le b77.1 b77.2 (by decide))
        have g81 : (cs0)[o0 + (IntKind.i64.wrap (x0_1 - 1)).toNat * 5 + 1]? = some (.sc (.int .i64 ((rd z84 l0 (IntKind.i64.wrap (x0_1 - 1))).f1))) := hv0.get z84 1 b77.1 b77.2 (by decide)
        simp +decide only [reduceAdd, reduceMul, reduceToNat, ak, e76, b77, g78, g79, g80, g81]
        obtain rfl := Option.some.inj h
        refine G74n _ _ (wj [0, 10, 11, 12, 96] [pI (.arg 0) .fz]) (hJ73 _ rfl)
       ·rw [if_neg c75] at h
        have e82 : decide (x0_1 > 0) = false := decide_eq_false c75
        simp +decide only [reduceAdd, reduceMul, reduceToNat, ak, e82]
        obtain rfl := Option.some.inj h
        refine G74n _ _ (wj [0, 10, 11, 12, 96] [pI (.arg 0) .fz]) (hJ73 _ rfl)
      ·replace h := hn; clear hn h72
       rintro _ rfl
       refine cond_k (b := j71) rfl (fun c83 => ?_) (fun c83 => ?_)
       ·rw [if_pos c83] at h
        refine sr_k fun J84 hJ84 => ?_
        simp +decide only [reduceAdd, reduceMul, reduceToNat, ak]
        refine hJ84 _ ?_
        obtain rfl := Option.some.inj h
        refine gh_k (wk [2] [pI (.arg 0) .fz]) ?_
        refine B13r _ ?_
        refine G0r _ ?_
        exact hx1 _ rfl
       ·rw [if_neg (Bool.eq_false_iff.1 c83)] at h
        refine B13n _ ?_
        refine hJ12 _ ?_
        refine reg_k ?_
        simp +decide only [reduceAdd, reduceMul, reduceToNat, ak]
        refine G0n _ _ (wk [0, 10, 11, 12] [pI (.arg 0) .fz]) (ih _ _ h K hx0 hx1)
 ·replace c11 := of_decide_eq_false c11; rw [if_neg c11] at h
  obtain rfl := Option.some.inj h
  refine gh_k (wk [] [pI (.arg 0) .fz]) ?_
  refine G0x _ _ ?_
  exact hx0 _ rfl
theorem impl_validMaps.tri (cs0 : List Cell) (o0 : Nat) (l0 : List S84) (hv0 : Vw c84 5 cs0 o0 l0) (r : Bool) (h : impl_validMaps.f l0 = some r) : Tri Try.prog 74 [.c (.ref (.arg 0) [] o0 l0.length)] [(.arg 0, ⟨.fz, 5, cs0⟩)] (fun o => o = ⟨.c (.sc (.bool r)), [(.arg 0, ⟨.fz, 5, cs0⟩)], [], []⟩) := by
 refine tri_of_body (ac := C74) (xs := r74) Try.func74 (show Try.f74.body = some (Try.f74.body.getD .skip) from rfl) k74 q74 (Nat.le_of_ble_eq_true rfl) ?_
 refine body_of fun K hKn hKr => ?_
 unfold impl_validMaps.f at h
 unfold C74
 simp only [initT, Nat.reduceAdd]
 refine sr_k fun J1 hJ1 => ?_
 simp +decide only [reduceAdd, reduceMul, reduceToNat, ak]
 refine hJ1 _ ?_
 refine seq_k fun J2 hJ2 => ?_
 refine sr_k fun J3 hJ3 => ?_
 simp +decide only [reduceAdd, reduceMul, reduceToNat, ak]
 refine hJ3 _ ?_
 refine cond_k (b := decide ((l0.length : Int) > 256)) rfl (fun c4 => ?_) (fun c4 => ?_)
 ·replace c4 := of_decide_eq_true c4; rw [if_pos c4] at h
  refine sr_k fun J5 hJ5 => ?_
  simp +decide only [reduceAdd, reduceMul, reduceToNat, ak]
  refine hJ5 _ ?_
  obtain rfl := Option.some.inj h
  refine hKr _ ⟨_, rfl, [], _, rfl, rfl, ?_⟩
  exact cl
 ·replace c4 := of_decide_eq_false c4; rw [if_neg c4] at h
  refine hJ2 _ ?_
  refine seq_k fun J6 hJ6 => ?_
  refine sr_k fun J7 hJ7 => ?_
  simp +decide only [reduceAdd, reduceMul, reduceToNat, ak]
  refine hJ7 _ ?_
  refine block_k fun B8 B8n B8x B8r B8j => ?_
  obtain ⟨y85, h86, h⟩ := of_bind h
  refine gh_k (wk [0, 10, 11, 12] [pI (.arg 0) .fz]) ?_
  rw [e_loop]
  refine impl_validMaps.l0_walk cs0 o0 l0 hv0 (l0.length : Int) 0 _ h86 _ ?_ ?_
  ·rintro x87 rfl
   dsimp only at h
   refine B8x _ ?_
   refine hJ6 _ ?_
   refine sr_k fun J88 hJ88 => ?_
   simp +decide only [reduceAdd, reduceMul, reduceToNat, ak]
   refine hJ88 _ ?_
   obtain rfl := Option.some.inj h
   refine hKr _ ⟨_, rfl, [], _, rfl, rfl, ?_⟩
   exact cl
  ·rintro x87 rfl
   dsimp only at h
   refine B8r _ ?_
   obtain rfl := Option.some.inj h
   refine hKr _ ⟨_, rfl, [], _, rfl, rfl, ?_⟩
   exact cl
/-! ### impl.checkPlan: function 89 -/
def C89 : AC := .sr [.o (.box 1 (.t 0)), .o (.mv 2 (.k 0)), .keep [1]] (.seq (.sr [.fa 6 0 1, .ld 7 1 6, .call none (some 8) 81 [.tmp 7], .m 5 8, .o (.extr 9 (.t 5) 0), .o (.extr 10 (.t 5) 1), .o (.alloc 3 [.string .empty, .nilFunc]), .st 2 3 9, .m 4 10, .keep [1, 4]] (.sr [.m 11 4, .o (.un 12 .not (.t 11)), .keep [1, 12]] (.cond (.t 12) (.sr [.o (.mv 2 (.k 17)), .keep [2]] (.ret)) (.skip)))) (.seq (.sr [.fa 13 3 1, .ld 14 1 13, .call none (some 15) 82 [.tmp 14], .o (.un 16 .not (.t 15)), .keep [1, 16]] (.cond (.t 16) (.sr [.o (.mv 2 (.k 6)), .keep [2]] (.ret)) (.skip))) (.seq (.seq (.ga (.reg [.fa 17 1 1, .ld 18 1 17, .o (.bin 19 .lss (.t 18) (.k 0)), .m 20 19, .op (some (20, false)) (.faddr 21 1 (.t 1)), .op (some (20, false)) (.load 22 false 1 (.t 21)), .op (some (20, false)) (.faddr 23 3 (.t 1)), .op (some (20, false)) (.load 24 false 1 (.t 23)), .op (some (20, false)) (.len 25 (.t 24)), .op (some (20, false)) (.bin 26 .geq (.t 22) (.t 25)), .o (.pick 27 (.t 20) (.const (.bool true)) (.t 26)), .m 28 27, .op (some (28, false)) (.faddr 29 5 (.t 1)), .op (some (28, false)) (.load 30 false 1 (.t 29)), .op (some (28, false)) (.bin 31 .lss (.t 30) (.k 1)), .o (.pick 32 (.t 28) (.const (.bool true)) (.t 31)), .m 33 32, .op (some (33, false)) (.faddr 34 5 (.t 1)), .op (some (33, false)) (.load 35 false 1 (.t 34)), .op (some (33, false)) (.bin 36 .gtr (.t 35) (.k 256)), .o (.pick 37 (.t 33) (.const (.bool true)) (.t 36)), .m 38 37, .op (some (38, false)) (.faddr 39 11 (.t 1)), .op (some (38, false)) (.load 40 false 1 (.t 39)), .op (some (38, false)) (.bin 41 .lss (.t 40) (.k 1)), .o (.pick 42 (.t 38) (.const (.bool true)) (.t 41)), .m 43 42, .op (some (43, false)) (.faddr 44 11 (.t 1)), .op (some (43, false)) (.load 45 false 1 (.t 44)), .op (some (43, false)) (.bin 46 .gtr (.t 45) (.k 32)), .o (.pick 47 (.t 43) (.const (.bool true)) (.t 46)), .keep [1, 47]])) (.cond (.t 47) (.sr [.o (.mv 2 (.k 4)), .keep [2]] (.ret)) (.skip))) (.seq (.seq (.ga (.reg [.fa 48 2 1, .ld 49 1 48, .ln 50 49, .o (.bin 51 .gtr (.t 50) (.k 1000)), .m 52 51, .op (some (52, false)) (.faddr 53 6 (.t 1)), .op (some (52, false)) (.load 54 false 1 (.t 53)), .op (some (52, false)) (.bin 55 .gtr (.t 54) (.const (.int .u64 4611686018427387904))), .o (.pick 56 (.t 52) (.const (.bool true)) (.t 55)), .m 57 56, .op (some (57, false)) (.faddr 58 7 (.t 1)), .op (some (57, false)) (.load 59 false 1 (.t 58)), .op (some (57, false)) (.bin 60 .gtr (.t 59) (.const (.int .u64 4611686018427387904))), .o (.pick 61 (.t 57) (.const (.bool true)) (.t 60)), .m 62 61, .op (some (62, false)) (.faddr 63 8 (.t 1)), .op (some (62, false)) (.load 64 false 1 (.t 63)), .op (some (62, false)) (.bin 65 .gtr (.t 64) (.const (.int .u64 4611686018427387904))), .o (.pick 66 (.t 62) (.const (.bool true)) (.t 65)), .m 67 66, .op (some (67, false)) (.faddr 68 6 (.t 1)), .op (some (67, false)) (.load 69 false 1 (.t 68)), .op (some (67, false)) (.faddr 70 7 (.t 1)), .op (some (67, false)) (.load 71 false 1 (.t 70)), .op (some (67, false)) (.bin 72 .gtr (.t 69) (.t 71)), .o (.pick 73 (.t 67) (.const (.bool true)) (.t 72)), .keep [1, 73]])) (.cond (.t 73) (.sr [.o (.mv 2 (.k 4)), .keep [2]] (.ret)) (.skip))) (.seq (.seq (.ga (.reg [.fa 74 9 1, .ld 75 1 74, .o (.bin 76 .neq (.t 75) (.k 0)), .m 77 76, .op (some (77, true)) (.faddr 78 9 (.t 1)), .op (some (77, true)) (.load 79 false 1 (.t 78)), .op (some (77, true)) (.bin 80 .neq (.t 79) (.k 1)), .o (.pick 81 (.t 77) (.t 80) (.const (.bool false))), .m 82 81, .op (some (82, false)) (.faddr 83 10 (.t 1)), .op (some (82, false)) (.load 84 false 1 (.t 83)), .op (some (82, false)) (.bin 85 .neq (.t 84) (.k 0)), .op (some (82, false)) (.mv 86 (.t 85)), .op (some (86, true)) (.faddr 87 10 (.t 1)), .op (some (86, true)) (.load 88 false 1 (.t 87)), .op (some (86, true)) (.bin 89 .neq (.t 88) (.k 1)), .op (some (82, false)) (.pick 90 (.t 86) (.t 89) (.const (.bool false))), .o (.pick 91 (.t 82) (.const (.bool true)) (.t 90)), .keep [1, 91]])) (.cond (.t 91) (.sr [.o (.mv 2 (.k 4)), .keep [2]] (.ret)) (.skip))) (.seq (.seq (.ga (.reg [.fa 92 4 1, .ld 93 1 92, .call none (some 94) 74 [.tmp 93], .o (.un 95 .not (.t 94)), .m 96 95, .op (some (96, false)) (.faddr 97 4 (.t 1)), .op (some (96, false)) (.load 98 false 1 (.t 97)), .op (some (96, false)) (.len 99 (.t 98)), .op (some (96, false)) (.faddr 100 5 (.t 1)), .op (some (96, false)) (.load 101 false 1 (.t 100)), .op (some (96, false)) (.bin 102 .gtr (.t 99) (.t 101)), .o (.pick 103 (.t 96) (.const (.bool true)) (.t 102)), .keep [103]])) (.cond (.t 103) (.sr [.o (.mv 2 (.k 1)), .keep [2]] (.ret)) (.skip))) (.sr [.o (.mv 2 (.k 0)), .keep [2]] (.ret))))))))
def r89 : List RV := [.tmp 2]
theorem k89 : compC Try.prog 104 C89 (Try.f89.body.getD .skip) = some C89.erase := by kernel_rfl
theorem q89 : rvsOf Try.prog Try.f89.results.toList = some r89 := by kernel_rfl
def impl_checkPlan.f (a0_0 : Int) (a0_1 : Int) (l0_2 : List Int) (l0_3 : List S86) (l0_4 : List S84) (a0_5 : Int) (a0_6 : Int) (a0_7 : Int) (a0_8 : Int) (a0_9 : Int) (a0_10 : Int) (a0_11 : Int) : Option Int := (impl_policyOf.f a0_0 >>= fun t4 => (if (!t4.2.2) = true then (some 17) else (impl_validPaths.f l0_3 >>= fun t12 => (if (!t12) = true then (some 6) else ((if a0_1 < 0 then (some true) else (if a0_1 ≥ (l0_3.length : Int) then (some true) else (if a0_5 < 1 then (some true) else (if a0_5 > 256 then (some true) else (if a0_11 < 1 then (some true) else (some (decide (a0_11 > 32)))))))) >>= fun (j18 : Bool) => (if j18 = true then (some 4) else ((if (l0_2.length : Int) > 1000 then (some true) else (if a0_6 > 4611686018427387904 then (some true) else (if a0_7 > 4611686018427387904 then (some true) else (if a0_8 > 4611686018427387904 then (some true) else (some (decide (a0_6 > a0_7))))))) >>= fun (j40 : Bool) => (if j40 = true then (some 4) else ((if a0_9 ≠ 0 then (if a0_9 ≠ 1 then (some true) else (if a0_10 ≠ 0 then (some (decide (a0_10 ≠ 1))) else (some false))) else (if a0_10 ≠ 0 then (some (decide (a0_10 ≠ 1))) else (some false))) >>= fun (j59 : Bool) => (if j59 = true then (some 4) else ((impl_validMaps.f l0_4 >>= fun t82 => (if (!t82) = true then (some true) else (some (decide ((l0_4.length : Int) > a0_5))))) >>= fun (j78 : Bool) => (if j78 = true then (some 1) else (some 0)))))))))))))
theorem impl_checkPlan.tri (cs0 : List Cell) (o0 : Nat) (l0_2 : List Int) (hv0 : Vw c_i64 1 cs0 o0 l0_2) (cs1 : List Cell) (o1 : Nat) (l0_3 : List S86) (hv1 : Vw c86 3 cs1 o1 l0_3) (cs2 : List Cell) (o2 : Nat) (l0_4 : List S84) (hv2 : Vw c84 5 cs2 o2 l0_4) (a0_0 : Int) (a0_1 : Int) (a0_5 : Int) (a0_6 : Int) (a0_7 : Int) (a0_8 : Int) (a0_9 : Int) (a0_10 : Int) (a0_11 : Int) (r : Int) (h : impl_checkPlan.f a0_0 a0_1 l0_2 l0_3 l0_4 a0_5 a0_6 a0_7 a0_8 a0_9 a0_10 a0_11 = some r) : Tri Try.prog 89 [.g [.sc (.int .i64 a0_0), .sc (.int .i64 a0_1), .ref (.arg 0) [] o0 l0_2.length, .ref (.arg 1) [] o1 l0_3.length, .ref (.arg 2) [] o2 l0_4.length, .sc (.int .i64 a0_5), .sc (.int .u64 a0_6), .sc (.int .u64 a0_7), .sc (.int .u64 a0_8), .sc (.int .i64 a0_9), .sc (.int .i64 a0_10), .sc (.int .i64 a0_11)]] [(.arg 0, ⟨.fz, 1, cs0⟩), (.arg 1, ⟨.fz, 3, cs1⟩), (.arg 2, ⟨.fz, 5, cs2⟩)] (fun o => o = ⟨.c (.sc (.int .i64 r)), [(.arg 0, ⟨.fz, 1, cs0⟩), (.arg 1, ⟨.fz, 3, cs1⟩), (.arg 2, ⟨.fz, 5, cs2⟩)], [], []⟩) := by
 refine tri_of_body (ac := C89) (xs := r89) Try.func89 (show Try.f89.body = some (Try.f89.body.getD .skip) from rfl) k89 q89 (Nat.le_of_ble_eq_true rfl) ?_
 refine body_of fun K hKn hKr => ?_
 unfold impl_checkPlan.f at h
 unfold C89
 simp only [initT, Nat.reduceAdd]
 refine sr_k fun J1 hJ1 => ?_
 simp +decide only [reduceAdd, reduceMul, reduceToNat, ak]
 refine hJ1 _ ?_
 refine seq_k fun J2 hJ2 => ?_
 refine sr_k fun J3 hJ3 => ?_
 simp +decide only [reduceAdd, reduceMul, reduceToNat, ak]
 obtain ⟨t4, h5, h⟩ := of_bind h
 refine cm [] (impl_policyOf.tri a0_0 _ h5) (fun hl5 => ?_)
 refine ct (.tup [(true, [.sc (.string t4.1), .sc (fnv t4.2.1)]), (false, [.sc (.bool t4.2.2)])]) (mN ..) ?_ (s4 := [(.arg 0, ⟨.fz, 1, cs0⟩), (.arg 1, ⟨.fz, 3, cs1⟩), (.arg 2, ⟨.fz, 5, cs2⟩), (.tmp 1 0, ⟨.box, 0, [.sc (.int .i64 a0_0), .sc (.int .i64 a0_1), .ref (.arg 0) [] o0 l0_2.length, .ref (.arg 1) [] o1 l0_3.length, .ref (.arg 2) [] o2 l0_4.length, .sc (.int .i64 a0_5), .sc (.int .u64 a0_6), .sc (.int .u64 a0_7), .sc (.int .u64 a0_8), .sc (.int .i64 a0_9), .sc (.int .i64 a0_10), .sc (.int .i64 a0_11)]⟩)])
 simp +decide only [reduceAdd, reduceMul, reduceToNat, ak]
 refine hJ3 _ ?_
 refine sr_k fun J7 hJ7 => ?_
 simp +decide only [reduceAdd, reduceMul, reduceToNat, ak]
 refine hJ7 _ ?_
 refine cond_k (b := !t4.2.2) rfl (fun c8 => ?_) (fun c8 => ?_)
 ·rw [if_pos c8] at h
  refine sr_k fun J9 hJ9 => ?_
  simp +decide only [reduceAdd, reduceMul, reduceToNat, ak]
  refine hJ9 _ ?_
  obtain rfl := Option.some.inj h
  refine hKr _ ⟨_, rfl, [], _, rfl, rfl, ?_⟩
  exact cl
 ·rw [if_neg (Bool.eq_false_iff.1 c8)] at h
  refine hJ2 _ ?_
  refine seq_k fun J10 hJ10 => ?_
  refine sr_k fun J11 hJ11 => ?_
  simp +decide only [reduceAdd, reduceMul, reduceToNat, ak]
  obtain ⟨t12, h13, h⟩ := of_bind h
  refine cm [pN (.arg 0) (.arg 1) .fz] (impl_validPaths.tri (cs1) o1 l0_3 hv1 _ h13) (fun hl13 => ?_)
  refine cs (mF (mN ..)) ?_ (s4 := [(.arg 0, ⟨.fz, 1, cs0⟩), (.arg 1, ⟨.fz, 3, cs1⟩), (.arg 2, ⟨.fz, 5, cs2⟩), (.tmp 1 0, ⟨.box, 0, [.sc (.int .i64 a0_0), .sc (.int .i64 a0_1), .ref (.arg 0) [] o0 l0_2.length, .ref (.arg 1) [] o1 l0_3.length, .ref (.arg 2) [] o2 l0_4.length, .sc (.int .i64 a0_5), .sc (.int .u64 a0_6), .sc (.int .u64 a0_7), .sc (.int .u64 a0_8), .sc (.int .i64 a0_9), .sc (.int .i64 a0_10), .sc (.int .i64 a0_11)]⟩), (.tmp 3 0, ⟨.box, 0, [.sc (.string t4.1), .sc (fnv t4.2.1)]⟩)])
  simp +decide only [reduceAdd, reduceMul, reduceToNat, ak]
  refine hJ11 _ ?_
  refine cond_k (b := !t12) rfl (fun c15 => ?_) (fun c15 => ?_)
  ·rw [if_pos c15] at h
   refine sr_k fun J16 hJ16 => ?_
   simp +decide only [reduceAdd, reduceMul, reduceToNat, ak]
   refine hJ16 _ ?_
   obtain rfl := Option.some.inj h
   refine hKr _ ⟨_, rfl, [], _, rfl, rfl, ?_⟩
   exact cl
  ·rw [if_neg (Bool.eq_false_iff.1 c15)] at h
   refine hJ10 _ ?_
   refine seq_k fun J17 hJ17 => ?_
   obtain ⟨j18, h19, hn⟩ := of_bind h
   refine seq_j (fun st => st = ⟨[(1, .c (.ptr (.tmp 1 0) [] 0)), (47, .c (.sc (.bool j18)))], [(.arg 0, ⟨.fz, 1, cs0⟩), (.arg 1, ⟨.fz, 3, cs1⟩), (.arg 2, ⟨.fz, 5, cs2⟩), (.tmp 1 0, ⟨.box, 0, [.sc (.int .i64 a0_0), .sc (.int .i64 a0_1), .ref (.arg 0) [] o0 l0_2.length, .ref (.arg 1) [] o1 l0_3.length, .ref (.arg 2) [] o2 l0_4.length, .sc (.int .i64 a0_5), .sc (.int .u64 a0_6), .sc (.int .u64 a0_7), .sc (.int .u64 a0_8), .sc (.int .i64 a0_9), .sc (.int .i64 a0_10), .sc (.int .i64 a0_11)]⟩)], [], []⟩) (fun J20 hJ20 => ?_) ?_
   ·replace h := h19; clear hn
    refine ga_k fun G21 G21n G21r G21x => ?_
    refine reg_k ?_
    simp +decide only [reduceAdd, reduceMul, reduceToNat, ak]
    by_cases c22 : a0_1 < 0
    ·rw [if_pos c22] at h
     have e23 : decide (a0_1 < 0) = true := decide_eq_true c22
     simp +decide only [reduceAdd, reduceMul, reduceToNat, ak, e23]
     obtain rfl := Option.some.inj h
     refine G21n _ _ (wj [1, 47] [pI (.arg 0) .fz, pI (.arg 1) .fz, pI (.arg 2) .fz, pI (.tmp 1 0) .box]) (hJ20 _ rfl)
    ·rw [if_neg c22] at h
     have e24 : decide (a0_1 < 0) = false := decide_eq_false c22
     simp +decide only [reduceAdd, reduceMul, reduceToNat, ak, e24]
     by_cases c25 : a0_1 ≥ (l0_3.length : Int)
     ·rw [if_pos c25] at h
      have e26 : decide (a0_1 ≥ (l0_3.length : Int)) = true := decide_eq_true c25
      simp +decide only [reduceAdd, reduceMul, reduceToNat, ak, e26]
      obtain rfl := Option.some.inj h
      refine G21n _ _ (wj [1, 47] [pI (.arg 0) .fz, pI (.arg 1) .fz, pI (.arg 2) .fz, pI (.tmp 1 0) .box]) (hJ20 _ rfl)
     ·rw [if_neg c25] at h
      have e27 : decide (a0_1 ≥ (l0_3.length : Int)) = false := decide_eq_false c25
      simp +decide only [reduceAdd, reduceMul, reduceToNat, ak, e27]
      by_cases c28 : a0_5 < 1
      ·rw [if_pos c28] at h
       have e29 : decide (a0_5 < 1) = true := decide_eq_true c28
       simp +decide only [reduceAdd, reduceMul, reduceToNat, ak, e29]
       obtain rfl := Option.some.inj h
       refine G21n _ _ (wj [1, 47] [pI (.arg 0) .fz, pI (.arg 1) .fz, pI (.arg 2) .fz, pI (.tmp 1 0) .box]) (hJ20 _ rfl)
      ·rw [if_neg c28] at h
       have e30 : decide (a0_5 < 1) = false := decide_eq_false c28
       simp +decide only [reduceAdd, reduceMul, reduceToNat, ak, e30]
       by_cases c31 : a0_5 > 256
       ·rw [if_pos c31] at h
        have e32 : decide (a0_5 > 256) = true := decide_eq_true c31
        simp +decide only [reduceAdd, reduceMul, reduceToNat, ak, e32]
        obtain rfl := Option.some.inj h
        refine G21n _ _ (wj [1, 47] [pI (.arg 0) .fz, pI (.arg 1) .fz, pI (.arg 2) .fz, pI (.tmp 1 0) .box]) (hJ20 _ rfl)
       ·rw [if_neg c31] at h
        have e33 : decide (a0_5 > 256) = false := decide_eq_false c31
        simp +decide only [reduceAdd, reduceMul, reduceToNat, ak, e33]
        by_cases c34 : a0_11 < 1
        ·rw [if_pos c34] at h
         have e35 : decide (a0_11 < 1) = true := decide_eq_true c34
         simp +decide only [reduceAdd, reduceMul, reduceToNat, ak, e35]
         obtain rfl := Option.some.inj h
         refine G21n _ _ (wj [1, 47] [pI (.arg 0) .fz, pI (.arg 1) .fz, pI (.arg 2) .fz, pI (.tmp 1 0) .box]) (hJ20 _ rfl)
        ·rw [if_neg c34] at h
         have e36 : decide (a0_11 < 1) = false := decide_eq_false c34
         simp +decide only [reduceAdd, reduceMul, reduceToNat, ak, e36]
         obtain rfl := Option.some.inj h
         refine G21n _ _ (wj [1, 47] [pI (.arg 0) .fz, pI (.arg 1) .fz, pI (.arg 2) .fz, pI (.tmp 1 0) .box]) (hJ20 _ rfl)
   ·replace h := hn; clear hn h19
    rintro _ rfl
    refine cond_k (b := j18) rfl (fun c37 => ?_) (fun c37 => ?_)
    ·rw [if_pos c37] at h
     refine sr_k fun J38 hJ38 => ?_
     simp +decide only [reduceAdd, reduceMul, reduceToNat, ak]
     refine hJ38 _ ?_
     obtain rfl := Option.some.inj h
     refine hKr _ ⟨_, rfl, [], _, rfl, rfl, ?_⟩
     exact cl
    ·rw [if_neg (Bool.eq_false_iff.1 c37)] at h
     refine hJ17 _ ?_
     refine seq_k fun J39 hJ39 => ?_
     obtain ⟨j40, h41, hn⟩ := of_bind h
     refine seq_j (fun st => st = ⟨[(1, .c (.ptr (.tmp 1 0) [] 0)), (73, .c (.sc (.bool j40)))], [(.arg 0, ⟨.fz, 1, cs0⟩), (.arg 1, ⟨.fz, 3, cs1⟩), (.arg 2, ⟨.fz, 5, cs2⟩), (.tmp 1 0, ⟨.box, 0, [.sc (.int .i64 a0_0), .sc (.int .i64 a0_1), .ref (.arg 0) [] o0 l0_2.length, .ref (.arg 1) [] o1 l0_3.length, .ref (.arg 2) [] o2 l0_4.length, .sc (.int .i64 a0_5), .sc (.int .u64 a0_6), .sc (.int .u64 a0_7), .sc (.int .u64 a0_8), .sc (.int .i64 a0_9), .sc (.int .i64 a0_10), .sc (.int .i64 a0_11)]⟩)], [], []⟩) (fun J42 hJ42 => ?_) ?_
     ·replace h := h41; clear hn
      refine ga_k fun G43 G43n G43r G43x => ?_
      refine reg_k ?_
      simp +decide only [reduceAdd, reduceMul, reduceToNat, ak]
      by_cases c44 : (l0_2.length : Int) > 1000
      ·rw [if_pos c44] at h
       have e45 : decide ((l0_2.length : Int) > 1000) = true := decide_eq_true c44
       simp +decide only [reduceAdd, reduceMul, reduceToNat, ak, e45]
       obtain rfl := Option.some.inj h
       refine G43n _ _ (wj [1, 73] [pI (.arg 0) .fz, pI (.arg 1) .fz, pI (.arg 2) .fz, pI (.tmp 1 0) .box]) (hJ42 _ rfl)
      ·rw [if_neg c44] at h
       have e46 : decide ((l0_2.length : Int) > 1000) = false := decide_eq_false c44
       simp +decide only [reduceAdd, reduceMul, reduceToNat, ak, e46]
       by_cases c47 : a0_6 > 4611686018427387904
       ·rw [if_pos c47] at h
        have e48 : decide (a0_6 > 4611686018427387904) = true := decide_eq_true c47
        simp +decide only [reduceAdd, reduceMul, reduceToNat, ak, e48]
        obtain rfl := Option.some.inj h
        refine G43n _ _ (wj [1, 73] [pI (.arg 0) .fz, pI (.arg 1) .fz, pI (.arg 2) .fz, pI (.tmp 1 0) .box]) (hJ42 _ rfl)
       ·rw [if_neg c47] at h
        have e49 : decide (a0_6 > 4611686018427387904) = false := decide_eq_false c47
        simp +decide only [reduceAdd, reduceMul, reduceToNat, ak, e49]
        by_cases c50 : a0_7 > 4611686018427387904
        ·rw [if_pos c50] at h
         have e51 : decide (a0_7 > 4611686018427387904) = true := decide_eq_true c50
         simp +decide only [reduceAdd, reduceMul, reduceToNat, ak, e51]
         obtain rfl := Option.some.inj h
         refine G43n _ _ (wj [1, 73] [pI (.arg 0) .fz, pI (.arg 1) .fz, pI (.arg 2) .fz, pI (.tmp 1 0) .box]) (hJ42 _ rfl)
        ·rw [if_neg c50] at h
         have e52 : decide (a0_7 > 4611686018427387904) = false := decide_eq_false c50
         simp +decide only [reduceAdd, reduceMul, reduceToNat, ak, e52]
         by_cases c53 : a0_8 > 4611686018427387904
         ·rw [if_pos c53] at h
          have e54 : decide (a0_8 > 4611686018427387904) = true := decide_eq_true c53
          simp +decide only [reduceAdd, reduceMul, reduceToNat, ak, e54]
          obtain rfl := Option.some.inj h
          refine G43n _ _ (wj [1, 73] [pI (.arg 0) .fz, pI (.arg 1) .fz, pI (.arg 2) .fz, pI (.tmp 1 0) .box]) (hJ42 _ rfl)
         ·rw [if_neg c53] at h
          have e55 : decide (a0_8 > 4611686018427387904) = false := decide_eq_false c53
          simp +decide only [reduceAdd, reduceMul, reduceToNat, ak, e55]
          obtain rfl := Option.some.inj h
          refine G43n _ _ (wj [1, 73] [pI (.arg 0) .fz, pI (.arg 1) .fz, pI (.arg 2) .fz, pI (.tmp 1 0) .box]) (hJ42 _ rfl)
     ·replace h := hn; clear hn h41
      rintro _ rfl
      refine cond_k (b := j40) rfl (fun c56 => ?_) (fun c56 => ?_)
      ·rw [if_pos c56] at h
       refine sr_k fun J57 hJ57 => ?_
       simp +decide only [reduceAdd, reduceMul, reduceToNat, ak]
       refine hJ57 _ ?_
       obtain rfl := Option.some.inj h
       refine hKr _ ⟨_, rfl, [], _, rfl, rfl, ?_⟩
       exact cl
      ·rw [if_neg (Bool.eq_false_iff.1 c56)] at h
       refine hJ39 _ ?_
       refine seq_k fun J58 hJ58 => ?_
       obtain ⟨j59, h60, hn⟩ := of_bind h
       refine seq_j (fun st => st = ⟨[(1, .c (.ptr (.tmp 1 0) [] 0)), (91, .c (.sc (.bool j59)))], [(.arg 0, ⟨.fz, 1, cs0⟩), (.arg 1, ⟨.fz, 3, cs1⟩), (.arg 2, ⟨.fz, 5, cs2⟩), (.tmp 1 0, ⟨.box, 0, [.sc (.int .i64 a0_0), .sc (.int .i64 a0_1), .ref (.arg 0) [] o0 l0_2.length, .ref (.arg 1) [] o1 l0_3.length, .ref (.arg 2) [] o2 l0_4.length, .sc (.int .i64 a0_5), .sc (.int .u64 a0_6), .sc (.int .u64 a0_7), .sc (.int .u64 a0_8), .sc (.int .i64 a0_9), .sc (.int .i64 a0_10), .sc (.int .i64 a0_11)]⟩)], [], []⟩) (fun J61 hJ61 => ?_) ?_
       ·replace h := h60; clear hn
        refine ga_k fun G62 G62n G62r G62x => ?_
        refine reg_k ?_
        simp +decide only [reduceAdd, reduceMul, reduceToNat, ak]
        by_cases c63 : a0_9 ≠ 0
        ·rw [if_pos c63] at h
         have e64 : decide (a0_9 ≠ 0) = true := decide_eq_true c63
         simp +decide only [reduceAdd, reduceMul, reduceToNat, ak, e64]
         by_cases c65 : a0_9 ≠ 1
         ·rw [if_pos c65] at h
          have e66 : decide (a0_9 ≠ 1) = true := decide_eq_true c65
          simp +decide only [reduceAdd, reduceMul, reduceToNat, ak, e66]
          obtain rfl := Option.some.inj h
          refine G62n _ _ (wj [1, 91] [pI (.arg 0) .fz, pI (.arg 1) .fz, pI (.arg 2) .fz, pI (.tmp 1 0) .box]) (hJ61 _ rfl)
         ·rw [if_neg c65] at h
          have e67 : decide (a0_9 ≠ 1) = false := decide_eq_false c65
          simp +decide only [reduceAdd, reduceMul, reduceToNat, ak, e67]
          by_cases c68 : a0_10 ≠ 0
          ·rw [if_pos c68] at h
           have e69 : decide (a0_10 ≠ 0) = true := decide_eq_true c68
           simp +decide only [reduceAdd, reduceMul, reduceToNat, ak, e69]
           obtain rfl := Option.some.inj h
           refine G62n _ _ (wj [1, 91] [pI (.arg 0) .fz, pI (.arg 1) .fz, pI (.arg 2) .fz, pI (.tmp 1 0) .box]) (hJ61 _ rfl)
          ·rw [if_neg c68] at h
           have e70 : decide (a0_10 ≠ 0) = false := decide_eq_false c68
           simp +decide only [reduceAdd, reduceMul, reduceToNat, ak, e70]
           obtain rfl := Option.some.inj h
           refine G62n _ _ (wj [1, 91] [pI (.arg 0) .fz, pI (.arg 1) .fz, pI (.arg 2) .fz, pI (.tmp 1 0) .box]) (hJ61 _ rfl)
        ·rw [if_neg c63] at h
         have e71 : decide (a0_9 ≠ 0) = false := decide_eq_false c63
         simp +decide only [reduceAdd, reduceMul, reduceToNat, ak, e71]
         by_cases c72 : a0_10 ≠ 0
         ·rw [if_pos c72] at h
          have e73 : decide (a0_10 ≠ 0) = true := decide_eq_true c72
          simp +decide only [reduceAdd, reduceMul, reduceToNat, ak, e73]
          obtain rfl := Option.some.inj h
          refine G62n _ _ (wj [1, 91] [pI (.arg 0) .fz, pI (.arg 1) .fz, pI (.arg 2) .fz, pI (.tmp 1 0) .box]) (hJ61 _ rfl)
         ·rw [if_neg c72] at h
          have e74 : decide (a0_10 ≠ 0) = false := decide_eq_false c72
          simp +decide only [reduceAdd, reduceMul, reduceToNat, ak, e74]
          obtain rfl := Option.some.inj h
          refine G62n _ _ (wj [1, 91] [pI (.arg 0) .fz, pI (.arg 1) .fz, pI (.arg 2) .fz, pI (.tmp 1 0) .box]) (hJ61 _ rfl)
       ·replace h := hn; clear hn h60
        rintro _ rfl
        refine cond_k (b := j59) rfl (fun c75 => ?_) (fun c75 => ?_)
        ·rw [if_pos c75] at h
         refine sr_k fun J76 hJ76 => ?_
         simp +decide only [reduceAdd, reduceMul, reduceToNat, ak]
         refine hJ76 _ ?_
         obtain rfl := Option.some.inj h
         refine hKr _ ⟨_, rfl, [], _, rfl, rfl, ?_⟩
         exact cl
        ·rw [if_neg (Bool.eq_false_iff.1 c75)] at h
         refine hJ58 _ ?_
         refine seq_k fun J77 hJ77 => ?_
         obtain ⟨j78, h79, hn⟩ := of_bind h
         refine seq_j (fun st => st = ⟨[(103, .c (.sc (.bool j78)))], [(.arg 0, ⟨.fz, 1, cs0⟩), (.arg 1, ⟨.fz, 3, cs1⟩), (.arg 2, ⟨.fz, 5, cs2⟩)], [], []⟩) (fun J80 hJ80 => ?_) ?_
         ·replace h := h79; clear hn
          refine ga_k fun G81 G81n G81r G81x => ?_
          refine reg_k ?_
          simp +decide only [reduceAdd, reduceMul, reduceToNat, ak]
          obtain ⟨t82, h83, h⟩ := of_bind h
          refine cm [pN (.arg 0) (.arg 2) .fz] (impl_validMaps.tri (cs2) o2 l0_4 hv2 _ h83) (fun hl83 => ?_)
          refine cs (mF (mN ..)) ?_ (s4 := [(.arg 0, ⟨.fz, 1, cs0⟩), (.arg 1, ⟨.fz, 3, cs1⟩), (.arg 2, ⟨.fz, 5, cs2⟩), (.tmp 1 0, ⟨.box, 0, [.sc (.int .i64 a0_0), .sc (.int .i64 a0_1), .ref (.arg 0) [] o0 l0_2.length, .ref (.arg 1) [] o1 l0_3.length, .ref (.arg 2) [] o2 l0_4.length, .sc (.int .i64 a0_5), .sc (.int .u64 a0_6), .sc (.int .u64 a0_7), .sc (.int .u64 a0_8), .sc (.int .i64 a0_9), .sc (.int .i64 a0_10), .sc (.int .i64 a0_11)]⟩)])
          simp +decide only [reduceAdd, reduceMul, reduceToNat, ak]
          by_cases c85 : (!t82) = true
          ·rw [if_pos c85] at h
           have e86 : (!t82) = true := c85
           simp +decide only [reduceAdd, reduceMul, reduceToNat, ak, e86]
           obtain rfl := Option.some.inj h
           refine G81n _ _ (wj [103] [pI (.arg 0) .fz, pI (.arg 1) .fz, pI (.arg 2) .fz]) (hJ80 _ rfl)
          ·rw [if_neg c85] at h
           have e87 : (!t82) = false := Bool.eq_false_iff.2 c85
           simp +decide only [reduceAdd, reduceMul, reduceToNat, ak, e87]
           obtain rfl := Option.some.inj h
           refine G81n _ _ (wj [103] [pI (.arg 0) .fz, pI (.arg 1) .fz, pI (.arg 2) .fz]) (hJ80 _ rfl)
         ·replace h := hn; clear hn h79
          rintro _ rfl
          refine cond_k (b := j78) rfl (fun c88 => ?_) (fun c88 => ?_)
          ·rw [if_pos c88] at h
           refine sr_k fun J89 hJ89 => ?_
           simp +decide only [reduceAdd, reduceMul, reduceToNat, ak]
           refine hJ89 _ ?_
           obtain rfl := Option.some.inj h
           refine hKr _ ⟨_, rfl, [], _, rfl, rfl, ?_⟩
           exact cl
          ·rw [if_neg (Bool.eq_false_iff.1 c88)] at h
           refine hJ77 _ ?_
           refine sr_k fun J90 hJ90 => ?_
           simp +decide only [reduceAdd, reduceMul, reduceToNat, ak]
           refine hJ90 _ ?_
           obtain rfl := Option.some.inj h
           refine hKr _ ⟨_, rfl, [], _, rfl, rfl, ?_⟩
           exact cl
/-! ### impl.policyOf$1: function 113 -/
def C113 : AC := .sr [.o (.box 6 (.t 1)), .o (.mv 10 (.k 0)), .keep [0, 2, 3]] (.sr [.m 11 0, .m 12 3, .o (.bin 13 .sub (.t 11) (.t 12)), .m 14 2, .o (.bin 15 .add (.t 13) (.t 14)), .m 16 2, .o (.bin 17 .rem (.t 15) (.t 16)), .m 10 17, .keep [10]] (.ret))
def r113 : List RV := [.tmp 10]
theorem k113 : compC Try.prog 18 C113 (Try.f113.body.getD .skip) = some C113.erase := by kernel_rfl
theorem q113 : rvsOf Try.prog Try.f113.results.toList = some r113 := by kernel_rfl
def impl_policyOf_1.f (a0 : Int) (a1_0 : Int) (a1_1 : Int) (a1_2 : Int) (a2 : Int) (a3 : Int) (a4 : Int) : Option Int := (if ¬ a2 = 0 then (some ((IntKind.i64.wrap ((IntKind.i64.wrap (a0 - a3)) + a2)).tmod a2)) else none)
theorem impl_policyOf_1.tri (a0 : Int) (a1_0 : Int) (a1_1 : Int) (a1_2 : Int) (a2 : Int) (a3 : Int) (a4 : Int) (r : Int) (h : impl_policyOf_1.f a0 a1_0 a1_1 a1_2 a2 a3 a4 = some r) : Tri Try.prog 113 [.c (.sc (.int .i64 a0)), .g [.sc (.int .i64 a1_0), .sc (.int .i64 a1_1), .sc (.int .i64 a1_2)], .c (.sc (.int .i64 a2)), .c (.sc (.int .i64 a3)), .c (.sc (.int .i64 a4))] [] (fun o => o = ⟨.c (.sc (.int .i64 r)), [], [], []⟩) := by
 refine tri_of_body (ac := C113) (xs := r113) Try.func113 (show Try.f113.body = some (Try.f113.body.getD .skip) from rfl) k113 q113 (Nat.le_of_ble_eq_true rfl) ?_
 refine body_of fun K hKn hKr => ?_
 unfold impl_policyOf_1.f at h
 unfold C113
 simp only [initT, Nat.reduceAdd]
 refine sr_k fun J1 hJ1 => ?_
 simp +decide only [reduceAdd, reduceMul, reduceToNat, ak]
 refine hJ1 _ ?_
 refine sr_k fun J2 hJ2 => ?_
 obtain ⟨b3, h⟩ := of_guard h
 simp +decide only [reduceAdd, reduceMul, reduceToNat, ak, b3]
 refine hJ2 _ ?_
 obtain rfl := Option.some.inj h
 refine hKr _ ⟨_, rfl, [], _, rfl, rfl, ?_⟩
 exact cl
/-! ### impl.policyOf$2: function 114 -/
def C114 : AC := .sr [.o (.box 6 (.t 1)), .o (.mv 10 (.k 0)), .keep [0, 6]] (.sr [.fa 11 1 6, .ld 12 1 11, .o (.bin 13 .mul (.t 12) (.k 8)), .m 14 0, .o (.bin 15 .add (.t 13) (.t 14)), .m 10 15, .keep [10]] (.ret))
def r114 : List RV := [.tmp 10]
theorem k114 : compC Try.prog 16 C114 (Try.f114.body.getD .skip) = some C114.erase := by kernel_rfl
theorem q114 : rvsOf Try.prog Try.f114.results.toList = some r114 := by kernel_rfl
def impl_policyOf_2.f (a0 : Int) (a1_0 : Int) (a1_1 : Int) (a1_2 : Int) (a2 : Int) (a3 : Int) (a4 : Int) : Option Int := (some (IntKind.i64.wrap ((IntKind.i64.wrap (a1_1 * 8)) + a0)))
theorem impl_policyOf_2.tri (a0 : Int) (a1_0 : Int) (a1_1 : Int) (a1_2 : Int) (a2 : Int) (a3 : Int) (a4 : Int) (r : Int) (h : impl_policyOf_2.f a0 a1_0 a1_1 a1_2 a2 a3 a4 = some r) : Tri Try.prog 114 [.c (.sc (.int .i64 a0)), .g [.sc (.int .i64 a1_0), .sc (.int .i64 a1_1), .sc (.int .i64 a1_2)], .c (.sc (.int .i64 a2)), .c (.sc (.int .i64 a3)), .c (.sc (.int .i64 a4))] [] (fun o => o = ⟨.c (.sc (.int .i64 r)), [], [], []⟩) := by
 refine tri_of_body (ac := C114) (xs := r114) Try.func114 (show Try.f114.body = some (Try.f114.body.getD .skip) from rfl) k114 q114 (Nat.le_of_ble_eq_true rfl) ?_
 refine body_of fun K hKn hKr => ?_
 unfold impl_policyOf_2.f at h
 unfold C114
 simp only [initT, Nat.reduceAdd]
 refine sr_k fun J1 hJ1 => ?_
 simp +decide only [reduceAdd, reduceMul, reduceToNat, ak]
 refine hJ1 _ ?_
 refine sr_k fun J2 hJ2 => ?_
 simp +decide only [reduceAdd, reduceMul, reduceToNat, ak]
 refine hJ2 _ ?_
 obtain rfl := Option.some.inj h
 refine hKr _ ⟨_, rfl, [], _, rfl, rfl, ?_⟩
 exact cl
/-! ### impl.policyOf$3: function 115 -/
def C115 : AC := .sr [.o (.box 6 (.t 1)), .o (.mv 10 (.k 0)), .keep []] (.sr [.o (.mv 10 (.k 0)), .keep [10]] (.ret))
def r115 : List RV := [.tmp 10]
theorem k115 : compC Try.prog 11 C115 (Try.f115.body.getD .skip) = some C115.erase := by kernel_rfl
theorem q115 : rvsOf Try.prog Try.f115.results.toList = some r115 := by kernel_rfl
def impl_policyOf_3.f (a0 : Int) (a1_0 : Int) (a1_1 : Int) (a1_2 : Int) (a2 : Int) (a3 : Int) (a4 : Int) : Option Int := (some 0)
theorem impl_policyOf_3.tri (a0 : Int) (a1_0 : Int) (a1_1 : Int) (a1_2 : Int) (a2 : Int) (a3 : Int) (a4 : Int) (r : Int) (h : impl_policyOf_3.f a0 a1_0 a1_1 a1_2 a2 a3 a4 = some r) : Tri Try.prog 115 [.c (.sc (.int .i64 a0)), .g [.sc (.int .i64 a1_0), .sc (.int .i64 a1_1), .sc (.int .i64 a1_2)], .c (.sc (.int .i64 a2)), .c (.sc (.int .i64 a3)), .c (.sc (.int .i64 a4))] [] (fun o => o = ⟨.c (.sc (.int .i64 r)), [], [], []⟩) := by
 refine tri_of_body (ac := C115) (xs := r115) Try.func115 (show Try.f115.body = some (Try.f115.body.getD .skip) from rfl) k115 q115 (Nat.le_of_ble_eq_true rfl) ?_
 refine body_of fun K hKn hKr => ?_
 unfold impl_policyOf_3.f at h
 unfold C115
 simp only [initT, Nat.reduceAdd]
 refine sr_k fun J1 hJ1 => ?_
 simp +decide only [reduceAdd, reduceMul, reduceToNat, ak]
 refine hJ1 _ ?_
 refine sr_k fun J2 hJ2 => ?_
 simp +decide only [reduceAdd, reduceMul, reduceToNat, ak]
 refine hJ2 _ ?_
 obtain rfl := Option.some.inj h
 refine hKr _ ⟨_, rfl, [], _, rfl, rfl, ?_⟩
 exact cl
/-! ### impl.policyOf$4: function 116 -/
def C116 : AC := .sr [.o (.box 6 (.t 1)), .o (.mv 10 (.k 0)), .keep [0, 4]] (.seq (.sr [.m 11 0, .m 12 4, .o (.bin 13 .eql (.t 11) (.t 12)), .keep [0, 13]] (.cond (.t 13) (.sr [.o (.mv 10 (.const (.int .i64 (-1)))), .keep [10]] (.ret)) (.skip))) (.sr [.m 14 0, .m 10 14, .keep [10]] (.ret)))
def r116 : List RV := [.tmp 10]
theorem k116 : compC Try.prog 15 C116 (Try.f116.body.getD .skip) = some C116.erase := by kernel_rfl
theorem q116 : rvsOf Try.prog Try.f116.results.toList = some r116 := by kernel_rfl
def impl_policyOf_4.f (a0 : Int) (a1_0 : Int) (a1_1 : Int) (a1_2 : Int) (a2 : Int) (a3 : Int) (a4 : Int) : Option Int := (if a0 = a4 then (some (-1)) else (some a0))
theorem impl_policyOf_4.tri (a0 : Int) (a1_0 : Int) (a1_1 : Int) (a1_2 : Int) (a2 : Int) (a3 : Int) (a4 : Int) (r : Int) (h : impl_policyOf_4.f a0 a1_0 a1_1 a1_2 a2 a3 a4 = some r) : Tri Try.prog 116 [.c (.sc (.int .i64 a0)), .g [.sc (.int .i64 a1_0), .sc (.int .i64 a1_1), .sc (.int .i64 a1_2)], .c (.sc (.int .i64 a2)), .c (.sc (.int .i64 a3)), .c (.sc (.int .i64 a4))] [] (fun o => o = ⟨.c (.sc (.int .i64 r)), [], [], []⟩) := by
 refine tri_of_body (ac := C116) (xs := r116) Try.func116 (show Try.f116.body = some (Try.f116.body.getD .skip) from rfl) k116 q116 (Nat.le_of_ble_eq_true rfl) ?_
 refine body_of fun K hKn hKr => ?_
 unfold impl_policyOf_4.f at h
 unfold C116
 simp only [initT, Nat.reduceAdd]
 refine sr_k fun J1 hJ1 => ?_
 simp +decide only [reduceAdd, reduceMul, reduceToNat, ak]
 refine hJ1 _ ?_
 refine seq_k fun J2 hJ2 => ?_
 refine sr_k fun J3 hJ3 => ?_
 simp +decide only [reduceAdd, reduceMul, reduceToNat, ak]
 refine hJ3 _ ?_
 refine cond_k (b := decide (a0 = a4)) rfl (fun c4 => ?_) (fun c4 => ?_)
 ·replace c4 := of_decide_eq_true c4; rw [if_pos c4] at h
  refine sr_k fun J5 hJ5 => ?_
  simp +decide only [reduceAdd, reduceMul, reduceToNat, ak]
  refine hJ5 _ ?_
  obtain rfl := Option.some.inj h
  refine hKr _ ⟨_, rfl, [], _, rfl, rfl, ?_⟩
  exact cl
 ·replace c4 := of_decide_eq_false c4; rw [if_neg c4] at h
  refine hJ2 _ ?_
  refine sr_k fun J6 hJ6 => ?_
  simp +decide only [reduceAdd, reduceMul, reduceToNat, ak]
  refine hJ6 _ ?_
  obtain rfl := Option.some.inj h
  refine hKr _ ⟨_, rfl, [], _, rfl, rfl, ?_⟩
  exact cl
end Go.AK
