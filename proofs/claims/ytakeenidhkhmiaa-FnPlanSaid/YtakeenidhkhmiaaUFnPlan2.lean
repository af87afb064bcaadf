-- by a program of this session (wip/ak/pw.py)
import Derived.Test.YtakeenidhkhmiaaUFnPlan1
set_option synthInstance.maxSize 20000
set_option synthInstance.maxHeartbeats 400000
set_option maxRecDepth 100000
set_option maxHeartbeats 4000000
set_option linter.unusedVariables false
set_option linter.unusedSimpArgs false
namespace Go.AK
open Go Go.Proofs
open Nat (reduceAdd reduceMul)
open Int (reduceToNat)
/-! ### impl.choose: function 83 -/
def dyn_113_114_115_116 (t : Int) (x0 : Int) (x1 : Int) (x2 : Int) (x3 : Int) (x4 : Int) (x5 : Int) (x6 : Int) : Option Int := (if t = 113 then impl_policyOf_1.f x0 x1 x2 x3 x4 x5 x6 else (if t = 114 then impl_policyOf_2.f x0 x1 x2 x3 x4 x5 x6 else (if t = 115 then impl_policyOf_3.f x0 x1 x2 x3 x4 x5 x6 else (if t = 116 then impl_policyOf_4.f x0 x1 x2 x3 x4 x5 x6 else none))))
def C83_l0 : AC := .sr [.o (.bin 24 .lss (.t 23) (.t 22)), .keep [1, 2, 3, 4, 5, 6, 14, 15, 16, 22, 23, 24]] (.seq (.cond (.t 24) (.skip) (.gh (.exit 0))) (.seq (.ga (.block 1 (.sr [.m 25 23, .m 17 25, .keep [1, 2, 3, 4, 5, 6, 14, 15, 16, 17, 22, 23]] (.sr [.m 26 4, .m 27 17, .ia 28 3 26 27, .o (.load 29 true 3 (.t 28)), .o (.alloc 18 [.int .i64 0, .int .i64 0, .int .i64 0]), .st 3 18 29, .keep [1, 2, 3, 4, 5, 6, 14, 15, 16, 17, 18, 22, 23]] (.seq (.seq (.ga (.reg [.fa 30 0 18, .ld 31 1 30, .o (.bin 32 .neq (.t 31) (.k 1)), .m 33 32, .op (some (33, false)) (.faddr 34 2 (.t 18)), .op (some (33, false)) (.load 35 false 1 (.t 34)), .op (some (33, false)) (.bin 36 .eql (.t 35) (.k 0)), .o (.pick 37 (.t 33) (.const (.bool true)) (.t 36)), .m 38 37, .op (some (38, false)) (.mv 39 (.t 5)), .op (some (38, false)) (.mv 40 (.t 17)), .op (some (38, false)) (.bin 41 .shr (.t 39) (.t 40)), .op (some (38, false)) (.bin 42 .and (.t 41) (.k 1)), .op (some (38, false)) (.bin 43 .eql (.t 42) (.k 1)), .o (.pick 44 (.t 38) (.const (.bool true)) (.t 43)), .keep [1, 2, 3, 4, 5, 6, 14, 15, 16, 17, 18, 22, 23, 44]])) (.cond (.t 44) (.exit 1) (.skip))) (.sr [.fa 45 1 6, .ld 46 1 45, .m 47 17, .o (.load 48 true 3 (.t 18)), .m 49 14, .m 50 2, .m 51 3, .callv none (some 52) (.value (.t 46)) [.tmp 47, .tmp 48, .tmp 49, .tmp 50, .tmp 51], .m 19 52, .keep [1, 2, 3, 4, 5, 6, 14, 15, 16, 17, 19, 22, 23]] (.seq (.ga (.reg [.m 53 15, .ln 54 53, .o (.bin 55 .eql (.t 54) (.k 0)), .m 56 55, .op (some (56, false)) (.mv 57 (.t 19)), .op (some (56, false)) (.mv 58 (.t 16)), .op (some (56, false)) (.bin 59 .lss (.t 57) (.t 58)), .o (.pick 60 (.t 56) (.const (.bool true)) (.t 59)), .keep [1, 2, 3, 4, 5, 6, 14, 15, 16, 17, 19, 22, 23, 60]])) (.cond (.t 60) (.reg [.m 61 17, .o (.bslice 62 1 [.int .i64 0] 1 [(0, .tmp 61)]), .m 63 19, .m 15 62, .m 16 63, .keep [1, 2, 3, 4, 5, 6, 14, 15, 16, 22, 23]]) (.sr [.m 64 19, .m 65 16, .o (.bin 66 .eql (.t 64) (.t 65)), .keep [1, 2, 3, 4, 5, 6, 14, 15, 16, 17, 22, 23, 66]] (.cond (.t 66) (.reg [.m 67 15, .m 68 17, .o (.bslice 69 1 [.int .i64 0] 1 [(0, .tmp 68)]), .o (.app 70 1 8 true (.t 67) (.t 69)), .m 15 70, .keep [1, 2, 3, 4, 5, 6, 14, 15, 16, 22, 23]]) (.skip))))))))))) (.reg [.o (.bin 71 .add (.t 23) (.k 1)), .m 23 71, .keep [1, 2, 3, 4, 5, 6, 14, 15, 16, 22, 23]])))
def C83 : AC := .sr [.o (.box 6 (.t 0)), .o (.mv 12 (.const (.slice none 0 0))), .gh, .o (.mv 13 (.k 0)), .keep [1, 2, 3, 4, 5, 6]] (.sr [.m 20 4, .ln 21 20, .m 14 21, .keep [1, 2, 3, 4, 5, 6, 14]] (.sr [.o (.mv 15 (.const (.slice none 0 0))), .gh, .keep [1, 2, 3, 4, 5, 6, 14, 15]] (.sr [.o (.mv 16 (.k 0)), .keep [1, 2, 3, 4, 5, 6, 14, 15, 16]] (.seq (.sr [.m 22 14, .o (.mv 23 (.k 0)), .keep [1, 2, 3, 4, 5, 6, 14, 15, 16, 22, 23]] (.block 0 (.gh (.loop (.ga C83_l0))))) (.seq (.ga (.seq (.ga (.reg [.m 72 1, .o (.bin 73 .eql (.t 72) (.k 1)), .m 74 73, .op (some (74, true)) (.mv 75 (.t 15)), .op (some (74, true)) (.len 76 (.t 75)), .op (some (74, true)) (.bin 77 .gtr (.t 76) (.k 0)), .o (.pick 78 (.t 74) (.t 77) (.const (.bool false))), .keep [2, 14, 15, 78]])) (.cond (.t 78) (.reg [.m 79 15, .o (.iaddr 80 1 (.t 79) (.k 0)), .ld 81 1 80, .o (.bin 82 .add (.t 81) (.k 1)), .m 83 14, .o (.bin 84 .rem (.t 82) (.t 83)), .m 2 84, .keep [2, 15]]) (.skip)))) (.sr [.m 85 15, .m 86 2, .m 12 85, .m 13 86, .keep [12, 13]] (.ret)))))))
def r83 : List RV := [.tmp 12, .tmp 13]
theorem k83 : compC Try.prog 87 C83 (Try.f83.body.getD .skip) = some C83.erase := by kernel_rfl
theorem q83 : rvsOf Try.prog Try.f83.results.toList = some r83 := by kernel_rfl
def impl_choose.l0 (l4 : List S86) (x0_0 : Int) (x0_1 : Int) (x0_2 : Int) (x0_3 : Int) (x0_4 : Int) (x0_6 : Int) (x0_8 : ByteArray) (x0_9 : Int) (x0_5 : Int) (x0_7 : Int) (x0_10 : (List Int)) : Option (List Int) := (if x0_7 < x0_6 then ((if 0 ≤ x0_7 ∧ x0_7 < (l4.length : Int) then ((if (rd z86 l4 x0_7).f0 ≠ 1 then (some true) else (if (rd z86 l4 x0_7).f2 = 0 then (some true) else (if ¬ x0_7 < 0 then (some (decide (bits .and .i64 (x0_3.fdiv (2 ^ (min x0_7.toNat 64))) 1 = 1))) else none))) >>= fun (j21 : Bool) => (if j21 = true then (some (x0_5, x0_10)) else (dyn_113_114_115_116 x0_9 x0_7 ((rd z86 l4 x0_7).f0) ((rd z86 l4 x0_7).f1) ((rd z86 l4 x0_7).f2) x0_4 x0_1 x0_2 >>= fun t35 => ((if (x0_10.length : Int) = 0 then (some true) else (some (decide (t35 < x0_5)))) >>= fun (j46 : Bool) => (if j46 = true then (some (t35, ([x0_7] : List Int))) else (if t35 = x0_5 then (if (x0_10.length + 1) * 8 ≤ 140737488355328 then (some (x0_5, (x0_10 ++ ([x0_7] : List Int)))) else none) else (some (x0_5, x0_10)))))))) else none) >>= fun (j11 : Int × (List Int)) => (impl_choose.l0 l4 x0_0 x0_1 x0_2 x0_3 x0_4 x0_6 x0_8 x0_9 j11.1 (IntKind.i64.wrap (x0_7 + 1)) j11.2)) else (some x0_10))
 partial_fixpoint
def impl_choose.f (a0_0 : ByteArray) (a0_1 : Int) (a1 : Int) (a2 : Int) (a3 : Int) (l4 : List S86) (a5 : Int) : Option ((List Int) × Int) := (impl_choose.l0 l4 a1 a2 a3 a5 (l4.length : Int) (l4.length : Int) a0_0 a0_1 0 0 ([] : List Int) >>= fun (y68 : (List Int)) => (((if a1 = 1 then (some (decide ((y68.length : Int) > 0))) else (some false)) >>= fun (j74 : Bool) => (if j74 = true then (if (0 : Int) ≤ 0 ∧ 0 < (y68.length : Int) then (if ¬ (l4.length : Int) = 0 then (some ((IntKind.i64.wrap ((rd 0 y68 0) + 1)).tmod (l4.length : Int))) else none) else none) else (some a2))) >>= fun (j70 : Int) => (some (y68, j70))))
def impl_choose.l0_M (cs0 : List Cell) (o0 : Nat) (l4 : List S86) (hv0 : Vw c86 3 cs0 o0 l4) (x0_0 : Int) (x0_1 : Int) (x0_2 : Int) (x0_3 : Int) (x0_4 : Int) (x0_6 : Int) (x0_8 : ByteArray) (x0_9 : Int) (x0_5 : Int) (x0_7 : Int) (x0_10 : (List Int)) (y : (List Int)) : Prop := ∀ (K : AE → St → Prop), (K (.exit 0) ⟨[(1, .c (.sc (.int .i64 x0_0))), (2, .c (.sc (.int .i64 x0_1))), (14, .c (.sc (.int .i64 x0_4))), (15, .c (.ref (.tmp 15 20) [] 0 y.length))], [(.arg 0, ⟨.fz, 3, cs0⟩), (.tmp 15 20, ⟨.lst, 1, encL c_i64 y⟩)], [], []⟩) → loopS Try.prog 87 (.ga C83_l0) K ⟨[(1, .c (.sc (.int .i64 x0_0))), (2, .c (.sc (.int .i64 x0_1))), (3, .c (.sc (.int .i64 x0_2))), (4, .c (.ref (.arg 0) [] o0 l4.length)), (5, .c (.sc (.int .i64 x0_3))), (6, .c (.ptr (.tmp 6 0) [] 0)), (14, .c (.sc (.int .i64 x0_4))), (15, .c (.ref (.tmp 15 20) [] 0 x0_10.length)), (16, .c (.sc (.int .i64 x0_5))), (22, .c (.sc (.int .i64 x0_6))), (23, .c (.sc (.int .i64 x0_7)))], [(.arg 0, ⟨.fz, 3, cs0⟩), (.tmp 6 0, ⟨.box, 0, [.sc (.string x0_8), .sc (fnv x0_9)]⟩), (.tmp 15 20, ⟨.lst, 1, encL c_i64 x0_10⟩)], [], []⟩
theorem impl_choose.l0_walk (cs0 : List Cell) (o0 : Nat) (l4 : List S86) (hv0 : Vw c86 3 cs0 o0 l4) (x0_0 : Int) (x0_1 : Int) (x0_2 : Int) (x0_3 : Int) (x0_4 : Int) (x0_6 : Int) (x0_8 : ByteArray) (x0_9 : Int) (x0_5 : Int) (x0_7 : Int) (x0_10 : (List Int)) (y : (List Int)) (h : impl_choose.l0 l4 x0_0 x0_1 x0_2 x0_3 x0_4 x0_6 x0_8 x0_9 x0_5 x0_7 x0_10 = some y) : impl_choose.l0_M cs0 o0 l4 hv0 x0_0 x0_1 x0_2 x0_3 x0_4 x0_6 x0_8 x0_9 x0_5 x0_7 x0_10 y := by
 refine impl_choose.l0.partial_correctness l4 x0_0 x0_1 x0_2 x0_3 x0_4 x0_6 x0_8 x0_9 (motive := fun x0_5 x0_7 x0_10 y => impl_choose.l0_M cs0 o0 l4 hv0 x0_0 x0_1 x0_2 x0_3 x0_4 x0_6 x0_8 x0_9 x0_5 x0_7 x0_10 y) ?_ x0_5 x0_7 x0_10 y h
 clear h
 unfold impl_choose.l0_M
 intro rec ih x0_5 x0_7 x0_10 y h K hx0
 refine loop_unroll (ga_k fun G0 G0n G0r G0x => ?_)
 unfold C83_l0
 refine sr_k fun J8 hJ8 => ?_
 simp +decide only [reduceAdd, reduceMul, reduceToNat, ak]
 refine hJ8 _ ?_
 refine seq_k fun J9 hJ9 => ?_
 refine cond_k (b := decide (x0_7 < x0_6)) rfl (fun c10 => ?_) (fun c10 => ?_)
 ·replace c10 := of_decide_eq_true c10; rw [if_pos c10] at h
  refine hJ9 _ ?_
  obtain ⟨j11, h12, hn⟩ := of_bind h
  refine seq_j (fun st => st = ⟨[(1, .c (.sc (.int .i64 x0_0))), (2, .c (.sc (.int .i64 x0_1))), (3, .c (.sc (.int .i64 x0_2))), (4, .c (.ref (.arg 0) [] o0 l4.length)), (5, .c (.sc (.int .i64 x0_3))), (6, .c (.ptr (.tmp 6 0) [] 0)), (14, .c (.sc (.int .i64 x0_4))), (15, .c (.ref (.tmp 15 20) [] 0 j11.2.length)), (16, .c (.sc (.int .i64 j11.1))), (22, .c (.sc (.int .i64 x0_6))), (23, .c (.sc (.int .i64 x0_7)))], [(.arg 0, ⟨.fz, 3, cs0⟩), (.tmp 6 0, ⟨.box, 0, [.sc (.string x0_8), .sc (fnv x0_9)]⟩), (.tmp 15 20, ⟨.lst, 1, encL c_i64 j11.2⟩)], [], []⟩) (fun J13 hJ13 => ?_) ?_
  ·replace h := h12; clear hn
   refine ga_k fun G14 G14n G14r G14x => ?_
   refine block_k fun B15 B15n B15x B15r B15j => ?_
   refine sr_k fun J16 hJ16 => ?_
   simp +decide only [reduceAdd, reduceMul, reduceToNat, ak]
   refine hJ16 _ ?_
   refine sr_k fun J17 hJ17 => ?_
   obtain ⟨b18, h⟩ := of_guard h
   have g19 : (List.drop (o0 + x0_7.toNat * 3) (cs0)).take 3 = [.sc (.int .i64 ((rd z86 l4 x0_7).f0)), .sc (.int .i64 ((rd z86 l4 x0_7).f1)), .sc (.int .i64 ((rd z86 l4 x0_7).f2))] := hv0.stretch z86 b18.1 b18.2
   simp +decide only [reduceAdd, reduceMul, reduceToNat, ak, b18, g19]
   refine hJ17 _ ?_
   refine seq_k fun J20 hJ20 => ?_
   obtain ⟨j21, h22, hn⟩ := of_bind h
   refine seq_j (fun st => st = ⟨[(1, .c (.sc (.int .i64 x0_0))), (2, .c (.sc (.int .i64 x0_1))), (3, .c (.sc (.int .i64 x0_2))), (4, .c (.ref (.arg 0) [] o0 l4.length)), (5, .c (.sc (.int .i64 x0_3))), (6, .c (.ptr (.tmp 6 0) [] 0)), (14, .c (.sc (.int .i64 x0_4))), (15, .c (.ref (.tmp 15 20) [] 0 x0_10.length)), (16, .c (.sc (.int .i64 x0_5))), (17, .c (.sc (.int .i64 x0_7))), (18, .c (.ptr (.tmp 18 0) [] 0)), (22, .c (.sc (.int .i64 x0_6))), (23, .c (.sc (.int .i64 x0_7))), (44, .c (.sc (.bool j21)))], [(.arg 0, ⟨.fz, 3, cs0⟩), (.tmp 6 0, ⟨.box, 0, [.sc (.string x0_8), .sc (fnv x0_9)]⟩), (.tmp 15 20, ⟨.lst, 1, encL c_i64 x0_10⟩), (.tmp 18 0, ⟨.box, 0, [.sc (.int .i64 ((rd z86 l4 x0_7).f0)), .sc (.int .i64 ((rd z86 l4 x0_7).f1)), .sc (.int .i64 ((rd z86 l4 x0_7).f2))]⟩)], [], []⟩) (fun J23 hJ23 => ?_) ?_
   ·replace h := h22; clear hn
    refine ga_k fun G24 G24n G24r G24x => ?_
    refine reg_k ?_
    simp +decide only [reduceAdd, reduceMul, reduceToNat, ak]
    by_cases c25 : (rd z86 l4 x0_7).f0 ≠ 1
    ·rw [if_pos c25] at h
     have e26 : decide ((rd z86 l4 x0_7).f0 ≠ 1) = true := decide_eq_true c25
     simp +decide only [reduceAdd, reduceMul, reduceToNat, ak, e26]
     obtain rfl := Option.some.inj h
     refine G24n _ _ (wj [1, 2, 3, 4, 5, 6, 14, 15, 16, 17, 18, 22, 23, 44] [pI (.arg 0) .fz, pI (.tmp 6 0) .box, pI (.tmp 15 20) .lst, pI (.tmp 18 0) .box]) (hJ23 _ rfl)
    ·rw [if_neg c25] at h
     have e27 : decide ((rd z86 l4 x0_7).f0 ≠ 1) = false := decide_eq_false c25
     simp +decide only [reduceAdd, reduceMul, reduceToNat, ak, e27]
     by_cases c28 : (rd z86 l4 x0_7).f2 = 0
     ·rw [if_pos c28] at h
      have e29 : decide ((rd z86 l4 x0_7).f2 = 0) = true := decide_eq_true c28
      simp +decide only [reduceAdd, reduceMul, reduceToNat, ak, e29]
      obtain rfl := Option.some.inj h
      refine G24n _ _ (wj [1, 2, 3, 4, 5, 6, 14, 15, 16, 17, 18, 22, 23, 44] [pI (.arg 0) .fz, pI (.tmp 6 0) .box, pI (.tmp 15 20) .lst, pI (.tmp 18 0) .box]) (hJ23 _ rfl)
     ·rw [if_neg c28] at h
      have e30 : decide ((rd z86 l4 x0_7).f2 = 0) = false := decide_eq_false c28
      obtain ⟨b31, h⟩ := of_guard h
      have g32 : ∀ a, abin .shr (.int .i64 a) (.int .i64 x0_7) = some (.int .i64 (a.fdiv (2 ^ (min x0_7.toNat 64)))) := fun a => akShr _ _ a _ b31
      simp +decide only [reduceAdd, reduceMul, reduceToNat, ak, e30, g32]
      obtain rfl := Option.some.inj h
      refine G24n _ _ (wj [1, 2, 3, 4, 5, 6, 14, 15, 16, 17, 18, 22, 23, 44] [pI (.arg 0) .fz, pI (.tmp 6 0) .box, pI (.tmp 15 20) .lst, pI (.tmp 18 0) .box]) (hJ23 _ rfl)
   ·replace h := hn; clear hn h22
    rintro _ rfl
    refine cond_k (b := j21) rfl (fun c33 => ?_) (fun c33 => ?_)
    ·rw [if_pos c33] at h
     refine B15x _ ?_
     obtain rfl := Option.some.inj h
     refine G14n _ _ (wk [1, 2, 3, 4, 5, 6, 14, 15, 16, 22, 23] [pI (.arg 0) .fz, pI (.tmp 6 0) .box, pI (.tmp 15 20) .lst]) (hJ13 _ rfl)
    ·rw [if_neg (Bool.eq_false_iff.1 c33)] at h
     refine hJ20 _ ?_
     refine sr_k fun J34 hJ34 => ?_
     simp +decide only [reduceAdd, reduceMul, reduceToNat, ak]
     obtain ⟨t35, h36, h⟩ := of_bind h
     have hd37 : ∀ K : St → Prop, K ⟨[(1, .c (.sc (.int .i64 x0_0))), (2, .c (.sc (.int .i64 x0_1))), (3, .c (.sc (.int .i64 x0_2))), (4, .c (.ref (.arg 0) [] o0 l4.length)), (5, .c (.sc (.int .i64 x0_3))), (6, .c (.ptr (.tmp 6 0) [] 0)), (14, .c (.sc (.int .i64 x0_4))), (15, .c (.ref (.tmp 15 20) [] 0 x0_10.length)), (16, .c (.sc (.int .i64 x0_5))), (17, .c (.sc (.int .i64 x0_7))), (18, .c (.ptr (.tmp 18 0) [] 0)), (22, .c (.sc (.int .i64 x0_6))), (23, .c (.sc (.int .i64 x0_7))), (44, .c (.sc (.bool j21))), (45, .c (.ptr (.tmp 6 0) [] 1)), (46, .c (.sc (fnv x0_9))), (47, .c (.sc (.int .i64 x0_7))), (48, .g [.sc (.int .i64 ((rd z86 l4 x0_7).f0)), .sc (.int .i64 ((rd z86 l4 x0_7).f1)), .sc (.int .i64 ((rd z86 l4 x0_7).f2))]), (49, .c (.sc (.int .i64 x0_4))), (50, .c (.sc (.int .i64 x0_1))), (51, .c (.sc (.int .i64 x0_2))), (52, .c (.sc (.int .i64 t35)))], [(.arg 0, ⟨.fz, 3, cs0⟩), (.tmp 6 0, ⟨.box, 0, [.sc (.string x0_8), .sc (fnv x0_9)]⟩), (.tmp 15 20, ⟨.lst, 1, encL c_i64 x0_10⟩), (.tmp 18 0, ⟨.box, 0, [.sc (.int .i64 ((rd z86 l4 x0_7).f0)), .sc (.int .i64 ((rd z86 l4 x0_7).f1)), .sc (.int .i64 ((rd z86 l4 x0_7).f2))]⟩)], [], []⟩ → callvK Try.prog 87 (some 52) (.value (.tmp 46)) [.tmp 47, .tmp 48, .tmp 49, .tmp 50, .tmp 51] K ⟨[(1, .c (.sc (.int .i64 x0_0))), (2, .c (.sc (.int .i64 x0_1))), (3, .c (.sc (.int .i64 x0_2))), (4, .c (.ref (.arg 0) [] o0 l4.length)), (5, .c (.sc (.int .i64 x0_3))), (6, .c (.ptr (.tmp 6 0) [] 0)), (14, .c (.sc (.int .i64 x0_4))), (15, .c (.ref (.tmp 15 20) [] 0 x0_10.length)), (16, .c (.sc (.int .i64 x0_5))), (17, .c (.sc (.int .i64 x0_7))), (18, .c (.ptr (.tmp 18 0) [] 0)), (22, .c (.sc (.int .i64 x0_6))), (23, .c (.sc (.int .i64 x0_7))), (44, .c (.sc (.bool j21))), (45, .c (.ptr (.tmp 6 0) [] 1)), (46, .c (.sc (fnv x0_9))), (47, .c (.sc (.int .i64 x0_7))), (48, .g [.sc (.int .i64 ((rd z86 l4 x0_7).f0)), .sc (.int .i64 ((rd z86 l4 x0_7).f1)), .sc (.int .i64 ((rd z86 l4 x0_7).f2))]), (49, .c (.sc (.int .i64 x0_4))), (50, .c (.sc (.int .i64 x0_1))), (51, .c (.sc (.int .i64 x0_2)))], [(.arg 0, ⟨.fz, 3, cs0⟩), (.tmp 6 0, ⟨.box, 0, [.sc (.string x0_8), .sc (fnv x0_9)]⟩), (.tmp 15 20, ⟨.lst, 1, encL c_i64 x0_10⟩), (.tmp 18 0, ⟨.box, 0, [.sc (.int .i64 ((rd z86 l4 x0_7).f0)), .sc (.int .i64 ((rd z86 l4 x0_7).f1)), .sc (.int .i64 ((rd z86 l4 x0_7).f2))]⟩)], [], []⟩ := by
      intro K hK; unfold dyn_113_114_115_116 at h36
      by_cases e38 : x0_9 = 113
      ·rw [if_pos e38] at h36
       have e38f : fnv x0_9 = .func (.func 113) #[] #[] := by rw [e38]; rfl
       refine callv_fn (f := 113) (fn := Try.f113) (congrArg (fun v => AV.c (Cell.sc v)) e38f) Try.func113 (by kernel_rfl) (by decide) ?_
       refine cm [] (impl_policyOf_1.tri x0_7 ((rd z86 l4 x0_7).f0) ((rd z86 l4 x0_7).f1) ((rd z86 l4 x0_7).f2) x0_4 x0_1 x0_2 _ h36) (fun hl38 => ?_)
       refine cs (mN ..) ?_ (s4 := [(.arg 0, ⟨.fz, 3, cs0⟩), (.tmp 6 0, ⟨.box, 0, [.sc (.string x0_8), .sc (fnv x0_9)]⟩), (.tmp 15 20, ⟨.lst, 1, encL c_i64 x0_10⟩), (.tmp 18 0, ⟨.box, 0, [.sc (.int .i64 ((rd z86 l4 x0_7).f0)), .sc (.int .i64 ((rd z86 l4 x0_7).f1)), .sc (.int .i64 ((rd z86 l4 x0_7).f2))]⟩)])
       first | exact hK | (simp +decide only [reduceAdd, reduceMul, reduceToNat, ak]; exact hK)
      ·rw [if_neg e38] at h36
       by_cases e40 : x0_9 = 114
       ·rw [if_pos e40] at h36
        have e40f : fnv x0_9 = .func (.func 114) #[] #[] := by rw [e40]; rfl
        refine callv_fn (f := 114) (fn := Try.f114) (congrArg (fun v => AV.c (Cell.sc v)) e40f) Try.func114 (by kernel_rfl) (by decide) ?_
        refine cm [] (impl_policyOf_2.tri x0_7 ((rd z86 l4 x0_7).f0) ((rd z86 l4 x0_7).f1) ((rd z86 l4 x0_7).f2) x0_4 x0_1 x0_2 _ h36) (fun hl40 => ?_)
        refine cs (mN ..) ?_ (s4 := [(.arg 0, ⟨.fz, 3, cs0⟩), (.tmp 6 0, ⟨.box, 0, [.sc (.string x0_8), .sc (fnv x0_9)]⟩), (.tmp 15 20, ⟨.lst, 1, encL c_i64 x0_10⟩), (.tmp 18 0, ⟨.box, 0, [.sc (.int .i64 ((rd z86 l4 x0_7).f0)), .sc (.int .i64 ((rd z86 l4 x0_7).f1)), .sc (.int .i64 ((rd z86 l4 x0_7).f2))]⟩)])
        first | exact hK | (simp +decide only [reduceAdd, reduceMul, reduceToNat, ak]; exact hK)
       ·rw [if_neg e40] at h36
        by_cases e42 : x0_9 = 115
        ·rw [if_pos e42] at h36
         have e42f : fnv x0_9 = .func (.func 115) #[] #[] := by rw [e42]; rfl
         refine callv_fn (f := 115) (fn := Try.f115) (congrArg (fun v => AV.c (Cell.sc v)) e42f) Try.func115 (by kernel_rfl) (by decide) ?_
         refine cm [] (impl_policyOf_3.tri x0_7 ((rd z86 l4 x0_7).f0) ((rd z86 l4 x0_7).f1) ((rd z86 l4 x0_7).f2) x0_4 x0_1 x0_2 _ h36) (fun hl42 => ?_)
         refine cs (mN ..) ?_ (s4 := [(.arg 0, ⟨.fz, 3, cs0⟩), (.tmp 6 0, ⟨.box, 0, [.sc (.string x0_8), .sc (fnv x0_9)]⟩), (.tmp 15 20, ⟨.lst, 1, encL c_i64 x0_10⟩), (.tmp 18 0, ⟨.box, 0, [.sc (.int .i64 ((rd z86 l4 x0_7).f0)), .sc (.int .i64 ((rd z86 l4 x0_7).f1)), .sc (.int .i64 ((rd z86 l4 x0_7).f2))]⟩)])
         first | exact hK | (simp +decide only [reduceAdd, reduceMul, reduceToNat, ak]; exact hK)
        ·rw [if_neg e42] at h36
         by_cases e44 : x0_9 = 116
         ·rw [if_pos e44] at h36
          have e44f : fnv x0_9 = .func (.func 116) #[] #[] := by rw [e44]; rfl
          refine callv_fn (f := 116) (fn := Try.f116) (congrArg (fun v => AV.c (Cell.sc v)) e44f) Try.func116 (by kernel_rfl) (by decide) ?_
          refine cm [] (impl_policyOf_4.tri x0_7 ((rd z86 l4 x0_7).f0) ((rd z86 l4 x0_7).f1) ((rd z86 l4 x0_7).f2) x0_4 x0_1 x0_2 _ h36) (fun hl44 => ?_)
          refine cs (mN ..) ?_ (s4 := [(.arg 0, ⟨.fz, 3, cs0⟩), (.tmp 6 0, ⟨.box, 0, [.sc (.string x0_8), .sc (fnv x0_9)]⟩), (.tmp 15 20, ⟨.lst, 1, encL c_i64 x0_10⟩), (.tmp 18 0, ⟨.box, 0, [.sc (.int .i64 ((rd z86 l4 x0_7).f0)), .sc (.int .i64 ((rd z86 l4 x0_7).f1)), .sc (.int .i64 ((rd z86 l4 x0_7).f2))]⟩)])
          first | exact hK | (simp +decide only [reduceAdd, reduceMul, reduceToNat, ak]; exact hK)
         ·rw [if_neg e44] at h36
          cases h36
     refine hd37 _ ?_
     simp +decide only [reduceAdd, reduceMul, reduceToNat, ak]
     refine hJ34 _ ?_
     obtain ⟨j46, h47, hn⟩ := of_bind h
     refine seq_j (fun st => st = ⟨[(1, .c (.sc (.int .i64 x0_0))), (2, .c (.sc (.int .i64 x0_1))), (3, .c (.sc (.int .i64 x0_2))), (4, .c (.ref (.arg 0) [] o0 l4.length)), (5, .c (.sc (.int .i64 x0_3))), (6, .c (.ptr (.tmp 6 0) [] 0)), (14, .c (.sc (.int .i64 x0_4))), (15, .c (.ref (.tmp 15 20) [] 0 x0_10.length)), (16, .c (.sc (.int .i64 x0_5))), (17, .c (.sc (.int .i64 x0_7))), (19, .c (.sc (.int .i64 t35))), (22, .c (.sc (.int .i64 x0_6))), (23, .c (.sc (.int .i64 x0_7))), (60, .c (.sc (.bool j46)))], [(.arg 0, ⟨.fz, 3, cs0⟩), (.tmp 6 0, ⟨.box, 0, [.sc (.string x0_8), .sc (fnv x0_9)]⟩), (.tmp 15 20, ⟨.lst, 1, encL c_i64 x0_10⟩)], [], []⟩) (fun J48 hJ48 => ?_) ?_
     ·replace h := h47; clear hn
      refine ga_k fun G49 G49n G49r G49x => ?_
      refine reg_k ?_
      simp +decide only [reduceAdd, reduceMul, reduceToNat, ak]
      by_cases c50 : (x0_10.length : Int) = 0
      ·rw [if_pos c50] at h
       have e51 : decide ((x0_10.length : Int) = 0) = true := decide_eq_true c50
       simp +decide only [reduceAdd, reduceMul, reduceToNat, ak, e51]
       obtain rfl := Option.some.inj h
       refine G49n _ _ (wj [1, 2, 3, 4, 5, 6, 14, 15, 16, 17, 19, 22, 23, 60] [pI (.arg 0) .fz, pI (.tmp 6 0) .box, pI (.tmp 15 20) .lst]) (hJ48 _ rfl)
      ·rw [if_neg c50] at h
       have e52 : decide ((x0_10.length : Int) = 0) = false := decide_eq_false c50
       simp +decide only [reduceAdd, reduceMul, reduceToNat, ak, e52]
       obtain rfl := Option.some.inj h
       refine G49n _ _ (wj [1, 2, 3, 4, 5, 6, 14, 15, 16, 17, 19, 22, 23, 60] [pI (.arg 0) .fz, pI (.tmp 6 0) .box, pI (.tmp 15 20) .lst]) (hJ48 _ rfl)
     ·replace h := hn; clear hn h47
      rintro _ rfl
      refine cond_k (b := j46) rfl (fun c53 => ?_) (fun c53 => ?_)
      ·rw [if_pos c53] at h
       refine reg_k ?_
       have g54 : (List.replicate 1 ([.int .i64 0] : List Value)).flatten = [.int .i64 0] := rfl
       have g55 : (⟨.lst, 1, [.sc (.int .i64 x0_7)]⟩ : Root) = ⟨.lst, 1, encL c_i64 ([x0_7] : List Int)⟩ := rfl
       have g56 : ([x0_7] : List Int).length = 1 := rfl
       simp +decide only [reduceAdd, reduceMul, reduceToNat, ak, g54, g55, g56]
       refine B15n _ ?_
       obtain rfl := Option.some.inj h
       refine G14n _ _ (wj [1, 2, 3, 4, 5, 6, 14, 15, 16, 22, 23] [pI (.arg 0) .fz, pI (.tmp 6 0) .box, pN (.tmp 15 20) (.tmp 62 0) .lst]) (hJ13 _ rfl)
      ·rw [if_neg (Bool.eq_false_iff.1 c53)] at h
       refine sr_k fun J57 hJ57 => ?_
       simp +decide only [reduceAdd, reduceMul, reduceToNat, ak]
       refine hJ57 _ ?_
       refine cond_k (b := decide (t35 = x0_5)) rfl (fun c58 => ?_) (fun c58 => ?_)
       ·replace c58 := of_decide_eq_true c58; rw [if_pos c58] at h
        refine reg_k ?_
        have g59 : (List.replicate 1 ([.int .i64 0] : List Value)).flatten = [.int .i64 0] := rfl
        have g60 : (⟨.lst, 1, [.sc (.int .i64 x0_7)]⟩ : Root) = ⟨.lst, 1, encL c_i64 ([x0_7] : List Int)⟩ := rfl
        have g61 : ([x0_7] : List Int).length = 1 := rfl
        have g62 : (encL c_i64 ([x0_7] : List Int)).length = 1 * 1 := by simp [encL_length c_i64_w]
        have g63 : (encL c_i64 ([x0_7] : List Int)).all nd = true := rfl
        obtain ⟨b64, h⟩ := of_guard h
        have g65 : appLim x0_10.length 1 8 := ⟨b64, by have := b64; omega⟩
        have g66 : (encL c_i64 x0_10).length = x0_10.length * 1 := by simp [encL_length c_i64_w]
        have g67 : encL c_i64 x0_10 ++ encL c_i64 ([x0_7] : List Int) = encL c_i64 (x0_10 ++ ([x0_7] : List Int)) := (encL_append _ _).symm
        simp +decide only [reduceAdd, reduceMul, reduceToNat, ak, g59, g60, g61, g62, g63, g65, g66, g67]
        refine B15n _ ?_
        obtain rfl := Option.some.inj h
        refine G14n _ _ (wj [1, 2, 3, 4, 5, 6, 14, 15, 16, 22, 23] [pI (.arg 0) .fz, pI (.tmp 6 0) .box, pI (.tmp 15 20) .lst]) (hJ13 _ rfl)
       ·replace c58 := of_decide_eq_false c58; rw [if_neg c58] at h
        refine B15n _ ?_
        obtain rfl := Option.some.inj h
        refine G14n _ _ (wk [1, 2, 3, 4, 5, 6, 14, 15, 16, 22, 23] [pI (.arg 0) .fz, pI (.tmp 6 0) .box, pI (.tmp 15 20) .lst]) (hJ13 _ rfl)
  ·replace h := hn; clear hn h12
   rintro _ rfl
   refine reg_k ?_
   simp +decide only [reduceAdd, reduceMul, reduceToNat, ak]
   refine G0n _ _ (wk [1, 2, 3, 4, 5, 6, 14, 15, 16, 22, 23] [pI (.arg 0) .fz, pI (.tmp 6 0) .box, pI (.tmp 15 20) .lst]) (ih _ _ _ _ h K hx0)
 ·replace c10 := of_decide_eq_false c10; rw [if_neg c10] at h
  obtain rfl := Option.some.inj h
  refine gh_k (wk [1, 2, 14, 15] [pI (.arg 0) .fz, pI (.tmp 15 20) .lst]) ?_
  refine G0x _ _ ?_
  exact hx0
theorem impl_choose.tri (cs0 : List Cell) (o0 : Nat) (l4 : List S86) (hv0 : Vw c86 3 cs0 o0 l4) (a0_0 : ByteArray) (a0_1 : Int) (a1 : Int) (a2 : Int) (a3 : Int) (a5 : Int) (r : (List Int) × Int) (h : impl_choose.f a0_0 a0_1 a1 a2 a3 l4 a5 = some r) : Tri Try.prog 83 [.g [.sc (.string a0_0), .sc (fnv a0_1)], .c (.sc (.int .i64 a1)), .c (.sc (.int .i64 a2)), .c (.sc (.int .i64 a3)), .c (.ref (.arg 0) [] o0 l4.length), .c (.sc (.int .i64 a5))] [(.arg 0, ⟨.fz, 3, cs0⟩)] (fun o => o = ⟨.tup [(false, [.ref (.res 0) [] 0 r.1.length]), (false, [.sc (.int .i64 r.2)])], [(.arg 0, ⟨.fz, 3, cs0⟩), (.res 0, ⟨.lst, 1, encL c_i64 r.1⟩)], [], []⟩) := by
 refine tri_of_body (ac := C83) (xs := r83) Try.func83 (show Try.f83.body = some (Try.f83.body.getD .skip) from rfl) k83 q83 (Nat.le_of_ble_eq_true rfl) ?_
 refine body_of fun K hKn hKr => ?_
 unfold impl_choose.f at h
 unfold C83
 simp only [initT, Nat.reduceAdd]
 refine sr_k fun J1 hJ1 => ?_
 simp +decide only [reduceAdd, reduceMul, reduceToNat, ak]
 refine gho_k (Weak.nm' 12 (.tmp 12 20) 1 (encL c_i64 ([] : List Int)) rfl rfl rfl) ?_
 simp +decide only [reduceAdd, reduceMul, reduceToNat, ak]
 refine hJ1 _ ?_
 refine sr_k fun J2 hJ2 => ?_
 simp +decide only [reduceAdd, reduceMul, reduceToNat, ak]
 refine hJ2 _ ?_
 refine sr_k fun J3 hJ3 => ?_
 simp +decide only [reduceAdd, reduceMul, reduceToNat, ak]
 refine gho_k (Weak.nm' 15 (.tmp 15 20) 1 (encL c_i64 ([] : List Int)) rfl rfl rfl) ?_
 simp +decide only [reduceAdd, reduceMul, reduceToNat, ak]
 refine hJ3 _ ?_
 refine sr_k fun J4 hJ4 => ?_
 simp +decide only [reduceAdd, reduceMul, reduceToNat, ak]
 refine hJ4 _ ?_
 refine seq_k fun J5 hJ5 => ?_
 refine sr_k fun J6 hJ6 => ?_
 simp +decide only [reduceAdd, reduceMul, reduceToNat, ak]
 refine hJ6 _ ?_
 refine block_k fun B7 B7n B7x B7r B7j => ?_
 obtain ⟨y68, h69, h⟩ := of_bind h
 refine gh_k (st' := ⟨[(1, .c (.sc (.int .i64 a1))), (2, .c (.sc (.int .i64 a2))), (3, .c (.sc (.int .i64 a3))), (4, .c (.ref (.arg 0) [] o0 l4.length)), (5, .c (.sc (.int .i64 a5))), (6, .c (.ptr (.tmp 6 0) [] 0)), (14, .c (.sc (.int .i64 (l4.length : Int)))), (15, .c (.ref (.tmp 15 20) [] 0 (([] : List Int).length))), (16, .c (.sc (.int .i64 0))), (22, .c (.sc (.int .i64 (l4.length : Int)))), (23, .c (.sc (.int .i64 0)))], [(.arg 0, ⟨.fz, 3, cs0⟩), (.tmp 6 0, ⟨.box, 0, [.sc (.string a0_0), .sc (fnv a0_1)]⟩), (.tmp 15 20, ⟨.lst, 1, encL c_i64 ([] : List Int)⟩)], [], []⟩) (wk [1, 2, 3, 4, 5, 6, 14, 15, 16, 22, 23] [pI (.arg 0) .fz, pI (.tmp 6 0) .box, pI (.tmp 15 20) .lst] (h := by first | rfl | (simp +decide only [ak, akF]; done) | (simp +decide [ak, akF] <;> omega))) ?_
 rw [e_loop]
 refine impl_choose.l0_walk cs0 o0 l4 hv0 a1 a2 a3 a5 (l4.length : Int) (l4.length : Int) a0_0 a0_1 0 0 ([] : List Int) _ h69 _ ?_
 refine B7x _ ?_
 refine hJ5 _ ?_
 obtain ⟨j70, h71, hn⟩ := of_bind h
 refine seq_j (fun st => st = ⟨[(2, .c (.sc (.int .i64 j70))), (15, .c (.ref (.tmp 15 20) [] 0 y68.length))], [(.arg 0, ⟨.fz, 3, cs0⟩), (.tmp 15 20, ⟨.lst, 1, encL c_i64 y68⟩)], [], []⟩) (fun J72 hJ72 => ?_) ?_
 ·replace h := h71; clear hn
  refine ga_k fun G73 G73n G73r G73x => ?_
  obtain ⟨j74, h75, hn⟩ := of_bind h
  refine seq_j (fun st => st = ⟨[(2, .c (.sc (.int .i64 a2))), (14, .c (.sc (.int .i64 (l4.length : Int)))), (15, .c (.ref (.tmp 15 20) [] 0 y68.length)), (78, .c (.sc (.bool j74)))], [(.arg 0, ⟨.fz, 3, cs0⟩), (.tmp 15 20, ⟨.lst, 1, encL c_i64 y68⟩)], [], []⟩) (fun J76 hJ76 => ?_) ?_
  ·replace h := h75; clear hn
   refine ga_k fun G77 G77n G77r G77x => ?_
   refine reg_k ?_
   simp +decide only [reduceAdd, reduceMul, reduceToNat, ak]
   by_cases c78 : a1 = 1
   ·rw [if_pos c78] at h
    have e79 : decide (a1 = 1) = true := decide_eq_true c78
    simp +decide only [reduceAdd, reduceMul, reduceToNat, ak, e79]
    obtain rfl := Option.some.inj h
    refine G77n _ _ (wj [2, 14, 15, 78] [pI (.arg 0) .fz, pI (.tmp 15 20) .lst]) (hJ76 _ rfl)
   ·rw [if_neg c78] at h
    have e80 : decide (a1 = 1) = false := decide_eq_false c78
    simp +decide only [reduceAdd, reduceMul, reduceToNat, ak, e80]
    obtain rfl := Option.some.inj h
    refine G77n _ _ (wj [2, 14, 15, 78] [pI (.arg 0) .fz, pI (.tmp 15 20) .lst]) (hJ76 _ rfl)
  ·replace h := hn; clear hn h75
   rintro _ rfl
   refine cond_k (b := j74) rfl (fun c81 => ?_) (fun c81 => ?_)
   ·rw [if_pos c81] at h
    refine reg_k ?_
    obtain ⟨b82, h⟩ := of_guard h
    have g83 : (encL c_i64 y68)[0]? = some (.sc (.int .i64 (rd 0 y68 0))) := (by have := (Vw.whole c_i64_w y68).get 0 0 b82.1 b82.2 (by decide); first | exact this | simpa using this)
    obtain ⟨b84, h⟩ := of_guard h
    simp +decide only [reduceAdd, reduceMul, reduceToNat, ak, b82, g83, b84]
    obtain rfl := Option.some.inj h
    refine G73n _ _ (wk [2, 15] [pI (.arg 0) .fz, pI (.tmp 15 20) .lst]) (hJ72 _ rfl)
   ·rw [if_neg (Bool.eq_false_iff.1 c81)] at h
    obtain rfl := Option.some.inj h
    refine G73n _ _ (wk [2, 15] [pI (.arg 0) .fz, pI (.tmp 15 20) .lst]) (hJ72 _ rfl)
 ·replace h := hn; clear hn h71
  rintro _ rfl
  refine sr_k fun J85 hJ85 => ?_
  simp +decide only [reduceAdd, reduceMul, reduceToNat, ak]
  refine hJ85 _ ?_
  obtain rfl := Option.some.inj h
  refine hKr _ ⟨_, rfl, [⟨(.tmp 15 20), [], none, .lst⟩], _, rfl, rfl, ?_⟩
  exact cl
/-! ### impl.mark: function 71 -/
def C71 : AC := .sr [.o (.mv 2 (.k 0)), .keep [0]] (.seq (.sr [.m 3 0, .keep [3]] (.cond (.t 3) (.sr [.o (.mv 2 (.k 1)), .keep [2]] (.ret)) (.skip))) (.sr [.o (.mv 2 (.k 0)), .keep [2]] (.ret)))
def r71 : List RV := [.tmp 2]
theorem k71 : compC Try.prog 4 C71 (Try.f71.body.getD .skip) = some C71.erase := by kernel_rfl
theorem q71 : rvsOf Try.prog Try.f71.results.toList = some r71 := by kernel_rfl
def impl_mark.f (a0 : Bool) : Option Int := (if a0 = true then (some 1) else (some 0))
theorem impl_mark.tri (a0 : Bool) (r : Int) (h : impl_mark.f a0 = some r) : Tri Try.prog 71 [.c (.sc (.bool a0))] [] (fun o => o = ⟨.c (.sc (.int .i64 r)), [], [], []⟩) := by
 refine tri_of_body (ac := C71) (xs := r71) Try.func71 (show Try.f71.body = some (Try.f71.body.getD .skip) from rfl) k71 q71 (Nat.le_of_ble_eq_true rfl) ?_
 refine body_of fun K hKn hKr => ?_
 unfold impl_mark.f at h
 unfold C71
 simp only [initT, Nat.reduceAdd]
 refine sr_k fun J1 hJ1 => ?_
 simp +decide only [reduceAdd, reduceMul, reduceToNat, ak]
 refine hJ1 _ ?_
 refine seq_k fun J2 hJ2 => ?_
 refine sr_k fun J3 hJ3 => ?_
 simp +decide only [reduceAdd, reduceMul, reduceToNat, ak]
 refine hJ3 _ ?_
 refine cond_k (b := a0) rfl (fun c4 => ?_) (fun c4 => ?_)
 ·rw [if_pos c4] at h
  refine sr_k fun J5 hJ5 => ?_
  simp +decide only [reduceAdd, reduceMul, reduceToNat, ak]
  refine hJ5 _ ?_
  obtain rfl := Option.some.inj h
  refine hKr _ ⟨_, rfl, [], _, rfl, rfl, ?_⟩
  exact cl
 ·rw [if_neg (Bool.eq_false_iff.1 c4)] at h
  refine hJ2 _ ?_
  refine sr_k fun J6 hJ6 => ?_
  simp +decide only [reduceAdd, reduceMul, reduceToNat, ak]
  refine hJ6 _ ?_
  obtain rfl := Option.some.inj h
  refine hKr _ ⟨_, rfl, [], _, rfl, rfl, ?_⟩
  exact cl
/-! ### impl.PlanSend$1: function 90 -/
def C90 : AC := .sr [.o (.box 5 (.t 0)), .o (.alloc 7 [.int .i64 0, .int .i64 0, .int .u64 0, .int .i64 0, .slice none 0 0, .int .i64 0, .int .i64 0]), .gh, .o (.mv 8 (.const (.bool false))), .keep [1, 2, 3, 4, 5, 7]] (.sr [.o (.load 10 true 2 (.t 2)), .fa 11 0 3, .ld 12 1 11, .fa 13 1 3, .ld 14 1 13, .ld 15 1 4, .fa 16 3 3, .ld 17 1 16, .m 18 1, .call none (some 19) 83 [.tmp 10, .tmp 12, .tmp 14, .tmp 15, .tmp 17, .tmp 18], .m 9 19, .o (.extr 20 (.t 9) 0), .o (.extr 21 (.t 9) 1), .fa 22 4 5, .st 1 22 20, .fa 23 5 5, .st 1 23 21, .keep [3, 5, 7]] (.seq (.ga (.reg [.fa 24 0 3, .ld 25 1 24, .o (.bin 26 .eql (.t 25) (.k 4)), .m 27 26, .op (some (27, true)) (.faddr 28 2 (.t 3)), .op (some (27, true)) (.load 29 false 1 (.t 28)), .op (some (27, true)) (.len 30 (.t 29)), .op (some (27, true)) (.bin 31 .gtr (.t 30) (.k 0)), .o (.pick 32 (.t 27) (.t 31) (.const (.bool false))), .call none (some 33) 71 [.tmp 32], .fa 34 6 5, .st 1 34 33, .keep [5, 7]])) (.seq (.regD (.f (.o (.load 35 true 7 (.t 5))) (.f (.fa 36 4 5) (.pin [6, 4, 3] (.ld 37 1 36) (.pin [6, 4] (.ln 38 37) (.pin [6] (.o (.bin 39 .gtr (.t 38) (.k 0))) (.alt (.st 7 7 35) none (.pin [] (.m 8 39) (.done)) (.stop))))))) [7, 8]) (.ret))))
def r90 : List RV := [.cell 7 true 7, .tmp 8]
theorem k90 : compC Try.prog 40 C90 (Try.f90.body.getD .skip) = some C90.erase := by kernel_rfl
theorem q90 : rvsOf Try.prog Try.f90.results.toList = some r90 := by kernel_rfl
def impl_PlanSend_1.f (a0_0 : Int) (a0_1 : Int) (a0_2 : Int) (a0_3 : Int) (l0_4 : List Int) (a0_5 : Int) (a0_6 : Int) (a1 : Int) (a2_0 : ByteArray) (a2_1 : Int) (a3_0 : Int) (a3_1 : Int) (l3_2 : List Int) (l3_3 : List S86) (l3_4 : List S84) (a3_5 : Int) (a3_6 : Int) (a3_7 : Int) (a3_8 : Int) (a3_9 : Int) (a3_10 : Int) (a3_11 : Int) (a4_0 : Int) : Option (Int × Int × Int × Int × (List Int) × Int × Int × Bool) := (impl_choose.f a2_0 a2_1 a3_0 a3_1 a4_0 l3_3 a1 >>= fun t3 => ((if a3_0 = 4 then (impl_mark.f (decide ((l3_2.length : Int) > 0)) >>= fun t13 => (some t13)) else (impl_mark.f false >>= fun t17 => (some t17))) >>= fun (j7 : Int) => (some (a0_0, a0_1, a0_2, a0_3, t3.1, t3.2, j7, decide ((t3.1.length : Int) > 0)))))
theorem impl_PlanSend_1.tri (cs0 : List Cell) (o0 : Nat) (l0_4 : List Int) (hv0 : Vw c_i64 1 cs0 o0 l0_4) (cs3 : List Cell) (o3 : Nat) (l3_2 : List Int) (hv3 : Vw c_i64 1 cs3 o3 l3_2) (cs4 : List Cell) (o4 : Nat) (l3_3 : List S86) (hv4 : Vw c86 3 cs4 o4 l3_3) (cs5 : List Cell) (o5 : Nat) (l3_4 : List S84) (hv5 : Vw c84 5 cs5 o5 l3_4) (a0_0 : Int) (a0_1 : Int) (a0_2 : Int) (a0_3 : Int) (a0_5 : Int) (a0_6 : Int) (a1 : Int) (a2_0 : ByteArray) (a2_1 : Int) (a3_0 : Int) (a3_1 : Int) (a3_5 : Int) (a3_6 : Int) (a3_7 : Int) (a3_8 : Int) (a3_9 : Int) (a3_10 : Int) (a3_11 : Int) (a4_0 : Int) (r : Int × Int × Int × Int × (List Int) × Int × Int × Bool) (h : impl_PlanSend_1.f a0_0 a0_1 a0_2 a0_3 l0_4 a0_5 a0_6 a1 a2_0 a2_1 a3_0 a3_1 l3_2 l3_3 l3_4 a3_5 a3_6 a3_7 a3_8 a3_9 a3_10 a3_11 a4_0 = some r) : Tri Try.prog 90 [.g [.sc (.int .i64 a0_0), .sc (.int .i64 a0_1), .sc (.int .u64 a0_2), .sc (.int .i64 a0_3), .ref (.arg 0) [] o0 l0_4.length, .sc (.int .i64 a0_5), .sc (.int .i64 a0_6)], .c (.sc (.int .i64 a1)), .c (.ptr (.arg 1) [] 0), .c (.ptr (.arg 2) [] 0), .c (.ptr (.arg 6) [] 0)] [(.arg 0, ⟨.fz, 1, cs0⟩), (.arg 1, ⟨.box, 0, [.sc (.string a2_0), .sc (fnv a2_1)]⟩), (.arg 2, ⟨.box, 0, [.sc (.int .i64 a3_0), .sc (.int .i64 a3_1), .ref (.arg 3) [] o3 l3_2.length, .ref (.arg 4) [] o4 l3_3.length, .ref (.arg 5) [] o5 l3_4.length, .sc (.int .i64 a3_5), .sc (.int .u64 a3_6), .sc (.int .u64 a3_7), .sc (.int .u64 a3_8), .sc (.int .i64 a3_9), .sc (.int .i64 a3_10), .sc (.int .i64 a3_11)]⟩), (.arg 3, ⟨.fz, 1, cs3⟩), (.arg 4, ⟨.fz, 3, cs4⟩), (.arg 5, ⟨.fz, 5, cs5⟩), (.arg 6, ⟨.box, 0, [.sc (.int .i64 a4_0)]⟩)] (fun o => o = ⟨.tup [(true, [.sc (.int .i64 r.1), .sc (.int .i64 r.2.1), .sc (.int .u64 r.2.2.1), .sc (.int .i64 r.2.2.2.1), .ref (.res 0) [] 0 r.2.2.2.2.1.length, .sc (.int .i64 r.2.2.2.2.2.1), .sc (.int .i64 r.2.2.2.2.2.2.1)]), (false, [.sc (.bool r.2.2.2.2.2.2.2)])], [(.arg 0, ⟨.fz, 1, cs0⟩), (.arg 1, ⟨.box, 0, [.sc (.string a2_0), .sc (fnv a2_1)]⟩), (.arg 2, ⟨.box, 0, [.sc (.int .i64 a3_0), .sc (.int .i64 a3_1), .ref (.arg 3) [] o3 l3_2.length, .ref (.arg 4) [] o4 l3_3.length, .ref (.arg 5) [] o5 l3_4.length, .sc (.int .i64 a3_5), .sc (.int .u64 a3_6), .sc (.int .u64 a3_7), .sc (.int .u64 a3_8), .sc (.int .i64 a3_9), .sc (.int .i64 a3_10), .sc (.int .i64 a3_11)]⟩), (.arg 3, ⟨.fz, 1, cs3⟩), (.arg 4, ⟨.fz, 3, cs4⟩), (.arg 5, ⟨.fz, 5, cs5⟩), (.arg 6, ⟨.box, 0, [.sc (.int .i64 a4_0)]⟩), (.res 0, ⟨.lst, 1, encL c_i64 r.2.2.2.2.1⟩)], [], []⟩) := by
 refine tri_of_body (ac := C90) (xs := r90) Try.func90 (show Try.f90.body = some (Try.f90.body.getD .skip) from rfl) k90 q90 (Nat.le_of_ble_eq_true rfl) ?_
 refine body_of fun K hKn hKr => ?_
 unfold impl_PlanSend_1.f at h
 unfold C90
 simp only [initT, Nat.reduceAdd]
 refine sr_k fun J1 hJ1 => ?_
 simp +decide only [reduceAdd, reduceMul, reduceToNat, ak]
 refine gho_k (Weak.own (.tmp 7 0) (cs' := [.sc (.int .i64 0), .sc (.int .i64 0), .sc (.int .u64 0), .sc (.int .i64 0), .own 1 (([] : List Int).length) (encL c_i64 ([] : List Int)), .sc (.int .i64 0), .sc (.int .i64 0)]) rfl ⟨.inl rfl, .inl rfl, .inl rfl, .inl rfl, .inr ⟨rfl, _, rfl⟩, .inl rfl, .inl rfl, trivial⟩) ?_
 simp +decide only [reduceAdd, reduceMul, reduceToNat, ak]
 refine hJ1 _ ?_
 refine sr_k fun J2 hJ2 => ?_
 simp +decide only [reduceAdd, reduceMul, reduceToNat, ak]
 obtain ⟨t3, h4, h⟩ := of_bind h
 refine cm [pN (.arg 0) (.arg 4) .fz] (impl_choose.tri (cs4) o4 l3_3 hv4 a2_0 a2_1 a3_0 a3_1 a4_0 a1 _ h4) (fun hl4 => ?_)
 refine ct (.tup [(false, [.ref (.tmp 19 0) [] 0 t3.1.length]), (false, [.sc (.int .i64 t3.2)])]) (mF (mN ..)) ?_ (s4 := [(.arg 0, ⟨.fz, 1, cs0⟩), (.arg 1, ⟨.box, 0, [.sc (.string a2_0), .sc (fnv a2_1)]⟩), (.arg 2, ⟨.box, 0, [.sc (.int .i64 a3_0), .sc (.int .i64 a3_1), .ref (.arg 3) [] o3 l3_2.length, .ref (.arg 4) [] o4 l3_3.length, .ref (.arg 5) [] o5 l3_4.length, .sc (.int .i64 a3_5), .sc (.int .u64 a3_6), .sc (.int .u64 a3_7), .sc (.int .u64 a3_8), .sc (.int .i64 a3_9), .sc (.int .i64 a3_10), .sc (.int .i64 a3_11)]⟩), (.arg 3, ⟨.fz, 1, cs3⟩), (.arg 4, ⟨.fz, 3, cs4⟩), (.arg 5, ⟨.fz, 5, cs5⟩), (.arg 6, ⟨.box, 0, [.sc (.int .i64 a4_0)]⟩), (.tmp 5 0, ⟨.box, 0, [.sc (.int .i64 a0_0), .sc (.int .i64 a0_1), .sc (.int .u64 a0_2), .sc (.int .i64 a0_3), .ref (.arg 0) [] o0 l0_4.length, .sc (.int .i64 a0_5), .sc (.int .i64 a0_6)]⟩), (.tmp 7 0, ⟨.box, 0, [.sc (.int .i64 0), .sc (.int .i64 0), .sc (.int .u64 0), .sc (.int .i64 0), .own 1 (([] : List Int).length) (encL c_i64 ([] : List Int)), .sc (.int .i64 0), .sc (.int .i64 0)]⟩), (.tmp 19 0, ⟨.lst, 1, encL c_i64 t3.1⟩)])
 have g6 : (encL c_i64 t3.1).length = t3.1.length * 1 := by simp [encL_length c_i64_w]
 simp +decide only [reduceAdd, reduceMul, reduceToNat, ak, g6]
 refine hJ2 _ ?_
 obtain ⟨j7, h8, hn⟩ := of_bind h
 refine seq_j (fun st => st = ⟨[(5, .c (.ptr (.tmp 5 0) [] 0)), (7, .c (.ptr (.tmp 7 0) [] 0))], [(.arg 0, ⟨.fz, 1, cs0⟩), (.arg 1, ⟨.box, 0, [.sc (.string a2_0), .sc (fnv a2_1)]⟩), (.arg 2, ⟨.box, 0, [.sc (.int .i64 a3_0), .sc (.int .i64 a3_1), .ref (.arg 3) [] o3 l3_2.length, .ref (.arg 4) [] o4 l3_3.length, .ref (.arg 5) [] o5 l3_4.length, .sc (.int .i64 a3_5), .sc (.int .u64 a3_6), .sc (.int .u64 a3_7), .sc (.int .u64 a3_8), .sc (.int .i64 a3_9), .sc (.int .i64 a3_10), .sc (.int .i64 a3_11)]⟩), (.arg 3, ⟨.fz, 1, cs3⟩), (.arg 4, ⟨.fz, 3, cs4⟩), (.arg 5, ⟨.fz, 5, cs5⟩), (.arg 6, ⟨.box, 0, [.sc (.int .i64 a4_0)]⟩), (.tmp 5 0, ⟨.box, 0, [.sc (.int .i64 a0_0), .sc (.int .i64 a0_1), .sc (.int .u64 a0_2), .sc (.int .i64 a0_3), .own 1 t3.1.length (encL c_i64 t3.1), .sc (.int .i64 t3.2), .sc (.int .i64 j7)]⟩), (.tmp 7 0, ⟨.box, 0, [.sc (.int .i64 0), .sc (.int .i64 0), .sc (.int .u64 0), .sc (.int .i64 0), .own 1 (([] : List Int).length) (encL c_i64 ([] : List Int)), .sc (.int .i64 0), .sc (.int .i64 0)]⟩)], [], []⟩) (fun J9 hJ9 => ?_) ?_
 ·replace h := h8; clear hn
  refine ga_k fun G10 G10n G10r G10x => ?_
  refine reg_k ?_
  simp +decide only [reduceAdd, reduceMul, reduceToNat, ak]
  by_cases c11 : a3_0 = 4
  ·rw [if_pos c11] at h
   have e12 : decide (a3_0 = 4) = true := decide_eq_true c11
   simp +decide only [reduceAdd, reduceMul, reduceToNat, ak, e12]
   obtain ⟨t13, h14, h⟩ := of_bind h
   refine cm [] (impl_mark.tri (decide ((l3_2.length : Int) > 0)) _ h14) (fun hl14 => ?_)
   refine cs (mN ..) ?_ (s4 := [(.arg 0, ⟨.fz, 1, cs0⟩), (.arg 1, ⟨.box, 0, [.sc (.string a2_0), .sc (fnv a2_1)]⟩), (.arg 2, ⟨.box, 0, [.sc (.int .i64 a3_0), .sc (.int .i64 a3_1), .ref (.arg 3) [] o3 l3_2.length, .ref (.arg 4) [] o4 l3_3.length, .ref (.arg 5) [] o5 l3_4.length, .sc (.int .i64 a3_5), .sc (.int .u64 a3_6), .sc (.int .u64 a3_7), .sc (.int .u64 a3_8), .sc (.int .i64 a3_9), .sc (.int .i64 a3_10), .sc (.int .i64 a3_11)]⟩), (.arg 3, ⟨.fz, 1, cs3⟩), (.arg 4, ⟨.fz, 3, cs4⟩), (.arg 5, ⟨.fz, 5, cs5⟩), (.arg 6, ⟨.box, 0, [.sc (.int .i64 a4_0)]⟩), (.tmp 5 0, ⟨.box, 0, [.sc (.int .i64 a0_0), .sc (.int .i64 a0_1), .sc (.int .u64 a0_2), .sc (.int .i64 a0_3), .own 1 t3.1.length (encL c_i64 t3.1), .sc (.int .i64 t3.2), .sc (.int .i64 a0_6)]⟩), (.tmp 7 0, ⟨.box, 0, [.sc (.int .i64 0), .sc (.int .i64 0), .sc (.int .u64 0), .sc (.int .i64 0), .own 1 (([] : List Int).length) (encL c_i64 ([] : List Int)), .sc (.int .i64 0), .sc (.int .i64 0)]⟩)])
   simp +decide only [reduceAdd, reduceMul, reduceToNat, ak]
   obtain rfl := Option.some.inj h
   refine G10n _ _ (wj [5, 7] [pI (.arg 0) .fz, pI (.arg 1) .box, pI (.arg 2) .box, pI (.arg 3) .fz, pI (.arg 4) .fz, pI (.arg 5) .fz, pI (.arg 6) .box, pI (.tmp 5 0) .box, pI (.tmp 7 0) .box]) (hJ9 _ rfl)
  ·rw [if_neg c11] at h
   have e16 : decide (a3_0 = 4) = false := decide_eq_false c11
   simp +decide only [reduceAdd, reduceMul, reduceToNat, ak, e16]
   obtain ⟨t17, h18, h⟩ := of_bind h
   refine cm [] (impl_mark.tri false _ h18) (fun hl18 => ?_)
   refine cs (mN ..) ?_ (s4 := [(.arg 0, ⟨.fz, 1, cs0⟩), (.arg 1, ⟨.box, 0, [.sc (.string a2_0), .sc (fnv a2_1)]⟩), (.arg 2, ⟨.box, 0, [.sc (.int .i64 a3_0), .sc (.int .i64 a3_1), .ref (.arg 3) [] o3 l3_2.length, .ref (.arg 4) [] o4 l3_3.length, .ref (.arg 5) [] o5 l3_4.length, .sc (.int .i64 a3_5), .sc (.int .u64 a3_6), .sc (.int .u64 a3_7), .sc (.int .u64 a3_8), .sc (.int .i64 a3_9), .sc (.int .i64 a3_10), .sc (.int .i64 a3_11)]⟩), (.arg 3, ⟨.fz, 1, cs3⟩), (.arg 4, ⟨.fz, 3, cs4⟩), (.arg 5, ⟨.fz, 5, cs5⟩), (.arg 6, ⟨.box, 0, [.sc (.int .i64 a4_0)]⟩), (.tmp 5 0, ⟨.box, 0, [.sc (.int .i64 a0_0), .sc (.int .i64 a0_1), .sc (.int .u64 a0_2), .sc (.int .i64 a0_3), .own 1 t3.1.length (encL c_i64 t3.1), .sc (.int .i64 t3.2), .sc (.int .i64 a0_6)]⟩), (.tmp 7 0, ⟨.box, 0, [.sc (.int .i64 0), .sc (.int .i64 0), .sc (.int .u64 0), .sc (.int .i64 0), .own 1 (([] : List Int).length) (encL c_i64 ([] : List Int)), .sc (.int .i64 0), .sc (.int .i64 0)]⟩)])
   simp +decide only [reduceAdd, reduceMul, reduceToNat, ak]
   obtain rfl := Option.some.inj h
   refine G10n _ _ (wj [5, 7] [pI (.arg 0) .fz, pI (.arg 1) .box, pI (.arg 2) .box, pI (.arg 3) .fz, pI (.arg 4) .fz, pI (.arg 5) .fz, pI (.arg 6) .box, pI (.tmp 5 0) .box, pI (.tmp 7 0) .box]) (hJ9 _ rfl)
 ·replace h := hn; clear hn h8
  rintro _ rfl
  refine sd_k fun J20 hJ20 => ?_
  simp +decide only [reduceAdd, reduceMul, reduceToNat, ak]
  refine alt_e ?_
  ·simp +decide only [reduceAdd, reduceMul, reduceToNat, ak]
   refine hJ20 _ ?_
   obtain rfl := Option.some.inj h
   refine hKr _ ⟨_, rfl, [⟨(.tmp 5 0), [4], none, .lst⟩], _, rfl, rfl, ?_⟩
   exact cl
/-! ### impl.PlanSend: function 48 -/
def C48_l0 : AC := .sr [.o (.bin 44 .lss (.t 43) (.t 42)), .keep [1, 2, 5, 6, 8, 41, 42, 43, 44]] (.seq (.cond (.t 44) (.skip) (.gh (.exit 0))) (.seq (.block 1 (.sr [.m 45 43, .ia 46 5 41 43, .o (.load 47 true 5 (.t 46)), .o (.alloc 10 [.int .u64 0, .int .i64 0, .int .i64 0, .int .i64 0, .int .i64 0]), .m 9 45, .st 5 10 47, .keep [1, 2, 5, 6, 8, 9, 10, 41, 42, 43]] (.sr [.fa 48 4 10, .ld 49 1 48, .o (.bin 50 .eql (.t 49) (.k 1)), .keep [1, 2, 5, 6, 8, 9, 10, 41, 42, 43, 50]] (.cond (.t 50) (.sr [.m 52 8, .m 53 9, .fa 54 0 10, .ld 55 1 54, .fa 56 1 10, .ld 57 1 56, .o (.build 58 [.int .i64 0, .int .i64 0, .int .u64 0, .int .i64 0, .slice none 0 0, .int .i64 0, .int .i64 0] [(0, 1, .const (.int .i64 1)), (1, 1, .tmp 53), (2, 1, .tmp 55), (3, 1, .tmp 57)]), .gh, .fa 59 3 10, .ld 60 1 59, .callv none (some 61) (.value (.t 52)) [.tmp 58, .tmp 60], .m 51 61, .o (.extr 62 (.t 51) 0), .o (.extr 63 (.t 51) 1), .o (.alloc 11 [.int .i64 0, .int .i64 0, .int .u64 0, .int .i64 0, .slice none 0 0, .int .i64 0, .int .i64 0]), .gh, .st 7 11 62, .m 12 63, .keep [1, 2, 5, 6, 8, 11, 12, 41, 42, 43]] (.sr [.m 64 12, .keep [1, 2, 5, 6, 8, 11, 41, 42, 43, 64]] (.cond (.t 64) (.sr [.o (.load 65 true 7 (.t 11)), .st 7 2 65, .o (.mv 3 (.k 0)), .keep [2, 3]] (.gh .ret)) (.skip)))) (.skip))))) (.reg [.o (.bin 66 .add (.t 43) (.k 1)), .m 43 66, .keep [1, 2, 5, 6, 8, 41, 42, 43]])))
def C48 : AC := .sr [.o (.box 1 (.t 0)), .o (.alloc 2 [.int .i64 0, .int .i64 0, .int .u64 0, .int .i64 0, .slice none 0 0, .int .i64 0, .int .i64 0]), .gh, .o (.mv 3 (.k 0)), .keep [1, 2]] (.seq (.sr [.o (.load 19 true 12 (.t 1)), .call none (some 20) 89 [.tmp 19], .m 4 20, .keep [1, 2, 4]] (.sr [.m 21 4, .o (.bin 22 .neq (.t 21) (.k 0)), .keep [1, 2, 4, 22]] (.cond (.t 22) (.sr [.o (.build 23 [.int .i64 0, .int .i64 0, .int .u64 0, .int .i64 0, .slice none 0 0, .int .i64 0, .int .i64 0] []), .gh, .m 24 4, .st 7 2 23, .m 3 24, .keep [2, 3]] (.ret)) (.skip)))) (.sr [.o (.alloc 5 [.int .i64 0]), .o (.store 1 (.t 5) (.k 0)), .keep [1, 2, 5]] (.seq (.ga (.sr [.fa 25 2 1, .ld 26 1 25, .ln 27 26, .o (.bin 28 .gtr (.t 27) (.k 0)), .keep [1, 2, 5, 28]] (.cond (.t 28) (.reg [.fa 29 2 1, .ld 30 1 29, .o (.iaddr 31 1 (.t 30) (.k 0)), .ld 32 1 31, .st 1 5 32, .keep [1, 2, 5]]) (.skip)))) (.sr [.fa 34 0 1, .ld 35 1 34, .call none (some 36) 81 [.tmp 35], .m 33 36, .o (.extr 37 (.t 33) 0), .o (.extr 38 (.t 33) 1), .o (.alloc 6 [.string .empty, .nilFunc]), .st 2 6 37, .m 7 38, .keep [1, 2, 5, 6]] (.sr [.o (.clo 39 90 [.tmp 6, .tmp 1, .tmp 5]), .m 8 39, .keep [1, 2, 5, 6, 8]] (.seq (.sr [.fa 40 4 1, .ld 41 1 40, .ln 42 41, .o (.mv 43 (.k 0)), .keep [1, 2, 5, 6, 8, 41, 42, 43]] (.block 0 (.gh (.loop (.ga C48_l0))))) (.sr [.fa 67 4 1, .ld 68 1 67, .ln 69 68, .fa 70 5 1, .ld 71 1 70, .o (.bin 72 .lss (.t 69) (.t 71)), .m 13 72, .keep [1, 2, 5, 6, 8, 13]] (.seq (.seq (.ga (.reg [.fa 73 6 1, .ld 74 1 73, .fa 75 7 1, .ld 76 1 75, .o (.bin 77 .lss (.t 74) (.t 76)), .m 78 77, .op (some (78, true)) (.faddr 79 6 (.t 1)), .op (some (78, true)) (.load 80 false 1 (.t 79)), .op (some (78, true)) (.faddr 81 8 (.t 1)), .op (some (78, true)) (.load 82 false 1 (.t 81)), .op (some (78, true)) (.bin 83 .lss (.t 80) (.t 82)), .o (.pick 84 (.t 78) (.t 83) (.const (.bool false))), .m 85 84, .op (some (85, true)) (.mv 86 (.t 13)), .o (.pick 87 (.t 85) (.t 86) (.const (.bool false))), .keep [1, 2, 5, 6, 8, 13, 87]])) (.cond (.t 87) (.sr [.fa 88 11 1, .ld 89 1 88, .o (.conv 90 .u64 (.t 89)), .fa 91 7 1, .ld 92 1 91, .fa 93 6 1, .ld 94 1 93, .o (.bin 95 .sub (.t 92) (.t 94)), .fa 96 8 1, .ld 97 1 96, .fa 98 6 1, .ld 99 1 98, .o (.bin 100 .sub (.t 97) (.t 99)), .o (.mm 101 false [.tmp 90, .tmp 95, .tmp 100]), .m 14 101, .keep [1, 2, 5, 6, 8, 13, 14]] (.sr [.m 103 8, .fa 104 6 1, .ld 105 1 104, .m 106 14, .o (.conv 107 .i64 (.t 106)), .o (.build 108 [.int .i64 0, .int .i64 0, .int .u64 0, .int .i64 0, .slice none 0 0, .int .i64 0, .int .i64 0] [(0, 1, .const (.int .i64 2)), (2, 1, .tmp 105), (3, 1, .tmp 107)]), .gh, .callv none (some 109) (.value (.t 103)) [.tmp 108, .const (.int .i64 0)], .m 102 109, .o (.extr 110 (.t 102) 0), .o (.extr 111 (.t 102) 1), .o (.alloc 15 [.int .i64 0, .int .i64 0, .int .u64 0, .int .i64 0, .slice none 0 0, .int .i64 0, .int .i64 0]), .gh, .st 7 15 110, .m 16 111, .keep [1, 2, 5, 6, 8, 13, 15, 16]] (.sr [.m 112 16, .keep [1, 2, 5, 6, 8, 13, 15, 112]] (.cond (.t 112) (.sr [.o (.load 113 true 7 (.t 15)), .st 7 2 113, .o (.mv 3 (.k 0)), .keep [2, 3]] (.ret)) (.skip))))) (.skip))) (.seq (.seq (.ga (.reg [.fa 114 9 1, .ld 115 1 114, .o (.bin 116 .eql (.t 115) (.k 1)), .m 117 116, .op (some (117, true)) (.faddr 118 10 (.t 1)), .op (some (117, true)) (.load 119 false 1 (.t 118)), .op (some (117, true)) (.bin 120 .eql (.t 119) (.k 0)), .o (.pick 121 (.t 117) (.t 120) (.const (.bool false))), .m 122 121, .op (some (122, true)) (.faddr 123 6 (.t 1)), .op (some (122, true)) (.load 124 false 1 (.t 123)), .op (some (122, true)) (.faddr 125 7 (.t 1)), .op (some (122, true)) (.load 126 false 1 (.t 125)), .op (some (122, true)) (.bin 127 .eql (.t 124) (.t 126)), .o (.pick 128 (.t 122) (.t 127) (.const (.bool false))), .m 129 128, .op (some (129, true)) (.mv 130 (.t 13)), .o (.pick 131 (.t 129) (.t 130) (.const (.bool false))), .keep [1, 2, 5, 6, 8, 131]])) (.cond (.t 131) (.sr [.m 133 8, .fa 134 7 1, .ld 135 1 134, .o (.build 136 [.int .i64 0, .int .i64 0, .int .u64 0, .int .i64 0, .slice none 0 0, .int .i64 0, .int .i64 0] [(0, 1, .const (.int .i64 3)), (2, 1, .tmp 135)]), .gh, .callv none (some 137) (.value (.t 133)) [.tmp 136, .const (.int .i64 0)], .m 132 137, .o (.extr 138 (.t 132) 0), .o (.extr 139 (.t 132) 1), .o (.alloc 17 [.int .i64 0, .int .i64 0, .int .u64 0, .int .i64 0, .slice none 0 0, .int .i64 0, .int .i64 0]), .gh, .st 7 17 138, .m 18 139, .keep [1, 2, 17, 18]] (.sr [.m 140 18, .keep [1, 2, 17, 140]] (.cond (.t 140) (.sr [.o (.load 141 true 7 (.t 17)), .st 7 2 141, .o (.mv 3 (.k 0)), .keep [2, 3]] (.ret)) (.skip)))) (.skip))) (.sr [.fa 142 1 1, .ld 143 1 142, .o (.build 144 [.int .i64 0, .int .i64 0, .int .u64 0, .int .i64 0, .slice none 0 0, .int .i64 0, .int .i64 0] [(5, 1, .tmp 143)]), .gh, .st 7 2 144, .o (.mv 3 (.k 0)), .keep [2, 3]] (.ret)))))))))))
def r48 : List RV := [.cell 2 true 7, .tmp 3]
theorem k48 : compC Try.prog 145 C48 (Try.f48.body.getD .skip) = some C48.erase := by kernel_rfl
theorem q48 : rvsOf Try.prog Try.f48.results.toList = some r48 := by kernel_rfl
def impl_PlanSend.l0 (l0_2 : List Int) (l0_3 : List S86) (l0_4 : List S84) (x0_0 : Int) (x0_2 : Int) (x0_3 : Int) (x0_4 : Int) (x0_5 : Int) (x0_6 : Int) (x0_7 : Int) (x0_8 : Int) (x0_9 : Int) (x0_10 : Int) (x0_11 : Int) (x0_12 : Int) (x0_13 : Int) (x0_14 : Int) (x0_15 : (List Int)) (x0_16 : Int) (x0_17 : Int) (x0_18 : Int) (x0_19 : ByteArray) (x0_20 : Int) (x0_1 : Int) : Option (Lp Unit (Int × Int × Int × Int × Int × Int × Int × Int × Int × Int × (List Int) × Int × Int)) := (if x0_1 < x0_0 then (if 0 ≤ x0_1 ∧ x0_1 < (l0_4.length : Int) then (if (rd z84 l0_4 x0_1).f4 = 1 then (impl_PlanSend_1.f 1 x0_1 ((rd z84 l0_4 x0_1).f0) ((rd z84 l0_4 x0_1).f1) ([] : List Int) 0 0 ((rd z84 l0_4 x0_1).f3) x0_19 x0_20 x0_2 x0_3 l0_2 l0_3 l0_4 x0_4 x0_5 x0_6 x0_7 x0_8 x0_9 x0_10 x0_18 >>= fun t39 => (if t39.2.2.2.2.2.2.2 = true then (some (.b (t39.1, t39.2.1, t39.2.2.1, t39.2.2.2.1, t39.2.2.2.2.2.1, t39.2.2.2.2.2.2.1, t39.1, t39.2.1, t39.2.2.1, t39.2.2.2.1, t39.2.2.2.2.1, t39.2.2.2.2.2.1, t39.2.2.2.2.2.2.1))) else (impl_PlanSend.l0 l0_2 l0_3 l0_4 x0_0 x0_2 x0_3 x0_4 x0_5 x0_6 x0_7 x0_8 x0_9 x0_10 x0_11 x0_12 x0_13 x0_14 x0_15 x0_16 x0_17 x0_18 x0_19 x0_20 (IntKind.i64.wrap (x0_1 + 1))))) else (impl_PlanSend.l0 l0_2 l0_3 l0_4 x0_0 x0_2 x0_3 x0_4 x0_5 x0_6 x0_7 x0_8 x0_9 x0_10 x0_11 x0_12 x0_13 x0_14 x0_15 x0_16 x0_17 x0_18 x0_19 x0_20 (IntKind.i64.wrap (x0_1 + 1)))) else none) else (some (.a ())))
 partial_fixpoint
def impl_PlanSend.f (a0_0 : Int) (a0_1 : Int) (l0_2 : List Int) (l0_3 : List S86) (l0_4 : List S84) (a0_5 : Int) (a0_6 : Int) (a0_7 : Int) (a0_8 : Int) (a0_9 : Int) (a0_10 : Int) (a0_11 : Int) : Option (Int × Int × Int × Int × (List Int) × Int × Int × Int) := (impl_checkPlan.f a0_0 a0_1 l0_2 l0_3 l0_4 a0_5 a0_6 a0_7 a0_8 a0_9 a0_10 a0_11 >>= fun t4 => (if t4 ≠ 0 then (some (0, 0, 0, 0, ([] : List Int), 0, 0, t4)) else ((if (l0_2.length : Int) > 0 then (if (0 : Int) ≤ 0 ∧ 0 < (l0_2.length : Int) then (some (rd 0 l0_2 0)) else none) else (some 0)) >>= fun (j12 : Int) => (impl_policyOf.f a0_0 >>= fun t21 => (impl_PlanSend.l0 l0_2 l0_3 l0_4 (l0_4.length : Int) a0_0 a0_1 a0_5 a0_6 a0_7 a0_8 a0_9 a0_10 a0_11 0 0 0 0 ([] : List Int) 0 0 j12 t21.1 t21.2.1 0 >>= fun (y46 : Lp Unit (Int × Int × Int × Int × Int × Int × Int × Int × Int × Int × (List Int) × Int × Int)) => match y46 with | .a x48 => ((if a0_6 < a0_7 then (if a0_6 < a0_8 then (some (decide ((l0_4.length : Int) < a0_5))) else (some false)) else (some false)) >>= fun (j51 : Bool) => (if j51 = true then (impl_PlanSend_1.f 2 0 a0_6 (IntKind.i64.wrap (if (IntKind.u64.wrap (a0_8 - a0_6)) < (if (IntKind.u64.wrap (a0_7 - a0_6)) < (IntKind.u64.wrap a0_11) then IntKind.u64.wrap (a0_7 - a0_6) else IntKind.u64.wrap a0_11) then IntKind.u64.wrap (a0_8 - a0_6) else (if (IntKind.u64.wrap (a0_7 - a0_6)) < (IntKind.u64.wrap a0_11) then IntKind.u64.wrap (a0_7 - a0_6) else IntKind.u64.wrap a0_11))) ([] : List Int) 0 0 0 t21.1 t21.2.1 a0_0 a0_1 l0_2 l0_3 l0_4 a0_5 a0_6 a0_7 a0_8 a0_9 a0_10 a0_11 j12 >>= fun t64 => (if t64.2.2.2.2.2.2.2 = true then (some (t64.1, t64.2.1, t64.2.2.1, t64.2.2.2.1, t64.2.2.2.2.1, t64.2.2.2.2.2.1, t64.2.2.2.2.2.2.1, 0)) else ((if a0_9 = 1 then (if a0_10 = 0 then (if a0_6 = a0_7 then (some (decide ((l0_4.length : Int) < a0_5))) else (some false)) else (some false)) else (some false)) >>= fun (j72 : Bool) => (if j72 = true then (impl_PlanSend_1.f 3 0 a0_7 0 ([] : List Int) 0 0 0 t21.1 t21.2.1 a0_0 a0_1 l0_2 l0_3 l0_4 a0_5 a0_6 a0_7 a0_8 a0_9 a0_10 a0_11 j12 >>= fun t87 => (if t87.2.2.2.2.2.2.2 = true then (some (t87.1, t87.2.1, t87.2.2.1, t87.2.2.2.1, t87.2.2.2.2.1, t87.2.2.2.2.2.1, t87.2.2.2.2.2.2.1, 0)) else (some (0, 0, 0, 0, ([] : List Int), a0_1, 0, 0)))) else (some (0, 0, 0, 0, ([] : List Int), a0_1, 0, 0)))))) else ((if a0_9 = 1 then (if a0_10 = 0 then (if a0_6 = a0_7 then (some (decide ((l0_4.length : Int) < a0_5))) else (some false)) else (some false)) else (some false)) >>= fun (j99 : Bool) => (if j99 = true then (impl_PlanSend_1.f 3 0 a0_7 0 ([] : List Int) 0 0 0 t21.1 t21.2.1 a0_0 a0_1 l0_2 l0_3 l0_4 a0_5 a0_6 a0_7 a0_8 a0_9 a0_10 a0_11 j12 >>= fun t114 => (if t114.2.2.2.2.2.2.2 = true then (some (t114.1, t114.2.1, t114.2.2.1, t114.2.2.2.1, t114.2.2.2.2.1, t114.2.2.2.2.2.1, t114.2.2.2.2.2.2.1, 0)) else (some (0, 0, 0, 0, ([] : List Int), a0_1, 0, 0)))) else (some (0, 0, 0, 0, ([] : List Int), a0_1, 0, 0)))))) | .b x48 => (some (x48.1, x48.2.1, x48.2.2.1, x48.2.2.2.1, x48.2.2.2.2.2.2.2.2.2.2.1, x48.2.2.2.2.1, x48.2.2.2.2.2.1, 0)))))))
def impl_PlanSend.l0_M (cs0 : List Cell) (o0 : Nat) (l0_2 : List Int) (hv0 : Vw c_i64 1 cs0 o0 l0_2) (cs1 : List Cell) (o1 : Nat) (l0_3 : List S86) (hv1 : Vw c86 3 cs1 o1 l0_3) (cs2 : List Cell) (o2 : Nat) (l0_4 : List S84) (hv2 : Vw c84 5 cs2 o2 l0_4) (x0_0 : Int) (x0_2 : Int) (x0_3 : Int) (x0_4 : Int) (x0_5 : Int) (x0_6 : Int) (x0_7 : Int) (x0_8 : Int) (x0_9 : Int) (x0_10 : Int) (x0_11 : Int) (x0_12 : Int) (x0_13 : Int) (x0_14 : Int) (x0_15 : (List Int)) (x0_16 : Int) (x0_17 : Int) (x0_18 : Int) (x0_19 : ByteArray) (x0_20 : Int) (x0_1 : Int) (y : Lp Unit (Int × Int × Int × Int × Int × Int × Int × Int × Int × Int × (List Int) × Int × Int)) : Prop := ∀ (K : AE → St → Prop), (∀ x, y = .a x → K (.exit 0) ⟨[(1, .c (.ptr (.tmp 1 0) [] 0)), (2, .c (.ptr (.tmp 2 0) [] 0)), (5, .c (.ptr (.tmp 5 0) [] 0)), (6, .c (.ptr (.tmp 6 0) [] 0)), (8, .c (.fn 90 [.ptr (.tmp 6 0) [] 0, .ptr (.tmp 1 0) [] 0, .ptr (.tmp 5 0) [] 0]))], [(.arg 0, ⟨.fz, 1, cs0⟩), (.arg 1, ⟨.fz, 3, cs1⟩), (.arg 2, ⟨.fz, 5, cs2⟩), (.tmp 1 0, ⟨.box, 0, [.sc (.int .i64 x0_2), .sc (.int .i64 x0_3), .ref (.arg 0) [] o0 l0_2.length, .ref (.arg 1) [] o1 l0_3.length, .ref (.arg 2) [] o2 l0_4.length, .sc (.int .i64 x0_4), .sc (.int .u64 x0_5), .sc (.int .u64 x0_6), .sc (.int .u64 x0_7), .sc (.int .i64 x0_8), .sc (.int .i64 x0_9), .sc (.int .i64 x0_10)]⟩), (.tmp 2 0, ⟨.box, 0, [.sc (.int .i64 x0_11), .sc (.int .i64 x0_12), .sc (.int .u64 x0_13), .sc (.int .i64 x0_14), .own 1 x0_15.length (encL c_i64 x0_15), .sc (.int .i64 x0_16), .sc (.int .i64 x0_17)]⟩), (.tmp 5 0, ⟨.box, 0, [.sc (.int .i64 x0_18)]⟩), (.tmp 6 0, ⟨.box, 0, [.sc (.string x0_19), .sc (fnv x0_20)]⟩)], [], []⟩) → (∀ x, y = .b x → K .ret ⟨[(2, .c (.ptr (.tmp 2 0) [] 0)), (3, .c (.sc (.int .i64 0)))], [(.arg 0, ⟨.fz, 1, cs0⟩), (.arg 1, ⟨.fz, 3, cs1⟩), (.arg 2, ⟨.fz, 5, cs2⟩), (.tmp 2 0, ⟨.box, 0, [.sc (.int .i64 x.1), .sc (.int .i64 x.2.1), .sc (.int .u64 x.2.2.1), .sc (.int .i64 x.2.2.2.1), .ref (.tmp 11 0) [4] 0 x.2.2.2.2.2.2.2.2.2.2.1.length, .sc (.int .i64 x.2.2.2.2.1), .sc (.int .i64 x.2.2.2.2.2.1)]⟩), (.tmp 11 0, ⟨.box, 0, [.sc (.int .i64 x.2.2.2.2.2.2.1), .sc (.int .i64 x.2.2.2.2.2.2.2.1), .sc (.int .u64 x.2.2.2.2.2.2.2.2.1), .sc (.int .i64 x.2.2.2.2.2.2.2.2.2.1), .own 1 x.2.2.2.2.2.2.2.2.2.2.1.length (encL c_i64 x.2.2.2.2.2.2.2.2.2.2.1), .sc (.int .i64 x.2.2.2.2.2.2.2.2.2.2.2.1), .sc (.int .i64 x.2.2.2.2.2.2.2.2.2.2.2.2)]⟩)], [], []⟩) → loopS Try.prog 145 (.ga C48_l0) K ⟨[(1, .c (.ptr (.tmp 1 0) [] 0)), (2, .c (.ptr (.tmp 2 0) [] 0)), (5, .c (.ptr (.tmp 5 0) [] 0)), (6, .c (.ptr (.tmp 6 0) [] 0)), (8, .c (.fn 90 [.ptr (.tmp 6 0) [] 0, .ptr (.tmp 1 0) [] 0, .ptr (.tmp 5 0) [] 0])), (41, .c (.ref (.arg 2) [] o2 l0_4.length)), (42, .c (.sc (.int .i64 x0_0))), (43, .c (.sc (.int .i64 x0_1)))], [(.arg 0, ⟨.fz, 1, cs0⟩), (.arg 1, ⟨.fz, 3, cs1⟩), (.arg 2, ⟨.fz, 5, cs2⟩), (.tmp 1 0, ⟨.box, 0, [.sc (.int .i64 x0_2), .sc (.int .i64 x0_3), .ref (.arg 0) [] o0 l0_2.length, .ref (.arg 1) [] o1 l0_3.length, .ref (.arg 2) [] o2 l0_4.length, .sc (.int .i64 x0_4), .sc (.int .u64 x0_5), .sc (.int .u64 x0_6), .sc (.int .u64 x0_7), .sc (.int .i64 x0_8), .sc (.int .i64 x0_9), .sc (.int .i64 x0_10)]⟩), (.tmp 2 0, ⟨.box, 0, [.sc (.int .i64 x0_11), .sc (.int .i64 x0_12), .sc (.int .u64 x0_13), .sc (.int .i64 x0_14), .own 1 x0_15.length (encL c_i64 x0_15), .sc (.int .i64 x0_16), .sc (.int .i64 x0_17)]⟩), (.tmp 5 0, ⟨.box, 0, [.sc (.int .i64 x0_18)]⟩), (.tmp 6 0, ⟨.box, 0, [.sc (.string x0_19), .sc (fnv x0_20)]⟩)], [], []⟩
theorem impl_PlanSend.l0_walk (cs0 : List Cell) (o0 : Nat) (l0_2 : List Int) (hv0 : Vw c_i64 1 cs0 o0 l0_2) (cs1 : List Cell) (o1 : Nat) (l0_3 : List S86) (hv1 : Vw c86 3 cs1 o1 l0_3) (cs2 : List Cell) (o2 : Nat) (l0_4 : List S84) (hv2 : Vw c84 5 cs2 o2 l0_4) (x0_0 : Int) (x0_2 : Int) (x0_3 : Int) (x0_4 : Int) (x0_5 : Int) (x0_6 : Int) (x0_7 : Int) (x0_8 : Int) (x0_9 : Int) (x0_10 : Int) (x0_11 : Int) (x0_12 : Int) (x0_13 : Int) (x0_14 : Int) (x0_15 : (List Int)) (x0_16 : Int) (x0_17 : Int) (x0_18 : Int) (x0_19 : ByteArray) (x0_20 : Int) (x0_1 : Int) (y : Lp Unit (Int × Int × Int × Int × Int × Int × Int × Int × Int × Int × (List Int) × Int × Int)) (h : impl_PlanSend.l0 l0_2 l0_3 l0_4 x0_0 x0_2 x0_3 x0_4 x0_5 x0_6 x0_7 x0_8 x0_9 x0_10 x0_11 x0_12 x0_13 x0_14 x0_15 x0_16 x0_17 x0_18 x0_19 x0_20 x0_1 = some y) : impl_PlanSend.l0_M cs0 o0 l0_2 hv0 cs1 o1 l0_3 hv1 cs2 o2 l0_4 hv2 x0_0 x0_2 x0_3 x0_4 x0_5 x0_6 x0_7 x0_8 x0_9 x0_10 x0_11 x0_12 x0_13 x0_14 x0_15 x0_16 x0_17 x0_18 x0_19 x0_20 x0_1 y := by
 refine impl_PlanSend.l0.partial_correctness l0_2 l0_3 l0_4 x0_0 x0_2 x0_3 x0_4 x0_5 x0_6 x0_7 x0_8 x0_9 x0_10 x0_11 x0_12 x0_13 x0_14 x0_15 x0_16 x0_17 x0_18 x0_19 x0_20 (motive := fun x0_1 y => impl_PlanSend.l0_M cs0 o0 l0_2 hv0 cs1 o1 l0_3 hv1 cs2 o2 l0_4 hv2 x0_0 x0_2 x0_3 x0_4 x0_5 x0_6 x0_7 x0_8 x0_9 x0_10 x0_11 x0_12 x0_13 x0_14 x0_15 x0_16 x0_17 x0_18 x0_19 x0_20 x0_1 y) ?_ x0_1 y h
 clear h
 unfold impl_PlanSend.l0_M
 intro rec ih x0_1 y h K hx0 hx1
 refine loop_unroll (ga_k fun G0 G0n G0r G0x => ?_)
 unfold C48_l0
 refine sr_k fun J28 hJ28 => ?_
 simp +decide only [reduceAdd, reduceMul, reduceToNat, ak]
 refine hJ28 _ ?_
 refine seq_k fun J29 hJ29 => ?_
 refine cond_k (b := decide (x0_1 < x0_0)) rfl (fun c30 => ?_) (fun c30 => ?_)
 ·replace c30 := of_decide_eq_true c30; rw [if_pos c30] at h
  refine hJ29 _ ?_
  refine seq_k fun J31 hJ31 => ?_
  refine block_k fun B32 B32n B32x B32r B32j => ?_
  refine sr_k fun J33 hJ33 => ?_
  obtain ⟨b34, h⟩ := of_guard h
  have g35 : (List.drop (o2 + x0_1.toNat * 5) (cs2)).take 5 = [.sc (.int .u64 ((rd z84 l0_4 x0_1).f0)), .sc (.int .i64 ((rd z84 l0_4 x0_1).f1)), .sc (.int .i64 ((rd z84 l0_4 x0_1).f2)), .sc (.int .i64 ((rd z84 l0_4 x0_1).f3)), .sc (.int .i64 ((rd z84 l0_4 x0_1).f4))] := hv2.stretch z84 b34.1 b34.2
  simp +decide only [reduceAdd, reduceMul, reduceToNat, ak, b34, g35]
  refine hJ33 _ ?_
  refine sr_k fun J36 hJ36 => ?_
  simp +decide only [reduceAdd, reduceMul, reduceToNat, ak]
  refine hJ36 _ ?_
  refine cond_k (b := decide ((rd z84 l0_4 x0_1).f4 = 1)) rfl (fun c37 => ?_) (fun c37 => ?_)
  ·replace c37 := of_decide_eq_true c37; rw [if_pos c37] at h
   refine sr_k fun J38 hJ38 => ?_
   simp +decide only [reduceAdd, reduceMul, reduceToNat, ak]
   refine gho_k (Weak.nmg' 58 4 (.tmp 58 24) 1 (encL c_i64 ([] : List Int)) rfl rfl rfl rfl) ?_
   simp +decide only [reduceAdd, reduceMul, reduceToNat, ak]
   obtain ⟨t39, h40, h⟩ := of_bind h
   refine callv_clo (f := 90) (fn := Try.f90) (caps := [.ptr (.tmp 6 0) [] 0, .ptr (.tmp 1 0) [] 0, .ptr (.tmp 5 0) [] 0]) [.tmp 6, .tmp 1, .tmp 5] rfl (by first | rfl | simp only [ak]) Try.func90 (by kernel_rfl) (by decide) ?_
   refine cm [pN (.arg 0) (.tmp 58 24) .fz, pN (.arg 1) (.tmp 6 0) .box, pN (.arg 2) (.tmp 1 0) .box, pN (.arg 3) (.arg 0) .fz, pN (.arg 4) (.arg 1) .fz, pN (.arg 5) (.arg 2) .fz, pN (.arg 6) (.tmp 5 0) .box] (impl_PlanSend_1.tri (encL c_i64 ([] : List Int)) 0 ([] : List Int) (Vw.whole c_i64_w ([] : List Int)) (cs0) o0 l0_2 hv0 (cs1) o1 l0_3 hv1 (cs2) o2 l0_4 hv2 1 x0_1 ((rd z84 l0_4 x0_1).f0) ((rd z84 l0_4 x0_1).f1) 0 0 ((rd z84 l0_4 x0_1).f3) x0_19 x0_20 x0_2 x0_3 x0_4 x0_5 x0_6 x0_7 x0_8 x0_9 x0_10 x0_18 _ h40) (fun hl40 => ?_) (h0 := by first | rfl | simp only [reduceCtorEq, Nat.reduceEqDiff, ak, akF, b34, g35, (show 0 = ([] : List Int).length by simp)]) (hav := by first | rfl | simp only [reduceCtorEq, Nat.reduceEqDiff, ak, akF, (show 0 = ([] : List Int).length by simp)])
   refine ct (.tup [(true, [.sc (.int .i64 t39.1), .sc (.int .i64 t39.2.1), .sc (.int .u64 t39.2.2.1), .sc (.int .i64 t39.2.2.2.1), .ref (.tmp 61 0) [] 0 t39.2.2.2.2.1.length, .sc (.int .i64 t39.2.2.2.2.2.1), .sc (.int .i64 t39.2.2.2.2.2.2.1)]), (false, [.sc (.bool t39.2.2.2.2.2.2.2)])]) (mF (mW [.sc (.string x0_19), .sc (fnv x0_20)] (mW [.sc (.int .i64 x0_2), .sc (.int .i64 x0_3), .ref (.arg 0) [] o0 l0_2.length, .ref (.arg 1) [] o1 l0_3.length, .ref (.arg 2) [] o2 l0_4.length, .sc (.int .i64 x0_4), .sc (.int .u64 x0_5), .sc (.int .u64 x0_6), .sc (.int .u64 x0_7), .sc (.int .i64 x0_8), .sc (.int .i64 x0_9), .sc (.int .i64 x0_10)] (mF (mF (mF (mW [.sc (.int .i64 x0_18)] (mN ..)))))))) ?_ (s4 := [(.arg 0, ⟨.fz, 1, cs0⟩), (.arg 1, ⟨.fz, 3, cs1⟩), (.arg 2, ⟨.fz, 5, cs2⟩), (.tmp 1 0, ⟨.box, 0, [.sc (.int .i64 x0_2), .sc (.int .i64 x0_3), .ref (.arg 0) [] o0 l0_2.length, .ref (.arg 1) [] o1 l0_3.length, .ref (.arg 2) [] o2 l0_4.length, .sc (.int .i64 x0_4), .sc (.int .u64 x0_5), .sc (.int .u64 x0_6), .sc (.int .u64 x0_7), .sc (.int .i64 x0_8), .sc (.int .i64 x0_9), .sc (.int .i64 x0_10)]⟩), (.tmp 2 0, ⟨.box, 0, [.sc (.int .i64 x0_11), .sc (.int .i64 x0_12), .sc (.int .u64 x0_13), .sc (.int .i64 x0_14), .own 1 x0_15.length (encL c_i64 x0_15), .sc (.int .i64 x0_16), .sc (.int .i64 x0_17)]⟩), (.tmp 5 0, ⟨.box, 0, [.sc (.int .i64 x0_18)]⟩), (.tmp 6 0, ⟨.box, 0, [.sc (.string x0_19), .sc (fnv x0_20)]⟩), (.tmp 10 0, ⟨.box, 0, [.sc (.int .u64 ((rd z84 l0_4 x0_1).f0)), .sc (.int .i64 ((rd z84 l0_4 x0_1).f1)), .sc (.int .i64 ((rd z84 l0_4 x0_1).f2)), .sc (.int .i64 ((rd z84 l0_4 x0_1).f3)), .sc (.int .i64 ((rd z84 l0_4 x0_1).f4))]⟩), (.tmp 58 24, ⟨.lst, 1, encL c_i64 ([] : List Int)⟩), (.tmp 61 0, ⟨.lst, 1, encL c_i64 t39.2.2.2.2.1⟩)])
   simp +decide only [reduceAdd, reduceMul, reduceToNat, ak]
   refine gho_k (Weak.own (.tmp 11 0) (cs' := [.sc (.int .i64 0), .sc (.int .i64 0), .sc (.int .u64 0), .sc (.int .i64 0), .own 1 (([] : List Int).length) (encL c_i64 ([] : List Int)), .sc (.int .i64 0), .sc (.int .i64 0)]) rfl ⟨.inl rfl, .inl rfl, .inl rfl, .inl rfl, .inr ⟨rfl, _, rfl⟩, .inl rfl, .inl rfl, trivial⟩) ?_
   have g42 : (encL c_i64 t39.2.2.2.2.1).length = t39.2.2.2.2.1.length * 1 := by simp [encL_length c_i64_w]
   simp +decide only [reduceAdd, reduceMul, reduceToNat, ak, g42]
   refine hJ38 _ ?_
   refine sr_k fun J43 hJ43 => ?_
   simp +decide only [reduceAdd, reduceMul, reduceToNat, ak]
   refine hJ43 _ ?_
   refine cond_k (b := t39.2.2.2.2.2.2.2) rfl (fun c44 => ?_) (fun c44 => ?_)
   ·rw [if_pos c44] at h
    refine sr_k fun J45 hJ45 => ?_
    simp +decide only [reduceAdd, reduceMul, reduceToNat, ak]
    refine hJ45 _ ?_
    obtain rfl := Option.some.inj h
    refine gh_k (wk [2, 3] [pI (.arg 0) .fz, pI (.arg 1) .fz, pI (.arg 2) .fz, pI (.tmp 2 0) .box, pI (.tmp 11 0) .box]) ?_
    refine B32r _ ?_
    refine G0r _ ?_
    exact hx1 _ rfl
   ·rw [if_neg (Bool.eq_false_iff.1 c44)] at h
    refine B32n _ ?_
    refine hJ31 _ ?_
    refine reg_k ?_
    simp +decide only [reduceAdd, reduceMul, reduceToNat, ak]
    refine G0n _ _ (wk [1, 2, 5, 6, 8, 41, 42, 43] [pI (.arg 0) .fz, pI (.arg 1) .fz, pI (.arg 2) .fz, pI (.tmp 1 0) .box, pI (.tmp 2 0) .box, pI (.tmp 5 0) .box, pI (.tmp 6 0) .box]) (ih _ _ h K hx0 hx1)
  ·replace c37 := of_decide_eq_false c37; rw [if_neg c37] at h
   refine B32n _ ?_
   refine hJ31 _ ?_
   refine reg_k ?_
   simp +decide only [reduceAdd, reduceMul, reduceToNat, ak]
   refine G0n _ _ (wk [1, 2, 5, 6, 8, 41, 42, 43] [pI (.arg 0) .fz, pI (.arg 1) .fz, pI (.arg 2) .fz, pI (.tmp 1 0) .box, pI (.tmp 2 0) .box, pI (.tmp 5 0) .box, pI (.tmp 6 0) .box]) (ih _ _ h K hx0 hx1)
 ·replace c30 := of_decide_eq_false c30; rw [if_neg c30] at h
  obtain rfl := Option.some.inj h
  refine gh_k (wk [1, 2, 5, 6, 8] [pI (.arg 0) .fz, pI (.arg 1) .fz, pI (.arg 2) .fz, pI (.tmp 1 0) .box, pI (.tmp 2 0) .box, pI (.tmp 5 0) .box, pI (.tmp 6 0) .box]) ?_
  refine G0x _ _ ?_
  exact hx0 _ rfl
theorem impl_PlanSend.tri (cs0 : List Cell) (o0 : Nat) (l0_2 : List Int) (hv0 : Vw c_i64 1 cs0 o0 l0_2) (cs1 : List Cell) (o1 : Nat) (l0_3 : List S86) (hv1 : Vw c86 3 cs1 o1 l0_3) (cs2 : List Cell) (o2 : Nat) (l0_4 : List S84) (hv2 : Vw c84 5 cs2 o2 l0_4) (a0_0 : Int) (a0_1 : Int) (a0_5 : Int) (a0_6 : Int) (a0_7 : Int) (a0_8 : Int) (a0_9 : Int) (a0_10 : Int) (a0_11 : Int) (r : Int × Int × Int × Int × (List Int) × Int × Int × Int) (h : impl_PlanSend.f a0_0 a0_1 l0_2 l0_3 l0_4 a0_5 a0_6 a0_7 a0_8 a0_9 a0_10 a0_11 = some r) : Tri Try.prog 48 [.g [.sc (.int .i64 a0_0), .sc (.int .i64 a0_1), .ref (.arg 0) [] o0 l0_2.length, .ref (.arg 1) [] o1 l0_3.length, .ref (.arg 2) [] o2 l0_4.length, .sc (.int .i64 a0_5), .sc (.int .u64 a0_6), .sc (.int .u64 a0_7), .sc (.int .u64 a0_8), .sc (.int .i64 a0_9), .sc (.int .i64 a0_10), .sc (.int .i64 a0_11)]] [(.arg 0, ⟨.fz, 1, cs0⟩), (.arg 1, ⟨.fz, 3, cs1⟩), (.arg 2, ⟨.fz, 5, cs2⟩)] (fun o => o = ⟨.tup [(true, [.sc (.int .i64 r.1), .sc (.int .i64 r.2.1), .sc (.int .u64 r.2.2.1), .sc (.int .i64 r.2.2.2.1), .ref (.res 0) [] 0 r.2.2.2.2.1.length, .sc (.int .i64 r.2.2.2.2.2.1), .sc (.int .i64 r.2.2.2.2.2.2.1)]), (false, [.sc (.int .i64 r.2.2.2.2.2.2.2)])], [(.arg 0, ⟨.fz, 1, cs0⟩), (.arg 1, ⟨.fz, 3, cs1⟩), (.arg 2, ⟨.fz, 5, cs2⟩), (.res 0, ⟨.lst, 1, encL c_i64 r.2.2.2.2.1⟩)], [], []⟩) := by
 refine tri_of_body (ac := C48) (xs := r48) Try.func48 (show Try.f48.body = some (Try.f48.body.getD .skip) from rfl) k48 q48 (Nat.le_of_ble_eq_true rfl) ?_
 refine body_of fun K hKn hKr => ?_
 unfold impl_PlanSend.f at h
 unfold C48
 simp only [initT, Nat.reduceAdd]
 refine sr_k fun J1 hJ1 => ?_
 simp +decide only [reduceAdd, reduceMul, reduceToNat, ak]
 refine gho_k (Weak.own (.tmp 2 0) (cs' := [.sc (.int .i64 0), .sc (.int .i64 0), .sc (.int .u64 0), .sc (.int .i64 0), .own 1 (([] : List Int).length) (encL c_i64 ([] : List Int)), .sc (.int .i64 0), .sc (.int .i64 0)]) rfl ⟨.inl rfl, .inl rfl, .inl rfl, .inl rfl, .inr ⟨rfl, _, rfl⟩, .inl rfl, .inl rfl, trivial⟩) ?_
 simp +decide only [reduceAdd, reduceMul, reduceToNat, ak]
 refine hJ1 _ ?_
 refine seq_k fun J2 hJ2 => ?_
 refine sr_k fun J3 hJ3 => ?_
 simp +decide only [reduceAdd, reduceMul, reduceToNat, ak]
 obtain ⟨t4, h5, h⟩ := of_bind h
 refine cm [pI (.arg 0) .fz, pI (.arg 1) .fz, pI (.arg 2) .fz] (impl_checkPlan.tri (cs0) o0 l0_2 hv0 (cs1) o1 l0_3 hv1 (cs2) o2 l0_4 hv2 a0_0 a0_1 a0_5 a0_6 a0_7 a0_8 a0_9 a0_10 a0_11 _ h5) (fun hl5 => ?_)
 refine cs (mF (mF (mF (mN ..)))) ?_ (s4 := [(.arg 0, ⟨.fz, 1, cs0⟩), (.arg 1, ⟨.fz, 3, cs1⟩), (.arg 2, ⟨.fz, 5, cs2⟩), (.tmp 1 0, ⟨.box, 0, [.sc (.int .i64 a0_0), .sc (.int .i64 a0_1), .ref (.arg 0) [] o0 l0_2.length, .ref (.arg 1) [] o1 l0_3.length, .ref (.arg 2) [] o2 l0_4.length, .sc (.int .i64 a0_5), .sc (.int .u64 a0_6), .sc (.int .u64 a0_7), .sc (.int .u64 a0_8), .sc (.int .i64 a0_9), .sc (.int .i64 a0_10), .sc (.int .i64 a0_11)]⟩), (.tmp 2 0, ⟨.box, 0, [.sc (.int .i64 0), .sc (.int .i64 0), .sc (.int .u64 0), .sc (.int .i64 0), .own 1 (([] : List Int).length) (encL c_i64 ([] : List Int)), .sc (.int .i64 0), .sc (.int .i64 0)]⟩)])
 simp +decide only [reduceAdd, reduceMul, reduceToNat, ak]
 refine hJ3 _ ?_
 refine sr_k fun J7 hJ7 => ?_
 simp +decide only [reduceAdd, reduceMul, reduceToNat, ak]
 refine hJ7 _ ?_
 refine cond_k (b := decide (t4 ≠ 0)) rfl (fun c8 => ?_) (fun c8 => ?_)
 ·replace c8 := of_decide_eq_true c8; rw [if_pos c8] at h
  refine sr_k fun J9 hJ9 => ?_
  simp +decide only [reduceAdd, reduceMul, reduceToNat, ak]
  refine gho_k (Weak.nmg' 23 4 (.tmp 23 24) 1 (encL c_i64 ([] : List Int)) rfl rfl rfl rfl) ?_
  have g10 : (encL c_i64 ([] : List Int)).length = 0 * 1 := by simp [encL_length c_i64_w]
  simp +decide only [reduceAdd, reduceMul, reduceToNat, ak, g10]
  refine hJ9 _ ?_
  obtain rfl := Option.some.inj h
  refine hKr _ ⟨_, rfl, [⟨(.tmp 2 0), [4], none, .lst⟩], _, rfl, rfl, ?_⟩
  exact cl
 ·replace c8 := of_decide_eq_false c8; rw [if_neg c8] at h
  refine hJ2 _ ?_
  refine sr_k fun J11 hJ11 => ?_
  simp +decide only [reduceAdd, reduceMul, reduceToNat, ak]
  refine hJ11 _ ?_
  obtain ⟨j12, h13, hn⟩ := of_bind h
  refine seq_j (fun st => st = ⟨[(1, .c (.ptr (.tmp 1 0) [] 0)), (2, .c (.ptr (.tmp 2 0) [] 0)), (5, .c (.ptr (.tmp 5 0) [] 0))], [(.arg 0, ⟨.fz, 1, cs0⟩), (.arg 1, ⟨.fz, 3, cs1⟩), (.arg 2, ⟨.fz, 5, cs2⟩), (.tmp 1 0, ⟨.box, 0, [.sc (.int .i64 a0_0), .sc (.int .i64 a0_1), .ref (.arg 0) [] o0 l0_2.length, .ref (.arg 1) [] o1 l0_3.length, .ref (.arg 2) [] o2 l0_4.length, .sc (.int .i64 a0_5), .sc (.int .u64 a0_6), .sc (.int .u64 a0_7), .sc (.int .u64 a0_8), .sc (.int .i64 a0_9), .sc (.int .i64 a0_10), .sc (.int .i64 a0_11)]⟩), (.tmp 2 0, ⟨.box, 0, [.sc (.int .i64 0), .sc (.int .i64 0), .sc (.int .u64 0), .sc (.int .i64 0), .own 1 (([] : List Int).length) (encL c_i64 ([] : List Int)), .sc (.int .i64 0), .sc (.int .i64 0)]⟩), (.tmp 5 0, ⟨.box, 0, [.sc (.int .i64 j12)]⟩)], [], []⟩) (fun J14 hJ14 => ?_) ?_
  ·replace h := h13; clear hn
   refine ga_k fun G15 G15n G15r G15x => ?_
   refine sr_k fun J16 hJ16 => ?_
   simp +decide only [reduceAdd, reduceMul, reduceToNat, ak]
   refine hJ16 _ ?_
   refine cond_k (b := decide ((l0_2.length : Int) > 0)) rfl (fun c17 => ?_) (fun c17 => ?_)
   ·replace c17 := of_decide_eq_true c17; rw [if_pos c17] at h
    refine reg_k ?_
    obtain ⟨b18, h⟩ := of_guard h
    have g19 : (cs0)[o0 + 0]? = some (.sc (.int .i64 (rd 0 l0_2 0))) := hv0.get 0 0 b18.1 b18.2 (by decide)
    simp +decide only [reduceAdd, reduceMul, reduceToNat, ak, b18, g19]
    obtain rfl := Option.some.inj h
    refine G15n _ _ (wk [1, 2, 5] [pI (.arg 0) .fz, pI (.arg 1) .fz, pI (.arg 2) .fz, pI (.tmp 1 0) .box, pI (.tmp 2 0) .box, pI (.tmp 5 0) .box]) (hJ14 _ rfl)
   ·replace c17 := of_decide_eq_false c17; rw [if_neg c17] at h
    obtain rfl := Option.some.inj h
    refine G15n _ _ (wk [1, 2, 5] [pI (.arg 0) .fz, pI (.arg 1) .fz, pI (.arg 2) .fz, pI (.tmp 1 0) .box, pI (.tmp 2 0) .box, pI (.tmp 5 0) .box]) (hJ14 _ rfl)
  ·replace h := hn; clear hn h13
   rintro _ rfl
   refine sr_k fun J20 hJ20 => ?_
   simp +decide only [reduceAdd, reduceMul, reduceToNat, ak]
   obtain ⟨t21, h22, h⟩ := of_bind h
   refine cm [] (impl_policyOf.tri a0_0 _ h22) (fun hl22 => ?_)
   refine ct (.tup [(true, [.sc (.string t21.1), .sc (fnv t21.2.1)]), (false, [.sc (.bool t21.2.2)])]) (mN ..) ?_ (s4 := [(.arg 0, ⟨.fz, 1, cs0⟩), (.arg 1, ⟨.fz, 3, cs1⟩), (.arg 2, ⟨.fz, 5, cs2⟩), (.tmp 1 0, ⟨.box, 0, [.sc (.int .i64 a0_0), .sc (.int .i64 a0_1), .ref (.arg 0) [] o0 l0_2.length, .ref (.arg 1) [] o1 l0_3.length, .ref (.arg 2) [] o2 l0_4.length, .sc (.int .i64 a0_5), .sc (.int .u64 a0_6), .sc (.int .u64 a0_7), .sc (.int .u64 a0_8), .sc (.int .i64 a0_9), .sc (.int .i64 a0_10), .sc (.int .i64 a0_11)]⟩), (.tmp 2 0, ⟨.box, 0, [.sc (.int .i64 0), .sc (.int .i64 0), .sc (.int .u64 0), .sc (.int .i64 0), .own 1 (([] : List Int).length) (encL c_i64 ([] : List Int)), .sc (.int .i64 0), .sc (.int .i64 0)]⟩), (.tmp 5 0, ⟨.box, 0, [.sc (.int .i64 j12)]⟩)])
   simp +decide only [reduceAdd, reduceMul, reduceToNat, ak]
   refine hJ20 _ ?_
   refine sr_k fun J24 hJ24 => ?_
   simp +decide only [reduceAdd, reduceMul, reduceToNat, ak]
   refine hJ24 _ ?_
   refine seq_k fun J25 hJ25 => ?_
   refine sr_k fun J26 hJ26 => ?_
   simp +decide only [reduceAdd, reduceMul, reduceToNat, ak]
   refine hJ26 _ ?_
   refine block_k fun B27 B27n B27x B27r B27j => ?_
   obtain ⟨y46, h47, h⟩ := of_bind h
   refine gh_k (wk [1, 2, 5, 6, 8, 41, 42, 43] [pI (.arg 0) .fz, pI (.arg 1) .fz, pI (.arg 2) .fz, pI (.tmp 1 0) .box, pI (.tmp 2 0) .box, pI (.tmp 5 0) .box, pI (.tmp 6 0) .box]) ?_
   rw [e_loop]
   refine impl_PlanSend.l0_walk cs0 o0 l0_2 hv0 cs1 o1 l0_3 hv1 cs2 o2 l0_4 hv2 (l0_4.length : Int) a0_0 a0_1 a0_5 a0_6 a0_7 a0_8 a0_9 a0_10 a0_11 0 0 0 0 ([] : List Int) 0 0 j12 t21.1 t21.2.1 0 _ h47 _ ?_ ?_
   ·rintro x48 rfl
    dsimp only at h
    refine B27x _ ?_
    refine hJ25 _ ?_
    refine sr_k fun J49 hJ49 => ?_
    simp +decide only [reduceAdd, reduceMul, reduceToNat, ak]
    refine hJ49 _ ?_
    refine seq_k fun J50 hJ50 => ?_
    obtain ⟨j51, h52, hn⟩ := of_bind h
    refine seq_j (fun st => st = ⟨[(1, .c (.ptr (.tmp 1 0) [] 0)), (2, .c (.ptr (.tmp 2 0) [] 0)), (5, .c (.ptr (.tmp 5 0) [] 0)), (6, .c (.ptr (.tmp 6 0) [] 0)), (8, .c (.fn 90 [.ptr (.tmp 6 0) [] 0, .ptr (.tmp 1 0) [] 0, .ptr (.tmp 5 0) [] 0])), (13, .c (.sc (.bool (decide ((l0_4.length : Int) < a0_5))))), (87, .c (.sc (.bool j51)))], [(.arg 0, ⟨.fz, 1, cs0⟩), (.arg 1, ⟨.fz, 3, cs1⟩), (.arg 2, ⟨.fz, 5, cs2⟩), (.tmp 1 0, ⟨.box, 0, [.sc (.int .i64 a0_0), .sc (.int .i64 a0_1), .ref (.arg 0) [] o0 l0_2.length, .ref (.arg 1) [] o1 l0_3.length, .ref (.arg 2) [] o2 l0_4.length, .sc (.int .i64 a0_5), .sc (.int .u64 a0_6), .sc (.int .u64 a0_7), .sc (.int .u64 a0_8), .sc (.int .i64 a0_9), .sc (.int .i64 a0_10), .sc (.int .i64 a0_11)]⟩), (.tmp 2 0, ⟨.box, 0, [.sc (.int .i64 0), .sc (.int .i64 0), .sc (.int .u64 0), .sc (.int .i64 0), .own 1 (([] : List Int).length) (encL c_i64 ([] : List Int)), .sc (.int .i64 0), .sc (.int .i64 0)]⟩), (.tmp 5 0, ⟨.box, 0, [.sc (.int .i64 j12)]⟩), (.tmp 6 0, ⟨.box, 0, [.sc (.string t21.1), .sc (fnv t21.2.1)]⟩)], [], []⟩) (fun J53 hJ53 => ?_) ?_
    ·replace h := h52; clear hn
     refine ga_k fun G54 G54n G54r G54x => ?_
     refine reg_k ?_
     simp +decide only [reduceAdd, reduceMul, reduceToNat, ak]
     by_cases c55 : a0_6 < a0_7
     ·rw [if_pos c55] at h
      have e56 : decide (a0_6 < a0_7) = true := decide_eq_true c55
      simp +decide only [reduceAdd, reduceMul, reduceToNat, ak, e56]
      by_cases c57 : a0_6 < a0_8
      ·rw [if_pos c57] at h
       have e58 : decide (a0_6 < a0_8) = true := decide_eq_true c57
       simp +decide only [reduceAdd, reduceMul, reduceToNat, ak, e58]
       obtain rfl := Option.some.inj h
       refine G54n _ _ (wj [1, 2, 5, 6, 8, 13, 87] [pI (.arg 0) .fz, pI (.arg 1) .fz, pI (.arg 2) .fz, pI (.tmp 1 0) .box, pI (.tmp 2 0) .box, pI (.tmp 5 0) .box, pI (.tmp 6 0) .box]) (hJ53 _ rfl)
      ·rw [if_neg c57] at h
       have e59 : decide (a0_6 < a0_8) = false := decide_eq_false c57
       simp +decide only [reduceAdd, reduceMul, reduceToNat, ak, e59]
       obtain rfl := Option.some.inj h
       refine G54n _ _ (wj [1, 2, 5, 6, 8, 13, 87] [pI (.arg 0) .fz, pI (.arg 1) .fz, pI (.arg 2) .fz, pI (.tmp 1 0) .box, pI (.tmp 2 0) .box, pI (.tmp 5 0) .box, pI (.tmp 6 0) .box]) (hJ53 _ rfl)
     ·rw [if_neg c55] at h
      have e60 : decide (a0_6 < a0_7) = false := decide_eq_false c55
      simp +decide only [reduceAdd, reduceMul, reduceToNat, ak, e60]
      obtain rfl := Option.some.inj h
      refine G54n _ _ (wj [1, 2, 5, 6, 8, 13, 87] [pI (.arg 0) .fz, pI (.arg 1) .fz, pI (.arg 2) .fz, pI (.tmp 1 0) .box, pI (.tmp 2 0) .box, pI (.tmp 5 0) .box, pI (.tmp 6 0) .box]) (hJ53 _ rfl)
    ·replace h := hn; clear hn h52
     rintro _ rfl
     refine cond_k (b := j51) rfl (fun c61 => ?_) (fun c61 => ?_)
     ·rw [if_pos c61] at h
      refine sr_k fun J62 hJ62 => ?_
      simp +decide only [reduceAdd, reduceMul, reduceToNat, ak, mmF, mm2, scv, List.foldl]
      refine hJ62 _ ?_
      refine sr_k fun J63 hJ63 => ?_
      simp +decide only [reduceAdd, reduceMul, reduceToNat, ak]
      refine gho_k (Weak.nmg' 108 4 (.tmp 108 24) 1 (encL c_i64 ([] : List Int)) rfl rfl rfl rfl) ?_
      simp +decide only [reduceAdd, reduceMul, reduceToNat, ak]
      obtain ⟨t64, h65, h⟩ := of_bind h
      refine callv_clo (f := 90) (fn := Try.f90) (caps := [.ptr (.tmp 6 0) [] 0, .ptr (.tmp 1 0) [] 0, .ptr (.tmp 5 0) [] 0]) [.tmp 6, .tmp 1, .tmp 5] rfl (by first | rfl | simp only [ak]) Try.func90 (by kernel_rfl) (by decide) ?_
      refine cm [pN (.arg 0) (.tmp 108 24) .fz, pN (.arg 1) (.tmp 6 0) .box, pN (.arg 2) (.tmp 1 0) .box, pN (.arg 3) (.arg 0) .fz, pN (.arg 4) (.arg 1) .fz, pN (.arg 5) (.arg 2) .fz, pN (.arg 6) (.tmp 5 0) .box] (impl_PlanSend_1.tri (encL c_i64 ([] : List Int)) 0 ([] : List Int) (Vw.whole c_i64_w ([] : List Int)) (cs0) o0 l0_2 hv0 (cs1) o1 l0_3 hv1 (cs2) o2 l0_4 hv2 2 0 a0_6 (IntKind.i64.wrap (if (IntKind.u64.wrap (a0_8 - a0_6)) < (if (IntKind.u64.wrap (a0_7 - a0_6)) < (IntKind.u64.wrap a0_11) then IntKind.u64.wrap (a0_7 - a0_6) else IntKind.u64.wrap a0_11) then IntKind.u64.wrap (a0_8 - a0_6) else (if (IntKind.u64.wrap (a0_7 - a0_6)) < (IntKind.u64.wrap a0_11) then IntKind.u64.wrap (a0_7 - a0_6) else IntKind.u64.wrap a0_11))) 0 0 0 t21.1 t21.2.1 a0_0 a0_1 a0_5 a0_6 a0_7 a0_8 a0_9 a0_10 a0_11 j12 _ h65) (fun hl65 => ?_) (h0 := by first | rfl | simp only [reduceCtorEq, Nat.reduceEqDiff, ak, akF, (show 0 = ([] : List Int).length by simp)]) (hav := by first | rfl | simp only [reduceCtorEq, Nat.reduceEqDiff, ak, akF, (show 0 = ([] : List Int).length by simp)])
      refine ct (.tup [(true, [.sc (.int .i64 t64.1), .sc (.int .i64 t64.2.1), .sc (.int .u64 t64.2.2.1), .sc (.int .i64 t64.2.2.2.1), .ref (.tmp 109 0) [] 0 t64.2.2.2.2.1.length, .sc (.int .i64 t64.2.2.2.2.2.1), .sc (.int .i64 t64.2.2.2.2.2.2.1)]), (false, [.sc (.bool t64.2.2.2.2.2.2.2)])]) (mF (mW [.sc (.string t21.1), .sc (fnv t21.2.1)] (mW [.sc (.int .i64 a0_0), .sc (.int .i64 a0_1), .ref (.arg 0) [] o0 l0_2.length, .ref (.arg 1) [] o1 l0_3.length, .ref (.arg 2) [] o2 l0_4.length, .sc (.int .i64 a0_5), .sc (.int .u64 a0_6), .sc (.int .u64 a0_7), .sc (.int .u64 a0_8), .sc (.int .i64 a0_9), .sc (.int .i64 a0_10), .sc (.int .i64 a0_11)] (mF (mF (mF (mW [.sc (.int .i64 j12)] (mN ..)))))))) ?_ (s4 := [(.arg 0, ⟨.fz, 1, cs0⟩), (.arg 1, ⟨.fz, 3, cs1⟩), (.arg 2, ⟨.fz, 5, cs2⟩), (.tmp 1 0, ⟨.box, 0, [.sc (.int .i64 a0_0), .sc (.int .i64 a0_1), .ref (.arg 0) [] o0 l0_2.length, .ref (.arg 1) [] o1 l0_3.length, .ref (.arg 2) [] o2 l0_4.length, .sc (.int .i64 a0_5), .sc (.int .u64 a0_6), .sc (.int .u64 a0_7), .sc (.int .u64 a0_8), .sc (.int .i64 a0_9), .sc (.int .i64 a0_10), .sc (.int .i64 a0_11)]⟩), (.tmp 2 0, ⟨.box, 0, [.sc (.int .i64 0), .sc (.int .i64 0), .sc (.int .u64 0), .sc (.int .i64 0), .own 1 (([] : List Int).length) (encL c_i64 ([] : List Int)), .sc (.int .i64 0), .sc (.int .i64 0)]⟩), (.tmp 5 0, ⟨.box, 0, [.sc (.int .i64 j12)]⟩), (.tmp 6 0, ⟨.box, 0, [.sc (.string t21.1), .sc (fnv t21.2.1)]⟩), (.tmp 108 24, ⟨.lst, 1, encL c_i64 ([] : List Int)⟩), (.tmp 109 0, ⟨.lst, 1, encL c_i64 t64.2.2.2.2.1⟩)])
      simp +decide only [reduceAdd, reduceMul, reduceToNat, ak]
      refine gho_k (Weak.own (.tmp 15 0) (cs' := [.sc (.int .i64 0), .sc (.int .i64 0), .sc (.int .u64 0), .sc (.int .i64 0), .own 1 (([] : List Int).length) (encL c_i64 ([] : List Int)), .sc (.int .i64 0), .sc (.int .i64 0)]) rfl ⟨.inl rfl, .inl rfl, .inl rfl, .inl rfl, .inr ⟨rfl, _, rfl⟩, .inl rfl, .inl rfl, trivial⟩) ?_
      have g67 : (encL c_i64 t64.2.2.2.2.1).length = t64.2.2.2.2.1.length * 1 := by simp [encL_length c_i64_w]
      simp +decide only [reduceAdd, reduceMul, reduceToNat, ak, g67]
      refine hJ63 _ ?_
      refine sr_k fun J68 hJ68 => ?_
      simp +decide only [reduceAdd, reduceMul, reduceToNat, ak]
      refine hJ68 _ ?_
      refine cond_k (b := t64.2.2.2.2.2.2.2) rfl (fun c69 => ?_) (fun c69 => ?_)
      ·rw [if_pos c69] at h
       refine sr_k fun J70 hJ70 => ?_
       simp +decide only [reduceAdd, reduceMul, reduceToNat, ak]
       refine hJ70 _ ?_
       obtain rfl := Option.some.inj h
       refine hKr _ ⟨_, rfl, [⟨(.tmp 15 0), [4], none, .lst⟩], _, rfl, rfl, ?_⟩
       exact cl
      ·rw [if_neg (Bool.eq_false_iff.1 c69)] at h
       refine hJ50 _ ?_
       refine seq_k fun J71 hJ71 => ?_
       obtain ⟨j72, h73, hn⟩ := of_bind h
       refine seq_j (fun st => st = ⟨[(1, .c (.ptr (.tmp 1 0) [] 0)), (2, .c (.ptr (.tmp 2 0) [] 0)), (5, .c (.ptr (.tmp 5 0) [] 0)), (6, .c (.ptr (.tmp 6 0) [] 0)), (8, .c (.fn 90 [.ptr (.tmp 6 0) [] 0, .ptr (.tmp 1 0) [] 0, .ptr (.tmp 5 0) [] 0])), (131, .c (.sc (.bool j72)))], [(.arg 0, ⟨.fz, 1, cs0⟩), (.arg 1, ⟨.fz, 3, cs1⟩), (.arg 2, ⟨.fz, 5, cs2⟩), (.tmp 1 0, ⟨.box, 0, [.sc (.int .i64 a0_0), .sc (.int .i64 a0_1), .ref (.arg 0) [] o0 l0_2.length, .ref (.arg 1) [] o1 l0_3.length, .ref (.arg 2) [] o2 l0_4.length, .sc (.int .i64 a0_5), .sc (.int .u64 a0_6), .sc (.int .u64 a0_7), .sc (.int .u64 a0_8), .sc (.int .i64 a0_9), .sc (.int .i64 a0_10), .sc (.int .i64 a0_11)]⟩), (.tmp 2 0, ⟨.box, 0, [.sc (.int .i64 0), .sc (.int .i64 0), .sc (.int .u64 0), .sc (.int .i64 0), .own 1 (([] : List Int).length) (encL c_i64 ([] : List Int)), .sc (.int .i64 0), .sc (.int .i64 0)]⟩), (.tmp 5 0, ⟨.box, 0, [.sc (.int .i64 j12)]⟩), (.tmp 6 0, ⟨.box, 0, [.sc (.string t21.1), .sc (fnv t21.2.1)]⟩)], [], []⟩) (fun J74 hJ74 => ?_) ?_
       ·replace h := h73; clear hn
        refine ga_k fun G75 G75n G75r G75x => ?_
        refine reg_k ?_
        simp +decide only [reduceAdd, reduceMul, reduceToNat, ak]
        by_cases c76 : a0_9 = 1
        ·rw [if_pos c76] at h
         have e77 : decide (a0_9 = 1) = true := decide_eq_true c76
         simp +decide only [reduceAdd, reduceMul, reduceToNat, ak, e77]
         by_cases c78 : a0_10 = 0
         ·rw [if_pos c78] at h
          have e79 : decide (a0_10 = 0) = true := decide_eq_true c78
          simp +decide only [reduceAdd, reduceMul, reduceToNat, ak, e79]
          by_cases c80 : a0_6 = a0_7
          ·rw [if_pos c80] at h
           have e81 : decide (a0_6 = a0_7) = true := decide_eq_true c80
           simp +decide only [reduceAdd, reduceMul, reduceToNat, ak, e81]
           obtain rfl := Option.some.inj h
           refine G75n _ _ (wj [1, 2, 5, 6, 8, 131] [pI (.arg 0) .fz, pI (.arg 1) .fz, pI (.arg 2) .fz, pI (.tmp 1 0) .box, pI (.tmp 2 0) .box, pI (.tmp 5 0) .box, pI (.tmp 6 0) .box]) (hJ74 _ rfl)
          ·rw [if_neg c80] at h
           have e82 : decide (a0_6 = a0_7) = false := decide_eq_false c80
           simp +decide only [reduceAdd, reduceMul, reduceToNat, ak, e82]
           obtain rfl := Option.some.inj h
           refine G75n _ _ (wj [1, 2, 5, 6, 8, 131] [pI (.arg 0) .fz, pI (.arg 1) .fz, pI (.arg 2) .fz, pI (.tmp 1 0) .box, pI (.tmp 2 0) .box, pI (.tmp 5 0) .box, pI (.tmp 6 0) .box]) (hJ74 _ rfl)
         ·rw [if_neg c78] at h
          have e83 : decide (a0_10 = 0) = false := decide_eq_false c78
          simp +decide only [reduceAdd, reduceMul, reduceToNat, ak, e83]
          obtain rfl := Option.some.inj h
          refine G75n _ _ (wj [1, 2, 5, 6, 8, 131] [pI (.arg 0) .fz, pI (.arg 1) .fz, pI (.arg 2) .fz, pI (.tmp 1 0) .box, pI (.tmp 2 0) .box, pI (.tmp 5 0) .box, pI (.tmp 6 0) .box]) (hJ74 _ rfl)
        ·rw [if_neg c76] at h
         have e84 : decide (a0_9 = 1) = false := decide_eq_false c76
         simp +decide only [reduceAdd, reduceMul, reduceToNat, ak, e84]
         obtain rfl := Option.some.inj h
         refine G75n _ _ (wj [1, 2, 5, 6, 8, 131] [pI (.arg 0) .fz, pI (.arg 1) .fz, pI (.arg 2) .fz, pI (.tmp 1 0) .box, pI (.tmp 2 0) .box, pI (.tmp 5 0) .box, pI (.tmp 6 0) .box]) (hJ74 _ rfl)
       ·replace h := hn; clear hn h73
        rintro _ rfl
        refine cond_k (b := j72) rfl (fun c85 => ?_) (fun c85 => ?_)
        ·rw [if_pos c85] at h
         refine sr_k fun J86 hJ86 => ?_
         simp +decide only [reduceAdd, reduceMul, reduceToNat, ak]
         refine gho_k (Weak.nmg' 136 4 (.tmp 136 24) 1 (encL c_i64 ([] : List Int)) rfl rfl rfl rfl) ?_
         simp +decide only [reduceAdd, reduceMul, reduceToNat, ak]
         obtain ⟨t87, h88, h⟩ := of_bind h
         refine callv_clo (f := 90) (fn := Try.f90) (caps := [.ptr (.tmp 6 0) [] 0, .ptr (.tmp 1 0) [] 0, .ptr (.tmp 5 0) [] 0]) [.tmp 6, .tmp 1, .tmp 5] rfl (by first | rfl | simp only [ak]) Try.func90 (by kernel_rfl) (by decide) ?_
         refine cm [pN (.arg 0) (.tmp 136 24) .fz, pN (.arg 1) (.tmp 6 0) .box, pN (.arg 2) (.tmp 1 0) .box, pN (.arg 3) (.arg 0) .fz, pN (.arg 4) (.arg 1) .fz, pN (.arg 5) (.arg 2) .fz, pN (.arg 6) (.tmp 5 0) .box] (impl_PlanSend_1.tri (encL c_i64 ([] : List Int)) 0 ([] : List Int) (Vw.whole c_i64_w ([] : List Int)) (cs0) o0 l0_2 hv0 (cs1) o1 l0_3 hv1 (cs2) o2 l0_4 hv2 3 0 a0_7 0 0 0 0 t21.1 t21.2.1 a0_0 a0_1 a0_5 a0_6 a0_7 a0_8 a0_9 a0_10 a0_11 j12 _ h88) (fun hl88 => ?_) (h0 := by first | rfl | simp only [reduceCtorEq, Nat.reduceEqDiff, ak, akF, g67, (show 0 = ([] : List Int).length by simp)]) (hav := by first | rfl | simp only [reduceCtorEq, Nat.reduceEqDiff, ak, akF, (show 0 = ([] : List Int).length by simp)])
         refine ct (.tup [(true, [.sc (.int .i64 t87.1), .sc (.int .i64 t87.2.1), .sc (.int .u64 t87.2.2.1), .sc (.int .i64 t87.2.2.2.1), .ref (.tmp 137 0) [] 0 t87.2.2.2.2.1.length, .sc (.int .i64 t87.2.2.2.2.2.1), .sc (.int .i64 t87.2.2.2.2.2.2.1)]), (false, [.sc (.bool t87.2.2.2.2.2.2.2)])]) (mF (mW [.sc (.string t21.1), .sc (fnv t21.2.1)] (mW [.sc (.int .i64 a0_0), .sc (.int .i64 a0_1), .ref (.arg 0) [] o0 l0_2.length, .ref (.arg 1) [] o1 l0_3.length, .ref (.arg 2) [] o2 l0_4.length, .sc (.int .i64 a0_5), .sc (.int .u64 a0_6), .sc (.int .u64 a0_7), .sc (.int .u64 a0_8), .sc (.int .i64 a0_9), .sc (.int .i64 a0_10), .sc (.int .i64 a0_11)] (mF (mF (mF (mW [.sc (.int .i64 j12)] (mN ..)))))))) ?_ (s4 := [(.arg 0, ⟨.fz, 1, cs0⟩), (.arg 1, ⟨.fz, 3, cs1⟩), (.arg 2, ⟨.fz, 5, cs2⟩), (.tmp 1 0, ⟨.box, 0, [.sc (.int .i64 a0_0), .sc (.int .i64 a0_1), .ref (.arg 0) [] o0 l0_2.length, .ref (.arg 1) [] o1 l0_3.length, .ref (.arg 2) [] o2 l0_4.length, .sc (.int .i64 a0_5), .sc (.int .u64 a0_6), .sc (.int .u64 a0_7), .sc (.int .u64 a0_8), .sc (.int .i64 a0_9), .sc (.int .i64 a0_10), .sc (.int .i64 a0_11)]⟩), (.tmp 2 0, ⟨.box, 0, [.sc (.int .i64 0), .sc (.int .i64 0), .sc (.int .u64 0), .sc (.int .i64 0), .own 1 (([] : List Int).length) (encL c_i64 ([] : List Int)), .sc (.int .i64 0), .sc (.int .i64 0)]⟩), (.tmp 5 0, ⟨.box, 0, [.sc (.int .i64 j12)]⟩), (.tmp 6 0, ⟨.box, 0, [.sc (.string t21.1), .sc (fnv t21.2.1)]⟩), (.tmp 136 24, ⟨.lst, 1, encL c_i64 ([] : List Int)⟩), (.tmp 137 0, ⟨.lst, 1, encL c_i64 t87.2.2.2.2.1⟩)])
         simp +decide only [reduceAdd, reduceMul, reduceToNat, ak]
         refine gho_k (Weak.own (.tmp 17 0) (cs' := [.sc (.int .i64 0), .sc (.int .i64 0), .sc (.int .u64 0), .sc (.int .i64 0), .own 1 (([] : List Int).length) (encL c_i64 ([] : List Int)), .sc (.int .i64 0), .sc (.int .i64 0)]) rfl ⟨.inl rfl, .inl rfl, .inl rfl, .inl rfl, .inr ⟨rfl, _, rfl⟩, .inl rfl, .inl rfl, trivial⟩) ?_
         have g90 : (encL c_i64 t87.2.2.2.2.1).length = t87.2.2.2.2.1.length * 1 := by simp [encL_length c_i64_w]
         simp +decide only [reduceAdd, reduceMul, reduceToNat, ak, g90]
         refine hJ86 _ ?_
         refine sr_k fun J91 hJ91 => ?_
         simp +decide only [reduceAdd, reduceMul, reduceToNat, ak]
         refine hJ91 _ ?_
         refine cond_k (b := t87.2.2.2.2.2.2.2) rfl (fun c92 => ?_) (fun c92 => ?_)
         ·rw [if_pos c92] at h
          refine sr_k fun J93 hJ93 => ?_
          simp +decide only [reduceAdd, reduceMul, reduceToNat, ak]
          refine hJ93 _ ?_
          obtain rfl := Option.some.inj h
          refine hKr _ ⟨_, rfl, [⟨(.tmp 17 0), [4], none, .lst⟩], _, rfl, rfl, ?_⟩
          exact cl
         ·rw [if_neg (Bool.eq_false_iff.1 c92)] at h
          refine hJ71 _ ?_
          refine sr_k fun J94 hJ94 => ?_
          simp +decide only [reduceAdd, reduceMul, reduceToNat, ak]
          refine gho_k (Weak.nmg' 144 4 (.tmp 144 24) 1 (encL c_i64 ([] : List Int)) rfl rfl rfl rfl) ?_
          have g95 : (encL c_i64 ([] : List Int)).length = 0 * 1 := by simp [encL_length c_i64_w]
          simp +decide only [reduceAdd, reduceMul, reduceToNat, ak, g95]
          refine hJ94 _ ?_
          obtain rfl := Option.some.inj h
          refine hKr _ ⟨_, rfl, [⟨(.tmp 2 0), [4], none, .lst⟩], _, rfl, rfl, ?_⟩
          exact cl
        ·rw [if_neg (Bool.eq_false_iff.1 c85)] at h
         refine hJ71 _ ?_
         refine sr_k fun J96 hJ96 => ?_
         simp +decide only [reduceAdd, reduceMul, reduceToNat, ak]
         refine gho_k (Weak.nmg' 144 4 (.tmp 144 24) 1 (encL c_i64 ([] : List Int)) rfl rfl rfl rfl) ?_
         have g97 : (encL c_i64 ([] : List Int)).length = 0 * 1 := by simp [encL_length c_i64_w]
         simp +decide only [reduceAdd, reduceMul, reduceToNat, ak, g97]
         refine hJ96 _ ?_
         obtain rfl := Option.some.inj h
         refine hKr _ ⟨_, rfl, [⟨(.tmp 2 0), [4], none, .lst⟩], _, rfl, rfl, ?_⟩
         exact cl
     ·rw [if_neg (Bool.eq_false_iff.1 c61)] at h
      refine hJ50 _ ?_
      refine seq_k fun J98 hJ98 => ?_
      obtain ⟨j99, h100, hn⟩ := of_bind h
      refine seq_j (fun st => st = ⟨[(1, .c (.ptr (.tmp 1 0) [] 0)), (2, .c (.ptr (.tmp 2 0) [] 0)), (5, .c (.ptr (.tmp 5 0) [] 0)), (6, .c (.ptr (.tmp 6 0) [] 0)), (8, .c (.fn 90 [.ptr (.tmp 6 0) [] 0, .ptr (.tmp 1 0) [] 0, .ptr (.tmp 5 0) [] 0])), (131, .c (.sc (.bool j99)))], [(.arg 0, ⟨.fz, 1, cs0⟩), (.arg 1, ⟨.fz, 3, cs1⟩), (.arg 2, ⟨.fz, 5, cs2⟩), (.tmp 1 0, ⟨.box, 0, [.sc (.int .i64 a0_0), .sc (.int .i64 a0_1), .ref (.arg 0) [] o0 l0_2.length, .ref (.arg 1) [] o1 l0_3.length, .ref (.arg 2) [] o2 l0_4.length, .sc (.int .i64 a0_5), .sc (.int .u64 a0_6), .sc (.int .u64 a0_7), .sc (.int .u64 a0_8), .sc (.int .i64 a0_9), .sc (.int .i64 a0_10), .sc (.int .i64 a0_11)]⟩), (.tmp 2 0, ⟨.box, 0, [.sc (.int .i64 0), .sc (.int .i64 0), .sc (.int .u64 0), .sc (.int .i64 0), .own 1 (([] : List Int).length) (encL c_i64 ([] : List Int)), .sc (.int .i64 0), .sc (.int .i64 0)]⟩), (.tmp 5 0, ⟨.box, 0, [.sc (.int .i64 j12)]⟩), (.tmp 6 0, ⟨.box, 0, [.sc (.string t21.1), .sc (fnv t21.2.1)]⟩)], [], []⟩) (fun J101 hJ101 => ?_) ?_
      ·replace h := h100; clear hn
       refine ga_k fun G102 G102n G102r G102x => ?_
       refine reg_k ?_
       simp +decide only [reduceAdd, reduceMul, reduceToNat, ak]
       by_cases c103 : a0_9 = 1
       ·rw [if_pos c103] at h
        have e104 : decide (a0_9 = 1) = true := decide_eq_true c103
        simp +decide only [reduceAdd, reduceMul, reduceToNat, ak, e104]
        by_cases c105 : a0_10 = 0
        ·rw [if_pos c105] at h
         have e106 : decide (a0_10 = 0) = true := decide_eq_true c105
         simp +decide only [reduceAdd, reduceMul, reduceToNat, ak, e106]
         by_cases c107 : a0_6 = a0_7
         ·rw [if_pos c107] at h
          have e108 : decide (a0_6 = a0_7) = true := decide_eq_true c107
          simp +decide only [reduceAdd, reduceMul, reduceToNat, ak, e108]
          obtain rfl := Option.some.inj h
          refine G102n _ _ (wj [1, 2, 5, 6, 8, 131] [pI (.arg 0) .fz, pI (.arg 1) .fz, pI (.arg 2) .fz, pI (.tmp 1 0) .box, pI (.tmp 2 0) .box, pI (.tmp 5 0) .box, pI (.tmp 6 0) .box]) (hJ101 _ rfl)
         ·rw [if_neg c107] at h
          have e109 : decide (a0_6 = a0_7) = false := decide_eq_false c107
          simp +decide only [reduceAdd, reduceMul, reduceToNat, ak, e109]
          obtain rfl := Option.some.inj h
          refine G102n _ _ (wj [1, 2, 5, 6, 8, 131] [pI (.arg 0) .fz, pI (.arg 1) .fz, pI (.arg 2) .fz, pI (.tmp 1 0) .box, pI (.tmp 2 0) .box, pI (.tmp 5 0) .box, pI (.tmp 6 0) .box]) (hJ101 _ rfl)
        ·rw [if_neg c105] at h
         have e110 : decide (a0_10 = 0) = false := decide_eq_false c105
         simp +decide only [reduceAdd, reduceMul, reduceToNat, ak, e110]
         obtain rfl := Option.some.inj h
         refine G102n _ _ (wj [1, 2, 5, 6, 8, 131] [pI (.arg 0) .fz, pI (.arg 1) .fz, pI (.arg 2) .fz, pI (.tmp 1 0) .box, pI (.tmp 2 0) .box, pI (.tmp 5 0) .box, pI (.tmp 6 0) .box]) (hJ101 _ rfl)
       ·rw [if_neg c103] at h
        have e111 : decide (a0_9 = 1) = false := decide_eq_false c103
        simp +decide only [reduceAdd, reduceMul, reduceToNat, ak, e111]
        obtain rfl := Option.some.inj h
        refine G102n _ _ (wj [1, 2, 5, 6, 8, 131] [pI (.arg 0) .fz, pI (.arg 1) .fz, pI (.arg 2) .fz, pI (.tmp 1 0) .box, pI (.tmp 2 0) .box, pI (.tmp 5 0) .box, pI (.tmp 6 0) .box]) (hJ101 _ rfl)
      ·replace h := hn; clear hn h100
       rintro _ rfl
       refine cond_k (b := j99) rfl (fun c112 => ?_) (fun c112 => ?_)
       ·rw [if_pos c112] at h
        refine sr_k fun J113 hJ113 => ?_
        simp +decide only [reduceAdd, reduceMul, reduceToNat, ak]
        refine gho_k (Weak.nmg' 136 4 (.tmp 136 24) 1 (encL c_i64 ([] : List Int)) rfl rfl rfl rfl) ?_
        simp +decide only [reduceAdd, reduceMul, reduceToNat, ak]
        obtain ⟨t114, h115, h⟩ := of_bind h
        refine callv_clo (f := 90) (fn := Try.f90) (caps := [.ptr (.tmp 6 0) [] 0, .ptr (.tmp 1 0) [] 0, .ptr (.tmp 5 0) [] 0]) [.tmp 6, .tmp 1, .tmp 5] rfl (by first | rfl | simp only [ak]) Try.func90 (by kernel_rfl) (by decide) ?_
        refine cm [pN (.arg 0) (.tmp 136 24) .fz, pN (.arg 1) (.tmp 6 0) .box, pN (.arg 2) (.tmp 1 0) .box, pN (.arg 3) (.arg 0) .fz, pN (.arg 4) (.arg 1) .fz, pN (.arg 5) (.arg 2) .fz, pN (.arg 6) (.tmp 5 0) .box] (impl_PlanSend_1.tri (encL c_i64 ([] : List Int)) 0 ([] : List Int) (Vw.whole c_i64_w ([] : List Int)) (cs0) o0 l0_2 hv0 (cs1) o1 l0_3 hv1 (cs2) o2 l0_4 hv2 3 0 a0_7 0 0 0 0 t21.1 t21.2.1 a0_0 a0_1 a0_5 a0_6 a0_7 a0_8 a0_9 a0_10 a0_11 j12 _ h115) (fun hl115 => ?_) (h0 := by first | rfl | simp only [reduceCtorEq, Nat.reduceEqDiff, ak, akF, (show 0 = ([] : List Int).length by simp)]) (hav := by first | rfl | simp only [reduceCtorEq, Nat.reduceEqDiff, ak, akF, (show 0 = ([] : List Int).length by simp)])
        refine ct (.tup [(true, [.sc (.int .i64 t114.1), .sc (.int .i64 t114.2.1), .sc (.int .u64 t114.2.2.1), .sc (.int .i64 t114.2.2.2.1), .ref (.tmp 137 0) [] 0 t114.2.2.2.2.1.length, .sc (.int .i64 t114.2.2.2.2.2.1), .sc (.int .i64 t114.2.2.2.2.2.2.1)]), (false, [.sc (.bool t114.2.2.2.2.2.2.2)])]) (mF (mW [.sc (.string t21.1), .sc (fnv t21.2.1)] (mW [.sc (.int .i64 a0_0), .sc (.int .i64 a0_1), .ref (.arg 0) [] o0 l0_2.length, .ref (.arg 1) [] o1 l0_3.length, .ref (.arg 2) [] o2 l0_4.length, .sc (.int .i64 a0_5), .sc (.int .u64 a0_6), .sc (.int .u64 a0_7), .sc (.int .u64 a0_8), .sc (.int .i64 a0_9), .sc (.int .i64 a0_10), .sc (.int .i64 a0_11)] (mF (mF (mF (mW [.sc (.int .i64 j12)] (mN ..)))))))) ?_ (s4 := [(.arg 0, ⟨.fz, 1, cs0⟩), (.arg 1, ⟨.fz, 3, cs1⟩), (.arg 2, ⟨.fz, 5, cs2⟩), (.tmp 1 0, ⟨.box, 0, [.sc (.int .i64 a0_0), .sc (.int .i64 a0_1), .ref (.arg 0) [] o0 l0_2.length, .ref (.arg 1) [] o1 l0_3.length, .ref (.arg 2) [] o2 l0_4.length, .sc (.int .i64 a0_5), .sc (.int .u64 a0_6), .sc (.int .u64 a0_7), .sc (.int .u64 a0_8), .sc (.int .i64 a0_9), .sc (.int .i64 a0_10), .sc (.int .i64 a0_11)]⟩), (.tmp 2 0, ⟨.box, 0, [.sc (.int .i64 0), .sc (.int .i64 0), .sc (.int .u64 0), .sc (.int .i64 0), .own 1 (([] : List Int).length) (encL c_i64 ([] : List Int)), .sc (.int .i64 0), .sc (.int .i64 0)]⟩), (.tmp 5 0, ⟨.box, 0, [.sc (.int .i64 j12)]⟩), (.tmp 6 0, ⟨.box, 0, [.sc (.string t21.1), .sc (fnv t21.2.1)]⟩), (.tmp 136 24, ⟨.lst, 1, encL c_i64 ([] : List Int)⟩), (.tmp 137 0, ⟨.lst, 1, encL c_i64 t114.2.2.2.2.1⟩)])
        simp +decide only [reduceAdd, reduceMul, reduceToNat, ak]
        refine gho_k (Weak.own (.tmp 17 0) (cs' := [.sc (.int .i64 0), .sc (.int .i64 0), .sc (.int .u64 0), .sc (.int .i64 0), .own 1 (([] : List Int).length) (encL c_i64 ([] : List Int)), .sc (.int .i64 0), .sc (.int .i64 0)]) rfl ⟨.inl rfl, .inl rfl, .inl rfl, .inl rfl, .inr ⟨rfl, _, rfl⟩, .inl rfl, .inl rfl, trivial⟩) ?_
        have g117 : (encL c_i64 t114.2.2.2.2.1).length = t114.2.2.2.2.1.length * 1 := by simp [encL_length c_i64_w]
        simp +decide only [reduceAdd, reduceMul, reduceToNat, ak, g117]
        refine hJ113 _ ?_
        refine sr_k fun J118 hJ118 => ?_
        simp +decide only [reduceAdd, reduceMul, reduceToNat, ak]
        refine hJ118 _ ?_
        refine cond_k (b := t114.2.2.2.2.2.2.2) rfl (fun c119 => ?_) (fun c119 => ?_)
        ·rw [if_pos c119] at h
         refine sr_k fun J120 hJ120 => ?_
         simp +decide only [reduceAdd, reduceMul, reduceToNat, ak]
         refine hJ120 _ ?_
         obtain rfl := Option.some.inj h
         refine hKr _ ⟨_, rfl, [⟨(.tmp 17 0), [4], none, .lst⟩], _, rfl, rfl, ?_⟩
         exact cl
        ·rw [if_neg (Bool.eq_false_iff.1 c119)] at h
         refine hJ98 _ ?_
         refine sr_k fun J121 hJ121 => ?_
         simp +decide only [reduceAdd, reduceMul, reduceToNat, ak]
         refine gho_k (Weak.nmg' 144 4 (.tmp 144 24) 1 (encL c_i64 ([] : List Int)) rfl rfl rfl rfl) ?_
         have g122 : (encL c_i64 ([] : List Int)).length = 0 * 1 := by simp [encL_length c_i64_w]
         simp +decide only [reduceAdd, reduceMul, reduceToNat, ak, g122]
         refine hJ121 _ ?_
         obtain rfl := Option.some.inj h
         refine hKr _ ⟨_, rfl, [⟨(.tmp 2 0), [4], none, .lst⟩], _, rfl, rfl, ?_⟩
         exact cl
       ·rw [if_neg (Bool.eq_false_iff.1 c112)] at h
        refine hJ98 _ ?_
        refine sr_k fun J123 hJ123 => ?_
        simp +decide only [reduceAdd, reduceMul, reduceToNat, ak]
        refine gho_k (Weak.nmg' 144 4 (.tmp 144 24) 1 (encL c_i64 ([] : List Int)) rfl rfl rfl rfl) ?_
        have g124 : (encL c_i64 ([] : List Int)).length = 0 * 1 := by simp [encL_length c_i64_w]
        simp +decide only [reduceAdd, reduceMul, reduceToNat, ak, g124]
        refine hJ123 _ ?_
        obtain rfl := Option.some.inj h
        refine hKr _ ⟨_, rfl, [⟨(.tmp 2 0), [4], none, .lst⟩], _, rfl, rfl, ?_⟩
        exact cl
   ·rintro x48 rfl
    dsimp only at h
    refine B27r _ ?_
    obtain rfl := Option.some.inj h
    refine hKr _ ⟨_, rfl, [⟨(.tmp 11 0), [4], none, .lst⟩], _, rfl, rfl, ?_⟩
    exact cl
/-! ### impl.Pick: function 39 -/
def C39 : AC := .sr [.o (.mv 10 (.const (.slice none 0 0))), .gh, .o (.mv 11 (.k 0)), .o (.mv 12 (.k 0)), .keep [0, 1, 2, 3, 4]] (.sr [.m 19 0, .call none (some 20) 81 [.tmp 19], .m 18 20, .o (.extr 21 (.t 18) 0), .o (.extr 22 (.t 18) 1), .o (.alloc 13 [.string .empty, .nilFunc]), .st 2 13 21, .m 14 22, .keep [0, 1, 2, 3, 4, 13, 14]] (.seq (.sr [.m 23 14, .o (.un 24 .not (.t 23)), .keep [0, 1, 2, 3, 4, 13, 24]] (.cond (.t 24) (.sr [.o (.mv 10 (.const (.slice none 0 0))), .gh, .o (.mv 11 (.k 0)), .o (.mv 12 (.k 17)), .keep [10, 11, 12]] (.ret)) (.skip))) (.seq (.sr [.m 25 3, .call none (some 26) 82 [.tmp 25], .o (.un 27 .not (.t 26)), .keep [0, 1, 2, 3, 4, 13, 27]] (.cond (.t 27) (.sr [.o (.mv 10 (.const (.slice none 0 0))), .gh, .o (.mv 11 (.k 0)), .o (.mv 12 (.k 6)), .keep [10, 11, 12]] (.ret)) (.skip))) (.sr [.m 28 3, .ln 29 28, .m 15 29, .keep [0, 1, 2, 3, 4, 13, 15]] (.seq (.seq (.ga (.reg [.m 30 1, .o (.bin 31 .lss (.t 30) (.k 0)), .m 32 31, .op (some (32, false)) (.mv 33 (.t 1)), .op (some (32, false)) (.mv 34 (.t 15)), .op (some (32, false)) (.bin 35 .geq (.t 33) (.t 34)), .o (.pick 36 (.t 32) (.const (.bool true)) (.t 35)), .m 37 36, .op (some (37, false)) (.mv 38 (.t 4)), .op (some (37, false)) (.bin 39 .lss (.t 38) (.k 0)), .o (.pick 40 (.t 37) (.const (.bool true)) (.t 39)), .m 41 40, .op (some (41, false)) (.mv 42 (.t 4)), .op (some (41, false)) (.bin 43 .gtr (.t 42) (.k 255)), .o (.pick 44 (.t 41) (.const (.bool true)) (.t 43)), .keep [0, 1, 2, 3, 4, 13, 44]])) (.cond (.t 44) (.sr [.o (.mv 10 (.const (.slice none 0 0))), .gh, .o (.mv 11 (.k 0)), .o (.mv 12 (.k 4)), .keep [10, 11, 12]] (.ret)) (.skip))) (.sr [.o (.load 46 true 2 (.t 13)), .m 47 0, .m 48 1, .m 49 2, .m 50 3, .m 51 4, .call none (some 52) 83 [.tmp 46, .tmp 47, .tmp 48, .tmp 49, .tmp 50, .tmp 51], .m 45 52, .o (.extr 53 (.t 45) 0), .o (.extr 54 (.t 45) 1), .m 16 53, .m 17 54, .keep [16, 17]] (.sr [.m 55 16, .m 56 17, .m 10 55, .m 11 56, .o (.mv 12 (.k 0)), .keep [10, 11, 12]] (.ret))))))))
def r39 : List RV := [.tmp 10, .tmp 11, .tmp 12]
theorem k39 : compC Try.prog 57 C39 (Try.f39.body.getD .skip) = some C39.erase := by kernel_rfl
theorem q39 : rvsOf Try.prog Try.f39.results.toList = some r39 := by kernel_rfl
def impl_Pick.f (a0 : Int) (a1 : Int) (a2 : Int) (l3 : List S86) (a4 : Int) : Option ((List Int) × Int × Int) := (impl_policyOf.f a0 >>= fun t3 => (if (!t3.2.2) = true then (some (([] : List Int), 0, 17)) else (impl_validPaths.f l3 >>= fun t12 => (if (!t12) = true then (some (([] : List Int), 0, 6)) else ((if a1 < 0 then (some true) else (if a1 ≥ (l3.length : Int) then (some true) else (if a4 < 0 then (some true) else (some (decide (a4 > 255)))))) >>= fun (j19 : Bool) => (if j19 = true then (some (([] : List Int), 0, 4)) else (impl_choose.f t3.1 t3.2.1 a0 a1 a2 l3 a4 >>= fun t35 => (some (t35.1, t35.2, 0)))))))))
theorem impl_Pick.tri (cs0 : List Cell) (o0 : Nat) (l3 : List S86) (hv0 : Vw c86 3 cs0 o0 l3) (a0 : Int) (a1 : Int) (a2 : Int) (a4 : Int) (r : (List Int) × Int × Int) (h : impl_Pick.f a0 a1 a2 l3 a4 = some r) : Tri Try.prog 39 [.c (.sc (.int .i64 a0)), .c (.sc (.int .i64 a1)), .c (.sc (.int .i64 a2)), .c (.ref (.arg 0) [] o0 l3.length), .c (.sc (.int .i64 a4))] [(.arg 0, ⟨.fz, 3, cs0⟩)] (fun o => o = ⟨.tup [(false, [.ref (.res 0) [] 0 r.1.length]), (false, [.sc (.int .i64 r.2.1)]), (false, [.sc (.int .i64 r.2.2)])], [(.arg 0, ⟨.fz, 3, cs0⟩), (.res 0, ⟨.lst, 1, encL c_i64 r.1⟩)], [], []⟩) := by
 refine tri_of_body (ac := C39) (xs := r39) Try.func39 (show Try.f39.body = some (Try.f39.body.getD .skip) from rfl) k39 q39 (Nat.le_of_ble_eq_true rfl) ?_
 refine body_of fun K hKn hKr => ?_
 unfold impl_Pick.f at h
 unfold C39
 simp only [initT, Nat.reduceAdd]
 refine sr_k fun J1 hJ1 => ?_
 simp +decide only [reduceAdd, reduceMul, reduceToNat, ak]
 refine gho_k (Weak.nm' 10 (.tmp 10 20) 1 (encL c_i64 ([] : List Int)) rfl rfl rfl) ?_
 simp +decide only [reduceAdd, reduceMul, reduceToNat, ak]
 refine hJ1 _ ?_
 refine sr_k fun J2 hJ2 => ?_
 simp +decide only [reduceAdd, reduceMul, reduceToNat, ak]
 obtain ⟨t3, h4, h⟩ := of_bind h
 refine cm [] (impl_policyOf.tri a0 _ h4) (fun hl4 => ?_)
 refine ct (.tup [(true, [.sc (.string t3.1), .sc (fnv t3.2.1)]), (false, [.sc (.bool t3.2.2)])]) (mN ..) ?_ (s4 := [(.arg 0, ⟨.fz, 3, cs0⟩), (.tmp 10 20, ⟨.lst, 1, encL c_i64 ([] : List Int)⟩)])
 simp +decide only [reduceAdd, reduceMul, reduceToNat, ak]
 refine hJ2 _ ?_
 refine seq_k fun J6 hJ6 => ?_
 refine sr_k fun J7 hJ7 => ?_
 simp +decide only [reduceAdd, reduceMul, reduceToNat, ak]
 refine hJ7 _ ?_
 refine cond_k (b := !t3.2.2) rfl (fun c8 => ?_) (fun c8 => ?_)
 ·rw [if_pos c8] at h
  refine sr_k fun J9 hJ9 => ?_
  simp +decide only [reduceAdd, reduceMul, reduceToNat, ak]
  refine gho_k ((Weak.drop [.tmp 10 20]).trans (Weak.nm' 10 (.tmp 10 20) 1 (encL c_i64 ([] : List Int)) rfl rfl rfl)) ?_
  simp +decide only [reduceAdd, reduceMul, reduceToNat, ak]
  refine hJ9 _ ?_
  obtain rfl := Option.some.inj h
  refine hKr _ ⟨_, rfl, [⟨(.tmp 10 20), [], none, .lst⟩], _, rfl, rfl, ?_⟩
  exact cl
 ·rw [if_neg (Bool.eq_false_iff.1 c8)] at h
  refine hJ6 _ ?_
  refine seq_k fun J10 hJ10 => ?_
  refine sr_k fun J11 hJ11 => ?_
  simp +decide only [reduceAdd, reduceMul, reduceToNat, ak]
  obtain ⟨t12, h13, h⟩ := of_bind h
  refine cm [pI (.arg 0) .fz] (impl_validPaths.tri (cs0) o0 l3 hv0 _ h13) (fun hl13 => ?_)
  refine cs (mF (mN ..)) ?_ (s4 := [(.arg 0, ⟨.fz, 3, cs0⟩), (.tmp 10 20, ⟨.lst, 1, encL c_i64 ([] : List Int)⟩), (.tmp 13 0, ⟨.box, 0, [.sc (.string t3.1), .sc (fnv t3.2.1)]⟩)])
  simp +decide only [reduceAdd, reduceMul, reduceToNat, ak]
  refine hJ11 _ ?_
  refine cond_k (b := !t12) rfl (fun c15 => ?_) (fun c15 => ?_)
  ·rw [if_pos c15] at h
   refine sr_k fun J16 hJ16 => ?_
   simp +decide only [reduceAdd, reduceMul, reduceToNat, ak]
   refine gho_k ((Weak.drop [.tmp 10 20]).trans (Weak.nm' 10 (.tmp 10 20) 1 (encL c_i64 ([] : List Int)) rfl rfl rfl)) ?_
   simp +decide only [reduceAdd, reduceMul, reduceToNat, ak]
   refine hJ16 _ ?_
   obtain rfl := Option.some.inj h
   refine hKr _ ⟨_, rfl, [⟨(.tmp 10 20), [], none, .lst⟩], _, rfl, rfl, ?_⟩
   exact cl
  ·rw [if_neg (Bool.eq_false_iff.1 c15)] at h
   refine hJ10 _ ?_
   refine sr_k fun J17 hJ17 => ?_
   simp +decide only [reduceAdd, reduceMul, reduceToNat, ak]
   refine hJ17 _ ?_
   refine seq_k fun J18 hJ18 => ?_
   obtain ⟨j19, h20, hn⟩ := of_bind h
   refine seq_j (fun st => st = ⟨[(0, .c (.sc (.int .i64 a0))), (1, .c (.sc (.int .i64 a1))), (2, .c (.sc (.int .i64 a2))), (3, .c (.ref (.arg 0) [] o0 l3.length)), (4, .c (.sc (.int .i64 a4))), (13, .c (.ptr (.tmp 13 0) [] 0)), (44, .c (.sc (.bool j19)))], [(.arg 0, ⟨.fz, 3, cs0⟩), (.tmp 13 0, ⟨.box, 0, [.sc (.string t3.1), .sc (fnv t3.2.1)]⟩)], [], []⟩) (fun J21 hJ21 => ?_) ?_
   ·replace h := h20; clear hn
    refine ga_k fun G22 G22n G22r G22x => ?_
    refine reg_k ?_
    simp +decide only [reduceAdd, reduceMul, reduceToNat, ak]
    by_cases c23 : a1 < 0
    ·rw [if_pos c23] at h
     have e24 : decide (a1 < 0) = true := decide_eq_true c23
     simp +decide only [reduceAdd, reduceMul, reduceToNat, ak, e24]
     obtain rfl := Option.some.inj h
     refine G22n _ _ (wj [0, 1, 2, 3, 4, 13, 44] [pI (.arg 0) .fz, pI (.tmp 13 0) .box]) (hJ21 _ rfl)
    ·rw [if_neg c23] at h
     have e25 : decide (a1 < 0) = false := decide_eq_false c23
     simp +decide only [reduceAdd, reduceMul, reduceToNat, ak, e25]
     by_cases c26 : a1 ≥ (l3.length : Int)
     ·rw [if_pos c26] at h
      have e27 : decide (a1 ≥ (l3.length : Int)) = true := decide_eq_true c26
      simp +decide only [reduceAdd, reduceMul, reduceToNat, ak, e27]
      obtain rfl := Option.some.inj h
      refine G22n _ _ (wj [0, 1, 2, 3, 4, 13, 44] [pI (.arg 0) .fz, pI (.tmp 13 0) .box]) (hJ21 _ rfl)
     ·rw [if_neg c26] at h
      have e28 : decide (a1 ≥ (l3.length : Int)) = false := decide_eq_false c26
      simp +decide only [reduceAdd, reduceMul, reduceToNat, ak, e28]
      by_cases c29 : a4 < 0
      ·rw [if_pos c29] at h
       have e30 : decide (a4 < 0) = true := decide_eq_true c29
       simp +decide only [reduceAdd, reduceMul, reduceToNat, ak, e30]
       obtain rfl := Option.some.inj h
       refine G22n _ _ (wj [0, 1, 2, 3, 4, 13, 44] [pI (.arg 0) .fz, pI (.tmp 13 0) .box]) (hJ21 _ rfl)
      ·rw [if_neg c29] at h
       have e31 : decide (a4 < 0) = false := decide_eq_false c29
       simp +decide only [reduceAdd, reduceMul, reduceToNat, ak, e31]
       obtain rfl := Option.some.inj h
       refine G22n _ _ (wj [0, 1, 2, 3, 4, 13, 44] [pI (.arg 0) .fz, pI (.tmp 13 0) .box]) (hJ21 _ rfl)
   ·replace h := hn; clear hn h20
    rintro _ rfl
    refine cond_k (b := j19) rfl (fun c32 => ?_) (fun c32 => ?_)
    ·rw [if_pos c32] at h
     refine sr_k fun J33 hJ33 => ?_
     simp +decide only [reduceAdd, reduceMul, reduceToNat, ak]
     refine gho_k (Weak.nm' 10 (.tmp 10 20) 1 (encL c_i64 ([] : List Int)) rfl rfl rfl) ?_
     simp +decide only [reduceAdd, reduceMul, reduceToNat, ak]
     refine hJ33 _ ?_
     obtain rfl := Option.some.inj h
     refine hKr _ ⟨_, rfl, [⟨(.tmp 10 20), [], none, .lst⟩], _, rfl, rfl, ?_⟩
     exact cl
    ·rw [if_neg (Bool.eq_false_iff.1 c32)] at h
     refine hJ18 _ ?_
     refine sr_k fun J34 hJ34 => ?_
     simp +decide only [reduceAdd, reduceMul, reduceToNat, ak]
     obtain ⟨t35, h36, h⟩ := of_bind h
     refine cm [pI (.arg 0) .fz] (impl_choose.tri (cs0) o0 l3 hv0 t3.1 t3.2.1 a0 a1 a2 a4 _ h36) (fun hl36 => ?_)
     refine ct (.tup [(false, [.ref (.tmp 52 0) [] 0 t35.1.length]), (false, [.sc (.int .i64 t35.2)])]) (mF (mN ..)) ?_ (s4 := [(.arg 0, ⟨.fz, 3, cs0⟩), (.tmp 13 0, ⟨.box, 0, [.sc (.string t3.1), .sc (fnv t3.2.1)]⟩), (.tmp 52 0, ⟨.lst, 1, encL c_i64 t35.1⟩)])
     simp +decide only [reduceAdd, reduceMul, reduceToNat, ak]
     refine hJ34 _ ?_
     refine sr_k fun J38 hJ38 => ?_
     simp +decide only [reduceAdd, reduceMul, reduceToNat, ak]
     refine hJ38 _ ?_
     obtain rfl := Option.some.inj h
     refine hKr _ ⟨_, rfl, [⟨(.tmp 52 0), [], none, .lst⟩], _, rfl, rfl, ?_⟩
     exact cl
/-! ### laws.lNums: function 55 -/
def C55_l0 : AC := .seq (.sr [.m 11 5, .m 12 0, .ln 13 12, .o (.bin 14 .lss (.t 11) (.t 13)), .keep [0, 1, 5, 14]] (.cond (.t 14) (.skip) (.gh (.exit 0)))) (.seq (.block 1 (.seq (.regD (.f (.m 17 0) (.f (.m 18 5) (.f (.ia 19 1 17 18) (.f (.ld 20 1 19) (.f (.m 21 1) (.f (.m 22 5) (.f (.ia 23 1 21 22) (.f (.ld 24 1 23) (.f (.o (.bin 25 .neq (.t 20) (.t 24))) (.done)))))))))) [0, 1, 5, 25]) (.cond (.t 25) (.sr [.o (.mv 4 (.const (.bool false))), .keep [4]] (.gh .ret)) (.skip)))) (.reg [.m 15 5, .o (.bin 16 .add (.t 15) (.k 1)), .m 5 16, .keep [0, 1, 5]]))
def C55 : AC := .sr [.o (.mv 4 (.const (.bool false))), .keep [0, 1]] (.seq (.sr [.m 6 0, .ln 7 6, .m 8 1, .ln 9 8, .o (.bin 10 .neq (.t 7) (.t 9)), .keep [0, 1, 10]] (.cond (.t 10) (.sr [.o (.mv 4 (.const (.bool false))), .keep [4]] (.ret)) (.skip))) (.seq (.sr [.o (.mv 5 (.k 0)), .keep [0, 1, 5]] (.block 0 (.gh (.loop (.ga C55_l0))))) (.sr [.o (.mv 4 (.const (.bool true))), .keep [4]] (.ret))))
def r55 : List RV := [.tmp 4]
theorem k55 : compC Try.prog 26 C55 (Try.f55.body.getD .skip) = some C55.erase := by kernel_rfl
theorem q55 : rvsOf Try.prog Try.f55.results.toList = some r55 := by kernel_rfl
def laws_lNums.l0 (l0 : List Int) (l1 : List Int) (x0_0 : Int) : Option (Lp Unit Bool) := (if x0_0 < (l0.length : Int) then (if 0 ≤ x0_0 ∧ x0_0 < (l0.length : Int) then (if 0 ≤ x0_0 ∧ x0_0 < (l1.length : Int) then (if (rd 0 l0 x0_0) ≠ (rd 0 l1 x0_0) then (some (.b false)) else (laws_lNums.l0 l0 l1 (IntKind.i64.wrap (x0_0 + 1)))) else none) else none) else (some (.a ())))
 partial_fixpoint
def laws_lNums.f (l0 : List Int) (l1 : List Int) : Option Bool := (if (l0.length : Int) ≠ (l1.length : Int) then (some false) else (laws_lNums.l0 l0 l1 0 >>= fun (y21 : Lp Unit Bool) => match y21 with | .a x23 => (some true) | .b x23 => (some x23)))
def laws_lNums.l0_M (cs0 : List Cell) (o0 : Nat) (l0 : List Int) (hv0 : Vw c_i64 1 cs0 o0 l0) (cs1 : List Cell) (o1 : Nat) (l1 : List Int) (hv1 : Vw c_i64 1 cs1 o1 l1) (x0_0 : Int) (y : Lp Unit Bool) : Prop := ∀ (K : AE → St → Prop), (∀ x, y = .a x → K (.exit 0) ⟨[], [(.arg 0, ⟨.fz, 1, cs0⟩), (.arg 1, ⟨.fz, 1, cs1⟩)], [], []⟩) → (∀ x, y = .b x → K .ret ⟨[(4, .c (.sc (.bool x)))], [(.arg 0, ⟨.fz, 1, cs0⟩), (.arg 1, ⟨.fz, 1, cs1⟩)], [], []⟩) → loopS Try.prog 26 (.ga C55_l0) K ⟨[(0, .c (.ref (.arg 0) [] o0 l0.length)), (1, .c (.ref (.arg 1) [] o1 l1.length)), (5, .c (.sc (.int .i64 x0_0)))], [(.arg 0, ⟨.fz, 1, cs0⟩), (.arg 1, ⟨.fz, 1, cs1⟩)], [], []⟩
theorem laws_lNums.l0_walk (cs0 : List Cell) (o0 : Nat) (l0 : List Int) (hv0 : Vw c_i64 1 cs0 o0 l0) (cs1 : List Cell) (o1 : Nat) (l1 : List Int) (hv1 : Vw c_i64 1 cs1 o1 l1) (x0_0 : Int) (y : Lp Unit Bool) (h : laws_lNums.l0 l0 l1 x0_0 = some y) : laws_lNums.l0_M cs0 o0 l0 hv0 cs1 o1 l1 hv1 x0_0 y := by
 refine laws_lNums.l0.partial_correctness l0 l1 (motive := fun x0_0 y => laws_lNums.l0_M cs0 o0 l0 hv0 cs1 o1 l1 hv1 x0_0 y) ?_ x0_0 y h
 clear h
 unfold laws_lNums.l0_M
 intro rec ih x0_0 y h K hx0 hx1
 refine loop_unroll (ga_k fun G0 G0n G0r G0x => ?_)
 unfold C55_l0
 refine seq_k fun J9 hJ9 => ?_
 refine sr_k fun J10 hJ10 => ?_
 simp +decide only [reduceAdd, reduceMul, reduceToNat, ak]
 refine hJ10 _ ?_
 refine cond_k (b := decide (x0_0 < (l0.length : Int))) rfl (fun c11 => ?_) (fun c11 => ?_)
 ·replace c11 := of_decide_eq_true c11; rw [if_pos c11] at h
  refine hJ9 _ ?_
  refine seq_k fun J12 hJ12 => ?_
  refine block_k fun B13 B13n B13x B13r B13j => ?_
  refine sd_k fun J14 hJ14 => ?_
  obtain ⟨b15, h⟩ := of_guard h
  have g16 : (cs0)[o0 + x0_0.toNat * 1]? = some (.sc (.int .i64 (rd 0 l0 x0_0))) := hv0.get 0 0 b15.1 b15.2 (by decide)
  obtain ⟨b17, h⟩ := of_guard h
  have g18 : (cs1)[o1 + x0_0.toNat * 1]? = some (.sc (.int .i64 (rd 0 l1 x0_0))) := hv1.get 0 0 b17.1 b17.2 (by decide)
  simp +decide only [reduceAdd, reduceMul, reduceToNat, ak, b15, g16, b17, g18]
  refine hJ14 _ ?_
  refine cond_k (b := decide ((rd 0 l0 x0_0) ≠ (rd 0 l1 x0_0))) rfl (fun c19 => ?_) (fun c19 => ?_)
  ·replace c19 := of_decide_eq_true c19; rw [if_pos c19] at h
   refine sr_k fun J20 hJ20 => ?_
   simp +decide only [reduceAdd, reduceMul, reduceToNat, ak]
   refine hJ20 _ ?_
   obtain rfl := Option.some.inj h
   refine gh_k (wk [4] [pI (.arg 0) .fz, pI (.arg 1) .fz]) ?_
   refine B13r _ ?_
   refine G0r _ ?_
   exact hx1 _ rfl
  ·replace c19 := of_decide_eq_false c19; rw [if_neg c19] at h
   refine B13n _ ?_
   refine hJ12 _ ?_
   refine reg_k ?_
   simp +decide only [reduceAdd, reduceMul, reduceToNat, ak]
   refine G0n _ _ (wk [0, 1, 5] [pI (.arg 0) .fz, pI (.arg 1) .fz]) (ih _ _ h K hx0 hx1)
 ·replace c11 := of_decide_eq_false c11; rw [if_neg c11] at h
  obtain rfl := Option.some.inj h
  refine gh_k (wk [] [pI (.arg 0) .fz, pI (.arg 1) .fz]) ?_
  refine G0x _ _ ?_
  exact hx0 _ rfl
theorem laws_lNums.tri (cs0 : List Cell) (o0 : Nat) (l0 : List Int) (hv0 : Vw c_i64 1 cs0 o0 l0) (cs1 : List Cell) (o1 : Nat) (l1 : List Int) (hv1 : Vw c_i64 1 cs1 o1 l1) (r : Bool) (h : laws_lNums.f l0 l1 = some r) : Tri Try.prog 55 [.c (.ref (.arg 0) [] o0 l0.length), .c (.ref (.arg 1) [] o1 l1.length)] [(.arg 0, ⟨.fz, 1, cs0⟩), (.arg 1, ⟨.fz, 1, cs1⟩)] (fun o => o = ⟨.c (.sc (.bool r)), [(.arg 0, ⟨.fz, 1, cs0⟩), (.arg 1, ⟨.fz, 1, cs1⟩)], [], []⟩) := by
 refine tri_of_body (ac := C55) (xs := r55) Try.func55 (show Try.f55.body = some (Try.f55.body.getD .skip) from rfl) k55 q55 (Nat.le_of_ble_eq_true rfl) ?_
 refine body_of fun K hKn hKr => ?_
 unfold laws_lNums.f at h
 unfold C55
 simp only [initT, Nat.reduceAdd]
 refine sr_k fun J1 hJ1 => ?_
 simp +decide only [reduceAdd, reduceMul, reduceToNat, ak]
 refine hJ1 _ ?_
 refine seq_k fun J2 hJ2 => ?_
 refine sr_k fun J3 hJ3 => ?_
 simp +decide only [reduceAdd, reduceMul, reduceToNat, ak]
 refine hJ3 _ ?_
 refine cond_k (b := decide ((l0.length : Int) ≠ (l1.length : Int))) rfl (fun c4 => ?_) (fun c4 => ?_)
 ·replace c4 := of_decide_eq_true c4; rw [if_pos c4] at h
  refine sr_k fun J5 hJ5 => ?_
  simp +decide only [reduceAdd, reduceMul, reduceToNat, ak]
  refine hJ5 _ ?_
  obtain rfl := Option.some.inj h
  refine hKr _ ⟨_, rfl, [], _, rfl, rfl, ?_⟩
  exact cl
 ·replace c4 := of_decide_eq_false c4; rw [if_neg c4] at h
  refine hJ2 _ ?_
  refine seq_k fun J6 hJ6 => ?_
  refine sr_k fun J7 hJ7 => ?_
  simp +decide only [reduceAdd, reduceMul, reduceToNat, ak]
  refine hJ7 _ ?_
  refine block_k fun B8 B8n B8x B8r B8j => ?_
  obtain ⟨y21, h22, h⟩ := of_bind h
  refine gh_k (wk [0, 1, 5] [pI (.arg 0) .fz, pI (.arg 1) .fz]) ?_
  rw [e_loop]
  refine laws_lNums.l0_walk cs0 o0 l0 hv0 cs1 o1 l1 hv1 0 _ h22 _ ?_ ?_
  ·rintro x23 rfl
   dsimp only at h
   refine B8x _ ?_
   refine hJ6 _ ?_
   refine sr_k fun J24 hJ24 => ?_
   simp +decide only [reduceAdd, reduceMul, reduceToNat, ak]
   refine hJ24 _ ?_
   obtain rfl := Option.some.inj h
   refine hKr _ ⟨_, rfl, [], _, rfl, rfl, ?_⟩
   exact cl
  ·rintro x23 rfl
   dsimp only at h
   refine B8r _ ?_
   obtain rfl := Option.some.inj h
   refine hKr _ ⟨_, rfl, [], _, rfl, rfl, ?_⟩
   exact cl
/-! ### impl.mapEnd: function 110 -/
def C110 : AC := .sr [.o (.box 1 (.t 0)), .o (.mv 2 (.const (.int .u64 0))), .keep [1]] (.sr [.fa 3 0 1, .ld 4 1 3, .fa 5 1 1, .ld 6 1 5, .o (.conv 7 .u64 (.t 6)), .o (.bin 8 .add (.t 4) (.t 7)), .fa 9 2 1, .ld 10 1 9, .o (.conv 11 .u64 (.t 10)), .o (.bin 12 .add (.t 8) (.t 11)), .m 2 12, .keep [2]] (.ret))
def r110 : List RV := [.tmp 2]
theorem k110 : compC Try.prog 13 C110 (Try.f110.body.getD .skip) = some C110.erase := by kernel_rfl
theorem q110 : rvsOf Try.prog Try.f110.results.toList = some r110 := by kernel_rfl
def impl_mapEnd.f (a0_0 : Int) (a0_1 : Int) (a0_2 : Int) (a0_3 : Int) (a0_4 : Int) : Option Int := (some (IntKind.u64.wrap ((IntKind.u64.wrap (a0_0 + (IntKind.u64.wrap a0_1))) + (IntKind.u64.wrap a0_2))))
theorem impl_mapEnd.tri (a0_0 : Int) (a0_1 : Int) (a0_2 : Int) (a0_3 : Int) (a0_4 : Int) (r : Int) (h : impl_mapEnd.f a0_0 a0_1 a0_2 a0_3 a0_4 = some r) : Tri Try.prog 110 [.g [.sc (.int .u64 a0_0), .sc (.int .i64 a0_1), .sc (.int .i64 a0_2), .sc (.int .i64 a0_3), .sc (.int .i64 a0_4)]] [] (fun o => o = ⟨.c (.sc (.int .u64 r)), [], [], []⟩) := by
 refine tri_of_body (ac := C110) (xs := r110) Try.func110 (show Try.f110.body = some (Try.f110.body.getD .skip) from rfl) k110 q110 (Nat.le_of_ble_eq_true rfl) ?_
 refine body_of fun K hKn hKr => ?_
 unfold impl_mapEnd.f at h
 unfold C110
 simp only [initT, Nat.reduceAdd]
 refine sr_k fun J1 hJ1 => ?_
 simp +decide only [reduceAdd, reduceMul, reduceToNat, ak]
 refine hJ1 _ ?_
 refine sr_k fun J2 hJ2 => ?_
 simp +decide only [reduceAdd, reduceMul, reduceToNat, ak]
 refine hJ2 _ ?_
 obtain rfl := Option.some.inj h
 refine hKr _ ⟨_, rfl, [], _, rfl, rfl, ?_⟩
 exact cl
/-! ### impl.place[impl.Mapping,uint64]: function 109 -/
def C109v2f110_l0 : AC := .seq (.sr [.m 12 7, .m 13 8, .o (.bin 14 .lss (.t 12) (.t 13)), .keep [0, 1, 2, 7, 8, 14]] (.cond (.t 14) (.skip) (.gh (.exit 0)))) (.block 1 (.sr [.m 15 7, .m 16 8, .o (.bin 17 .add (.t 15) (.t 16)), .o (.bin 18 .quo (.t 17) (.k 2)), .m 9 18, .keep [0, 1, 2, 7, 8, 9]] (.sr [.m 19 2, .m 20 0, .m 21 9, .ia 22 5 20 21, .o (.load 23 true 5 (.t 22)), .callv none (some 24) (.value (.t 19)) [.tmp 23], .m 25 1, .o (.bin 26 .lss (.t 24) (.t 25)), .keep [0, 1, 2, 7, 8, 9, 26]] (.cond (.t 26) (.reg [.m 27 9, .o (.bin 28 .add (.t 27) (.k 1)), .m 7 28, .keep [0, 1, 2, 7, 8]]) (.reg [.m 29 9, .m 8 29, .keep [0, 1, 2, 7, 8]])))))
def C109v2f110 : AC := .sr [.o (.mv 6 (.k 0)), .keep [0, 1, 2]] (.sr [.m 10 0, .ln 11 10, .o (.mv 7 (.k 0)), .m 8 11, .keep [0, 1, 2, 7, 8]] (.seq (.block 0 (.gh (.loop (.ga C109v2f110_l0)))) (.sr [.m 30 7, .m 6 30, .keep [6]] (.ret))))
def r109v2f110 : List RV := [.tmp 6]
theorem k109v2f110 : compC Try.prog 31 C109v2f110 (Try.f109.body.getD .skip) = some C109v2f110.erase := by kernel_rfl
theorem q109v2f110 : rvsOf Try.prog Try.f109.results.toList = some r109v2f110 := by kernel_rfl
def impl_place_impl_Mapping_uint64_v2f110.l0 (l0 : List S84) (x0_0 : Int) (x0_1 : Int) (x0_2 : Int) : Option Int := (if x0_1 < x0_2 then (if 0 ≤ IntKind.i64.wrap ((IntKind.i64.wrap (x0_1 + x0_2)).tdiv 2) ∧ IntKind.i64.wrap ((IntKind.i64.wrap (x0_1 + x0_2)).tdiv 2) < (l0.length : Int) then (impl_mapEnd.f ((rd z84 l0 (IntKind.i64.wrap ((IntKind.i64.wrap (x0_1 + x0_2)).tdiv 2))).f0) ((rd z84 l0 (IntKind.i64.wrap ((IntKind.i64.wrap (x0_1 + x0_2)).tdiv 2))).f1) ((rd z84 l0 (IntKind.i64.wrap ((IntKind.i64.wrap (x0_1 + x0_2)).tdiv 2))).f2) ((rd z84 l0 (IntKind.i64.wrap ((IntKind.i64.wrap (x0_1 + x0_2)).tdiv 2))).f3) ((rd z84 l0 (IntKind.i64.wrap ((IntKind.i64.wrap (x0_1 + x0_2)).tdiv 2))).f4) >>= fun t13 => (if t13 < x0_0 then (impl_place_impl_Mapping_uint64_v2f110.l0 l0 x0_0 (IntKind.i64.wrap ((IntKind.i64.wrap ((IntKind.i64.wrap (x0_1 + x0_2)).tdiv 2)) + 1)) x0_2) else (impl_place_impl_Mapping_uint64_v2f110.l0 l0 x0_0 x0_1 (IntKind.i64.wrap ((IntKind.i64.wrap (x0_1 + x0_2)).tdiv 2))))) else none) else (some x0_1))
 partial_fixpoint
def impl_place_impl_Mapping_uint64_v2f110.f (l0 : List S84) (a1 : Int) : Option Int := (impl_place_impl_Mapping_uint64_v2f110.l0 l0 a1 0 (l0.length : Int) >>= fun (y17 : Int) => (some y17))
def impl_place_impl_Mapping_uint64_v2f110.l0_M (cs0 : List Cell) (o0 : Nat) (l0 : List S84) (hv0 : Vw c84 5 cs0 o0 l0) (x0_0 : Int) (x0_1 : Int) (x0_2 : Int) (y : Int) : Prop := ∀ (K : AE → St → Prop), (K (.exit 0) ⟨[(7, .c (.sc (.int .i64 y)))], [(.arg 0, ⟨.fz, 5, cs0⟩)], [], []⟩) → loopS Try.prog 31 (.ga C109v2f110_l0) K ⟨[(0, .c (.ref (.arg 0) [] o0 l0.length)), (1, .c (.sc (.int .u64 x0_0))), (2, .c (.sc (.func (.func 110) #[] #[]))), (7, .c (.sc (.int .i64 x0_1))), (8, .c (.sc (.int .i64 x0_2)))], [(.arg 0, ⟨.fz, 5, cs0⟩)], [], []⟩
theorem impl_place_impl_Mapping_uint64_v2f110.l0_walk (cs0 : List Cell) (o0 : Nat) (l0 : List S84) (hv0 : Vw c84 5 cs0 o0 l0) (x0_0 : Int) (x0_1 : Int) (x0_2 : Int) (y : Int) (h : impl_place_impl_Mapping_uint64_v2f110.l0 l0 x0_0 x0_1 x0_2 = some y) : impl_place_impl_Mapping_uint64_v2f110.l0_M cs0 o0 l0 hv0 x0_0 x0_1 x0_2 y := by
 refine impl_place_impl_Mapping_uint64_v2f110.l0.partial_correctness l0 x0_0 (motive := fun x0_1 x0_2 y => impl_place_impl_Mapping_uint64_v2f110.l0_M cs0 o0 l0 hv0 x0_0 x0_1 x0_2 y) ?_ x0_1 x0_2 y h
 clear h
 unfold impl_place_impl_Mapping_uint64_v2f110.l0_M
 intro rec ih x0_1 x0_2 y h K hx0
 refine loop_unroll (ga_k fun G0 G0n G0r G0x => ?_)
 unfold C109v2f110_l0
 refine seq_k fun J5 hJ5 => ?_
 refine sr_k fun J6 hJ6 => ?_
 simp +decide only [reduceAdd, reduceMul, reduceToNat, ak]
 refine hJ6 _ ?_
 refine cond_k (b := decide (x0_1 < x0_2)) rfl (fun c7 => ?_) (fun c7 => ?_)
 ·replace c7 := of_decide_eq_true c7; rw [if_pos c7] at h
  refine hJ5 _ ?_
  refine block_k fun B8 B8n B8x B8r B8j => ?_
  refine sr_k fun J9 hJ9 => ?_
  simp +decide only [reduceAdd, reduceMul, reduceToNat, ak, ne_lit]
  refine hJ9 _ ?_
  refine sr_k fun J10 hJ10 => ?_
  obtain ⟨b11, h⟩ := of_guard h
  have g12 : (List.drop (o0 + (IntKind.i64.wrap ((IntKind.i64.wrap (x0_1 + x0_2)).tdiv 2)).toNat * 5) (cs0)).take 5 = [.sc (.int .u64 ((rd z84 l0 (IntKind.i64.wrap ((IntKind.i64.wrap (x0_1 + x0_2)).tdiv 2))).f0)), .sc (.int .i64 ((rd z84 l0 (IntKind.i64.wrap ((IntKind.i64.wrap (x0_1 + x0_2)).tdiv 2))).f1)), .sc (.int .i64 ((rd z84 l0 (IntKind.i64.wrap ((IntKind.i64.wrap (x0_1 + x0_2)).tdiv 2))).f2)), .sc (.int .i64 ((rd z84 l0 (IntKind.i64.wrap ((IntKind.i64.wrap (x0_1 + x0_2)).tdiv 2))).f3)), .sc (.int .i64 ((rd z84 l0 (IntKind.i64.wrap ((IntKind.i64.wrap (x0_1 + x0_2)).tdiv 2))).f4))] := hv0.stretch z84 b11.1 b11.2
  simp +decide only [reduceAdd, reduceMul, reduceToNat, ak, b11, g12]
  obtain ⟨t13, h14, h⟩ := of_bind h
  refine callv_fn (f := 110) (fn := Try.f110) rfl Try.func110 (by kernel_rfl) (by decide) ?_
  refine cm [] (impl_mapEnd.tri ((rd z84 l0 (IntKind.i64.wrap ((IntKind.i64.wrap (x0_1 + x0_2)).tdiv 2))).f0) ((rd z84 l0 (IntKind.i64.wrap ((IntKind.i64.wrap (x0_1 + x0_2)).tdiv 2))).f1) ((rd z84 l0 (IntKind.i64.wrap ((IntKind.i64.wrap (x0_1 + x0_2)).tdiv 2))).f2) ((rd z84 l0 (IntKind.i64.wrap ((IntKind.i64.wrap (x0_1 + x0_2)).tdiv 2))).f3) ((rd z84 l0 (IntKind.i64.wrap ((IntKind.i64.wrap (x0_1 + x0_2)).tdiv 2))).f4) _ h14) (fun hl14 => ?_)
  refine cs (mN ..) ?_ (s4 := [(.arg 0, ⟨.fz, 5, cs0⟩)])
  simp +decide only [reduceAdd, reduceMul, reduceToNat, ak]
  refine hJ10 _ ?_
  refine cond_k (b := decide (t13 < x0_0)) rfl (fun c16 => ?_) (fun c16 => ?_)
  ·replace c16 := of_decide_eq_true c16; rw [if_pos c16] at h
   refine reg_k ?_
   simp +decide only [reduceAdd, reduceMul, reduceToNat, ak]
   refine B8n _ ?_
   refine G0n _ _ (wk [0, 1, 2, 7, 8] [pI (.arg 0) .fz]) (ih _ _ _ h K hx0)
  ·replace c16 := of_decide_eq_false c16; rw [if_neg c16] at h
   refine reg_k ?_
   simp +decide only [reduceAdd, reduceMul, reduceToNat, ak]
   refine B8n _ ?_
   refine G0n _ _ (wk [0, 1, 2, 7, 8] [pI (.arg 0) .fz]) (ih _ _ _ h K hx0)
 ·replace c7 := of_decide_eq_false c7; rw [if_neg c7] at h
  obtain rfl := Option.some.inj h
  refine gh_k (wk [7] [pI (.arg 0) .fz]) ?_
  refine G0x _ _ ?_
  exact hx0
theorem impl_place_impl_Mapping_uint64_v2f110.tri (cs0 : List Cell) (o0 : Nat) (l0 : List S84) (hv0 : Vw c84 5 cs0 o0 l0) (a1 : Int) (r : Int) (h : impl_place_impl_Mapping_uint64_v2f110.f l0 a1 = some r) : Tri Try.prog 109 [.c (.ref (.arg 0) [] o0 l0.length), .c (.sc (.int .u64 a1)), .c (.sc (.func (.func 110) #[] #[]))] [(.arg 0, ⟨.fz, 5, cs0⟩)] (fun o => o = ⟨.c (.sc (.int .i64 r)), [(.arg 0, ⟨.fz, 5, cs0⟩)], [], []⟩) := by
 refine tri_of_body (ac := C109v2f110) (xs := r109v2f110) Try.func109 (show Try.f109.body = some (Try.f109.body.getD .skip) from rfl) k109v2f110 q109v2f110 (Nat.le_of_ble_eq_true rfl) ?_
 refine body_of fun K hKn hKr => ?_
 unfold impl_place_impl_Mapping_uint64_v2f110.f at h
 unfold C109v2f110
 simp only [initT, Nat.reduceAdd]
 refine sr_k fun J1 hJ1 => ?_
 simp +decide only [reduceAdd, reduceMul, reduceToNat, ak]
 refine hJ1 _ ?_
 refine sr_k fun J2 hJ2 => ?_
 simp +decide only [reduceAdd, reduceMul, reduceToNat, ak]
 refine hJ2 _ ?_
 refine seq_k fun J3 hJ3 => ?_
 refine block_k fun B4 B4n B4x B4r B4j => ?_
 obtain ⟨y17, h18, h⟩ := of_bind h
 refine gh_k (wk [0, 1, 2, 7, 8] [pI (.arg 0) .fz]) ?_
 rw [e_loop]
 refine impl_place_impl_Mapping_uint64_v2f110.l0_walk cs0 o0 l0 hv0 a1 0 (l0.length : Int) _ h18 _ ?_
 refine B4x _ ?_
 refine hJ3 _ ?_
 refine sr_k fun J19 hJ19 => ?_
 simp +decide only [reduceAdd, reduceMul, reduceToNat, ak]
 refine hJ19 _ ?_
 obtain rfl := Option.some.inj h
 refine hKr _ ⟨_, rfl, [], _, rfl, rfl, ?_⟩
 exact cl
/-! ### impl.ackedMaps: function 75 -/
def C75 : AC := .sr [.o (.mv 4 (.k 0)), .keep [0, 1]] (.seq (.sr [.m 5 1, .o (.bin 6 .eql (.t 5) (.const (.int .u64 18446744073709551615))), .keep [0, 1, 6]] (.cond (.t 6) (.sr [.m 7 0, .ln 8 7, .m 4 8, .keep [4]] (.ret)) (.skip))) (.sr [.m 9 0, .m 10 1, .o (.bin 11 .add (.t 10) (.const (.int .u64 1))), .call none (some 12) 109 [.tmp 9, .tmp 11, .func 110], .m 4 12, .keep [4]] (.ret)))
def r75 : List RV := [.tmp 4]
theorem k75 : compC Try.prog 13 C75 (Try.f75.body.getD .skip) = some C75.erase := by kernel_rfl
theorem q75 : rvsOf Try.prog Try.f75.results.toList = some r75 := by kernel_rfl
def impl_ackedMaps.f (l0 : List S84) (a1 : Int) : Option Int := (if a1 = 18446744073709551615 then (some (l0.length : Int)) else (impl_place_impl_Mapping_uint64_v2f110.f l0 (IntKind.u64.wrap (a1 + 1)) >>= fun t7 => (some t7)))
theorem impl_ackedMaps.tri (cs0 : List Cell) (o0 : Nat) (l0 : List S84) (hv0 : Vw c84 5 cs0 o0 l0) (a1 : Int) (r : Int) (h : impl_ackedMaps.f l0 a1 = some r) : Tri Try.prog 75 [.c (.ref (.arg 0) [] o0 l0.length), .c (.sc (.int .u64 a1))] [(.arg 0, ⟨.fz, 5, cs0⟩)] (fun o => o = ⟨.c (.sc (.int .i64 r)), [(.arg 0, ⟨.fz, 5, cs0⟩)], [], []⟩) := by
 refine tri_of_body (ac := C75) (xs := r75) Try.func75 (show Try.f75.body = some (Try.f75.body.getD .skip) from rfl) k75 q75 (Nat.le_of_ble_eq_true rfl) ?_
 refine body_of fun K hKn hKr => ?_
 unfold impl_ackedMaps.f at h
 unfold C75
 simp only [initT, Nat.reduceAdd]
 refine sr_k fun J1 hJ1 => ?_
 simp +decide only [reduceAdd, reduceMul, reduceToNat, ak]
 refine hJ1 _ ?_
 refine seq_k fun J2 hJ2 => ?_
 refine sr_k fun J3 hJ3 => ?_
 simp +decide only [reduceAdd, reduceMul, reduceToNat, ak]
 refine hJ3 _ ?_
 refine cond_k (b := decide (a1 = 18446744073709551615)) rfl (fun c4 => ?_) (fun c4 => ?_)
 ·replace c4 := of_decide_eq_true c4; rw [if_pos c4] at h
  refine sr_k fun J5 hJ5 => ?_
  simp +decide only [reduceAdd, reduceMul, reduceToNat, ak]
  refine hJ5 _ ?_
  obtain rfl := Option.some.inj h
  refine hKr _ ⟨_, rfl, [], _, rfl, rfl, ?_⟩
  exact cl
 ·replace c4 := of_decide_eq_false c4; rw [if_neg c4] at h
  refine hJ2 _ ?_
  refine sr_k fun J6 hJ6 => ?_
  simp +decide only [reduceAdd, reduceMul, reduceToNat, ak]
  obtain ⟨t7, h8, h⟩ := of_bind h
  refine cm [pI (.arg 0) .fz] (impl_place_impl_Mapping_uint64_v2f110.tri (cs0) o0 l0 hv0 (IntKind.u64.wrap (a1 + 1)) _ h8) (fun hl8 => ?_)
  refine cs (mF (mN ..)) ?_ (s4 := [(.arg 0, ⟨.fz, 5, cs0⟩)])
  simp +decide only [reduceAdd, reduceMul, reduceToNat, ak]
  refine hJ6 _ ?_
  obtain rfl := Option.some.inj h
  refine hKr _ ⟨_, rfl, [], _, rfl, rfl, ?_⟩
  exact cl
/-! ### impl.AckMaps: function 30 -/
def C30 : AC := .sr [.o (.mv 4 (.const (.slice none 0 0))), .gh, .o (.mv 5 (.k 0)), .keep [0, 1]] (.seq (.sr [.m 6 0, .call none (some 7) 74 [.tmp 6], .o (.un 8 .not (.t 7)), .keep [0, 1, 8]] (.cond (.t 8) (.sr [.o (.mv 4 (.const (.slice none 0 0))), .gh, .o (.mv 5 (.k 1)), .keep [4, 5]] (.ret)) (.skip))) (.sr [.m 9 0, .m 10 0, .m 11 1, .call none (some 12) 75 [.tmp 10, .tmp 11], .o (.slice 13 5 (.t 9) (some (.t 12)) none), .o (.app 14 5 40 false (.const (.slice none 0 0)) (.t 13)), .m 4 14, .o (.mv 5 (.k 0)), .keep [4, 5]] (.ret)))
def r30 : List RV := [.tmp 4, .tmp 5]
theorem k30 : compC Try.prog 15 C30 (Try.f30.body.getD .skip) = some C30.erase := by kernel_rfl
theorem q30 : rvsOf Try.prog Try.f30.results.toList = some r30 := by kernel_rfl
def impl_AckMaps.f (l0 : List S84) (a1 : Int) : Option ((List S84) × Int) := (impl_validMaps.f l0 >>= fun t4 => (if (!t4) = true then (some (([] : List S84), 1)) else (impl_ackedMaps.f l0 a1 >>= fun t10 => (if 0 ≤ t10 ∧ t10 ≤ (l0.length : Int) then (if (0 + (l0.length - t10.toNat)) * 40 ≤ 140737488355328 then (some ((List.drop t10.toNat l0), 0)) else none) else none))))
theorem impl_AckMaps.tri (cs0 : List Cell) (o0 : Nat) (l0 : List S84) (hv0 : Vw c84 5 cs0 o0 l0) (a1 : Int) (r : (List S84) × Int) (h : impl_AckMaps.f l0 a1 = some r) : Tri Try.prog 30 [.c (.ref (.arg 0) [] o0 l0.length), .c (.sc (.int .u64 a1))] [(.arg 0, ⟨.fz, 5, cs0⟩)] (fun o => o = ⟨.tup [(false, [.ref (.res 0) [] 0 r.1.length]), (false, [.sc (.int .i64 r.2)])], [(.arg 0, ⟨.fz, 5, cs0⟩), (.res 0, ⟨.lst, 5, encL c84 r.1⟩)], [], []⟩) := by
 refine tri_of_body (ac := C30) (xs := r30) Try.func30 (show Try.f30.body = some (Try.f30.body.getD .skip) from rfl) k30 q30 (Nat.le_of_ble_eq_true rfl) ?_
 refine body_of fun K hKn hKr => ?_
 unfold impl_AckMaps.f at h
 unfold C30
 simp only [initT, Nat.reduceAdd]
 refine sr_k fun J1 hJ1 => ?_
 simp +decide only [reduceAdd, reduceMul, reduceToNat, ak]
 refine gho_k (Weak.nm' 4 (.tmp 4 20) 5 (encL c84 ([] : List S84)) rfl rfl rfl) ?_
 simp +decide only [reduceAdd, reduceMul, reduceToNat, ak]
 refine hJ1 _ ?_
 refine seq_k fun J2 hJ2 => ?_
 refine sr_k fun J3 hJ3 => ?_
 simp +decide only [reduceAdd, reduceMul, reduceToNat, ak]
 obtain ⟨t4, h5, h⟩ := of_bind h
 refine cm [pI (.arg 0) .fz] (impl_validMaps.tri (cs0) o0 l0 hv0 _ h5) (fun hl5 => ?_)
 refine cs (mF (mN ..)) ?_ (s4 := [(.arg 0, ⟨.fz, 5, cs0⟩), (.tmp 4 20, ⟨.lst, 5, encL c84 ([] : List S84)⟩)])
 simp +decide only [reduceAdd, reduceMul, reduceToNat, ak]
 refine hJ3 _ ?_
 refine cond_k (b := !t4) rfl (fun c7 => ?_) (fun c7 => ?_)
 ·rw [if_pos c7] at h
  refine sr_k fun J8 hJ8 => ?_
  simp +decide only [reduceAdd, reduceMul, reduceToNat, ak]
  refine gho_k ((Weak.drop [.tmp 4 20]).trans (Weak.nm' 4 (.tmp 4 20) 5 (encL c84 ([] : List S84)) rfl rfl rfl)) ?_
  simp +decide only [reduceAdd, reduceMul, reduceToNat, ak]
  refine hJ8 _ ?_
  obtain rfl := Option.some.inj h
  refine hKr _ ⟨_, rfl, [⟨(.tmp 4 20), [], none, .lst⟩], _, rfl, rfl, ?_⟩
  exact cl
 ·rw [if_neg (Bool.eq_false_iff.1 c7)] at h
  refine hJ2 _ ?_
  refine sr_k fun J9 hJ9 => ?_
  simp +decide only [reduceAdd, reduceMul, reduceToNat, ak]
  obtain ⟨t10, h11, h⟩ := of_bind h
  refine cm [pI (.arg 0) .fz] (impl_ackedMaps.tri (cs0) o0 l0 hv0 a1 _ h11) (fun hl11 => ?_)
  refine cs (mF (mN ..)) ?_ (s4 := [(.arg 0, ⟨.fz, 5, cs0⟩), (.tmp 4 20, ⟨.lst, 5, encL c84 ([] : List S84)⟩)])
  obtain ⟨b13, h⟩ := of_guard h
  have g14 : 0 ≤ t10 := (by have := b13; omega)
  have g15 : t10.toNat ≤ l0.length := (by have := b13; omega)
  have g16 : (List.drop t10.toNat l0).length = l0.length - t10.toNat := by have := b13; have h0 : l0.length = l0.length := (by simp); simp only [List.length_drop, List.length_take] <;> omega
  have g17 : (List.drop (o0 + t10.toNat * 5) (cs0)).take ((l0.length - t10.toNat) * 5) = encL c84 (List.drop t10.toNat l0) := by simpa [g16] using (hv0.from (a := t10.toNat) (by have := b13; omega)).all
  have g18 : (encL c84 (List.drop t10.toNat l0)).all isSc = true := encL_all (fun _ => rfl) _
  obtain ⟨b19, h⟩ := of_guard h
  have g20 : appLim 0 (l0.length - t10.toNat) 40 := ⟨b19, by have := b19; omega⟩
  simp +decide only [reduceAdd, reduceMul, reduceToNat, ak, g14, g15, Nat.le_refl, g17, g18, g20]
  refine hJ9 _ ?_
  obtain rfl := Option.some.inj h
  refine hKr _ ⟨_, rfl, [⟨(.tmp 14 0), [], none, .lst⟩], _, rfl, rfl, ?_⟩
  exact cl
/-! ### impl.QueueMaps: function 35 -/
def C35_l0 : AC := .sr [.o (.bin 22 .lss (.t 21) (.t 20)), .keep [1, 6, 20, 21, 22]] (.seq (.cond (.t 22) (.skip) (.gh (.exit 0))) (.seq (.ga (.block 1 (.sr [.m 23 21, .m 7 23, .keep [1, 6, 7, 20, 21]] (.sr [.m 24 6, .m 25 7, .ia 26 5 24 25, .fa 27 3 26, .ld 28 1 27, .m 29 1, .o (.bin 30 .and (.t 28) (.t 29)), .o (.bin 31 .eql (.t 30) (.k 0)), .keep [1, 6, 7, 20, 21, 31]] (.cond (.t 31) (.reg [.m 32 6, .m 33 7, .ia 34 5 32 33, .fa 35 4 34, .o (.store 1 (.t 35) (.k 1)), .keep [1, 6, 20, 21]]) (.skip)))))) (.reg [.o (.bin 36 .add (.t 21) (.k 1)), .m 21 36, .keep [1, 6, 20, 21]])))
def C35 : AC := .sr [.o (.mv 4 (.const (.slice none 0 0))), .gh, .o (.mv 5 (.k 0)), .keep [0, 1]] (.seq (.sr [.m 8 0, .call none (some 9) 74 [.tmp 8], .o (.un 10 .not (.t 9)), .keep [0, 1, 10]] (.cond (.t 10) (.sr [.o (.mv 4 (.const (.slice none 0 0))), .gh, .o (.mv 5 (.k 1)), .keep [4, 5]] (.ret)) (.skip))) (.seq (.seq (.ga (.reg [.m 11 1, .o (.bin 12 .lss (.t 11) (.k 0)), .m 13 12, .op (some (13, false)) (.mv 14 (.t 1)), .op (some (13, false)) (.bin 15 .gtr (.t 14) (.k 255)), .o (.pick 16 (.t 13) (.const (.bool true)) (.t 15)), .keep [0, 1, 16]])) (.cond (.t 16) (.sr [.o (.mv 4 (.const (.slice none 0 0))), .gh, .o (.mv 5 (.k 4)), .keep [4, 5]] (.ret)) (.skip))) (.sr [.m 17 0, .o (.app 18 5 40 false (.const (.slice none 0 0)) (.t 17)), .m 6 18, .keep [1, 6]] (.seq (.sr [.m 19 6, .ln 20 19, .o (.mv 21 (.k 0)), .keep [1, 6, 20, 21]] (.block 0 (.gh (.loop (.ga C35_l0))))) (.sr [.m 37 6, .m 4 37, .o (.mv 5 (.k 0)), .keep [4, 5]] (.ret))))))
def r35 : List RV := [.tmp 4, .tmp 5]
theorem k35 : compC Try.prog 38 C35 (Try.f35.body.getD .skip) = some C35.erase := by kernel_rfl
theorem q35 : rvsOf Try.prog Try.f35.results.toList = some r35 := by kernel_rfl
def impl_QueueMaps.l0 (l0 : List S84) (x0_0 : Int) (x0_1 : Int) (x0_2 : Int) (x0_3 : (List S84)) : Option (List S84) := (if x0_2 < x0_1 then ((if 0 ≤ x0_2 ∧ x0_2 < (x0_3.length : Int) then (if bits .and .i64 ((rd z84 x0_3 x0_2).f3) x0_0 = 0 then (some (x0_3.set x0_2.toNat (⟨(rd z84 x0_3 x0_2).f0, (rd z84 x0_3 x0_2).f1, (rd z84 x0_3 x0_2).f2, (rd z84 x0_3 x0_2).f3, 1⟩ : S84))) else (some x0_3)) else none) >>= fun (j30 : (List S84)) => (impl_QueueMaps.l0 l0 x0_0 x0_1 (IntKind.i64.wrap (x0_2 + 1)) j30)) else (some x0_3))
 partial_fixpoint
def impl_QueueMaps.f (l0 : List S84) (a1 : Int) : Option ((List S84) × Int) := (impl_validMaps.f l0 >>= fun t4 => (if (!t4) = true then (some (([] : List S84), 1)) else ((if a1 < 0 then (some true) else (some (decide (a1 > 255)))) >>= fun (j10 : Bool) => (if j10 = true then (some (([] : List S84), 4)) else (if (0 + l0.length) * 40 ≤ 140737488355328 then (impl_QueueMaps.l0 l0 a1 (0 + l0.length : Int) 0 l0 >>= fun (y46 : (List S84)) => (some (y46, 0))) else none)))))
def impl_QueueMaps.l0_M (cs0 : List Cell) (o0 : Nat) (l0 : List S84) (hv0 : Vw c84 5 cs0 o0 l0) (x0_0 : Int) (x0_1 : Int) (x0_2 : Int) (x0_3 : (List S84)) (y : (List S84)) : Prop := ∀ (K : AE → St → Prop), (K (.exit 0) ⟨[(6, .c (.ref (.tmp 18 0) [] 0 y.length))], [(.arg 0, ⟨.fz, 5, cs0⟩), (.tmp 18 0, ⟨.lst, 5, encL c84 y⟩)], [], []⟩) → loopS Try.prog 38 (.ga C35_l0) K ⟨[(1, .c (.sc (.int .i64 x0_0))), (6, .c (.ref (.tmp 18 0) [] 0 x0_3.length)), (20, .c (.sc (.int .i64 x0_1))), (21, .c (.sc (.int .i64 x0_2)))], [(.arg 0, ⟨.fz, 5, cs0⟩), (.tmp 18 0, ⟨.lst, 5, encL c84 x0_3⟩)], [], []⟩
theorem impl_QueueMaps.l0_walk (cs0 : List Cell) (o0 : Nat) (l0 : List S84) (hv0 : Vw c84 5 cs0 o0 l0) (x0_0 : Int) (x0_1 : Int) (x0_2 : Int) (x0_3 : (List S84)) (y : (List S84)) (h : impl_QueueMaps.l0 l0 x0_0 x0_1 x0_2 x0_3 = some y) : impl_QueueMaps.l0_M cs0 o0 l0 hv0 x0_0 x0_1 x0_2 x0_3 y := by
 refine impl_QueueMaps.l0.partial_correctness l0 x0_0 x0_1 (motive := fun x0_2 x0_3 y => impl_QueueMaps.l0_M cs0 o0 l0 hv0 x0_0 x0_1 x0_2 x0_3 y) ?_ x0_2 x0_3 y h
 clear h
 unfold impl_QueueMaps.l0_M
 intro rec ih x0_2 x0_3 y h K hx0
 refine loop_unroll (ga_k fun G0 G0n G0r G0x => ?_)
 unfold C35_l0
 refine sr_k fun J27 hJ27 => ?_
 simp +decide only [reduceAdd, reduceMul, reduceToNat, ak]
 refine hJ27 _ ?_
 refine seq_k fun J28 hJ28 => ?_
 refine cond_k (b := decide (x0_2 < x0_1)) rfl (fun c29 => ?_) (fun c29 => ?_)
 ·replace c29 := of_decide_eq_true c29; rw [if_pos c29] at h
  refine hJ28 _ ?_
  obtain ⟨j30, h31, hn⟩ := of_bind h
  refine seq_j (fun st => st = ⟨[(1, .c (.sc (.int .i64 x0_0))), (6, .c (.ref (.tmp 18 0) [] 0 j30.length)), (20, .c (.sc (.int .i64 x0_1))), (21, .c (.sc (.int .i64 x0_2)))], [(.arg 0, ⟨.fz, 5, cs0⟩), (.tmp 18 0, ⟨.lst, 5, encL c84 j30⟩)], [], []⟩) (fun J32 hJ32 => ?_) ?_
  ·replace h := h31; clear hn
   refine ga_k fun G33 G33n G33r G33x => ?_
   refine block_k fun B34 B34n B34x B34r B34j => ?_
   refine sr_k fun J35 hJ35 => ?_
   simp +decide only [reduceAdd, reduceMul, reduceToNat, ak]
   refine hJ35 _ ?_
   refine sr_k fun J36 hJ36 => ?_
   obtain ⟨b37, h⟩ := of_guard h
   have g38 : 0 + x0_2.toNat * 5 + 3 ≤ (encL c84 x0_3).length := ((Vw.whole c84_w x0_3).len_le b37.1 b37.2 (by decide))
   have g39 : (encL c84 x0_3)[0 + x0_2.toNat * 5 + 3]? = some (.sc (.int .i64 ((rd z84 x0_3 x0_2).f3))) := (Vw.whole c84_w x0_3).get z84 3 b37.1 b37.2 (by decide)
   simp +decide only [reduceAdd, reduceMul, reduceToNat, ak, b37, g38, g39]
   refine hJ36 _ ?_
   refine cond_k (b := decide (bits .and .i64 ((rd z84 x0_3 x0_2).f3) x0_0 = 0)) rfl (fun c40 => ?_) (fun c40 => ?_)
   ·replace c40 := of_decide_eq_true c40; rw [if_pos c40] at h
    refine reg_k ?_
    have g41 : 0 + x0_2.toNat * 5 + 4 ≤ (encL c84 x0_3).length := ((Vw.whole c84_w x0_3).len_le b37.1 b37.2 (by decide))
    have g42 : 0 + x0_2.toNat * 5 + 4 + 1 ≤ (encL c84 x0_3).length := (Vw.whole c84_w x0_3).le b37.1 b37.2 (j := 4) (q := 1) (by decide)
    have g43 : 0 + x0_2.toNat * 5 + 4 < (encL c84 x0_3).length := (Vw.whole c84_w x0_3).lt b37.1 b37.2 (j := 4) (by decide)
    have g44 : (encL c84 x0_3)[0 + x0_2.toNat * 5 + 4]? = some (.sc (.int .i64 ((rd z84 x0_3 x0_2).f4))) := (Vw.whole c84_w x0_3).get z84 4 b37.1 b37.2 (by decide)
    have g45 : (encL c84 x0_3).set (0 + x0_2.toNat * 5 + 4) (.sc (.int .i64 1)) = encL c84 (x0_3.set x0_2.toNat (⟨(rd z84 x0_3 x0_2).f0, (rd z84 x0_3 x0_2).f1, (rd z84 x0_3 x0_2).f2, (rd z84 x0_3 x0_2).f3, 1⟩ : S84)) := encL_put c84_w z84 b37.1 b37.2 (j := 4) (by decide) rfl
    simp +decide only [reduceAdd, reduceMul, reduceToNat, ak, b37, g41, g42, g43, g44, g45]
    refine B34n _ ?_
    obtain rfl := Option.some.inj h
    refine G33n _ _ (wj [1, 6, 20, 21] [pI (.arg 0) .fz, pI (.tmp 18 0) .lst]) (hJ32 _ rfl)
   ·replace c40 := of_decide_eq_false c40; rw [if_neg c40] at h
    refine B34n _ ?_
    obtain rfl := Option.some.inj h
    refine G33n _ _ (wk [1, 6, 20, 21] [pI (.arg 0) .fz, pI (.tmp 18 0) .lst]) (hJ32 _ rfl)
  ·replace h := hn; clear hn h31
   rintro _ rfl
   refine reg_k ?_
   simp +decide only [reduceAdd, reduceMul, reduceToNat, ak]
   refine G0n _ _ (wk [1, 6, 20, 21] [pI (.arg 0) .fz, pI (.tmp 18 0) .lst]) (ih _ _ _ h K hx0)
 ·replace c29 := of_decide_eq_false c29; rw [if_neg c29] at h
  obtain rfl := Option.some.inj h
  refine gh_k (wk [6] [pI (.arg 0) .fz, pI (.tmp 18 0) .lst]) ?_
  refine G0x _ _ ?_
  exact hx0
theorem impl_QueueMaps.tri (cs0 : List Cell) (o0 : Nat) (l0 : List S84) (hv0 : Vw c84 5 cs0 o0 l0) (a1 : Int) (r : (List S84) × Int) (h : impl_QueueMaps.f l0 a1 = some r) : Tri Try.prog 35 [.c (.ref (.arg 0) [] o0 l0.length), .c (.sc (.int .i64 a1))] [(.arg 0, ⟨.fz, 5, cs0⟩)] (fun o => o = ⟨.tup [(false, [.ref (.res 0) [] 0 r.1.length]), (false, [.sc (.int .i64 r.2)])], [(.arg 0, ⟨.fz, 5, cs0⟩), (.res 0, ⟨.lst, 5, encL c84 r.1⟩)], [], []⟩) := by
 refine tri_of_body (ac := C35) (xs := r35) Try.func35 (show Try.f35.body = some (Try.f35.body.getD .skip) from rfl) k35 q35 (Nat.le_of_ble_eq_true rfl) ?_
 refine body_of fun K hKn hKr => ?_
 unfold impl_QueueMaps.f at h
 unfold C35
 simp only [initT, Nat.reduceAdd]
 refine sr_k fun J1 hJ1 => ?_
 simp +decide only [reduceAdd, reduceMul, reduceToNat, ak]
 refine gho_k (Weak.nm' 4 (.tmp 4 20) 5 (encL c84 ([] : List S84)) rfl rfl rfl) ?_
 simp +decide only [reduceAdd, reduceMul, reduceToNat, ak]
 refine hJ1 _ ?_
 refine seq_k fun J2 hJ2 => ?_
 refine sr_k fun J3 hJ3 => ?_
 simp +decide only [reduceAdd, reduceMul, reduceToNat, ak]
 obtain ⟨t4, h5, h⟩ := of_bind h
 refine cm [pI (.arg 0) .fz] (impl_validMaps.tri (cs0) o0 l0 hv0 _ h5) (fun hl5 => ?_)
 refine cs (mF (mN ..)) ?_ (s4 := [(.arg 0, ⟨.fz, 5, cs0⟩), (.tmp 4 20, ⟨.lst, 5, encL c84 ([] : List S84)⟩)])
 simp +decide only [reduceAdd, reduceMul, reduceToNat, ak]
 refine hJ3 _ ?_
 refine cond_k (b := !t4) rfl (fun c7 => ?_) (fun c7 => ?_)
 ·rw [if_pos c7] at h
  refine sr_k fun J8 hJ8 => ?_
  simp +decide only [reduceAdd, reduceMul, reduceToNat, ak]
  refine gho_k ((Weak.drop [.tmp 4 20]).trans (Weak.nm' 4 (.tmp 4 20) 5 (encL c84 ([] : List S84)) rfl rfl rfl)) ?_
  simp +decide only [reduceAdd, reduceMul, reduceToNat, ak]
  refine hJ8 _ ?_
  obtain rfl := Option.some.inj h
  refine hKr _ ⟨_, rfl, [⟨(.tmp 4 20), [], none, .lst⟩], _, rfl, rfl, ?_⟩
  exact cl
 ·rw [if_neg (Bool.eq_false_iff.1 c7)] at h
  refine hJ2 _ ?_
  refine seq_k fun J9 hJ9 => ?_
  obtain ⟨j10, h11, hn⟩ := of_bind h
  refine seq_j (fun st => st = ⟨[(0, .c (.ref (.arg 0) [] o0 l0.length)), (1, .c (.sc (.int .i64 a1))), (16, .c (.sc (.bool j10)))], [(.arg 0, ⟨.fz, 5, cs0⟩)], [], []⟩) (fun J12 hJ12 => ?_) ?_
  ·replace h := h11; clear hn
   refine ga_k fun G13 G13n G13r G13x => ?_
   refine reg_k ?_
   simp +decide only [reduceAdd, reduceMul, reduceToNat, ak]
   by_cases c14 : a1 < 0
   ·rw [if_pos c14] at h
    have e15 : decide (a1 < 0) = true := decide_eq_true c14
    simp +decide only [reduceAdd, reduceMul, reduceToNat, ak, e15]
    obtain rfl := Option.some.inj h
    refine G13n _ _ (wj [0, 1, 16] [pI (.arg 0) .fz]) (hJ12 _ rfl)
   ·rw [if_neg c14] at h
    have e16 : decide (a1 < 0) = false := decide_eq_false c14
    simp +decide only [reduceAdd, reduceMul, reduceToNat, ak, e16]
    obtain rfl := Option.some.inj h
    refine G13n _ _ (wj [0, 1, 16] [pI (.arg 0) .fz]) (hJ12 _ rfl)
  ·replace h := hn; clear hn h11
   rintro _ rfl
   refine cond_k (b := j10) rfl (fun c17 => ?_) (fun c17 => ?_)
   ·rw [if_pos c17] at h
    refine sr_k fun J18 hJ18 => ?_
    simp +decide only [reduceAdd, reduceMul, reduceToNat, ak]
    refine gho_k (Weak.nm' 4 (.tmp 4 20) 5 (encL c84 ([] : List S84)) rfl rfl rfl) ?_
    simp +decide only [reduceAdd, reduceMul, reduceToNat, ak]
    refine hJ18 _ ?_
    obtain rfl := Option.some.inj h
    refine hKr _ ⟨_, rfl, [⟨(.tmp 4 20), [], none, .lst⟩], _, rfl, rfl, ?_⟩
    exact cl
   ·rw [if_neg (Bool.eq_false_iff.1 c17)] at h
    refine hJ9 _ ?_
    refine sr_k fun J19 hJ19 => ?_
    have g20 : (List.drop o0 (cs0)).take (l0.length * 5) = encL c84 l0 := by simpa using hv0.all
    have g21 : (encL c84 l0).all isSc = true := encL_all (fun _ => rfl) _
    obtain ⟨b22, h⟩ := of_guard h
    have g23 : appLim 0 l0.length 40 := ⟨b22, by have := b22; omega⟩
    simp +decide only [reduceAdd, reduceMul, reduceToNat, ak, g20, g21, g23]
    refine hJ19 _ ?_
    refine seq_k fun J24 hJ24 => ?_
    refine sr_k fun J25 hJ25 => ?_
    simp +decide only [reduceAdd, reduceMul, reduceToNat, ak]
    refine hJ25 _ ?_
    refine block_k fun B26 B26n B26x B26r B26j => ?_
    obtain ⟨y46, h47, h⟩ := of_bind h
    refine gh_k (st' := ⟨[(1, .c (.sc (.int .i64 a1))), (6, .c (.ref (.tmp 18 0) [] 0 l0.length)), (20, .c (.sc (.int .i64 (0 + l0.length : Int)))), (21, .c (.sc (.int .i64 0)))], [(.arg 0, ⟨.fz, 5, cs0⟩), (.tmp 18 0, ⟨.lst, 5, encL c84 l0⟩)], [], []⟩) (wk [1, 6, 20, 21] [pI (.arg 0) .fz, pI (.tmp 18 0) .lst] (h0 := by first | rfl | simp +decide only [ak, akF, b22]) (h := by first | rfl | (simp +decide only [ak, akF, b22]; done) | (simp +decide [ak, akF, b22] <;> omega))) ?_
    rw [e_loop]
    refine impl_QueueMaps.l0_walk cs0 o0 l0 hv0 a1 (0 + l0.length : Int) 0 l0 _ h47 _ ?_
    refine B26x _ ?_
    refine hJ24 _ ?_
    refine sr_k fun J48 hJ48 => ?_
    simp +decide only [reduceAdd, reduceMul, reduceToNat, ak]
    refine hJ48 _ ?_
    obtain rfl := Option.some.inj h
    refine hKr _ ⟨_, rfl, [⟨(.tmp 18 0), [], none, .lst⟩], _, rfl, rfl, ?_⟩
    exact cl
end Go.AK
