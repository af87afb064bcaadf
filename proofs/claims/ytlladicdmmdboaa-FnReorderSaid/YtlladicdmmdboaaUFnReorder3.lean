-- by a program of this session (wip/ak/pw.py)
import Derived.Test.YtlladicdmmdboaaUFnReorder2
set_option synthInstance.maxSize 20000
set_option synthInstance.maxHeartbeats 400000
set_option maxRecDepth 100000
set_option maxHeartbeats 4000000
set_option linter.unusedVariables false
set_option linter.unusedSimpArgs false
namespace Go.AK
open Go Go.Proofs
/-! ### impl.SpanGaps: function 66 -/
def C66_l0 : AC := .seq (.reg [.op none (.bin 19 .lss (.tmp 18) (.tmp 17)), .keep [3, 6, 7, 16, 17, 18, 19]]) (.seq (.cond (.tmp 19) (.skip) (.gh (.exit 0))) (.seq (.ga (.block 1 (.seq (.reg [.op none (.iaddr 20 2 (.tmp 16) (.tmp 18)), .op none (.load 21 true 2 (.tmp 20)), .op none (.alloc 9 [.int .u64 0, .int .u64 0]), .op none (.store 2 (.tmp 9) (.tmp 21)), .keep [3, 6, 7, 9, 16, 17, 18]]) (.seq (.seq (.ga (.reg [.op none (.faddr 22 1 (.tmp 9)), .op none (.load 23 false 1 (.tmp 22)), .op none (.mv 24 (.tmp 7)), .op none (.bin 25 .leq (.tmp 23) (.tmp 24)), .op none (.mv 26 (.tmp 25)), .op (some (26, false)) (.faddr 27 0 (.tmp 9)), .op (some (26, false)) (.load 28 false 1 (.tmp 27)), .op (some (26, false)) (.faddr 29 1 (.tmp 3)), .op (some (26, false)) (.load 30 false 1 (.tmp 29)), .op (some (26, false)) (.bin 31 .geq (.tmp 28) (.tmp 30)), .op none (.pick 32 (.tmp 26) (.const (.bool true)) (.tmp 31)), .keep [3, 6, 7, 9, 16, 17, 18, 32]])) (.cond (.tmp 32) (.exit 1) (.skip))) (.seq (.ga (.seq (.reg [.op none (.mv 33 (.tmp 7)), .op none (.faddr 34 0 (.tmp 9)), .op none (.load 35 false 1 (.tmp 34)), .op none (.bin 36 .lss (.tmp 33) (.tmp 35)), .keep [3, 6, 7, 9, 16, 17, 18, 36]]) (.cond (.tmp 36) (.reg [.op none (.mv 37 (.tmp 6)), .op none (.mv 38 (.tmp 7)), .op none (.faddr 39 0 (.tmp 9)), .op none (.load 40 false 1 (.tmp 39)), .op none (.build 41 [.int .u64 0, .int .u64 0] [(0, 1, .tmp 38), (1, 1, .tmp 40)]), .op none (.bslice 42 2 [.int .u64 0, .int .u64 0] 1 [(0, .tmp 41)]), .op none (.app 43 2 16 true (.tmp 37) (.tmp 42)), .op none (.mv 6 (.tmp 43)), .keep [3, 6, 9, 16, 17, 18]]) (.skip)))) (.reg [.op none (.faddr 44 1 (.tmp 9)), .op none (.load 45 false 1 (.tmp 44)), .op none (.mv 7 (.tmp 45)), .keep [3, 6, 7, 16, 17, 18]])))))) (.reg [.op none (.bin 46 .add (.tmp 18) (.const (.int .i64 1))), .op none (.mv 18 (.tmp 46)), .keep [3, 6, 7, 16, 17, 18]])))
def C66 : AC := .seq (.reg [.op none (.box 3 (.tmp 1)), .op none (.mv 4 (.const (.slice none 0 0))), .gh, .op none (.mv 5 (.const (.int .i64 0))), .keep [0, 3]]) (.seq (.seq (.reg [.op none (.mv 10 (.tmp 0)), .op none (.load 11 true 2 (.tmp 3)), .call none (some 12) 112 [.tmp 10, .tmp 11], .op none (.un 13 .not (.tmp 12)), .keep [0, 3, 13]]) (.cond (.tmp 13) (.seq (.reg [.op none (.mv 4 (.const (.slice none 0 0))), .gh, .op none (.mv 5 (.const (.int .i64 1))), .keep [4, 5]]) (.ret)) (.skip))) (.seq (.reg [.op none (.mv 6 (.const (.slice none 0 0))), .gh, .keep [0, 3, 6]]) (.seq (.reg [.op none (.faddr 14 0 (.tmp 3)), .op none (.load 15 false 1 (.tmp 14)), .op none (.mv 7 (.tmp 15)), .keep [0, 3, 6, 7]]) (.seq (.seq (.reg [.op none (.mv 16 (.tmp 0)), .op none (.len 17 (.tmp 16)), .op none (.mv 18 (.const (.int .i64 0))), .keep [3, 6, 7, 16, 17, 18]]) (.block 0 (.gh (.loop (.ga C66_l0))))) (.seq (.ga (.seq (.reg [.op none (.mv 47 (.tmp 7)), .op none (.faddr 48 1 (.tmp 3)), .op none (.load 49 false 1 (.tmp 48)), .op none (.bin 50 .lss (.tmp 47) (.tmp 49)), .keep [3, 6, 7, 50]]) (.cond (.tmp 50) (.reg [.op none (.mv 51 (.tmp 6)), .op none (.mv 52 (.tmp 7)), .op none (.faddr 53 1 (.tmp 3)), .op none (.load 54 false 1 (.tmp 53)), .op none (.build 55 [.int .u64 0, .int .u64 0] [(0, 1, .tmp 52), (1, 1, .tmp 54)]), .op none (.bslice 56 2 [.int .u64 0, .int .u64 0] 1 [(0, .tmp 55)]), .op none (.app 57 2 16 true (.tmp 51) (.tmp 56)), .op none (.mv 6 (.tmp 57)), .keep [6]]) (.skip)))) (.seq (.reg [.op none (.mv 58 (.tmp 6)), .call none (some 59) 113 [.tmp 58], .op none (.extr 60 (.tmp 59) 0), .op none (.extr 61 (.tmp 59) 1), .op none (.mv 4 (.tmp 60)), .op none (.mv 5 (.tmp 61)), .keep [4, 5]]) (.ret)))))))
def r66 : List RV := [.tmp 4, .tmp 5]
theorem k66 : compC Try.prog 62 C66 (Try.f66.body.getD .skip) = some C66.erase := by kernel_rfl
theorem q66 : rvsOf Try.prog Try.f66.results.toList = some r66 := by kernel_rfl
def impl_SpanGaps.l0 (l0 : List S122) (x0_1 : Int) (x0_3 : Int) (x0_4 : Int) (x0_0 : Int) (x0_2 : Int) (x0_5 : (List S122)) : Option (Int × (List S122)) := (if x0_2 < x0_1 then ((if 0 ≤ x0_2 ∧ x0_2 < (l0.length : Int) then ((if (rd z122 l0 x0_2).f1 ≤ x0_0 then (some true) else (some (decide ((rd z122 l0 x0_2).f0 ≥ x0_4)))) >>= fun (j26 : Bool) => (if j26 = true then (some (x0_0, x0_5)) else ((if x0_0 < (rd z122 l0 x0_2).f0 then (if (x0_5.length + 1) * 16 ≤ 140737488355328 then (some (x0_5 ++ ([(⟨x0_0, (rd z122 l0 x0_2).f0⟩ : S122)] : List S122))) else none) else (some x0_5)) >>= fun (j34 : (List S122)) => (some ((rd z122 l0 x0_2).f1, j34))))) else none) >>= fun (j17 : Int × (List S122)) => (impl_SpanGaps.l0 l0 x0_1 x0_3 x0_4 j17.1 (IntKind.i64.wrap (x0_2 + 1)) j17.2)) else (some (x0_0, x0_5)))
 partial_fixpoint
def impl_SpanGaps.f (l0 : List S122) (a1_0 : Int) (a1_1 : Int) : Option ((List S122) × Int) := (impl_validSpans.f l0 a1_0 a1_1 >>= fun t4 => (if (!t4) = true then (some (([] : List S122), 1)) else (impl_SpanGaps.l0 l0 (l0.length : Int) a1_0 a1_1 a1_0 0 ([] : List S122) >>= fun (y49 : (Int × (List S122))) => ((if y49.1 < a1_1 then (if (y49.2.length + 1) * 16 ≤ 140737488355328 then (some (y49.2 ++ ([(⟨y49.1, a1_1⟩ : S122)] : List S122))) else none) else (some y49.2)) >>= fun (j51 : (List S122)) => (impl_limited.f j51 >>= fun t67 => (match t67.1 with | none => (some (j51, t67.2)) | some p71 => (some (p71, t67.2))))))))
def impl_SpanGaps.l0_M (cs0 : List Cell) (o0 : Nat) (l0 : List S122) (hv0 : Vw c122 2 cs0 o0 l0) (x0_1 : Int) (x0_3 : Int) (x0_4 : Int) (x0_0 : Int) (x0_2 : Int) (x0_5 : (List S122)) (y : (Int × (List S122))) : Prop := ∀ (K : AE → St → Prop), (K (.exit 0) ⟨[(3, .c (.ptr (.tmp 3 0) [] 0)), (6, .c (.ref (.tmp 6 20) [] 0 y.2.length)), (7, .c (.sc (.int .u64 y.1)))], [(.arg 0, ⟨.fz, 2, cs0⟩), (.tmp 3 0, ⟨.box, 0, [.sc (.int .u64 x0_3), .sc (.int .u64 x0_4)]⟩), (.tmp 6 20, ⟨.lst, 2, encL c122 y.2⟩)], [], []⟩) → loopS Try.prog 62 (.ga C66_l0) K ⟨[(3, .c (.ptr (.tmp 3 0) [] 0)), (6, .c (.ref (.tmp 6 20) [] 0 x0_5.length)), (7, .c (.sc (.int .u64 x0_0))), (16, .c (.ref (.arg 0) [] o0 l0.length)), (17, .c (.sc (.int .i64 x0_1))), (18, .c (.sc (.int .i64 x0_2)))], [(.arg 0, ⟨.fz, 2, cs0⟩), (.tmp 3 0, ⟨.box, 0, [.sc (.int .u64 x0_3), .sc (.int .u64 x0_4)]⟩), (.tmp 6 20, ⟨.lst, 2, encL c122 x0_5⟩)], [], []⟩
theorem impl_SpanGaps.l0_walk (cs0 : List Cell) (o0 : Nat) (l0 : List S122) (hv0 : Vw c122 2 cs0 o0 l0) (x0_1 : Int) (x0_3 : Int) (x0_4 : Int) (x0_0 : Int) (x0_2 : Int) (x0_5 : (List S122)) (y : (Int × (List S122))) (h : impl_SpanGaps.l0 l0 x0_1 x0_3 x0_4 x0_0 x0_2 x0_5 = some y) : impl_SpanGaps.l0_M cs0 o0 l0 hv0 x0_1 x0_3 x0_4 x0_0 x0_2 x0_5 y := by
 refine impl_SpanGaps.l0.partial_correctness l0 x0_1 x0_3 x0_4 (motive := fun x0_0 x0_2 x0_5 y => impl_SpanGaps.l0_M cs0 o0 l0 hv0 x0_1 x0_3 x0_4 x0_0 x0_2 x0_5 y) ?_ x0_0 x0_2 x0_5 y h
 clear h
 unfold impl_SpanGaps.l0_M
 intro rec ih x0_0 x0_2 x0_5 y h K hx0
 refine loop_unroll (ga_k fun G0 G0n G0r G0x => ?_)
 unfold C66_l0
 refine sr_k fun J14 hJ14 => ?_
 simp +decide only [Nat.reduceAdd, Nat.reduceMul, Int.reduceToNat, ak]
 refine hJ14 _ ?_
 refine seq_k fun J15 hJ15 => ?_
 refine cond_k (b := decide (x0_2 < x0_1)) rfl (fun c16 => ?_) (fun c16 => ?_)
 ·replace c16 := of_decide_eq_true c16; rw [if_pos c16] at h
  refine hJ15 _ ?_
  obtain ⟨j17, h18, hn⟩ := of_bind h
  refine seq_j (fun st => st = ⟨[(3, .c (.ptr (.tmp 3 0) [] 0)), (6, .c (.ref (.tmp 6 20) [] 0 j17.2.length)), (7, .c (.sc (.int .u64 j17.1))), (16, .c (.ref (.arg 0) [] o0 l0.length)), (17, .c (.sc (.int .i64 x0_1))), (18, .c (.sc (.int .i64 x0_2)))], [(.arg 0, ⟨.fz, 2, cs0⟩), (.tmp 3 0, ⟨.box, 0, [.sc (.int .u64 x0_3), .sc (.int .u64 x0_4)]⟩), (.tmp 6 20, ⟨.lst, 2, encL c122 j17.2⟩)], [], []⟩) (fun J19 hJ19 => ?_) ?_
  ·replace h := h18; clear hn
   refine ga_k fun G20 G20n G20r G20x => ?_
   refine block_k fun B21 B21n B21x B21r B21j => ?_
   refine sr_k fun J22 hJ22 => ?_
   obtain ⟨b23, h⟩ := of_guard h
   have g24 : (List.drop (o0 + x0_2.toNat * 2) (cs0)).take 2 = [.sc (.int .u64 ((rd z122 l0 x0_2).f0)), .sc (.int .u64 ((rd z122 l0 x0_2).f1))] := hv0.stretch z122 b23.1 b23.2
   simp +decide only [Nat.reduceAdd, Nat.reduceMul, Int.reduceToNat, ak, b23, g24]
   refine hJ22 _ ?_
   refine seq_k fun J25 hJ25 => ?_
   obtain ⟨j26, h27, hn⟩ := of_bind h
   refine seq_j (fun st => st = ⟨[(3, .c (.ptr (.tmp 3 0) [] 0)), (6, .c (.ref (.tmp 6 20) [] 0 x0_5.length)), (7, .c (.sc (.int .u64 x0_0))), (9, .c (.ptr (.tmp 9 0) [] 0)), (16, .c (.ref (.arg 0) [] o0 l0.length)), (17, .c (.sc (.int .i64 x0_1))), (18, .c (.sc (.int .i64 x0_2))), (32, .c (.sc (.bool j26)))], [(.arg 0, ⟨.fz, 2, cs0⟩), (.tmp 3 0, ⟨.box, 0, [.sc (.int .u64 x0_3), .sc (.int .u64 x0_4)]⟩), (.tmp 6 20, ⟨.lst, 2, encL c122 x0_5⟩), (.tmp 9 0, ⟨.box, 0, [.sc (.int .u64 ((rd z122 l0 x0_2).f0)), .sc (.int .u64 ((rd z122 l0 x0_2).f1))]⟩)], [], []⟩) (fun J28 hJ28 => ?_) ?_
   ·replace h := h27; clear hn
    refine ga_k fun G29 G29n G29r G29x => ?_
    refine reg_k ?_
    simp +decide only [Nat.reduceAdd, Nat.reduceMul, Int.reduceToNat, ak]
    by_cases c30 : (rd z122 l0 x0_2).f1 ≤ x0_0
    ·rw [if_pos c30] at h
     have e31 : decide ((rd z122 l0 x0_2).f1 ≤ x0_0) = true := decide_eq_true c30
     simp +decide only [Nat.reduceAdd, Nat.reduceMul, Int.reduceToNat, ak, e31]
     obtain rfl := Option.some.inj h
     refine G29n _ _ (wk [3, 6, 7, 9, 16, 17, 18, 32] [pI (.arg 0) .fz, pI (.tmp 3 0) .box, pI (.tmp 6 20) .lst, pI (.tmp 9 0) .box] (h0 := by first | rfl | simp +decide only [ak, akF, b23, e31]) (h := by first | rfl | (simp +decide only [ak, akF, b23, e31]; done) | (simp +decide [ak, akF, b23, e31] <;> omega))) (hJ28 _ rfl)
    ·rw [if_neg c30] at h
     have e32 : decide ((rd z122 l0 x0_2).f1 ≤ x0_0) = false := decide_eq_false c30
     simp +decide only [Nat.reduceAdd, Nat.reduceMul, Int.reduceToNat, ak, e32]
     obtain rfl := Option.some.inj h
     refine G29n _ _ (wk [3, 6, 7, 9, 16, 17, 18, 32] [pI (.arg 0) .fz, pI (.tmp 3 0) .box, pI (.tmp 6 20) .lst, pI (.tmp 9 0) .box] (h0 := by first | rfl | simp +decide only [ak, akF, b23, e32]) (h := by first | rfl | (simp +decide only [ak, akF, b23, e32]; done) | (simp +decide [ak, akF, b23, e32] <;> omega))) (hJ28 _ rfl)
   ·replace h := hn; clear hn h27
    rintro _ rfl
    refine cond_k (b := j26) rfl (fun c33 => ?_) (fun c33 => ?_)
    ·rw [if_pos c33] at h
     refine B21x _ ?_
     obtain rfl := Option.some.inj h
     refine G20n _ _ (wk [3, 6, 7, 16, 17, 18] [pI (.arg 0) .fz, pI (.tmp 3 0) .box, pI (.tmp 6 20) .lst]) (hJ19 _ rfl)
    ·rw [if_neg (Bool.eq_false_iff.1 c33)] at h
     refine hJ25 _ ?_
     obtain ⟨j34, h35, hn⟩ := of_bind h
     refine seq_j (fun st => st = ⟨[(3, .c (.ptr (.tmp 3 0) [] 0)), (6, .c (.ref (.tmp 6 20) [] 0 j34.length)), (9, .c (.ptr (.tmp 9 0) [] 0)), (16, .c (.ref (.arg 0) [] o0 l0.length)), (17, .c (.sc (.int .i64 x0_1))), (18, .c (.sc (.int .i64 x0_2)))], [(.arg 0, ⟨.fz, 2, cs0⟩), (.tmp 3 0, ⟨.box, 0, [.sc (.int .u64 x0_3), .sc (.int .u64 x0_4)]⟩), (.tmp 6 20, ⟨.lst, 2, encL c122 j34⟩), (.tmp 9 0, ⟨.box, 0, [.sc (.int .u64 ((rd z122 l0 x0_2).f0)), .sc (.int .u64 ((rd z122 l0 x0_2).f1))]⟩)], [], []⟩) (fun J36 hJ36 => ?_) ?_
     ·replace h := h35; clear hn
      refine ga_k fun G37 G37n G37r G37x => ?_
      refine sr_k fun J38 hJ38 => ?_
      simp +decide only [Nat.reduceAdd, Nat.reduceMul, Int.reduceToNat, ak]
      refine hJ38 _ ?_
      refine cond_k (b := decide (x0_0 < (rd z122 l0 x0_2).f0)) rfl (fun c39 => ?_) (fun c39 => ?_)
      ·replace c39 := of_decide_eq_true c39; rw [if_pos c39] at h
       refine reg_k ?_
       have g40 : (List.replicate 1 ([.int .u64 0, .int .u64 0] : List Value)).flatten = [.int .u64 0, .int .u64 0] := rfl
       have g41 : (⟨.lst, 2, [.sc (.int .u64 x0_0), .sc (.int .u64 ((rd z122 l0 x0_2).f0))]⟩ : Root) = ⟨.lst, 2, encL c122 ([(⟨x0_0, (rd z122 l0 x0_2).f0⟩ : S122)] : List S122)⟩ := rfl
       have g42 : ([(⟨x0_0, (rd z122 l0 x0_2).f0⟩ : S122)] : List S122).length = 1 := rfl
       have g43 : (encL c122 ([(⟨x0_0, (rd z122 l0 x0_2).f0⟩ : S122)] : List S122)).length = 1 * 2 := by simp [encL_length c122_w]
       have g44 : (encL c122 ([(⟨x0_0, (rd z122 l0 x0_2).f0⟩ : S122)] : List S122)).all nd = true := rfl
       obtain ⟨b45, h⟩ := of_guard h
       have g46 : appLim x0_5.length 1 16 := ⟨b45, by have := b45; omega⟩
       have g47 : (encL c122 x0_5).length = x0_5.length * 2 := by simp [encL_length c122_w]
       have g48 : encL c122 x0_5 ++ encL c122 ([(⟨x0_0, (rd z122 l0 x0_2).f0⟩ : S122)] : List S122) = encL c122 (x0_5 ++ ([(⟨x0_0, (rd z122 l0 x0_2).f0⟩ : S122)] : List S122)) := (encL_append _ _).symm
       simp +decide only [Nat.reduceAdd, Nat.reduceMul, Int.reduceToNat, ak, g40, g41, g42, g43, g44, g46, g47, g48]
       obtain rfl := Option.some.inj h
       refine G37n _ _ (wk [3, 6, 9, 16, 17, 18] [pI (.arg 0) .fz, pI (.tmp 3 0) .box, pI (.tmp 6 20) .lst, pI (.tmp 9 0) .box] (h0 := by first | rfl | simp +decide only [ak, akF, b23, b45]) (h := by first | rfl | (simp +decide only [ak, akF, b23, b45]; done) | (simp +decide [ak, akF, b23, b45] <;> omega))) (hJ36 _ rfl)
      ·replace c39 := of_decide_eq_false c39; rw [if_neg c39] at h
       obtain rfl := Option.some.inj h
       refine G37n _ _ (wk [3, 6, 9, 16, 17, 18] [pI (.arg 0) .fz, pI (.tmp 3 0) .box, pI (.tmp 6 20) .lst, pI (.tmp 9 0) .box]) (hJ36 _ rfl)
     ·replace h := hn; clear hn h35
      rintro _ rfl
      refine reg_k ?_
      simp +decide only [Nat.reduceAdd, Nat.reduceMul, Int.reduceToNat, ak]
      refine B21n _ ?_
      obtain rfl := Option.some.inj h
      refine G20n _ _ (wk [3, 6, 7, 16, 17, 18] [pI (.arg 0) .fz, pI (.tmp 3 0) .box, pI (.tmp 6 20) .lst]) (hJ19 _ rfl)
  ·replace h := hn; clear hn h18
   rintro _ rfl
   refine reg_k ?_
   simp +decide only [Nat.reduceAdd, Nat.reduceMul, Int.reduceToNat, ak]
   refine G0n _ _ (wk [3, 6, 7, 16, 17, 18] [pI (.arg 0) .fz, pI (.tmp 3 0) .box, pI (.tmp 6 20) .lst]) (ih _ _ _ _ h K hx0)
 ·replace c16 := of_decide_eq_false c16; rw [if_neg c16] at h
  obtain rfl := Option.some.inj h
  refine gh_k (wk [3, 6, 7] [pI (.arg 0) .fz, pI (.tmp 3 0) .box, pI (.tmp 6 20) .lst]) ?_
  refine G0x _ _ ?_
  exact hx0
theorem impl_SpanGaps.tri (cs0 : List Cell) (o0 : Nat) (l0 : List S122) (hv0 : Vw c122 2 cs0 o0 l0) (a1_0 : Int) (a1_1 : Int) (r : (List S122) × Int) (h : impl_SpanGaps.f l0 a1_0 a1_1 = some r) : Tri Try.prog 66 [.c (.ref (.arg 0) [] o0 l0.length), .g [.sc (.int .u64 a1_0), .sc (.int .u64 a1_1)]] [(.arg 0, ⟨.fz, 2, cs0⟩)] (fun o => o = ⟨.tup [(false, [.ref (.res 0) [] 0 r.1.length]), (false, [.sc (.int .i64 r.2)])], [(.arg 0, ⟨.fz, 2, cs0⟩), (.res 0, ⟨.lst, 2, encL c122 r.1⟩)], [], []⟩) := by
 refine tri_of_body (ac := C66) (xs := r66) Try.func66 (show Try.f66.body = some (Try.f66.body.getD .skip) from rfl) k66 q66 (Nat.le_of_ble_eq_true rfl) ?_
 refine body_of fun K hKn hKr => ?_
 unfold impl_SpanGaps.f at h
 unfold C66
 simp only [initT, Nat.reduceAdd]
 refine sr_k fun J1 hJ1 => ?_
 simp +decide only [Nat.reduceAdd, Nat.reduceMul, Int.reduceToNat, ak]
 refine gho_k (Weak.nm' 4 (.tmp 4 20) 2 (encL c122 ([] : List S122)) rfl rfl rfl) ?_
 simp +decide only [Nat.reduceAdd, Nat.reduceMul, Int.reduceToNat, ak]
 refine hJ1 _ ?_
 refine seq_k fun J2 hJ2 => ?_
 refine sr_k fun J3 hJ3 => ?_
 simp +decide only [Nat.reduceAdd, Nat.reduceMul, Int.reduceToNat, ak]
 obtain ⟨t4, h5, h⟩ := of_bind h
 refine call_m [(.arg 0, ⟨(.arg 0), [], none, .fz⟩)] (s0 := [(.arg 0, ⟨.fz, 2, cs0⟩)]) (by intro t ht; cases ht; decide) rfl rfl (by first | rfl | simp only [reduceCtorEq, Nat.reduceEqDiff, ak, akF]) (impl_validSpans.tri (cs0) o0 l0 hv0 a1_0 a1_1 _ h5) (by first | rfl | simp only [reduceCtorEq, Nat.reduceEqDiff, ak, akF]) (by simp [bkOk2, memK]) (fun hl5 => ?_)
 refine call_st (s4 := [(.arg 0, ⟨.fz, 2, cs0⟩), (.tmp 3 0, ⟨.box, 0, [.sc (.int .u64 a1_0), .sc (.int .u64 a1_1)]⟩), (.tmp 4 20, ⟨.lst, 2, encL c122 ([] : List S122)⟩)]) (m1' := []) (m2' := []) (v' := .c (.sc (.bool t4))) (Sto.mapN_killNil _ _) (mrgL_fz (mrgL_nil' _ _ _) rfl (by first | rfl | simp only [reduceCtorEq, Nat.reduceEqDiff, ak]) rfl (by intro R hR hh; cases hR; cases hh.2)) (by rfl) (mapT_killNil _ _) (by rfl) (by rfl) (by first | rfl | simp only [reduceCtorEq, Nat.reduceEqDiff, ak, akF, Nat.zero_add, List.append_nil]) ?_
 simp +decide only [Nat.reduceAdd, Nat.reduceMul, Int.reduceToNat, ak]
 refine hJ3 _ ?_
 refine cond_k (b := !t4) rfl (fun c7 => ?_) (fun c7 => ?_)
 ·rw [if_pos c7] at h
  refine sr_k fun J8 hJ8 => ?_
  simp +decide only [Nat.reduceAdd, Nat.reduceMul, Int.reduceToNat, ak]
  refine gho_k ((Weak.drop [.tmp 4 20]).trans (Weak.nm' 4 (.tmp 4 20) 2 (encL c122 ([] : List S122)) rfl rfl rfl)) ?_
  simp +decide only [Nat.reduceAdd, Nat.reduceMul, Int.reduceToNat, ak]
  refine hJ8 _ ?_
  obtain rfl := Option.some.inj h
  refine hKr _ ⟨_, rfl, [⟨(.tmp 4 20), [], none, .lst⟩], _, rfl, rfl, ?_⟩
  first | rfl | (simp only [reduceCtorEq, Nat.reduceEqDiff, ak, akF]; done) | (simp [reduceCtorEq, Nat.reduceEqDiff, ak, akF] <;> omega)
 ·rw [if_neg (Bool.eq_false_iff.1 c7)] at h
  refine hJ2 _ ?_
  refine sr_k fun J9 hJ9 => ?_
  simp +decide only [Nat.reduceAdd, Nat.reduceMul, Int.reduceToNat, ak]
  refine gho_k (Weak.nm' 6 (.tmp 6 20) 2 (encL c122 ([] : List S122)) rfl rfl rfl) ?_
  simp +decide only [Nat.reduceAdd, Nat.reduceMul, Int.reduceToNat, ak]
  refine hJ9 _ ?_
  refine sr_k fun J10 hJ10 => ?_
  simp +decide only [Nat.reduceAdd, Nat.reduceMul, Int.reduceToNat, ak]
  refine hJ10 _ ?_
  refine seq_k fun J11 hJ11 => ?_
  refine sr_k fun J12 hJ12 => ?_
  simp +decide only [Nat.reduceAdd, Nat.reduceMul, Int.reduceToNat, ak]
  refine hJ12 _ ?_
  refine block_k fun B13 B13n B13x B13r B13j => ?_
  obtain ⟨y49, h50, h⟩ := of_bind h
  refine gh_k (st' := ⟨[(3, .c (.ptr (.tmp 3 0) [] 0)), (6, .c (.ref (.tmp 6 20) [] 0 (([] : List S122).length))), (7, .c (.sc (.int .u64 a1_0))), (16, .c (.ref (.arg 0) [] o0 l0.length)), (17, .c (.sc (.int .i64 (l0.length : Int)))), (18, .c (.sc (.int .i64 0)))], [(.arg 0, ⟨.fz, 2, cs0⟩), (.tmp 3 0, ⟨.box, 0, [.sc (.int .u64 a1_0), .sc (.int .u64 a1_1)]⟩), (.tmp 6 20, ⟨.lst, 2, encL c122 ([] : List S122)⟩)], [], []⟩) (wk [3, 6, 7, 16, 17, 18] [pI (.arg 0) .fz, pI (.tmp 3 0) .box, pI (.tmp 6 20) .lst] (h := by first | rfl | (simp +decide only [ak, akF]; done) | (simp +decide [ak, akF] <;> omega))) ?_
  rw [e_loop]
  refine impl_SpanGaps.l0_walk cs0 o0 l0 hv0 (l0.length : Int) a1_0 a1_1 a1_0 0 ([] : List S122) _ h50 _ ?_
  refine B13x _ ?_
  refine hJ11 _ ?_
  obtain ⟨j51, h52, hn⟩ := of_bind h
  refine seq_j (fun st => st = ⟨[(6, .c (.ref (.tmp 6 20) [] 0 j51.length))], [(.arg 0, ⟨.fz, 2, cs0⟩), (.tmp 6 20, ⟨.lst, 2, encL c122 j51⟩)], [], []⟩) (fun J53 hJ53 => ?_) ?_
  ·replace h := h52; clear hn
   refine ga_k fun G54 G54n G54r G54x => ?_
   refine sr_k fun J55 hJ55 => ?_
   simp +decide only [Nat.reduceAdd, Nat.reduceMul, Int.reduceToNat, ak]
   refine hJ55 _ ?_
   refine cond_k (b := decide (y49.1 < a1_1)) rfl (fun c56 => ?_) (fun c56 => ?_)
   ·replace c56 := of_decide_eq_true c56; rw [if_pos c56] at h
    refine reg_k ?_
    have g57 : (List.replicate 1 ([.int .u64 0, .int .u64 0] : List Value)).flatten = [.int .u64 0, .int .u64 0] := rfl
    have g58 : (⟨.lst, 2, [.sc (.int .u64 y49.1), .sc (.int .u64 a1_1)]⟩ : Root) = ⟨.lst, 2, encL c122 ([(⟨y49.1, a1_1⟩ : S122)] : List S122)⟩ := rfl
    have g59 : ([(⟨y49.1, a1_1⟩ : S122)] : List S122).length = 1 := rfl
    have g60 : (encL c122 ([(⟨y49.1, a1_1⟩ : S122)] : List S122)).length = 1 * 2 := by simp [encL_length c122_w]
    have g61 : (encL c122 ([(⟨y49.1, a1_1⟩ : S122)] : List S122)).all nd = true := rfl
    obtain ⟨b62, h⟩ := of_guard h
    have g63 : appLim y49.2.length 1 16 := ⟨b62, by have := b62; omega⟩
    have g64 : (encL c122 y49.2).length = y49.2.length * 2 := by simp [encL_length c122_w]
    have g65 : encL c122 y49.2 ++ encL c122 ([(⟨y49.1, a1_1⟩ : S122)] : List S122) = encL c122 (y49.2 ++ ([(⟨y49.1, a1_1⟩ : S122)] : List S122)) := (encL_append _ _).symm
    simp +decide only [Nat.reduceAdd, Nat.reduceMul, Int.reduceToNat, ak, g57, g58, g59, g60, g61, g63, g64, g65]
    obtain rfl := Option.some.inj h
    refine G54n _ _ (wk [6] [pI (.arg 0) .fz, pI (.tmp 6 20) .lst] (h0 := by first | rfl | simp +decide only [ak, akF, b62]) (h := by first | rfl | (simp +decide only [ak, akF, b62]; done) | (simp +decide [ak, akF, b62] <;> omega))) (hJ53 _ rfl)
   ·replace c56 := of_decide_eq_false c56; rw [if_neg c56] at h
    obtain rfl := Option.some.inj h
    refine G54n _ _ (wk [6] [pI (.arg 0) .fz, pI (.tmp 6 20) .lst]) (hJ53 _ rfl)
  ·replace h := hn; clear hn h52
   rintro _ rfl
   refine sr_k fun J66 hJ66 => ?_
   simp +decide only [Nat.reduceAdd, Nat.reduceMul, Int.reduceToNat, ak]
   obtain ⟨t67, h68, h⟩ := of_bind h
   rcases hpo : t67.1 with _ | p71
   ·have hpp69 := hpo
    rw [hpo] at h; dsimp only at h
    refine call_m [(.arg 0, ⟨(.tmp 6 20), [], none, .fz⟩)] (s0 := [(.arg 0, ⟨.fz, 2, encL c122 j51⟩)]) (by intro t ht; cases ht; decide) rfl rfl (by first | rfl | simp only [reduceCtorEq, Nat.reduceEqDiff, ak, akF]) (impl_limited.tri0 (encL c122 j51) 0 j51 (Vw.whole c122_w j51) _ h68 hpp69) (by first | rfl | simp only [reduceCtorEq, Nat.reduceEqDiff, ak, akF]) (by simp [bkOk2, memK]) (fun hl69 => ?_)
    refine call_st (s4 := [(.arg 0, ⟨.fz, 2, cs0⟩), (.tmp 6 20, ⟨.lst, 2, encL c122 j51⟩)]) (m1' := []) (m2' := []) (v' := .tup [(false, [.ref (.tmp 6 20) [] 0 j51.length]), (false, [.sc (.int .i64 t67.2)])]) (Sto.mapN_killNil _ _) (mrgL_fz (mrgL_nil' _ _ _) rfl (by first | rfl | simp only [reduceCtorEq, Nat.reduceEqDiff, ak]) rfl (by intro R hR hh; cases hR; cases hh.2)) (by rfl) (mapT_killNil _ _) (by rfl) (by rfl) (by first | rfl | simp only [reduceCtorEq, Nat.reduceEqDiff, ak, akF, Nat.zero_add, List.append_nil]) ?_
    simp +decide only [Nat.reduceAdd, Nat.reduceMul, Int.reduceToNat, ak]
    refine hJ66 _ ?_
    obtain rfl := Option.some.inj h
    refine hKr _ ⟨_, rfl, [⟨(.tmp 6 20), [], none, .lst⟩], _, rfl, rfl, ?_⟩
    first | rfl | (simp only [reduceCtorEq, Nat.reduceEqDiff, ak, akF]; done) | (simp [reduceCtorEq, Nat.reduceEqDiff, ak, akF] <;> omega)
   ·have hpp71 := hpo
    rw [hpo] at h; dsimp only at h
    refine call_m [(.arg 0, ⟨(.tmp 6 20), [], none, .fz⟩)] (s0 := [(.arg 0, ⟨.fz, 2, encL c122 j51⟩)]) (by intro t ht; cases ht; decide) rfl rfl (by first | rfl | simp only [reduceCtorEq, Nat.reduceEqDiff, ak, akF]) (impl_limited.tri1 (encL c122 j51) 0 j51 (Vw.whole c122_w j51) _ h68 _ hpp71) (by first | rfl | simp only [reduceCtorEq, Nat.reduceEqDiff, ak, akF]) (by simp [bkOk2, memK]) (fun hl71 => ?_)
    refine call_st (s4 := [(.arg 0, ⟨.fz, 2, cs0⟩), (.tmp 6 20, ⟨.lst, 2, encL c122 j51⟩), (.tmp 59 0, ⟨.lst, 2, encL c122 p71⟩)]) (m1' := []) (m2' := []) (v' := .tup [(false, [.ref (.tmp 59 0) [] 0 p71.length]), (false, [.sc (.int .i64 t67.2)])]) (Sto.mapN_killNil _ _) (mrgL_fz (mrgL_nil' _ _ _) rfl (by first | rfl | simp only [reduceCtorEq, Nat.reduceEqDiff, ak]) rfl (by intro R hR hh; cases hR; cases hh.2)) (by rfl) (mapT_killNil _ _) (by rfl) (by rfl) (by first | rfl | simp only [reduceCtorEq, Nat.reduceEqDiff, ak, akF, Nat.zero_add, List.append_nil]) ?_
    simp +decide only [Nat.reduceAdd, Nat.reduceMul, Int.reduceToNat, ak]
    refine hJ66 _ ?_
    obtain rfl := Option.some.inj h
    refine hKr _ ⟨_, rfl, [⟨(.tmp 59 0), [], none, .lst⟩], _, rfl, rfl, ?_⟩
    first | rfl | (simp only [reduceCtorEq, Nat.reduceEqDiff, ak, akF]; done) | (simp [reduceCtorEq, Nat.reduceEqDiff, ak, akF] <;> omega)
/-! ### laws.lSpans: function 67 -/
def C67_l0 : AC := .seq (.seq (.reg [.op none (.mv 11 (.tmp 5)), .op none (.mv 12 (.tmp 0)), .op none (.len 13 (.tmp 12)), .op none (.bin 14 .lss (.tmp 11) (.tmp 13)), .keep [0, 1, 5, 14]]) (.cond (.tmp 14) (.skip) (.gh (.exit 0)))) (.seq (.block 1 (.seq (.regD (.first (.op none (.mv 17 (.tmp 0))) (.first (.op none (.mv 18 (.tmp 5))) (.first (.op none (.iaddr 19 2 (.tmp 17) (.tmp 18))) (.first (.op none (.load 20 true 2 (.tmp 19))) (.first (.op none (.mv 21 (.tmp 1))) (.first (.op none (.mv 22 (.tmp 5))) (.first (.op none (.iaddr 23 2 (.tmp 21) (.tmp 22))) (.first (.op none (.load 24 true 2 (.tmp 23))) (.first (.op none (.aeq 25 true [0, 0] (.tmp 20) (.tmp 24))) (.done)))))))))) [0, 1, 5, 25]) (.cond (.tmp 25) (.seq (.reg [.op none (.mv 4 (.const (.bool false))), .keep [4]]) (.gh .ret)) (.skip)))) (.reg [.op none (.mv 15 (.tmp 5)), .op none (.bin 16 .add (.tmp 15) (.const (.int .i64 1))), .op none (.mv 5 (.tmp 16)), .keep [0, 1, 5]]))
def C67 : AC := .seq (.reg [.op none (.mv 4 (.const (.bool false))), .keep [0, 1]]) (.seq (.seq (.reg [.op none (.mv 6 (.tmp 0)), .op none (.len 7 (.tmp 6)), .op none (.mv 8 (.tmp 1)), .op none (.len 9 (.tmp 8)), .op none (.bin 10 .neq (.tmp 7) (.tmp 9)), .keep [0, 1, 10]]) (.cond (.tmp 10) (.seq (.reg [.op none (.mv 4 (.const (.bool false))), .keep [4]]) (.ret)) (.skip))) (.seq (.seq (.reg [.op none (.mv 5 (.const (.int .i64 0))), .keep [0, 1, 5]]) (.block 0 (.gh (.loop (.ga C67_l0))))) (.seq (.reg [.op none (.mv 4 (.const (.bool true))), .keep [4]]) (.ret))))
def r67 : List RV := [.tmp 4]
theorem k67 : compC Try.prog 26 C67 (Try.f67.body.getD .skip) = some C67.erase := by kernel_rfl
theorem q67 : rvsOf Try.prog Try.f67.results.toList = some r67 := by kernel_rfl
def laws_lSpans.l0 (l0 : List S122) (l1 : List S122) (x0_0 : Int) : Option (Lp Unit Bool) := (if x0_0 < (l0.length : Int) then (if 0 ≤ x0_0 ∧ x0_0 < (l0.length : Int) then (if 0 ≤ x0_0 ∧ x0_0 < (l1.length : Int) then (if (!(decide ((rd z122 l0 x0_0).f0 = (rd z122 l1 x0_0).f0) && decide ((rd z122 l0 x0_0).f1 = (rd z122 l1 x0_0).f1))) = true then (some (.b false)) else (laws_lSpans.l0 l0 l1 (IntKind.i64.wrap (x0_0 + 1)))) else none) else none) else (some (.a ())))
 partial_fixpoint
def laws_lSpans.f (l0 : List S122) (l1 : List S122) : Option Bool := (if (l0.length : Int) ≠ (l1.length : Int) then (some false) else (laws_lSpans.l0 l0 l1 0 >>= fun (y21 : Lp Unit Bool) => match y21 with | .a x23 => (some true) | .b x23 => (some x23)))
def laws_lSpans.l0_M (cs0 : List Cell) (o0 : Nat) (l0 : List S122) (hv0 : Vw c122 2 cs0 o0 l0) (cs1 : List Cell) (o1 : Nat) (l1 : List S122) (hv1 : Vw c122 2 cs1 o1 l1) (x0_0 : Int) (y : Lp Unit Bool) : Prop := ∀ (K : AE → St → Prop), (∀ x, y = .a x → K (.exit 0) ⟨[], [(.arg 0, ⟨.fz, 2, cs0⟩), (.arg 1, ⟨.fz, 2, cs1⟩)], [], []⟩) → (∀ x, y = .b x → K .ret ⟨[(4, .c (.sc (.bool x)))], [(.arg 0, ⟨.fz, 2, cs0⟩), (.arg 1, ⟨.fz, 2, cs1⟩)], [], []⟩) → loopS Try.prog 26 (.ga C67_l0) K ⟨[(0, .c (.ref (.arg 0) [] o0 l0.length)), (1, .c (.ref (.arg 1) [] o1 l1.length)), (5, .c (.sc (.int .i64 x0_0)))], [(.arg 0, ⟨.fz, 2, cs0⟩), (.arg 1, ⟨.fz, 2, cs1⟩)], [], []⟩
theorem laws_lSpans.l0_walk (cs0 : List Cell) (o0 : Nat) (l0 : List S122) (hv0 : Vw c122 2 cs0 o0 l0) (cs1 : List Cell) (o1 : Nat) (l1 : List S122) (hv1 : Vw c122 2 cs1 o1 l1) (x0_0 : Int) (y : Lp Unit Bool) (h : laws_lSpans.l0 l0 l1 x0_0 = some y) : laws_lSpans.l0_M cs0 o0 l0 hv0 cs1 o1 l1 hv1 x0_0 y := by
 refine laws_lSpans.l0.partial_correctness l0 l1 (motive := fun x0_0 y => laws_lSpans.l0_M cs0 o0 l0 hv0 cs1 o1 l1 hv1 x0_0 y) ?_ x0_0 y h
 clear h
 unfold laws_lSpans.l0_M
 intro rec ih x0_0 y h K hx0 hx1
 refine loop_unroll (ga_k fun G0 G0n G0r G0x => ?_)
 unfold C67_l0
 refine seq_k fun J9 hJ9 => ?_
 refine sr_k fun J10 hJ10 => ?_
 simp +decide only [Nat.reduceAdd, Nat.reduceMul, Int.reduceToNat, ak]
 refine hJ10 _ ?_
 refine cond_k (b := decide (x0_0 < (l0.length : Int))) rfl (fun c11 => ?_) (fun c11 => ?_)
 ·replace c11 := of_decide_eq_true c11; rw [if_pos c11] at h
  refine hJ9 _ ?_
  refine seq_k fun J12 hJ12 => ?_
  refine block_k fun B13 B13n B13x B13r B13j => ?_
  refine sd_k fun J14 hJ14 => ?_
  obtain ⟨b15, h⟩ := of_guard h
  have g16 : (List.drop (o0 + x0_0.toNat * 2) (cs0)).take 2 = [.sc (.int .u64 ((rd z122 l0 x0_0).f0)), .sc (.int .u64 ((rd z122 l0 x0_0).f1))] := hv0.stretch z122 b15.1 b15.2
  obtain ⟨b17, h⟩ := of_guard h
  have g18 : (List.drop (o1 + x0_0.toNat * 2) (cs1)).take 2 = [.sc (.int .u64 ((rd z122 l1 x0_0).f0)), .sc (.int .u64 ((rd z122 l1 x0_0).f1))] := hv1.stretch z122 b17.1 b17.2
  simp +decide only [Nat.reduceAdd, Nat.reduceMul, Int.reduceToNat, ak, b15, g16, b17, g18]
  refine hJ14 _ ?_
  refine cond_k (b := !(decide ((rd z122 l0 x0_0).f0 = (rd z122 l1 x0_0).f0) && decide ((rd z122 l0 x0_0).f1 = (rd z122 l1 x0_0).f1))) rfl (fun c19 => ?_) (fun c19 => ?_)
  ·rw [if_pos c19] at h
   refine sr_k fun J20 hJ20 => ?_
   simp +decide only [Nat.reduceAdd, Nat.reduceMul, Int.reduceToNat, ak]
   refine hJ20 _ ?_
   obtain rfl := Option.some.inj h
   refine gh_k (wk [4] [pI (.arg 0) .fz, pI (.arg 1) .fz]) ?_
   refine B13r _ ?_
   refine G0r _ ?_
   exact hx1 _ rfl
  ·rw [if_neg (Bool.eq_false_iff.1 c19)] at h
   refine B13n _ ?_
   refine hJ12 _ ?_
   refine reg_k ?_
   simp +decide only [Nat.reduceAdd, Nat.reduceMul, Int.reduceToNat, ak]
   refine G0n _ _ (wk [0, 1, 5] [pI (.arg 0) .fz, pI (.arg 1) .fz]) (ih _ _ h K hx0 hx1)
 ·replace c11 := of_decide_eq_false c11; rw [if_neg c11] at h
  obtain rfl := Option.some.inj h
  refine gh_k (wk [] [pI (.arg 0) .fz, pI (.arg 1) .fz]) ?_
  refine G0x _ _ ?_
  exact hx0 _ rfl
theorem laws_lSpans.tri (cs0 : List Cell) (o0 : Nat) (l0 : List S122) (hv0 : Vw c122 2 cs0 o0 l0) (cs1 : List Cell) (o1 : Nat) (l1 : List S122) (hv1 : Vw c122 2 cs1 o1 l1) (r : Bool) (h : laws_lSpans.f l0 l1 = some r) : Tri Try.prog 67 [.c (.ref (.arg 0) [] o0 l0.length), .c (.ref (.arg 1) [] o1 l1.length)] [(.arg 0, ⟨.fz, 2, cs0⟩), (.arg 1, ⟨.fz, 2, cs1⟩)] (fun o => o = ⟨.c (.sc (.bool r)), [(.arg 0, ⟨.fz, 2, cs0⟩), (.arg 1, ⟨.fz, 2, cs1⟩)], [], []⟩) := by
 refine tri_of_body (ac := C67) (xs := r67) Try.func67 (show Try.f67.body = some (Try.f67.body.getD .skip) from rfl) k67 q67 (Nat.le_of_ble_eq_true rfl) ?_
 refine body_of fun K hKn hKr => ?_
 unfold laws_lSpans.f at h
 unfold C67
 simp only [initT, Nat.reduceAdd]
 refine sr_k fun J1 hJ1 => ?_
 simp +decide only [Nat.reduceAdd, Nat.reduceMul, Int.reduceToNat, ak]
 refine hJ1 _ ?_
 refine seq_k fun J2 hJ2 => ?_
 refine sr_k fun J3 hJ3 => ?_
 simp +decide only [Nat.reduceAdd, Nat.reduceMul, Int.reduceToNat, ak]
 refine hJ3 _ ?_
 refine cond_k (b := decide ((l0.length : Int) ≠ (l1.length : Int))) rfl (fun c4 => ?_) (fun c4 => ?_)
 ·replace c4 := of_decide_eq_true c4; rw [if_pos c4] at h
  refine sr_k fun J5 hJ5 => ?_
  simp +decide only [Nat.reduceAdd, Nat.reduceMul, Int.reduceToNat, ak]
  refine hJ5 _ ?_
  obtain rfl := Option.some.inj h
  refine hKr _ ⟨_, rfl, [], _, rfl, rfl, ?_⟩
  first | rfl | (simp only [reduceCtorEq, Nat.reduceEqDiff, ak, akF]; done) | (simp [reduceCtorEq, Nat.reduceEqDiff, ak, akF] <;> omega)
 ·replace c4 := of_decide_eq_false c4; rw [if_neg c4] at h
  refine hJ2 _ ?_
  refine seq_k fun J6 hJ6 => ?_
  refine sr_k fun J7 hJ7 => ?_
  simp +decide only [Nat.reduceAdd, Nat.reduceMul, Int.reduceToNat, ak]
  refine hJ7 _ ?_
  refine block_k fun B8 B8n B8x B8r B8j => ?_
  obtain ⟨y21, h22, h⟩ := of_bind h
  refine gh_k (wk [0, 1, 5] [pI (.arg 0) .fz, pI (.arg 1) .fz]) ?_
  rw [e_loop]
  refine laws_lSpans.l0_walk cs0 o0 l0 hv0 cs1 o1 l1 hv1 0 _ h22 _ ?_ ?_
  ·rintro x23 rfl
   dsimp only at h
   refine B8x _ ?_
   refine hJ6 _ ?_
   refine sr_k fun J24 hJ24 => ?_
   simp +decide only [Nat.reduceAdd, Nat.reduceMul, Int.reduceToNat, ak]
   refine hJ24 _ ?_
   obtain rfl := Option.some.inj h
   refine hKr _ ⟨_, rfl, [], _, rfl, rfl, ?_⟩
   first | rfl | (simp only [reduceCtorEq, Nat.reduceEqDiff, ak, akF]; done) | (simp [reduceCtorEq, Nat.reduceEqDiff, ak, akF] <;> omega)
  ·rintro x23 rfl
   dsimp only at h
   refine B8r _ ?_
   obtain rfl := Option.some.inj h
   refine hKr _ ⟨_, rfl, [], _, rfl, rfl, ?_⟩
   first | rfl | (simp only [reduceCtorEq, Nat.reduceEqDiff, ak, akF]; done) | (simp [reduceCtorEq, Nat.reduceEqDiff, ak, akF] <;> omega)
/-! ### laws.FnReorder: function 12 -/
def C12_l1 : AC := .seq (.seq (.reg [.op none (.mv 170 (.tmp 21)), .op none (.mv 171 (.tmp 11)), .op none (.mv 172 (.tmp 18)), .op none (.iaddr 173 3 (.tmp 171) (.tmp 172)), .op none (.faddr 174 2 (.tmp 173)), .op none (.load 175 false 1 (.tmp 174)), .op none (.len 176 (.tmp 175)), .op none (.bin 177 .lss (.tmp 170) (.tmp 176)), .keep [3, 4, 5, 9, 11, 13, 15, 16, 17, 18, 21, 177]]) (.cond (.tmp 177) (.skip) (.gh (.exit 2)))) (.seq (.block 3 (.seq (.seq (.regD (.first (.op none (.mv 180 (.tmp 11))) (.first (.op none (.mv 181 (.tmp 18))) (.first (.op none (.iaddr 182 3 (.tmp 180) (.tmp 181))) (.first (.op none (.faddr 183 2 (.tmp 182))) (.first (.op none (.mv 185 (.tmp 21))) (.first (.op none (.mv 188 (.tmp 15))) (.pin [10, 7, 6] (.op none (.load 184 false 1 (.tmp 183))) (.pin [10, 7] (.op none (.iaddr 186 1 (.tmp 184) (.tmp 185))) (.pin [10] (.op none (.load 187 false 1 (.tmp 186))) (.alt (.call none (some 189) 63 [.tmp 188]) none (.pin [] (.op none (.bin 190 .neq (.tmp 187) (.tmp 189))) (.done)) (.stop))))))))))) [3, 4, 5, 9, 11, 13, 15, 16, 17, 18, 21, 190]) (.cond (.tmp 190) (.seq (.reg [.op none (.mv 2 (.const (.bool false))), .keep [2]]) (.gh .ret)) (.skip))) (.reg [.op none (.mv 191 (.tmp 15)), .op none (.bin 192 .add (.tmp 191) (.const (.int .i64 1))), .op none (.mv 15 (.tmp 192)), .keep [3, 4, 5, 9, 11, 13, 15, 16, 17, 18, 21]]))) (.reg [.op none (.mv 178 (.tmp 21)), .op none (.bin 179 .add (.tmp 178) (.const (.int .i64 1))), .op none (.mv 21 (.tmp 179)), .keep [3, 4, 5, 9, 11, 13, 15, 16, 17, 18, 21]]))
def C12_l0 : AC := .seq (.seq (.reg [.op none (.mv 86 (.tmp 18)), .op none (.mv 87 (.tmp 5)), .op none (.len 88 (.tmp 87)), .op none (.bin 89 .lss (.tmp 86) (.tmp 88)), .keep [3, 4, 5, 9, 11, 13, 15, 16, 17, 18, 89]]) (.cond (.tmp 89) (.skip) (.gh (.exit 0)))) (.seq (.block 1 (.seq (.reg [.op none (.mv 92 (.tmp 5)), .op none (.mv 93 (.tmp 18)), .op none (.iaddr 94 4 (.tmp 92) (.tmp 93)), .op none (.load 95 true 4 (.tmp 94)), .op none (.alloc 19 [.int .i64 0, .int .u64 0, .slice none 0 0, .int .i64 0]), .gh, .op none (.store 4 (.tmp 19) (.tmp 95)), .keep [3, 4, 5, 9, 11, 13, 15, 16, 17, 18, 19]]) (.seq (.seq (.regD (.first (.op none (.mv 96 (.tmp 11))) (.first (.op none (.mv 97 (.tmp 18))) (.first (.op none (.iaddr 98 3 (.tmp 96) (.tmp 97))) (.first (.op none (.faddr 99 0 (.tmp 98))) (.first (.op none (.load 100 false 1 (.tmp 99))) (.first (.op none (.mv 101 (.tmp 9))) (.first (.op none (.mv 102 (.tmp 18))) (.first (.op none (.iaddr 103 3 (.tmp 101) (.tmp 102))) (.first (.op none (.faddr 104 0 (.tmp 103))) (.first (.op none (.load 105 false 1 (.tmp 104))) (.first (.op none (.bin 106 .neq (.tmp 100) (.tmp 105))) (.done)))))))))))) [3, 4, 5, 9, 11, 13, 15, 16, 17, 18, 19, 106]) (.cond (.tmp 106) (.seq (.reg [.op none (.mv 2 (.const (.bool false))), .keep [2]]) (.gh .ret)) (.skip))) (.seq (.ga (.seq (.ga (.reg [.op none (.faddr 107 0 (.tmp 19)), .op none (.load 108 false 1 (.tmp 107)), .op none (.bin 109 .eql (.tmp 108) (.const (.int .i64 1))), .op none (.mv 110 (.tmp 109)), .op (some (110, true)) (.mv 111 (.tmp 11)), .op (some (110, true)) (.mv 112 (.tmp 18)), .op (some (110, true)) (.iaddr 113 3 (.tmp 111) (.tmp 112)), .op (some (110, true)) (.faddr 114 0 (.tmp 113)), .op (some (110, true)) (.load 115 false 1 (.tmp 114)), .op (some (110, true)) (.bin 116 .eql (.tmp 115) (.const (.int .i64 0))), .op none (.pick 117 (.tmp 110) (.tmp 116) (.const (.bool false))), .keep [3, 4, 5, 9, 11, 13, 15, 16, 17, 18, 19, 117]])) (.cond (.tmp 117) (.seq (.reg [.op none (.mv 118 (.tmp 16)), .op none (.mv 119 (.tmp 11)), .op none (.mv 120 (.tmp 18)), .op none (.iaddr 121 3 (.tmp 119) (.tmp 120)), .op none (.faddr 122 1 (.tmp 121)), .op none (.load 123 false 1 (.tmp 122)), .op none (.bin 124 .add (.tmp 118) (.tmp 123)), .op none (.mv 16 (.tmp 124)), .keep [3, 4, 5, 9, 11, 13, 15, 16, 17, 18, 19]]) (.seq (.reg [.op none (.mv 20 (.const (.int .i64 0))), .keep [3, 4, 5, 9, 11, 13, 15, 16, 17, 18, 19]]) (.seq (.reg [.op none (.mv 126 (.tmp 17)), .op none (.faddr 127 1 (.tmp 19)), .op none (.load 128 false 1 (.tmp 127)), .op none (.faddr 129 1 (.tmp 19)), .op none (.load 130 false 1 (.tmp 129)), .op none (.faddr 131 2 (.tmp 19)), .op none (.load 132 false 1 (.tmp 131)), .op none (.len 133 (.tmp 132)), .op none (.conv 134 .u64 (.tmp 133)), .op none (.bin 135 .add (.tmp 130) (.tmp 134)), .op none (.build 136 [.int .u64 0, .int .u64 0] [(0, 1, .tmp 128), (1, 1, .tmp 135)]), .call none (some 137) 62 [.tmp 126, .tmp 136], .op none (.mv 125 (.tmp 137)), .op none (.extr 138 (.tmp 125) 0), .op none (.extr 139 (.tmp 125) 1), .op none (.mv 17 (.tmp 138)), .op none (.mv 20 (.tmp 139)), .keep [3, 4, 5, 9, 11, 13, 15, 16, 17, 18, 19, 20]]) (.seq (.reg [.op none (.mv 140 (.tmp 20)), .op none (.bin 141 .neq (.tmp 140) (.const (.int .i64 0))), .keep [3, 4, 5, 9, 11, 13, 15, 16, 17, 18, 19, 141]]) (.cond (.tmp 141) (.seq (.reg [.op none (.mv 2 (.const (.bool false))), .keep [2]]) (.gh .ret)) (.skip)))))) (.skip)))) (.seq (.seq (.reg [.op none (.faddr 142 0 (.tmp 19)), .op none (.load 143 false 1 (.tmp 142)), .op none (.bin 144 .neq (.tmp 143) (.const (.int .i64 2))), .keep [3, 4, 5, 9, 11, 13, 15, 16, 17, 18, 144]]) (.cond (.tmp 144) (.exit 1) (.skip))) (.seq (.seq (.ga (.regD (.first (.op none (.mv 145 (.tmp 11))) (.first (.op none (.mv 146 (.tmp 18))) (.first (.op none (.iaddr 147 3 (.tmp 145) (.tmp 146))) (.first (.op none (.faddr 148 1 (.tmp 147))) (.first (.op none (.load 149 false 1 (.tmp 148))) (.first (.op none (.mv 150 (.tmp 11))) (.first (.op none (.mv 151 (.tmp 18))) (.first (.op none (.iaddr 152 3 (.tmp 150) (.tmp 151))) (.first (.op none (.faddr 153 2 (.tmp 152))) (.first (.op none (.load 154 false 1 (.tmp 153))) (.first (.op none (.len 155 (.tmp 154))) (.first (.op none (.bin 156 .neq (.tmp 149) (.tmp 155))) (.first (.op none (.mv 157 (.tmp 156))) (.first (.op (some (157, false)) (.mv 158 (.tmp 11))) (.first (.op (some (157, false)) (.mv 159 (.tmp 18))) (.first (.op (some (157, false)) (.iaddr 160 3 (.tmp 158) (.tmp 159))) (.first (.op (some (157, false)) (.faddr 161 1 (.tmp 160))) (.first (.op (some (157, false)) (.load 162 false 1 (.tmp 161))) (.first (.op (some (157, false)) (.mv 163 (.tmp 9))) (.first (.op (some (157, false)) (.mv 164 (.tmp 18))) (.first (.op (some (157, false)) (.iaddr 165 3 (.tmp 163) (.tmp 164))) (.first (.op (some (157, false)) (.faddr 166 1 (.tmp 165))) (.first (.op (some (157, false)) (.load 167 false 1 (.tmp 166))) (.first (.op (some (157, false)) (.bin 168 .neq (.tmp 162) (.tmp 167))) (.first (.op none (.pick 169 (.tmp 157) (.const (.bool true)) (.tmp 168))) (.done)))))))))))))))))))))))))) [3, 4, 5, 9, 11, 13, 15, 16, 17, 18, 169])) (.cond (.tmp 169) (.seq (.reg [.op none (.mv 2 (.const (.bool false))), .keep [2]]) (.gh .ret)) (.skip))) (.seq (.seq (.reg [.op none (.mv 21 (.const (.int .i64 0))), .keep [3, 4, 5, 9, 11, 13, 15, 16, 17, 18, 21]]) (.block 2 (.gh (.loop (.ga C12_l1))))) (.seq (.ga (.reg [.op none (.mv 193 (.tmp 11)), .op none (.mv 194 (.tmp 18)), .op none (.iaddr 195 3 (.tmp 193) (.tmp 194)), .op none (.faddr 196 0 (.tmp 195)), .op none (.load 197 false 1 (.tmp 196)), .op none (.bin 198 .eql (.tmp 197) (.const (.int .i64 15))), .op none (.mv 199 (.tmp 198)), .op (some (199, true)) (.faddr 200 3 (.tmp 13)), .op (some (199, true)) (.load 201 false 1 (.tmp 200)), .op (some (199, true)) (.bin 202 .neq (.tmp 201) (.const (.int .i64 1))), .op (some (199, true)) (.mv 203 (.tmp 202)), .op (some (203, false)) (.faddr 204 4 (.tmp 13)), .op (some (203, false)) (.load 205 false 1 (.tmp 204)), .op (some (203, false)) (.mv 206 (.tmp 3)), .op (some (203, false)) (.mv 207 (.tmp 15)), .op (some (203, false)) (.conv 208 .u64 (.tmp 207)), .op (some (203, false)) (.bin 209 .add (.tmp 206) (.tmp 208)), .op (some (203, false)) (.bin 210 .neq (.tmp 205) (.tmp 209)), .op (some (199, true)) (.pick 211 (.tmp 203) (.const (.bool true)) (.tmp 210)), .op none (.pick 212 (.tmp 199) (.tmp 211) (.const (.bool false))), .keep [3, 4, 5, 9, 11, 13, 15, 16, 17, 18, 212]])) (.cond (.tmp 212) (.seq (.reg [.op none (.mv 2 (.const (.bool false))), .keep [2]]) (.gh .ret)) (.skip)))))))))) (.reg [.op none (.mv 90 (.tmp 18)), .op none (.bin 91 .add (.tmp 90) (.const (.int .i64 1))), .op none (.mv 18 (.tmp 91)), .keep [3, 4, 5, 9, 11, 13, 15, 16, 17, 18]]))
def C12 : AC := .seq (.reg [.op none (.mv 2 (.const (.bool false))), .keep [0]]) (.seq (.seq (.reg [.op none (.mv 29 (.tmp 0)), .op none (.len 30 (.tmp 29)), .op none (.bin 31 .gtr (.tmp 30) (.const (.int .i64 1048576))), .keep [0, 31]]) (.cond (.tmp 31) (.seq (.reg [.op none (.mv 2 (.const (.bool true))), .keep [2]]) (.ret)) (.skip))) (.seq (.reg [.op none (.mv 33 (.tmp 0)), .call none (some 34) 61 [.tmp 33], .op none (.mv 32 (.tmp 34)), .op none (.extr 35 (.tmp 32) 0), .op none (.extr 36 (.tmp 32) 1), .op none (.extr 37 (.tmp 32) 2), .op none (.mv 3 (.tmp 35)), .op none (.mv 4 (.tmp 36)), .op none (.mv 5 (.tmp 37)), .keep [0, 3, 4, 5]]) (.seq (.reg [.op none (.mv 39 (.tmp 0)), .call none (some 40) 61 [.tmp 39], .op none (.mv 38 (.tmp 40)), .op none (.extr 41 (.tmp 38) 0), .op none (.extr 42 (.tmp 38) 1), .op none (.extr 43 (.tmp 38) 2), .op none (.mv 6 (.tmp 41)), .op none (.mv 7 (.tmp 42)), .op none (.mv 8 (.tmp 43)), .keep [3, 4, 5, 8]]) (.seq (.reg [.op none (.mv 45 (.tmp 3)), .op none (.mv 46 (.tmp 4)), .op none (.mv 47 (.tmp 5)), .call none (some 48) 48 [.tmp 45, .tmp 46, .tmp 47], .op none (.mv 44 (.tmp 48)), .op none (.extr 49 (.tmp 44) 0), .op none (.extr 50 (.tmp 44) 1), .op none (.mv 9 (.tmp 49)), .op none (.mv 10 (.tmp 50)), .keep [3, 4, 5, 8, 9]]) (.seq (.reg [.op none (.mv 52 (.tmp 3)), .op none (.mv 53 (.tmp 4)), .op none (.mv 54 (.tmp 8)), .call none (some 55) 50 [.tmp 52, .tmp 53, .tmp 54], .op none (.mv 51 (.tmp 55)), .op none (.extr 56 (.tmp 51) 0), .op none (.extr 57 (.tmp 51) 1), .op none (.mv 11 (.tmp 56)), .op none (.mv 12 (.tmp 57)), .keep [3, 4, 5, 8, 9, 11, 12]]) (.seq (.reg [.op none (.mv 59 (.tmp 3)), .op none (.mv 60 (.tmp 4)), .op none (.mv 61 (.tmp 8)), .call none (some 62) 57 [.tmp 59, .tmp 60, .tmp 61], .op none (.mv 58 (.tmp 62)), .op none (.extr 63 (.tmp 58) 0), .op none (.extr 64 (.tmp 58) 1), .op none (.alloc 13 [.int .u64 0, .int .u64 0, .slice none 0 0, .int .i64 0, .int .u64 0]), .gh, .op none (.store 5 (.tmp 13) (.tmp 63)), .op none (.mv 14 (.tmp 64)), .keep [3, 4, 5, 9, 11, 12, 13, 14]]) (.seq (.seq (.ga (.reg [.op none (.mv 65 (.tmp 12)), .op none (.bin 66 .neq (.tmp 65) (.const (.int .i64 0))), .op none (.mv 67 (.tmp 66)), .op (some (67, false)) (.mv 68 (.tmp 14)), .op (some (67, false)) (.bin 69 .neq (.tmp 68) (.const (.int .i64 0))), .op none (.pick 70 (.tmp 67) (.const (.bool true)) (.tmp 69)), .op none (.mv 71 (.tmp 70)), .op (some (71, false)) (.mv 72 (.tmp 11)), .op (some (71, false)) (.len 73 (.tmp 72)), .op (some (71, false)) (.mv 74 (.tmp 5)), .op (some (71, false)) (.len 75 (.tmp 74)), .op (some (71, false)) (.bin 76 .neq (.tmp 73) (.tmp 75)), .op none (.pick 77 (.tmp 71) (.const (.bool true)) (.tmp 76)), .op none (.mv 78 (.tmp 77)), .op (some (78, false)) (.mv 79 (.tmp 9)), .op (some (78, false)) (.len 80 (.tmp 79)), .op (some (78, false)) (.mv 81 (.tmp 5)), .op (some (78, false)) (.len 82 (.tmp 81)), .op (some (78, false)) (.bin 83 .neq (.tmp 80) (.tmp 82)), .op none (.pick 84 (.tmp 78) (.const (.bool true)) (.tmp 83)), .keep [3, 4, 5, 9, 11, 13, 84]])) (.cond (.tmp 84) (.seq (.reg [.op none (.mv 2 (.const (.bool false))), .keep [2]]) (.ret)) (.skip))) (.seq (.reg [.op none (.mv 15 (.const (.int .i64 0))), .keep [3, 4, 5, 9, 11, 13, 15]]) (.seq (.reg [.op none (.mv 16 (.const (.int .i64 0))), .keep [3, 4, 5, 9, 11, 13, 15, 16]]) (.seq (.reg [.op none (.bslice 85 2 [.int .u64 0, .int .u64 0] 0 []), .op none (.mv 17 (.tmp 85)), .keep [3, 4, 5, 9, 11, 13, 15, 16, 17]]) (.seq (.seq (.reg [.op none (.mv 18 (.const (.int .i64 0))), .keep [3, 4, 5, 9, 11, 13, 15, 16, 17, 18]]) (.block 0 (.gh (.loop (.ga C12_l0))))) (.seq (.reg [.op none (.faddr 213 0 (.tmp 13)), .op none (.load 214 false 1 (.tmp 213)), .op none (.mv 215 (.tmp 4)), .op none (.conv 216 .u64 (.tmp 215)), .op none (.bin 217 .add (.tmp 214) (.tmp 216)), .op none (.mv 22 (.tmp 217)), .keep [3, 13, 15, 16, 17, 22]]) (.seq (.reg [.op none (.mv 219 (.tmp 17)), .op none (.mv 220 (.tmp 3)), .op none (.faddr 221 0 (.tmp 13)), .op none (.load 222 false 1 (.tmp 221)), .op none (.build 223 [.int .u64 0, .int .u64 0] [(0, 1, .tmp 220), (1, 1, .tmp 222)]), .call none (some 224) 64 [.tmp 219, .tmp 223], .op none (.mv 218 (.tmp 224)), .op none (.extr 225 (.tmp 218) 0), .op none (.extr 226 (.tmp 218) 1), .op none (.mv 23 (.tmp 225)), .op none (.mv 24 (.tmp 226)), .keep [3, 13, 15, 16, 22, 23, 24]]) (.seq (.reg [.op none (.faddr 228 2 (.tmp 13)), .op none (.load 229 false 1 (.tmp 228)), .op none (.faddr 230 0 (.tmp 13)), .op none (.load 231 false 1 (.tmp 230)), .op none (.mv 232 (.tmp 22)), .op none (.build 233 [.int .u64 0, .int .u64 0] [(0, 1, .tmp 231), (1, 1, .tmp 232)]), .call none (some 234) 65 [.tmp 229, .tmp 233], .op none (.mv 227 (.tmp 234)), .op none (.extr 235 (.tmp 227) 0), .op none (.extr 236 (.tmp 227) 1), .op none (.mv 25 (.tmp 235)), .op none (.mv 26 (.tmp 236)), .keep [3, 13, 15, 16, 22, 23, 24, 25]]) (.seq (.reg [.op none (.faddr 238 2 (.tmp 13)), .op none (.load 239 false 1 (.tmp 238)), .op none (.faddr 240 0 (.tmp 13)), .op none (.load 241 false 1 (.tmp 240)), .op none (.mv 242 (.tmp 22)), .op none (.bin 243 .add (.tmp 242) (.const (.int .u64 1))), .op none (.build 244 [.int .u64 0, .int .u64 0] [(0, 1, .tmp 241), (1, 1, .tmp 243)]), .call none (some 245) 66 [.tmp 239, .tmp 244], .op none (.mv 237 (.tmp 245)), .op none (.extr 246 (.tmp 237) 0), .op none (.extr 247 (.tmp 237) 1), .op none (.mv 27 (.tmp 246)), .op none (.mv 28 (.tmp 247)), .keep [3, 13, 15, 16, 23, 24, 25, 27, 28]]) (.seq (.regD (.first (.op none (.mv 248 (.tmp 24))) (.first (.op none (.bin 249 .eql (.tmp 248) (.const (.int .i64 0)))) (.first (.op none (.mv 250 (.tmp 249))) (.first (.op (some (250, true)) (.mv 251 (.tmp 28))) (.first (.op (some (250, true)) (.bin 252 .eql (.tmp 251) (.const (.int .i64 0)))) (.first (.op none (.pick 253 (.tmp 250) (.tmp 252) (.const (.bool false)))) (.first (.op none (.mv 254 (.tmp 253))) (.first (.op (some (254, true)) (.faddr 255 0 (.tmp 13))) (.first (.op (some (254, true)) (.load 256 false 1 (.tmp 255))) (.first (.op (some (254, true)) (.mv 257 (.tmp 3))) (.first (.op (some (254, true)) (.mv 258 (.tmp 15))) (.first (.op (some (254, true)) (.conv 259 .u64 (.tmp 258))) (.first (.op (some (254, true)) (.bin 260 .add (.tmp 257) (.tmp 259))) (.first (.op (some (254, true)) (.bin 261 .eql (.tmp 256) (.tmp 260))) (.first (.op none (.pick 262 (.tmp 254) (.tmp 261) (.const (.bool false)))) (.first (.op none (.mv 263 (.tmp 262))) (.first (.op (some (263, true)) (.mv 264 (.tmp 23))) (.first (.op (some (263, true)) (.faddr 265 2 (.tmp 13))) (.first (.op (some (263, true)) (.load 266 false 1 (.tmp 265))) (.alt (.call (some (263, true)) (some 267) 67 [.tmp 264, .tmp 266]) none (.first (.op none (.pick 268 (.tmp 263) (.tmp 267) (.const (.bool false)))) (.first (.op none (.mv 269 (.tmp 268))) (.first (.op (some (269, true)) (.mv 270 (.tmp 25))) (.first (.op (some (269, true)) (.conv 271 .i64 (.tmp 270))) (.first (.op (some (269, true)) (.mv 272 (.tmp 15))) (.first (.op (some (269, true)) (.bin 273 .add (.tmp 271) (.tmp 272))) (.first (.op (some (269, true)) (.mv 274 (.tmp 16))) (.first (.op (some (269, true)) (.bin 275 .eql (.tmp 273) (.tmp 274))) (.first (.op none (.pick 276 (.tmp 269) (.tmp 275) (.const (.bool false)))) (.first (.op none (.mv 277 (.tmp 276))) (.first (.op (some (277, true)) (.mv 278 (.tmp 27))) (.first (.op (some (277, true)) (.len 279 (.tmp 278))) (.first (.op (some (277, true)) (.bin 280 .gtr (.tmp 279) (.const (.int .i64 0)))) (.first (.op none (.pick 281 (.tmp 277) (.tmp 280) (.const (.bool false)))) (.first (.op none (.mv 282 (.tmp 281))) (.first (.op (some (282, true)) (.mv 283 (.tmp 27))) (.first (.op (some (282, true)) (.iaddr 284 2 (.tmp 283) (.const (.int .i64 0)))) (.first (.op (some (282, true)) (.faddr 285 0 (.tmp 284))) (.first (.op (some (282, true)) (.load 286 false 1 (.tmp 285))) (.first (.op (some (282, true)) (.faddr 287 1 (.tmp 13))) (.first (.op (some (282, true)) (.load 288 false 1 (.tmp 287))) (.first (.op (some (282, true)) (.bin 289 .eql (.tmp 286) (.tmp 288))) (.first (.op none (.pick 290 (.tmp 282) (.tmp 289) (.const (.bool false)))) (.first (.op none (.mv 2 (.tmp 290))) (.done))))))))))))))))))))))))) (.stop))))))))))))))))))))) [2]) (.ret)))))))))))))))))
def r12 : List RV := [.tmp 2]
theorem k12 : compC Try.prog 291 C12 (Try.f12.body.getD .skip) = some C12.erase := by kernel_rfl
theorem q12 : rvsOf Try.prog Try.f12.results.toList = some r12 := by kernel_rfl
def laws_FnReorder.l1 (x1_0 : Int) (x1_1 : Int) (x1_3 : Int) (x1_4 : Int) (x1_6 : (List S116)) (x1_7 : (List S118)) (x1_8 : (List S118)) (x1_9 : Int) (x1_10 : Int) (x1_11 : (List S122)) (x1_12 : Int) (x1_13 : Int) (x1_14 : (List S122)) (x1_2 : Int) (x1_5 : Int) : Option (Lp Int Bool) := (if 0 ≤ x1_4 ∧ x1_4 < (x1_8.length : Int) then (if x1_5 < (((rd z118 x1_8 x1_4).f2).length : Int) then (if 0 ≤ x1_5 ∧ x1_5 < (((rd z118 x1_8 x1_4).f2).length : Int) then (spec_StreamByte.f x1_2 >>= fun t130 => (if (rd 0 ((rd z118 x1_8 x1_4).f2) x1_5) ≠ t130 then (some (.b false)) else (laws_FnReorder.l1 x1_0 x1_1 x1_3 x1_4 x1_6 x1_7 x1_8 x1_9 x1_10 x1_11 x1_12 x1_13 x1_14 (IntKind.i64.wrap (x1_2 + 1)) (IntKind.i64.wrap (x1_5 + 1))))) else none) else (some (.a x1_2))) else none)
 partial_fixpoint
def laws_FnReorder.l0 (l0 : List Int) (x0_0 : Int) (x0_1 : Int) (x0_5 : (List S116)) (x0_6 : (List S118)) (x0_7 : (List S118)) (x0_8 : Int) (x0_9 : Int) (x0_10 : (List S122)) (x0_11 : Int) (x0_12 : Int) (x0_2 : Int) (x0_3 : Int) (x0_4 : Int) (x0_13 : (List S122)) : Option (Lp (Int × Int × (List S122)) Bool) := (if x0_4 < (x0_5.length : Int) then (if 0 ≤ x0_4 ∧ x0_4 < (x0_5.length : Int) then (if 0 ≤ x0_4 ∧ x0_4 < (x0_7.length : Int) then (if 0 ≤ x0_4 ∧ x0_4 < (x0_6.length : Int) then (if (rd z118 x0_7 x0_4).f0 ≠ (rd z118 x0_6 x0_4).f0 then (some (.b false)) else (((if (rd z116 x0_5 x0_4).f0 = 1 then (some (decide ((rd z118 x0_7 x0_4).f0 = 0))) else (some false)) >>= fun (j77 : Bool) => (if j77 = true then (impl_SpanAdd.f x0_13 ((rd z116 x0_5 x0_4).f1) (IntKind.u64.wrap (((rd z116 x0_5 x0_4).f1) + (IntKind.u64.wrap (((rd z116 x0_5 x0_4).f2).length : Int)))) >>= fun t90 => (if t90.2 ≠ 0 then ((some (.b false)) >>= fun r => some (Lp.a r)) else (some (.b (IntKind.i64.wrap (x0_3 + ((rd z118 x0_7 x0_4).f1)), t90.1))))) else (some (.b (x0_3, x0_13))))) >>= fun (j72 : Lp _ (Int × (List S122))) => match j72 with | .a r => some r | .b x76 => (if (rd z116 x0_5 x0_4).f0 ≠ 2 then (laws_FnReorder.l0 l0 x0_0 x0_1 x0_5 x0_6 x0_7 x0_8 x0_9 x0_10 x0_11 x0_12 x0_2 x76.1 (IntKind.i64.wrap (x0_4 + 1)) x76.2) else ((if (rd z118 x0_7 x0_4).f1 ≠ (((rd z118 x0_7 x0_4).f2).length : Int) then (some true) else (some (decide ((rd z118 x0_7 x0_4).f1 ≠ (rd z118 x0_6 x0_4).f1)))) >>= fun (j100 : Bool) => (if j100 = true then (some (.b false)) else (laws_FnReorder.l1 x0_0 x0_1 x76.1 x0_4 x0_5 x0_6 x0_7 x0_8 x0_9 x0_10 x0_11 x0_12 x76.2 x0_2 0 >>= fun (y136 : Lp Int Bool) => match y136 with | .a x138 => ((if (rd z118 x0_7 x0_4).f0 = 15 then (if x0_11 ≠ 1 then (some true) else (some (decide (x0_12 ≠ IntKind.u64.wrap (x0_0 + (IntKind.u64.wrap x138)))))) else (some false)) >>= fun (j139 : Bool) => (if j139 = true then (some (.b false)) else (laws_FnReorder.l0 l0 x0_0 x0_1 x0_5 x0_6 x0_7 x0_8 x0_9 x0_10 x0_11 x0_12 x138 x76.1 (IntKind.i64.wrap (x0_4 + 1)) x76.2))) | .b x138 => (some (.b x138)))))))) else none) else none) else none) else (some (.a (x0_2, x0_3, x0_13))))
 partial_fixpoint
def laws_FnReorder.f (l0 : List Int) : Option Bool := (if (l0.length : Int) > 1048576 then (some true) else (spec_HonestPieces.f l0 >>= fun t7 => (spec_ReorderRun.f t7.1 t7.2.1 t7.2.2 >>= fun t13 => (impl_ReorderRun.f t7.1 t7.2.1 t7.2.2 >>= fun t17 => (impl_ReorderState.f t7.1 t7.2.1 t7.2.2 >>= fun t21 => ((if t17.2 ≠ 0 then (some true) else (if t21.2.2.2.2.2 ≠ 0 then (some true) else (if (t17.1.length : Int) ≠ (t7.2.2.length : Int) then (some true) else (some (decide ((t13.1.length : Int) ≠ (t7.2.2.length : Int))))))) >>= fun (j26 : Bool) => (if j26 = true then (some false) else (laws_FnReorder.l0 l0 t7.1 t7.2.1 t7.2.2 t13.1 t17.1 t21.1 t21.2.1 t21.2.2.1 t21.2.2.2.1 t21.2.2.2.2.1 0 0 0 ([] : List S122) >>= fun (y151 : Lp (Int × Int × (List S122)) Bool) => match y151 with | .a x153 => (impl_SpanCut.f x153.2.2 t7.1 t21.1 >>= fun t156 => (impl_SpanSize.f t21.2.2.1 t21.1 (IntKind.u64.wrap (t21.1 + (IntKind.u64.wrap t7.2.1))) >>= fun t160 => (impl_SpanGaps.f t21.2.2.1 t21.1 (IntKind.u64.wrap ((IntKind.u64.wrap (t21.1 + (IntKind.u64.wrap t7.2.1))) + 1)) >>= fun t164 => (if t156.2 = 0 then (if t164.2 = 0 then (if t21.1 = IntKind.u64.wrap (t7.1 + (IntKind.u64.wrap x153.1)) then (laws_lSpans.f t156.1 t21.2.2.1 >>= fun t174 => (if t174 = true then (if IntKind.i64.wrap ((IntKind.i64.wrap t160.1) + x153.1) = x153.2.1 then (if (t164.1.length : Int) > 0 then (if (0 : Int) ≤ 0 ∧ 0 < (t164.1.length : Int) then (some (decide ((rd z122 t164.1 0).f0 = t21.2.1))) else none) else (some false)) else (some false)) else (some false))) else (some false)) else (some false)) else (some false))))) | .b x153 => (some x153)))))))))
def laws_FnReorder.l1_M (cs0 : List Cell) (o0 : Nat) (l0 : List Int) (hv0 : Vw c_u8 1 cs0 o0 l0) (x1_0 : Int) (x1_1 : Int) (x1_3 : Int) (x1_4 : Int) (x1_6 : (List S116)) (x1_7 : (List S118)) (x1_8 : (List S118)) (x1_9 : Int) (x1_10 : Int) (x1_11 : (List S122)) (x1_12 : Int) (x1_13 : Int) (x1_14 : (List S122)) (x1_2 : Int) (x1_5 : Int) (y : Lp Int Bool) : Prop := ∀ (K : AE → St → Prop), (∀ x, y = .a x → K (.exit 2) ⟨[(3, .c (.sc (.int .u64 x1_0))), (4, .c (.sc (.int .i64 x1_1))), (5, .c (.ref (.tmp 34 0) [] 0 x1_6.length)), (9, .c (.ref (.tmp 48 0) [] 0 x1_7.length)), (11, .c (.ref (.tmp 55 0) [] 0 x1_8.length)), (13, .c (.ptr (.tmp 13 0) [] 0)), (15, .c (.sc (.int .i64 x))), (16, .c (.sc (.int .i64 x1_3))), (17, .c (.ref (.tmp 137 0) [] 0 x1_14.length)), (18, .c (.sc (.int .i64 x1_4)))], [(.arg 0, ⟨.fz, 1, cs0⟩), (.tmp 34 0, ⟨.lst, 4, encL c116 x1_6⟩), (.tmp 48 0, ⟨.lst, 3, encL c118 x1_7⟩), (.tmp 55 0, ⟨.lst, 3, encL c118 x1_8⟩), (.tmp 13 0, ⟨.box, 0, [.sc (.int .u64 x1_9), .sc (.int .u64 x1_10), .own 2 x1_11.length (encL c122 x1_11), .sc (.int .i64 x1_12), .sc (.int .u64 x1_13)]⟩), (.tmp 137 0, ⟨.lst, 2, encL c122 x1_14⟩)], [], []⟩) → (∀ x, y = .b x → K .ret ⟨[(2, .c (.sc (.bool x)))], [(.arg 0, ⟨.fz, 1, cs0⟩)], [], []⟩) → loopS Try.prog 291 (.ga C12_l1) K ⟨[(3, .c (.sc (.int .u64 x1_0))), (4, .c (.sc (.int .i64 x1_1))), (5, .c (.ref (.tmp 34 0) [] 0 x1_6.length)), (9, .c (.ref (.tmp 48 0) [] 0 x1_7.length)), (11, .c (.ref (.tmp 55 0) [] 0 x1_8.length)), (13, .c (.ptr (.tmp 13 0) [] 0)), (15, .c (.sc (.int .i64 x1_2))), (16, .c (.sc (.int .i64 x1_3))), (17, .c (.ref (.tmp 137 0) [] 0 x1_14.length)), (18, .c (.sc (.int .i64 x1_4))), (21, .c (.sc (.int .i64 x1_5)))], [(.arg 0, ⟨.fz, 1, cs0⟩), (.tmp 34 0, ⟨.lst, 4, encL c116 x1_6⟩), (.tmp 48 0, ⟨.lst, 3, encL c118 x1_7⟩), (.tmp 55 0, ⟨.lst, 3, encL c118 x1_8⟩), (.tmp 13 0, ⟨.box, 0, [.sc (.int .u64 x1_9), .sc (.int .u64 x1_10), .own 2 x1_11.length (encL c122 x1_11), .sc (.int .i64 x1_12), .sc (.int .u64 x1_13)]⟩), (.tmp 137 0, ⟨.lst, 2, encL c122 x1_14⟩)], [], []⟩
theorem laws_FnReorder.l1_walk (cs0 : List Cell) (o0 : Nat) (l0 : List Int) (hv0 : Vw c_u8 1 cs0 o0 l0) (x1_0 : Int) (x1_1 : Int) (x1_3 : Int) (x1_4 : Int) (x1_6 : (List S116)) (x1_7 : (List S118)) (x1_8 : (List S118)) (x1_9 : Int) (x1_10 : Int) (x1_11 : (List S122)) (x1_12 : Int) (x1_13 : Int) (x1_14 : (List S122)) (x1_2 : Int) (x1_5 : Int) (y : Lp Int Bool) (h : laws_FnReorder.l1 x1_0 x1_1 x1_3 x1_4 x1_6 x1_7 x1_8 x1_9 x1_10 x1_11 x1_12 x1_13 x1_14 x1_2 x1_5 = some y) : laws_FnReorder.l1_M cs0 o0 l0 hv0 x1_0 x1_1 x1_3 x1_4 x1_6 x1_7 x1_8 x1_9 x1_10 x1_11 x1_12 x1_13 x1_14 x1_2 x1_5 y := by
 refine laws_FnReorder.l1.partial_correctness x1_0 x1_1 x1_3 x1_4 x1_6 x1_7 x1_8 x1_9 x1_10 x1_11 x1_12 x1_13 x1_14 (motive := fun x1_2 x1_5 y => laws_FnReorder.l1_M cs0 o0 l0 hv0 x1_0 x1_1 x1_3 x1_4 x1_6 x1_7 x1_8 x1_9 x1_10 x1_11 x1_12 x1_13 x1_14 x1_2 x1_5 y) ?_ x1_2 x1_5 y h
 clear h
 unfold laws_FnReorder.l1_M
 intro rec ih x1_2 x1_5 y h K hx0 hx1
 refine loop_unroll (ga_k fun G1 G1n G1r G1x => ?_)
 unfold C12_l1
 refine seq_k fun J118 hJ118 => ?_
 refine sr_k fun J119 hJ119 => ?_
 obtain ⟨b120, h⟩ := of_guard h
 have g121 : 0 + x1_4.toNat * 3 + 2 ≤ (encL c118 x1_8).length := ((Vw.whole c118_w x1_8).len_le b120.1 b120.2 (by decide))
 have g122 : (encL c118 x1_8)[0 + x1_4.toNat * 3 + 2]? = some (.own 1 (((rd z118 x1_8 x1_4).f2).length) (encL c_u8 ((rd z118 x1_8 x1_4).f2))) := (Vw.whole c118_w x1_8).get z118 2 b120.1 b120.2 (by decide)
 simp +decide only [Nat.reduceAdd, Nat.reduceMul, Int.reduceToNat, ak, b120, g121, g122]
 refine hJ119 _ ?_
 refine cond_k (b := decide (x1_5 < (((rd z118 x1_8 x1_4).f2).length : Int))) rfl (fun c123 => ?_) (fun c123 => ?_)
 ·replace c123 := of_decide_eq_true c123; rw [if_pos c123] at h
  refine hJ118 _ ?_
  refine seq_k fun J124 hJ124 => ?_
  refine block_k fun B125 B125n B125x B125r B125j => ?_
  refine seq_k fun J126 hJ126 => ?_
  refine sd_k fun J127 hJ127 => ?_
  obtain ⟨b128, h⟩ := of_guard h
  have g129 : (encL c_u8 ((rd z118 x1_8 x1_4).f2))[0 + x1_5.toNat * 1]? = some (.sc (.int .u8 (rd 0 ((rd z118 x1_8 x1_4).f2) x1_5))) := (Vw.whole c_u8_w ((rd z118 x1_8 x1_4).f2)).get 0 0 b128.1 b128.2 (by decide)
  simp +decide only [Nat.reduceAdd, Nat.reduceMul, Int.reduceToNat, ak, b120, g121, g122, b128, g129]
  obtain ⟨t130, h131, h⟩ := of_bind h
  refine alt_e ?_
  ·simp +decide only [Nat.reduceAdd, Nat.reduceMul, Int.reduceToNat, ak]
   refine call_m [] (s0 := []) (by intro t ht; cases ht; decide) rfl rfl (by first | rfl | simp only [reduceCtorEq, Nat.reduceEqDiff, ak, akF, b120, b128, g121, g122, g129]) (spec_StreamByte.tri x1_2 _ h131) (by first | rfl | simp only [reduceCtorEq, Nat.reduceEqDiff, ak, akF]) (by simp [bkOk2, memK]) (fun hl132 => ?_)
   refine call_st (s4 := [(.arg 0, ⟨.fz, 1, cs0⟩), (.tmp 34 0, ⟨.lst, 4, encL c116 x1_6⟩), (.tmp 48 0, ⟨.lst, 3, encL c118 x1_7⟩), (.tmp 55 0, ⟨.lst, 3, encL c118 x1_8⟩), (.tmp 13 0, ⟨.box, 0, [.sc (.int .u64 x1_9), .sc (.int .u64 x1_10), .own 2 x1_11.length (encL c122 x1_11), .sc (.int .i64 x1_12), .sc (.int .u64 x1_13)]⟩), (.tmp 137 0, ⟨.lst, 2, encL c122 x1_14⟩)]) (m1' := []) (m2' := []) (v' := .c (.sc (.int .u8 t130))) (Sto.mapN_killNil _ _) (mrgL_nil' _ _ _) (by rfl) (mapT_killNil _ _) (by rfl) (by rfl) (by first | rfl | simp only [reduceCtorEq, Nat.reduceEqDiff, ak, akF, Nat.zero_add, List.append_nil, b120, b128]) ?_
   simp +decide only [Nat.reduceAdd, Nat.reduceMul, Int.reduceToNat, ak, b120, g122, b128, g129]
   refine hJ127 _ ?_
   refine cond_k (b := decide ((rd 0 ((rd z118 x1_8 x1_4).f2) x1_5) ≠ t130)) rfl (fun c134 => ?_) (fun c134 => ?_)
   ·replace c134 := of_decide_eq_true c134; rw [if_pos c134] at h
    refine sr_k fun J135 hJ135 => ?_
    simp +decide only [Nat.reduceAdd, Nat.reduceMul, Int.reduceToNat, ak]
    refine hJ135 _ ?_
    obtain rfl := Option.some.inj h
    refine gh_k (wk [2] [pI (.arg 0) .fz]) ?_
    refine B125r _ ?_
    refine G1r _ ?_
    exact hx1 _ rfl
   ·replace c134 := of_decide_eq_false c134; rw [if_neg c134] at h
    refine hJ126 _ ?_
    refine reg_k ?_
    simp +decide only [Nat.reduceAdd, Nat.reduceMul, Int.reduceToNat, ak]
    refine B125n _ ?_
    refine hJ124 _ ?_
    refine reg_k ?_
    simp +decide only [Nat.reduceAdd, Nat.reduceMul, Int.reduceToNat, ak]
    refine G1n _ _ (wk [3, 4, 5, 9, 11, 13, 15, 16, 17, 18, 21] [pI (.arg 0) .fz, pI (.tmp 34 0) .lst, pI (.tmp 48 0) .lst, pI (.tmp 55 0) .lst, pI (.tmp 13 0) .box, pI (.tmp 137 0) .lst]) (ih _ _ _ h K hx0 hx1)
 ·replace c123 := of_decide_eq_false c123; rw [if_neg c123] at h
  obtain rfl := Option.some.inj h
  refine gh_k (wk [3, 4, 5, 9, 11, 13, 15, 16, 17, 18] [pI (.arg 0) .fz, pI (.tmp 34 0) .lst, pI (.tmp 48 0) .lst, pI (.tmp 55 0) .lst, pI (.tmp 13 0) .box, pI (.tmp 137 0) .lst]) ?_
  refine G1x _ _ ?_
  exact hx0 _ rfl
def laws_FnReorder.l0_M (cs0 : List Cell) (o0 : Nat) (l0 : List Int) (hv0 : Vw c_u8 1 cs0 o0 l0) (x0_0 : Int) (x0_1 : Int) (x0_5 : (List S116)) (x0_6 : (List S118)) (x0_7 : (List S118)) (x0_8 : Int) (x0_9 : Int) (x0_10 : (List S122)) (x0_11 : Int) (x0_12 : Int) (x0_2 : Int) (x0_3 : Int) (x0_4 : Int) (x0_13 : (List S122)) (y : Lp (Int × Int × (List S122)) Bool) : Prop := ∀ (K : AE → St → Prop), (∀ x, y = .a x → K (.exit 0) ⟨[(3, .c (.sc (.int .u64 x0_0))), (4, .c (.sc (.int .i64 x0_1))), (13, .c (.ptr (.tmp 13 0) [] 0)), (15, .c (.sc (.int .i64 x.1))), (16, .c (.sc (.int .i64 x.2.1))), (17, .c (.ref (.tmp 85 0) [] 0 x.2.2.length))], [(.arg 0, ⟨.fz, 1, cs0⟩), (.tmp 13 0, ⟨.box, 0, [.sc (.int .u64 x0_8), .sc (.int .u64 x0_9), .own 2 x0_10.length (encL c122 x0_10), .sc (.int .i64 x0_11), .sc (.int .u64 x0_12)]⟩), (.tmp 85 0, ⟨.lst, 2, encL c122 x.2.2⟩)], [], []⟩) → (∀ x, y = .b x → K .ret ⟨[(2, .c (.sc (.bool x)))], [(.arg 0, ⟨.fz, 1, cs0⟩)], [], []⟩) → loopS Try.prog 291 (.ga C12_l0) K ⟨[(3, .c (.sc (.int .u64 x0_0))), (4, .c (.sc (.int .i64 x0_1))), (5, .c (.ref (.tmp 34 0) [] 0 x0_5.length)), (9, .c (.ref (.tmp 48 0) [] 0 x0_6.length)), (11, .c (.ref (.tmp 55 0) [] 0 x0_7.length)), (13, .c (.ptr (.tmp 13 0) [] 0)), (15, .c (.sc (.int .i64 x0_2))), (16, .c (.sc (.int .i64 x0_3))), (17, .c (.ref (.tmp 85 0) [] 0 x0_13.length)), (18, .c (.sc (.int .i64 x0_4)))], [(.arg 0, ⟨.fz, 1, cs0⟩), (.tmp 34 0, ⟨.lst, 4, encL c116 x0_5⟩), (.tmp 48 0, ⟨.lst, 3, encL c118 x0_6⟩), (.tmp 55 0, ⟨.lst, 3, encL c118 x0_7⟩), (.tmp 13 0, ⟨.box, 0, [.sc (.int .u64 x0_8), .sc (.int .u64 x0_9), .own 2 x0_10.length (encL c122 x0_10), .sc (.int .i64 x0_11), .sc (.int .u64 x0_12)]⟩), (.tmp 85 0, ⟨.lst, 2, encL c122 x0_13⟩)], [], []⟩
theorem laws_FnReorder.l0_walk (cs0 : List Cell) (o0 : Nat) (l0 : List Int) (hv0 : Vw c_u8 1 cs0 o0 l0) (x0_0 : Int) (x0_1 : Int) (x0_5 : (List S116)) (x0_6 : (List S118)) (x0_7 : (List S118)) (x0_8 : Int) (x0_9 : Int) (x0_10 : (List S122)) (x0_11 : Int) (x0_12 : Int) (x0_2 : Int) (x0_3 : Int) (x0_4 : Int) (x0_13 : (List S122)) (y : Lp (Int × Int × (List S122)) Bool) (h : laws_FnReorder.l0 l0 x0_0 x0_1 x0_5 x0_6 x0_7 x0_8 x0_9 x0_10 x0_11 x0_12 x0_2 x0_3 x0_4 x0_13 = some y) : laws_FnReorder.l0_M cs0 o0 l0 hv0 x0_0 x0_1 x0_5 x0_6 x0_7 x0_8 x0_9 x0_10 x0_11 x0_12 x0_2 x0_3 x0_4 x0_13 y := by
 refine laws_FnReorder.l0.partial_correctness l0 x0_0 x0_1 x0_5 x0_6 x0_7 x0_8 x0_9 x0_10 x0_11 x0_12 (motive := fun x0_2 x0_3 x0_4 x0_13 y => laws_FnReorder.l0_M cs0 o0 l0 hv0 x0_0 x0_1 x0_5 x0_6 x0_7 x0_8 x0_9 x0_10 x0_11 x0_12 x0_2 x0_3 x0_4 x0_13 y) ?_ x0_2 x0_3 x0_4 x0_13 y h
 clear h
 unfold laws_FnReorder.l0_M
 intro rec ih x0_2 x0_3 x0_4 x0_13 y h K hx0 hx1
 refine loop_unroll (ga_k fun G0 G0n G0r G0x => ?_)
 unfold C12_l0
 refine seq_k fun J50 hJ50 => ?_
 refine sr_k fun J51 hJ51 => ?_
 simp +decide only [Nat.reduceAdd, Nat.reduceMul, Int.reduceToNat, ak]
 refine hJ51 _ ?_
 refine cond_k (b := decide (x0_4 < (x0_5.length : Int))) rfl (fun c52 => ?_) (fun c52 => ?_)
 ·replace c52 := of_decide_eq_true c52; rw [if_pos c52] at h
  refine hJ50 _ ?_
  refine seq_k fun J53 hJ53 => ?_
  refine block_k fun B54 B54n B54x B54r B54j => ?_
  refine sr_k fun J55 hJ55 => ?_
  obtain ⟨b56, h⟩ := of_guard h
  have g57 : (List.drop (0 + x0_4.toNat * 4) (encL c116 x0_5)).take 4 = [.sc (.int .i64 ((rd z116 x0_5 x0_4).f0)), .sc (.int .u64 ((rd z116 x0_5 x0_4).f1)), .own 1 (((rd z116 x0_5 x0_4).f2).length) (encL c_u8 ((rd z116 x0_5 x0_4).f2)), .sc (.int .i64 ((rd z116 x0_5 x0_4).f3))] := (Vw.whole c116_w x0_5).stretch z116 b56.1 b56.2
  simp +decide only [Nat.reduceAdd, Nat.reduceMul, Int.reduceToNat, ak, b56, g57]
  refine gho_k (Weak.own (.tmp 19 0) (cs' := [.sc (.int .i64 0), .sc (.int .u64 0), .own 1 (([] : List Int).length) (encL c_u8 ([] : List Int)), .sc (.int .i64 0)]) rfl ⟨.inl rfl, .inl rfl, .inr ⟨rfl, _, rfl⟩, .inl rfl, trivial⟩) ?_
  simp +decide only [Nat.reduceAdd, Nat.reduceMul, Int.reduceToNat, ak]
  refine hJ55 _ ?_
  refine seq_k fun J58 hJ58 => ?_
  refine sd_k fun J59 hJ59 => ?_
  obtain ⟨b60, h⟩ := of_guard h
  have g61 : 0 + x0_4.toNat * 3 + 0 ≤ (encL c118 x0_7).length := ((Vw.whole c118_w x0_7).len_le b60.1 b60.2 (by decide))
  have g62 : (encL c118 x0_7)[0 + x0_4.toNat * 3 + 0]? = some (.sc (.int .i64 ((rd z118 x0_7 x0_4).f0))) := (Vw.whole c118_w x0_7).get z118 0 b60.1 b60.2 (by decide)
  obtain ⟨b63, h⟩ := of_guard h
  have g64 : 0 + x0_4.toNat * 3 + 0 ≤ (encL c118 x0_6).length := ((Vw.whole c118_w x0_6).len_le b63.1 b63.2 (by decide))
  have g65 : (encL c118 x0_6)[0 + x0_4.toNat * 3 + 0]? = some (.sc (.int .i64 ((rd z118 x0_6 x0_4).f0))) := (Vw.whole c118_w x0_6).get z118 0 b63.1 b63.2 (by decide)
  simp +decide only [Nat.reduceAdd, Nat.reduceMul, Int.reduceToNat, ak, b60, g61, g62, b63, g64, g65]
  refine hJ59 _ ?_
  refine cond_k (b := decide ((rd z118 x0_7 x0_4).f0 ≠ (rd z118 x0_6 x0_4).f0)) rfl (fun c66 => ?_) (fun c66 => ?_)
  ·replace c66 := of_decide_eq_true c66; rw [if_pos c66] at h
   refine sr_k fun J67 hJ67 => ?_
   simp +decide only [Nat.reduceAdd, Nat.reduceMul, Int.reduceToNat, ak]
   refine hJ67 _ ?_
   obtain rfl := Option.some.inj h
   refine gh_k (wk [2] [pI (.arg 0) .fz]) ?_
   refine B54r _ ?_
   refine G0r _ ?_
   exact hx1 _ rfl
  ·replace c66 := of_decide_eq_false c66; rw [if_neg c66] at h
   refine hJ58 _ ?_
   obtain ⟨j72, h73, hn71⟩ := of_bind h
   refine seq_j (fun st => ∃ x76, j72 = .b x76 ∧ st = ⟨[(3, .c (.sc (.int .u64 x0_0))), (4, .c (.sc (.int .i64 x0_1))), (5, .c (.ref (.tmp 34 0) [] 0 x0_5.length)), (9, .c (.ref (.tmp 48 0) [] 0 x0_6.length)), (11, .c (.ref (.tmp 55 0) [] 0 x0_7.length)), (13, .c (.ptr (.tmp 13 0) [] 0)), (15, .c (.sc (.int .i64 x0_2))), (16, .c (.sc (.int .i64 x76.1))), (17, .c (.ref (.tmp 137 0) [] 0 x76.2.length)), (18, .c (.sc (.int .i64 x0_4))), (19, .c (.ptr (.tmp 19 0) [] 0))], [(.arg 0, ⟨.fz, 1, cs0⟩), (.tmp 34 0, ⟨.lst, 4, encL c116 x0_5⟩), (.tmp 48 0, ⟨.lst, 3, encL c118 x0_6⟩), (.tmp 55 0, ⟨.lst, 3, encL c118 x0_7⟩), (.tmp 13 0, ⟨.box, 0, [.sc (.int .u64 x0_8), .sc (.int .u64 x0_9), .own 2 x0_10.length (encL c122 x0_10), .sc (.int .i64 x0_11), .sc (.int .u64 x0_12)]⟩), (.tmp 137 0, ⟨.lst, 2, encL c122 x76.2⟩), (.tmp 19 0, ⟨.box, 0, [.sc (.int .i64 ((rd z116 x0_5 x0_4).f0)), .sc (.int .u64 ((rd z116 x0_5 x0_4).f1)), .ref (.tmp 34 0) [0 + x0_4.toNat * 4 + 1 + 1] 0 (((rd z116 x0_5 x0_4).f2).length), .sc (.int .i64 ((rd z116 x0_5 x0_4).f3))]⟩)], [], []⟩) (fun J74 hJ74 => ?_) ?_
   ·replace h := h73; clear h73
    refine ga_k fun G75 G75n G75r G75x => ?_
    obtain ⟨j77, h78, hn⟩ := of_bind h
    refine seq_j (fun st => st = ⟨[(3, .c (.sc (.int .u64 x0_0))), (4, .c (.sc (.int .i64 x0_1))), (5, .c (.ref (.tmp 34 0) [] 0 x0_5.length)), (9, .c (.ref (.tmp 48 0) [] 0 x0_6.length)), (11, .c (.ref (.tmp 55 0) [] 0 x0_7.length)), (13, .c (.ptr (.tmp 13 0) [] 0)), (15, .c (.sc (.int .i64 x0_2))), (16, .c (.sc (.int .i64 x0_3))), (17, .c (.ref (.tmp 85 0) [] 0 x0_13.length)), (18, .c (.sc (.int .i64 x0_4))), (19, .c (.ptr (.tmp 19 0) [] 0)), (117, .c (.sc (.bool j77)))], [(.arg 0, ⟨.fz, 1, cs0⟩), (.tmp 34 0, ⟨.lst, 4, encL c116 x0_5⟩), (.tmp 48 0, ⟨.lst, 3, encL c118 x0_6⟩), (.tmp 55 0, ⟨.lst, 3, encL c118 x0_7⟩), (.tmp 13 0, ⟨.box, 0, [.sc (.int .u64 x0_8), .sc (.int .u64 x0_9), .own 2 x0_10.length (encL c122 x0_10), .sc (.int .i64 x0_11), .sc (.int .u64 x0_12)]⟩), (.tmp 85 0, ⟨.lst, 2, encL c122 x0_13⟩), (.tmp 19 0, ⟨.box, 0, [.sc (.int .i64 ((rd z116 x0_5 x0_4).f0)), .sc (.int .u64 ((rd z116 x0_5 x0_4).f1)), .ref (.tmp 34 0) [0 + x0_4.toNat * 4 + 1 + 1] 0 (((rd z116 x0_5 x0_4).f2).length), .sc (.int .i64 ((rd z116 x0_5 x0_4).f3))]⟩)], [], []⟩) (fun J79 hJ79 => ?_) ?_
    ·replace h := h78; clear hn
     refine ga_k fun G80 G80n G80r G80x => ?_
     refine reg_k ?_
     simp +decide only [Nat.reduceAdd, Nat.reduceMul, Int.reduceToNat, ak]
     by_cases c81 : (rd z116 x0_5 x0_4).f0 = 1
     ·rw [if_pos c81] at h
      have e82 : decide ((rd z116 x0_5 x0_4).f0 = 1) = true := decide_eq_true c81
      simp +decide only [Nat.reduceAdd, Nat.reduceMul, Int.reduceToNat, ak, e82, b60, g61, g62]
      obtain rfl := Option.some.inj h
      refine G80n _ _ (wk [3, 4, 5, 9, 11, 13, 15, 16, 17, 18, 19, 117] [pI (.arg 0) .fz, pI (.tmp 34 0) .lst, pI (.tmp 48 0) .lst, pI (.tmp 55 0) .lst, pI (.tmp 13 0) .box, pI (.tmp 85 0) .lst, pI (.tmp 19 0) .box] (h0 := by first | rfl | simp +decide only [ak, akF, b56, b60, b63, e82]) (h := by first | rfl | (simp +decide only [ak, akF, b56, b60, b63, e82]; done) | (simp +decide [ak, akF, b56, b60, b63, e82] <;> omega))) (hJ79 _ rfl)
     ·rw [if_neg c81] at h
      have e83 : decide ((rd z116 x0_5 x0_4).f0 = 1) = false := decide_eq_false c81
      simp +decide only [Nat.reduceAdd, Nat.reduceMul, Int.reduceToNat, ak, e83]
      obtain rfl := Option.some.inj h
      refine G80n _ _ (wk [3, 4, 5, 9, 11, 13, 15, 16, 17, 18, 19, 117] [pI (.arg 0) .fz, pI (.tmp 34 0) .lst, pI (.tmp 48 0) .lst, pI (.tmp 55 0) .lst, pI (.tmp 13 0) .box, pI (.tmp 85 0) .lst, pI (.tmp 19 0) .box] (h0 := by first | rfl | simp +decide only [ak, akF, b56, b60, b63, e83]) (h := by first | rfl | (simp +decide only [ak, akF, b56, b60, b63, e83]; done) | (simp +decide [ak, akF, b56, b60, b63, e83] <;> omega))) (hJ79 _ rfl)
    ·replace h := hn; clear hn h78
     rintro _ rfl
     refine cond_k (b := j77) rfl (fun c84 => ?_) (fun c84 => ?_)
     ·rw [if_pos c84] at h
      refine sr_k fun J85 hJ85 => ?_
      have g86 : 0 + x0_4.toNat * 3 + 1 ≤ (encL c118 x0_7).length := ((Vw.whole c118_w x0_7).len_le b60.1 b60.2 (by decide))
      have g87 : (encL c118 x0_7)[0 + x0_4.toNat * 3 + 1]? = some (.sc (.int .i64 ((rd z118 x0_7 x0_4).f1))) := (Vw.whole c118_w x0_7).get z118 1 b60.1 b60.2 (by decide)
      simp +decide only [Nat.reduceAdd, Nat.reduceMul, Int.reduceToNat, ak, b60, g86, g87]
      refine hJ85 _ ?_
      refine sr_k fun J88 hJ88 => ?_
      simp +decide only [Nat.reduceAdd, Nat.reduceMul, Int.reduceToNat, ak]
      refine hJ88 _ ?_
      refine sr_k fun J89 hJ89 => ?_
      simp +decide only [Nat.reduceAdd, Nat.reduceMul, Int.reduceToNat, ak]
      obtain ⟨t90, h91, h⟩ := of_bind h
      refine call_m [(.arg 0, ⟨(.tmp 85 0), [], none, .fz⟩)] (s0 := [(.arg 0, ⟨.fz, 2, encL c122 x0_13⟩)]) (by intro t ht; cases ht; decide) rfl rfl (by first | rfl | simp only [reduceCtorEq, Nat.reduceEqDiff, ak, akF, b56, b60, b63, g57, g61, g62, g64, g65, g86, g87]) (impl_SpanAdd.tri (encL c122 x0_13) 0 x0_13 (Vw.whole c122_w x0_13) ((rd z116 x0_5 x0_4).f1) (IntKind.u64.wrap (((rd z116 x0_5 x0_4).f1) + (IntKind.u64.wrap (((rd z116 x0_5 x0_4).f2).length : Int)))) _ h91) (by first | rfl | simp only [reduceCtorEq, Nat.reduceEqDiff, ak, akF]) (by simp [bkOk2, memK]) (fun hl91 => ?_)
      refine call_st (s4 := [(.arg 0, ⟨.fz, 1, cs0⟩), (.tmp 34 0, ⟨.lst, 4, encL c116 x0_5⟩), (.tmp 48 0, ⟨.lst, 3, encL c118 x0_6⟩), (.tmp 55 0, ⟨.lst, 3, encL c118 x0_7⟩), (.tmp 13 0, ⟨.box, 0, [.sc (.int .u64 x0_8), .sc (.int .u64 x0_9), .own 2 x0_10.length (encL c122 x0_10), .sc (.int .i64 x0_11), .sc (.int .u64 x0_12)]⟩), (.tmp 85 0, ⟨.lst, 2, encL c122 x0_13⟩), (.tmp 19 0, ⟨.box, 0, [.sc (.int .i64 ((rd z116 x0_5 x0_4).f0)), .sc (.int .u64 ((rd z116 x0_5 x0_4).f1)), .ref (.tmp 34 0) [0 + x0_4.toNat * 4 + 1 + 1] 0 (((rd z116 x0_5 x0_4).f2).length), .sc (.int .i64 ((rd z116 x0_5 x0_4).f3))]⟩), (.tmp 137 0, ⟨.lst, 2, encL c122 t90.1⟩)]) (m1' := []) (m2' := []) (v' := .tup [(false, [.ref (.tmp 137 0) [] 0 t90.1.length]), (false, [.sc (.int .i64 t90.2)])]) (Sto.mapN_killNil _ _) (mrgL_fz (mrgL_nil' _ _ _) rfl (by first | rfl | simp only [reduceCtorEq, Nat.reduceEqDiff, ak, b56, b60, b63, g57, g61, g62, g64, g65, g86, g87]) rfl (by intro R hR hh; cases hR; cases hh.2)) (by rfl) (mapT_killNil _ _) (by rfl) (by rfl) (by first | rfl | simp only [reduceCtorEq, Nat.reduceEqDiff, ak, akF, Nat.zero_add, List.append_nil, b56, b60, b63]) ?_
      simp +decide only [Nat.reduceAdd, Nat.reduceMul, Int.reduceToNat, ak]
      refine hJ89 _ ?_
      refine sr_k fun J93 hJ93 => ?_
      simp +decide only [Nat.reduceAdd, Nat.reduceMul, Int.reduceToNat, ak]
      refine hJ93 _ ?_
      refine cond_k (b := decide (t90.2 ≠ 0)) rfl (fun c94 => ?_) (fun c94 => ?_)
      ·replace c94 := of_decide_eq_true c94; rw [if_pos c94] at h
       refine sr_k fun J95 hJ95 => ?_
       simp +decide only [Nat.reduceAdd, Nat.reduceMul, Int.reduceToNat, ak]
       refine hJ95 _ ?_
       obtain ⟨r68, h69, e70⟩ := of_bind h
       obtain rfl := Option.some.inj e70
       dsimp only at hn71
       replace h := h69.trans hn71
       obtain rfl := Option.some.inj h
       refine gh_k (wk [2] [pI (.arg 0) .fz]) ?_
       refine G75r _ ?_
       refine B54r _ ?_
       refine G0r _ ?_
       exact hx1 _ rfl
      ·replace c94 := of_decide_eq_false c94; rw [if_neg c94] at h
       obtain rfl := Option.some.inj h
       refine G75n _ _ (wk [3, 4, 5, 9, 11, 13, 15, 16, 17, 18, 19] [pI (.arg 0) .fz, pI (.tmp 34 0) .lst, pI (.tmp 48 0) .lst, pI (.tmp 55 0) .lst, pI (.tmp 13 0) .box, pI (.tmp 137 0) .lst, pI (.tmp 19 0) .box]) (hJ74 _ ⟨_, rfl, rfl⟩)
     ·rw [if_neg (Bool.eq_false_iff.1 c84)] at h
      obtain rfl := Option.some.inj h
      refine G75n _ _ (wk [3, 4, 5, 9, 11, 13, 15, 16, 17, 18, 19] [pI (.arg 0) .fz, pI (.tmp 34 0) .lst, pI (.tmp 48 0) .lst, pI (.tmp 55 0) .lst, pI (.tmp 13 0) .box, pN (.tmp 137 0) (.tmp 85 0) .lst, pI (.tmp 19 0) .box]) (hJ74 _ ⟨_, rfl, rfl⟩)
   ·rintro _ ⟨x76, rfl, rfl⟩
    dsimp only at hn71
    replace h := hn71; clear hn71 h73
    refine seq_k fun J96 hJ96 => ?_
    refine sr_k fun J97 hJ97 => ?_
    simp +decide only [Nat.reduceAdd, Nat.reduceMul, Int.reduceToNat, ak]
    refine hJ97 _ ?_
    refine cond_k (b := decide ((rd z116 x0_5 x0_4).f0 ≠ 2)) rfl (fun c98 => ?_) (fun c98 => ?_)
    ·replace c98 := of_decide_eq_true c98; rw [if_pos c98] at h
     refine B54x _ ?_
     refine hJ53 _ ?_
     refine reg_k ?_
     simp +decide only [Nat.reduceAdd, Nat.reduceMul, Int.reduceToNat, ak]
     refine G0n _ _ (wk [3, 4, 5, 9, 11, 13, 15, 16, 17, 18] [pI (.arg 0) .fz, pI (.tmp 34 0) .lst, pI (.tmp 48 0) .lst, pI (.tmp 55 0) .lst, pI (.tmp 13 0) .box, pN (.tmp 85 0) (.tmp 137 0) .lst]) (ih _ _ _ _ _ h K hx0 hx1)
    ·replace c98 := of_decide_eq_false c98; rw [if_neg c98] at h
     refine hJ96 _ ?_
     refine seq_k fun J99 hJ99 => ?_
     obtain ⟨j100, h101, hn⟩ := of_bind h
     refine seq_j (fun st => st = ⟨[(3, .c (.sc (.int .u64 x0_0))), (4, .c (.sc (.int .i64 x0_1))), (5, .c (.ref (.tmp 34 0) [] 0 x0_5.length)), (9, .c (.ref (.tmp 48 0) [] 0 x0_6.length)), (11, .c (.ref (.tmp 55 0) [] 0 x0_7.length)), (13, .c (.ptr (.tmp 13 0) [] 0)), (15, .c (.sc (.int .i64 x0_2))), (16, .c (.sc (.int .i64 x76.1))), (17, .c (.ref (.tmp 137 0) [] 0 x76.2.length)), (18, .c (.sc (.int .i64 x0_4))), (169, .c (.sc (.bool j100)))], [(.arg 0, ⟨.fz, 1, cs0⟩), (.tmp 34 0, ⟨.lst, 4, encL c116 x0_5⟩), (.tmp 48 0, ⟨.lst, 3, encL c118 x0_6⟩), (.tmp 55 0, ⟨.lst, 3, encL c118 x0_7⟩), (.tmp 13 0, ⟨.box, 0, [.sc (.int .u64 x0_8), .sc (.int .u64 x0_9), .own 2 x0_10.length (encL c122 x0_10), .sc (.int .i64 x0_11), .sc (.int .u64 x0_12)]⟩), (.tmp 137 0, ⟨.lst, 2, encL c122 x76.2⟩)], [], []⟩) (fun J102 hJ102 => ?_) ?_
     ·replace h := h101; clear hn
      refine ga_k fun G103 G103n G103r G103x => ?_
      refine regD_k ?_
      have g104 : 0 + x0_4.toNat * 3 + 1 ≤ (encL c118 x0_7).length := ((Vw.whole c118_w x0_7).len_le b60.1 b60.2 (by decide))
      have g105 : (encL c118 x0_7)[0 + x0_4.toNat * 3 + 1]? = some (.sc (.int .i64 ((rd z118 x0_7 x0_4).f1))) := (Vw.whole c118_w x0_7).get z118 1 b60.1 b60.2 (by decide)
      have g106 : 0 + x0_4.toNat * 3 + 2 ≤ (encL c118 x0_7).length := ((Vw.whole c118_w x0_7).len_le b60.1 b60.2 (by decide))
      have g107 : (encL c118 x0_7)[0 + x0_4.toNat * 3 + 2]? = some (.own 1 (((rd z118 x0_7 x0_4).f2).length) (encL c_u8 ((rd z118 x0_7 x0_4).f2))) := (Vw.whole c118_w x0_7).get z118 2 b60.1 b60.2 (by decide)
      simp +decide only [Nat.reduceAdd, Nat.reduceMul, Int.reduceToNat, ak, b60, g104, g105, g106, g107]
      by_cases c108 : (rd z118 x0_7 x0_4).f1 ≠ (((rd z118 x0_7 x0_4).f2).length : Int)
      ·rw [if_pos c108] at h
       have e109 : decide ((rd z118 x0_7 x0_4).f1 ≠ (((rd z118 x0_7 x0_4).f2).length : Int)) = true := decide_eq_true c108
       simp +decide only [Nat.reduceAdd, Nat.reduceMul, Int.reduceToNat, ak, e109]
       obtain rfl := Option.some.inj h
       refine G103n _ _ (wk [3, 4, 5, 9, 11, 13, 15, 16, 17, 18, 169] [pI (.arg 0) .fz, pI (.tmp 34 0) .lst, pI (.tmp 48 0) .lst, pI (.tmp 55 0) .lst, pI (.tmp 13 0) .box, pI (.tmp 137 0) .lst] (h0 := by first | rfl | simp +decide only [ak, akF, b56, b60, b63, e109]) (h := by first | rfl | (simp +decide only [ak, akF, b56, b60, b63, e109]; done) | (simp +decide [ak, akF, b56, b60, b63, e109] <;> omega))) (hJ102 _ rfl)
      ·rw [if_neg c108] at h
       have e110 : decide ((rd z118 x0_7 x0_4).f1 ≠ (((rd z118 x0_7 x0_4).f2).length : Int)) = false := decide_eq_false c108
       have g111 : 0 + x0_4.toNat * 3 + 1 ≤ (encL c118 x0_6).length := ((Vw.whole c118_w x0_6).len_le b63.1 b63.2 (by decide))
       have g112 : (encL c118 x0_6)[0 + x0_4.toNat * 3 + 1]? = some (.sc (.int .i64 ((rd z118 x0_6 x0_4).f1))) := (Vw.whole c118_w x0_6).get z118 1 b63.1 b63.2 (by decide)
       simp +decide only [Nat.reduceAdd, Nat.reduceMul, Int.reduceToNat, ak, e110, b60, g104, g105, b63, g111, g112]
       obtain rfl := Option.some.inj h
       refine G103n _ _ (wk [3, 4, 5, 9, 11, 13, 15, 16, 17, 18, 169] [pI (.arg 0) .fz, pI (.tmp 34 0) .lst, pI (.tmp 48 0) .lst, pI (.tmp 55 0) .lst, pI (.tmp 13 0) .box, pI (.tmp 137 0) .lst] (h0 := by first | rfl | simp +decide only [ak, akF, b56, b60, b63, e110]) (h := by first | rfl | (simp +decide only [ak, akF, b56, b60, b63, e110]; done) | (simp +decide [ak, akF, b56, b60, b63, e110] <;> omega))) (hJ102 _ rfl)
     ·replace h := hn; clear hn h101
      rintro _ rfl
      refine cond_k (b := j100) rfl (fun c113 => ?_) (fun c113 => ?_)
      ·rw [if_pos c113] at h
       refine sr_k fun J114 hJ114 => ?_
       simp +decide only [Nat.reduceAdd, Nat.reduceMul, Int.reduceToNat, ak]
       refine hJ114 _ ?_
       obtain rfl := Option.some.inj h
       refine gh_k (wk [2] [pI (.arg 0) .fz]) ?_
       refine B54r _ ?_
       refine G0r _ ?_
       exact hx1 _ rfl
      ·rw [if_neg (Bool.eq_false_iff.1 c113)] at h
       refine hJ99 _ ?_
       refine seq_k fun J115 hJ115 => ?_
       refine sr_k fun J116 hJ116 => ?_
       simp +decide only [Nat.reduceAdd, Nat.reduceMul, Int.reduceToNat, ak]
       refine hJ116 _ ?_
       refine block_k fun B117 B117n B117x B117r B117j => ?_
       obtain ⟨y136, h137, h⟩ := of_bind h
       refine gh_k (wk [3, 4, 5, 9, 11, 13, 15, 16, 17, 18, 21] [pI (.arg 0) .fz, pI (.tmp 34 0) .lst, pI (.tmp 48 0) .lst, pI (.tmp 55 0) .lst, pI (.tmp 13 0) .box, pI (.tmp 137 0) .lst]) ?_
       rw [e_loop]
       refine laws_FnReorder.l1_walk cs0 o0 l0 hv0 x0_0 x0_1 x76.1 x0_4 x0_5 x0_6 x0_7 x0_8 x0_9 x0_10 x0_11 x0_12 x76.2 x0_2 0 _ h137 _ ?_ ?_
       ·rintro x138 rfl
        dsimp only at h
        refine B117x _ ?_
        refine hJ115 _ ?_
        obtain ⟨j139, h140, hn⟩ := of_bind h
        refine seq_j (fun st => st = ⟨[(3, .c (.sc (.int .u64 x0_0))), (4, .c (.sc (.int .i64 x0_1))), (5, .c (.ref (.tmp 34 0) [] 0 x0_5.length)), (9, .c (.ref (.tmp 48 0) [] 0 x0_6.length)), (11, .c (.ref (.tmp 55 0) [] 0 x0_7.length)), (13, .c (.ptr (.tmp 13 0) [] 0)), (15, .c (.sc (.int .i64 x138))), (16, .c (.sc (.int .i64 x76.1))), (17, .c (.ref (.tmp 137 0) [] 0 x76.2.length)), (18, .c (.sc (.int .i64 x0_4))), (212, .c (.sc (.bool j139)))], [(.arg 0, ⟨.fz, 1, cs0⟩), (.tmp 34 0, ⟨.lst, 4, encL c116 x0_5⟩), (.tmp 48 0, ⟨.lst, 3, encL c118 x0_6⟩), (.tmp 55 0, ⟨.lst, 3, encL c118 x0_7⟩), (.tmp 13 0, ⟨.box, 0, [.sc (.int .u64 x0_8), .sc (.int .u64 x0_9), .own 2 x0_10.length (encL c122 x0_10), .sc (.int .i64 x0_11), .sc (.int .u64 x0_12)]⟩), (.tmp 137 0, ⟨.lst, 2, encL c122 x76.2⟩)], [], []⟩) (fun J141 hJ141 => ?_) ?_
        ·replace h := h140; clear hn
         refine ga_k fun G142 G142n G142r G142x => ?_
         refine reg_k ?_
         simp +decide only [Nat.reduceAdd, Nat.reduceMul, Int.reduceToNat, ak, b60, g61, g62]
         by_cases c143 : (rd z118 x0_7 x0_4).f0 = 15
         ·rw [if_pos c143] at h
          have e144 : decide ((rd z118 x0_7 x0_4).f0 = 15) = true := decide_eq_true c143
          simp +decide only [Nat.reduceAdd, Nat.reduceMul, Int.reduceToNat, ak, e144]
          by_cases c145 : x0_11 ≠ 1
          ·rw [if_pos c145] at h
           have e146 : decide (x0_11 ≠ 1) = true := decide_eq_true c145
           simp +decide only [Nat.reduceAdd, Nat.reduceMul, Int.reduceToNat, ak, e146]
           obtain rfl := Option.some.inj h
           refine G142n _ _ (wk [3, 4, 5, 9, 11, 13, 15, 16, 17, 18, 212] [pI (.arg 0) .fz, pI (.tmp 34 0) .lst, pI (.tmp 48 0) .lst, pI (.tmp 55 0) .lst, pI (.tmp 13 0) .box, pI (.tmp 137 0) .lst] (h0 := by first | rfl | simp +decide only [ak, akF, b56, b60, b63, e144, e146]) (h := by first | rfl | (simp +decide only [ak, akF, b56, b60, b63, e144, e146]; done) | (simp +decide [ak, akF, b56, b60, b63, e144, e146] <;> omega))) (hJ141 _ rfl)
          ·rw [if_neg c145] at h
           have e147 : decide (x0_11 ≠ 1) = false := decide_eq_false c145
           simp +decide only [Nat.reduceAdd, Nat.reduceMul, Int.reduceToNat, ak, e147]
           obtain rfl := Option.some.inj h
           refine G142n _ _ (wk [3, 4, 5, 9, 11, 13, 15, 16, 17, 18, 212] [pI (.arg 0) .fz, pI (.tmp 34 0) .lst, pI (.tmp 48 0) .lst, pI (.tmp 55 0) .lst, pI (.tmp 13 0) .box, pI (.tmp 137 0) .lst] (h0 := by first | rfl | simp +decide only [ak, akF, b56, b60, b63, e144, e147]) (h := by first | rfl | (simp +decide only [ak, akF, b56, b60, b63, e144, e147]; done) | (simp +decide [ak, akF, b56, b60, b63, e144, e147] <;> omega))) (hJ141 _ rfl)
         ·rw [if_neg c143] at h
          have e148 : decide ((rd z118 x0_7 x0_4).f0 = 15) = false := decide_eq_false c143
          simp +decide only [Nat.reduceAdd, Nat.reduceMul, Int.reduceToNat, ak, e148]
          obtain rfl := Option.some.inj h
          refine G142n _ _ (wk [3, 4, 5, 9, 11, 13, 15, 16, 17, 18, 212] [pI (.arg 0) .fz, pI (.tmp 34 0) .lst, pI (.tmp 48 0) .lst, pI (.tmp 55 0) .lst, pI (.tmp 13 0) .box, pI (.tmp 137 0) .lst] (h0 := by first | rfl | simp +decide only [ak, akF, b56, b60, b63, e148]) (h := by first | rfl | (simp +decide only [ak, akF, b56, b60, b63, e148]; done) | (simp +decide [ak, akF, b56, b60, b63, e148] <;> omega))) (hJ141 _ rfl)
        ·replace h := hn; clear hn h140
         rintro _ rfl
         refine cond_k (b := j139) rfl (fun c149 => ?_) (fun c149 => ?_)
         ·rw [if_pos c149] at h
          refine sr_k fun J150 hJ150 => ?_
          simp +decide only [Nat.reduceAdd, Nat.reduceMul, Int.reduceToNat, ak]
          refine hJ150 _ ?_
          obtain rfl := Option.some.inj h
          refine gh_k (wk [2] [pI (.arg 0) .fz]) ?_
          refine B54r _ ?_
          refine G0r _ ?_
          exact hx1 _ rfl
         ·rw [if_neg (Bool.eq_false_iff.1 c149)] at h
          refine B54n _ ?_
          refine hJ53 _ ?_
          refine reg_k ?_
          simp +decide only [Nat.reduceAdd, Nat.reduceMul, Int.reduceToNat, ak]
          refine G0n _ _ (wk [3, 4, 5, 9, 11, 13, 15, 16, 17, 18] [pI (.arg 0) .fz, pI (.tmp 34 0) .lst, pI (.tmp 48 0) .lst, pI (.tmp 55 0) .lst, pI (.tmp 13 0) .box, pN (.tmp 85 0) (.tmp 137 0) .lst]) (ih _ _ _ _ _ h K hx0 hx1)
       ·rintro x138 rfl
        dsimp only at h
        refine B117r _ ?_
        refine B54r _ ?_
        obtain rfl := Option.some.inj h
        refine G0r _ ?_
        exact hx1 _ rfl
 ·replace c52 := of_decide_eq_false c52; rw [if_neg c52] at h
  obtain rfl := Option.some.inj h
  refine gh_k (wk [3, 4, 13, 15, 16, 17] [pI (.arg 0) .fz, pI (.tmp 13 0) .box, pI (.tmp 85 0) .lst]) ?_
  refine G0x _ _ ?_
  exact hx0 _ rfl
theorem laws_FnReorder.tri (cs0 : List Cell) (o0 : Nat) (l0 : List Int) (hv0 : Vw c_u8 1 cs0 o0 l0) (r : Bool) (h : laws_FnReorder.f l0 = some r) : Tri Try.prog 12 [.c (.ref (.arg 0) [] o0 l0.length)] [(.arg 0, ⟨.fz, 1, cs0⟩)] (fun o => o = ⟨.c (.sc (.bool r)), [(.arg 0, ⟨.fz, 1, cs0⟩)], [], []⟩) := by
 refine tri_of_body (ac := C12) (xs := r12) Try.func12 (show Try.f12.body = some (Try.f12.body.getD .skip) from rfl) k12 q12 (Nat.le_of_ble_eq_true rfl) ?_
 refine body_of fun K hKn hKr => ?_
 unfold laws_FnReorder.f at h
 unfold C12
 simp only [initT, Nat.reduceAdd]
 refine sr_k fun J1 hJ1 => ?_
 simp +decide only [Nat.reduceAdd, Nat.reduceMul, Int.reduceToNat, ak]
 refine hJ1 _ ?_
 refine seq_k fun J2 hJ2 => ?_
 refine sr_k fun J3 hJ3 => ?_
 simp +decide only [Nat.reduceAdd, Nat.reduceMul, Int.reduceToNat, ak]
 refine hJ3 _ ?_
 refine cond_k (b := decide ((l0.length : Int) > 1048576)) rfl (fun c4 => ?_) (fun c4 => ?_)
 ·replace c4 := of_decide_eq_true c4; rw [if_pos c4] at h
  refine sr_k fun J5 hJ5 => ?_
  simp +decide only [Nat.reduceAdd, Nat.reduceMul, Int.reduceToNat, ak]
  refine hJ5 _ ?_
  obtain rfl := Option.some.inj h
  refine hKr _ ⟨_, rfl, [], _, rfl, rfl, ?_⟩
  first | rfl | (simp only [reduceCtorEq, Nat.reduceEqDiff, ak, akF]; done) | (simp [reduceCtorEq, Nat.reduceEqDiff, ak, akF] <;> omega)
 ·replace c4 := of_decide_eq_false c4; rw [if_neg c4] at h
  refine hJ2 _ ?_
  refine sr_k fun J6 hJ6 => ?_
  simp +decide only [Nat.reduceAdd, Nat.reduceMul, Int.reduceToNat, ak]
  obtain ⟨t7, h8, h⟩ := of_bind h
  refine call_m [(.arg 0, ⟨(.arg 0), [], none, .fz⟩)] (s0 := [(.arg 0, ⟨.fz, 1, cs0⟩)]) (by intro t ht; cases ht; decide) rfl rfl (by first | rfl | simp only [reduceCtorEq, Nat.reduceEqDiff, ak, akF]) (spec_HonestPieces.tri (cs0) o0 l0 hv0 _ h8) (by first | rfl | simp only [reduceCtorEq, Nat.reduceEqDiff, ak, akF]) (by simp [bkOk2, memK]) (fun hl8 => ?_)
  refine call_st (s4 := [(.arg 0, ⟨.fz, 1, cs0⟩), (.tmp 34 0, ⟨.lst, 4, encL c116 t7.2.2⟩)]) (m1' := []) (m2' := []) (v' := .tup [(false, [.sc (.int .u64 t7.1)]), (false, [.sc (.int .i64 t7.2.1)]), (false, [.ref (.tmp 34 0) [] 0 t7.2.2.length])]) (Sto.mapN_killNil _ _) (mrgL_fz (mrgL_nil' _ _ _) rfl (by first | rfl | simp only [reduceCtorEq, Nat.reduceEqDiff, ak]) rfl (by intro R hR hh; cases hR; cases hh.2)) (by rfl) (mapT_killNil _ _) (by rfl) (by rfl) (by first | rfl | simp only [reduceCtorEq, Nat.reduceEqDiff, ak, akF, Nat.zero_add, List.append_nil]) ?_
  simp +decide only [Nat.reduceAdd, Nat.reduceMul, Int.reduceToNat, ak]
  refine hJ6 _ ?_
  refine sr_k fun J10 hJ10 => ?_
  simp +decide only [Nat.reduceAdd, Nat.reduceMul, Int.reduceToNat, ak]
  refine call_m [(.arg 0, ⟨(.arg 0), [], none, .fz⟩)] (s0 := [(.arg 0, ⟨.fz, 1, cs0⟩)]) (by intro t ht; cases ht; decide) rfl rfl (by first | rfl | simp only [reduceCtorEq, Nat.reduceEqDiff, ak, akF]) (spec_HonestPieces.tri (cs0) o0 l0 hv0 _ h8) (by first | rfl | simp only [reduceCtorEq, Nat.reduceEqDiff, ak, akF]) (by simp [bkOk2, memK]) (fun hl10 => ?_)
  refine call_st (s4 := [(.arg 0, ⟨.fz, 1, cs0⟩), (.tmp 34 0, ⟨.lst, 4, encL c116 t7.2.2⟩), (.tmp 40 0, ⟨.lst, 4, encL c116 t7.2.2⟩)]) (m1' := []) (m2' := []) (v' := .tup [(false, [.sc (.int .u64 t7.1)]), (false, [.sc (.int .i64 t7.2.1)]), (false, [.ref (.tmp 40 0) [] 0 t7.2.2.length])]) (Sto.mapN_killNil _ _) (mrgL_fz (mrgL_nil' _ _ _) rfl (by first | rfl | simp only [reduceCtorEq, Nat.reduceEqDiff, ak]) rfl (by intro R hR hh; cases hR; cases hh.2)) (by rfl) (mapT_killNil _ _) (by rfl) (by rfl) (by first | rfl | simp only [reduceCtorEq, Nat.reduceEqDiff, ak, akF, Nat.zero_add, List.append_nil]) ?_
  simp +decide only [Nat.reduceAdd, Nat.reduceMul, Int.reduceToNat, ak]
  refine hJ10 _ ?_
  refine sr_k fun J12 hJ12 => ?_
  simp +decide only [Nat.reduceAdd, Nat.reduceMul, Int.reduceToNat, ak]
  obtain ⟨t13, h14, h⟩ := of_bind h
  refine call_m [(.arg 0, ⟨(.tmp 34 0), [], none, .fz⟩)] (s0 := [(.arg 0, ⟨.fz, 4, encL c116 t7.2.2⟩)]) (by intro t ht; cases ht; decide) rfl rfl (by first | rfl | simp only [reduceCtorEq, Nat.reduceEqDiff, ak, akF]) (spec_ReorderRun.tri (encL c116 t7.2.2) 0 t7.2.2 (Vw.whole c116_w t7.2.2) t7.1 t7.2.1 _ h14) (by first | rfl | simp only [reduceCtorEq, Nat.reduceEqDiff, ak, akF]) (by simp [bkOk2, memK]) (fun hl14 => ?_)
  refine call_st (s4 := [(.arg 0, ⟨.fz, 1, cs0⟩), (.tmp 34 0, ⟨.lst, 4, encL c116 t7.2.2⟩), (.tmp 40 0, ⟨.lst, 4, encL c116 t7.2.2⟩), (.tmp 48 0, ⟨.lst, 3, encL c118 t13.1⟩)]) (m1' := []) (m2' := []) (v' := .tup [(false, [.ref (.tmp 48 0) [] 0 t13.1.length]), (false, [.sc (.int .i64 t13.2)])]) (Sto.mapN_killNil _ _) (mrgL_fz (mrgL_nil' _ _ _) rfl (by first | rfl | simp only [reduceCtorEq, Nat.reduceEqDiff, ak]) rfl (by intro R hR hh; cases hR; cases hh.2)) (by rfl) (mapT_killNil _ _) (by rfl) (by rfl) (by first | rfl | simp only [reduceCtorEq, Nat.reduceEqDiff, ak, akF, Nat.zero_add, List.append_nil]) ?_
  simp +decide only [Nat.reduceAdd, Nat.reduceMul, Int.reduceToNat, ak]
  refine hJ12 _ ?_
  refine sr_k fun J16 hJ16 => ?_
  simp +decide only [Nat.reduceAdd, Nat.reduceMul, Int.reduceToNat, ak]
  obtain ⟨t17, h18, h⟩ := of_bind h
  refine call_m [(.arg 0, ⟨(.tmp 40 0), [], none, .fz⟩)] (s0 := [(.arg 0, ⟨.fz, 4, encL c116 t7.2.2⟩)]) (by intro t ht; cases ht; decide) rfl rfl (by first | rfl | simp only [reduceCtorEq, Nat.reduceEqDiff, ak, akF]) (impl_ReorderRun.tri (encL c116 t7.2.2) 0 t7.2.2 (Vw.whole c116_w t7.2.2) t7.1 t7.2.1 _ h18) (by first | rfl | simp only [reduceCtorEq, Nat.reduceEqDiff, ak, akF]) (by simp [bkOk2, memK]) (fun hl18 => ?_)
  refine call_st (s4 := [(.arg 0, ⟨.fz, 1, cs0⟩), (.tmp 34 0, ⟨.lst, 4, encL c116 t7.2.2⟩), (.tmp 40 0, ⟨.lst, 4, encL c116 t7.2.2⟩), (.tmp 48 0, ⟨.lst, 3, encL c118 t13.1⟩), (.tmp 55 0, ⟨.lst, 3, encL c118 t17.1⟩)]) (m1' := []) (m2' := []) (v' := .tup [(false, [.ref (.tmp 55 0) [] 0 t17.1.length]), (false, [.sc (.int .i64 t17.2)])]) (Sto.mapN_killNil _ _) (mrgL_fz (mrgL_nil' _ _ _) rfl (by first | rfl | simp only [reduceCtorEq, Nat.reduceEqDiff, ak]) rfl (by intro R hR hh; cases hR; cases hh.2)) (by rfl) (mapT_killNil _ _) (by rfl) (by rfl) (by first | rfl | simp only [reduceCtorEq, Nat.reduceEqDiff, ak, akF, Nat.zero_add, List.append_nil]) ?_
  simp +decide only [Nat.reduceAdd, Nat.reduceMul, Int.reduceToNat, ak]
  refine hJ16 _ ?_
  refine sr_k fun J20 hJ20 => ?_
  simp +decide only [Nat.reduceAdd, Nat.reduceMul, Int.reduceToNat, ak]
  obtain ⟨t21, h22, h⟩ := of_bind h
  refine call_m [(.arg 0, ⟨(.tmp 40 0), [], none, .fz⟩)] (s0 := [(.arg 0, ⟨.fz, 4, encL c116 t7.2.2⟩)]) (by intro t ht; cases ht; decide) rfl rfl (by first | rfl | simp only [reduceCtorEq, Nat.reduceEqDiff, ak, akF]) (impl_ReorderState.tri (encL c116 t7.2.2) 0 t7.2.2 (Vw.whole c116_w t7.2.2) t7.1 t7.2.1 _ h22) (by first | rfl | simp only [reduceCtorEq, Nat.reduceEqDiff, ak, akF]) (by simp [bkOk2, memK]) (fun hl22 => ?_)
  refine call_st (s4 := [(.arg 0, ⟨.fz, 1, cs0⟩), (.tmp 34 0, ⟨.lst, 4, encL c116 t7.2.2⟩), (.tmp 40 0, ⟨.lst, 4, encL c116 t7.2.2⟩), (.tmp 48 0, ⟨.lst, 3, encL c118 t13.1⟩), (.tmp 55 0, ⟨.lst, 3, encL c118 t17.1⟩), (.tmp 62 0, ⟨.lst, 2, encL c122 t21.2.2.1⟩)]) (m1' := []) (m2' := []) (v' := .tup [(true, [.sc (.int .u64 t21.1), .sc (.int .u64 t21.2.1), .ref (.tmp 62 0) [] 0 t21.2.2.1.length, .sc (.int .i64 t21.2.2.2.1), .sc (.int .u64 t21.2.2.2.2.1)]), (false, [.sc (.int .i64 t21.2.2.2.2.2)])]) (Sto.mapN_killNil _ _) (mrgL_fz (mrgL_nil' _ _ _) rfl (by first | rfl | simp only [reduceCtorEq, Nat.reduceEqDiff, ak]) rfl (by intro R hR hh; cases hR; cases hh.2)) (by rfl) (mapT_killNil _ _) (by rfl) (by rfl) (by first | rfl | simp only [reduceCtorEq, Nat.reduceEqDiff, ak, akF, Nat.zero_add, List.append_nil]) ?_
  simp +decide only [Nat.reduceAdd, Nat.reduceMul, Int.reduceToNat, ak]
  refine gho_k (Weak.own (.tmp 13 0) (cs' := [.sc (.int .u64 0), .sc (.int .u64 0), .own 2 (([] : List S122).length) (encL c122 ([] : List S122)), .sc (.int .i64 0), .sc (.int .u64 0)]) rfl ⟨.inl rfl, .inl rfl, .inr ⟨rfl, _, rfl⟩, .inl rfl, .inl rfl, trivial⟩) ?_
  have g24 : (encL c122 t21.2.2.1).length = t21.2.2.1.length * 2 := by simp [encL_length c122_w]
  simp +decide only [Nat.reduceAdd, Nat.reduceMul, Int.reduceToNat, ak, g24]
  refine hJ20 _ ?_
  refine seq_k fun J25 hJ25 => ?_
  obtain ⟨j26, h27, hn⟩ := of_bind h
  refine seq_j (fun st => st = ⟨[(3, .c (.sc (.int .u64 t7.1))), (4, .c (.sc (.int .i64 t7.2.1))), (5, .c (.ref (.tmp 34 0) [] 0 t7.2.2.length)), (9, .c (.ref (.tmp 48 0) [] 0 t13.1.length)), (11, .c (.ref (.tmp 55 0) [] 0 t17.1.length)), (13, .c (.ptr (.tmp 13 0) [] 0)), (84, .c (.sc (.bool j26)))], [(.arg 0, ⟨.fz, 1, cs0⟩), (.tmp 34 0, ⟨.lst, 4, encL c116 t7.2.2⟩), (.tmp 48 0, ⟨.lst, 3, encL c118 t13.1⟩), (.tmp 55 0, ⟨.lst, 3, encL c118 t17.1⟩), (.tmp 13 0, ⟨.box, 0, [.sc (.int .u64 t21.1), .sc (.int .u64 t21.2.1), .own 2 t21.2.2.1.length (encL c122 t21.2.2.1), .sc (.int .i64 t21.2.2.2.1), .sc (.int .u64 t21.2.2.2.2.1)]⟩)], [], []⟩) (fun J28 hJ28 => ?_) ?_
  ·replace h := h27; clear hn
   refine ga_k fun G29 G29n G29r G29x => ?_
   refine reg_k ?_
   simp +decide only [Nat.reduceAdd, Nat.reduceMul, Int.reduceToNat, ak]
   by_cases c30 : t17.2 ≠ 0
   ·rw [if_pos c30] at h
    have e31 : decide (t17.2 ≠ 0) = true := decide_eq_true c30
    simp +decide only [Nat.reduceAdd, Nat.reduceMul, Int.reduceToNat, ak, e31]
    obtain rfl := Option.some.inj h
    refine G29n _ _ (wk [3, 4, 5, 9, 11, 13, 84] [pI (.arg 0) .fz, pI (.tmp 34 0) .lst, pI (.tmp 48 0) .lst, pI (.tmp 55 0) .lst, pI (.tmp 13 0) .box] (h0 := by first | rfl | simp +decide only [ak, akF, e31]) (h := by first | rfl | (simp +decide only [ak, akF, e31]; done) | (simp +decide [ak, akF, e31] <;> omega))) (hJ28 _ rfl)
   ·rw [if_neg c30] at h
    have e32 : decide (t17.2 ≠ 0) = false := decide_eq_false c30
    simp +decide only [Nat.reduceAdd, Nat.reduceMul, Int.reduceToNat, ak, e32]
    by_cases c33 : t21.2.2.2.2.2 ≠ 0
    ·rw [if_pos c33] at h
     have e34 : decide (t21.2.2.2.2.2 ≠ 0) = true := decide_eq_true c33
     simp +decide only [Nat.reduceAdd, Nat.reduceMul, Int.reduceToNat, ak, e34]
     obtain rfl := Option.some.inj h
     refine G29n _ _ (wk [3, 4, 5, 9, 11, 13, 84] [pI (.arg 0) .fz, pI (.tmp 34 0) .lst, pI (.tmp 48 0) .lst, pI (.tmp 55 0) .lst, pI (.tmp 13 0) .box] (h0 := by first | rfl | simp +decide only [ak, akF, e32, e34]) (h := by first | rfl | (simp +decide only [ak, akF, e32, e34]; done) | (simp +decide [ak, akF, e32, e34] <;> omega))) (hJ28 _ rfl)
    ·rw [if_neg c33] at h
     have e35 : decide (t21.2.2.2.2.2 ≠ 0) = false := decide_eq_false c33
     simp +decide only [Nat.reduceAdd, Nat.reduceMul, Int.reduceToNat, ak, e35]
     by_cases c36 : (t17.1.length : Int) ≠ (t7.2.2.length : Int)
     ·rw [if_pos c36] at h
      have e37 : decide ((t17.1.length : Int) ≠ (t7.2.2.length : Int)) = true := decide_eq_true c36
      simp +decide only [Nat.reduceAdd, Nat.reduceMul, Int.reduceToNat, ak, e37]
      obtain rfl := Option.some.inj h
      refine G29n _ _ (wk [3, 4, 5, 9, 11, 13, 84] [pI (.arg 0) .fz, pI (.tmp 34 0) .lst, pI (.tmp 48 0) .lst, pI (.tmp 55 0) .lst, pI (.tmp 13 0) .box] (h0 := by first | rfl | simp +decide only [ak, akF, e32, e35, e37]) (h := by first | rfl | (simp +decide only [ak, akF, e32, e35, e37]; done) | (simp +decide [ak, akF, e32, e35, e37] <;> omega))) (hJ28 _ rfl)
     ·rw [if_neg c36] at h
      have e38 : decide ((t17.1.length : Int) ≠ (t7.2.2.length : Int)) = false := decide_eq_false c36
      simp +decide only [Nat.reduceAdd, Nat.reduceMul, Int.reduceToNat, ak, e38]
      obtain rfl := Option.some.inj h
      refine G29n _ _ (wk [3, 4, 5, 9, 11, 13, 84] [pI (.arg 0) .fz, pI (.tmp 34 0) .lst, pI (.tmp 48 0) .lst, pI (.tmp 55 0) .lst, pI (.tmp 13 0) .box] (h0 := by first | rfl | simp +decide only [ak, akF, e32, e35, e38]) (h := by first | rfl | (simp +decide only [ak, akF, e32, e35, e38]; done) | (simp +decide [ak, akF, e32, e35, e38] <;> omega))) (hJ28 _ rfl)
  ·replace h := hn; clear hn h27
   rintro _ rfl
   refine cond_k (b := j26) rfl (fun c39 => ?_) (fun c39 => ?_)
   ·rw [if_pos c39] at h
    refine sr_k fun J40 hJ40 => ?_
    simp +decide only [Nat.reduceAdd, Nat.reduceMul, Int.reduceToNat, ak]
    refine hJ40 _ ?_
    obtain rfl := Option.some.inj h
    refine hKr _ ⟨_, rfl, [], _, rfl, rfl, ?_⟩
    first | rfl | (simp only [reduceCtorEq, Nat.reduceEqDiff, ak, akF]; done) | (simp [reduceCtorEq, Nat.reduceEqDiff, ak, akF] <;> omega)
   ·rw [if_neg (Bool.eq_false_iff.1 c39)] at h
    refine hJ25 _ ?_
    refine sr_k fun J41 hJ41 => ?_
    simp +decide only [Nat.reduceAdd, Nat.reduceMul, Int.reduceToNat, ak]
    refine hJ41 _ ?_
    refine sr_k fun J42 hJ42 => ?_
    simp +decide only [Nat.reduceAdd, Nat.reduceMul, Int.reduceToNat, ak]
    refine hJ42 _ ?_
    refine sr_k fun J43 hJ43 => ?_
    have g44 : (List.replicate 0 ([.int .u64 0, .int .u64 0] : List Value)).flatten = [] := rfl
    have g45 : (⟨.lst, 2, []⟩ : Root) = ⟨.lst, 2, encL c122 ([] : List S122)⟩ := rfl
    have g46 : ([] : List S122).length = 0 := rfl
    simp +decide only [Nat.reduceAdd, Nat.reduceMul, Int.reduceToNat, ak, g44, g45, g46]
    refine hJ43 _ ?_
    refine seq_k fun J47 hJ47 => ?_
    refine sr_k fun J48 hJ48 => ?_
    simp +decide only [Nat.reduceAdd, Nat.reduceMul, Int.reduceToNat, ak]
    refine hJ48 _ ?_
    refine block_k fun B49 B49n B49x B49r B49j => ?_
    obtain ⟨y151, h152, h⟩ := of_bind h
    refine gh_k (st' := ⟨[(3, .c (.sc (.int .u64 t7.1))), (4, .c (.sc (.int .i64 t7.2.1))), (5, .c (.ref (.tmp 34 0) [] 0 t7.2.2.length)), (9, .c (.ref (.tmp 48 0) [] 0 t13.1.length)), (11, .c (.ref (.tmp 55 0) [] 0 t17.1.length)), (13, .c (.ptr (.tmp 13 0) [] 0)), (15, .c (.sc (.int .i64 0))), (16, .c (.sc (.int .i64 0))), (17, .c (.ref (.tmp 85 0) [] 0 (([] : List S122).length))), (18, .c (.sc (.int .i64 0)))], [(.arg 0, ⟨.fz, 1, cs0⟩), (.tmp 34 0, ⟨.lst, 4, encL c116 t7.2.2⟩), (.tmp 48 0, ⟨.lst, 3, encL c118 t13.1⟩), (.tmp 55 0, ⟨.lst, 3, encL c118 t17.1⟩), (.tmp 13 0, ⟨.box, 0, [.sc (.int .u64 t21.1), .sc (.int .u64 t21.2.1), .own 2 t21.2.2.1.length (encL c122 t21.2.2.1), .sc (.int .i64 t21.2.2.2.1), .sc (.int .u64 t21.2.2.2.2.1)]⟩), (.tmp 85 0, ⟨.lst, 2, encL c122 ([] : List S122)⟩)], [], []⟩) (wk [3, 4, 5, 9, 11, 13, 15, 16, 17, 18] [pI (.arg 0) .fz, pI (.tmp 34 0) .lst, pI (.tmp 48 0) .lst, pI (.tmp 55 0) .lst, pI (.tmp 13 0) .box, pI (.tmp 85 0) .lst] (h := by first | rfl | (simp +decide only [ak, akF]; done) | (simp +decide [ak, akF] <;> omega))) ?_
    rw [e_loop]
    refine laws_FnReorder.l0_walk cs0 o0 l0 hv0 t7.1 t7.2.1 t7.2.2 t13.1 t17.1 t21.1 t21.2.1 t21.2.2.1 t21.2.2.2.1 t21.2.2.2.2.1 0 0 0 ([] : List S122) _ h152 _ ?_ ?_
    ·rintro x153 rfl
     dsimp only at h
     refine B49x _ ?_
     refine hJ47 _ ?_
     refine sr_k fun J154 hJ154 => ?_
     simp +decide only [Nat.reduceAdd, Nat.reduceMul, Int.reduceToNat, ak]
     refine hJ154 _ ?_
     refine sr_k fun J155 hJ155 => ?_
     simp +decide only [Nat.reduceAdd, Nat.reduceMul, Int.reduceToNat, ak]
     obtain ⟨t156, h157, h⟩ := of_bind h
     refine call_m [(.arg 0, ⟨(.tmp 85 0), [], none, .fz⟩)] (s0 := [(.arg 0, ⟨.fz, 2, encL c122 x153.2.2⟩)]) (by intro t ht; cases ht; decide) rfl rfl (by first | rfl | simp only [reduceCtorEq, Nat.reduceEqDiff, ak, akF, g24, g44, g45, g46]) (impl_SpanCut.tri (encL c122 x153.2.2) 0 x153.2.2 (Vw.whole c122_w x153.2.2) t7.1 t21.1 _ h157) (by first | rfl | simp only [reduceCtorEq, Nat.reduceEqDiff, ak, akF]) (by simp [bkOk2, memK]) (fun hl157 => ?_)
     refine call_st (s4 := [(.arg 0, ⟨.fz, 1, cs0⟩), (.tmp 13 0, ⟨.box, 0, [.sc (.int .u64 t21.1), .sc (.int .u64 t21.2.1), .own 2 t21.2.2.1.length (encL c122 t21.2.2.1), .sc (.int .i64 t21.2.2.2.1), .sc (.int .u64 t21.2.2.2.2.1)]⟩), (.tmp 85 0, ⟨.lst, 2, encL c122 x153.2.2⟩), (.tmp 224 0, ⟨.lst, 2, encL c122 t156.1⟩)]) (m1' := []) (m2' := []) (v' := .tup [(false, [.ref (.tmp 224 0) [] 0 t156.1.length]), (false, [.sc (.int .i64 t156.2)])]) (Sto.mapN_killNil _ _) (mrgL_fz (mrgL_nil' _ _ _) rfl (by first | rfl | simp only [reduceCtorEq, Nat.reduceEqDiff, ak, g24, g44, g45, g46]) rfl (by intro R hR hh; cases hR; cases hh.2)) (by rfl) (mapT_killNil _ _) (by rfl) (by rfl) (by first | rfl | simp only [reduceCtorEq, Nat.reduceEqDiff, ak, akF, Nat.zero_add, List.append_nil]) ?_
     simp +decide only [Nat.reduceAdd, Nat.reduceMul, Int.reduceToNat, ak]
     refine hJ155 _ ?_
     refine sr_k fun J159 hJ159 => ?_
     simp +decide only [Nat.reduceAdd, Nat.reduceMul, Int.reduceToNat, ak]
     obtain ⟨t160, h161, h⟩ := of_bind h
     refine call_m [(.arg 0, ⟨(.tmp 13 0), [2], none, .fz⟩)] (s0 := [(.arg 0, ⟨.fz, 2, encL c122 t21.2.2.1⟩)]) (by intro t ht; cases ht; decide) rfl rfl (by first | rfl | simp only [reduceCtorEq, Nat.reduceEqDiff, ak, akF, g24, g44, g45, g46]) (impl_SpanSize.tri (encL c122 t21.2.2.1) 0 t21.2.2.1 (Vw.whole c122_w t21.2.2.1) t21.1 (IntKind.u64.wrap (t21.1 + (IntKind.u64.wrap t7.2.1))) _ h161) (by first | rfl | simp only [reduceCtorEq, Nat.reduceEqDiff, ak, akF]) (by simp [bkOk2, memK]) (fun hl161 => ?_)
     refine call_st (s4 := [(.arg 0, ⟨.fz, 1, cs0⟩), (.tmp 13 0, ⟨.box, 0, [.sc (.int .u64 t21.1), .sc (.int .u64 t21.2.1), .own 2 t21.2.2.1.length (encL c122 t21.2.2.1), .sc (.int .i64 t21.2.2.2.1), .sc (.int .u64 t21.2.2.2.2.1)]⟩), (.tmp 85 0, ⟨.lst, 2, encL c122 x153.2.2⟩), (.tmp 224 0, ⟨.lst, 2, encL c122 t156.1⟩)]) (m1' := []) (m2' := []) (v' := .tup [(false, [.sc (.int .u64 t160.1)]), (false, [.sc (.int .i64 t160.2)])]) (Sto.mapN_killNil _ _) (mrgL_fz (mrgL_nil' _ _ _) rfl (by first | rfl | simp only [reduceCtorEq, Nat.reduceEqDiff, ak, g24, g44, g45, g46]) rfl (by intro R hR hh; cases hh.1)) (by rfl) (mapT_killNil _ _) (by rfl) (by rfl) (by first | rfl | simp only [reduceCtorEq, Nat.reduceEqDiff, ak, akF, Nat.zero_add, List.append_nil]) ?_
     simp +decide only [Nat.reduceAdd, Nat.reduceMul, Int.reduceToNat, ak]
     refine hJ159 _ ?_
     refine sr_k fun J163 hJ163 => ?_
     simp +decide only [Nat.reduceAdd, Nat.reduceMul, Int.reduceToNat, ak]
     obtain ⟨t164, h165, h⟩ := of_bind h
     refine call_m [(.arg 0, ⟨(.tmp 13 0), [2], none, .fz⟩)] (s0 := [(.arg 0, ⟨.fz, 2, encL c122 t21.2.2.1⟩)]) (by intro t ht; cases ht; decide) rfl rfl (by first | rfl | simp only [reduceCtorEq, Nat.reduceEqDiff, ak, akF, g24, g44, g45, g46]) (impl_SpanGaps.tri (encL c122 t21.2.2.1) 0 t21.2.2.1 (Vw.whole c122_w t21.2.2.1) t21.1 (IntKind.u64.wrap ((IntKind.u64.wrap (t21.1 + (IntKind.u64.wrap t7.2.1))) + 1)) _ h165) (by first | rfl | simp only [reduceCtorEq, Nat.reduceEqDiff, ak, akF]) (by simp [bkOk2, memK]) (fun hl165 => ?_)
     refine call_st (s4 := [(.arg 0, ⟨.fz, 1, cs0⟩), (.tmp 13 0, ⟨.box, 0, [.sc (.int .u64 t21.1), .sc (.int .u64 t21.2.1), .own 2 t21.2.2.1.length (encL c122 t21.2.2.1), .sc (.int .i64 t21.2.2.2.1), .sc (.int .u64 t21.2.2.2.2.1)]⟩), (.tmp 85 0, ⟨.lst, 2, encL c122 x153.2.2⟩), (.tmp 224 0, ⟨.lst, 2, encL c122 t156.1⟩), (.tmp 245 0, ⟨.lst, 2, encL c122 t164.1⟩)]) (m1' := []) (m2' := []) (v' := .tup [(false, [.ref (.tmp 245 0) [] 0 t164.1.length]), (false, [.sc (.int .i64 t164.2)])]) (Sto.mapN_killNil _ _) (mrgL_fz (mrgL_nil' _ _ _) rfl (by first | rfl | simp only [reduceCtorEq, Nat.reduceEqDiff, ak, g24, g44, g45, g46]) rfl (by intro R hR hh; cases hh.1)) (by rfl) (mapT_killNil _ _) (by rfl) (by rfl) (by first | rfl | simp only [reduceCtorEq, Nat.reduceEqDiff, ak, akF, Nat.zero_add, List.append_nil]) ?_
     simp +decide only [Nat.reduceAdd, Nat.reduceMul, Int.reduceToNat, ak]
     refine hJ163 _ ?_
     refine sd_k fun J167 hJ167 => ?_
     simp +decide only [Nat.reduceAdd, Nat.reduceMul, Int.reduceToNat, ak]
     by_cases c168 : t156.2 = 0
     ·rw [if_pos c168] at h
      have e169 : decide (t156.2 = 0) = true := decide_eq_true c168
      simp +decide only [Nat.reduceAdd, Nat.reduceMul, Int.reduceToNat, ak, e169]
      by_cases c170 : t164.2 = 0
      ·rw [if_pos c170] at h
       have e171 : decide (t164.2 = 0) = true := decide_eq_true c170
       simp +decide only [Nat.reduceAdd, Nat.reduceMul, Int.reduceToNat, ak, e171]
       by_cases c172 : t21.1 = IntKind.u64.wrap (t7.1 + (IntKind.u64.wrap x153.1))
       ·rw [if_pos c172] at h
        have e173 : decide (t21.1 = IntKind.u64.wrap (t7.1 + (IntKind.u64.wrap x153.1))) = true := decide_eq_true c172
        simp +decide only [Nat.reduceAdd, Nat.reduceMul, Int.reduceToNat, ak, e173]
        obtain ⟨t174, h175, h⟩ := of_bind h
        by_cases c177 : t174 = true
        ·rw [if_pos c177] at h
         have e178 : (t174) = true := c177
         by_cases c180 : IntKind.i64.wrap ((IntKind.i64.wrap t160.1) + x153.1) = x153.2.1
         ·rw [if_pos c180] at h
          have e181 : decide (IntKind.i64.wrap ((IntKind.i64.wrap t160.1) + x153.1) = x153.2.1) = true := decide_eq_true c180
          by_cases c183 : (t164.1.length : Int) > 0
          ·rw [if_pos c183] at h
           have e184 : decide ((t164.1.length : Int) > 0) = true := decide_eq_true c183
           obtain ⟨b186, h⟩ := of_guard h
           refine alt_e ?_
           ·simp +decide only [Nat.reduceAdd, Nat.reduceMul, Int.reduceToNat, ak]
            refine call_m [(.arg 0, ⟨(.tmp 224 0), [], none, .fz⟩), (.arg 1, ⟨(.tmp 13 0), [2], none, .fz⟩)] (s0 := [(.arg 0, ⟨.fz, 2, encL c122 t156.1⟩), (.arg 1, ⟨.fz, 2, encL c122 t21.2.2.1⟩)]) (by intro t ht; cases ht; decide) rfl rfl (by first | rfl | simp only [reduceCtorEq, Nat.reduceEqDiff, ak, akF, b186, e169, e171, e173, e178, e181, e184, g24, g44, g45, g46]) (laws_lSpans.tri (encL c122 t156.1) 0 t156.1 (Vw.whole c122_w t156.1) (encL c122 t21.2.2.1) 0 t21.2.2.1 (Vw.whole c122_w t21.2.2.1) _ h175) (by first | rfl | simp only [reduceCtorEq, Nat.reduceEqDiff, ak, akF]) (by simp [bkOk2, memK]) (fun hl188 => ?_)
            refine call_st (s4 := [(.arg 0, ⟨.fz, 1, cs0⟩), (.tmp 13 0, ⟨.box, 0, [.sc (.int .u64 t21.1), .sc (.int .u64 t21.2.1), .own 2 t21.2.2.1.length (encL c122 t21.2.2.1), .sc (.int .i64 t21.2.2.2.1), .sc (.int .u64 t21.2.2.2.2.1)]⟩), (.tmp 85 0, ⟨.lst, 2, encL c122 x153.2.2⟩), (.tmp 224 0, ⟨.lst, 2, encL c122 t156.1⟩), (.tmp 245 0, ⟨.lst, 2, encL c122 t164.1⟩)]) (m1' := []) (m2' := []) (v' := .c (.sc (.bool t174))) (Sto.mapN_killNil _ _) (mrgL_fz (mrgL_fz (mrgL_nil' _ _ _) rfl (by first | rfl | simp only [reduceCtorEq, Nat.reduceEqDiff, ak, b186, e169, e171, e173, e178, e181, e184, g24, g44, g45, g46]) rfl (by intro R hR hh; cases hh.1)) rfl (by first | rfl | simp only [reduceCtorEq, Nat.reduceEqDiff, ak, b186, e169, e171, e173, e178, e181, e184, g24, g44, g45, g46]) rfl (by intro R hR hh; cases hR; cases hh.2)) (by rfl) (mapT_killNil _ _) (by rfl) (by rfl) (by first | rfl | simp only [reduceCtorEq, Nat.reduceEqDiff, ak, akF, Nat.zero_add, List.append_nil, b186, e169, e171, e173, e178, e181, e184]) ?_
            have g190 : 0 ≤ (encL c122 t164.1).length := (by have := (Vw.whole c122_w t164.1).len_le b186.1 b186.2 (j := 0) (by decide); first | exact this | simpa using this)
            have g191 : (encL c122 t164.1)[0]? = some (.sc (.int .u64 ((rd z122 t164.1 0).f0))) := (by have := (Vw.whole c122_w t164.1).get z122 0 b186.1 b186.2 (by decide); first | exact this | simpa using this)
            simp +decide only [Nat.reduceAdd, Nat.reduceMul, Int.reduceToNat, ak, e178, e181, e184, b186, g190, g191]
            refine hJ167 _ ?_
            obtain rfl := Option.some.inj h
            refine hKr _ ⟨_, rfl, [], _, rfl, rfl, ?_⟩
            first | rfl | (simp only [reduceCtorEq, Nat.reduceEqDiff, ak, akF, b186, e169, e171, e173, e178, e181, e184]; done) | (simp [reduceCtorEq, Nat.reduceEqDiff, ak, akF, b186, e169, e171, e173, e178, e181, e184] <;> omega)
          ·rw [if_neg c183] at h
           have e192 : decide ((t164.1.length : Int) > 0) = false := decide_eq_false c183
           refine alt_e ?_
           ·simp +decide only [Nat.reduceAdd, Nat.reduceMul, Int.reduceToNat, ak]
            refine call_m [(.arg 0, ⟨(.tmp 224 0), [], none, .fz⟩), (.arg 1, ⟨(.tmp 13 0), [2], none, .fz⟩)] (s0 := [(.arg 0, ⟨.fz, 2, encL c122 t156.1⟩), (.arg 1, ⟨.fz, 2, encL c122 t21.2.2.1⟩)]) (by intro t ht; cases ht; decide) rfl rfl (by first | rfl | simp only [reduceCtorEq, Nat.reduceEqDiff, ak, akF, e169, e171, e173, e178, e181, e192, g24, g44, g45, g46]) (laws_lSpans.tri (encL c122 t156.1) 0 t156.1 (Vw.whole c122_w t156.1) (encL c122 t21.2.2.1) 0 t21.2.2.1 (Vw.whole c122_w t21.2.2.1) _ h175) (by first | rfl | simp only [reduceCtorEq, Nat.reduceEqDiff, ak, akF]) (by simp [bkOk2, memK]) (fun hl193 => ?_)
            refine call_st (s4 := [(.arg 0, ⟨.fz, 1, cs0⟩), (.tmp 13 0, ⟨.box, 0, [.sc (.int .u64 t21.1), .sc (.int .u64 t21.2.1), .own 2 t21.2.2.1.length (encL c122 t21.2.2.1), .sc (.int .i64 t21.2.2.2.1), .sc (.int .u64 t21.2.2.2.2.1)]⟩), (.tmp 85 0, ⟨.lst, 2, encL c122 x153.2.2⟩), (.tmp 224 0, ⟨.lst, 2, encL c122 t156.1⟩), (.tmp 245 0, ⟨.lst, 2, encL c122 t164.1⟩)]) (m1' := []) (m2' := []) (v' := .c (.sc (.bool t174))) (Sto.mapN_killNil _ _) (mrgL_fz (mrgL_fz (mrgL_nil' _ _ _) rfl (by first | rfl | simp only [reduceCtorEq, Nat.reduceEqDiff, ak, e169, e171, e173, e178, e181, e192, g24, g44, g45, g46]) rfl (by intro R hR hh; cases hh.1)) rfl (by first | rfl | simp only [reduceCtorEq, Nat.reduceEqDiff, ak, e169, e171, e173, e178, e181, e192, g24, g44, g45, g46]) rfl (by intro R hR hh; cases hR; cases hh.2)) (by rfl) (mapT_killNil _ _) (by rfl) (by rfl) (by first | rfl | simp only [reduceCtorEq, Nat.reduceEqDiff, ak, akF, Nat.zero_add, List.append_nil, e169, e171, e173, e178, e181, e192]) ?_
            simp +decide only [Nat.reduceAdd, Nat.reduceMul, Int.reduceToNat, ak, e178, e181, e192]
            refine hJ167 _ ?_
            obtain rfl := Option.some.inj h
            refine hKr _ ⟨_, rfl, [], _, rfl, rfl, ?_⟩
            first | rfl | (simp only [reduceCtorEq, Nat.reduceEqDiff, ak, akF, e169, e171, e173, e178, e181, e192]; done) | (simp [reduceCtorEq, Nat.reduceEqDiff, ak, akF, e169, e171, e173, e178, e181, e192] <;> omega)
         ·rw [if_neg c180] at h
          have e195 : decide (IntKind.i64.wrap ((IntKind.i64.wrap t160.1) + x153.1) = x153.2.1) = false := decide_eq_false c180
          refine alt_e ?_
          ·simp +decide only [Nat.reduceAdd, Nat.reduceMul, Int.reduceToNat, ak]
           refine call_m [(.arg 0, ⟨(.tmp 224 0), [], none, .fz⟩), (.arg 1, ⟨(.tmp 13 0), [2], none, .fz⟩)] (s0 := [(.arg 0, ⟨.fz, 2, encL c122 t156.1⟩), (.arg 1, ⟨.fz, 2, encL c122 t21.2.2.1⟩)]) (by intro t ht; cases ht; decide) rfl rfl (by first | rfl | simp only [reduceCtorEq, Nat.reduceEqDiff, ak, akF, e169, e171, e173, e178, e195, g24, g44, g45, g46]) (laws_lSpans.tri (encL c122 t156.1) 0 t156.1 (Vw.whole c122_w t156.1) (encL c122 t21.2.2.1) 0 t21.2.2.1 (Vw.whole c122_w t21.2.2.1) _ h175) (by first | rfl | simp only [reduceCtorEq, Nat.reduceEqDiff, ak, akF]) (by simp [bkOk2, memK]) (fun hl196 => ?_)
           refine call_st (s4 := [(.arg 0, ⟨.fz, 1, cs0⟩), (.tmp 13 0, ⟨.box, 0, [.sc (.int .u64 t21.1), .sc (.int .u64 t21.2.1), .own 2 t21.2.2.1.length (encL c122 t21.2.2.1), .sc (.int .i64 t21.2.2.2.1), .sc (.int .u64 t21.2.2.2.2.1)]⟩), (.tmp 85 0, ⟨.lst, 2, encL c122 x153.2.2⟩), (.tmp 224 0, ⟨.lst, 2, encL c122 t156.1⟩), (.tmp 245 0, ⟨.lst, 2, encL c122 t164.1⟩)]) (m1' := []) (m2' := []) (v' := .c (.sc (.bool t174))) (Sto.mapN_killNil _ _) (mrgL_fz (mrgL_fz (mrgL_nil' _ _ _) rfl (by first | rfl | simp only [reduceCtorEq, Nat.reduceEqDiff, ak, e169, e171, e173, e178, e195, g24, g44, g45, g46]) rfl (by intro R hR hh; cases hh.1)) rfl (by first | rfl | simp only [reduceCtorEq, Nat.reduceEqDiff, ak, e169, e171, e173, e178, e195, g24, g44, g45, g46]) rfl (by intro R hR hh; cases hR; cases hh.2)) (by rfl) (mapT_killNil _ _) (by rfl) (by rfl) (by first | rfl | simp only [reduceCtorEq, Nat.reduceEqDiff, ak, akF, Nat.zero_add, List.append_nil, e169, e171, e173, e178, e195]) ?_
           simp +decide only [Nat.reduceAdd, Nat.reduceMul, Int.reduceToNat, ak, e178, e195]
           refine hJ167 _ ?_
           obtain rfl := Option.some.inj h
           refine hKr _ ⟨_, rfl, [], _, rfl, rfl, ?_⟩
           first | rfl | (simp only [reduceCtorEq, Nat.reduceEqDiff, ak, akF, e169, e171, e173, e178, e195]; done) | (simp [reduceCtorEq, Nat.reduceEqDiff, ak, akF, e169, e171, e173, e178, e195] <;> omega)
        ·rw [if_neg c177] at h
         have e198 : (t174) = false := Bool.eq_false_iff.2 c177
         refine alt_e ?_
         ·simp +decide only [Nat.reduceAdd, Nat.reduceMul, Int.reduceToNat, ak]
          refine call_m [(.arg 0, ⟨(.tmp 224 0), [], none, .fz⟩), (.arg 1, ⟨(.tmp 13 0), [2], none, .fz⟩)] (s0 := [(.arg 0, ⟨.fz, 2, encL c122 t156.1⟩), (.arg 1, ⟨.fz, 2, encL c122 t21.2.2.1⟩)]) (by intro t ht; cases ht; decide) rfl rfl (by first | rfl | simp only [reduceCtorEq, Nat.reduceEqDiff, ak, akF, e169, e171, e173, e198, g24, g44, g45, g46]) (laws_lSpans.tri (encL c122 t156.1) 0 t156.1 (Vw.whole c122_w t156.1) (encL c122 t21.2.2.1) 0 t21.2.2.1 (Vw.whole c122_w t21.2.2.1) _ h175) (by first | rfl | simp only [reduceCtorEq, Nat.reduceEqDiff, ak, akF]) (by simp [bkOk2, memK]) (fun hl199 => ?_)
          refine call_st (s4 := [(.arg 0, ⟨.fz, 1, cs0⟩), (.tmp 13 0, ⟨.box, 0, [.sc (.int .u64 t21.1), .sc (.int .u64 t21.2.1), .own 2 t21.2.2.1.length (encL c122 t21.2.2.1), .sc (.int .i64 t21.2.2.2.1), .sc (.int .u64 t21.2.2.2.2.1)]⟩), (.tmp 85 0, ⟨.lst, 2, encL c122 x153.2.2⟩), (.tmp 224 0, ⟨.lst, 2, encL c122 t156.1⟩), (.tmp 245 0, ⟨.lst, 2, encL c122 t164.1⟩)]) (m1' := []) (m2' := []) (v' := .c (.sc (.bool t174))) (Sto.mapN_killNil _ _) (mrgL_fz (mrgL_fz (mrgL_nil' _ _ _) rfl (by first | rfl | simp only [reduceCtorEq, Nat.reduceEqDiff, ak, e169, e171, e173, e198, g24, g44, g45, g46]) rfl (by intro R hR hh; cases hh.1)) rfl (by first | rfl | simp only [reduceCtorEq, Nat.reduceEqDiff, ak, e169, e171, e173, e198, g24, g44, g45, g46]) rfl (by intro R hR hh; cases hR; cases hh.2)) (by rfl) (mapT_killNil _ _) (by rfl) (by rfl) (by first | rfl | simp only [reduceCtorEq, Nat.reduceEqDiff, ak, akF, Nat.zero_add, List.append_nil, e169, e171, e173, e198]) ?_
          simp +decide only [Nat.reduceAdd, Nat.reduceMul, Int.reduceToNat, ak, e198]
          refine hJ167 _ ?_
          obtain rfl := Option.some.inj h
          refine hKr _ ⟨_, rfl, [], _, rfl, rfl, ?_⟩
          first | rfl | (simp only [reduceCtorEq, Nat.reduceEqDiff, ak, akF, e169, e171, e173, e198]; done) | (simp [reduceCtorEq, Nat.reduceEqDiff, ak, akF, e169, e171, e173, e198] <;> omega)
       ·rw [if_neg c172] at h
        have e201 : decide (t21.1 = IntKind.u64.wrap (t7.1 + (IntKind.u64.wrap x153.1))) = false := decide_eq_false c172
        simp +decide only [Nat.reduceAdd, Nat.reduceMul, Int.reduceToNat, ak, e201]
        refine alt_e ?_
        ·simp +decide only [Nat.reduceAdd, Nat.reduceMul, Int.reduceToNat, ak]
         refine hJ167 _ ?_
         obtain rfl := Option.some.inj h
         refine hKr _ ⟨_, rfl, [], _, rfl, rfl, ?_⟩
         first | rfl | (simp only [reduceCtorEq, Nat.reduceEqDiff, ak, akF, e169, e171, e201]; done) | (simp [reduceCtorEq, Nat.reduceEqDiff, ak, akF, e169, e171, e201] <;> omega)
      ·rw [if_neg c170] at h
       have e202 : decide (t164.2 = 0) = false := decide_eq_false c170
       simp +decide only [Nat.reduceAdd, Nat.reduceMul, Int.reduceToNat, ak, e202]
       refine alt_e ?_
       ·simp +decide only [Nat.reduceAdd, Nat.reduceMul, Int.reduceToNat, ak]
        refine hJ167 _ ?_
        obtain rfl := Option.some.inj h
        refine hKr _ ⟨_, rfl, [], _, rfl, rfl, ?_⟩
        first | rfl | (simp only [reduceCtorEq, Nat.reduceEqDiff, ak, akF, e169, e202]; done) | (simp [reduceCtorEq, Nat.reduceEqDiff, ak, akF, e169, e202] <;> omega)
     ·rw [if_neg c168] at h
      have e203 : decide (t156.2 = 0) = false := decide_eq_false c168
      simp +decide only [Nat.reduceAdd, Nat.reduceMul, Int.reduceToNat, ak, e203]
      refine alt_e ?_
      ·simp +decide only [Nat.reduceAdd, Nat.reduceMul, Int.reduceToNat, ak]
       refine hJ167 _ ?_
       obtain rfl := Option.some.inj h
       refine hKr _ ⟨_, rfl, [], _, rfl, rfl, ?_⟩
       first | rfl | (simp only [reduceCtorEq, Nat.reduceEqDiff, ak, akF, e203]; done) | (simp [reduceCtorEq, Nat.reduceEqDiff, ak, akF, e203] <;> omega)
    ·rintro x153 rfl
     dsimp only at h
     refine B49r _ ?_
     obtain rfl := Option.some.inj h
     refine hKr _ ⟨_, rfl, [], _, rfl, rfl, ?_⟩
     first | rfl | (simp only [reduceCtorEq, Nat.reduceEqDiff, ak, akF, e203]; done) | (simp [reduceCtorEq, Nat.reduceEqDiff, ak, akF, e203] <;> omega)
end Go.AK
