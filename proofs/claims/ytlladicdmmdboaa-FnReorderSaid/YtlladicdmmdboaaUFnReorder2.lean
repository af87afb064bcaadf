-- by a program of this session (wip/ak/pw.py)
import Derived.Test.YtlladicdmmdboaaUFnReorder1
set_option synthInstance.maxSize 20000
set_option synthInstance.maxHeartbeats 400000
set_option maxRecDepth 100000
set_option maxHeartbeats 4000000
set_option linter.unusedVariables false
set_option linter.unusedSimpArgs false
namespace Go.AK
open Go Go.Proofs
/-! ### (*impl.buffer).get: function 160 -/
def C160_l0 : AC := .seq (.reg [.op none (.bin 21 .lss (.tmp 20) (.tmp 19)), .keep [0, 4, 5, 6, 19, 20, 21]]) (.seq (.cond (.tmp 21) (.skip) (.gh (.exit 0))) (.seq (.block 1 (.seq (.regD (.first (.op none (.mv 22 (.tmp 6))) (.first (.op none (.mv 23 (.tmp 0))) (.first (.op none (.nilc 24 (.tmp 23))) (.first (.op none (.faddr 25 1 (.tmp 24))) (.first (.op none (.load 26 false 1 (.tmp 25))) (.first (.op none (.mv 27 (.tmp 0))) (.first (.op none (.nilc 28 (.tmp 27))) (.first (.op none (.faddr 29 3 (.tmp 28))) (.first (.op none (.load 30 false 1 (.tmp 29))) (.first (.op none (.mv 31 (.tmp 0))) (.first (.op none (.nilc 32 (.tmp 31))) (.first (.op none (.faddr 33 0 (.tmp 32))) (.first (.op none (.load 34 false 1 (.tmp 33))) (.first (.op none (.bin 35 .rem (.tmp 30) (.tmp 34))) (.first (.op none (.iaddr 36 1 (.tmp 26) (.tmp 35))) (.first (.op none (.load 37 false 1 (.tmp 36))) (.alt (.op none (.bslice 38 1 [.int .u8 0] 1 [(0, .tmp 37)])) none (.alt (.op none (.app 39 1 1 false (.tmp 22) (.tmp 38))) none (.first (.op none (.mv 6 (.tmp 39))) (.done)) (.stop)) (.stop)))))))))))))))))) [0, 4, 5, 6, 19, 20]) (.seq (.regD (.first (.op none (.mv 40 (.tmp 0))) (.first (.op none (.nilc 41 (.tmp 40))) (.first (.op none (.faddr 42 2 (.tmp 41))) (.first (.op none (.load 43 false 1 (.tmp 42))) (.first (.op none (.mv 44 (.tmp 0))) (.first (.op none (.nilc 45 (.tmp 44))) (.first (.op none (.faddr 46 3 (.tmp 45))) (.first (.op none (.load 47 false 1 (.tmp 46))) (.first (.op none (.mv 48 (.tmp 0))) (.first (.op none (.nilc 49 (.tmp 48))) (.first (.op none (.faddr 50 0 (.tmp 49))) (.first (.op none (.load 51 false 1 (.tmp 50))) (.first (.op none (.bin 52 .rem (.tmp 47) (.tmp 51))) (.first (.op none (.iaddr 53 1 (.tmp 43) (.tmp 52))) (.alt (.op none (.store 1 (.tmp 53) (.const (.bool false)))) none (.done) (.stop)))))))))))))))) [0, 4, 5, 6, 19, 20]) (.reg [.op none (.mv 54 (.tmp 0)), .op none (.nilc 55 (.tmp 54)), .op none (.faddr 56 3 (.tmp 55)), .op none (.load 57 false 1 (.tmp 56)), .op none (.bin 58 .add (.tmp 57) (.const (.int .u64 1))), .op none (.nilc 59 (.tmp 54)), .op none (.faddr 60 3 (.tmp 59)), .op none (.store 1 (.tmp 60) (.tmp 58)), .keep [0, 4, 5, 6, 19, 20]])))) (.reg [.op none (.bin 61 .add (.tmp 20) (.const (.int .u64 1))), .op none (.mv 20 (.tmp 61)), .keep [0, 4, 5, 6, 19, 20]])))
def C160 : AC := .seq (.reg [.op none (.alloc 4 [.int .i64 0, .int .i64 0, .slice none 0 0]), .gh, .keep [0, 1, 4]]) (.seq (.regD (.first (.op none (.mv 8 (.tmp 1))) (.first (.op none (.mm 9 true [.tmp 8, .const (.int .i64 0)])) (.first (.op none (.conv 10 .u64 (.tmp 9))) (.first (.op none (.mv 11 (.tmp 0))) (.first (.op none (.mv 13 (.tmp 0))) (.first (.op none (.nilc 14 (.tmp 13))) (.first (.op none (.faddr 15 3 (.tmp 14))) (.pin [11, 10, 9] (.op none (.load 16 false 1 (.tmp 15))) (.alt (.call none (some 12) 142 [.tmp 11]) none (.pin [11, 10] (.op none (.bin 17 .sub (.tmp 12) (.tmp 16))) (.pin [11] (.op none (.mm 18 false [.tmp 10, .tmp 17])) (.pin [] (.op none (.mv 5 (.tmp 18))) (.done)))) (.stop)))))))))) [0, 4, 5]) (.seq (.reg [.op none (.mv 6 (.const (.slice none 0 0))), .gh, .keep [0, 4, 5, 6]]) (.seq (.seq (.reg [.op none (.mv 19 (.tmp 5)), .op none (.mv 20 (.const (.int .u64 0))), .keep [0, 4, 5, 6, 19, 20]]) (.block 0 (.gh (.loop (.ga C160_l0))))) (.seq (.reg [.op none (.mv 7 (.const (.int .i64 0))), .keep [0, 4, 5, 6, 7]]) (.seq (.ga (.seq (.ga (.regD (.first (.op none (.mv 62 (.tmp 5))) (.first (.op none (.bin 63 .eql (.tmp 62) (.const (.int .u64 0)))) (.first (.op none (.mv 64 (.tmp 63))) (.first (.op (some (64, true)) (.mv 65 (.tmp 0))) (.first (.op (some (64, true)) (.nilc 66 (.tmp 65))) (.first (.op (some (64, true)) (.faddr 67 4 (.tmp 66))) (.first (.op (some (64, true)) (.load 68 false 1 (.tmp 67))) (.first (.op none (.pick 69 (.tmp 64) (.tmp 68) (.const (.bool false)))) (.first (.op none (.mv 70 (.tmp 69))) (.first (.op (some (70, true)) (.mv 71 (.tmp 0))) (.first (.op (some (70, true)) (.nilc 72 (.tmp 71))) (.first (.op (some (70, true)) (.faddr 73 3 (.tmp 72))) (.first (.op (some (70, true)) (.load 74 false 1 (.tmp 73))) (.first (.op (some (70, true)) (.mv 75 (.tmp 0))) (.first (.op (some (70, true)) (.nilc 76 (.tmp 75))) (.first (.op (some (70, true)) (.faddr 77 5 (.tmp 76))) (.first (.op (some (70, true)) (.load 78 false 1 (.tmp 77))) (.first (.op (some (70, true)) (.bin 79 .eql (.tmp 74) (.tmp 78))) (.first (.op none (.pick 80 (.tmp 70) (.tmp 79) (.const (.bool false)))) (.done)))))))))))))))))))) [4, 5, 6, 7, 80])) (.cond (.tmp 80) (.reg [.op none (.mv 7 (.const (.int .i64 15))), .keep [4, 5, 6, 7]]) (.skip)))) (.seq (.reg [.op none (.mv 81 (.tmp 7)), .op none (.mv 82 (.tmp 5)), .op none (.conv 83 .i64 (.tmp 82)), .op none (.mv 84 (.tmp 6)), .op none (.build 85 [.int .i64 0, .int .i64 0, .slice none 0 0] [(0, 1, .tmp 81), (1, 1, .tmp 83), (2, 1, .tmp 84)]), .gh, .op none (.store 3 (.tmp 4) (.tmp 85)), .keep [4]]) (.ret)))))))
def r160 : List RV := [.cell 4 true 3]
theorem k160 : compC Try.prog 86 C160 (Try.f160.body.getD .skip) = some C160.erase := by kernel_rfl
theorem q160 : rvsOf Try.prog Try.f160.results.toList = some r160 := by kernel_rfl
def impl_buffer_get.l0 (x0_0 : Int) (x0_1 : Int) (x0_3 : Int) (x0_4 : (List Int)) (x0_7 : Bool) (x0_8 : Int) (x0_9 : Int) (x0_10 : Int) (x0_11 : (List Int)) (x0_2 : Int) (x0_5 : (List Bool)) (x0_6 : Int) (x0_12 : (List Int)) : Option ((List Bool) × Int × (List Int)) := (if x0_2 < x0_1 then (if ¬ x0_3 = 0 then (if 0 ≤ x0_6.tmod x0_3 ∧ x0_6.tmod x0_3 < (x0_4.length : Int) then (if (x0_12.length + 1) * 1 ≤ 140737488355328 then (if 0 ≤ x0_6.tmod x0_3 ∧ x0_6.tmod x0_3 < (x0_5.length : Int) then (impl_buffer_get.l0 x0_0 x0_1 x0_3 x0_4 x0_7 x0_8 x0_9 x0_10 x0_11 (IntKind.u64.wrap (x0_2 + 1)) (x0_5.set (x0_6.tmod x0_3).toNat false) (IntKind.u64.wrap (x0_6 + 1)) (x0_12 ++ ([(rd 0 x0_4 (x0_6.tmod x0_3))] : List Int))) else none) else none) else none) else none) else (some (x0_5, x0_6, x0_12)))
 partial_fixpoint
def impl_buffer_get.f (a0_0 : Int) (l0_1 : List Int) (l0_2 : List Bool) (a0_3 : Int) (a0_4 : Bool) (a0_5 : Int) (a1 : Int) : Option (Int × Int × (List Int) × (List Bool) × Int) := (impl_buffer_next.f a0_0 l0_1 l0_2 a0_3 a0_4 a0_5 >>= fun t3 => (impl_buffer_get.l0 (if (IntKind.u64.wrap (t3 - a0_3)) < (IntKind.u64.wrap (if 0 > a1 then 0 else a1)) then IntKind.u64.wrap (t3 - a0_3) else IntKind.u64.wrap (if 0 > a1 then 0 else a1)) (if (IntKind.u64.wrap (t3 - a0_3)) < (IntKind.u64.wrap (if 0 > a1 then 0 else a1)) then IntKind.u64.wrap (t3 - a0_3) else IntKind.u64.wrap (if 0 > a1 then 0 else a1)) a0_0 l0_1 a0_4 a0_5 0 0 ([] : List Int) 0 l0_2 a0_3 ([] : List Int) >>= fun (y57 : ((List Bool) × Int × (List Int))) => (((if (if (IntKind.u64.wrap (t3 - a0_3)) < (IntKind.u64.wrap (if 0 > a1 then 0 else a1)) then IntKind.u64.wrap (t3 - a0_3) else IntKind.u64.wrap (if 0 > a1 then 0 else a1)) = 0 then (if a0_4 = true then (some (decide (y57.2.1 = a0_5))) else (some false)) else (some false)) >>= fun (j64 : Bool) => (if j64 = true then (some 15) else (some 0))) >>= fun (j60 : Int) => (some (j60, IntKind.i64.wrap (if (IntKind.u64.wrap (t3 - a0_3)) < (IntKind.u64.wrap (if 0 > a1 then 0 else a1)) then IntKind.u64.wrap (t3 - a0_3) else IntKind.u64.wrap (if 0 > a1 then 0 else a1)), y57.2.2, y57.1, y57.2.1)))))
def impl_buffer_get.l0_M (x0_0 : Int) (x0_1 : Int) (x0_3 : Int) (x0_4 : (List Int)) (x0_7 : Bool) (x0_8 : Int) (x0_9 : Int) (x0_10 : Int) (x0_11 : (List Int)) (x0_2 : Int) (x0_5 : (List Bool)) (x0_6 : Int) (x0_12 : (List Int)) (y : ((List Bool) × Int × (List Int))) : Prop := ∀ (K : AE → St → Prop), (K (.exit 0) ⟨[(0, .c (.ptr (.arg 0) [] 0)), (4, .c (.ptr (.tmp 4 0) [] 0)), (5, .c (.sc (.int .u64 x0_0))), (6, .c (.ref (.tmp 6 20) [] 0 y.2.2.length))], [(.arg 0, ⟨.box, 0, [.sc (.int .u64 x0_3), .own 1 x0_4.length (encL c_u8 x0_4), .own 1 y.1.length (encL c_bool y.1), .sc (.int .u64 y.2.1), .sc (.bool x0_7), .sc (.int .u64 x0_8)]⟩), (.tmp 4 0, ⟨.box, 0, [.sc (.int .i64 x0_9), .sc (.int .i64 x0_10), .own 1 x0_11.length (encL c_u8 x0_11)]⟩), (.tmp 6 20, ⟨.lst, 1, encL c_u8 y.2.2⟩)], [], []⟩) → loopS Try.prog 86 (.ga C160_l0) K ⟨[(0, .c (.ptr (.arg 0) [] 0)), (4, .c (.ptr (.tmp 4 0) [] 0)), (5, .c (.sc (.int .u64 x0_0))), (6, .c (.ref (.tmp 6 20) [] 0 x0_12.length)), (19, .c (.sc (.int .u64 x0_1))), (20, .c (.sc (.int .u64 x0_2)))], [(.arg 0, ⟨.box, 0, [.sc (.int .u64 x0_3), .own 1 x0_4.length (encL c_u8 x0_4), .own 1 x0_5.length (encL c_bool x0_5), .sc (.int .u64 x0_6), .sc (.bool x0_7), .sc (.int .u64 x0_8)]⟩), (.tmp 4 0, ⟨.box, 0, [.sc (.int .i64 x0_9), .sc (.int .i64 x0_10), .own 1 x0_11.length (encL c_u8 x0_11)]⟩), (.tmp 6 20, ⟨.lst, 1, encL c_u8 x0_12⟩)], [], []⟩
theorem impl_buffer_get.l0_walk (x0_0 : Int) (x0_1 : Int) (x0_3 : Int) (x0_4 : (List Int)) (x0_7 : Bool) (x0_8 : Int) (x0_9 : Int) (x0_10 : Int) (x0_11 : (List Int)) (x0_2 : Int) (x0_5 : (List Bool)) (x0_6 : Int) (x0_12 : (List Int)) (y : ((List Bool) × Int × (List Int))) (h : impl_buffer_get.l0 x0_0 x0_1 x0_3 x0_4 x0_7 x0_8 x0_9 x0_10 x0_11 x0_2 x0_5 x0_6 x0_12 = some y) : impl_buffer_get.l0_M x0_0 x0_1 x0_3 x0_4 x0_7 x0_8 x0_9 x0_10 x0_11 x0_2 x0_5 x0_6 x0_12 y := by
 refine impl_buffer_get.l0.partial_correctness x0_0 x0_1 x0_3 x0_4 x0_7 x0_8 x0_9 x0_10 x0_11 (motive := fun x0_2 x0_5 x0_6 x0_12 y => impl_buffer_get.l0_M x0_0 x0_1 x0_3 x0_4 x0_7 x0_8 x0_9 x0_10 x0_11 x0_2 x0_5 x0_6 x0_12 y) ?_ x0_2 x0_5 x0_6 x0_12 y h
 clear h
 unfold impl_buffer_get.l0_M
 intro rec ih x0_2 x0_5 x0_6 x0_12 y h K hx0
 refine loop_unroll (ga_k fun G0 G0n G0r G0x => ?_)
 unfold C160_l0
 refine sr_k fun J11 hJ11 => ?_
 simp +decide only [Nat.reduceAdd, Nat.reduceMul, Int.reduceToNat, ak]
 refine hJ11 _ ?_
 refine seq_k fun J12 hJ12 => ?_
 refine cond_k (b := decide (x0_2 < x0_1)) rfl (fun c13 => ?_) (fun c13 => ?_)
 ·replace c13 := of_decide_eq_true c13; rw [if_pos c13] at h
  refine hJ12 _ ?_
  refine seq_k fun J14 hJ14 => ?_
  refine block_k fun B15 B15n B15x B15r B15j => ?_
  refine sd_k fun J16 hJ16 => ?_
  obtain ⟨b17, h⟩ := of_guard h
  obtain ⟨b18, h⟩ := of_guard h
  have g19 : (encL c_u8 x0_4)[0 + (x0_6.tmod x0_3).toNat * 1]? = some (.sc (.int .u8 (rd 0 x0_4 (x0_6.tmod x0_3)))) := (Vw.whole c_u8_w x0_4).get 0 0 b18.1 b18.2 (by decide)
  simp +decide only [Nat.reduceAdd, Nat.reduceMul, Int.reduceToNat, ak, b17, b18, g19]
  obtain ⟨b25, h⟩ := of_guard h
  refine alt_e ?_
  ·have g34 : (List.replicate 1 ([.int .u8 0] : List Value)).flatten = [.int .u8 0] := rfl
   have g35 : (⟨.lst, 1, [.sc (.int .u8 (rd 0 x0_4 (x0_6.tmod x0_3)))]⟩ : Root) = ⟨.lst, 1, encL c_u8 ([(rd 0 x0_4 (x0_6.tmod x0_3))] : List Int)⟩ := rfl
   have g36 : ([(rd 0 x0_4 (x0_6.tmod x0_3))] : List Int).length = 1 := rfl
   simp +decide only [Nat.reduceAdd, Nat.reduceMul, Int.reduceToNat, ak, g34, g35, g36]
   refine alt_e ?_
   ·have g42 : (encL c_u8 ([(rd 0 x0_4 (x0_6.tmod x0_3))] : List Int)).take 1 = encL c_u8 ([(rd 0 x0_4 (x0_6.tmod x0_3))] : List Int) := by simpa using (Vw.whole c_u8_w ([(rd 0 x0_4 (x0_6.tmod x0_3))] : List Int)).all
    have g43 : (encL c_u8 ([(rd 0 x0_4 (x0_6.tmod x0_3))] : List Int)).all isSc = true := encL_all (fun _ => rfl) _
    have g44 : appLim x0_12.length 1 1 := ⟨b25, by have := b25; omega⟩
    have g45 : (encL c_u8 x0_12).length = x0_12.length * 1 := by simp [encL_length c_u8_w]
    have g46 : encL c_u8 x0_12 ++ encL c_u8 ([(rd 0 x0_4 (x0_6.tmod x0_3))] : List Int) = encL c_u8 (x0_12 ++ ([(rd 0 x0_4 (x0_6.tmod x0_3))] : List Int)) := (encL_append _ _).symm
    simp +decide only [Nat.reduceAdd, Nat.reduceMul, Int.reduceToNat, ak, g42, g43, g44, g45, g46]
    refine hJ16 _ ?_
    refine sd_k fun J47 hJ47 => ?_
    obtain ⟨b48, h⟩ := of_guard h
    simp +decide only [Nat.reduceAdd, Nat.reduceMul, Int.reduceToNat, ak, b17, b48]
    refine alt_e ?_
    ·have g53 : 0 + (x0_6.tmod x0_3).toNat * 1 + 1 ≤ (encL c_bool x0_5).length := (Vw.whole c_bool_w x0_5).le b48.1 b48.2 (j := 0) (q := 1) (by decide)
     have g54 : 0 + (x0_6.tmod x0_3).toNat * 1 < (encL c_bool x0_5).length := (Vw.whole c_bool_w x0_5).lt b48.1 b48.2 (j := 0) (by decide)
     have g55 : (encL c_bool x0_5)[0 + (x0_6.tmod x0_3).toNat * 1]? = some (.sc (.bool (rd false x0_5 (x0_6.tmod x0_3)))) := (Vw.whole c_bool_w x0_5).get false 0 b48.1 b48.2 (by decide)
     have g56 : (encL c_bool x0_5).set (0 + (x0_6.tmod x0_3).toNat * 1) (.sc (.bool false)) = encL c_bool (x0_5.set (x0_6.tmod x0_3).toNat false) := encL_put c_bool_w false b48.1 b48.2 (j := 0) (by decide) rfl
     simp +decide only [Nat.reduceAdd, Nat.reduceMul, Int.reduceToNat, ak, b48, g53, g54, g55, g56]
     refine hJ47 _ ?_
     refine reg_k ?_
     simp +decide only [Nat.reduceAdd, Nat.reduceMul, Int.reduceToNat, ak]
     refine B15n _ ?_
     refine hJ14 _ ?_
     refine reg_k ?_
     simp +decide only [Nat.reduceAdd, Nat.reduceMul, Int.reduceToNat, ak]
     refine G0n _ _ (wk [0, 4, 5, 6, 19, 20] [pI (.arg 0) .box, pI (.tmp 4 0) .box, pI (.tmp 6 20) .lst] (h0 := by first | rfl | simp +decide only [ak, akF, b17, b18, b25, b48]) (h := by first | rfl | (simp +decide only [ak, akF, b17, b18, b25, b48]; done) | (simp +decide [ak, akF, b17, b18, b25, b48] <;> omega))) (ih _ _ _ _ _ h K hx0)
 ·replace c13 := of_decide_eq_false c13; rw [if_neg c13] at h
  obtain rfl := Option.some.inj h
  refine gh_k (wk [0, 4, 5, 6] [pI (.arg 0) .box, pI (.tmp 4 0) .box, pI (.tmp 6 20) .lst]) ?_
  refine G0x _ _ ?_
  exact hx0
theorem impl_buffer_get.tri (a0_0 : Int) (l0_1 : List Int) (l0_2 : List Bool) (a0_3 : Int) (a0_4 : Bool) (a0_5 : Int) (a1 : Int) (r : Int × Int × (List Int) × (List Bool) × Int) (h : impl_buffer_get.f a0_0 l0_1 l0_2 a0_3 a0_4 a0_5 a1 = some r) : Tri Try.prog 160 [.c (.ptr (.arg 0) [] 0), .c (.sc (.int .i64 a1))] [(.arg 0, ⟨.box, 0, [.sc (.int .u64 a0_0), .own 1 l0_1.length (encL c_u8 l0_1), .own 1 l0_2.length (encL c_bool l0_2), .sc (.int .u64 a0_3), .sc (.bool a0_4), .sc (.int .u64 a0_5)]⟩)] (fun o => o = ⟨.g [.sc (.int .i64 r.1), .sc (.int .i64 r.2.1), .ref (.res 0) [] 0 r.2.2.1.length], [(.arg 0, ⟨.box, 0, [.sc (.int .u64 a0_0), .own 1 l0_1.length (encL c_u8 l0_1), .own 1 r.2.2.2.1.length (encL c_bool r.2.2.2.1), .sc (.int .u64 r.2.2.2.2), .sc (.bool a0_4), .sc (.int .u64 a0_5)]⟩), (.res 0, ⟨.lst, 1, encL c_u8 r.2.2.1⟩)], [], []⟩) := by
 refine tri_of_body (ac := C160) (xs := r160) Try.func160 (show Try.f160.body = some (Try.f160.body.getD .skip) from rfl) k160 q160 (Nat.le_of_ble_eq_true rfl) ?_
 refine body_of fun K hKn hKr => ?_
 unfold impl_buffer_get.f at h
 unfold C160
 simp only [initT, Nat.reduceAdd]
 refine sr_k fun J1 hJ1 => ?_
 simp +decide only [Nat.reduceAdd, Nat.reduceMul, Int.reduceToNat, ak]
 refine gho_k (Weak.own (.tmp 4 0) (cs' := [.sc (.int .i64 0), .sc (.int .i64 0), .own 1 (([] : List Int).length) (encL c_u8 ([] : List Int))]) rfl ⟨.inl rfl, .inl rfl, .inr ⟨rfl, _, rfl⟩, trivial⟩) ?_
 simp +decide only [Nat.reduceAdd, Nat.reduceMul, Int.reduceToNat, ak]
 refine hJ1 _ ?_
 refine sd_k fun J2 hJ2 => ?_
 simp +decide only [Nat.reduceAdd, Nat.reduceMul, Int.reduceToNat, ak, mmF, mm2, scv, List.foldl]
 obtain ⟨t3, h4, h⟩ := of_bind h
 refine alt_e ?_
 ·simp +decide only [Nat.reduceAdd, Nat.reduceMul, Int.reduceToNat, ak]
  refine call_m [(.arg 0, ⟨(.arg 0), [], none, .box⟩)] (s0 := [(.arg 0, ⟨.box, 0, [.sc (.int .u64 a0_0), .own 1 l0_1.length (encL c_u8 l0_1), .own 1 l0_2.length (encL c_bool l0_2), .sc (.int .u64 a0_3), .sc (.bool a0_4), .sc (.int .u64 a0_5)]⟩)]) (by intro t ht; cases ht; decide) rfl rfl (by first | rfl | simp only [reduceCtorEq, Nat.reduceEqDiff, ak, akF]) (impl_buffer_next.tri a0_0 l0_1 l0_2 a0_3 a0_4 a0_5 _ h4) (by first | rfl | simp only [reduceCtorEq, Nat.reduceEqDiff, ak, akF]) (by simp [bkOk2, memK]) (fun hl5 => ?_)
  refine call_st (s4 := [(.arg 0, ⟨.box, 0, [.sc (.int .u64 a0_0), .own 1 l0_1.length (encL c_u8 l0_1), .own 1 l0_2.length (encL c_bool l0_2), .sc (.int .u64 a0_3), .sc (.bool a0_4), .sc (.int .u64 a0_5)]⟩), (.tmp 4 0, ⟨.box, 0, [.sc (.int .i64 0), .sc (.int .i64 0), .own 1 (([] : List Int).length) (encL c_u8 ([] : List Int))]⟩)]) (m1' := []) (m2' := []) (v' := .c (.sc (.int .u64 t3))) (Sto.mapN_killNil _ _) (mrgL_whole (new' := [.sc (.int .u64 a0_0), .own 1 l0_1.length (encL c_u8 l0_1), .own 1 l0_2.length (encL c_bool l0_2), .sc (.int .u64 a0_3), .sc (.bool a0_4), .sc (.int .u64 a0_5)]) (mrgL_nil' _ _ _) rfl (by rfl) (.inl ⟨rfl, by first | rfl | simp only [reduceCtorEq, Nat.reduceEqDiff, ak, akF, Nat.zero_add, List.append_nil]⟩)) (by rfl) (mapT_killNil _ _) (by rfl) (by rfl) (by first | rfl | simp only [reduceCtorEq, Nat.reduceEqDiff, ak, akF, Nat.zero_add, List.append_nil]) ?_
  simp +decide only [Nat.reduceAdd, Nat.reduceMul, Int.reduceToNat, ak, mmF, mm2, scv, List.foldl]
  refine hJ2 _ ?_
  refine sr_k fun J7 hJ7 => ?_
  simp +decide only [Nat.reduceAdd, Nat.reduceMul, Int.reduceToNat, ak]
  refine gho_k (Weak.nm' 6 (.tmp 6 20) 1 (encL c_u8 ([] : List Int)) rfl rfl rfl) ?_
  simp +decide only [Nat.reduceAdd, Nat.reduceMul, Int.reduceToNat, ak]
  refine hJ7 _ ?_
  refine seq_k fun J8 hJ8 => ?_
  refine sr_k fun J9 hJ9 => ?_
  simp +decide only [Nat.reduceAdd, Nat.reduceMul, Int.reduceToNat, ak]
  refine hJ9 _ ?_
  refine block_k fun B10 B10n B10x B10r B10j => ?_
  obtain ⟨y57, h58, h⟩ := of_bind h
  refine gh_k (st' := ⟨[(0, .c (.ptr (.arg 0) [] 0)), (4, .c (.ptr (.tmp 4 0) [] 0)), (5, .c (.sc (.int .u64 (if (IntKind.u64.wrap (t3 - a0_3)) < (IntKind.u64.wrap (if 0 > a1 then 0 else a1)) then IntKind.u64.wrap (t3 - a0_3) else IntKind.u64.wrap (if 0 > a1 then 0 else a1))))), (6, .c (.ref (.tmp 6 20) [] 0 (([] : List Int).length))), (19, .c (.sc (.int .u64 (if (IntKind.u64.wrap (t3 - a0_3)) < (IntKind.u64.wrap (if 0 > a1 then 0 else a1)) then IntKind.u64.wrap (t3 - a0_3) else IntKind.u64.wrap (if 0 > a1 then 0 else a1))))), (20, .c (.sc (.int .u64 0)))], [(.arg 0, ⟨.box, 0, [.sc (.int .u64 a0_0), .own 1 l0_1.length (encL c_u8 l0_1), .own 1 l0_2.length (encL c_bool l0_2), .sc (.int .u64 a0_3), .sc (.bool a0_4), .sc (.int .u64 a0_5)]⟩), (.tmp 4 0, ⟨.box, 0, [.sc (.int .i64 0), .sc (.int .i64 0), .own 1 (([] : List Int).length) (encL c_u8 ([] : List Int))]⟩), (.tmp 6 20, ⟨.lst, 1, encL c_u8 ([] : List Int)⟩)], [], []⟩) (wk [0, 4, 5, 6, 19, 20] [pI (.arg 0) .box, pI (.tmp 4 0) .box, pI (.tmp 6 20) .lst] (h := by first | rfl | (simp +decide only [ak, akF]; done) | (simp +decide [ak, akF] <;> omega))) ?_
  rw [e_loop]
  refine impl_buffer_get.l0_walk (if (IntKind.u64.wrap (t3 - a0_3)) < (IntKind.u64.wrap (if 0 > a1 then 0 else a1)) then IntKind.u64.wrap (t3 - a0_3) else IntKind.u64.wrap (if 0 > a1 then 0 else a1)) (if (IntKind.u64.wrap (t3 - a0_3)) < (IntKind.u64.wrap (if 0 > a1 then 0 else a1)) then IntKind.u64.wrap (t3 - a0_3) else IntKind.u64.wrap (if 0 > a1 then 0 else a1)) a0_0 l0_1 a0_4 a0_5 0 0 ([] : List Int) 0 l0_2 a0_3 ([] : List Int) _ h58 _ ?_
  refine B10x _ ?_
  refine hJ8 _ ?_
  refine sr_k fun J59 hJ59 => ?_
  simp +decide only [Nat.reduceAdd, Nat.reduceMul, Int.reduceToNat, ak]
  refine hJ59 _ ?_
  obtain ⟨j60, h61, hn⟩ := of_bind h
  refine seq_j (fun st => st = ⟨[(4, .c (.ptr (.tmp 4 0) [] 0)), (5, .c (.sc (.int .u64 (if (IntKind.u64.wrap (t3 - a0_3)) < (IntKind.u64.wrap (if 0 > a1 then 0 else a1)) then IntKind.u64.wrap (t3 - a0_3) else IntKind.u64.wrap (if 0 > a1 then 0 else a1))))), (6, .c (.ref (.tmp 6 20) [] 0 y57.2.2.length)), (7, .c (.sc (.int .i64 j60)))], [(.arg 0, ⟨.box, 0, [.sc (.int .u64 a0_0), .own 1 l0_1.length (encL c_u8 l0_1), .own 1 y57.1.length (encL c_bool y57.1), .sc (.int .u64 y57.2.1), .sc (.bool a0_4), .sc (.int .u64 a0_5)]⟩), (.tmp 4 0, ⟨.box, 0, [.sc (.int .i64 0), .sc (.int .i64 0), .own 1 (([] : List Int).length) (encL c_u8 ([] : List Int))]⟩), (.tmp 6 20, ⟨.lst, 1, encL c_u8 y57.2.2⟩)], [], []⟩) (fun J62 hJ62 => ?_) ?_
  ·replace h := h61; clear hn
   refine ga_k fun G63 G63n G63r G63x => ?_
   obtain ⟨j64, h65, hn⟩ := of_bind h
   refine seq_j (fun st => st = ⟨[(4, .c (.ptr (.tmp 4 0) [] 0)), (5, .c (.sc (.int .u64 (if (IntKind.u64.wrap (t3 - a0_3)) < (IntKind.u64.wrap (if 0 > a1 then 0 else a1)) then IntKind.u64.wrap (t3 - a0_3) else IntKind.u64.wrap (if 0 > a1 then 0 else a1))))), (6, .c (.ref (.tmp 6 20) [] 0 y57.2.2.length)), (7, .c (.sc (.int .i64 0))), (80, .c (.sc (.bool j64)))], [(.arg 0, ⟨.box, 0, [.sc (.int .u64 a0_0), .own 1 l0_1.length (encL c_u8 l0_1), .own 1 y57.1.length (encL c_bool y57.1), .sc (.int .u64 y57.2.1), .sc (.bool a0_4), .sc (.int .u64 a0_5)]⟩), (.tmp 4 0, ⟨.box, 0, [.sc (.int .i64 0), .sc (.int .i64 0), .own 1 (([] : List Int).length) (encL c_u8 ([] : List Int))]⟩), (.tmp 6 20, ⟨.lst, 1, encL c_u8 y57.2.2⟩)], [], []⟩) (fun J66 hJ66 => ?_) ?_
   ·replace h := h65; clear hn
    refine ga_k fun G67 G67n G67r G67x => ?_
    refine regD_k ?_
    simp +decide only [Nat.reduceAdd, Nat.reduceMul, Int.reduceToNat, ak]
    by_cases c68 : (if (IntKind.u64.wrap (t3 - a0_3)) < (IntKind.u64.wrap (if 0 > a1 then 0 else a1)) then IntKind.u64.wrap (t3 - a0_3) else IntKind.u64.wrap (if 0 > a1 then 0 else a1)) = 0
    ·rw [if_pos c68] at h
     have e69 : decide ((if (IntKind.u64.wrap (t3 - a0_3)) < (IntKind.u64.wrap (if 0 > a1 then 0 else a1)) then IntKind.u64.wrap (t3 - a0_3) else IntKind.u64.wrap (if 0 > a1 then 0 else a1)) = 0) = true := decide_eq_true c68
     simp +decide only [Nat.reduceAdd, Nat.reduceMul, Int.reduceToNat, ak, e69]
     by_cases c70 : a0_4 = true
     ·rw [if_pos c70] at h
      have e71 : (a0_4) = true := c70
      simp +decide only [Nat.reduceAdd, Nat.reduceMul, Int.reduceToNat, ak, e71]
      obtain rfl := Option.some.inj h
      refine G67n _ _ (wk [4, 5, 6, 7, 80] [pI (.arg 0) .box, pI (.tmp 4 0) .box, pI (.tmp 6 20) .lst] (h0 := by first | rfl | simp +decide only [ak, akF, e69, e71]) (h := by first | rfl | (simp +decide only [ak, akF, e69, e71]; done) | (simp +decide [ak, akF, e69, e71] <;> omega))) (hJ66 _ rfl)
     ·rw [if_neg c70] at h
      have e72 : (a0_4) = false := Bool.eq_false_iff.2 c70
      simp +decide only [Nat.reduceAdd, Nat.reduceMul, Int.reduceToNat, ak, e72]
      obtain rfl := Option.some.inj h
      refine G67n _ _ (wk [4, 5, 6, 7, 80] [pI (.arg 0) .box, pI (.tmp 4 0) .box, pI (.tmp 6 20) .lst] (h0 := by first | rfl | simp +decide only [ak, akF, e69, e72]) (h := by first | rfl | (simp +decide only [ak, akF, e69, e72]; done) | (simp +decide [ak, akF, e69, e72] <;> omega))) (hJ66 _ rfl)
    ·rw [if_neg c68] at h
     have e73 : decide ((if (IntKind.u64.wrap (t3 - a0_3)) < (IntKind.u64.wrap (if 0 > a1 then 0 else a1)) then IntKind.u64.wrap (t3 - a0_3) else IntKind.u64.wrap (if 0 > a1 then 0 else a1)) = 0) = false := decide_eq_false c68
     simp +decide only [Nat.reduceAdd, Nat.reduceMul, Int.reduceToNat, ak, e73]
     obtain rfl := Option.some.inj h
     refine G67n _ _ (wk [4, 5, 6, 7, 80] [pI (.arg 0) .box, pI (.tmp 4 0) .box, pI (.tmp 6 20) .lst] (h0 := by first | rfl | simp +decide only [ak, akF, e73]) (h := by first | rfl | (simp +decide only [ak, akF, e73]; done) | (simp +decide [ak, akF, e73] <;> omega))) (hJ66 _ rfl)
   ·replace h := hn; clear hn h65
    rintro _ rfl
    refine cond_k (b := j64) rfl (fun c74 => ?_) (fun c74 => ?_)
    ·rw [if_pos c74] at h
     refine reg_k ?_
     simp +decide only [Nat.reduceAdd, Nat.reduceMul, Int.reduceToNat, ak]
     obtain rfl := Option.some.inj h
     refine G63n _ _ (wk [4, 5, 6, 7] [pI (.arg 0) .box, pI (.tmp 4 0) .box, pI (.tmp 6 20) .lst]) (hJ62 _ rfl)
    ·rw [if_neg (Bool.eq_false_iff.1 c74)] at h
     obtain rfl := Option.some.inj h
     refine G63n _ _ (wk [4, 5, 6, 7] [pI (.arg 0) .box, pI (.tmp 4 0) .box, pI (.tmp 6 20) .lst]) (hJ62 _ rfl)
  ·replace h := hn; clear hn h61
   rintro _ rfl
   refine sr_k fun J75 hJ75 => ?_
   simp +decide only [Nat.reduceAdd, Nat.reduceMul, Int.reduceToNat, ak]
   refine gho_k (Weak.refl _ _) ?_
   have g76 : (encL c_u8 y57.2.2).length = y57.2.2.length * 1 := by simp [encL_length c_u8_w]
   simp +decide only [Nat.reduceAdd, Nat.reduceMul, Int.reduceToNat, ak, g76]
   refine hJ75 _ ?_
   obtain rfl := Option.some.inj h
   refine hKr _ ⟨_, rfl, [⟨(.tmp 4 0), [2], none, .lst⟩], _, rfl, rfl, ?_⟩
   first | rfl | (simp only [reduceCtorEq, Nat.reduceEqDiff, ak, akF]; done) | (simp [reduceCtorEq, Nat.reduceEqDiff, ak, akF] <;> omega)
/-! ### (*impl.buffer).act: function 139 -/
def C139 : AC := .seq (.reg [.op none (.box 3 (.tmp 1)), .op none (.alloc 4 [.int .i64 0, .int .i64 0, .slice none 0 0]), .gh, .keep [0, 3, 4]]) (.seq (.seq (.reg [.op none (.faddr 5 0 (.tmp 3)), .op none (.load 6 false 1 (.tmp 5)), .keep [0, 3, 4, 6]]) (.block 0 (.seq (.reg [.op none (.bin 8 .eql (.tmp 6) (.const (.int .i64 1))), .op none (.mv 7 (.tmp 8)), .keep [0, 3, 4, 6, 7]]) (.cond (.tmp 7) (.seq (.reg [.op none (.mv 9 (.tmp 0)), .op none (.faddr 10 1 (.tmp 3)), .op none (.load 11 false 1 (.tmp 10)), .op none (.faddr 12 2 (.tmp 3)), .op none (.load 13 false 1 (.tmp 12)), .call none (some 14) 158 [.tmp 9, .tmp 11, .tmp 13], .op none (.store 3 (.tmp 4) (.tmp 14)), .keep [4]]) (.ret)) (.seq (.reg [.op none (.bin 16 .eql (.tmp 6) (.const (.int .i64 3))), .op none (.mv 15 (.tmp 16)), .keep [0, 3, 4, 6, 15]]) (.cond (.tmp 15) (.seq (.reg [.op none (.mv 17 (.tmp 0)), .op none (.faddr 18 1 (.tmp 3)), .op none (.load 19 false 1 (.tmp 18)), .call none (some 20) 159 [.tmp 17, .tmp 19], .op none (.store 3 (.tmp 4) (.tmp 20)), .keep [4]]) (.ret)) (.seq (.reg [.op none (.bin 22 .eql (.tmp 6) (.const (.int .i64 2))), .op none (.mv 21 (.tmp 22)), .keep [0, 3, 4, 21]]) (.cond (.tmp 21) (.seq (.reg [.op none (.mv 23 (.tmp 0)), .op none (.faddr 24 3 (.tmp 3)), .op none (.load 25 false 1 (.tmp 24)), .call none (some 26) 160 [.tmp 23, .tmp 25], .op none (.store 3 (.tmp 4) (.tmp 26)), .keep [4]]) (.ret)) (.skip))))))))) (.seq (.reg [.op none (.build 27 [.int .i64 0, .int .i64 0, .slice none 0 0] [(0, 1, .const (.int .i64 1))]), .gh, .op none (.store 3 (.tmp 4) (.tmp 27)), .keep [4]]) (.ret)))
def r139 : List RV := [.cell 4 true 3]
theorem k139 : compC Try.prog 28 C139 (Try.f139.body.getD .skip) = some C139.erase := by kernel_rfl
theorem q139 : rvsOf Try.prog Try.f139.results.toList = some r139 := by kernel_rfl
def impl_buffer_act.f (a0_0 : Int) (l0_1 : List Int) (l0_2 : List Bool) (a0_3 : Int) (a0_4 : Bool) (a0_5 : Int) (a1_0 : Int) (a1_1 : Int) (l1_2 : List Int) (a1_3 : Int) : Option (Int × Int × (List Int) × (List Int) × (List Bool) × Int × Bool × Int) := (if a1_0 = 1 then (impl_buffer_put.f a0_0 l0_1 l0_2 a0_3 a0_4 a0_5 a1_1 l1_2 >>= fun t8 => (some (t8.1, t8.2.1, t8.2.2.1, t8.2.2.2.1, t8.2.2.2.2, a0_3, a0_4, a0_5))) else (if a1_0 = 3 then (impl_buffer_end.f a0_0 l0_1 l0_2 a0_3 a0_4 a0_5 a1_1 >>= fun t15 => (some (t15.1, t15.2.1, t15.2.2.1, l0_1, l0_2, a0_3, t15.2.2.2.1, t15.2.2.2.2))) else (if a1_0 = 2 then (impl_buffer_get.f a0_0 l0_1 l0_2 a0_3 a0_4 a0_5 a1_3 >>= fun t22 => (some (t22.1, t22.2.1, t22.2.2.1, l0_1, t22.2.2.2.1, t22.2.2.2.2, a0_4, a0_5))) else (some (1, 0, ([] : List Int), l0_1, l0_2, a0_3, a0_4, a0_5)))))
theorem impl_buffer_act.tri (cs1 : List Cell) (o1 : Nat) (l1_2 : List Int) (hv1 : Vw c_u8 1 cs1 o1 l1_2) (a0_0 : Int) (l0_1 : List Int) (l0_2 : List Bool) (a0_3 : Int) (a0_4 : Bool) (a0_5 : Int) (a1_0 : Int) (a1_1 : Int) (a1_3 : Int) (r : Int × Int × (List Int) × (List Int) × (List Bool) × Int × Bool × Int) (h : impl_buffer_act.f a0_0 l0_1 l0_2 a0_3 a0_4 a0_5 a1_0 a1_1 l1_2 a1_3 = some r) : Tri Try.prog 139 [.c (.ptr (.arg 0) [] 0), .g [.sc (.int .i64 a1_0), .sc (.int .u64 a1_1), .ref (.arg 1) [] o1 l1_2.length, .sc (.int .i64 a1_3)]] [(.arg 0, ⟨.box, 0, [.sc (.int .u64 a0_0), .own 1 l0_1.length (encL c_u8 l0_1), .own 1 l0_2.length (encL c_bool l0_2), .sc (.int .u64 a0_3), .sc (.bool a0_4), .sc (.int .u64 a0_5)]⟩), (.arg 1, ⟨.fz, 1, cs1⟩)] (fun o => o = ⟨.g [.sc (.int .i64 r.1), .sc (.int .i64 r.2.1), .ref (.res 0) [] 0 r.2.2.1.length], [(.arg 0, ⟨.box, 0, [.sc (.int .u64 a0_0), .own 1 r.2.2.2.1.length (encL c_u8 r.2.2.2.1), .own 1 r.2.2.2.2.1.length (encL c_bool r.2.2.2.2.1), .sc (.int .u64 r.2.2.2.2.2.1), .sc (.bool r.2.2.2.2.2.2.1), .sc (.int .u64 r.2.2.2.2.2.2.2)]⟩), (.arg 1, ⟨.fz, 1, cs1⟩), (.res 0, ⟨.lst, 1, encL c_u8 r.2.2.1⟩)], [], []⟩) := by
 refine tri_of_body (ac := C139) (xs := r139) Try.func139 (show Try.f139.body = some (Try.f139.body.getD .skip) from rfl) k139 q139 (Nat.le_of_ble_eq_true rfl) ?_
 refine body_of fun K hKn hKr => ?_
 unfold impl_buffer_act.f at h
 unfold C139
 simp only [initT, Nat.reduceAdd]
 refine sr_k fun J1 hJ1 => ?_
 simp +decide only [Nat.reduceAdd, Nat.reduceMul, Int.reduceToNat, ak]
 refine gho_k (Weak.own (.tmp 4 0) (cs' := [.sc (.int .i64 0), .sc (.int .i64 0), .own 1 (([] : List Int).length) (encL c_u8 ([] : List Int))]) rfl ⟨.inl rfl, .inl rfl, .inr ⟨rfl, _, rfl⟩, trivial⟩) ?_
 simp +decide only [Nat.reduceAdd, Nat.reduceMul, Int.reduceToNat, ak]
 refine hJ1 _ ?_
 refine seq_k fun J2 hJ2 => ?_
 refine sr_k fun J3 hJ3 => ?_
 simp +decide only [Nat.reduceAdd, Nat.reduceMul, Int.reduceToNat, ak]
 refine hJ3 _ ?_
 refine block_k fun B4 B4n B4x B4r B4j => ?_
 refine sr_k fun J5 hJ5 => ?_
 simp +decide only [Nat.reduceAdd, Nat.reduceMul, Int.reduceToNat, ak]
 refine hJ5 _ ?_
 refine cond_k (b := decide (a1_0 = 1)) rfl (fun c6 => ?_) (fun c6 => ?_)
 ·replace c6 := of_decide_eq_true c6; rw [if_pos c6] at h
  refine sr_k fun J7 hJ7 => ?_
  simp +decide only [Nat.reduceAdd, Nat.reduceMul, Int.reduceToNat, ak]
  obtain ⟨t8, h9, h⟩ := of_bind h
  refine call_m [(.arg 0, ⟨(.arg 0), [], none, .box⟩), (.arg 1, ⟨(.arg 1), [], none, .fz⟩)] (s0 := [(.arg 0, ⟨.box, 0, [.sc (.int .u64 a0_0), .own 1 l0_1.length (encL c_u8 l0_1), .own 1 l0_2.length (encL c_bool l0_2), .sc (.int .u64 a0_3), .sc (.bool a0_4), .sc (.int .u64 a0_5)]⟩), (.arg 1, ⟨.fz, 1, cs1⟩)]) (by intro t ht; cases ht; decide) rfl rfl (by first | rfl | simp only [reduceCtorEq, Nat.reduceEqDiff, ak, akF]) (impl_buffer_put.tri (cs1) o1 l1_2 hv1 a0_0 l0_1 l0_2 a0_3 a0_4 a0_5 a1_1 _ h9) (by first | rfl | simp only [reduceCtorEq, Nat.reduceEqDiff, ak, akF]) (by simp [bkOk2, memK]) (fun hl9 => ?_)
  refine call_st (s4 := [(.arg 0, ⟨.box, 0, [.sc (.int .u64 a0_0), .own 1 t8.2.2.2.1.length (encL c_u8 t8.2.2.2.1), .own 1 t8.2.2.2.2.length (encL c_bool t8.2.2.2.2), .sc (.int .u64 a0_3), .sc (.bool a0_4), .sc (.int .u64 a0_5)]⟩), (.arg 1, ⟨.fz, 1, cs1⟩), (.tmp 3 0, ⟨.box, 0, [.sc (.int .i64 a1_0), .sc (.int .u64 a1_1), .ref (.arg 1) [] o1 l1_2.length, .sc (.int .i64 a1_3)]⟩), (.tmp 4 0, ⟨.box, 0, [.sc (.int .i64 0), .sc (.int .i64 0), .own 1 (([] : List Int).length) (encL c_u8 ([] : List Int))]⟩), (.tmp 14 0, ⟨.lst, 1, encL c_u8 t8.2.2.1⟩)]) (m1' := []) (m2' := []) (v' := .g [.sc (.int .i64 t8.1), .sc (.int .i64 t8.2.1), .ref (.tmp 14 0) [] 0 t8.2.2.1.length]) (Sto.mapN_killNil _ _) (mrgL_whole (new' := [.sc (.int .u64 a0_0), .own 1 t8.2.2.2.1.length (encL c_u8 t8.2.2.2.1), .own 1 t8.2.2.2.2.length (encL c_bool t8.2.2.2.2), .sc (.int .u64 a0_3), .sc (.bool a0_4), .sc (.int .u64 a0_5)]) (mrgL_fz (mrgL_nil' _ _ _) rfl (by first | rfl | simp only [reduceCtorEq, Nat.reduceEqDiff, ak]) rfl (by intro R hR hh; cases hR; cases hh.2)) rfl (by rfl) (.inl ⟨rfl, by first | rfl | simp only [reduceCtorEq, Nat.reduceEqDiff, ak, akF, Nat.zero_add, List.append_nil]⟩)) (by rfl) (mapT_killNil _ _) (by rfl) (by rfl) (by first | rfl | simp only [reduceCtorEq, Nat.reduceEqDiff, ak, akF, Nat.zero_add, List.append_nil]) ?_
  have g11 : (encL c_u8 t8.2.2.1).length = t8.2.2.1.length * 1 := by simp [encL_length c_u8_w]
  simp +decide only [Nat.reduceAdd, Nat.reduceMul, Int.reduceToNat, ak, g11]
  refine hJ7 _ ?_
  refine B4r _ ?_
  obtain rfl := Option.some.inj h
  refine hKr _ ⟨_, rfl, [⟨(.tmp 4 0), [2], none, .lst⟩], _, rfl, rfl, ?_⟩
  first | rfl | (simp only [reduceCtorEq, Nat.reduceEqDiff, ak, akF]; done) | (simp [reduceCtorEq, Nat.reduceEqDiff, ak, akF] <;> omega)
 ·replace c6 := of_decide_eq_false c6; rw [if_neg c6] at h
  refine sr_k fun J12 hJ12 => ?_
  simp +decide only [Nat.reduceAdd, Nat.reduceMul, Int.reduceToNat, ak]
  refine hJ12 _ ?_
  refine cond_k (b := decide (a1_0 = 3)) rfl (fun c13 => ?_) (fun c13 => ?_)
  ·replace c13 := of_decide_eq_true c13; rw [if_pos c13] at h
   refine sr_k fun J14 hJ14 => ?_
   simp +decide only [Nat.reduceAdd, Nat.reduceMul, Int.reduceToNat, ak]
   obtain ⟨t15, h16, h⟩ := of_bind h
   refine call_m [(.arg 0, ⟨(.arg 0), [], none, .box⟩)] (s0 := [(.arg 0, ⟨.box, 0, [.sc (.int .u64 a0_0), .own 1 l0_1.length (encL c_u8 l0_1), .own 1 l0_2.length (encL c_bool l0_2), .sc (.int .u64 a0_3), .sc (.bool a0_4), .sc (.int .u64 a0_5)]⟩)]) (by intro t ht; cases ht; decide) rfl rfl (by first | rfl | simp only [reduceCtorEq, Nat.reduceEqDiff, ak, akF]) (impl_buffer_end.tri a0_0 l0_1 l0_2 a0_3 a0_4 a0_5 a1_1 _ h16) (by first | rfl | simp only [reduceCtorEq, Nat.reduceEqDiff, ak, akF]) (by simp [bkOk2, memK]) (fun hl16 => ?_)
   refine call_st (s4 := [(.arg 0, ⟨.box, 0, [.sc (.int .u64 a0_0), .own 1 l0_1.length (encL c_u8 l0_1), .own 1 l0_2.length (encL c_bool l0_2), .sc (.int .u64 a0_3), .sc (.bool t15.2.2.2.1), .sc (.int .u64 t15.2.2.2.2)]⟩), (.arg 1, ⟨.fz, 1, cs1⟩), (.tmp 3 0, ⟨.box, 0, [.sc (.int .i64 a1_0), .sc (.int .u64 a1_1), .ref (.arg 1) [] o1 l1_2.length, .sc (.int .i64 a1_3)]⟩), (.tmp 4 0, ⟨.box, 0, [.sc (.int .i64 0), .sc (.int .i64 0), .own 1 (([] : List Int).length) (encL c_u8 ([] : List Int))]⟩), (.tmp 20 0, ⟨.lst, 1, encL c_u8 t15.2.2.1⟩)]) (m1' := []) (m2' := []) (v' := .g [.sc (.int .i64 t15.1), .sc (.int .i64 t15.2.1), .ref (.tmp 20 0) [] 0 t15.2.2.1.length]) (Sto.mapN_killNil _ _) (mrgL_whole (new' := [.sc (.int .u64 a0_0), .own 1 l0_1.length (encL c_u8 l0_1), .own 1 l0_2.length (encL c_bool l0_2), .sc (.int .u64 a0_3), .sc (.bool t15.2.2.2.1), .sc (.int .u64 t15.2.2.2.2)]) (mrgL_nil' _ _ _) rfl (by rfl) (.inl ⟨rfl, by first | rfl | simp only [reduceCtorEq, Nat.reduceEqDiff, ak, akF, Nat.zero_add, List.append_nil]⟩)) (by rfl) (mapT_killNil _ _) (by rfl) (by rfl) (by first | rfl | simp only [reduceCtorEq, Nat.reduceEqDiff, ak, akF, Nat.zero_add, List.append_nil]) ?_
   have g18 : (encL c_u8 t15.2.2.1).length = t15.2.2.1.length * 1 := by simp [encL_length c_u8_w]
   simp +decide only [Nat.reduceAdd, Nat.reduceMul, Int.reduceToNat, ak, g18]
   refine hJ14 _ ?_
   refine B4r _ ?_
   obtain rfl := Option.some.inj h
   refine hKr _ ⟨_, rfl, [⟨(.tmp 4 0), [2], none, .lst⟩], _, rfl, rfl, ?_⟩
   first | rfl | (simp only [reduceCtorEq, Nat.reduceEqDiff, ak, akF]; done) | (simp [reduceCtorEq, Nat.reduceEqDiff, ak, akF] <;> omega)
  ·replace c13 := of_decide_eq_false c13; rw [if_neg c13] at h
   refine sr_k fun J19 hJ19 => ?_
   simp +decide only [Nat.reduceAdd, Nat.reduceMul, Int.reduceToNat, ak]
   refine hJ19 _ ?_
   refine cond_k (b := decide (a1_0 = 2)) rfl (fun c20 => ?_) (fun c20 => ?_)
   ·replace c20 := of_decide_eq_true c20; rw [if_pos c20] at h
    refine sr_k fun J21 hJ21 => ?_
    simp +decide only [Nat.reduceAdd, Nat.reduceMul, Int.reduceToNat, ak]
    obtain ⟨t22, h23, h⟩ := of_bind h
    refine call_m [(.arg 0, ⟨(.arg 0), [], none, .box⟩)] (s0 := [(.arg 0, ⟨.box, 0, [.sc (.int .u64 a0_0), .own 1 l0_1.length (encL c_u8 l0_1), .own 1 l0_2.length (encL c_bool l0_2), .sc (.int .u64 a0_3), .sc (.bool a0_4), .sc (.int .u64 a0_5)]⟩)]) (by intro t ht; cases ht; decide) rfl rfl (by first | rfl | simp only [reduceCtorEq, Nat.reduceEqDiff, ak, akF]) (impl_buffer_get.tri a0_0 l0_1 l0_2 a0_3 a0_4 a0_5 a1_3 _ h23) (by first | rfl | simp only [reduceCtorEq, Nat.reduceEqDiff, ak, akF]) (by simp [bkOk2, memK]) (fun hl23 => ?_)
    refine call_st (s4 := [(.arg 0, ⟨.box, 0, [.sc (.int .u64 a0_0), .own 1 l0_1.length (encL c_u8 l0_1), .own 1 t22.2.2.2.1.length (encL c_bool t22.2.2.2.1), .sc (.int .u64 t22.2.2.2.2), .sc (.bool a0_4), .sc (.int .u64 a0_5)]⟩), (.arg 1, ⟨.fz, 1, cs1⟩), (.tmp 3 0, ⟨.box, 0, [.sc (.int .i64 a1_0), .sc (.int .u64 a1_1), .ref (.arg 1) [] o1 l1_2.length, .sc (.int .i64 a1_3)]⟩), (.tmp 4 0, ⟨.box, 0, [.sc (.int .i64 0), .sc (.int .i64 0), .own 1 (([] : List Int).length) (encL c_u8 ([] : List Int))]⟩), (.tmp 26 0, ⟨.lst, 1, encL c_u8 t22.2.2.1⟩)]) (m1' := []) (m2' := []) (v' := .g [.sc (.int .i64 t22.1), .sc (.int .i64 t22.2.1), .ref (.tmp 26 0) [] 0 t22.2.2.1.length]) (Sto.mapN_killNil _ _) (mrgL_whole (new' := [.sc (.int .u64 a0_0), .own 1 l0_1.length (encL c_u8 l0_1), .own 1 t22.2.2.2.1.length (encL c_bool t22.2.2.2.1), .sc (.int .u64 t22.2.2.2.2), .sc (.bool a0_4), .sc (.int .u64 a0_5)]) (mrgL_nil' _ _ _) rfl (by rfl) (.inl ⟨rfl, by first | rfl | simp only [reduceCtorEq, Nat.reduceEqDiff, ak, akF, Nat.zero_add, List.append_nil]⟩)) (by rfl) (mapT_killNil _ _) (by rfl) (by rfl) (by first | rfl | simp only [reduceCtorEq, Nat.reduceEqDiff, ak, akF, Nat.zero_add, List.append_nil]) ?_
    have g25 : (encL c_u8 t22.2.2.1).length = t22.2.2.1.length * 1 := by simp [encL_length c_u8_w]
    simp +decide only [Nat.reduceAdd, Nat.reduceMul, Int.reduceToNat, ak, g25]
    refine hJ21 _ ?_
    refine B4r _ ?_
    obtain rfl := Option.some.inj h
    refine hKr _ ⟨_, rfl, [⟨(.tmp 4 0), [2], none, .lst⟩], _, rfl, rfl, ?_⟩
    first | rfl | (simp only [reduceCtorEq, Nat.reduceEqDiff, ak, akF]; done) | (simp [reduceCtorEq, Nat.reduceEqDiff, ak, akF] <;> omega)
   ·replace c20 := of_decide_eq_false c20; rw [if_neg c20] at h
    refine B4n _ ?_
    refine hJ2 _ ?_
    refine sr_k fun J26 hJ26 => ?_
    simp +decide only [Nat.reduceAdd, Nat.reduceMul, Int.reduceToNat, ak]
    refine gho_k (Weak.nmg' 27 2 (.tmp 27 22) 1 (encL c_u8 ([] : List Int)) rfl rfl rfl rfl) ?_
    have g27 : (encL c_u8 ([] : List Int)).length = 0 * 1 := by simp [encL_length c_u8_w]
    simp +decide only [Nat.reduceAdd, Nat.reduceMul, Int.reduceToNat, ak, g27]
    refine hJ26 _ ?_
    obtain rfl := Option.some.inj h
    refine hKr _ ⟨_, rfl, [⟨(.tmp 4 0), [2], none, .lst⟩], _, rfl, rfl, ?_⟩
    first | rfl | (simp only [reduceCtorEq, Nat.reduceEqDiff, ak, akF]; done) | (simp [reduceCtorEq, Nat.reduceEqDiff, ak, akF] <;> omega)
/-! ### impl.reorderAfter: function 102 -/
def C102_l0 : AC := .seq (.reg [.op none (.bin 32 .lss (.tmp 31) (.tmp 30)), .keep [9, 10, 29, 30, 31, 32]]) (.seq (.cond (.tmp 32) (.skip) (.gh (.exit 0))) (.seq (.block 1 (.seq (.reg [.op none (.iaddr 33 4 (.tmp 29) (.tmp 31)), .op none (.load 34 true 4 (.tmp 33)), .op none (.alloc 12 [.int .i64 0, .int .u64 0, .slice none 0 0, .int .i64 0]), .gh, .op none (.store 4 (.tmp 12) (.tmp 34)), .keep [9, 10, 12, 29, 30, 31]]) (.reg [.op none (.mv 35 (.tmp 10)), .op none (.mv 36 (.tmp 9)), .op none (.load 37 true 4 (.tmp 12)), .call none (some 38) 139 [.tmp 36, .tmp 37], .op none (.bslice 39 3 [.int .i64 0, .int .i64 0, .slice none 0 0] 1 [(0, .tmp 38)]), .gh, .op none (.app 40 3 40 true (.tmp 35) (.tmp 39)), .op none (.mv 10 (.tmp 40)), .keep [9, 10, 29, 30, 31]]))) (.reg [.op none (.bin 41 .add (.tmp 31) (.const (.int .i64 1))), .op none (.mv 31 (.tmp 41)), .keep [9, 10, 29, 30, 31]])))
def C102 : AC := .seq (.reg [.op none (.mv 6 (.const (.pointer none))), .op none (.mv 7 (.const (.slice none 0 0))), .gh, .op none (.mv 8 (.const (.int .i64 0))), .keep [0, 1, 2]]) (.seq (.seq (.ga (.reg [.op none (.mv 13 (.tmp 0)), .op none (.bin 14 .gtr (.tmp 13) (.const (.int .u64 4611686018427387904))), .op none (.mv 15 (.tmp 14)), .op (some (15, false)) (.mv 16 (.tmp 1)), .op (some (15, false)) (.bin 17 .lss (.tmp 16) (.const (.int .i64 1))), .op none (.pick 18 (.tmp 15) (.const (.bool true)) (.tmp 17)), .op none (.mv 19 (.tmp 18)), .op (some (19, false)) (.mv 20 (.tmp 1)), .op (some (19, false)) (.bin 21 .gtr (.tmp 20) (.const (.int .i64 4096))), .op none (.pick 22 (.tmp 19) (.const (.bool true)) (.tmp 21)), .keep [0, 1, 2, 22]])) (.cond (.tmp 22) (.seq (.reg [.op none (.mv 6 (.const (.pointer none))), .op none (.mv 7 (.const (.slice none 0 0))), .gh, .op none (.mv 8 (.const (.int .i64 17))), .keep [6, 7, 8]]) (.ret)) (.skip))) (.seq (.seq (.reg [.op none (.mv 23 (.tmp 2)), .op none (.len 24 (.tmp 23)), .op none (.bin 25 .gtr (.tmp 24) (.const (.int .i64 4000))), .keep [0, 1, 2, 25]]) (.cond (.tmp 25) (.seq (.reg [.op none (.mv 6 (.const (.pointer none))), .op none (.mv 7 (.const (.slice none 0 0))), .gh, .op none (.mv 8 (.const (.int .i64 5))), .keep [6, 7, 8]]) (.ret)) (.skip))) (.seq (.reg [.op none (.mv 26 (.tmp 0)), .op none (.mv 27 (.tmp 1)), .call none (some 28) 138 [.tmp 26, .tmp 27], .op none (.mv 9 (.tmp 28)), .keep [2, 9]]) (.seq (.reg [.op none (.mv 10 (.const (.slice none 0 0))), .gh, .keep [2, 9, 10]]) (.seq (.seq (.reg [.op none (.mv 29 (.tmp 2)), .op none (.len 30 (.tmp 29)), .op none (.mv 31 (.const (.int .i64 0))), .keep [9, 10, 29, 30, 31]]) (.block 0 (.gh (.loop (.ga C102_l0))))) (.seq (.reg [.op none (.mv 42 (.tmp 9)), .op none (.mv 43 (.tmp 10)), .op none (.mv 6 (.tmp 42)), .op none (.mv 7 (.tmp 43)), .op none (.mv 8 (.const (.int .i64 0))), .keep [6, 7, 8]]) (.ret)))))))
def r102 : List RV := [.tmp 6, .tmp 7, .tmp 8]
theorem k102 : compC Try.prog 44 C102 (Try.f102.body.getD .skip) = some C102.erase := by kernel_rfl
theorem q102 : rvsOf Try.prog Try.f102.results.toList = some r102 := by kernel_rfl
def impl_reorderAfter.l0 (l2 : List S116) (x0_0 : Int) (x0_2 : Int) (x0_1 : Int) (x0_3 : (List Int)) (x0_4 : (List Bool)) (x0_5 : Int) (x0_6 : Bool) (x0_7 : Int) (x0_8 : (List S118)) : Option ((List Int) × (List Bool) × Int × Bool × Int × (List S118)) := (if x0_1 < x0_0 then (if 0 ≤ x0_1 ∧ x0_1 < (l2.length : Int) then (impl_buffer_act.f x0_2 x0_3 x0_4 x0_5 x0_6 x0_7 ((rd z116 l2 x0_1).f0) ((rd z116 l2 x0_1).f1) ((rd z116 l2 x0_1).f2) ((rd z116 l2 x0_1).f3) >>= fun t36 => (if (x0_8.length + 1) * 40 ≤ 140737488355328 then (impl_reorderAfter.l0 l2 x0_0 x0_2 (IntKind.i64.wrap (x0_1 + 1)) t36.2.2.2.1 t36.2.2.2.2.1 t36.2.2.2.2.2.1 t36.2.2.2.2.2.2.1 t36.2.2.2.2.2.2.2 (x0_8 ++ ([(⟨t36.1, t36.2.1, t36.2.2.1⟩ : S118)] : List S118))) else none)) else none) else (some (x0_3, x0_4, x0_5, x0_6, x0_7, x0_8)))
 partial_fixpoint
def impl_reorderAfter.f (a0 : Int) (a1 : Int) (l2 : List S116) : Option ((Option (Int × (List Int) × (List Bool) × Int × Bool × Int)) × (List S118) × Int) := ((if a0 > 4611686018427387904 then (some true) else (if a1 < 1 then (some true) else (some (decide (a1 > 4096))))) >>= fun (j3 : Bool) => (if j3 = true then (some (none, ([] : List S118), 17)) else (if (l2.length : Int) > 4000 then (some (none, ([] : List S118), 5)) else (impl_newBuffer.f a0 a1 >>= fun t20 => (impl_reorderAfter.l0 l2 (l2.length : Int) t20.1 0 t20.2.1 t20.2.2.1 t20.2.2.2.1 t20.2.2.2.2.1 t20.2.2.2.2.2 ([] : List S118) >>= fun (y49 : ((List Int) × (List Bool) × Int × Bool × Int × (List S118))) => (some ((some (t20.1, y49.1, y49.2.1, y49.2.2.1, y49.2.2.2.1, y49.2.2.2.2.1)), y49.2.2.2.2.2, 0)))))))
def impl_reorderAfter.l0_M (cs0 : List Cell) (o0 : Nat) (l2 : List S116) (hv0 : Vw c116 4 cs0 o0 l2) (x0_0 : Int) (x0_2 : Int) (x0_1 : Int) (x0_3 : (List Int)) (x0_4 : (List Bool)) (x0_5 : Int) (x0_6 : Bool) (x0_7 : Int) (x0_8 : (List S118)) (y : ((List Int) × (List Bool) × Int × Bool × Int × (List S118))) : Prop := ∀ (K : AE → St → Prop), (K (.exit 0) ⟨[(9, .c (.ptr (.tmp 28 0) [] 0)), (10, .c (.ref (.tmp 10 20) [] 0 y.2.2.2.2.2.length))], [(.arg 0, ⟨.fz, 4, cs0⟩), (.tmp 28 0, ⟨.box, 0, [.sc (.int .u64 x0_2), .own 1 y.1.length (encL c_u8 y.1), .own 1 y.2.1.length (encL c_bool y.2.1), .sc (.int .u64 y.2.2.1), .sc (.bool y.2.2.2.1), .sc (.int .u64 y.2.2.2.2.1)]⟩), (.tmp 10 20, ⟨.lst, 3, encL c118 y.2.2.2.2.2⟩)], [], []⟩) → loopS Try.prog 44 (.ga C102_l0) K ⟨[(9, .c (.ptr (.tmp 28 0) [] 0)), (10, .c (.ref (.tmp 10 20) [] 0 x0_8.length)), (29, .c (.ref (.arg 0) [] o0 l2.length)), (30, .c (.sc (.int .i64 x0_0))), (31, .c (.sc (.int .i64 x0_1)))], [(.arg 0, ⟨.fz, 4, cs0⟩), (.tmp 28 0, ⟨.box, 0, [.sc (.int .u64 x0_2), .own 1 x0_3.length (encL c_u8 x0_3), .own 1 x0_4.length (encL c_bool x0_4), .sc (.int .u64 x0_5), .sc (.bool x0_6), .sc (.int .u64 x0_7)]⟩), (.tmp 10 20, ⟨.lst, 3, encL c118 x0_8⟩)], [], []⟩
theorem impl_reorderAfter.l0_walk (cs0 : List Cell) (o0 : Nat) (l2 : List S116) (hv0 : Vw c116 4 cs0 o0 l2) (x0_0 : Int) (x0_2 : Int) (x0_1 : Int) (x0_3 : (List Int)) (x0_4 : (List Bool)) (x0_5 : Int) (x0_6 : Bool) (x0_7 : Int) (x0_8 : (List S118)) (y : ((List Int) × (List Bool) × Int × Bool × Int × (List S118))) (h : impl_reorderAfter.l0 l2 x0_0 x0_2 x0_1 x0_3 x0_4 x0_5 x0_6 x0_7 x0_8 = some y) : impl_reorderAfter.l0_M cs0 o0 l2 hv0 x0_0 x0_2 x0_1 x0_3 x0_4 x0_5 x0_6 x0_7 x0_8 y := by
 refine impl_reorderAfter.l0.partial_correctness l2 x0_0 x0_2 (motive := fun x0_1 x0_3 x0_4 x0_5 x0_6 x0_7 x0_8 y => impl_reorderAfter.l0_M cs0 o0 l2 hv0 x0_0 x0_2 x0_1 x0_3 x0_4 x0_5 x0_6 x0_7 x0_8 y) ?_ x0_1 x0_3 x0_4 x0_5 x0_6 x0_7 x0_8 y h
 clear h
 unfold impl_reorderAfter.l0_M
 intro rec ih x0_1 x0_3 x0_4 x0_5 x0_6 x0_7 x0_8 y h K hx0
 refine loop_unroll (ga_k fun G0 G0n G0r G0x => ?_)
 unfold C102_l0
 refine sr_k fun J27 hJ27 => ?_
 simp +decide only [Nat.reduceAdd, Nat.reduceMul, Int.reduceToNat, ak]
 refine hJ27 _ ?_
 refine seq_k fun J28 hJ28 => ?_
 refine cond_k (b := decide (x0_1 < x0_0)) rfl (fun c29 => ?_) (fun c29 => ?_)
 ·replace c29 := of_decide_eq_true c29; rw [if_pos c29] at h
  refine hJ28 _ ?_
  refine seq_k fun J30 hJ30 => ?_
  refine block_k fun B31 B31n B31x B31r B31j => ?_
  refine sr_k fun J32 hJ32 => ?_
  obtain ⟨b33, h⟩ := of_guard h
  have g34 : (List.drop (o0 + x0_1.toNat * 4) (cs0)).take 4 = [.sc (.int .i64 ((rd z116 l2 x0_1).f0)), .sc (.int .u64 ((rd z116 l2 x0_1).f1)), .own 1 (((rd z116 l2 x0_1).f2).length) (encL c_u8 ((rd z116 l2 x0_1).f2)), .sc (.int .i64 ((rd z116 l2 x0_1).f3))] := hv0.stretch z116 b33.1 b33.2
  simp +decide only [Nat.reduceAdd, Nat.reduceMul, Int.reduceToNat, ak, b33, g34]
  refine gho_k (Weak.own (.tmp 12 0) (cs' := [.sc (.int .i64 0), .sc (.int .u64 0), .own 1 (([] : List Int).length) (encL c_u8 ([] : List Int)), .sc (.int .i64 0)]) rfl ⟨.inl rfl, .inl rfl, .inr ⟨rfl, _, rfl⟩, .inl rfl, trivial⟩) ?_
  simp +decide only [Nat.reduceAdd, Nat.reduceMul, Int.reduceToNat, ak]
  refine hJ32 _ ?_
  refine reg_k ?_
  simp +decide only [Nat.reduceAdd, Nat.reduceMul, Int.reduceToNat, ak]
  have g35 : (cs0)[o0 + x0_1.toNat * 4 + 1 + 1]? = some (.own 1 (((rd z116 l2 x0_1).f2).length) (encL c_u8 ((rd z116 l2 x0_1).f2))) := hv0.get z116 2 b33.1 b33.2 (by decide)
  obtain ⟨t36, h37, h⟩ := of_bind h
  refine call_m [(.arg 0, ⟨(.tmp 28 0), [], none, .box⟩), (.arg 1, ⟨(.arg 0), [o0 + x0_1.toNat * 4 + 1 + 1], none, .fz⟩)] (s0 := [(.arg 0, ⟨.box, 0, [.sc (.int .u64 x0_2), .own 1 x0_3.length (encL c_u8 x0_3), .own 1 x0_4.length (encL c_bool x0_4), .sc (.int .u64 x0_5), .sc (.bool x0_6), .sc (.int .u64 x0_7)]⟩), (.arg 1, ⟨.fz, 1, encL c_u8 ((rd z116 l2 x0_1).f2)⟩)]) (by intro t ht; cases ht; decide) rfl rfl (by first | rfl | simp only [reduceCtorEq, Nat.reduceEqDiff, ak, akF, b33, g34, g35]) (impl_buffer_act.tri (encL c_u8 ((rd z116 l2 x0_1).f2)) 0 ((rd z116 l2 x0_1).f2) (Vw.whole c_u8_w ((rd z116 l2 x0_1).f2)) x0_2 x0_3 x0_4 x0_5 x0_6 x0_7 ((rd z116 l2 x0_1).f0) ((rd z116 l2 x0_1).f1) ((rd z116 l2 x0_1).f3) _ h37) (by first | rfl | simp only [reduceCtorEq, Nat.reduceEqDiff, ak, akF]) (by simp [bkOk2, memK]) (fun hl37 => ?_)
  refine call_st (s4 := [(.arg 0, ⟨.fz, 4, cs0⟩), (.tmp 28 0, ⟨.box, 0, [.sc (.int .u64 x0_2), .own 1 t36.2.2.2.1.length (encL c_u8 t36.2.2.2.1), .own 1 t36.2.2.2.2.1.length (encL c_bool t36.2.2.2.2.1), .sc (.int .u64 t36.2.2.2.2.2.1), .sc (.bool t36.2.2.2.2.2.2.1), .sc (.int .u64 t36.2.2.2.2.2.2.2)]⟩), (.tmp 10 20, ⟨.lst, 3, encL c118 x0_8⟩), (.tmp 12 0, ⟨.box, 0, [.sc (.int .i64 ((rd z116 l2 x0_1).f0)), .sc (.int .u64 ((rd z116 l2 x0_1).f1)), .ref (.arg 0) [o0 + x0_1.toNat * 4 + 1 + 1] 0 (((rd z116 l2 x0_1).f2).length), .sc (.int .i64 ((rd z116 l2 x0_1).f3))]⟩), (.tmp 38 0, ⟨.lst, 1, encL c_u8 t36.2.2.1⟩)]) (m1' := []) (m2' := []) (v' := .g [.sc (.int .i64 t36.1), .sc (.int .i64 t36.2.1), .ref (.tmp 38 0) [] 0 t36.2.2.1.length]) (Sto.mapN_killNil _ _) (mrgL_whole (new' := [.sc (.int .u64 x0_2), .own 1 t36.2.2.2.1.length (encL c_u8 t36.2.2.2.1), .own 1 t36.2.2.2.2.1.length (encL c_bool t36.2.2.2.2.1), .sc (.int .u64 t36.2.2.2.2.2.1), .sc (.bool t36.2.2.2.2.2.2.1), .sc (.int .u64 t36.2.2.2.2.2.2.2)]) (mrgL_fz (mrgL_nil' _ _ _) rfl (by first | rfl | simp only [reduceCtorEq, Nat.reduceEqDiff, ak, b33, g34, g35]) rfl (by intro R hR hh; cases hh.1)) rfl (by rfl) (.inl ⟨rfl, by first | rfl | simp only [reduceCtorEq, Nat.reduceEqDiff, ak, akF, Nat.zero_add, List.append_nil, b33]⟩)) (by rfl) (mapT_killNil _ _) (by rfl) (by rfl) (by first | rfl | simp only [reduceCtorEq, Nat.reduceEqDiff, ak, akF, Nat.zero_add, List.append_nil, b33]) ?_
  have g39 : (List.replicate 1 ([.int .i64 0, .int .i64 0, .slice none 0 0] : List Value)).flatten = [.int .i64 0, .int .i64 0, .slice none 0 0] := rfl
  have g40 : (encL c_u8 t36.2.2.1).length = t36.2.2.1.length * 1 := by simp [encL_length c_u8_w]
  have g41 : (⟨.lst, 3, [.sc (.int .i64 t36.1), .sc (.int .i64 t36.2.1), .own 1 t36.2.2.1.length (encL c_u8 t36.2.2.1)]⟩ : Root) = ⟨.lst, 3, encL c118 ([(⟨t36.1, t36.2.1, t36.2.2.1⟩ : S118)] : List S118)⟩ := rfl
  have g42 : ([(⟨t36.1, t36.2.1, t36.2.2.1⟩ : S118)] : List S118).length = 1 := rfl
  simp +decide only [Nat.reduceAdd, Nat.reduceMul, Int.reduceToNat, ak, b33, g35, g39, g40, g41, g42]
  refine gho_k (Weak.refl _ _) ?_
  have g43 : (encL c118 ([(⟨t36.1, t36.2.1, t36.2.2.1⟩ : S118)] : List S118)).length = 1 * 3 := by simp [encL_length c118_w]
  have g44 : (encL c118 ([(⟨t36.1, t36.2.1, t36.2.2.1⟩ : S118)] : List S118)).all nd = true := rfl
  obtain ⟨b45, h⟩ := of_guard h
  have g46 : appLim x0_8.length 1 40 := ⟨b45, by have := b45; omega⟩
  have g47 : (encL c118 x0_8).length = x0_8.length * 3 := by simp [encL_length c118_w]
  have g48 : encL c118 x0_8 ++ encL c118 ([(⟨t36.1, t36.2.1, t36.2.2.1⟩ : S118)] : List S118) = encL c118 (x0_8 ++ ([(⟨t36.1, t36.2.1, t36.2.2.1⟩ : S118)] : List S118)) := (encL_append _ _).symm
  simp +decide only [Nat.reduceAdd, Nat.reduceMul, Int.reduceToNat, ak, g43, g44, g46, g47, g48]
  refine B31n _ ?_
  refine hJ30 _ ?_
  refine reg_k ?_
  simp +decide only [Nat.reduceAdd, Nat.reduceMul, Int.reduceToNat, ak]
  refine G0n _ _ (wk [9, 10, 29, 30, 31] [pI (.arg 0) .fz, pI (.tmp 28 0) .box, pI (.tmp 10 20) .lst] (h0 := by first | rfl | simp +decide only [ak, akF, b33, b45]) (h := by first | rfl | (simp +decide only [ak, akF, b33, b45]; done) | (simp +decide [ak, akF, b33, b45] <;> omega))) (ih _ _ _ _ _ _ _ _ h K hx0)
 ·replace c29 := of_decide_eq_false c29; rw [if_neg c29] at h
  obtain rfl := Option.some.inj h
  refine gh_k (wk [9, 10] [pI (.arg 0) .fz, pI (.tmp 28 0) .box, pI (.tmp 10 20) .lst]) ?_
  refine G0x _ _ ?_
  exact hx0
theorem impl_reorderAfter.tri0 (cs0 : List Cell) (o0 : Nat) (l2 : List S116) (hv0 : Vw c116 4 cs0 o0 l2) (a0 : Int) (a1 : Int) (r : (Option (Int × (List Int) × (List Bool) × Int × Bool × Int)) × (List S118) × Int) (h : impl_reorderAfter.f a0 a1 l2 = some r) (hp : r.1 = none) : Tri Try.prog 102 [.c (.sc (.int .u64 a0)), .c (.sc (.int .i64 a1)), .c (.ref (.arg 0) [] o0 l2.length)] [(.arg 0, ⟨.fz, 4, cs0⟩)] (fun o => o = ⟨.tup [(false, [.sc (.pointer none)]), (false, [.ref (.res 0) [] 0 r.2.1.length]), (false, [.sc (.int .i64 r.2.2)])], [(.arg 0, ⟨.fz, 4, cs0⟩), (.res 0, ⟨.lst, 3, encL c118 r.2.1⟩)], [], []⟩) := by
 refine tri_of_body (ac := C102) (xs := r102) Try.func102 (show Try.f102.body = some (Try.f102.body.getD .skip) from rfl) k102 q102 (Nat.le_of_ble_eq_true rfl) ?_
 refine body_of fun K hKn hKr => ?_
 unfold impl_reorderAfter.f at h
 unfold C102
 simp only [initT, Nat.reduceAdd]
 refine sr_k fun J1 hJ1 => ?_
 simp +decide only [Nat.reduceAdd, Nat.reduceMul, Int.reduceToNat, ak]
 refine gho_k (Weak.nm' 7 (.tmp 7 20) 3 (encL c118 ([] : List S118)) rfl rfl rfl) ?_
 simp +decide only [Nat.reduceAdd, Nat.reduceMul, Int.reduceToNat, ak]
 refine hJ1 _ ?_
 refine seq_k fun J2 hJ2 => ?_
 obtain ⟨j3, h4, hn⟩ := of_bind h
 refine seq_j (fun st => st = ⟨[(0, .c (.sc (.int .u64 a0))), (1, .c (.sc (.int .i64 a1))), (2, .c (.ref (.arg 0) [] o0 l2.length)), (22, .c (.sc (.bool j3)))], [(.arg 0, ⟨.fz, 4, cs0⟩)], [], []⟩) (fun J5 hJ5 => ?_) ?_
 ·replace h := h4; clear hn
  refine ga_k fun G6 G6n G6r G6x => ?_
  refine reg_k ?_
  simp +decide only [Nat.reduceAdd, Nat.reduceMul, Int.reduceToNat, ak]
  by_cases c7 : a0 > 4611686018427387904
  ·rw [if_pos c7] at h
   have e8 : decide (a0 > 4611686018427387904) = true := decide_eq_true c7
   simp +decide only [Nat.reduceAdd, Nat.reduceMul, Int.reduceToNat, ak, e8]
   obtain rfl := Option.some.inj h
   refine G6n _ _ (wk [0, 1, 2, 22] [pI (.arg 0) .fz] (h0 := by first | rfl | simp +decide only [ak, akF, e8]) (h := by first | rfl | (simp +decide only [ak, akF, e8]; done) | (simp +decide [ak, akF, e8] <;> omega))) (hJ5 _ rfl)
  ·rw [if_neg c7] at h
   have e9 : decide (a0 > 4611686018427387904) = false := decide_eq_false c7
   simp +decide only [Nat.reduceAdd, Nat.reduceMul, Int.reduceToNat, ak, e9]
   by_cases c10 : a1 < 1
   ·rw [if_pos c10] at h
    have e11 : decide (a1 < 1) = true := decide_eq_true c10
    simp +decide only [Nat.reduceAdd, Nat.reduceMul, Int.reduceToNat, ak, e11]
    obtain rfl := Option.some.inj h
    refine G6n _ _ (wk [0, 1, 2, 22] [pI (.arg 0) .fz] (h0 := by first | rfl | simp +decide only [ak, akF, e9, e11]) (h := by first | rfl | (simp +decide only [ak, akF, e9, e11]; done) | (simp +decide [ak, akF, e9, e11] <;> omega))) (hJ5 _ rfl)
   ·rw [if_neg c10] at h
    have e12 : decide (a1 < 1) = false := decide_eq_false c10
    simp +decide only [Nat.reduceAdd, Nat.reduceMul, Int.reduceToNat, ak, e12]
    obtain rfl := Option.some.inj h
    refine G6n _ _ (wk [0, 1, 2, 22] [pI (.arg 0) .fz] (h0 := by first | rfl | simp +decide only [ak, akF, e9, e12]) (h := by first | rfl | (simp +decide only [ak, akF, e9, e12]; done) | (simp +decide [ak, akF, e9, e12] <;> omega))) (hJ5 _ rfl)
 ·replace h := hn; clear hn h4
  rintro _ rfl
  refine cond_k (b := j3) rfl (fun c13 => ?_) (fun c13 => ?_)
  ·rw [if_pos c13] at h
   refine sr_k fun J14 hJ14 => ?_
   simp +decide only [Nat.reduceAdd, Nat.reduceMul, Int.reduceToNat, ak]
   refine gho_k (Weak.nm' 7 (.tmp 7 20) 3 (encL c118 ([] : List S118)) rfl rfl rfl) ?_
   simp +decide only [Nat.reduceAdd, Nat.reduceMul, Int.reduceToNat, ak]
   refine hJ14 _ ?_
   obtain rfl := Option.some.inj h
   refine hKr _ ⟨_, rfl, [⟨(.tmp 7 20), [], none, .lst⟩], _, rfl, rfl, ?_⟩
   first | rfl | (simp only [reduceCtorEq, Nat.reduceEqDiff, ak, akF]; done) | (simp [reduceCtorEq, Nat.reduceEqDiff, ak, akF] <;> omega)
  ·rw [if_neg (Bool.eq_false_iff.1 c13)] at h
   refine hJ2 _ ?_
   refine seq_k fun J15 hJ15 => ?_
   refine sr_k fun J16 hJ16 => ?_
   simp +decide only [Nat.reduceAdd, Nat.reduceMul, Int.reduceToNat, ak]
   refine hJ16 _ ?_
   refine cond_k (b := decide ((l2.length : Int) > 4000)) rfl (fun c17 => ?_) (fun c17 => ?_)
   ·replace c17 := of_decide_eq_true c17; rw [if_pos c17] at h
    refine sr_k fun J18 hJ18 => ?_
    simp +decide only [Nat.reduceAdd, Nat.reduceMul, Int.reduceToNat, ak]
    refine gho_k (Weak.nm' 7 (.tmp 7 20) 3 (encL c118 ([] : List S118)) rfl rfl rfl) ?_
    simp +decide only [Nat.reduceAdd, Nat.reduceMul, Int.reduceToNat, ak]
    refine hJ18 _ ?_
    obtain rfl := Option.some.inj h
    refine hKr _ ⟨_, rfl, [⟨(.tmp 7 20), [], none, .lst⟩], _, rfl, rfl, ?_⟩
    first | rfl | (simp only [reduceCtorEq, Nat.reduceEqDiff, ak, akF]; done) | (simp [reduceCtorEq, Nat.reduceEqDiff, ak, akF] <;> omega)
   ·replace c17 := of_decide_eq_false c17; rw [if_neg c17] at h
    refine hJ15 _ ?_
    refine sr_k fun J19 hJ19 => ?_
    simp +decide only [Nat.reduceAdd, Nat.reduceMul, Int.reduceToNat, ak]
    obtain ⟨t20, h21, h⟩ := of_bind h
    refine call_m [] (s0 := []) (by intro t ht; cases ht; decide) rfl rfl (by first | rfl | simp only [reduceCtorEq, Nat.reduceEqDiff, ak, akF]) (impl_newBuffer.tri a0 a1 _ h21) (by first | rfl | simp only [reduceCtorEq, Nat.reduceEqDiff, ak, akF]) (by simp [bkOk2, memK]) (fun hl21 => ?_)
    refine call_st (s4 := [(.arg 0, ⟨.fz, 4, cs0⟩), (.tmp 28 0, ⟨.box, 0, [.sc (.int .u64 t20.1), .own 1 t20.2.1.length (encL c_u8 t20.2.1), .own 1 t20.2.2.1.length (encL c_bool t20.2.2.1), .sc (.int .u64 t20.2.2.2.1), .sc (.bool t20.2.2.2.2.1), .sc (.int .u64 t20.2.2.2.2.2)]⟩)]) (m1' := []) (m2' := []) (v' := .c (.ptr (.tmp 28 0) [] 0)) (Sto.mapN_killNil _ _) (mrgL_nil' _ _ _) (by rfl) (mapT_killNil _ _) (by rfl) (by rfl) (by first | rfl | simp only [reduceCtorEq, Nat.reduceEqDiff, ak, akF, Nat.zero_add, List.append_nil]) ?_
    simp +decide only [Nat.reduceAdd, Nat.reduceMul, Int.reduceToNat, ak]
    refine hJ19 _ ?_
    refine sr_k fun J23 hJ23 => ?_
    simp +decide only [Nat.reduceAdd, Nat.reduceMul, Int.reduceToNat, ak]
    refine gho_k (Weak.nm' 10 (.tmp 10 20) 3 (encL c118 ([] : List S118)) rfl rfl rfl) ?_
    simp +decide only [Nat.reduceAdd, Nat.reduceMul, Int.reduceToNat, ak]
    refine hJ23 _ ?_
    refine seq_k fun J24 hJ24 => ?_
    refine sr_k fun J25 hJ25 => ?_
    simp +decide only [Nat.reduceAdd, Nat.reduceMul, Int.reduceToNat, ak]
    refine hJ25 _ ?_
    refine block_k fun B26 B26n B26x B26r B26j => ?_
    obtain ⟨y49, h50, h⟩ := of_bind h
    refine gh_k (st' := ⟨[(9, .c (.ptr (.tmp 28 0) [] 0)), (10, .c (.ref (.tmp 10 20) [] 0 (([] : List S118).length))), (29, .c (.ref (.arg 0) [] o0 l2.length)), (30, .c (.sc (.int .i64 (l2.length : Int)))), (31, .c (.sc (.int .i64 0)))], [(.arg 0, ⟨.fz, 4, cs0⟩), (.tmp 28 0, ⟨.box, 0, [.sc (.int .u64 t20.1), .own 1 t20.2.1.length (encL c_u8 t20.2.1), .own 1 t20.2.2.1.length (encL c_bool t20.2.2.1), .sc (.int .u64 t20.2.2.2.1), .sc (.bool t20.2.2.2.2.1), .sc (.int .u64 t20.2.2.2.2.2)]⟩), (.tmp 10 20, ⟨.lst, 3, encL c118 ([] : List S118)⟩)], [], []⟩) (wk [9, 10, 29, 30, 31] [pI (.arg 0) .fz, pI (.tmp 28 0) .box, pI (.tmp 10 20) .lst] (h := by first | rfl | (simp +decide only [ak, akF]; done) | (simp +decide [ak, akF] <;> omega))) ?_
    rw [e_loop]
    refine impl_reorderAfter.l0_walk cs0 o0 l2 hv0 (l2.length : Int) t20.1 0 t20.2.1 t20.2.2.1 t20.2.2.2.1 t20.2.2.2.2.1 t20.2.2.2.2.2 ([] : List S118) _ h50 _ ?_
    refine B26x _ ?_
    refine hJ24 _ ?_
    refine sr_k fun J51 hJ51 => ?_
    simp +decide only [Nat.reduceAdd, Nat.reduceMul, Int.reduceToNat, ak]
    refine hJ51 _ ?_
    obtain rfl := Option.some.inj h
    exact absurd hp (by simp)
theorem impl_reorderAfter.tri1 (cs0 : List Cell) (o0 : Nat) (l2 : List S116) (hv0 : Vw c116 4 cs0 o0 l2) (a0 : Int) (a1 : Int) (r : (Option (Int × (List Int) × (List Bool) × Int × Bool × Int)) × (List S118) × Int) (h : impl_reorderAfter.f a0 a1 l2 = some r) (p : Int × (List Int) × (List Bool) × Int × Bool × Int) (hp : r.1 = some p) : Tri Try.prog 102 [.c (.sc (.int .u64 a0)), .c (.sc (.int .i64 a1)), .c (.ref (.arg 0) [] o0 l2.length)] [(.arg 0, ⟨.fz, 4, cs0⟩)] (fun o => o = ⟨.tup [(false, [.ptr (.res 0) [] 0]), (false, [.ref (.res 1) [] 0 r.2.1.length]), (false, [.sc (.int .i64 r.2.2)])], [(.arg 0, ⟨.fz, 4, cs0⟩), (.res 0, ⟨.box, 0, [.sc (.int .u64 p.1), .own 1 p.2.1.length (encL c_u8 p.2.1), .own 1 p.2.2.1.length (encL c_bool p.2.2.1), .sc (.int .u64 p.2.2.2.1), .sc (.bool p.2.2.2.2.1), .sc (.int .u64 p.2.2.2.2.2)]⟩), (.res 1, ⟨.lst, 3, encL c118 r.2.1⟩)], [], []⟩) := by
 refine tri_of_body (ac := C102) (xs := r102) Try.func102 (show Try.f102.body = some (Try.f102.body.getD .skip) from rfl) k102 q102 (Nat.le_of_ble_eq_true rfl) ?_
 refine body_of fun K hKn hKr => ?_
 unfold impl_reorderAfter.f at h
 unfold C102
 simp only [initT, Nat.reduceAdd]
 refine sr_k fun J1 hJ1 => ?_
 simp +decide only [Nat.reduceAdd, Nat.reduceMul, Int.reduceToNat, ak]
 refine gho_k (Weak.nm' 7 (.tmp 7 20) 3 (encL c118 ([] : List S118)) rfl rfl rfl) ?_
 simp +decide only [Nat.reduceAdd, Nat.reduceMul, Int.reduceToNat, ak]
 refine hJ1 _ ?_
 refine seq_k fun J2 hJ2 => ?_
 obtain ⟨j3, h4, hn⟩ := of_bind h
 refine seq_j (fun st => st = ⟨[(0, .c (.sc (.int .u64 a0))), (1, .c (.sc (.int .i64 a1))), (2, .c (.ref (.arg 0) [] o0 l2.length)), (22, .c (.sc (.bool j3)))], [(.arg 0, ⟨.fz, 4, cs0⟩)], [], []⟩) (fun J5 hJ5 => ?_) ?_
 ·replace h := h4; clear hn
  refine ga_k fun G6 G6n G6r G6x => ?_
  refine reg_k ?_
  simp +decide only [Nat.reduceAdd, Nat.reduceMul, Int.reduceToNat, ak]
  by_cases c7 : a0 > 4611686018427387904
  ·rw [if_pos c7] at h
   have e8 : decide (a0 > 4611686018427387904) = true := decide_eq_true c7
   simp +decide only [Nat.reduceAdd, Nat.reduceMul, Int.reduceToNat, ak, e8]
   obtain rfl := Option.some.inj h
   refine G6n _ _ (wk [0, 1, 2, 22] [pI (.arg 0) .fz] (h0 := by first | rfl | simp +decide only [ak, akF, e8]) (h := by first | rfl | (simp +decide only [ak, akF, e8]; done) | (simp +decide [ak, akF, e8] <;> omega))) (hJ5 _ rfl)
  ·rw [if_neg c7] at h
   have e9 : decide (a0 > 4611686018427387904) = false := decide_eq_false c7
   simp +decide only [Nat.reduceAdd, Nat.reduceMul, Int.reduceToNat, ak, e9]
   by_cases c10 : a1 < 1
   ·rw [if_pos c10] at h
    have e11 : decide (a1 < 1) = true := decide_eq_true c10
    simp +decide only [Nat.reduceAdd, Nat.reduceMul, Int.reduceToNat, ak, e11]
    obtain rfl := Option.some.inj h
    refine G6n _ _ (wk [0, 1, 2, 22] [pI (.arg 0) .fz] (h0 := by first | rfl | simp +decide only [ak, akF, e9, e11]) (h := by first | rfl | (simp +decide only [ak, akF, e9, e11]; done) | (simp +decide [ak, akF, e9, e11] <;> omega))) (hJ5 _ rfl)
   ·rw [if_neg c10] at h
    have e12 : decide (a1 < 1) = false := decide_eq_false c10
    simp +decide only [Nat.reduceAdd, Nat.reduceMul, Int.reduceToNat, ak, e12]
    obtain rfl := Option.some.inj h
    refine G6n _ _ (wk [0, 1, 2, 22] [pI (.arg 0) .fz] (h0 := by first | rfl | simp +decide only [ak, akF, e9, e12]) (h := by first | rfl | (simp +decide only [ak, akF, e9, e12]; done) | (simp +decide [ak, akF, e9, e12] <;> omega))) (hJ5 _ rfl)
 ·replace h := hn; clear hn h4
  rintro _ rfl
  refine cond_k (b := j3) rfl (fun c13 => ?_) (fun c13 => ?_)
  ·rw [if_pos c13] at h
   refine sr_k fun J14 hJ14 => ?_
   simp +decide only [Nat.reduceAdd, Nat.reduceMul, Int.reduceToNat, ak]
   refine gho_k (Weak.nm' 7 (.tmp 7 20) 3 (encL c118 ([] : List S118)) rfl rfl rfl) ?_
   simp +decide only [Nat.reduceAdd, Nat.reduceMul, Int.reduceToNat, ak]
   refine hJ14 _ ?_
   obtain rfl := Option.some.inj h
   exact absurd hp (by simp)
  ·rw [if_neg (Bool.eq_false_iff.1 c13)] at h
   refine hJ2 _ ?_
   refine seq_k fun J15 hJ15 => ?_
   refine sr_k fun J16 hJ16 => ?_
   simp +decide only [Nat.reduceAdd, Nat.reduceMul, Int.reduceToNat, ak]
   refine hJ16 _ ?_
   refine cond_k (b := decide ((l2.length : Int) > 4000)) rfl (fun c17 => ?_) (fun c17 => ?_)
   ·replace c17 := of_decide_eq_true c17; rw [if_pos c17] at h
    refine sr_k fun J18 hJ18 => ?_
    simp +decide only [Nat.reduceAdd, Nat.reduceMul, Int.reduceToNat, ak]
    refine gho_k (Weak.nm' 7 (.tmp 7 20) 3 (encL c118 ([] : List S118)) rfl rfl rfl) ?_
    simp +decide only [Nat.reduceAdd, Nat.reduceMul, Int.reduceToNat, ak]
    refine hJ18 _ ?_
    obtain rfl := Option.some.inj h
    exact absurd hp (by simp)
   ·replace c17 := of_decide_eq_false c17; rw [if_neg c17] at h
    refine hJ15 _ ?_
    refine sr_k fun J19 hJ19 => ?_
    simp +decide only [Nat.reduceAdd, Nat.reduceMul, Int.reduceToNat, ak]
    obtain ⟨t20, h21, h⟩ := of_bind h
    refine call_m [] (s0 := []) (by intro t ht; cases ht; decide) rfl rfl (by first | rfl | simp only [reduceCtorEq, Nat.reduceEqDiff, ak, akF]) (impl_newBuffer.tri a0 a1 _ h21) (by first | rfl | simp only [reduceCtorEq, Nat.reduceEqDiff, ak, akF]) (by simp [bkOk2, memK]) (fun hl21 => ?_)
    refine call_st (s4 := [(.arg 0, ⟨.fz, 4, cs0⟩), (.tmp 28 0, ⟨.box, 0, [.sc (.int .u64 t20.1), .own 1 t20.2.1.length (encL c_u8 t20.2.1), .own 1 t20.2.2.1.length (encL c_bool t20.2.2.1), .sc (.int .u64 t20.2.2.2.1), .sc (.bool t20.2.2.2.2.1), .sc (.int .u64 t20.2.2.2.2.2)]⟩)]) (m1' := []) (m2' := []) (v' := .c (.ptr (.tmp 28 0) [] 0)) (Sto.mapN_killNil _ _) (mrgL_nil' _ _ _) (by rfl) (mapT_killNil _ _) (by rfl) (by rfl) (by first | rfl | simp only [reduceCtorEq, Nat.reduceEqDiff, ak, akF, Nat.zero_add, List.append_nil]) ?_
    simp +decide only [Nat.reduceAdd, Nat.reduceMul, Int.reduceToNat, ak]
    refine hJ19 _ ?_
    refine sr_k fun J23 hJ23 => ?_
    simp +decide only [Nat.reduceAdd, Nat.reduceMul, Int.reduceToNat, ak]
    refine gho_k (Weak.nm' 10 (.tmp 10 20) 3 (encL c118 ([] : List S118)) rfl rfl rfl) ?_
    simp +decide only [Nat.reduceAdd, Nat.reduceMul, Int.reduceToNat, ak]
    refine hJ23 _ ?_
    refine seq_k fun J24 hJ24 => ?_
    refine sr_k fun J25 hJ25 => ?_
    simp +decide only [Nat.reduceAdd, Nat.reduceMul, Int.reduceToNat, ak]
    refine hJ25 _ ?_
    refine block_k fun B26 B26n B26x B26r B26j => ?_
    obtain ⟨y49, h50, h⟩ := of_bind h
    refine gh_k (st' := ⟨[(9, .c (.ptr (.tmp 28 0) [] 0)), (10, .c (.ref (.tmp 10 20) [] 0 (([] : List S118).length))), (29, .c (.ref (.arg 0) [] o0 l2.length)), (30, .c (.sc (.int .i64 (l2.length : Int)))), (31, .c (.sc (.int .i64 0)))], [(.arg 0, ⟨.fz, 4, cs0⟩), (.tmp 28 0, ⟨.box, 0, [.sc (.int .u64 t20.1), .own 1 t20.2.1.length (encL c_u8 t20.2.1), .own 1 t20.2.2.1.length (encL c_bool t20.2.2.1), .sc (.int .u64 t20.2.2.2.1), .sc (.bool t20.2.2.2.2.1), .sc (.int .u64 t20.2.2.2.2.2)]⟩), (.tmp 10 20, ⟨.lst, 3, encL c118 ([] : List S118)⟩)], [], []⟩) (wk [9, 10, 29, 30, 31] [pI (.arg 0) .fz, pI (.tmp 28 0) .box, pI (.tmp 10 20) .lst] (h := by first | rfl | (simp +decide only [ak, akF]; done) | (simp +decide [ak, akF] <;> omega))) ?_
    rw [e_loop]
    refine impl_reorderAfter.l0_walk cs0 o0 l2 hv0 (l2.length : Int) t20.1 0 t20.2.1 t20.2.2.1 t20.2.2.2.1 t20.2.2.2.2.1 t20.2.2.2.2.2 ([] : List S118) _ h50 _ ?_
    refine B26x _ ?_
    refine hJ24 _ ?_
    refine sr_k fun J51 hJ51 => ?_
    simp +decide only [Nat.reduceAdd, Nat.reduceMul, Int.reduceToNat, ak]
    refine hJ51 _ ?_
    obtain rfl := Option.some.inj h
    obtain rfl := Option.some.inj hp
    refine hKr _ ⟨_, rfl, [⟨(.tmp 28 0), [], none, .box⟩, ⟨(.tmp 10 20), [], none, .lst⟩], _, rfl, rfl, ?_⟩
    first | rfl | (simp only [reduceCtorEq, Nat.reduceEqDiff, ak, akF]; done) | (simp [reduceCtorEq, Nat.reduceEqDiff, ak, akF] <;> omega)
/-! ### impl.ReorderRun: function 50 -/
def C50 : AC := .seq (.reg [.op none (.mv 6 (.const (.slice none 0 0))), .gh, .op none (.mv 7 (.const (.int .i64 0))), .keep [0, 1, 2]]) (.seq (.reg [.op none (.mv 12 (.tmp 0)), .op none (.mv 13 (.tmp 1)), .op none (.mv 14 (.tmp 2)), .call none (some 15) 102 [.tmp 12, .tmp 13, .tmp 14], .op none (.mv 11 (.tmp 15)), .op none (.extr 16 (.tmp 11) 0), .op none (.extr 17 (.tmp 11) 1), .op none (.extr 18 (.tmp 11) 2), .op none (.mv 8 (.tmp 16)), .op none (.mv 9 (.tmp 17)), .op none (.mv 10 (.tmp 18)), .keep [9, 10]]) (.seq (.reg [.op none (.mv 19 (.tmp 9)), .op none (.mv 20 (.tmp 10)), .op none (.mv 6 (.tmp 19)), .op none (.mv 7 (.tmp 20)), .keep [6, 7]]) (.ret)))
def r50 : List RV := [.tmp 6, .tmp 7]
theorem k50 : compC Try.prog 21 C50 (Try.f50.body.getD .skip) = some C50.erase := by kernel_rfl
theorem q50 : rvsOf Try.prog Try.f50.results.toList = some r50 := by kernel_rfl
def impl_ReorderRun.f (a0 : Int) (a1 : Int) (l2 : List S116) : Option ((List S118) × Int) := (impl_reorderAfter.f a0 a1 l2 >>= fun t3 => (match t3.1 with | none => (some (t3.2.1, t3.2.2)) | some p7 => (some (t3.2.1, t3.2.2))))
theorem impl_ReorderRun.tri (cs0 : List Cell) (o0 : Nat) (l2 : List S116) (hv0 : Vw c116 4 cs0 o0 l2) (a0 : Int) (a1 : Int) (r : (List S118) × Int) (h : impl_ReorderRun.f a0 a1 l2 = some r) : Tri Try.prog 50 [.c (.sc (.int .u64 a0)), .c (.sc (.int .i64 a1)), .c (.ref (.arg 0) [] o0 l2.length)] [(.arg 0, ⟨.fz, 4, cs0⟩)] (fun o => o = ⟨.tup [(false, [.ref (.res 0) [] 0 r.1.length]), (false, [.sc (.int .i64 r.2)])], [(.arg 0, ⟨.fz, 4, cs0⟩), (.res 0, ⟨.lst, 3, encL c118 r.1⟩)], [], []⟩) := by
 refine tri_of_body (ac := C50) (xs := r50) Try.func50 (show Try.f50.body = some (Try.f50.body.getD .skip) from rfl) k50 q50 (Nat.le_of_ble_eq_true rfl) ?_
 refine body_of fun K hKn hKr => ?_
 unfold impl_ReorderRun.f at h
 unfold C50
 simp only [initT, Nat.reduceAdd]
 refine sr_k fun J1 hJ1 => ?_
 simp +decide only [Nat.reduceAdd, Nat.reduceMul, Int.reduceToNat, ak]
 refine gho_k (Weak.nm' 6 (.tmp 6 20) 3 (encL c118 ([] : List S118)) rfl rfl rfl) ?_
 simp +decide only [Nat.reduceAdd, Nat.reduceMul, Int.reduceToNat, ak]
 refine hJ1 _ ?_
 refine sr_k fun J2 hJ2 => ?_
 simp +decide only [Nat.reduceAdd, Nat.reduceMul, Int.reduceToNat, ak]
 obtain ⟨t3, h4, h⟩ := of_bind h
 rcases hpo : t3.1 with _ | p7
 ·have hpp5 := hpo
  rw [hpo] at h; dsimp only at h
  refine call_m [(.arg 0, ⟨(.arg 0), [], none, .fz⟩)] (s0 := [(.arg 0, ⟨.fz, 4, cs0⟩)]) (by intro t ht; cases ht; decide) rfl rfl (by first | rfl | simp only [reduceCtorEq, Nat.reduceEqDiff, ak, akF]) (impl_reorderAfter.tri0 (cs0) o0 l2 hv0 a0 a1 _ h4 hpp5) (by first | rfl | simp only [reduceCtorEq, Nat.reduceEqDiff, ak, akF]) (by simp [bkOk2, memK]) (fun hl5 => ?_)
  refine call_st (s4 := [(.arg 0, ⟨.fz, 4, cs0⟩), (.tmp 6 20, ⟨.lst, 3, encL c118 ([] : List S118)⟩), (.tmp 15 0, ⟨.lst, 3, encL c118 t3.2.1⟩)]) (m1' := []) (m2' := []) (v' := .tup [(false, [.sc (.pointer none)]), (false, [.ref (.tmp 15 0) [] 0 t3.2.1.length]), (false, [.sc (.int .i64 t3.2.2)])]) (Sto.mapN_killNil _ _) (mrgL_fz (mrgL_nil' _ _ _) rfl (by first | rfl | simp only [reduceCtorEq, Nat.reduceEqDiff, ak]) rfl (by intro R hR hh; cases hR; cases hh.2)) (by rfl) (mapT_killNil _ _) (by rfl) (by rfl) (by first | rfl | simp only [reduceCtorEq, Nat.reduceEqDiff, ak, akF, Nat.zero_add, List.append_nil]) ?_
  simp +decide only [Nat.reduceAdd, Nat.reduceMul, Int.reduceToNat, ak]
  refine hJ2 _ ?_
  refine sr_k fun J9 hJ9 => ?_
  simp +decide only [Nat.reduceAdd, Nat.reduceMul, Int.reduceToNat, ak]
  refine hJ9 _ ?_
  obtain rfl := Option.some.inj h
  refine hKr _ ⟨_, rfl, [⟨(.tmp 15 0), [], none, .lst⟩], _, rfl, rfl, ?_⟩
  first | rfl | (simp only [reduceCtorEq, Nat.reduceEqDiff, ak, akF]; done) | (simp [reduceCtorEq, Nat.reduceEqDiff, ak, akF] <;> omega)
 ·have hpp7 := hpo
  rw [hpo] at h; dsimp only at h
  refine call_m [(.arg 0, ⟨(.arg 0), [], none, .fz⟩)] (s0 := [(.arg 0, ⟨.fz, 4, cs0⟩)]) (by intro t ht; cases ht; decide) rfl rfl (by first | rfl | simp only [reduceCtorEq, Nat.reduceEqDiff, ak, akF]) (impl_reorderAfter.tri1 (cs0) o0 l2 hv0 a0 a1 _ h4 _ hpp7) (by first | rfl | simp only [reduceCtorEq, Nat.reduceEqDiff, ak, akF]) (by simp [bkOk2, memK]) (fun hl7 => ?_)
  refine call_st (s4 := [(.arg 0, ⟨.fz, 4, cs0⟩), (.tmp 6 20, ⟨.lst, 3, encL c118 ([] : List S118)⟩), (.tmp 15 1, ⟨.lst, 3, encL c118 t3.2.1⟩), (.tmp 15 0, ⟨.box, 0, [.sc (.int .u64 p7.1), .own 1 p7.2.1.length (encL c_u8 p7.2.1), .own 1 p7.2.2.1.length (encL c_bool p7.2.2.1), .sc (.int .u64 p7.2.2.2.1), .sc (.bool p7.2.2.2.2.1), .sc (.int .u64 p7.2.2.2.2.2)]⟩)]) (m1' := []) (m2' := []) (v' := .tup [(false, [.ptr (.tmp 15 0) [] 0]), (false, [.ref (.tmp 15 1) [] 0 t3.2.1.length]), (false, [.sc (.int .i64 t3.2.2)])]) (Sto.mapN_killNil _ _) (mrgL_fz (mrgL_nil' _ _ _) rfl (by first | rfl | simp only [reduceCtorEq, Nat.reduceEqDiff, ak]) rfl (by intro R hR hh; cases hR; cases hh.2)) (by rfl) (mapT_killNil _ _) (by rfl) (by rfl) (by first | rfl | simp only [reduceCtorEq, Nat.reduceEqDiff, ak, akF, Nat.zero_add, List.append_nil]) ?_
  simp +decide only [Nat.reduceAdd, Nat.reduceMul, Int.reduceToNat, ak]
  refine hJ2 _ ?_
  refine sr_k fun J10 hJ10 => ?_
  simp +decide only [Nat.reduceAdd, Nat.reduceMul, Int.reduceToNat, ak]
  refine hJ10 _ ?_
  obtain rfl := Option.some.inj h
  refine hKr _ ⟨_, rfl, [⟨(.tmp 15 1), [], none, .lst⟩], _, rfl, rfl, ?_⟩
  first | rfl | (simp only [reduceCtorEq, Nat.reduceEqDiff, ak, akF]; done) | (simp [reduceCtorEq, Nat.reduceEqDiff, ak, akF] <;> omega)
/-! ### impl.mark: function 88 -/
def C88 : AC := .seq (.reg [.op none (.mv 2 (.const (.int .i64 0))), .keep [0]]) (.seq (.seq (.reg [.op none (.mv 3 (.tmp 0)), .keep [3]]) (.cond (.tmp 3) (.seq (.reg [.op none (.mv 2 (.const (.int .i64 1))), .keep [2]]) (.ret)) (.skip))) (.seq (.reg [.op none (.mv 2 (.const (.int .i64 0))), .keep [2]]) (.ret)))
def r88 : List RV := [.tmp 2]
theorem k88 : compC Try.prog 4 C88 (Try.f88.body.getD .skip) = some C88.erase := by kernel_rfl
theorem q88 : rvsOf Try.prog Try.f88.results.toList = some r88 := by kernel_rfl
def impl_mark.f (a0 : Bool) : Option Int := (if a0 = true then (some 1) else (some 0))
theorem impl_mark.tri (a0 : Bool) (r : Int) (h : impl_mark.f a0 = some r) : Tri Try.prog 88 [.c (.sc (.bool a0))] [] (fun o => o = ⟨.c (.sc (.int .i64 r)), [], [], []⟩) := by
 refine tri_of_body (ac := C88) (xs := r88) Try.func88 (show Try.f88.body = some (Try.f88.body.getD .skip) from rfl) k88 q88 (Nat.le_of_ble_eq_true rfl) ?_
 refine body_of fun K hKn hKr => ?_
 unfold impl_mark.f at h
 unfold C88
 simp only [initT, Nat.reduceAdd]
 refine sr_k fun J1 hJ1 => ?_
 simp +decide only [Nat.reduceAdd, Nat.reduceMul, Int.reduceToNat, ak]
 refine hJ1 _ ?_
 refine seq_k fun J2 hJ2 => ?_
 refine sr_k fun J3 hJ3 => ?_
 simp +decide only [Nat.reduceAdd, Nat.reduceMul, Int.reduceToNat, ak]
 refine hJ3 _ ?_
 refine cond_k (b := a0) rfl (fun c4 => ?_) (fun c4 => ?_)
 ·rw [if_pos c4] at h
  refine sr_k fun J5 hJ5 => ?_
  simp +decide only [Nat.reduceAdd, Nat.reduceMul, Int.reduceToNat, ak]
  refine hJ5 _ ?_
  obtain rfl := Option.some.inj h
  refine hKr _ ⟨_, rfl, [], _, rfl, rfl, ?_⟩
  first | rfl | (simp only [reduceCtorEq, Nat.reduceEqDiff, ak, akF]; done) | (simp [reduceCtorEq, Nat.reduceEqDiff, ak, akF] <;> omega)
 ·rw [if_neg (Bool.eq_false_iff.1 c4)] at h
  refine hJ2 _ ?_
  refine sr_k fun J6 hJ6 => ?_
  simp +decide only [Nat.reduceAdd, Nat.reduceMul, Int.reduceToNat, ak]
  refine hJ6 _ ?_
  obtain rfl := Option.some.inj h
  refine hKr _ ⟨_, rfl, [], _, rfl, rfl, ?_⟩
  first | rfl | (simp only [reduceCtorEq, Nat.reduceEqDiff, ak, akF]; done) | (simp [reduceCtorEq, Nat.reduceEqDiff, ak, akF] <;> omega)
/-! ### impl.spanHi: function 145 -/
def C145 : AC := .seq (.reg [.op none (.box 1 (.tmp 0)), .op none (.mv 2 (.const (.int .u64 0))), .keep [1]]) (.seq (.reg [.op none (.faddr 3 1 (.tmp 1)), .op none (.load 4 false 1 (.tmp 3)), .op none (.mv 2 (.tmp 4)), .keep [2]]) (.ret))
def r145 : List RV := [.tmp 2]
theorem k145 : compC Try.prog 5 C145 (Try.f145.body.getD .skip) = some C145.erase := by kernel_rfl
theorem q145 : rvsOf Try.prog Try.f145.results.toList = some r145 := by kernel_rfl
def impl_spanHi.f (a0_0 : Int) (a0_1 : Int) : Option Int := (some a0_1)
theorem impl_spanHi.tri (a0_0 : Int) (a0_1 : Int) (r : Int) (h : impl_spanHi.f a0_0 a0_1 = some r) : Tri Try.prog 145 [.g [.sc (.int .u64 a0_0), .sc (.int .u64 a0_1)]] [] (fun o => o = ⟨.c (.sc (.int .u64 r)), [], [], []⟩) := by
 refine tri_of_body (ac := C145) (xs := r145) Try.func145 (show Try.f145.body = some (Try.f145.body.getD .skip) from rfl) k145 q145 (Nat.le_of_ble_eq_true rfl) ?_
 refine body_of fun K hKn hKr => ?_
 unfold impl_spanHi.f at h
 unfold C145
 simp only [initT, Nat.reduceAdd]
 refine sr_k fun J1 hJ1 => ?_
 simp +decide only [Nat.reduceAdd, Nat.reduceMul, Int.reduceToNat, ak]
 refine hJ1 _ ?_
 refine sr_k fun J2 hJ2 => ?_
 simp +decide only [Nat.reduceAdd, Nat.reduceMul, Int.reduceToNat, ak]
 refine hJ2 _ ?_
 obtain rfl := Option.some.inj h
 refine hKr _ ⟨_, rfl, [], _, rfl, rfl, ?_⟩
 first | rfl | (simp only [reduceCtorEq, Nat.reduceEqDiff, ak, akF]; done) | (simp [reduceCtorEq, Nat.reduceEqDiff, ak, akF] <;> omega)
/-! ### impl.place[impl.Span,uint64]: function 144 -/
def C144v2f145_l0 : AC := .seq (.seq (.reg [.op none (.mv 12 (.tmp 7)), .op none (.mv 13 (.tmp 8)), .op none (.bin 14 .lss (.tmp 12) (.tmp 13)), .keep [0, 1, 2, 7, 8, 14]]) (.cond (.tmp 14) (.skip) (.gh (.exit 0)))) (.block 1 (.seq (.reg [.op none (.mv 15 (.tmp 7)), .op none (.mv 16 (.tmp 8)), .op none (.bin 17 .add (.tmp 15) (.tmp 16)), .op none (.bin 18 .quo (.tmp 17) (.const (.int .i64 2))), .op none (.mv 9 (.tmp 18)), .keep [0, 1, 2, 7, 8, 9]]) (.seq (.reg [.op none (.mv 19 (.tmp 2)), .op none (.mv 20 (.tmp 0)), .op none (.mv 21 (.tmp 9)), .op none (.iaddr 22 2 (.tmp 20) (.tmp 21)), .op none (.load 23 true 2 (.tmp 22)), .callv none (some 24) (.value (.tmp 19)) [.tmp 23], .op none (.mv 25 (.tmp 1)), .op none (.bin 26 .lss (.tmp 24) (.tmp 25)), .keep [0, 1, 2, 7, 8, 9, 26]]) (.cond (.tmp 26) (.reg [.op none (.mv 27 (.tmp 9)), .op none (.bin 28 .add (.tmp 27) (.const (.int .i64 1))), .op none (.mv 7 (.tmp 28)), .keep [0, 1, 2, 7, 8]]) (.reg [.op none (.mv 29 (.tmp 9)), .op none (.mv 8 (.tmp 29)), .keep [0, 1, 2, 7, 8]])))))
def C144v2f145 : AC := .seq (.reg [.op none (.mv 6 (.const (.int .i64 0))), .keep [0, 1, 2]]) (.seq (.reg [.op none (.mv 10 (.tmp 0)), .op none (.len 11 (.tmp 10)), .op none (.mv 7 (.const (.int .i64 0))), .op none (.mv 8 (.tmp 11)), .keep [0, 1, 2, 7, 8]]) (.seq (.block 0 (.gh (.loop (.ga C144v2f145_l0)))) (.seq (.reg [.op none (.mv 30 (.tmp 7)), .op none (.mv 6 (.tmp 30)), .keep [6]]) (.ret))))
def r144v2f145 : List RV := [.tmp 6]
theorem k144v2f145 : compC Try.prog 31 C144v2f145 (Try.f144.body.getD .skip) = some C144v2f145.erase := by kernel_rfl
theorem q144v2f145 : rvsOf Try.prog Try.f144.results.toList = some r144v2f145 := by kernel_rfl
def impl_place_impl_Span_uint64_v2f145.l0 (l0 : List S122) (x0_0 : Int) (x0_1 : Int) (x0_2 : Int) : Option Int := (if x0_1 < x0_2 then (if 0 ≤ IntKind.i64.wrap ((IntKind.i64.wrap (x0_1 + x0_2)).tdiv 2) ∧ IntKind.i64.wrap ((IntKind.i64.wrap (x0_1 + x0_2)).tdiv 2) < (l0.length : Int) then (impl_spanHi.f ((rd z122 l0 (IntKind.i64.wrap ((IntKind.i64.wrap (x0_1 + x0_2)).tdiv 2))).f0) ((rd z122 l0 (IntKind.i64.wrap ((IntKind.i64.wrap (x0_1 + x0_2)).tdiv 2))).f1) >>= fun t13 => (if t13 < x0_0 then (impl_place_impl_Span_uint64_v2f145.l0 l0 x0_0 (IntKind.i64.wrap ((IntKind.i64.wrap ((IntKind.i64.wrap (x0_1 + x0_2)).tdiv 2)) + 1)) x0_2) else (impl_place_impl_Span_uint64_v2f145.l0 l0 x0_0 x0_1 (IntKind.i64.wrap ((IntKind.i64.wrap (x0_1 + x0_2)).tdiv 2))))) else none) else (some x0_1))
 partial_fixpoint
def impl_place_impl_Span_uint64_v2f145.f (l0 : List S122) (a1 : Int) : Option Int := (impl_place_impl_Span_uint64_v2f145.l0 l0 a1 0 (l0.length : Int) >>= fun (y17 : Int) => (some y17))
def impl_place_impl_Span_uint64_v2f145.l0_M (cs0 : List Cell) (o0 : Nat) (l0 : List S122) (hv0 : Vw c122 2 cs0 o0 l0) (x0_0 : Int) (x0_1 : Int) (x0_2 : Int) (y : Int) : Prop := ∀ (K : AE → St → Prop), (K (.exit 0) ⟨[(7, .c (.sc (.int .i64 y)))], [(.arg 0, ⟨.fz, 2, cs0⟩)], [], []⟩) → loopS Try.prog 31 (.ga C144v2f145_l0) K ⟨[(0, .c (.ref (.arg 0) [] o0 l0.length)), (1, .c (.sc (.int .u64 x0_0))), (2, .c (.sc (.func (.func 145) #[] #[]))), (7, .c (.sc (.int .i64 x0_1))), (8, .c (.sc (.int .i64 x0_2)))], [(.arg 0, ⟨.fz, 2, cs0⟩)], [], []⟩
theorem impl_place_impl_Span_uint64_v2f145.l0_walk (cs0 : List Cell) (o0 : Nat) (l0 : List S122) (hv0 : Vw c122 2 cs0 o0 l0) (x0_0 : Int) (x0_1 : Int) (x0_2 : Int) (y : Int) (h : impl_place_impl_Span_uint64_v2f145.l0 l0 x0_0 x0_1 x0_2 = some y) : impl_place_impl_Span_uint64_v2f145.l0_M cs0 o0 l0 hv0 x0_0 x0_1 x0_2 y := by
 refine impl_place_impl_Span_uint64_v2f145.l0.partial_correctness l0 x0_0 (motive := fun x0_1 x0_2 y => impl_place_impl_Span_uint64_v2f145.l0_M cs0 o0 l0 hv0 x0_0 x0_1 x0_2 y) ?_ x0_1 x0_2 y h
 clear h
 unfold impl_place_impl_Span_uint64_v2f145.l0_M
 intro rec ih x0_1 x0_2 y h K hx0
 refine loop_unroll (ga_k fun G0 G0n G0r G0x => ?_)
 unfold C144v2f145_l0
 refine seq_k fun J5 hJ5 => ?_
 refine sr_k fun J6 hJ6 => ?_
 simp +decide only [Nat.reduceAdd, Nat.reduceMul, Int.reduceToNat, ak]
 refine hJ6 _ ?_
 refine cond_k (b := decide (x0_1 < x0_2)) rfl (fun c7 => ?_) (fun c7 => ?_)
 ·replace c7 := of_decide_eq_true c7; rw [if_pos c7] at h
  refine hJ5 _ ?_
  refine block_k fun B8 B8n B8x B8r B8j => ?_
  refine sr_k fun J9 hJ9 => ?_
  simp +decide only [Nat.reduceAdd, Nat.reduceMul, Int.reduceToNat, ak, ne_lit]
  refine hJ9 _ ?_
  refine sr_k fun J10 hJ10 => ?_
  obtain ⟨b11, h⟩ := of_guard h
  have g12 : (List.drop (o0 + (IntKind.i64.wrap ((IntKind.i64.wrap (x0_1 + x0_2)).tdiv 2)).toNat * 2) (cs0)).take 2 = [.sc (.int .u64 ((rd z122 l0 (IntKind.i64.wrap ((IntKind.i64.wrap (x0_1 + x0_2)).tdiv 2))).f0)), .sc (.int .u64 ((rd z122 l0 (IntKind.i64.wrap ((IntKind.i64.wrap (x0_1 + x0_2)).tdiv 2))).f1))] := hv0.stretch z122 b11.1 b11.2
  simp +decide only [Nat.reduceAdd, Nat.reduceMul, Int.reduceToNat, ak, b11, g12]
  obtain ⟨t13, h14, h⟩ := of_bind h
  refine callv_fn (f := 145) (fn := Try.f145) rfl Try.func145 (by kernel_rfl) (by decide) ?_
  refine call_m [] (s0 := []) (by intro t ht; cases ht; decide) rfl rfl (by first | rfl | simp only [reduceCtorEq, Nat.reduceEqDiff, ak, akF, b11, g12]) (impl_spanHi.tri ((rd z122 l0 (IntKind.i64.wrap ((IntKind.i64.wrap (x0_1 + x0_2)).tdiv 2))).f0) ((rd z122 l0 (IntKind.i64.wrap ((IntKind.i64.wrap (x0_1 + x0_2)).tdiv 2))).f1) _ h14) (by first | rfl | simp only [reduceCtorEq, Nat.reduceEqDiff, ak, akF]) (by simp [bkOk2, memK]) (fun hl14 => ?_)
  refine call_st (s4 := [(.arg 0, ⟨.fz, 2, cs0⟩)]) (m1' := []) (m2' := []) (v' := .c (.sc (.int .u64 t13))) (Sto.mapN_killNil _ _) (mrgL_nil' _ _ _) (by rfl) (mapT_killNil _ _) (by rfl) (by rfl) (by first | rfl | simp only [reduceCtorEq, Nat.reduceEqDiff, ak, akF, Nat.zero_add, List.append_nil, b11]) ?_
  simp +decide only [Nat.reduceAdd, Nat.reduceMul, Int.reduceToNat, ak]
  refine hJ10 _ ?_
  refine cond_k (b := decide (t13 < x0_0)) rfl (fun c16 => ?_) (fun c16 => ?_)
  ·replace c16 := of_decide_eq_true c16; rw [if_pos c16] at h
   refine reg_k ?_
   simp +decide only [Nat.reduceAdd, Nat.reduceMul, Int.reduceToNat, ak]
   refine B8n _ ?_
   refine G0n _ _ (wk [0, 1, 2, 7, 8] [pI (.arg 0) .fz]) (ih _ _ _ h K hx0)
  ·replace c16 := of_decide_eq_false c16; rw [if_neg c16] at h
   refine reg_k ?_
   simp +decide only [Nat.reduceAdd, Nat.reduceMul, Int.reduceToNat, ak]
   refine B8n _ ?_
   refine G0n _ _ (wk [0, 1, 2, 7, 8] [pI (.arg 0) .fz]) (ih _ _ _ h K hx0)
 ·replace c7 := of_decide_eq_false c7; rw [if_neg c7] at h
  obtain rfl := Option.some.inj h
  refine gh_k (wk [7] [pI (.arg 0) .fz]) ?_
  refine G0x _ _ ?_
  exact hx0
theorem impl_place_impl_Span_uint64_v2f145.tri (cs0 : List Cell) (o0 : Nat) (l0 : List S122) (hv0 : Vw c122 2 cs0 o0 l0) (a1 : Int) (r : Int) (h : impl_place_impl_Span_uint64_v2f145.f l0 a1 = some r) : Tri Try.prog 144 [.c (.ref (.arg 0) [] o0 l0.length), .c (.sc (.int .u64 a1)), .c (.sc (.func (.func 145) #[] #[]))] [(.arg 0, ⟨.fz, 2, cs0⟩)] (fun o => o = ⟨.c (.sc (.int .i64 r)), [(.arg 0, ⟨.fz, 2, cs0⟩)], [], []⟩) := by
 refine tri_of_body (ac := C144v2f145) (xs := r144v2f145) Try.func144 (show Try.f144.body = some (Try.f144.body.getD .skip) from rfl) k144v2f145 q144v2f145 (Nat.le_of_ble_eq_true rfl) ?_
 refine body_of fun K hKn hKr => ?_
 unfold impl_place_impl_Span_uint64_v2f145.f at h
 unfold C144v2f145
 simp only [initT, Nat.reduceAdd]
 refine sr_k fun J1 hJ1 => ?_
 simp +decide only [Nat.reduceAdd, Nat.reduceMul, Int.reduceToNat, ak]
 refine hJ1 _ ?_
 refine sr_k fun J2 hJ2 => ?_
 simp +decide only [Nat.reduceAdd, Nat.reduceMul, Int.reduceToNat, ak]
 refine hJ2 _ ?_
 refine seq_k fun J3 hJ3 => ?_
 refine block_k fun B4 B4n B4x B4r B4j => ?_
 obtain ⟨y17, h18, h⟩ := of_bind h
 refine gh_k (wk [0, 1, 2, 7, 8] [pI (.arg 0) .fz]) ?_
 rw [e_loop]
 refine impl_place_impl_Span_uint64_v2f145.l0_walk cs0 o0 l0 hv0 a1 0 (l0.length : Int) _ h18 _ ?_
 refine B4x _ ?_
 refine hJ3 _ ?_
 refine sr_k fun J19 hJ19 => ?_
 simp +decide only [Nat.reduceAdd, Nat.reduceMul, Int.reduceToNat, ak]
 refine hJ19 _ ?_
 obtain rfl := Option.some.inj h
 refine hKr _ ⟨_, rfl, [], _, rfl, rfl, ?_⟩
 first | rfl | (simp only [reduceCtorEq, Nat.reduceEqDiff, ak, akF]; done) | (simp [reduceCtorEq, Nat.reduceEqDiff, ak, akF] <;> omega)
/-! ### impl.add: function 114 -/
def C114_l0 : AC := .seq (.seq (.ga (.regD (.first (.op none (.mv 22 (.tmp 5))) (.first (.op none (.mv 23 (.tmp 0))) (.first (.op none (.len 24 (.tmp 23))) (.first (.op none (.bin 25 .lss (.tmp 22) (.tmp 24))) (.first (.op none (.mv 26 (.tmp 25))) (.first (.op (some (26, true)) (.mv 27 (.tmp 0))) (.first (.op (some (26, true)) (.mv 28 (.tmp 5))) (.first (.op (some (26, true)) (.iaddr 29 2 (.tmp 27) (.tmp 28))) (.first (.op (some (26, true)) (.faddr 30 0 (.tmp 29))) (.first (.op (some (26, true)) (.load 31 false 1 (.tmp 30))) (.first (.op (some (26, true)) (.faddr 32 1 (.tmp 3))) (.first (.op (some (26, true)) (.load 33 false 1 (.tmp 32))) (.first (.op (some (26, true)) (.bin 34 .leq (.tmp 31) (.tmp 33))) (.first (.op none (.pick 35 (.tmp 26) (.tmp 34) (.const (.bool false)))) (.done))))))))))))))) [0, 3, 5, 6, 35])) (.cond (.tmp 35) (.skip) (.gh (.exit 0)))) (.block 1 (.seq (.regD (.first (.op none (.faddr 36 0 (.tmp 3))) (.first (.op none (.load 37 false 1 (.tmp 36))) (.first (.op none (.mv 38 (.tmp 0))) (.first (.op none (.mv 39 (.tmp 5))) (.first (.op none (.iaddr 40 2 (.tmp 38) (.tmp 39))) (.first (.op none (.faddr 41 0 (.tmp 40))) (.first (.op none (.load 42 false 1 (.tmp 41))) (.first (.op none (.mm 43 false [.tmp 37, .tmp 42])) (.first (.op none (.faddr 44 1 (.tmp 3))) (.first (.op none (.load 45 false 1 (.tmp 44))) (.first (.op none (.mv 46 (.tmp 0))) (.first (.op none (.mv 47 (.tmp 5))) (.first (.op none (.iaddr 48 2 (.tmp 46) (.tmp 47))) (.first (.op none (.faddr 49 1 (.tmp 48))) (.first (.op none (.load 50 false 1 (.tmp 49))) (.first (.op none (.mm 51 true [.tmp 45, .tmp 50])) (.first (.op none (.build 52 [.int .u64 0, .int .u64 0] [(0, 1, .tmp 43), (1, 1, .tmp 51)])) (.alt (.op none (.store 2 (.tmp 3) (.tmp 52))) none (.done) (.stop))))))))))))))))))) [0, 3, 5, 6]) (.reg [.op none (.mv 53 (.tmp 5)), .op none (.bin 54 .add (.tmp 53) (.const (.int .i64 1))), .op none (.mv 5 (.tmp 54)), .keep [0, 3, 5, 6]])))
def C114 : AC := .seq (.reg [.op none (.box 3 (.tmp 1)), .op none (.mv 4 (.const (.slice none 0 0))), .gh, .keep [0, 3]]) (.seq (.seq (.reg [.op none (.faddr 7 0 (.tmp 3)), .op none (.load 8 false 1 (.tmp 7)), .op none (.faddr 9 1 (.tmp 3)), .op none (.load 10 false 1 (.tmp 9)), .op none (.bin 11 .eql (.tmp 8) (.tmp 10)), .keep [0, 3, 11]]) (.cond (.tmp 11) (.seq (.reg [.op none (.mv 12 (.tmp 0)), .op none (.app 13 2 16 false (.const (.slice none 0 0)) (.tmp 12)), .op none (.mv 4 (.tmp 13)), .keep [4]]) (.ret)) (.skip))) (.seq (.reg [.op none (.mv 14 (.tmp 0)), .op none (.faddr 15 0 (.tmp 3)), .op none (.load 16 false 1 (.tmp 15)), .call none (some 17) 144 [.tmp 14, .tmp 16, .func 145], .op none (.mv 5 (.tmp 17)), .keep [0, 3, 5]]) (.seq (.reg [.op none (.mv 18 (.tmp 0)), .op none (.mv 19 (.tmp 5)), .op none (.slice 20 2 (.tmp 18) none (some (.tmp 19))), .op none (.app 21 2 16 false (.const (.slice none 0 0)) (.tmp 20)), .op none (.mv 6 (.tmp 21)), .keep [0, 3, 5, 6]]) (.seq (.block 0 (.gh (.loop (.ga C114_l0)))) (.seq (.reg [.op none (.mv 55 (.tmp 6)), .op none (.load 56 true 2 (.tmp 3)), .op none (.bslice 57 2 [.int .u64 0, .int .u64 0] 1 [(0, .tmp 56)]), .op none (.app 58 2 16 true (.tmp 55) (.tmp 57)), .op none (.mv 6 (.tmp 58)), .keep [0, 5, 6]]) (.seq (.reg [.op none (.mv 59 (.tmp 6)), .op none (.mv 60 (.tmp 0)), .op none (.mv 61 (.tmp 5)), .op none (.slice 62 2 (.tmp 60) (some (.tmp 61)) none), .op none (.app 63 2 16 false (.tmp 59) (.tmp 62)), .op none (.mv 4 (.tmp 63)), .keep [4]]) (.ret)))))))
def r114 : List RV := [.tmp 4]
theorem k114 : compC Try.prog 64 C114 (Try.f114.body.getD .skip) = some C114.erase := by kernel_rfl
theorem q114 : rvsOf Try.prog Try.f114.results.toList = some r114 := by kernel_rfl
def impl_add.l0 (l0 : List S122) (x0_3 : (List S122)) (x0_0 : Int) (x0_1 : Int) (x0_2 : Int) : Option (Int × Int × Int) := ((if x0_0 < (l0.length : Int) then (if 0 ≤ x0_0 ∧ x0_0 < (l0.length : Int) then (some (decide ((rd z122 l0 x0_0).f0 ≤ x0_2))) else none) else (some false)) >>= fun (j27 : Bool) => (if j27 = true then (if 0 ≤ x0_0 ∧ x0_0 < (l0.length : Int) then (impl_add.l0 l0 x0_3 (IntKind.i64.wrap (x0_0 + 1)) (if ((rd z122 l0 x0_0).f0) < x0_1 then (rd z122 l0 x0_0).f0 else x0_1) (if ((rd z122 l0 x0_0).f1) > x0_2 then (rd z122 l0 x0_0).f1 else x0_2)) else none) else (some (x0_0, x0_1, x0_2))))
 partial_fixpoint
def impl_add.f (l0 : List S122) (a1_0 : Int) (a1_1 : Int) : Option (List S122) := (if a1_0 = a1_1 then (if (0 + l0.length) * 16 ≤ 140737488355328 then (some l0) else none) else (impl_place_impl_Span_uint64_v2f145.f l0 a1_0 >>= fun t11 => (if 0 ≤ t11 ∧ t11 ≤ (l0.length : Int) then (if (0 + (t11.toNat - 0)) * 16 ≤ 140737488355328 then (impl_add.l0 l0 (List.take t11.toNat l0) t11 a1_0 a1_1 >>= fun (y45 : (Int × Int × Int)) => (if (((List.take t11.toNat l0).length) + 1) * 16 ≤ 140737488355328 then (if 0 ≤ y45.1 ∧ y45.1 ≤ (l0.length : Int) then (if ((((List.take t11.toNat l0).length) + 1) + (l0.length - y45.1.toNat)) * 16 ≤ 140737488355328 then (some (((List.take t11.toNat l0) ++ ([(⟨y45.2.1, y45.2.2⟩ : S122)] : List S122)) ++ (List.drop y45.1.toNat l0))) else none) else none) else none)) else none) else none)))
def impl_add.l0_M (cs0 : List Cell) (o0 : Nat) (l0 : List S122) (hv0 : Vw c122 2 cs0 o0 l0) (x0_3 : (List S122)) (x0_0 : Int) (x0_1 : Int) (x0_2 : Int) (y : (Int × Int × Int)) : Prop := ∀ (K : AE → St → Prop), (K (.exit 0) ⟨[(0, .c (.ref (.arg 0) [] o0 l0.length)), (3, .c (.ptr (.tmp 3 0) [] 0)), (5, .c (.sc (.int .i64 y.1))), (6, .c (.ref (.tmp 21 0) [] 0 x0_3.length))], [(.arg 0, ⟨.fz, 2, cs0⟩), (.tmp 3 0, ⟨.box, 0, [.sc (.int .u64 y.2.1), .sc (.int .u64 y.2.2)]⟩), (.tmp 21 0, ⟨.lst, 2, encL c122 x0_3⟩)], [], []⟩) → loopS Try.prog 64 (.ga C114_l0) K ⟨[(0, .c (.ref (.arg 0) [] o0 l0.length)), (3, .c (.ptr (.tmp 3 0) [] 0)), (5, .c (.sc (.int .i64 x0_0))), (6, .c (.ref (.tmp 21 0) [] 0 x0_3.length))], [(.arg 0, ⟨.fz, 2, cs0⟩), (.tmp 3 0, ⟨.box, 0, [.sc (.int .u64 x0_1), .sc (.int .u64 x0_2)]⟩), (.tmp 21 0, ⟨.lst, 2, encL c122 x0_3⟩)], [], []⟩
theorem impl_add.l0_walk (cs0 : List Cell) (o0 : Nat) (l0 : List S122) (hv0 : Vw c122 2 cs0 o0 l0) (x0_3 : (List S122)) (x0_0 : Int) (x0_1 : Int) (x0_2 : Int) (y : (Int × Int × Int)) (h : impl_add.l0 l0 x0_3 x0_0 x0_1 x0_2 = some y) : impl_add.l0_M cs0 o0 l0 hv0 x0_3 x0_0 x0_1 x0_2 y := by
 refine impl_add.l0.partial_correctness l0 x0_3 (motive := fun x0_0 x0_1 x0_2 y => impl_add.l0_M cs0 o0 l0 hv0 x0_3 x0_0 x0_1 x0_2 y) ?_ x0_0 x0_1 x0_2 y h
 clear h
 unfold impl_add.l0_M
 intro rec ih x0_0 x0_1 x0_2 y h K hx0
 refine loop_unroll (ga_k fun G0 G0n G0r G0x => ?_)
 unfold C114_l0
 refine seq_k fun J26 hJ26 => ?_
 obtain ⟨j27, h28, hn⟩ := of_bind h
 refine seq_j (fun st => st = ⟨[(0, .c (.ref (.arg 0) [] o0 l0.length)), (3, .c (.ptr (.tmp 3 0) [] 0)), (5, .c (.sc (.int .i64 x0_0))), (6, .c (.ref (.tmp 21 0) [] 0 x0_3.length)), (35, .c (.sc (.bool j27)))], [(.arg 0, ⟨.fz, 2, cs0⟩), (.tmp 3 0, ⟨.box, 0, [.sc (.int .u64 x0_1), .sc (.int .u64 x0_2)]⟩), (.tmp 21 0, ⟨.lst, 2, encL c122 x0_3⟩)], [], []⟩) (fun J29 hJ29 => ?_) ?_
 ·replace h := h28; clear hn
  refine ga_k fun G30 G30n G30r G30x => ?_
  refine regD_k ?_
  simp +decide only [Nat.reduceAdd, Nat.reduceMul, Int.reduceToNat, ak]
  by_cases c31 : x0_0 < (l0.length : Int)
  ·rw [if_pos c31] at h
   have e32 : decide (x0_0 < (l0.length : Int)) = true := decide_eq_true c31
   obtain ⟨b33, h⟩ := of_guard h
   have g34 : o0 + x0_0.toNat * 2 + 0 ≤ (cs0).length := (hv0.len_le b33.1 b33.2 (by decide))
   have g35 : (cs0)[o0 + x0_0.toNat * 2 + 0]? = some (.sc (.int .u64 ((rd z122 l0 x0_0).f0))) := hv0.get z122 0 b33.1 b33.2 (by decide)
   simp +decide only [Nat.reduceAdd, Nat.reduceMul, Int.reduceToNat, ak, e32, b33, g34, g35]
   obtain rfl := Option.some.inj h
   refine G30n _ _ (wk [0, 3, 5, 6, 35] [pI (.arg 0) .fz, pI (.tmp 3 0) .box, pI (.tmp 21 0) .lst] (h0 := by first | rfl | simp +decide only [ak, akF, b33, e32]) (h := by first | rfl | (simp +decide only [ak, akF, b33, e32]; done) | (simp +decide [ak, akF, b33, e32] <;> omega))) (hJ29 _ rfl)
  ·rw [if_neg c31] at h
   have e36 : decide (x0_0 < (l0.length : Int)) = false := decide_eq_false c31
   simp +decide only [Nat.reduceAdd, Nat.reduceMul, Int.reduceToNat, ak, e36]
   obtain rfl := Option.some.inj h
   refine G30n _ _ (wk [0, 3, 5, 6, 35] [pI (.arg 0) .fz, pI (.tmp 3 0) .box, pI (.tmp 21 0) .lst] (h0 := by first | rfl | simp +decide only [ak, akF, e36]) (h := by first | rfl | (simp +decide only [ak, akF, e36]; done) | (simp +decide [ak, akF, e36] <;> omega))) (hJ29 _ rfl)
 ·replace h := hn; clear hn h28
  rintro _ rfl
  refine cond_k (b := j27) rfl (fun c37 => ?_) (fun c37 => ?_)
  ·rw [if_pos c37] at h
   refine hJ26 _ ?_
   refine block_k fun B38 B38n B38x B38r B38j => ?_
   refine sd_k fun J39 hJ39 => ?_
   obtain ⟨b40, h⟩ := of_guard h
   have g41 : o0 + x0_0.toNat * 2 + 0 ≤ (cs0).length := (hv0.len_le b40.1 b40.2 (by decide))
   have g42 : (cs0)[o0 + x0_0.toNat * 2 + 0]? = some (.sc (.int .u64 ((rd z122 l0 x0_0).f0))) := hv0.get z122 0 b40.1 b40.2 (by decide)
   have g43 : o0 + x0_0.toNat * 2 + 1 ≤ (cs0).length := (hv0.len_le b40.1 b40.2 (by decide))
   have g44 : (cs0)[o0 + x0_0.toNat * 2 + 1]? = some (.sc (.int .u64 ((rd z122 l0 x0_0).f1))) := hv0.get z122 1 b40.1 b40.2 (by decide)
   simp +decide only [Nat.reduceAdd, Nat.reduceMul, Int.reduceToNat, ak, b40, g41, g42, mmF, mm2, scv, List.foldl, g43, g44]
   refine alt_e ?_
   ·simp +decide only [Nat.reduceAdd, Nat.reduceMul, Int.reduceToNat, ak]
    refine hJ39 _ ?_
    refine reg_k ?_
    simp +decide only [Nat.reduceAdd, Nat.reduceMul, Int.reduceToNat, ak]
    refine B38n _ ?_
    refine G0n _ _ (wk [0, 3, 5, 6] [pI (.arg 0) .fz, pI (.tmp 3 0) .box, pI (.tmp 21 0) .lst]) (ih _ _ _ _ h K hx0)
  ·rw [if_neg (Bool.eq_false_iff.1 c37)] at h
   obtain rfl := Option.some.inj h
   refine gh_k (wk [0, 3, 5, 6] [pI (.arg 0) .fz, pI (.tmp 3 0) .box, pI (.tmp 21 0) .lst]) ?_
   refine G0x _ _ ?_
   exact hx0
theorem impl_add.tri (cs0 : List Cell) (o0 : Nat) (l0 : List S122) (hv0 : Vw c122 2 cs0 o0 l0) (a1_0 : Int) (a1_1 : Int) (r : (List S122)) (h : impl_add.f l0 a1_0 a1_1 = some r) : Tri Try.prog 114 [.c (.ref (.arg 0) [] o0 l0.length), .g [.sc (.int .u64 a1_0), .sc (.int .u64 a1_1)]] [(.arg 0, ⟨.fz, 2, cs0⟩)] (fun o => o = ⟨.c (.ref (.res 0) [] 0 r.length), [(.arg 0, ⟨.fz, 2, cs0⟩), (.res 0, ⟨.lst, 2, encL c122 r⟩)], [], []⟩) := by
 refine tri_of_body (ac := C114) (xs := r114) Try.func114 (show Try.f114.body = some (Try.f114.body.getD .skip) from rfl) k114 q114 (Nat.le_of_ble_eq_true rfl) ?_
 refine body_of fun K hKn hKr => ?_
 unfold impl_add.f at h
 unfold C114
 simp only [initT, Nat.reduceAdd]
 refine sr_k fun J1 hJ1 => ?_
 simp +decide only [Nat.reduceAdd, Nat.reduceMul, Int.reduceToNat, ak]
 refine gho_k (Weak.nm' 4 (.tmp 4 20) 2 (encL c122 ([] : List S122)) rfl rfl rfl) ?_
 simp +decide only [Nat.reduceAdd, Nat.reduceMul, Int.reduceToNat, ak]
 refine hJ1 _ ?_
 refine seq_k fun J2 hJ2 => ?_
 refine sr_k fun J3 hJ3 => ?_
 simp +decide only [Nat.reduceAdd, Nat.reduceMul, Int.reduceToNat, ak]
 refine hJ3 _ ?_
 refine cond_k (b := decide (a1_0 = a1_1)) rfl (fun c4 => ?_) (fun c4 => ?_)
 ·replace c4 := of_decide_eq_true c4; rw [if_pos c4] at h
  refine sr_k fun J5 hJ5 => ?_
  have g6 : (List.drop o0 (cs0)).take (l0.length * 2) = encL c122 l0 := by simpa using hv0.all
  have g7 : (encL c122 l0).all isSc = true := encL_all (fun _ => rfl) _
  obtain ⟨b8, h⟩ := of_guard h
  have g9 : appLim 0 l0.length 16 := ⟨b8, by have := b8; omega⟩
  simp +decide only [Nat.reduceAdd, Nat.reduceMul, Int.reduceToNat, ak, g6, g7, g9]
  refine hJ5 _ ?_
  obtain rfl := Option.some.inj h
  refine hKr _ ⟨_, rfl, [⟨(.tmp 13 0), [], none, .lst⟩], _, rfl, rfl, ?_⟩
  first | rfl | (simp only [reduceCtorEq, Nat.reduceEqDiff, ak, akF, b8]; done) | (simp [reduceCtorEq, Nat.reduceEqDiff, ak, akF, b8] <;> omega)
 ·replace c4 := of_decide_eq_false c4; rw [if_neg c4] at h
  refine hJ2 _ ?_
  refine sr_k fun J10 hJ10 => ?_
  simp +decide only [Nat.reduceAdd, Nat.reduceMul, Int.reduceToNat, ak]
  obtain ⟨t11, h12, h⟩ := of_bind h
  refine call_m [(.arg 0, ⟨(.arg 0), [], none, .fz⟩)] (s0 := [(.arg 0, ⟨.fz, 2, cs0⟩)]) (by intro t ht; cases ht; decide) rfl rfl (by first | rfl | simp only [reduceCtorEq, Nat.reduceEqDiff, ak, akF]) (impl_place_impl_Span_uint64_v2f145.tri (cs0) o0 l0 hv0 a1_0 _ h12) (by first | rfl | simp only [reduceCtorEq, Nat.reduceEqDiff, ak, akF]) (by simp [bkOk2, memK]) (fun hl12 => ?_)
  refine call_st (s4 := [(.arg 0, ⟨.fz, 2, cs0⟩), (.tmp 3 0, ⟨.box, 0, [.sc (.int .u64 a1_0), .sc (.int .u64 a1_1)]⟩), (.tmp 4 20, ⟨.lst, 2, encL c122 ([] : List S122)⟩)]) (m1' := []) (m2' := []) (v' := .c (.sc (.int .i64 t11))) (Sto.mapN_killNil _ _) (mrgL_fz (mrgL_nil' _ _ _) rfl (by first | rfl | simp only [reduceCtorEq, Nat.reduceEqDiff, ak]) rfl (by intro R hR hh; cases hR; cases hh.2)) (by rfl) (mapT_killNil _ _) (by rfl) (by rfl) (by first | rfl | simp only [reduceCtorEq, Nat.reduceEqDiff, ak, akF, Nat.zero_add, List.append_nil]) ?_
  simp +decide only [Nat.reduceAdd, Nat.reduceMul, Int.reduceToNat, ak]
  refine hJ10 _ ?_
  refine sr_k fun J14 hJ14 => ?_
  obtain ⟨b15, h⟩ := of_guard h
  have g16 : 0 ≤ t11 := (by have := b15; omega)
  have g17 : 0 ≤ t11.toNat := (by have := b15; omega)
  have g18 : t11.toNat ≤ l0.length := (by have := b15; omega)
  have g19 : (List.take t11.toNat l0).length = t11.toNat - 0 := by have := b15; have h0 : l0.length = l0.length := (by simp); simp only [List.length_drop, List.length_take] <;> omega
  have g20 : (List.drop (o0 + 0) (cs0)).take ((t11.toNat - 0) * 2) = encL c122 (List.take t11.toNat l0) := by simpa [g19] using (hv0.upto (b := t11.toNat) (by have := b15; omega)).all
  have g21 : (encL c122 (List.take t11.toNat l0)).all isSc = true := encL_all (fun _ => rfl) _
  obtain ⟨b22, h⟩ := of_guard h
  have g23 : appLim 0 (t11.toNat - 0) 16 := ⟨b22, by have := b22; omega⟩
  simp +decide only [Nat.reduceAdd, Nat.reduceMul, Int.reduceToNat, ak, g16, g17, g18, g20, g21, g23]
  refine hJ14 _ ?_
  refine seq_k fun J24 hJ24 => ?_
  refine block_k fun B25 B25n B25x B25r B25j => ?_
  obtain ⟨y45, h46, h⟩ := of_bind h
  refine gh_k (st' := ⟨[(0, .c (.ref (.arg 0) [] o0 l0.length)), (3, .c (.ptr (.tmp 3 0) [] 0)), (5, .c (.sc (.int .i64 t11))), (6, .c (.ref (.tmp 21 0) [] 0 ((List.take t11.toNat l0).length)))], [(.arg 0, ⟨.fz, 2, cs0⟩), (.tmp 3 0, ⟨.box, 0, [.sc (.int .u64 a1_0), .sc (.int .u64 a1_1)]⟩), (.tmp 21 0, ⟨.lst, 2, encL c122 (List.take t11.toNat l0)⟩)], [], []⟩) (wk [0, 3, 5, 6] [pI (.arg 0) .fz, pI (.tmp 3 0) .box, pI (.tmp 21 0) .lst] (h0 := by first | rfl | simp +decide only [ak, akF, b15, b22, g19]) (h := by first | rfl | (simp +decide only [ak, akF, b15, b22, g19]; done) | (simp +decide [ak, akF, b15, b22, g19] <;> omega))) ?_
  rw [e_loop]
  refine impl_add.l0_walk cs0 o0 l0 hv0 (List.take t11.toNat l0) t11 a1_0 a1_1 _ h46 _ ?_
  refine B25x _ ?_
  refine hJ24 _ ?_
  refine sr_k fun J47 hJ47 => ?_
  have g48 : (List.replicate 1 ([.int .u64 0, .int .u64 0] : List Value)).flatten = [.int .u64 0, .int .u64 0] := rfl
  have g49 : (⟨.lst, 2, [.sc (.int .u64 y45.2.1), .sc (.int .u64 y45.2.2)]⟩ : Root) = ⟨.lst, 2, encL c122 ([(⟨y45.2.1, y45.2.2⟩ : S122)] : List S122)⟩ := rfl
  have g50 : ([(⟨y45.2.1, y45.2.2⟩ : S122)] : List S122).length = 1 := rfl
  have g51 : (encL c122 ([(⟨y45.2.1, y45.2.2⟩ : S122)] : List S122)).length = 1 * 2 := by simp [encL_length c122_w, g19]
  have g52 : (encL c122 ([(⟨y45.2.1, y45.2.2⟩ : S122)] : List S122)).all nd = true := rfl
  obtain ⟨b53, h⟩ := of_guard h
  have g54 : appLim ((List.take t11.toNat l0).length) 1 16 := ⟨b53, by have := b53; omega⟩
  have g55 : (encL c122 (List.take t11.toNat l0)).length = ((List.take t11.toNat l0).length) * 2 := by simp [encL_length c122_w, g19]
  have g56 : encL c122 (List.take t11.toNat l0) ++ encL c122 ([(⟨y45.2.1, y45.2.2⟩ : S122)] : List S122) = encL c122 ((List.take t11.toNat l0) ++ ([(⟨y45.2.1, y45.2.2⟩ : S122)] : List S122)) := (encL_append _ _).symm
  simp +decide only [Nat.reduceAdd, Nat.reduceMul, Int.reduceToNat, ak, g48, g49, g50, g51, g52, g54, g55, g56]
  refine hJ47 _ ?_
  refine sr_k fun J57 hJ57 => ?_
  obtain ⟨b58, h⟩ := of_guard h
  have g59 : 0 ≤ y45.1 := (by have := b58; omega)
  have g60 : y45.1.toNat ≤ l0.length := (by have := b58; omega)
  have g61 : (List.drop y45.1.toNat l0).length = l0.length - y45.1.toNat := by have := b58; have h0 : l0.length = l0.length := (by simp [g19]); simp only [List.length_drop, List.length_take] <;> omega
  have g62 : (List.drop (o0 + y45.1.toNat * 2) (cs0)).take ((l0.length - y45.1.toNat) * 2) = encL c122 (List.drop y45.1.toNat l0) := by simpa [g19, g61] using (hv0.from (a := y45.1.toNat) (by have := b58; omega)).all
  have g63 : (encL c122 (List.drop y45.1.toNat l0)).all isSc = true := encL_all (fun _ => rfl) _
  obtain ⟨b64, h⟩ := of_guard h
  have g65 : appLim (((List.take t11.toNat l0).length) + 1) (l0.length - y45.1.toNat) 16 := ⟨b64, by have := b64; omega⟩
  have g66 : (encL c122 ((List.take t11.toNat l0) ++ ([(⟨y45.2.1, y45.2.2⟩ : S122)] : List S122))).length = (((List.take t11.toNat l0).length) + 1) * 2 := by simp [encL_length c122_w, g19, g61]
  have g67 : encL c122 ((List.take t11.toNat l0) ++ ([(⟨y45.2.1, y45.2.2⟩ : S122)] : List S122)) ++ encL c122 (List.drop y45.1.toNat l0) = encL c122 (((List.take t11.toNat l0) ++ ([(⟨y45.2.1, y45.2.2⟩ : S122)] : List S122)) ++ (List.drop y45.1.toNat l0)) := (encL_append _ _).symm
  simp +decide only [Nat.reduceAdd, Nat.reduceMul, Int.reduceToNat, ak, g59, g60, Nat.le_refl, g62, g63, g65, g66, g67]
  refine hJ57 _ ?_
  obtain rfl := Option.some.inj h
  refine hKr _ ⟨_, rfl, [⟨(.tmp 21 0), [], none, .lst⟩], _, rfl, rfl, ?_⟩
  first | rfl | (simp only [reduceCtorEq, Nat.reduceEqDiff, ak, akF, b15, b22, b53, b58, b64, g19, g61]; done) | (simp [reduceCtorEq, Nat.reduceEqDiff, ak, akF, b15, b22, b53, b58, b64, g19, g61] <;> omega)
/-! ### (*impl.buffer).view: function 106 -/
def C106_l0 : AC := .seq (.seq (.regD (.first (.op none (.mv 25 (.tmp 4))) (.first (.op none (.mv 26 (.tmp 0))) (.first (.op none (.nilc 27 (.tmp 26))) (.first (.op none (.faddr 28 3 (.tmp 27))) (.first (.op none (.load 29 false 1 (.tmp 28))) (.first (.op none (.mv 30 (.tmp 0))) (.first (.op none (.nilc 31 (.tmp 30))) (.first (.op none (.faddr 32 0 (.tmp 31))) (.first (.op none (.load 33 false 1 (.tmp 32))) (.first (.op none (.bin 34 .add (.tmp 29) (.tmp 33))) (.first (.op none (.bin 35 .lss (.tmp 25) (.tmp 34))) (.done)))))))))))) [0, 2, 3, 4, 35]) (.cond (.tmp 35) (.skip) (.gh (.exit 0)))) (.seq (.ga (.block 1 (.seq (.regD (.first (.op none (.mv 38 (.tmp 0))) (.first (.op none (.nilc 39 (.tmp 38))) (.first (.op none (.faddr 40 2 (.tmp 39))) (.first (.op none (.load 41 false 1 (.tmp 40))) (.first (.op none (.mv 42 (.tmp 4))) (.first (.op none (.mv 43 (.tmp 0))) (.first (.op none (.nilc 44 (.tmp 43))) (.first (.op none (.faddr 45 0 (.tmp 44))) (.first (.op none (.load 46 false 1 (.tmp 45))) (.first (.op none (.bin 47 .rem (.tmp 42) (.tmp 46))) (.first (.op none (.iaddr 48 1 (.tmp 41) (.tmp 47))) (.first (.op none (.load 49 false 1 (.tmp 48))) (.done))))))))))))) [0, 2, 3, 4, 49]) (.cond (.tmp 49) (.reg [.op none (.faddr 50 2 (.tmp 3)), .op none (.load 51 false 1 (.tmp 50)), .op none (.mv 52 (.tmp 4)), .op none (.mv 53 (.tmp 4)), .op none (.bin 54 .add (.tmp 53) (.const (.int .u64 1))), .op none (.build 55 [.int .u64 0, .int .u64 0] [(0, 1, .tmp 52), (1, 1, .tmp 54)]), .call none (some 56) 114 [.tmp 51, .tmp 55], .op none (.faddr 57 2 (.tmp 3)), .op none (.store 1 (.tmp 57) (.tmp 56)), .keep [0, 2, 3, 4]]) (.skip))))) (.reg [.op none (.mv 36 (.tmp 4)), .op none (.bin 37 .add (.tmp 36) (.const (.int .u64 1))), .op none (.mv 4 (.tmp 37)), .keep [0, 2, 3, 4]]))
def C106 : AC := .seq (.reg [.op none (.alloc 2 [.int .u64 0, .int .u64 0, .slice none 0 0, .int .i64 0, .int .u64 0]), .gh, .keep [0, 2]]) (.seq (.ga (.regD (.first (.op none (.mv 5 (.tmp 0))) (.first (.op none (.nilc 6 (.tmp 5))) (.first (.op none (.faddr 7 3 (.tmp 6))) (.first (.op none (.mv 9 (.tmp 0))) (.first (.op none (.mv 11 (.tmp 0))) (.first (.op none (.nilc 12 (.tmp 11))) (.first (.op none (.faddr 13 4 (.tmp 12))) (.first (.op none (.mv 16 (.tmp 0))) (.first (.op none (.nilc 17 (.tmp 16))) (.first (.op none (.faddr 18 5 (.tmp 17))) (.pin [17, 15] (.op none (.load 8 false 1 (.tmp 7))) (.pin [17, 15, 10] (.op none (.load 14 false 1 (.tmp 13))) (.pin [17, 15] (.op none (.load 19 false 1 (.tmp 18))) (.alt (.call none (some 10) 142 [.tmp 9]) none (.alt (.call none (some 15) 88 [.tmp 14]) (some 10) (.alt (.op none (.build 20 [.int .u64 0, .int .u64 0, .slice none 0 0, .int .i64 0, .int .u64 0] [(0, 1, .tmp 8), (1, 1, .tmp 10), (3, 1, .tmp 15), (4, 1, .tmp 19)])) (some 15) (.gh (.alt (.op none (.alloc 3 [.int .u64 0, .int .u64 0, .slice none 0 0, .int .i64 0, .int .u64 0])) none (.gh (.alt (.op none (.store 5 (.tmp 3) (.tmp 20))) none (.done) (.stop))) (.stop))) (.alt (.op none (.alloc 3 [.int .u64 0, .int .u64 0, .slice none 0 0, .int .i64 0, .int .u64 0])) none (.gh (.alt (.op none (.build 20 [.int .u64 0, .int .u64 0, .slice none 0 0, .int .i64 0, .int .u64 0] [(0, 1, .tmp 8), (1, 1, .tmp 10), (3, 1, .tmp 15), (4, 1, .tmp 19)])) (some 15) (.gh (.alt (.op none (.store 5 (.tmp 3) (.tmp 20))) none (.done) (.stop))) (.stop))) (.stop))) (.alt (.op none (.alloc 3 [.int .u64 0, .int .u64 0, .slice none 0 0, .int .i64 0, .int .u64 0])) none (.gh (.alt (.call none (some 15) 88 [.tmp 14]) (some 10) (.alt (.op none (.build 20 [.int .u64 0, .int .u64 0, .slice none 0 0, .int .i64 0, .int .u64 0] [(0, 1, .tmp 8), (1, 1, .tmp 10), (3, 1, .tmp 15), (4, 1, .tmp 19)])) (some 15) (.gh (.alt (.op none (.store 5 (.tmp 3) (.tmp 20))) none (.done) (.stop))) (.stop)) (.stop))) (.stop))) (.alt (.op none (.alloc 3 [.int .u64 0, .int .u64 0, .slice none 0 0, .int .i64 0, .int .u64 0])) none (.gh (.alt (.call none (some 10) 142 [.tmp 9]) none (.alt (.call none (some 15) 88 [.tmp 14]) (some 10) (.alt (.op none (.build 20 [.int .u64 0, .int .u64 0, .slice none 0 0, .int .i64 0, .int .u64 0] [(0, 1, .tmp 8), (1, 1, .tmp 10), (3, 1, .tmp 15), (4, 1, .tmp 19)])) (some 15) (.gh (.alt (.op none (.store 5 (.tmp 3) (.tmp 20))) none (.done) (.stop))) (.stop)) (.stop)) (.stop))) (.stop)))))))))))))))) [0, 2, 3])) (.seq (.seq (.reg [.op none (.mv 21 (.tmp 0)), .op none (.nilc 22 (.tmp 21)), .op none (.faddr 23 3 (.tmp 22)), .op none (.load 24 false 1 (.tmp 23)), .op none (.mv 4 (.tmp 24)), .keep [0, 2, 3, 4]]) (.block 0 (.gh (.loop (.ga C106_l0))))) (.seq (.reg [.op none (.load 58 true 5 (.tmp 3)), .op none (.store 5 (.tmp 2) (.tmp 58)), .keep [2]]) (.ret))))
def r106 : List RV := [.cell 2 true 5]
theorem k106 : compC Try.prog 59 C106 (Try.f106.body.getD .skip) = some C106.erase := by kernel_rfl
theorem q106 : rvsOf Try.prog Try.f106.results.toList = some r106 := by kernel_rfl
def impl_buffer_view.l0 (x0_1 : Int) (x0_2 : (List Int)) (x0_3 : (List Bool)) (x0_4 : Int) (x0_5 : Bool) (x0_6 : Int) (x0_7 : Int) (x0_8 : Int) (x0_9 : (List S122)) (x0_10 : Int) (x0_11 : Int) (x0_12 : Int) (x0_13 : Int) (x0_15 : Int) (x0_16 : Int) (x0_0 : Int) (x0_14 : (List S122)) : Option (List S122) := (if x0_0 < IntKind.u64.wrap (x0_4 + x0_1) then ((if ¬ x0_1 = 0 then (if 0 ≤ x0_0.tmod x0_1 ∧ x0_0.tmod x0_1 < (x0_3.length : Int) then (if (rd false x0_3 (x0_0.tmod x0_1)) = true then (impl_add.f x0_14 x0_0 (IntKind.u64.wrap (x0_0 + 1)) >>= fun t100 => (some t100)) else (some x0_14)) else none) else none) >>= fun (j90 : (List S122)) => (impl_buffer_view.l0 x0_1 x0_2 x0_3 x0_4 x0_5 x0_6 x0_7 x0_8 x0_9 x0_10 x0_11 x0_12 x0_13 x0_15 x0_16 (IntKind.u64.wrap (x0_0 + 1)) j90)) else (some x0_14))
 partial_fixpoint
def impl_buffer_view.f (a0_0 : Int) (l0_1 : List Int) (l0_2 : List Bool) (a0_3 : Int) (a0_4 : Bool) (a0_5 : Int) : Option (Int × Int × (List S122) × Int × Int) := ((impl_buffer_next.f a0_0 l0_1 l0_2 a0_3 a0_4 a0_5 >>= fun t6 => (impl_mark.f a0_4 >>= fun t9 => (some (t6, t9)))) >>= fun (j2 : Int × Int) => (impl_buffer_view.l0 a0_0 l0_1 l0_2 a0_3 a0_4 a0_5 0 0 ([] : List S122) 0 0 a0_3 j2.1 j2.2 a0_5 a0_3 ([] : List S122) >>= fun (y104 : (List S122)) => (some (a0_3, j2.1, y104, j2.2, a0_5))))
def impl_buffer_view.l0_M (x0_1 : Int) (x0_2 : (List Int)) (x0_3 : (List Bool)) (x0_4 : Int) (x0_5 : Bool) (x0_6 : Int) (x0_7 : Int) (x0_8 : Int) (x0_9 : (List S122)) (x0_10 : Int) (x0_11 : Int) (x0_12 : Int) (x0_13 : Int) (x0_15 : Int) (x0_16 : Int) (x0_0 : Int) (x0_14 : (List S122)) (y : (List S122)) : Prop := ∀ (K : AE → St → Prop), (K (.exit 0) ⟨[(2, .c (.ptr (.tmp 2 0) [] 0)), (3, .c (.ptr (.tmp 3 0) [] 0))], [(.arg 0, ⟨.box, 0, [.sc (.int .u64 x0_1), .own 1 x0_2.length (encL c_u8 x0_2), .own 1 x0_3.length (encL c_bool x0_3), .sc (.int .u64 x0_4), .sc (.bool x0_5), .sc (.int .u64 x0_6)]⟩), (.tmp 2 0, ⟨.box, 0, [.sc (.int .u64 x0_7), .sc (.int .u64 x0_8), .own 2 x0_9.length (encL c122 x0_9), .sc (.int .i64 x0_10), .sc (.int .u64 x0_11)]⟩), (.tmp 3 0, ⟨.box, 0, [.sc (.int .u64 x0_12), .sc (.int .u64 x0_13), .own 2 y.length (encL c122 y), .sc (.int .i64 x0_15), .sc (.int .u64 x0_16)]⟩)], [], []⟩) → loopS Try.prog 59 (.ga C106_l0) K ⟨[(0, .c (.ptr (.arg 0) [] 0)), (2, .c (.ptr (.tmp 2 0) [] 0)), (3, .c (.ptr (.tmp 3 0) [] 0)), (4, .c (.sc (.int .u64 x0_0)))], [(.arg 0, ⟨.box, 0, [.sc (.int .u64 x0_1), .own 1 x0_2.length (encL c_u8 x0_2), .own 1 x0_3.length (encL c_bool x0_3), .sc (.int .u64 x0_4), .sc (.bool x0_5), .sc (.int .u64 x0_6)]⟩), (.tmp 2 0, ⟨.box, 0, [.sc (.int .u64 x0_7), .sc (.int .u64 x0_8), .own 2 x0_9.length (encL c122 x0_9), .sc (.int .i64 x0_10), .sc (.int .u64 x0_11)]⟩), (.tmp 3 0, ⟨.box, 0, [.sc (.int .u64 x0_12), .sc (.int .u64 x0_13), .own 2 x0_14.length (encL c122 x0_14), .sc (.int .i64 x0_15), .sc (.int .u64 x0_16)]⟩)], [], []⟩
theorem impl_buffer_view.l0_walk (x0_1 : Int) (x0_2 : (List Int)) (x0_3 : (List Bool)) (x0_4 : Int) (x0_5 : Bool) (x0_6 : Int) (x0_7 : Int) (x0_8 : Int) (x0_9 : (List S122)) (x0_10 : Int) (x0_11 : Int) (x0_12 : Int) (x0_13 : Int) (x0_15 : Int) (x0_16 : Int) (x0_0 : Int) (x0_14 : (List S122)) (y : (List S122)) (h : impl_buffer_view.l0 x0_1 x0_2 x0_3 x0_4 x0_5 x0_6 x0_7 x0_8 x0_9 x0_10 x0_11 x0_12 x0_13 x0_15 x0_16 x0_0 x0_14 = some y) : impl_buffer_view.l0_M x0_1 x0_2 x0_3 x0_4 x0_5 x0_6 x0_7 x0_8 x0_9 x0_10 x0_11 x0_12 x0_13 x0_15 x0_16 x0_0 x0_14 y := by
 refine impl_buffer_view.l0.partial_correctness x0_1 x0_2 x0_3 x0_4 x0_5 x0_6 x0_7 x0_8 x0_9 x0_10 x0_11 x0_12 x0_13 x0_15 x0_16 (motive := fun x0_0 x0_14 y => impl_buffer_view.l0_M x0_1 x0_2 x0_3 x0_4 x0_5 x0_6 x0_7 x0_8 x0_9 x0_10 x0_11 x0_12 x0_13 x0_15 x0_16 x0_0 x0_14 y) ?_ x0_0 x0_14 y h
 clear h
 unfold impl_buffer_view.l0_M
 intro rec ih x0_0 x0_14 y h K hx0
 refine loop_unroll (ga_k fun G0 G0n G0r G0x => ?_)
 unfold C106_l0
 refine seq_k fun J87 hJ87 => ?_
 refine sd_k fun J88 hJ88 => ?_
 simp +decide only [Nat.reduceAdd, Nat.reduceMul, Int.reduceToNat, ak]
 refine hJ88 _ ?_
 refine cond_k (b := decide (x0_0 < IntKind.u64.wrap (x0_4 + x0_1))) rfl (fun c89 => ?_) (fun c89 => ?_)
 ·replace c89 := of_decide_eq_true c89; rw [if_pos c89] at h
  refine hJ87 _ ?_
  obtain ⟨j90, h91, hn⟩ := of_bind h
  refine seq_j (fun st => st = ⟨[(0, .c (.ptr (.arg 0) [] 0)), (2, .c (.ptr (.tmp 2 0) [] 0)), (3, .c (.ptr (.tmp 3 0) [] 0)), (4, .c (.sc (.int .u64 x0_0)))], [(.arg 0, ⟨.box, 0, [.sc (.int .u64 x0_1), .own 1 x0_2.length (encL c_u8 x0_2), .own 1 x0_3.length (encL c_bool x0_3), .sc (.int .u64 x0_4), .sc (.bool x0_5), .sc (.int .u64 x0_6)]⟩), (.tmp 2 0, ⟨.box, 0, [.sc (.int .u64 x0_7), .sc (.int .u64 x0_8), .own 2 x0_9.length (encL c122 x0_9), .sc (.int .i64 x0_10), .sc (.int .u64 x0_11)]⟩), (.tmp 3 0, ⟨.box, 0, [.sc (.int .u64 x0_12), .sc (.int .u64 x0_13), .own 2 j90.length (encL c122 j90), .sc (.int .i64 x0_15), .sc (.int .u64 x0_16)]⟩)], [], []⟩) (fun J92 hJ92 => ?_) ?_
  ·replace h := h91; clear hn
   refine ga_k fun G93 G93n G93r G93x => ?_
   refine block_k fun B94 B94n B94x B94r B94j => ?_
   refine sd_k fun J95 hJ95 => ?_
   obtain ⟨b96, h⟩ := of_guard h
   obtain ⟨b97, h⟩ := of_guard h
   have g98 : (encL c_bool x0_3)[0 + (x0_0.tmod x0_1).toNat * 1]? = some (.sc (.bool (rd false x0_3 (x0_0.tmod x0_1)))) := (Vw.whole c_bool_w x0_3).get false 0 b97.1 b97.2 (by decide)
   simp +decide only [Nat.reduceAdd, Nat.reduceMul, Int.reduceToNat, ak, b96, b97, g98]
   refine hJ95 _ ?_
   refine cond_k (b := (rd false x0_3 (x0_0.tmod x0_1))) rfl (fun c99 => ?_) (fun c99 => ?_)
   ·rw [if_pos c99] at h
    refine reg_k ?_
    simp +decide only [Nat.reduceAdd, Nat.reduceMul, Int.reduceToNat, ak]
    obtain ⟨t100, h101, h⟩ := of_bind h
    refine call_m [(.arg 0, ⟨(.tmp 3 0), [2], none, .fz⟩)] (s0 := [(.arg 0, ⟨.fz, 2, encL c122 x0_14⟩)]) (by intro t ht; cases ht; decide) rfl rfl (by first | rfl | simp only [reduceCtorEq, Nat.reduceEqDiff, ak, akF, b96, b97, g98]) (impl_add.tri (encL c122 x0_14) 0 x0_14 (Vw.whole c122_w x0_14) x0_0 (IntKind.u64.wrap (x0_0 + 1)) _ h101) (by first | rfl | simp only [reduceCtorEq, Nat.reduceEqDiff, ak, akF]) (by simp [bkOk2, memK]) (fun hl101 => ?_)
    refine call_st (s4 := [(.arg 0, ⟨.box, 0, [.sc (.int .u64 x0_1), .own 1 x0_2.length (encL c_u8 x0_2), .own 1 x0_3.length (encL c_bool x0_3), .sc (.int .u64 x0_4), .sc (.bool x0_5), .sc (.int .u64 x0_6)]⟩), (.tmp 2 0, ⟨.box, 0, [.sc (.int .u64 x0_7), .sc (.int .u64 x0_8), .own 2 x0_9.length (encL c122 x0_9), .sc (.int .i64 x0_10), .sc (.int .u64 x0_11)]⟩), (.tmp 3 0, ⟨.box, 0, [.sc (.int .u64 x0_12), .sc (.int .u64 x0_13), .own 2 x0_14.length (encL c122 x0_14), .sc (.int .i64 x0_15), .sc (.int .u64 x0_16)]⟩), (.tmp 56 0, ⟨.lst, 2, encL c122 t100⟩)]) (m1' := []) (m2' := []) (v' := .c (.ref (.tmp 56 0) [] 0 t100.length)) (Sto.mapN_killNil _ _) (mrgL_fz (mrgL_nil' _ _ _) rfl (by first | rfl | simp only [reduceCtorEq, Nat.reduceEqDiff, ak, b96, b97, g98]) rfl (by intro R hR hh; cases hh.1)) (by rfl) (mapT_killNil _ _) (by rfl) (by rfl) (by first | rfl | simp only [reduceCtorEq, Nat.reduceEqDiff, ak, akF, Nat.zero_add, List.append_nil, b96, b97]) ?_
    have g103 : (encL c122 t100).length = t100.length * 2 := by simp [encL_length c122_w]
    simp +decide only [Nat.reduceAdd, Nat.reduceMul, Int.reduceToNat, ak, g103]
    refine B94n _ ?_
    obtain rfl := Option.some.inj h
    refine G93n _ _ (wk [0, 2, 3, 4] [pI (.arg 0) .box, pI (.tmp 2 0) .box, pI (.tmp 3 0) .box]) (hJ92 _ rfl)
   ·rw [if_neg (Bool.eq_false_iff.1 c99)] at h
    refine B94n _ ?_
    obtain rfl := Option.some.inj h
    refine G93n _ _ (wk [0, 2, 3, 4] [pI (.arg 0) .box, pI (.tmp 2 0) .box, pI (.tmp 3 0) .box]) (hJ92 _ rfl)
  ·replace h := hn; clear hn h91
   rintro _ rfl
   refine reg_k ?_
   simp +decide only [Nat.reduceAdd, Nat.reduceMul, Int.reduceToNat, ak]
   refine G0n _ _ (wk [0, 2, 3, 4] [pI (.arg 0) .box, pI (.tmp 2 0) .box, pI (.tmp 3 0) .box]) (ih _ _ _ h K hx0)
 ·replace c89 := of_decide_eq_false c89; rw [if_neg c89] at h
  obtain rfl := Option.some.inj h
  refine gh_k (wk [2, 3] [pI (.arg 0) .box, pI (.tmp 2 0) .box, pI (.tmp 3 0) .box]) ?_
  refine G0x _ _ ?_
  exact hx0
theorem impl_buffer_view.tri (a0_0 : Int) (l0_1 : List Int) (l0_2 : List Bool) (a0_3 : Int) (a0_4 : Bool) (a0_5 : Int) (r : Int × Int × (List S122) × Int × Int) (h : impl_buffer_view.f a0_0 l0_1 l0_2 a0_3 a0_4 a0_5 = some r) : Tri Try.prog 106 [.c (.ptr (.arg 0) [] 0)] [(.arg 0, ⟨.box, 0, [.sc (.int .u64 a0_0), .own 1 l0_1.length (encL c_u8 l0_1), .own 1 l0_2.length (encL c_bool l0_2), .sc (.int .u64 a0_3), .sc (.bool a0_4), .sc (.int .u64 a0_5)]⟩)] (fun o => o = ⟨.g [.sc (.int .u64 r.1), .sc (.int .u64 r.2.1), .ref (.res 0) [] 0 r.2.2.1.length, .sc (.int .i64 r.2.2.2.1), .sc (.int .u64 r.2.2.2.2)], [(.arg 0, ⟨.box, 0, [.sc (.int .u64 a0_0), .own 1 l0_1.length (encL c_u8 l0_1), .own 1 l0_2.length (encL c_bool l0_2), .sc (.int .u64 a0_3), .sc (.bool a0_4), .sc (.int .u64 a0_5)]⟩), (.res 0, ⟨.lst, 2, encL c122 r.2.2.1⟩)], [], []⟩) := by
 refine tri_of_body (ac := C106) (xs := r106) Try.func106 (show Try.f106.body = some (Try.f106.body.getD .skip) from rfl) k106 q106 (Nat.le_of_ble_eq_true rfl) ?_
 refine body_of fun K hKn hKr => ?_
 unfold impl_buffer_view.f at h
 unfold C106
 simp only [initT, Nat.reduceAdd]
 refine sr_k fun J1 hJ1 => ?_
 simp +decide only [Nat.reduceAdd, Nat.reduceMul, Int.reduceToNat, ak]
 refine gho_k (Weak.own (.tmp 2 0) (cs' := [.sc (.int .u64 0), .sc (.int .u64 0), .own 2 (([] : List S122).length) (encL c122 ([] : List S122)), .sc (.int .i64 0), .sc (.int .u64 0)]) rfl ⟨.inl rfl, .inl rfl, .inr ⟨rfl, _, rfl⟩, .inl rfl, .inl rfl, trivial⟩) ?_
 simp +decide only [Nat.reduceAdd, Nat.reduceMul, Int.reduceToNat, ak]
 refine hJ1 _ ?_
 obtain ⟨j2, h3, hn⟩ := of_bind h
 refine seq_j (fun st => st = ⟨[(0, .c (.ptr (.arg 0) [] 0)), (2, .c (.ptr (.tmp 2 0) [] 0)), (3, .c (.ptr (.tmp 3 0) [] 0))], [(.arg 0, ⟨.box, 0, [.sc (.int .u64 a0_0), .own 1 l0_1.length (encL c_u8 l0_1), .own 1 l0_2.length (encL c_bool l0_2), .sc (.int .u64 a0_3), .sc (.bool a0_4), .sc (.int .u64 a0_5)]⟩), (.tmp 2 0, ⟨.box, 0, [.sc (.int .u64 0), .sc (.int .u64 0), .own 2 (([] : List S122).length) (encL c122 ([] : List S122)), .sc (.int .i64 0), .sc (.int .u64 0)]⟩), (.tmp 3 0, ⟨.box, 0, [.sc (.int .u64 a0_3), .sc (.int .u64 j2.1), .own 2 0 (encL c122 ([] : List S122)), .sc (.int .i64 j2.2), .sc (.int .u64 a0_5)]⟩)], [], []⟩) (fun J4 hJ4 => ?_) ?_
 ·replace h := h3; clear hn
  refine ga_k fun G5 G5n G5r G5x => ?_
  refine regD_k ?_
  simp +decide only [Nat.reduceAdd, Nat.reduceMul, Int.reduceToNat, ak]
  obtain ⟨t6, h7, h⟩ := of_bind h
  obtain ⟨t9, h10, h⟩ := of_bind h
  refine alt_k ?_ (alt_e ?_)
  ·simp +decide only [Nat.reduceAdd, Nat.reduceMul, Int.reduceToNat, ak]
   refine call_m [(.arg 0, ⟨(.arg 0), [], none, .box⟩)] (s0 := [(.arg 0, ⟨.box, 0, [.sc (.int .u64 a0_0), .own 1 l0_1.length (encL c_u8 l0_1), .own 1 l0_2.length (encL c_bool l0_2), .sc (.int .u64 a0_3), .sc (.bool a0_4), .sc (.int .u64 a0_5)]⟩)]) (by intro t ht; cases ht; decide) rfl rfl (by first | rfl | simp only [reduceCtorEq, Nat.reduceEqDiff, ak, akF]) (impl_buffer_next.tri a0_0 l0_1 l0_2 a0_3 a0_4 a0_5 _ h7) (by first | rfl | simp only [reduceCtorEq, Nat.reduceEqDiff, ak, akF]) (by simp [bkOk2, memK]) (fun hl28 => ?_)
   refine call_st (s4 := [(.arg 0, ⟨.box, 0, [.sc (.int .u64 a0_0), .own 1 l0_1.length (encL c_u8 l0_1), .own 1 l0_2.length (encL c_bool l0_2), .sc (.int .u64 a0_3), .sc (.bool a0_4), .sc (.int .u64 a0_5)]⟩), (.tmp 2 0, ⟨.box, 0, [.sc (.int .u64 0), .sc (.int .u64 0), .own 2 (([] : List S122).length) (encL c122 ([] : List S122)), .sc (.int .i64 0), .sc (.int .u64 0)]⟩)]) (m1' := []) (m2' := []) (v' := .c (.sc (.int .u64 t6))) (Sto.mapN_killNil _ _) (mrgL_whole (new' := [.sc (.int .u64 a0_0), .own 1 l0_1.length (encL c_u8 l0_1), .own 1 l0_2.length (encL c_bool l0_2), .sc (.int .u64 a0_3), .sc (.bool a0_4), .sc (.int .u64 a0_5)]) (mrgL_nil' _ _ _) rfl (by rfl) (.inl ⟨rfl, by first | rfl | simp only [reduceCtorEq, Nat.reduceEqDiff, ak, akF, Nat.zero_add, List.append_nil]⟩)) (by rfl) (mapT_killNil _ _) (by rfl) (by rfl) (by first | rfl | simp only [reduceCtorEq, Nat.reduceEqDiff, ak, akF, Nat.zero_add, List.append_nil]) ?_
   simp +decide only [Nat.reduceAdd, Nat.reduceMul, Int.reduceToNat, ak]
   refine alt_k ?_ (alt_e ?_)
   ·simp +decide only [Nat.reduceAdd, Nat.reduceMul, Int.reduceToNat, ak]
    refine call_m [] (s0 := []) (by intro t ht; cases ht; decide) rfl rfl (by first | rfl | simp only [reduceCtorEq, Nat.reduceEqDiff, ak, akF]) (impl_mark.tri a0_4 _ h10) (by first | rfl | simp only [reduceCtorEq, Nat.reduceEqDiff, ak, akF]) (by simp [bkOk2, memK]) (fun hl38 => ?_)
    refine call_st (s4 := [(.arg 0, ⟨.box, 0, [.sc (.int .u64 a0_0), .own 1 l0_1.length (encL c_u8 l0_1), .own 1 l0_2.length (encL c_bool l0_2), .sc (.int .u64 a0_3), .sc (.bool a0_4), .sc (.int .u64 a0_5)]⟩), (.tmp 2 0, ⟨.box, 0, [.sc (.int .u64 0), .sc (.int .u64 0), .own 2 (([] : List S122).length) (encL c122 ([] : List S122)), .sc (.int .i64 0), .sc (.int .u64 0)]⟩)]) (m1' := []) (m2' := []) (v' := .c (.sc (.int .i64 t9))) (Sto.mapN_killNil _ _) (mrgL_nil' _ _ _) (by rfl) (mapT_killNil _ _) (by rfl) (by rfl) (by first | rfl | simp only [reduceCtorEq, Nat.reduceEqDiff, ak, akF, Nat.zero_add, List.append_nil]) ?_
    simp +decide only [Nat.reduceAdd, Nat.reduceMul, Int.reduceToNat, ak]
    refine alt_k ?_ (alt_e ?_)
    ·simp +decide only [Nat.reduceAdd, Nat.reduceMul, Int.reduceToNat, ak]
     refine ghp_k (Weak.nmg' 20 2 (.tmp 20 22) 2 (encL c122 ([] : List S122)) rfl rfl rfl rfl) ?_
     try simp +decide only [Nat.reduceAdd, Nat.reduceMul, Int.reduceToNat, ak]
     refine alt_e ?_
     ·simp +decide only [Nat.reduceAdd, Nat.reduceMul, Int.reduceToNat, ak]
      refine ghp_k (Weak.own (.tmp 3 0) (cs' := [.sc (.int .u64 0), .sc (.int .u64 0), .own 2 (([] : List S122).length) (encL c122 ([] : List S122)), .sc (.int .i64 0), .sc (.int .u64 0)]) rfl ⟨.inl rfl, .inl rfl, .inr ⟨rfl, _, rfl⟩, .inl rfl, .inl rfl, trivial⟩) ?_
      try simp +decide only [Nat.reduceAdd, Nat.reduceMul, Int.reduceToNat, ak]
      refine alt_e ?_
      ·have g47 : (encL c122 ([] : List S122)).length = 0 * 2 := by simp [encL_length c122_w]
       simp +decide only [Nat.reduceAdd, Nat.reduceMul, Int.reduceToNat, ak, g47]
       obtain rfl := Option.some.inj h
       refine G5n _ _ (wk [0, 2, 3] [pI (.arg 0) .box, pI (.tmp 2 0) .box, pI (.tmp 3 0) .box] (h := by first | rfl | (simp +decide only [ak, akF]; done) | (simp +decide [ak, akF] <;> omega))) (hJ4 _ rfl)
    ·simp +decide only [Nat.reduceAdd, Nat.reduceMul, Int.reduceToNat, ak]
     refine ghp_k (Weak.own (.tmp 3 0) (cs' := [.sc (.int .u64 0), .sc (.int .u64 0), .own 2 (([] : List S122).length) (encL c122 ([] : List S122)), .sc (.int .i64 0), .sc (.int .u64 0)]) rfl ⟨.inl rfl, .inl rfl, .inr ⟨rfl, _, rfl⟩, .inl rfl, .inl rfl, trivial⟩) ?_
     try simp +decide only [Nat.reduceAdd, Nat.reduceMul, Int.reduceToNat, ak]
     refine alt_e ?_
     ·simp +decide only [Nat.reduceAdd, Nat.reduceMul, Int.reduceToNat, ak]
      refine ghp_k (Weak.nmg' 20 2 (.tmp 20 22) 2 (encL c122 ([] : List S122)) rfl rfl rfl rfl) ?_
      try simp +decide only [Nat.reduceAdd, Nat.reduceMul, Int.reduceToNat, ak]
      refine alt_e ?_
      ·have g51 : (encL c122 ([] : List S122)).length = 0 * 2 := by simp [encL_length c122_w]
       simp +decide only [Nat.reduceAdd, Nat.reduceMul, Int.reduceToNat, ak, g51]
       obtain rfl := Option.some.inj h
       refine G5n _ _ (wk [0, 2, 3] [pI (.arg 0) .box, pI (.tmp 2 0) .box, pI (.tmp 3 0) .box] (h := by first | rfl | (simp +decide only [ak, akF]; done) | (simp +decide [ak, akF] <;> omega))) (hJ4 _ rfl)
   ·simp +decide only [Nat.reduceAdd, Nat.reduceMul, Int.reduceToNat, ak]
    refine ghp_k (Weak.own (.tmp 3 0) (cs' := [.sc (.int .u64 0), .sc (.int .u64 0), .own 2 (([] : List S122).length) (encL c122 ([] : List S122)), .sc (.int .i64 0), .sc (.int .u64 0)]) rfl ⟨.inl rfl, .inl rfl, .inr ⟨rfl, _, rfl⟩, .inl rfl, .inl rfl, trivial⟩) ?_
    try simp +decide only [Nat.reduceAdd, Nat.reduceMul, Int.reduceToNat, ak]
    refine alt_e ?_
    ·simp +decide only [Nat.reduceAdd, Nat.reduceMul, Int.reduceToNat, ak]
     refine call_m [] (s0 := []) (by intro t ht; cases ht; decide) rfl rfl (by first | rfl | simp only [reduceCtorEq, Nat.reduceEqDiff, ak, akF]) (impl_mark.tri a0_4 _ h10) (by first | rfl | simp only [reduceCtorEq, Nat.reduceEqDiff, ak, akF]) (by simp [bkOk2, memK]) (fun hl56 => ?_)
     refine call_st (s4 := [(.arg 0, ⟨.box, 0, [.sc (.int .u64 a0_0), .own 1 l0_1.length (encL c_u8 l0_1), .own 1 l0_2.length (encL c_bool l0_2), .sc (.int .u64 a0_3), .sc (.bool a0_4), .sc (.int .u64 a0_5)]⟩), (.tmp 2 0, ⟨.box, 0, [.sc (.int .u64 0), .sc (.int .u64 0), .own 2 (([] : List S122).length) (encL c122 ([] : List S122)), .sc (.int .i64 0), .sc (.int .u64 0)]⟩), (.tmp 3 0, ⟨.box, 0, [.sc (.int .u64 0), .sc (.int .u64 0), .own 2 (([] : List S122).length) (encL c122 ([] : List S122)), .sc (.int .i64 0), .sc (.int .u64 0)]⟩)]) (m1' := []) (m2' := []) (v' := .c (.sc (.int .i64 t9))) (Sto.mapN_killNil _ _) (mrgL_nil' _ _ _) (by rfl) (mapT_killNil _ _) (by rfl) (by rfl) (by first | rfl | simp only [reduceCtorEq, Nat.reduceEqDiff, ak, akF, Nat.zero_add, List.append_nil]) ?_
     simp +decide only [Nat.reduceAdd, Nat.reduceMul, Int.reduceToNat, ak]
     refine alt_e ?_
     ·simp +decide only [Nat.reduceAdd, Nat.reduceMul, Int.reduceToNat, ak]
      refine ghp_k (Weak.nmg' 20 2 (.tmp 20 22) 2 (encL c122 ([] : List S122)) rfl rfl rfl rfl) ?_
      try simp +decide only [Nat.reduceAdd, Nat.reduceMul, Int.reduceToNat, ak]
      refine alt_e ?_
      ·have g61 : (encL c122 ([] : List S122)).length = 0 * 2 := by simp [encL_length c122_w]
       simp +decide only [Nat.reduceAdd, Nat.reduceMul, Int.reduceToNat, ak, g61]
       obtain rfl := Option.some.inj h
       refine G5n _ _ (wk [0, 2, 3] [pI (.arg 0) .box, pI (.tmp 2 0) .box, pI (.tmp 3 0) .box] (h := by first | rfl | (simp +decide only [ak, akF]; done) | (simp +decide [ak, akF] <;> omega))) (hJ4 _ rfl)
  ·simp +decide only [Nat.reduceAdd, Nat.reduceMul, Int.reduceToNat, ak]
   refine ghp_k (Weak.own (.tmp 3 0) (cs' := [.sc (.int .u64 0), .sc (.int .u64 0), .own 2 (([] : List S122).length) (encL c122 ([] : List S122)), .sc (.int .i64 0), .sc (.int .u64 0)]) rfl ⟨.inl rfl, .inl rfl, .inr ⟨rfl, _, rfl⟩, .inl rfl, .inl rfl, trivial⟩) ?_
   try simp +decide only [Nat.reduceAdd, Nat.reduceMul, Int.reduceToNat, ak]
   refine alt_e ?_
   ·simp +decide only [Nat.reduceAdd, Nat.reduceMul, Int.reduceToNat, ak]
    refine call_m [(.arg 0, ⟨(.arg 0), [], none, .box⟩)] (s0 := [(.arg 0, ⟨.box, 0, [.sc (.int .u64 a0_0), .own 1 l0_1.length (encL c_u8 l0_1), .own 1 l0_2.length (encL c_bool l0_2), .sc (.int .u64 a0_3), .sc (.bool a0_4), .sc (.int .u64 a0_5)]⟩)]) (by intro t ht; cases ht; decide) rfl rfl (by first | rfl | simp only [reduceCtorEq, Nat.reduceEqDiff, ak, akF]) (impl_buffer_next.tri a0_0 l0_1 l0_2 a0_3 a0_4 a0_5 _ h7) (by first | rfl | simp only [reduceCtorEq, Nat.reduceEqDiff, ak, akF]) (by simp [bkOk2, memK]) (fun hl72 => ?_)
    refine call_st (s4 := [(.arg 0, ⟨.box, 0, [.sc (.int .u64 a0_0), .own 1 l0_1.length (encL c_u8 l0_1), .own 1 l0_2.length (encL c_bool l0_2), .sc (.int .u64 a0_3), .sc (.bool a0_4), .sc (.int .u64 a0_5)]⟩), (.tmp 2 0, ⟨.box, 0, [.sc (.int .u64 0), .sc (.int .u64 0), .own 2 (([] : List S122).length) (encL c122 ([] : List S122)), .sc (.int .i64 0), .sc (.int .u64 0)]⟩), (.tmp 3 0, ⟨.box, 0, [.sc (.int .u64 0), .sc (.int .u64 0), .own 2 (([] : List S122).length) (encL c122 ([] : List S122)), .sc (.int .i64 0), .sc (.int .u64 0)]⟩)]) (m1' := []) (m2' := []) (v' := .c (.sc (.int .u64 t6))) (Sto.mapN_killNil _ _) (mrgL_whole (new' := [.sc (.int .u64 a0_0), .own 1 l0_1.length (encL c_u8 l0_1), .own 1 l0_2.length (encL c_bool l0_2), .sc (.int .u64 a0_3), .sc (.bool a0_4), .sc (.int .u64 a0_5)]) (mrgL_nil' _ _ _) rfl (by rfl) (.inl ⟨rfl, by first | rfl | simp only [reduceCtorEq, Nat.reduceEqDiff, ak, akF, Nat.zero_add, List.append_nil]⟩)) (by rfl) (mapT_killNil _ _) (by rfl) (by rfl) (by first | rfl | simp only [reduceCtorEq, Nat.reduceEqDiff, ak, akF, Nat.zero_add, List.append_nil]) ?_
    simp +decide only [Nat.reduceAdd, Nat.reduceMul, Int.reduceToNat, ak]
    refine alt_e ?_
    ·simp +decide only [Nat.reduceAdd, Nat.reduceMul, Int.reduceToNat, ak]
     refine call_m [] (s0 := []) (by intro t ht; cases ht; decide) rfl rfl (by first | rfl | simp only [reduceCtorEq, Nat.reduceEqDiff, ak, akF]) (impl_mark.tri a0_4 _ h10) (by first | rfl | simp only [reduceCtorEq, Nat.reduceEqDiff, ak, akF]) (by simp [bkOk2, memK]) (fun hl78 => ?_)
     refine call_st (s4 := [(.arg 0, ⟨.box, 0, [.sc (.int .u64 a0_0), .own 1 l0_1.length (encL c_u8 l0_1), .own 1 l0_2.length (encL c_bool l0_2), .sc (.int .u64 a0_3), .sc (.bool a0_4), .sc (.int .u64 a0_5)]⟩), (.tmp 2 0, ⟨.box, 0, [.sc (.int .u64 0), .sc (.int .u64 0), .own 2 (([] : List S122).length) (encL c122 ([] : List S122)), .sc (.int .i64 0), .sc (.int .u64 0)]⟩), (.tmp 3 0, ⟨.box, 0, [.sc (.int .u64 0), .sc (.int .u64 0), .own 2 (([] : List S122).length) (encL c122 ([] : List S122)), .sc (.int .i64 0), .sc (.int .u64 0)]⟩)]) (m1' := []) (m2' := []) (v' := .c (.sc (.int .i64 t9))) (Sto.mapN_killNil _ _) (mrgL_nil' _ _ _) (by rfl) (mapT_killNil _ _) (by rfl) (by rfl) (by first | rfl | simp only [reduceCtorEq, Nat.reduceEqDiff, ak, akF, Nat.zero_add, List.append_nil]) ?_
     simp +decide only [Nat.reduceAdd, Nat.reduceMul, Int.reduceToNat, ak]
     refine alt_e ?_
     ·simp +decide only [Nat.reduceAdd, Nat.reduceMul, Int.reduceToNat, ak]
      refine ghp_k (Weak.nmg' 20 2 (.tmp 20 22) 2 (encL c122 ([] : List S122)) rfl rfl rfl rfl) ?_
      try simp +decide only [Nat.reduceAdd, Nat.reduceMul, Int.reduceToNat, ak]
      refine alt_e ?_
      ·have g83 : (encL c122 ([] : List S122)).length = 0 * 2 := by simp [encL_length c122_w]
       simp +decide only [Nat.reduceAdd, Nat.reduceMul, Int.reduceToNat, ak, g83]
       obtain rfl := Option.some.inj h
       refine G5n _ _ (wk [0, 2, 3] [pI (.arg 0) .box, pI (.tmp 2 0) .box, pI (.tmp 3 0) .box] (h := by first | rfl | (simp +decide only [ak, akF]; done) | (simp +decide [ak, akF] <;> omega))) (hJ4 _ rfl)
 ·replace h := hn; clear hn h3
  rintro _ rfl
  refine seq_k fun J84 hJ84 => ?_
  refine sr_k fun J85 hJ85 => ?_
  simp +decide only [Nat.reduceAdd, Nat.reduceMul, Int.reduceToNat, ak]
  refine hJ85 _ ?_
  refine block_k fun B86 B86n B86x B86r B86j => ?_
  obtain ⟨y104, h105, h⟩ := of_bind h
  refine gh_k (st' := ⟨[(0, .c (.ptr (.arg 0) [] 0)), (2, .c (.ptr (.tmp 2 0) [] 0)), (3, .c (.ptr (.tmp 3 0) [] 0)), (4, .c (.sc (.int .u64 a0_3)))], [(.arg 0, ⟨.box, 0, [.sc (.int .u64 a0_0), .own 1 l0_1.length (encL c_u8 l0_1), .own 1 l0_2.length (encL c_bool l0_2), .sc (.int .u64 a0_3), .sc (.bool a0_4), .sc (.int .u64 a0_5)]⟩), (.tmp 2 0, ⟨.box, 0, [.sc (.int .u64 0), .sc (.int .u64 0), .own 2 (([] : List S122).length) (encL c122 ([] : List S122)), .sc (.int .i64 0), .sc (.int .u64 0)]⟩), (.tmp 3 0, ⟨.box, 0, [.sc (.int .u64 a0_3), .sc (.int .u64 j2.1), .own 2 (([] : List S122).length) (encL c122 ([] : List S122)), .sc (.int .i64 j2.2), .sc (.int .u64 a0_5)]⟩)], [], []⟩) (wk [0, 2, 3, 4] [pI (.arg 0) .box, pI (.tmp 2 0) .box, pI (.tmp 3 0) .box] (h := by first | rfl | (simp +decide only [ak, akF]; done) | (simp +decide [ak, akF] <;> omega))) ?_
  rw [e_loop]
  refine impl_buffer_view.l0_walk a0_0 l0_1 l0_2 a0_3 a0_4 a0_5 0 0 ([] : List S122) 0 0 a0_3 j2.1 j2.2 a0_5 a0_3 ([] : List S122) _ h105 _ ?_
  refine B86x _ ?_
  refine hJ84 _ ?_
  refine sr_k fun J106 hJ106 => ?_
  simp +decide only [Nat.reduceAdd, Nat.reduceMul, Int.reduceToNat, ak]
  refine hJ106 _ ?_
  obtain rfl := Option.some.inj h
  refine hKr _ ⟨_, rfl, [⟨(.tmp 3 0), [2], none, .lst⟩], _, rfl, rfl, ?_⟩
  first | rfl | (simp only [reduceCtorEq, Nat.reduceEqDiff, ak, akF]; done) | (simp [reduceCtorEq, Nat.reduceEqDiff, ak, akF] <;> omega)
/-! ### impl.ReorderState: function 57 -/
def C57 : AC := .seq (.reg [.op none (.alloc 6 [.int .u64 0, .int .u64 0, .slice none 0 0, .int .i64 0, .int .u64 0]), .gh, .op none (.mv 7 (.const (.int .i64 0))), .keep [0, 1, 2, 6]]) (.seq (.reg [.op none (.mv 12 (.tmp 0)), .op none (.mv 13 (.tmp 1)), .op none (.mv 14 (.tmp 2)), .call none (some 15) 102 [.tmp 12, .tmp 13, .tmp 14], .op none (.mv 11 (.tmp 15)), .op none (.extr 16 (.tmp 11) 0), .op none (.extr 17 (.tmp 11) 1), .op none (.extr 18 (.tmp 11) 2), .op none (.mv 8 (.tmp 16)), .op none (.mv 9 (.tmp 17)), .op none (.mv 10 (.tmp 18)), .keep [6, 8, 10]]) (.seq (.seq (.reg [.op none (.mv 19 (.tmp 10)), .op none (.bin 20 .neq (.tmp 19) (.const (.int .i64 0))), .keep [6, 8, 10, 20]]) (.cond (.tmp 20) (.seq (.reg [.op none (.build 21 [.int .u64 0, .int .u64 0, .slice none 0 0, .int .i64 0, .int .u64 0] []), .gh, .op none (.mv 22 (.tmp 10)), .op none (.store 5 (.tmp 6) (.tmp 21)), .op none (.mv 7 (.tmp 22)), .keep [6, 7]]) (.ret)) (.skip))) (.seq (.reg [.op none (.mv 23 (.tmp 8)), .call none (some 24) 106 [.tmp 23], .op none (.store 5 (.tmp 6) (.tmp 24)), .op none (.mv 7 (.const (.int .i64 0))), .keep [6, 7]]) (.ret))))
def r57 : List RV := [.cell 6 true 5, .tmp 7]
theorem k57 : compC Try.prog 25 C57 (Try.f57.body.getD .skip) = some C57.erase := by kernel_rfl
theorem q57 : rvsOf Try.prog Try.f57.results.toList = some r57 := by kernel_rfl
def impl_ReorderState.f (a0 : Int) (a1 : Int) (l2 : List S116) : Option (Int × Int × (List S122) × Int × Int × Int) := (impl_reorderAfter.f a0 a1 l2 >>= fun t3 => (match t3.1 with | none => (if t3.2.2 ≠ 0 then (some (0, 0, ([] : List S122), 0, 0, t3.2.2)) else none) | some p7 => (if t3.2.2 ≠ 0 then (some (0, 0, ([] : List S122), 0, 0, t3.2.2)) else (impl_buffer_view.f p7.1 p7.2.1 p7.2.2.1 p7.2.2.2.1 p7.2.2.2.2.1 p7.2.2.2.2.2 >>= fun t21 => (some (t21.1, t21.2.1, t21.2.2.1, t21.2.2.2.1, t21.2.2.2.2, 0))))))
theorem impl_ReorderState.tri (cs0 : List Cell) (o0 : Nat) (l2 : List S116) (hv0 : Vw c116 4 cs0 o0 l2) (a0 : Int) (a1 : Int) (r : Int × Int × (List S122) × Int × Int × Int) (h : impl_ReorderState.f a0 a1 l2 = some r) : Tri Try.prog 57 [.c (.sc (.int .u64 a0)), .c (.sc (.int .i64 a1)), .c (.ref (.arg 0) [] o0 l2.length)] [(.arg 0, ⟨.fz, 4, cs0⟩)] (fun o => o = ⟨.tup [(true, [.sc (.int .u64 r.1), .sc (.int .u64 r.2.1), .ref (.res 0) [] 0 r.2.2.1.length, .sc (.int .i64 r.2.2.2.1), .sc (.int .u64 r.2.2.2.2.1)]), (false, [.sc (.int .i64 r.2.2.2.2.2)])], [(.arg 0, ⟨.fz, 4, cs0⟩), (.res 0, ⟨.lst, 2, encL c122 r.2.2.1⟩)], [], []⟩) := by
 refine tri_of_body (ac := C57) (xs := r57) Try.func57 (show Try.f57.body = some (Try.f57.body.getD .skip) from rfl) k57 q57 (Nat.le_of_ble_eq_true rfl) ?_
 refine body_of fun K hKn hKr => ?_
 unfold impl_ReorderState.f at h
 unfold C57
 simp only [initT, Nat.reduceAdd]
 refine sr_k fun J1 hJ1 => ?_
 simp +decide only [Nat.reduceAdd, Nat.reduceMul, Int.reduceToNat, ak]
 refine gho_k (Weak.own (.tmp 6 0) (cs' := [.sc (.int .u64 0), .sc (.int .u64 0), .own 2 (([] : List S122).length) (encL c122 ([] : List S122)), .sc (.int .i64 0), .sc (.int .u64 0)]) rfl ⟨.inl rfl, .inl rfl, .inr ⟨rfl, _, rfl⟩, .inl rfl, .inl rfl, trivial⟩) ?_
 simp +decide only [Nat.reduceAdd, Nat.reduceMul, Int.reduceToNat, ak]
 refine hJ1 _ ?_
 refine sr_k fun J2 hJ2 => ?_
 simp +decide only [Nat.reduceAdd, Nat.reduceMul, Int.reduceToNat, ak]
 obtain ⟨t3, h4, h⟩ := of_bind h
 rcases hpo : t3.1 with _ | p7
 ·have hpp5 := hpo
  rw [hpo] at h; dsimp only at h
  refine call_m [(.arg 0, ⟨(.arg 0), [], none, .fz⟩)] (s0 := [(.arg 0, ⟨.fz, 4, cs0⟩)]) (by intro t ht; cases ht; decide) rfl rfl (by first | rfl | simp only [reduceCtorEq, Nat.reduceEqDiff, ak, akF]) (impl_reorderAfter.tri0 (cs0) o0 l2 hv0 a0 a1 _ h4 hpp5) (by first | rfl | simp only [reduceCtorEq, Nat.reduceEqDiff, ak, akF]) (by simp [bkOk2, memK]) (fun hl5 => ?_)
  refine call_st (s4 := [(.arg 0, ⟨.fz, 4, cs0⟩), (.tmp 6 0, ⟨.box, 0, [.sc (.int .u64 0), .sc (.int .u64 0), .own 2 (([] : List S122).length) (encL c122 ([] : List S122)), .sc (.int .i64 0), .sc (.int .u64 0)]⟩), (.tmp 15 0, ⟨.lst, 3, encL c118 t3.2.1⟩)]) (m1' := []) (m2' := []) (v' := .tup [(false, [.sc (.pointer none)]), (false, [.ref (.tmp 15 0) [] 0 t3.2.1.length]), (false, [.sc (.int .i64 t3.2.2)])]) (Sto.mapN_killNil _ _) (mrgL_fz (mrgL_nil' _ _ _) rfl (by first | rfl | simp only [reduceCtorEq, Nat.reduceEqDiff, ak]) rfl (by intro R hR hh; cases hR; cases hh.2)) (by rfl) (mapT_killNil _ _) (by rfl) (by rfl) (by first | rfl | simp only [reduceCtorEq, Nat.reduceEqDiff, ak, akF, Nat.zero_add, List.append_nil]) ?_
  simp +decide only [Nat.reduceAdd, Nat.reduceMul, Int.reduceToNat, ak]
  refine hJ2 _ ?_
  refine seq_k fun J9 hJ9 => ?_
  refine sr_k fun J10 hJ10 => ?_
  simp +decide only [Nat.reduceAdd, Nat.reduceMul, Int.reduceToNat, ak]
  refine hJ10 _ ?_
  refine cond_k (b := decide (t3.2.2 ≠ 0)) rfl (fun c11 => ?_) (fun c11 => ?_)
  ·replace c11 := of_decide_eq_true c11; rw [if_pos c11] at h
   refine sr_k fun J12 hJ12 => ?_
   simp +decide only [Nat.reduceAdd, Nat.reduceMul, Int.reduceToNat, ak]
   refine gho_k (Weak.nmg' 21 2 (.tmp 21 22) 2 (encL c122 ([] : List S122)) rfl rfl rfl rfl) ?_
   have g13 : (encL c122 ([] : List S122)).length = 0 * 2 := by simp [encL_length c122_w]
   simp +decide only [Nat.reduceAdd, Nat.reduceMul, Int.reduceToNat, ak, g13]
   refine hJ12 _ ?_
   obtain rfl := Option.some.inj h
   refine hKr _ ⟨_, rfl, [⟨(.tmp 6 0), [2], none, .lst⟩], _, rfl, rfl, ?_⟩
   first | rfl | (simp only [reduceCtorEq, Nat.reduceEqDiff, ak, akF]; done) | (simp [reduceCtorEq, Nat.reduceEqDiff, ak, akF] <;> omega)
  ·replace c11 := of_decide_eq_false c11; rw [if_neg c11] at h
   refine hJ9 _ ?_
   refine sr_k fun J14 hJ14 => ?_
   simp +decide only [Nat.reduceAdd, Nat.reduceMul, Int.reduceToNat, ak]
   cases h
 ·have hpp7 := hpo
  rw [hpo] at h; dsimp only at h
  refine call_m [(.arg 0, ⟨(.arg 0), [], none, .fz⟩)] (s0 := [(.arg 0, ⟨.fz, 4, cs0⟩)]) (by intro t ht; cases ht; decide) rfl rfl (by first | rfl | simp only [reduceCtorEq, Nat.reduceEqDiff, ak, akF]) (impl_reorderAfter.tri1 (cs0) o0 l2 hv0 a0 a1 _ h4 _ hpp7) (by first | rfl | simp only [reduceCtorEq, Nat.reduceEqDiff, ak, akF]) (by simp [bkOk2, memK]) (fun hl7 => ?_)
  refine call_st (s4 := [(.arg 0, ⟨.fz, 4, cs0⟩), (.tmp 6 0, ⟨.box, 0, [.sc (.int .u64 0), .sc (.int .u64 0), .own 2 (([] : List S122).length) (encL c122 ([] : List S122)), .sc (.int .i64 0), .sc (.int .u64 0)]⟩), (.tmp 15 1, ⟨.lst, 3, encL c118 t3.2.1⟩), (.tmp 15 0, ⟨.box, 0, [.sc (.int .u64 p7.1), .own 1 p7.2.1.length (encL c_u8 p7.2.1), .own 1 p7.2.2.1.length (encL c_bool p7.2.2.1), .sc (.int .u64 p7.2.2.2.1), .sc (.bool p7.2.2.2.2.1), .sc (.int .u64 p7.2.2.2.2.2)]⟩)]) (m1' := []) (m2' := []) (v' := .tup [(false, [.ptr (.tmp 15 0) [] 0]), (false, [.ref (.tmp 15 1) [] 0 t3.2.1.length]), (false, [.sc (.int .i64 t3.2.2)])]) (Sto.mapN_killNil _ _) (mrgL_fz (mrgL_nil' _ _ _) rfl (by first | rfl | simp only [reduceCtorEq, Nat.reduceEqDiff, ak]) rfl (by intro R hR hh; cases hR; cases hh.2)) (by rfl) (mapT_killNil _ _) (by rfl) (by rfl) (by first | rfl | simp only [reduceCtorEq, Nat.reduceEqDiff, ak, akF, Nat.zero_add, List.append_nil]) ?_
  simp +decide only [Nat.reduceAdd, Nat.reduceMul, Int.reduceToNat, ak]
  refine hJ2 _ ?_
  refine seq_k fun J15 hJ15 => ?_
  refine sr_k fun J16 hJ16 => ?_
  simp +decide only [Nat.reduceAdd, Nat.reduceMul, Int.reduceToNat, ak]
  refine hJ16 _ ?_
  refine cond_k (b := decide (t3.2.2 ≠ 0)) rfl (fun c17 => ?_) (fun c17 => ?_)
  ·replace c17 := of_decide_eq_true c17; rw [if_pos c17] at h
   refine sr_k fun J18 hJ18 => ?_
   simp +decide only [Nat.reduceAdd, Nat.reduceMul, Int.reduceToNat, ak]
   refine gho_k (Weak.nmg' 21 2 (.tmp 21 22) 2 (encL c122 ([] : List S122)) rfl rfl rfl rfl) ?_
   have g19 : (encL c122 ([] : List S122)).length = 0 * 2 := by simp [encL_length c122_w]
   simp +decide only [Nat.reduceAdd, Nat.reduceMul, Int.reduceToNat, ak, g19]
   refine hJ18 _ ?_
   obtain rfl := Option.some.inj h
   refine hKr _ ⟨_, rfl, [⟨(.tmp 6 0), [2], none, .lst⟩], _, rfl, rfl, ?_⟩
   first | rfl | (simp only [reduceCtorEq, Nat.reduceEqDiff, ak, akF]; done) | (simp [reduceCtorEq, Nat.reduceEqDiff, ak, akF] <;> omega)
  ·replace c17 := of_decide_eq_false c17; rw [if_neg c17] at h
   refine hJ15 _ ?_
   refine sr_k fun J20 hJ20 => ?_
   simp +decide only [Nat.reduceAdd, Nat.reduceMul, Int.reduceToNat, ak]
   obtain ⟨t21, h22, h⟩ := of_bind h
   refine call_m [(.arg 0, ⟨(.tmp 15 0), [], none, .box⟩)] (s0 := [(.arg 0, ⟨.box, 0, [.sc (.int .u64 p7.1), .own 1 p7.2.1.length (encL c_u8 p7.2.1), .own 1 p7.2.2.1.length (encL c_bool p7.2.2.1), .sc (.int .u64 p7.2.2.2.1), .sc (.bool p7.2.2.2.2.1), .sc (.int .u64 p7.2.2.2.2.2)]⟩)]) (by intro t ht; cases ht; decide) rfl rfl (by first | rfl | simp only [reduceCtorEq, Nat.reduceEqDiff, ak, akF]) (impl_buffer_view.tri p7.1 p7.2.1 p7.2.2.1 p7.2.2.2.1 p7.2.2.2.2.1 p7.2.2.2.2.2 _ h22) (by first | rfl | simp only [reduceCtorEq, Nat.reduceEqDiff, ak, akF]) (by simp [bkOk2, memK]) (fun hl22 => ?_)
   refine call_st (s4 := [(.arg 0, ⟨.fz, 4, cs0⟩), (.tmp 6 0, ⟨.box, 0, [.sc (.int .u64 0), .sc (.int .u64 0), .own 2 (([] : List S122).length) (encL c122 ([] : List S122)), .sc (.int .i64 0), .sc (.int .u64 0)]⟩), (.tmp 15 1, ⟨.lst, 3, encL c118 t3.2.1⟩), (.tmp 15 0, ⟨.box, 0, [.sc (.int .u64 p7.1), .own 1 p7.2.1.length (encL c_u8 p7.2.1), .own 1 p7.2.2.1.length (encL c_bool p7.2.2.1), .sc (.int .u64 p7.2.2.2.1), .sc (.bool p7.2.2.2.2.1), .sc (.int .u64 p7.2.2.2.2.2)]⟩), (.tmp 24 0, ⟨.lst, 2, encL c122 t21.2.2.1⟩)]) (m1' := []) (m2' := []) (v' := .g [.sc (.int .u64 t21.1), .sc (.int .u64 t21.2.1), .ref (.tmp 24 0) [] 0 t21.2.2.1.length, .sc (.int .i64 t21.2.2.2.1), .sc (.int .u64 t21.2.2.2.2)]) (Sto.mapN_killNil _ _) (mrgL_whole (new' := [.sc (.int .u64 p7.1), .own 1 p7.2.1.length (encL c_u8 p7.2.1), .own 1 p7.2.2.1.length (encL c_bool p7.2.2.1), .sc (.int .u64 p7.2.2.2.1), .sc (.bool p7.2.2.2.2.1), .sc (.int .u64 p7.2.2.2.2.2)]) (mrgL_nil' _ _ _) rfl (by rfl) (.inl ⟨rfl, by first | rfl | simp only [reduceCtorEq, Nat.reduceEqDiff, ak, akF, Nat.zero_add, List.append_nil]⟩)) (by rfl) (mapT_killNil _ _) (by rfl) (by rfl) (by first | rfl | simp only [reduceCtorEq, Nat.reduceEqDiff, ak, akF, Nat.zero_add, List.append_nil]) ?_
   have g24 : (encL c122 t21.2.2.1).length = t21.2.2.1.length * 2 := by simp [encL_length c122_w]
   simp +decide only [Nat.reduceAdd, Nat.reduceMul, Int.reduceToNat, ak, g24]
   refine hJ20 _ ?_
   obtain rfl := Option.some.inj h
   refine hKr _ ⟨_, rfl, [⟨(.tmp 6 0), [2], none, .lst⟩], _, rfl, rfl, ?_⟩
   first | rfl | (simp only [reduceCtorEq, Nat.reduceEqDiff, ak, akF]; done) | (simp [reduceCtorEq, Nat.reduceEqDiff, ak, akF] <;> omega)
/-! ### impl.validSpans: function 112 -/
def C112_l0 : AC := .seq (.reg [.op none (.bin 20 .lss (.tmp 19) (.tmp 18)), .keep [0, 17, 18, 19, 20]]) (.seq (.cond (.tmp 20) (.skip) (.gh (.exit 0))) (.seq (.block 1 (.seq (.reg [.op none (.mv 21 (.tmp 19)), .op none (.iaddr 22 2 (.tmp 17) (.tmp 19)), .op none (.load 23 true 2 (.tmp 22)), .op none (.alloc 6 [.int .u64 0, .int .u64 0]), .op none (.mv 5 (.tmp 21)), .op none (.store 2 (.tmp 6) (.tmp 23)), .keep [0, 5, 6, 17, 18, 19]]) (.seq (.ga (.regD (.first (.op none (.faddr 24 0 (.tmp 6))) (.first (.op none (.load 25 false 1 (.tmp 24))) (.first (.op none (.faddr 26 1 (.tmp 6))) (.first (.op none (.load 27 false 1 (.tmp 26))) (.first (.op none (.bin 28 .geq (.tmp 25) (.tmp 27))) (.first (.op none (.mv 29 (.tmp 28))) (.first (.op (some (29, false)) (.mv 30 (.tmp 5))) (.first (.op (some (29, false)) (.bin 31 .gtr (.tmp 30) (.const (.int .i64 0)))) (.first (.op (some (29, false)) (.mv 32 (.tmp 31))) (.first (.op (some (32, true)) (.faddr 33 0 (.tmp 6))) (.first (.op (some (32, true)) (.load 34 false 1 (.tmp 33))) (.first (.op (some (32, true)) (.mv 35 (.tmp 0))) (.first (.op (some (32, true)) (.mv 36 (.tmp 5))) (.first (.op (some (32, true)) (.bin 37 .sub (.tmp 36) (.const (.int .i64 1)))) (.first (.op (some (32, true)) (.iaddr 38 2 (.tmp 35) (.tmp 37))) (.first (.op (some (32, true)) (.faddr 39 1 (.tmp 38))) (.first (.op (some (32, true)) (.load 40 false 1 (.tmp 39))) (.first (.op (some (32, true)) (.bin 41 .leq (.tmp 34) (.tmp 40))) (.first (.op (some (29, false)) (.pick 42 (.tmp 32) (.tmp 41) (.const (.bool false)))) (.first (.op none (.pick 43 (.tmp 29) (.const (.bool true)) (.tmp 42))) (.done))))))))))))))))))))) [0, 17, 18, 19, 43])) (.cond (.tmp 43) (.seq (.reg [.op none (.mv 4 (.const (.bool false))), .keep [4]]) (.gh .ret)) (.skip))))) (.reg [.op none (.bin 44 .add (.tmp 19) (.const (.int .i64 1))), .op none (.mv 19 (.tmp 44)), .keep [0, 17, 18, 19]])))
def C112 : AC := .seq (.reg [.op none (.box 3 (.tmp 1)), .op none (.mv 4 (.const (.bool false))), .keep [0, 3]]) (.seq (.seq (.ga (.reg [.op none (.mv 7 (.tmp 0)), .op none (.len 8 (.tmp 7)), .op none (.bin 9 .gtr (.tmp 8) (.const (.int .i64 1000))), .op none (.mv 10 (.tmp 9)), .op (some (10, false)) (.faddr 11 0 (.tmp 3)), .op (some (10, false)) (.load 12 false 1 (.tmp 11)), .op (some (10, false)) (.faddr 13 1 (.tmp 3)), .op (some (10, false)) (.load 14 false 1 (.tmp 13)), .op (some (10, false)) (.bin 15 .gtr (.tmp 12) (.tmp 14)), .op none (.pick 16 (.tmp 10) (.const (.bool true)) (.tmp 15)), .keep [0, 16]])) (.cond (.tmp 16) (.seq (.reg [.op none (.mv 4 (.const (.bool false))), .keep [4]]) (.ret)) (.skip))) (.seq (.seq (.reg [.op none (.mv 17 (.tmp 0)), .op none (.len 18 (.tmp 17)), .op none (.mv 19 (.const (.int .i64 0))), .keep [0, 17, 18, 19]]) (.block 0 (.gh (.loop (.ga C112_l0))))) (.seq (.reg [.op none (.mv 4 (.const (.bool true))), .keep [4]]) (.ret))))
def r112 : List RV := [.tmp 4]
theorem k112 : compC Try.prog 45 C112 (Try.f112.body.getD .skip) = some C112.erase := by kernel_rfl
theorem q112 : rvsOf Try.prog Try.f112.results.toList = some r112 := by kernel_rfl
def impl_validSpans.l0 (l0 : List S122) (x0_0 : Int) (x0_1 : Int) : Option (Lp Unit Bool) := (if x0_1 < x0_0 then (if 0 ≤ x0_1 ∧ x0_1 < (l0.length : Int) then ((if (rd z122 l0 x0_1).f0 ≥ (rd z122 l0 x0_1).f1 then (some true) else (if x0_1 > 0 then (if 0 ≤ IntKind.i64.wrap (x0_1 - 1) ∧ IntKind.i64.wrap (x0_1 - 1) < (l0.length : Int) then (some (decide ((rd z122 l0 x0_1).f0 ≤ (rd z122 l0 (IntKind.i64.wrap (x0_1 - 1))).f1))) else none) else (some false))) >>= fun (j23 : Bool) => (if j23 = true then (some (.b false)) else (impl_validSpans.l0 l0 x0_0 (IntKind.i64.wrap (x0_1 + 1))))) else none) else (some (.a ())))
 partial_fixpoint
def impl_validSpans.f (l0 : List S122) (a1_0 : Int) (a1_1 : Int) : Option Bool := ((if (l0.length : Int) > 1000 then (some true) else (some (decide (a1_0 > a1_1)))) >>= fun (j3 : Bool) => (if j3 = true then (some false) else (impl_validSpans.l0 l0 (l0.length : Int) 0 >>= fun (y38 : Lp Unit Bool) => match y38 with | .a x40 => (some true) | .b x40 => (some x40))))
def impl_validSpans.l0_M (cs0 : List Cell) (o0 : Nat) (l0 : List S122) (hv0 : Vw c122 2 cs0 o0 l0) (x0_0 : Int) (x0_1 : Int) (y : Lp Unit Bool) : Prop := ∀ (K : AE → St → Prop), (∀ x, y = .a x → K (.exit 0) ⟨[], [(.arg 0, ⟨.fz, 2, cs0⟩)], [], []⟩) → (∀ x, y = .b x → K .ret ⟨[(4, .c (.sc (.bool x)))], [(.arg 0, ⟨.fz, 2, cs0⟩)], [], []⟩) → loopS Try.prog 45 (.ga C112_l0) K ⟨[(0, .c (.ref (.arg 0) [] o0 l0.length)), (17, .c (.ref (.arg 0) [] o0 l0.length)), (18, .c (.sc (.int .i64 x0_0))), (19, .c (.sc (.int .i64 x0_1)))], [(.arg 0, ⟨.fz, 2, cs0⟩)], [], []⟩
theorem impl_validSpans.l0_walk (cs0 : List Cell) (o0 : Nat) (l0 : List S122) (hv0 : Vw c122 2 cs0 o0 l0) (x0_0 : Int) (x0_1 : Int) (y : Lp Unit Bool) (h : impl_validSpans.l0 l0 x0_0 x0_1 = some y) : impl_validSpans.l0_M cs0 o0 l0 hv0 x0_0 x0_1 y := by
 refine impl_validSpans.l0.partial_correctness l0 x0_0 (motive := fun x0_1 y => impl_validSpans.l0_M cs0 o0 l0 hv0 x0_0 x0_1 y) ?_ x0_1 y h
 clear h
 unfold impl_validSpans.l0_M
 intro rec ih x0_1 y h K hx0 hx1
 refine loop_unroll (ga_k fun G0 G0n G0r G0x => ?_)
 unfold C112_l0
 refine sr_k fun J15 hJ15 => ?_
 simp +decide only [Nat.reduceAdd, Nat.reduceMul, Int.reduceToNat, ak]
 refine hJ15 _ ?_
 refine seq_k fun J16 hJ16 => ?_
 refine cond_k (b := decide (x0_1 < x0_0)) rfl (fun c17 => ?_) (fun c17 => ?_)
 ·replace c17 := of_decide_eq_true c17; rw [if_pos c17] at h
  refine hJ16 _ ?_
  refine seq_k fun J18 hJ18 => ?_
  refine block_k fun B19 B19n B19x B19r B19j => ?_
  refine sr_k fun J20 hJ20 => ?_
  obtain ⟨b21, h⟩ := of_guard h
  have g22 : (List.drop (o0 + x0_1.toNat * 2) (cs0)).take 2 = [.sc (.int .u64 ((rd z122 l0 x0_1).f0)), .sc (.int .u64 ((rd z122 l0 x0_1).f1))] := hv0.stretch z122 b21.1 b21.2
  simp +decide only [Nat.reduceAdd, Nat.reduceMul, Int.reduceToNat, ak, b21, g22]
  refine hJ20 _ ?_
  obtain ⟨j23, h24, hn⟩ := of_bind h
  refine seq_j (fun st => st = ⟨[(0, .c (.ref (.arg 0) [] o0 l0.length)), (17, .c (.ref (.arg 0) [] o0 l0.length)), (18, .c (.sc (.int .i64 x0_0))), (19, .c (.sc (.int .i64 x0_1))), (43, .c (.sc (.bool j23)))], [(.arg 0, ⟨.fz, 2, cs0⟩)], [], []⟩) (fun J25 hJ25 => ?_) ?_
  ·replace h := h24; clear hn
   refine ga_k fun G26 G26n G26r G26x => ?_
   refine regD_k ?_
   simp +decide only [Nat.reduceAdd, Nat.reduceMul, Int.reduceToNat, ak]
   by_cases c27 : (rd z122 l0 x0_1).f0 ≥ (rd z122 l0 x0_1).f1
   ·rw [if_pos c27] at h
    have e28 : decide ((rd z122 l0 x0_1).f0 ≥ (rd z122 l0 x0_1).f1) = true := decide_eq_true c27
    simp +decide only [Nat.reduceAdd, Nat.reduceMul, Int.reduceToNat, ak, e28]
    obtain rfl := Option.some.inj h
    refine G26n _ _ (wk [0, 17, 18, 19, 43] [pI (.arg 0) .fz] (h0 := by first | rfl | simp +decide only [ak, akF, b21, e28]) (h := by first | rfl | (simp +decide only [ak, akF, b21, e28]; done) | (simp +decide [ak, akF, b21, e28] <;> omega))) (hJ25 _ rfl)
   ·rw [if_neg c27] at h
    have e29 : decide ((rd z122 l0 x0_1).f0 ≥ (rd z122 l0 x0_1).f1) = false := decide_eq_false c27
    simp +decide only [Nat.reduceAdd, Nat.reduceMul, Int.reduceToNat, ak, e29]
    by_cases c30 : x0_1 > 0
    ·rw [if_pos c30] at h
     have e31 : decide (x0_1 > 0) = true := decide_eq_true c30
     obtain ⟨b32, h⟩ := of_guard h
     have g33 : o0 + (IntKind.i64.wrap (x0_1 - 1)).toNat * 2 + 1 ≤ (cs0).length := (hv0.len_le b32.1 b32.2 (by decide))
     have g34 : (cs0)[o0 + (IntKind.i64.wrap (x0_1 - 1)).toNat * 2 + 1]? = some (.sc (.int .u64 ((rd z122 l0 (IntKind.i64.wrap (x0_1 - 1))).f1))) := hv0.get z122 1 b32.1 b32.2 (by decide)
     simp +decide only [Nat.reduceAdd, Nat.reduceMul, Int.reduceToNat, ak, e31, b32, g33, g34]
     obtain rfl := Option.some.inj h
     refine G26n _ _ (wk [0, 17, 18, 19, 43] [pI (.arg 0) .fz] (h0 := by first | rfl | simp +decide only [ak, akF, b21, b32, e29, e31]) (h := by first | rfl | (simp +decide only [ak, akF, b21, b32, e29, e31]; done) | (simp +decide [ak, akF, b21, b32, e29, e31] <;> omega))) (hJ25 _ rfl)
    ·rw [if_neg c30] at h
     have e35 : decide (x0_1 > 0) = false := decide_eq_false c30
     simp +decide only [Nat.reduceAdd, Nat.reduceMul, Int.reduceToNat, ak, e35]
     obtain rfl := Option.some.inj h
     refine G26n _ _ (wk [0, 17, 18, 19, 43] [pI (.arg 0) .fz] (h0 := by first | rfl | simp +decide only [ak, akF, b21, e29, e35]) (h := by first | rfl | (simp +decide only [ak, akF, b21, e29, e35]; done) | (simp +decide [ak, akF, b21, e29, e35] <;> omega))) (hJ25 _ rfl)
  ·replace h := hn; clear hn h24
   rintro _ rfl
   refine cond_k (b := j23) rfl (fun c36 => ?_) (fun c36 => ?_)
   ·rw [if_pos c36] at h
    refine sr_k fun J37 hJ37 => ?_
    simp +decide only [Nat.reduceAdd, Nat.reduceMul, Int.reduceToNat, ak]
    refine hJ37 _ ?_
    obtain rfl := Option.some.inj h
    refine gh_k (wk [4] [pI (.arg 0) .fz]) ?_
    refine B19r _ ?_
    refine G0r _ ?_
    exact hx1 _ rfl
   ·rw [if_neg (Bool.eq_false_iff.1 c36)] at h
    refine B19n _ ?_
    refine hJ18 _ ?_
    refine reg_k ?_
    simp +decide only [Nat.reduceAdd, Nat.reduceMul, Int.reduceToNat, ak]
    refine G0n _ _ (wk [0, 17, 18, 19] [pI (.arg 0) .fz]) (ih _ _ h K hx0 hx1)
 ·replace c17 := of_decide_eq_false c17; rw [if_neg c17] at h
  obtain rfl := Option.some.inj h
  refine gh_k (wk [] [pI (.arg 0) .fz]) ?_
  refine G0x _ _ ?_
  exact hx0 _ rfl
theorem impl_validSpans.tri (cs0 : List Cell) (o0 : Nat) (l0 : List S122) (hv0 : Vw c122 2 cs0 o0 l0) (a1_0 : Int) (a1_1 : Int) (r : Bool) (h : impl_validSpans.f l0 a1_0 a1_1 = some r) : Tri Try.prog 112 [.c (.ref (.arg 0) [] o0 l0.length), .g [.sc (.int .u64 a1_0), .sc (.int .u64 a1_1)]] [(.arg 0, ⟨.fz, 2, cs0⟩)] (fun o => o = ⟨.c (.sc (.bool r)), [(.arg 0, ⟨.fz, 2, cs0⟩)], [], []⟩) := by
 refine tri_of_body (ac := C112) (xs := r112) Try.func112 (show Try.f112.body = some (Try.f112.body.getD .skip) from rfl) k112 q112 (Nat.le_of_ble_eq_true rfl) ?_
 refine body_of fun K hKn hKr => ?_
 unfold impl_validSpans.f at h
 unfold C112
 simp only [initT, Nat.reduceAdd]
 refine sr_k fun J1 hJ1 => ?_
 simp +decide only [Nat.reduceAdd, Nat.reduceMul, Int.reduceToNat, ak]
 refine hJ1 _ ?_
 refine seq_k fun J2 hJ2 => ?_
 obtain ⟨j3, h4, hn⟩ := of_bind h
 refine seq_j (fun st => st = ⟨[(0, .c (.ref (.arg 0) [] o0 l0.length)), (16, .c (.sc (.bool j3)))], [(.arg 0, ⟨.fz, 2, cs0⟩)], [], []⟩) (fun J5 hJ5 => ?_) ?_
 ·replace h := h4; clear hn
  refine ga_k fun G6 G6n G6r G6x => ?_
  refine reg_k ?_
  simp +decide only [Nat.reduceAdd, Nat.reduceMul, Int.reduceToNat, ak]
  by_cases c7 : (l0.length : Int) > 1000
  ·rw [if_pos c7] at h
   have e8 : decide ((l0.length : Int) > 1000) = true := decide_eq_true c7
   simp +decide only [Nat.reduceAdd, Nat.reduceMul, Int.reduceToNat, ak, e8]
   obtain rfl := Option.some.inj h
   refine G6n _ _ (wk [0, 16] [pI (.arg 0) .fz] (h0 := by first | rfl | simp +decide only [ak, akF, e8]) (h := by first | rfl | (simp +decide only [ak, akF, e8]; done) | (simp +decide [ak, akF, e8] <;> omega))) (hJ5 _ rfl)
  ·rw [if_neg c7] at h
   have e9 : decide ((l0.length : Int) > 1000) = false := decide_eq_false c7
   simp +decide only [Nat.reduceAdd, Nat.reduceMul, Int.reduceToNat, ak, e9]
   obtain rfl := Option.some.inj h
   refine G6n _ _ (wk [0, 16] [pI (.arg 0) .fz] (h0 := by first | rfl | simp +decide only [ak, akF, e9]) (h := by first | rfl | (simp +decide only [ak, akF, e9]; done) | (simp +decide [ak, akF, e9] <;> omega))) (hJ5 _ rfl)
 ·replace h := hn; clear hn h4
  rintro _ rfl
  refine cond_k (b := j3) rfl (fun c10 => ?_) (fun c10 => ?_)
  ·rw [if_pos c10] at h
   refine sr_k fun J11 hJ11 => ?_
   simp +decide only [Nat.reduceAdd, Nat.reduceMul, Int.reduceToNat, ak]
   refine hJ11 _ ?_
   obtain rfl := Option.some.inj h
   refine hKr _ ⟨_, rfl, [], _, rfl, rfl, ?_⟩
   first | rfl | (simp only [reduceCtorEq, Nat.reduceEqDiff, ak, akF]; done) | (simp [reduceCtorEq, Nat.reduceEqDiff, ak, akF] <;> omega)
  ·rw [if_neg (Bool.eq_false_iff.1 c10)] at h
   refine hJ2 _ ?_
   refine seq_k fun J12 hJ12 => ?_
   refine sr_k fun J13 hJ13 => ?_
   simp +decide only [Nat.reduceAdd, Nat.reduceMul, Int.reduceToNat, ak]
   refine hJ13 _ ?_
   refine block_k fun B14 B14n B14x B14r B14j => ?_
   obtain ⟨y38, h39, h⟩ := of_bind h
   refine gh_k (wk [0, 17, 18, 19] [pI (.arg 0) .fz]) ?_
   rw [e_loop]
   refine impl_validSpans.l0_walk cs0 o0 l0 hv0 (l0.length : Int) 0 _ h39 _ ?_ ?_
   ·rintro x40 rfl
    dsimp only at h
    refine B14x _ ?_
    refine hJ12 _ ?_
    refine sr_k fun J41 hJ41 => ?_
    simp +decide only [Nat.reduceAdd, Nat.reduceMul, Int.reduceToNat, ak]
    refine hJ41 _ ?_
    obtain rfl := Option.some.inj h
    refine hKr _ ⟨_, rfl, [], _, rfl, rfl, ?_⟩
    first | rfl | (simp only [reduceCtorEq, Nat.reduceEqDiff, ak, akF]; done) | (simp [reduceCtorEq, Nat.reduceEqDiff, ak, akF] <;> omega)
   ·rintro x40 rfl
    dsimp only at h
    refine B14r _ ?_
    obtain rfl := Option.some.inj h
    refine hKr _ ⟨_, rfl, [], _, rfl, rfl, ?_⟩
    first | rfl | (simp only [reduceCtorEq, Nat.reduceEqDiff, ak, akF]; done) | (simp [reduceCtorEq, Nat.reduceEqDiff, ak, akF] <;> omega)
/-! ### impl.limited: function 113 -/
def C113 : AC := .seq (.reg [.op none (.mv 2 (.const (.slice none 0 0))), .gh, .op none (.mv 3 (.const (.int .i64 0))), .keep [0]]) (.seq (.seq (.reg [.op none (.mv 4 (.tmp 0)), .op none (.len 5 (.tmp 4)), .op none (.bin 6 .gtr (.tmp 5) (.const (.int .i64 1000))), .keep [0, 6]]) (.cond (.tmp 6) (.seq (.reg [.op none (.mv 2 (.const (.slice none 0 0))), .gh, .op none (.mv 3 (.const (.int .i64 5))), .keep [2, 3]]) (.ret)) (.skip))) (.seq (.reg [.op none (.mv 7 (.tmp 0)), .op none (.mv 2 (.tmp 7)), .op none (.mv 3 (.const (.int .i64 0))), .keep [2, 3]]) (.ret)))
def r113 : List RV := [.tmp 2, .tmp 3]
theorem k113 : compC Try.prog 8 C113 (Try.f113.body.getD .skip) = some C113.erase := by kernel_rfl
theorem q113 : rvsOf Try.prog Try.f113.results.toList = some r113 := by kernel_rfl
def impl_limited.f (l0 : List S122) : Option ((Option (List S122)) × Int) := (if (l0.length : Int) > 1000 then (some ((some ([] : List S122)), 5)) else (some (none, 0)))
theorem impl_limited.tri0 (cs0 : List Cell) (o0 : Nat) (l0 : List S122) (hv0 : Vw c122 2 cs0 o0 l0) (r : (Option (List S122)) × Int) (h : impl_limited.f l0 = some r) (hp : r.1 = none) : Tri Try.prog 113 [.c (.ref (.arg 0) [] o0 l0.length)] [(.arg 0, ⟨.fz, 2, cs0⟩)] (fun o => o = ⟨.tup [(false, [.ref (.arg 0) [] o0 l0.length]), (false, [.sc (.int .i64 r.2)])], [(.arg 0, ⟨.fz, 2, cs0⟩)], [], []⟩) := by
 refine tri_of_body (ac := C113) (xs := r113) Try.func113 (show Try.f113.body = some (Try.f113.body.getD .skip) from rfl) k113 q113 (Nat.le_of_ble_eq_true rfl) ?_
 refine body_of fun K hKn hKr => ?_
 unfold impl_limited.f at h
 unfold C113
 simp only [initT, Nat.reduceAdd]
 refine sr_k fun J1 hJ1 => ?_
 simp +decide only [Nat.reduceAdd, Nat.reduceMul, Int.reduceToNat, ak]
 refine gho_k (Weak.nm' 2 (.tmp 2 20) 2 (encL c122 ([] : List S122)) rfl rfl rfl) ?_
 simp +decide only [Nat.reduceAdd, Nat.reduceMul, Int.reduceToNat, ak]
 refine hJ1 _ ?_
 refine seq_k fun J2 hJ2 => ?_
 refine sr_k fun J3 hJ3 => ?_
 simp +decide only [Nat.reduceAdd, Nat.reduceMul, Int.reduceToNat, ak]
 refine hJ3 _ ?_
 refine cond_k (b := decide ((l0.length : Int) > 1000)) rfl (fun c4 => ?_) (fun c4 => ?_)
 ·replace c4 := of_decide_eq_true c4; rw [if_pos c4] at h
  refine sr_k fun J5 hJ5 => ?_
  simp +decide only [Nat.reduceAdd, Nat.reduceMul, Int.reduceToNat, ak]
  refine gho_k ((Weak.drop [.tmp 2 20]).trans (Weak.nm' 2 (.tmp 2 20) 2 (encL c122 ([] : List S122)) rfl rfl rfl)) ?_
  simp +decide only [Nat.reduceAdd, Nat.reduceMul, Int.reduceToNat, ak]
  refine hJ5 _ ?_
  obtain rfl := Option.some.inj h
  exact absurd hp (by simp)
 ·replace c4 := of_decide_eq_false c4; rw [if_neg c4] at h
  refine hJ2 _ ?_
  refine sr_k fun J6 hJ6 => ?_
  simp +decide only [Nat.reduceAdd, Nat.reduceMul, Int.reduceToNat, ak]
  refine hJ6 _ ?_
  obtain rfl := Option.some.inj h
  refine hKr _ ⟨_, rfl, [], _, rfl, rfl, ?_⟩
  first | rfl | (simp only [reduceCtorEq, Nat.reduceEqDiff, ak, akF]; done) | (simp [reduceCtorEq, Nat.reduceEqDiff, ak, akF] <;> omega)
theorem impl_limited.tri1 (cs0 : List Cell) (o0 : Nat) (l0 : List S122) (hv0 : Vw c122 2 cs0 o0 l0) (r : (Option (List S122)) × Int) (h : impl_limited.f l0 = some r) (p : (List S122)) (hp : r.1 = some p) : Tri Try.prog 113 [.c (.ref (.arg 0) [] o0 l0.length)] [(.arg 0, ⟨.fz, 2, cs0⟩)] (fun o => o = ⟨.tup [(false, [.ref (.res 0) [] 0 p.length]), (false, [.sc (.int .i64 r.2)])], [(.arg 0, ⟨.fz, 2, cs0⟩), (.res 0, ⟨.lst, 2, encL c122 p⟩)], [], []⟩) := by
 refine tri_of_body (ac := C113) (xs := r113) Try.func113 (show Try.f113.body = some (Try.f113.body.getD .skip) from rfl) k113 q113 (Nat.le_of_ble_eq_true rfl) ?_
 refine body_of fun K hKn hKr => ?_
 unfold impl_limited.f at h
 unfold C113
 simp only [initT, Nat.reduceAdd]
 refine sr_k fun J1 hJ1 => ?_
 simp +decide only [Nat.reduceAdd, Nat.reduceMul, Int.reduceToNat, ak]
 refine gho_k (Weak.nm' 2 (.tmp 2 20) 2 (encL c122 ([] : List S122)) rfl rfl rfl) ?_
 simp +decide only [Nat.reduceAdd, Nat.reduceMul, Int.reduceToNat, ak]
 refine hJ1 _ ?_
 refine seq_k fun J2 hJ2 => ?_
 refine sr_k fun J3 hJ3 => ?_
 simp +decide only [Nat.reduceAdd, Nat.reduceMul, Int.reduceToNat, ak]
 refine hJ3 _ ?_
 refine cond_k (b := decide ((l0.length : Int) > 1000)) rfl (fun c4 => ?_) (fun c4 => ?_)
 ·replace c4 := of_decide_eq_true c4; rw [if_pos c4] at h
  refine sr_k fun J5 hJ5 => ?_
  simp +decide only [Nat.reduceAdd, Nat.reduceMul, Int.reduceToNat, ak]
  refine gho_k ((Weak.drop [.tmp 2 20]).trans (Weak.nm' 2 (.tmp 2 20) 2 (encL c122 ([] : List S122)) rfl rfl rfl)) ?_
  simp +decide only [Nat.reduceAdd, Nat.reduceMul, Int.reduceToNat, ak]
  refine hJ5 _ ?_
  obtain rfl := Option.some.inj h
  obtain rfl := Option.some.inj hp
  refine hKr _ ⟨_, rfl, [⟨(.tmp 2 20), [], none, .lst⟩], _, rfl, rfl, ?_⟩
  first | rfl | (simp only [reduceCtorEq, Nat.reduceEqDiff, ak, akF]; done) | (simp [reduceCtorEq, Nat.reduceEqDiff, ak, akF] <;> omega)
 ·replace c4 := of_decide_eq_false c4; rw [if_neg c4] at h
  refine hJ2 _ ?_
  refine sr_k fun J6 hJ6 => ?_
  simp +decide only [Nat.reduceAdd, Nat.reduceMul, Int.reduceToNat, ak]
  refine hJ6 _ ?_
  obtain rfl := Option.some.inj h
  exact absurd hp (by simp)
/-! ### impl.SpanAdd: function 62 -/
def C62 : AC := .seq (.reg [.op none (.box 3 (.tmp 1)), .op none (.mv 4 (.const (.slice none 0 0))), .gh, .op none (.mv 5 (.const (.int .i64 0))), .keep [0, 3]]) (.seq (.seq (.reg [.op none (.mv 6 (.tmp 0)), .op none (.load 7 true 2 (.tmp 3)), .call none (some 8) 112 [.tmp 6, .tmp 7], .op none (.un 9 .not (.tmp 8)), .keep [0, 3, 9]]) (.cond (.tmp 9) (.seq (.reg [.op none (.mv 4 (.const (.slice none 0 0))), .gh, .op none (.mv 5 (.const (.int .i64 1))), .keep [4, 5]]) (.ret)) (.skip))) (.seq (.reg [.op none (.mv 10 (.tmp 0)), .op none (.load 11 true 2 (.tmp 3)), .call none (some 12) 114 [.tmp 10, .tmp 11], .call none (some 13) 113 [.tmp 12], .op none (.extr 14 (.tmp 13) 0), .op none (.extr 15 (.tmp 13) 1), .op none (.mv 4 (.tmp 14)), .op none (.mv 5 (.tmp 15)), .keep [4, 5]]) (.ret)))
def r62 : List RV := [.tmp 4, .tmp 5]
theorem k62 : compC Try.prog 16 C62 (Try.f62.body.getD .skip) = some C62.erase := by kernel_rfl
theorem q62 : rvsOf Try.prog Try.f62.results.toList = some r62 := by kernel_rfl
def impl_SpanAdd.f (l0 : List S122) (a1_0 : Int) (a1_1 : Int) : Option ((List S122) × Int) := (impl_validSpans.f l0 a1_0 a1_1 >>= fun t4 => (if (!t4) = true then (some (([] : List S122), 1)) else (impl_add.f l0 a1_0 a1_1 >>= fun t10 => (impl_limited.f t10 >>= fun t13 => (match t13.1 with | none => (some (t10, t13.2)) | some p17 => (some (p17, t13.2)))))))
theorem impl_SpanAdd.tri (cs0 : List Cell) (o0 : Nat) (l0 : List S122) (hv0 : Vw c122 2 cs0 o0 l0) (a1_0 : Int) (a1_1 : Int) (r : (List S122) × Int) (h : impl_SpanAdd.f l0 a1_0 a1_1 = some r) : Tri Try.prog 62 [.c (.ref (.arg 0) [] o0 l0.length), .g [.sc (.int .u64 a1_0), .sc (.int .u64 a1_1)]] [(.arg 0, ⟨.fz, 2, cs0⟩)] (fun o => o = ⟨.tup [(false, [.ref (.res 0) [] 0 r.1.length]), (false, [.sc (.int .i64 r.2)])], [(.arg 0, ⟨.fz, 2, cs0⟩), (.res 0, ⟨.lst, 2, encL c122 r.1⟩)], [], []⟩) := by
 refine tri_of_body (ac := C62) (xs := r62) Try.func62 (show Try.f62.body = some (Try.f62.body.getD .skip) from rfl) k62 q62 (Nat.le_of_ble_eq_true rfl) ?_
 refine body_of fun K hKn hKr => ?_
 unfold impl_SpanAdd.f at h
 unfold C62
 simp only [initT, Nat.reduceAdd]
 refine sr_k fun J1 hJ1 => ?_
 simp +decide only [Nat.reduceAdd, Nat.reduceMul, Int.reduceToNat, ak]
 refine gho_k (Weak.nm' 4 (.tmp 4 20) 2 (encL c122 ([] : List S122)) rfl rfl rfl) ?_
 simp +decide only [Nat.reduceAdd, Nat.reduceMul, Int.reduceToNat, ak]
 refine hJ1 _ ?_
 refine seq_k fun J2 hJ2 => ?_
 refine sr_k fun J3 hJ3 => ?_
 simp +decide only [Nat.reduceAdd, Nat.reduceMul, Int.reduceToNat, ak]
 obtain ⟨t4, h5, h⟩ := of_bind h
 refine call_m [(.arg 0, ⟨(.arg 0), [], none, .fz⟩)] (s0 := [(.arg 0, ⟨.fz, 2, cs0⟩)]) (by intro t ht; cases ht; decide) rfl rfl (by first | rfl | simp only [reduceCtorEq, Nat.reduceEqDiff, ak, akF]) (impl_validSpans.tri (cs0) o0 l0 hv0 a1_0 a1_1 _ h5) (by first | rfl | simp only [reduceCtorEq, Nat.reduceEqDiff, ak, akF]) (by simp [bkOk2, memK]) (fun hl5 => ?_)
 refine call_st (s4 := [(.arg 0, ⟨.fz, 2, cs0⟩), (.tmp 3 0, ⟨.box, 0, [.sc (.int .u64 a1_0), .sc (.int .u64 a1_1)]⟩), (.tmp 4 20, ⟨.lst, 2, encL c122 ([] : List S122)⟩)]) (m1' := []) (m2' := []) (v' := .c (.sc (.bool t4))) (Sto.mapN_killNil _ _) (mrgL_fz (mrgL_nil' _ _ _) rfl (by first | rfl | simp only [reduceCtorEq, Nat.reduceEqDiff, ak]) rfl (by intro R hR hh; cases hR; cases hh.2)) (by rfl) (mapT_killNil _ _) (by rfl) (by rfl) (by first | rfl | simp only [reduceCtorEq, Nat.reduceEqDiff, ak, akF, Nat.zero_add, List.append_nil]) ?_
 simp +decide only [Nat.reduceAdd, Nat.reduceMul, Int.reduceToNat, ak]
 refine hJ3 _ ?_
 refine cond_k (b := !t4) rfl (fun c7 => ?_) (fun c7 => ?_)
 ·rw [if_pos c7] at h
  refine sr_k fun J8 hJ8 => ?_
  simp +decide only [Nat.reduceAdd, Nat.reduceMul, Int.reduceToNat, ak]
  refine gho_k ((Weak.drop [.tmp 4 20]).trans (Weak.nm' 4 (.tmp 4 20) 2 (encL c122 ([] : List S122)) rfl rfl rfl)) ?_
  simp +decide only [Nat.reduceAdd, Nat.reduceMul, Int.reduceToNat, ak]
  refine hJ8 _ ?_
  obtain rfl := Option.some.inj h
  refine hKr _ ⟨_, rfl, [⟨(.tmp 4 20), [], none, .lst⟩], _, rfl, rfl, ?_⟩
  first | rfl | (simp only [reduceCtorEq, Nat.reduceEqDiff, ak, akF]; done) | (simp [reduceCtorEq, Nat.reduceEqDiff, ak, akF] <;> omega)
 ·rw [if_neg (Bool.eq_false_iff.1 c7)] at h
  refine hJ2 _ ?_
  refine sr_k fun J9 hJ9 => ?_
  simp +decide only [Nat.reduceAdd, Nat.reduceMul, Int.reduceToNat, ak]
  obtain ⟨t10, h11, h⟩ := of_bind h
  refine call_m [(.arg 0, ⟨(.arg 0), [], none, .fz⟩)] (s0 := [(.arg 0, ⟨.fz, 2, cs0⟩)]) (by intro t ht; cases ht; decide) rfl rfl (by first | rfl | simp only [reduceCtorEq, Nat.reduceEqDiff, ak, akF]) (impl_add.tri (cs0) o0 l0 hv0 a1_0 a1_1 _ h11) (by first | rfl | simp only [reduceCtorEq, Nat.reduceEqDiff, ak, akF]) (by simp [bkOk2, memK]) (fun hl11 => ?_)
  refine call_st (s4 := [(.arg 0, ⟨.fz, 2, cs0⟩), (.tmp 3 0, ⟨.box, 0, [.sc (.int .u64 a1_0), .sc (.int .u64 a1_1)]⟩), (.tmp 4 20, ⟨.lst, 2, encL c122 ([] : List S122)⟩), (.tmp 12 0, ⟨.lst, 2, encL c122 t10⟩)]) (m1' := []) (m2' := []) (v' := .c (.ref (.tmp 12 0) [] 0 t10.length)) (Sto.mapN_killNil _ _) (mrgL_fz (mrgL_nil' _ _ _) rfl (by first | rfl | simp only [reduceCtorEq, Nat.reduceEqDiff, ak]) rfl (by intro R hR hh; cases hR; cases hh.2)) (by rfl) (mapT_killNil _ _) (by rfl) (by rfl) (by first | rfl | simp only [reduceCtorEq, Nat.reduceEqDiff, ak, akF, Nat.zero_add, List.append_nil]) ?_
  simp +decide only [Nat.reduceAdd, Nat.reduceMul, Int.reduceToNat, ak]
  obtain ⟨t13, h14, h⟩ := of_bind h
  rcases hpo : t13.1 with _ | p17
  ·have hpp15 := hpo
   rw [hpo] at h; dsimp only at h
   refine call_m [(.arg 0, ⟨(.tmp 12 0), [], none, .fz⟩)] (s0 := [(.arg 0, ⟨.fz, 2, encL c122 t10⟩)]) (by intro t ht; cases ht; decide) rfl rfl (by first | rfl | simp only [reduceCtorEq, Nat.reduceEqDiff, ak, akF]) (impl_limited.tri0 (encL c122 t10) 0 t10 (Vw.whole c122_w t10) _ h14 hpp15) (by first | rfl | simp only [reduceCtorEq, Nat.reduceEqDiff, ak, akF]) (by simp [bkOk2, memK]) (fun hl15 => ?_)
   refine call_st (s4 := [(.arg 0, ⟨.fz, 2, cs0⟩), (.tmp 3 0, ⟨.box, 0, [.sc (.int .u64 a1_0), .sc (.int .u64 a1_1)]⟩), (.tmp 4 20, ⟨.lst, 2, encL c122 ([] : List S122)⟩), (.tmp 12 0, ⟨.lst, 2, encL c122 t10⟩)]) (m1' := []) (m2' := []) (v' := .tup [(false, [.ref (.tmp 12 0) [] 0 t10.length]), (false, [.sc (.int .i64 t13.2)])]) (Sto.mapN_killNil _ _) (mrgL_fz (mrgL_nil' _ _ _) rfl (by first | rfl | simp only [reduceCtorEq, Nat.reduceEqDiff, ak]) rfl (by intro R hR hh; cases hR; cases hh.2)) (by rfl) (mapT_killNil _ _) (by rfl) (by rfl) (by first | rfl | simp only [reduceCtorEq, Nat.reduceEqDiff, ak, akF, Nat.zero_add, List.append_nil]) ?_
   simp +decide only [Nat.reduceAdd, Nat.reduceMul, Int.reduceToNat, ak]
   refine hJ9 _ ?_
   obtain rfl := Option.some.inj h
   refine hKr _ ⟨_, rfl, [⟨(.tmp 12 0), [], none, .lst⟩], _, rfl, rfl, ?_⟩
   first | rfl | (simp only [reduceCtorEq, Nat.reduceEqDiff, ak, akF]; done) | (simp [reduceCtorEq, Nat.reduceEqDiff, ak, akF] <;> omega)
  ·have hpp17 := hpo
   rw [hpo] at h; dsimp only at h
   refine call_m [(.arg 0, ⟨(.tmp 12 0), [], none, .fz⟩)] (s0 := [(.arg 0, ⟨.fz, 2, encL c122 t10⟩)]) (by intro t ht; cases ht; decide) rfl rfl (by first | rfl | simp only [reduceCtorEq, Nat.reduceEqDiff, ak, akF]) (impl_limited.tri1 (encL c122 t10) 0 t10 (Vw.whole c122_w t10) _ h14 _ hpp17) (by first | rfl | simp only [reduceCtorEq, Nat.reduceEqDiff, ak, akF]) (by simp [bkOk2, memK]) (fun hl17 => ?_)
   refine call_st (s4 := [(.arg 0, ⟨.fz, 2, cs0⟩), (.tmp 3 0, ⟨.box, 0, [.sc (.int .u64 a1_0), .sc (.int .u64 a1_1)]⟩), (.tmp 4 20, ⟨.lst, 2, encL c122 ([] : List S122)⟩), (.tmp 12 0, ⟨.lst, 2, encL c122 t10⟩), (.tmp 13 0, ⟨.lst, 2, encL c122 p17⟩)]) (m1' := []) (m2' := []) (v' := .tup [(false, [.ref (.tmp 13 0) [] 0 p17.length]), (false, [.sc (.int .i64 t13.2)])]) (Sto.mapN_killNil _ _) (mrgL_fz (mrgL_nil' _ _ _) rfl (by first | rfl | simp only [reduceCtorEq, Nat.reduceEqDiff, ak]) rfl (by intro R hR hh; cases hR; cases hh.2)) (by rfl) (mapT_killNil _ _) (by rfl) (by rfl) (by first | rfl | simp only [reduceCtorEq, Nat.reduceEqDiff, ak, akF, Nat.zero_add, List.append_nil]) ?_
   simp +decide only [Nat.reduceAdd, Nat.reduceMul, Int.reduceToNat, ak]
   refine hJ9 _ ?_
   obtain rfl := Option.some.inj h
   refine hKr _ ⟨_, rfl, [⟨(.tmp 13 0), [], none, .lst⟩], _, rfl, rfl, ?_⟩
   first | rfl | (simp only [reduceCtorEq, Nat.reduceEqDiff, ak, akF]; done) | (simp [reduceCtorEq, Nat.reduceEqDiff, ak, akF] <;> omega)
/-! ### spec.StreamByte: function 63 -/
def C63 : AC := .seq (.reg [.op none (.mv 2 (.const (.int .u8 0))), .keep [0]]) (.seq (.reg [.op none (.mv 3 (.tmp 0)), .call none (some 4) 115 [.tmp 3], .op none (.mv 2 (.tmp 4)), .keep [2]]) (.ret))
def r63 : List RV := [.tmp 2]
theorem k63 : compC Try.prog 5 C63 (Try.f63.body.getD .skip) = some C63.erase := by kernel_rfl
theorem q63 : rvsOf Try.prog Try.f63.results.toList = some r63 := by kernel_rfl
def spec_StreamByte.f (a0 : Int) : Option Int := (spec_l5Byte.f a0 >>= fun t3 => (some t3))
theorem spec_StreamByte.tri (a0 : Int) (r : Int) (h : spec_StreamByte.f a0 = some r) : Tri Try.prog 63 [.c (.sc (.int .i64 a0))] [] (fun o => o = ⟨.c (.sc (.int .u8 r)), [], [], []⟩) := by
 refine tri_of_body (ac := C63) (xs := r63) Try.func63 (show Try.f63.body = some (Try.f63.body.getD .skip) from rfl) k63 q63 (Nat.le_of_ble_eq_true rfl) ?_
 refine body_of fun K hKn hKr => ?_
 unfold spec_StreamByte.f at h
 unfold C63
 simp only [initT, Nat.reduceAdd]
 refine sr_k fun J1 hJ1 => ?_
 simp +decide only [Nat.reduceAdd, Nat.reduceMul, Int.reduceToNat, ak]
 refine hJ1 _ ?_
 refine sr_k fun J2 hJ2 => ?_
 simp +decide only [Nat.reduceAdd, Nat.reduceMul, Int.reduceToNat, ak]
 obtain ⟨t3, h4, h⟩ := of_bind h
 refine call_m [] (s0 := []) (by intro t ht; cases ht; decide) rfl rfl (by first | rfl | simp only [reduceCtorEq, Nat.reduceEqDiff, ak, akF]) (spec_l5Byte.tri a0 _ h4) (by first | rfl | simp only [reduceCtorEq, Nat.reduceEqDiff, ak, akF]) (by simp [bkOk2, memK]) (fun hl4 => ?_)
 refine call_st (s4 := []) (m1' := []) (m2' := []) (v' := .c (.sc (.int .u8 t3))) (Sto.mapN_killNil _ _) (mrgL_nil' _ _ _) (by rfl) (mapT_killNil _ _) (by rfl) (by rfl) (by first | rfl | simp only [reduceCtorEq, Nat.reduceEqDiff, ak, akF, Nat.zero_add, List.append_nil]) ?_
 simp +decide only [Nat.reduceAdd, Nat.reduceMul, Int.reduceToNat, ak]
 refine hJ2 _ ?_
 obtain rfl := Option.some.inj h
 refine hKr _ ⟨_, rfl, [], _, rfl, rfl, ?_⟩
 first | rfl | (simp only [reduceCtorEq, Nat.reduceEqDiff, ak, akF]; done) | (simp [reduceCtorEq, Nat.reduceEqDiff, ak, akF] <;> omega)
/-! ### impl.SpanCut: function 64 -/
def C64_l0 : AC := .seq (.reg [.op none (.bin 16 .lss (.tmp 15) (.tmp 14)), .keep [3, 6, 13, 14, 15, 16]]) (.seq (.cond (.tmp 16) (.skip) (.gh (.exit 0))) (.seq (.ga (.block 1 (.seq (.reg [.op none (.iaddr 17 2 (.tmp 13) (.tmp 15)), .op none (.load 18 true 2 (.tmp 17)), .op none (.alloc 8 [.int .u64 0, .int .u64 0]), .op none (.store 2 (.tmp 8) (.tmp 18)), .keep [3, 6, 8, 13, 14, 15]]) (.seq (.seq (.ga (.reg [.op none (.faddr 19 0 (.tmp 3)), .op none (.load 20 false 1 (.tmp 19)), .op none (.faddr 21 1 (.tmp 3)), .op none (.load 22 false 1 (.tmp 21)), .op none (.bin 23 .eql (.tmp 20) (.tmp 22)), .op none (.mv 24 (.tmp 23)), .op (some (24, false)) (.faddr 25 1 (.tmp 8)), .op (some (24, false)) (.load 26 false 1 (.tmp 25)), .op (some (24, false)) (.faddr 27 0 (.tmp 3)), .op (some (24, false)) (.load 28 false 1 (.tmp 27)), .op (some (24, false)) (.bin 29 .leq (.tmp 26) (.tmp 28)), .op none (.pick 30 (.tmp 24) (.const (.bool true)) (.tmp 29)), .op none (.mv 31 (.tmp 30)), .op (some (31, false)) (.faddr 32 0 (.tmp 8)), .op (some (31, false)) (.load 33 false 1 (.tmp 32)), .op (some (31, false)) (.faddr 34 1 (.tmp 3)), .op (some (31, false)) (.load 35 false 1 (.tmp 34)), .op (some (31, false)) (.bin 36 .geq (.tmp 33) (.tmp 35)), .op none (.pick 37 (.tmp 31) (.const (.bool true)) (.tmp 36)), .keep [3, 6, 8, 13, 14, 15, 37]])) (.cond (.tmp 37) (.seq (.reg [.op none (.mv 38 (.tmp 6)), .op none (.load 39 true 2 (.tmp 8)), .op none (.bslice 40 2 [.int .u64 0, .int .u64 0] 1 [(0, .tmp 39)]), .op none (.app 41 2 16 true (.tmp 38) (.tmp 40)), .op none (.mv 6 (.tmp 41)), .keep [3, 6, 13, 14, 15]]) (.exit 1)) (.skip))) (.seq (.ga (.seq (.reg [.op none (.faddr 42 0 (.tmp 8)), .op none (.load 43 false 1 (.tmp 42)), .op none (.faddr 44 0 (.tmp 3)), .op none (.load 45 false 1 (.tmp 44)), .op none (.bin 46 .lss (.tmp 43) (.tmp 45)), .keep [3, 6, 8, 13, 14, 15, 46]]) (.cond (.tmp 46) (.reg [.op none (.mv 47 (.tmp 6)), .op none (.faddr 48 0 (.tmp 8)), .op none (.load 49 false 1 (.tmp 48)), .op none (.faddr 50 0 (.tmp 3)), .op none (.load 51 false 1 (.tmp 50)), .op none (.build 52 [.int .u64 0, .int .u64 0] [(0, 1, .tmp 49), (1, 1, .tmp 51)]), .op none (.bslice 53 2 [.int .u64 0, .int .u64 0] 1 [(0, .tmp 52)]), .op none (.app 54 2 16 true (.tmp 47) (.tmp 53)), .op none (.mv 6 (.tmp 54)), .keep [3, 6, 8, 13, 14, 15]]) (.skip)))) (.seq (.reg [.op none (.faddr 55 1 (.tmp 8)), .op none (.load 56 false 1 (.tmp 55)), .op none (.faddr 57 1 (.tmp 3)), .op none (.load 58 false 1 (.tmp 57)), .op none (.bin 59 .gtr (.tmp 56) (.tmp 58)), .keep [3, 6, 8, 13, 14, 15, 59]]) (.cond (.tmp 59) (.reg [.op none (.mv 60 (.tmp 6)), .op none (.faddr 61 1 (.tmp 3)), .op none (.load 62 false 1 (.tmp 61)), .op none (.faddr 63 1 (.tmp 8)), .op none (.load 64 false 1 (.tmp 63)), .op none (.build 65 [.int .u64 0, .int .u64 0] [(0, 1, .tmp 62), (1, 1, .tmp 64)]), .op none (.bslice 66 2 [.int .u64 0, .int .u64 0] 1 [(0, .tmp 65)]), .op none (.app 67 2 16 true (.tmp 60) (.tmp 66)), .op none (.mv 6 (.tmp 67)), .keep [3, 6, 13, 14, 15]]) (.skip)))))))) (.reg [.op none (.bin 68 .add (.tmp 15) (.const (.int .i64 1))), .op none (.mv 15 (.tmp 68)), .keep [3, 6, 13, 14, 15]])))
def C64 : AC := .seq (.reg [.op none (.box 3 (.tmp 1)), .op none (.mv 4 (.const (.slice none 0 0))), .gh, .op none (.mv 5 (.const (.int .i64 0))), .keep [0, 3]]) (.seq (.seq (.reg [.op none (.mv 9 (.tmp 0)), .op none (.load 10 true 2 (.tmp 3)), .call none (some 11) 112 [.tmp 9, .tmp 10], .op none (.un 12 .not (.tmp 11)), .keep [0, 3, 12]]) (.cond (.tmp 12) (.seq (.reg [.op none (.mv 4 (.const (.slice none 0 0))), .gh, .op none (.mv 5 (.const (.int .i64 1))), .keep [4, 5]]) (.ret)) (.skip))) (.seq (.reg [.op none (.mv 6 (.const (.slice none 0 0))), .gh, .keep [0, 3, 6]]) (.seq (.seq (.reg [.op none (.mv 13 (.tmp 0)), .op none (.len 14 (.tmp 13)), .op none (.mv 15 (.const (.int .i64 0))), .keep [3, 6, 13, 14, 15]]) (.block 0 (.gh (.loop (.ga C64_l0))))) (.seq (.reg [.op none (.mv 69 (.tmp 6)), .call none (some 70) 113 [.tmp 69], .op none (.extr 71 (.tmp 70) 0), .op none (.extr 72 (.tmp 70) 1), .op none (.mv 4 (.tmp 71)), .op none (.mv 5 (.tmp 72)), .keep [4, 5]]) (.ret)))))
def r64 : List RV := [.tmp 4, .tmp 5]
theorem k64 : compC Try.prog 73 C64 (Try.f64.body.getD .skip) = some C64.erase := by kernel_rfl
theorem q64 : rvsOf Try.prog Try.f64.results.toList = some r64 := by kernel_rfl
def impl_SpanCut.l0 (l0 : List S122) (x0_0 : Int) (x0_2 : Int) (x0_3 : Int) (x0_1 : Int) (x0_4 : (List S122)) : Option (List S122) := (if x0_1 < x0_0 then ((if 0 ≤ x0_1 ∧ x0_1 < (l0.length : Int) then ((if x0_2 = x0_3 then (some true) else (if (rd z122 l0 x0_1).f1 ≤ x0_2 then (some true) else (some (decide ((rd z122 l0 x0_1).f0 ≥ x0_3))))) >>= fun (j25 : Bool) => (if j25 = true then (if (x0_4.length + 1) * 16 ≤ 140737488355328 then (some (x0_4 ++ ([(rd z122 l0 x0_1)] : List S122))) else none) else ((if (rd z122 l0 x0_1).f0 < x0_2 then (if (x0_4.length + 1) * 16 ≤ 140737488355328 then (some (x0_4 ++ ([(⟨(rd z122 l0 x0_1).f0, x0_2⟩ : S122)] : List S122))) else none) else (some x0_4)) >>= fun (j46 : (List S122)) => (if (rd z122 l0 x0_1).f1 > x0_3 then (if (j46.length + 1) * 16 ≤ 140737488355328 then (some (j46 ++ ([(⟨x0_3, (rd z122 l0 x0_1).f1⟩ : S122)] : List S122))) else none) else (some j46))))) else none) >>= fun (j16 : (List S122)) => (impl_SpanCut.l0 l0 x0_0 x0_2 x0_3 (IntKind.i64.wrap (x0_1 + 1)) j16)) else (some x0_4))
 partial_fixpoint
def impl_SpanCut.f (l0 : List S122) (a1_0 : Int) (a1_1 : Int) : Option ((List S122) × Int) := (impl_validSpans.f l0 a1_0 a1_1 >>= fun t4 => (if (!t4) = true then (some (([] : List S122), 1)) else (impl_SpanCut.l0 l0 (l0.length : Int) a1_0 a1_1 0 ([] : List S122) >>= fun (y72 : (List S122)) => (impl_limited.f y72 >>= fun t75 => (match t75.1 with | none => (some (y72, t75.2)) | some p79 => (some (p79, t75.2)))))))
def impl_SpanCut.l0_M (cs0 : List Cell) (o0 : Nat) (l0 : List S122) (hv0 : Vw c122 2 cs0 o0 l0) (x0_0 : Int) (x0_2 : Int) (x0_3 : Int) (x0_1 : Int) (x0_4 : (List S122)) (y : (List S122)) : Prop := ∀ (K : AE → St → Prop), (K (.exit 0) ⟨[(6, .c (.ref (.tmp 6 20) [] 0 y.length))], [(.arg 0, ⟨.fz, 2, cs0⟩), (.tmp 6 20, ⟨.lst, 2, encL c122 y⟩)], [], []⟩) → loopS Try.prog 73 (.ga C64_l0) K ⟨[(3, .c (.ptr (.tmp 3 0) [] 0)), (6, .c (.ref (.tmp 6 20) [] 0 x0_4.length)), (13, .c (.ref (.arg 0) [] o0 l0.length)), (14, .c (.sc (.int .i64 x0_0))), (15, .c (.sc (.int .i64 x0_1)))], [(.arg 0, ⟨.fz, 2, cs0⟩), (.tmp 3 0, ⟨.box, 0, [.sc (.int .u64 x0_2), .sc (.int .u64 x0_3)]⟩), (.tmp 6 20, ⟨.lst, 2, encL c122 x0_4⟩)], [], []⟩
theorem impl_SpanCut.l0_walk (cs0 : List Cell) (o0 : Nat) (l0 : List S122) (hv0 : Vw c122 2 cs0 o0 l0) (x0_0 : Int) (x0_2 : Int) (x0_3 : Int) (x0_1 : Int) (x0_4 : (List S122)) (y : (List S122)) (h : impl_SpanCut.l0 l0 x0_0 x0_2 x0_3 x0_1 x0_4 = some y) : impl_SpanCut.l0_M cs0 o0 l0 hv0 x0_0 x0_2 x0_3 x0_1 x0_4 y := by
 refine impl_SpanCut.l0.partial_correctness l0 x0_0 x0_2 x0_3 (motive := fun x0_1 x0_4 y => impl_SpanCut.l0_M cs0 o0 l0 hv0 x0_0 x0_2 x0_3 x0_1 x0_4 y) ?_ x0_1 x0_4 y h
 clear h
 unfold impl_SpanCut.l0_M
 intro rec ih x0_1 x0_4 y h K hx0
 refine loop_unroll (ga_k fun G0 G0n G0r G0x => ?_)
 unfold C64_l0
 refine sr_k fun J13 hJ13 => ?_
 simp +decide only [Nat.reduceAdd, Nat.reduceMul, Int.reduceToNat, ak]
 refine hJ13 _ ?_
 refine seq_k fun J14 hJ14 => ?_
 refine cond_k (b := decide (x0_1 < x0_0)) rfl (fun c15 => ?_) (fun c15 => ?_)
 ·replace c15 := of_decide_eq_true c15; rw [if_pos c15] at h
  refine hJ14 _ ?_
  obtain ⟨j16, h17, hn⟩ := of_bind h
  refine seq_j (fun st => st = ⟨[(3, .c (.ptr (.tmp 3 0) [] 0)), (6, .c (.ref (.tmp 6 20) [] 0 j16.length)), (13, .c (.ref (.arg 0) [] o0 l0.length)), (14, .c (.sc (.int .i64 x0_0))), (15, .c (.sc (.int .i64 x0_1)))], [(.arg 0, ⟨.fz, 2, cs0⟩), (.tmp 3 0, ⟨.box, 0, [.sc (.int .u64 x0_2), .sc (.int .u64 x0_3)]⟩), (.tmp 6 20, ⟨.lst, 2, encL c122 j16⟩)], [], []⟩) (fun J18 hJ18 => ?_) ?_
  ·replace h := h17; clear hn
   refine ga_k fun G19 G19n G19r G19x => ?_
   refine block_k fun B20 B20n B20x B20r B20j => ?_
   refine sr_k fun J21 hJ21 => ?_
   obtain ⟨b22, h⟩ := of_guard h
   have g23 : (List.drop (o0 + x0_1.toNat * 2) (cs0)).take 2 = [.sc (.int .u64 ((rd z122 l0 x0_1).f0)), .sc (.int .u64 ((rd z122 l0 x0_1).f1))] := hv0.stretch z122 b22.1 b22.2
   simp +decide only [Nat.reduceAdd, Nat.reduceMul, Int.reduceToNat, ak, b22, g23]
   refine hJ21 _ ?_
   refine seq_k fun J24 hJ24 => ?_
   obtain ⟨j25, h26, hn⟩ := of_bind h
   refine seq_j (fun st => st = ⟨[(3, .c (.ptr (.tmp 3 0) [] 0)), (6, .c (.ref (.tmp 6 20) [] 0 x0_4.length)), (8, .c (.ptr (.tmp 8 0) [] 0)), (13, .c (.ref (.arg 0) [] o0 l0.length)), (14, .c (.sc (.int .i64 x0_0))), (15, .c (.sc (.int .i64 x0_1))), (37, .c (.sc (.bool j25)))], [(.arg 0, ⟨.fz, 2, cs0⟩), (.tmp 3 0, ⟨.box, 0, [.sc (.int .u64 x0_2), .sc (.int .u64 x0_3)]⟩), (.tmp 6 20, ⟨.lst, 2, encL c122 x0_4⟩), (.tmp 8 0, ⟨.box, 0, [.sc (.int .u64 ((rd z122 l0 x0_1).f0)), .sc (.int .u64 ((rd z122 l0 x0_1).f1))]⟩)], [], []⟩) (fun J27 hJ27 => ?_) ?_
   ·replace h := h26; clear hn
    refine ga_k fun G28 G28n G28r G28x => ?_
    refine reg_k ?_
    simp +decide only [Nat.reduceAdd, Nat.reduceMul, Int.reduceToNat, ak]
    by_cases c29 : x0_2 = x0_3
    ·rw [if_pos c29] at h
     have e30 : decide (x0_2 = x0_3) = true := decide_eq_true c29
     simp +decide only [Nat.reduceAdd, Nat.reduceMul, Int.reduceToNat, ak, e30]
     obtain rfl := Option.some.inj h
     refine G28n _ _ (wk [3, 6, 8, 13, 14, 15, 37] [pI (.arg 0) .fz, pI (.tmp 3 0) .box, pI (.tmp 6 20) .lst, pI (.tmp 8 0) .box] (h0 := by first | rfl | simp +decide only [ak, akF, b22, e30]) (h := by first | rfl | (simp +decide only [ak, akF, b22, e30]; done) | (simp +decide [ak, akF, b22, e30] <;> omega))) (hJ27 _ rfl)
    ·rw [if_neg c29] at h
     have e31 : decide (x0_2 = x0_3) = false := decide_eq_false c29
     simp +decide only [Nat.reduceAdd, Nat.reduceMul, Int.reduceToNat, ak, e31]
     by_cases c32 : (rd z122 l0 x0_1).f1 ≤ x0_2
     ·rw [if_pos c32] at h
      have e33 : decide ((rd z122 l0 x0_1).f1 ≤ x0_2) = true := decide_eq_true c32
      simp +decide only [Nat.reduceAdd, Nat.reduceMul, Int.reduceToNat, ak, e33]
      obtain rfl := Option.some.inj h
      refine G28n _ _ (wk [3, 6, 8, 13, 14, 15, 37] [pI (.arg 0) .fz, pI (.tmp 3 0) .box, pI (.tmp 6 20) .lst, pI (.tmp 8 0) .box] (h0 := by first | rfl | simp +decide only [ak, akF, b22, e31, e33]) (h := by first | rfl | (simp +decide only [ak, akF, b22, e31, e33]; done) | (simp +decide [ak, akF, b22, e31, e33] <;> omega))) (hJ27 _ rfl)
     ·rw [if_neg c32] at h
      have e34 : decide ((rd z122 l0 x0_1).f1 ≤ x0_2) = false := decide_eq_false c32
      simp +decide only [Nat.reduceAdd, Nat.reduceMul, Int.reduceToNat, ak, e34]
      obtain rfl := Option.some.inj h
      refine G28n _ _ (wk [3, 6, 8, 13, 14, 15, 37] [pI (.arg 0) .fz, pI (.tmp 3 0) .box, pI (.tmp 6 20) .lst, pI (.tmp 8 0) .box] (h0 := by first | rfl | simp +decide only [ak, akF, b22, e31, e34]) (h := by first | rfl | (simp +decide only [ak, akF, b22, e31, e34]; done) | (simp +decide [ak, akF, b22, e31, e34] <;> omega))) (hJ27 _ rfl)
   ·replace h := hn; clear hn h26
    rintro _ rfl
    refine cond_k (b := j25) rfl (fun c35 => ?_) (fun c35 => ?_)
    ·rw [if_pos c35] at h
     refine sr_k fun J36 hJ36 => ?_
     have g37 : (List.replicate 1 ([.int .u64 0, .int .u64 0] : List Value)).flatten = [.int .u64 0, .int .u64 0] := rfl
     have g38 : (⟨.lst, 2, [.sc (.int .u64 ((rd z122 l0 x0_1).f0)), .sc (.int .u64 ((rd z122 l0 x0_1).f1))]⟩ : Root) = ⟨.lst, 2, encL c122 ([(rd z122 l0 x0_1)] : List S122)⟩ := rfl
     have g39 : ([(rd z122 l0 x0_1)] : List S122).length = 1 := rfl
     have g40 : (encL c122 ([(rd z122 l0 x0_1)] : List S122)).length = 1 * 2 := by simp [encL_length c122_w]
     have g41 : (encL c122 ([(rd z122 l0 x0_1)] : List S122)).all nd = true := rfl
     obtain ⟨b42, h⟩ := of_guard h
     have g43 : appLim x0_4.length 1 16 := ⟨b42, by have := b42; omega⟩
     have g44 : (encL c122 x0_4).length = x0_4.length * 2 := by simp [encL_length c122_w]
     have g45 : encL c122 x0_4 ++ encL c122 ([(rd z122 l0 x0_1)] : List S122) = encL c122 (x0_4 ++ ([(rd z122 l0 x0_1)] : List S122)) := (encL_append _ _).symm
     simp +decide only [Nat.reduceAdd, Nat.reduceMul, Int.reduceToNat, ak, g37, g38, g39, g40, g41, g43, g44, g45]
     refine hJ36 _ ?_
     refine B20x _ ?_
     obtain rfl := Option.some.inj h
     refine G19n _ _ (wk [3, 6, 13, 14, 15] [pI (.arg 0) .fz, pI (.tmp 3 0) .box, pI (.tmp 6 20) .lst] (h0 := by first | rfl | simp +decide only [ak, akF, b22, b42]) (h := by first | rfl | (simp +decide only [ak, akF, b22, b42]; done) | (simp +decide [ak, akF, b22, b42] <;> omega))) (hJ18 _ rfl)
    ·rw [if_neg (Bool.eq_false_iff.1 c35)] at h
     refine hJ24 _ ?_
     obtain ⟨j46, h47, hn⟩ := of_bind h
     refine seq_j (fun st => st = ⟨[(3, .c (.ptr (.tmp 3 0) [] 0)), (6, .c (.ref (.tmp 6 20) [] 0 j46.length)), (8, .c (.ptr (.tmp 8 0) [] 0)), (13, .c (.ref (.arg 0) [] o0 l0.length)), (14, .c (.sc (.int .i64 x0_0))), (15, .c (.sc (.int .i64 x0_1)))], [(.arg 0, ⟨.fz, 2, cs0⟩), (.tmp 3 0, ⟨.box, 0, [.sc (.int .u64 x0_2), .sc (.int .u64 x0_3)]⟩), (.tmp 6 20, ⟨.lst, 2, encL c122 j46⟩), (.tmp 8 0, ⟨.box, 0, [.sc (.int .u64 ((rd z122 l0 x0_1).f0)), .sc (.int .u64 ((rd z122 l0 x0_1).f1))]⟩)], [], []⟩) (fun J48 hJ48 => ?_) ?_
     ·replace h := h47; clear hn
      refine ga_k fun G49 G49n G49r G49x => ?_
      refine sr_k fun J50 hJ50 => ?_
      simp +decide only [Nat.reduceAdd, Nat.reduceMul, Int.reduceToNat, ak]
      refine hJ50 _ ?_
      refine cond_k (b := decide ((rd z122 l0 x0_1).f0 < x0_2)) rfl (fun c51 => ?_) (fun c51 => ?_)
      ·replace c51 := of_decide_eq_true c51; rw [if_pos c51] at h
       refine reg_k ?_
       have g52 : (List.replicate 1 ([.int .u64 0, .int .u64 0] : List Value)).flatten = [.int .u64 0, .int .u64 0] := rfl
       have g53 : (⟨.lst, 2, [.sc (.int .u64 ((rd z122 l0 x0_1).f0)), .sc (.int .u64 x0_2)]⟩ : Root) = ⟨.lst, 2, encL c122 ([(⟨(rd z122 l0 x0_1).f0, x0_2⟩ : S122)] : List S122)⟩ := rfl
       have g54 : ([(⟨(rd z122 l0 x0_1).f0, x0_2⟩ : S122)] : List S122).length = 1 := rfl
       have g55 : (encL c122 ([(⟨(rd z122 l0 x0_1).f0, x0_2⟩ : S122)] : List S122)).length = 1 * 2 := by simp [encL_length c122_w]
       have g56 : (encL c122 ([(⟨(rd z122 l0 x0_1).f0, x0_2⟩ : S122)] : List S122)).all nd = true := rfl
       obtain ⟨b57, h⟩ := of_guard h
       have g58 : appLim x0_4.length 1 16 := ⟨b57, by have := b57; omega⟩
       have g59 : (encL c122 x0_4).length = x0_4.length * 2 := by simp [encL_length c122_w]
       have g60 : encL c122 x0_4 ++ encL c122 ([(⟨(rd z122 l0 x0_1).f0, x0_2⟩ : S122)] : List S122) = encL c122 (x0_4 ++ ([(⟨(rd z122 l0 x0_1).f0, x0_2⟩ : S122)] : List S122)) := (encL_append _ _).symm
       simp +decide only [Nat.reduceAdd, Nat.reduceMul, Int.reduceToNat, ak, g52, g53, g54, g55, g56, g58, g59, g60]
       obtain rfl := Option.some.inj h
       refine G49n _ _ (wk [3, 6, 8, 13, 14, 15] [pI (.arg 0) .fz, pI (.tmp 3 0) .box, pI (.tmp 6 20) .lst, pI (.tmp 8 0) .box] (h0 := by first | rfl | simp +decide only [ak, akF, b22, b57]) (h := by first | rfl | (simp +decide only [ak, akF, b22, b57]; done) | (simp +decide [ak, akF, b22, b57] <;> omega))) (hJ48 _ rfl)
      ·replace c51 := of_decide_eq_false c51; rw [if_neg c51] at h
       obtain rfl := Option.some.inj h
       refine G49n _ _ (wk [3, 6, 8, 13, 14, 15] [pI (.arg 0) .fz, pI (.tmp 3 0) .box, pI (.tmp 6 20) .lst, pI (.tmp 8 0) .box]) (hJ48 _ rfl)
     ·replace h := hn; clear hn h47
      rintro _ rfl
      refine sr_k fun J61 hJ61 => ?_
      simp +decide only [Nat.reduceAdd, Nat.reduceMul, Int.reduceToNat, ak]
      refine hJ61 _ ?_
      refine cond_k (b := decide ((rd z122 l0 x0_1).f1 > x0_3)) rfl (fun c62 => ?_) (fun c62 => ?_)
      ·replace c62 := of_decide_eq_true c62; rw [if_pos c62] at h
       refine reg_k ?_
       have g63 : (List.replicate 1 ([.int .u64 0, .int .u64 0] : List Value)).flatten = [.int .u64 0, .int .u64 0] := rfl
       have g64 : (⟨.lst, 2, [.sc (.int .u64 x0_3), .sc (.int .u64 ((rd z122 l0 x0_1).f1))]⟩ : Root) = ⟨.lst, 2, encL c122 ([(⟨x0_3, (rd z122 l0 x0_1).f1⟩ : S122)] : List S122)⟩ := rfl
       have g65 : ([(⟨x0_3, (rd z122 l0 x0_1).f1⟩ : S122)] : List S122).length = 1 := rfl
       have g66 : (encL c122 ([(⟨x0_3, (rd z122 l0 x0_1).f1⟩ : S122)] : List S122)).length = 1 * 2 := by simp [encL_length c122_w]
       have g67 : (encL c122 ([(⟨x0_3, (rd z122 l0 x0_1).f1⟩ : S122)] : List S122)).all nd = true := rfl
       obtain ⟨b68, h⟩ := of_guard h
       have g69 : appLim j46.length 1 16 := ⟨b68, by have := b68; omega⟩
       have g70 : (encL c122 j46).length = j46.length * 2 := by simp [encL_length c122_w]
       have g71 : encL c122 j46 ++ encL c122 ([(⟨x0_3, (rd z122 l0 x0_1).f1⟩ : S122)] : List S122) = encL c122 (j46 ++ ([(⟨x0_3, (rd z122 l0 x0_1).f1⟩ : S122)] : List S122)) := (encL_append _ _).symm
       simp +decide only [Nat.reduceAdd, Nat.reduceMul, Int.reduceToNat, ak, g63, g64, g65, g66, g67, g69, g70, g71]
       refine B20n _ ?_
       obtain rfl := Option.some.inj h
       refine G19n _ _ (wk [3, 6, 13, 14, 15] [pI (.arg 0) .fz, pI (.tmp 3 0) .box, pI (.tmp 6 20) .lst] (h0 := by first | rfl | simp +decide only [ak, akF, b22, b68]) (h := by first | rfl | (simp +decide only [ak, akF, b22, b68]; done) | (simp +decide [ak, akF, b22, b68] <;> omega))) (hJ18 _ rfl)
      ·replace c62 := of_decide_eq_false c62; rw [if_neg c62] at h
       refine B20n _ ?_
       obtain rfl := Option.some.inj h
       refine G19n _ _ (wk [3, 6, 13, 14, 15] [pI (.arg 0) .fz, pI (.tmp 3 0) .box, pI (.tmp 6 20) .lst]) (hJ18 _ rfl)
  ·replace h := hn; clear hn h17
   rintro _ rfl
   refine reg_k ?_
   simp +decide only [Nat.reduceAdd, Nat.reduceMul, Int.reduceToNat, ak]
   refine G0n _ _ (wk [3, 6, 13, 14, 15] [pI (.arg 0) .fz, pI (.tmp 3 0) .box, pI (.tmp 6 20) .lst]) (ih _ _ _ h K hx0)
 ·replace c15 := of_decide_eq_false c15; rw [if_neg c15] at h
  obtain rfl := Option.some.inj h
  refine gh_k (wk [6] [pI (.arg 0) .fz, pI (.tmp 6 20) .lst]) ?_
  refine G0x _ _ ?_
  exact hx0
theorem impl_SpanCut.tri (cs0 : List Cell) (o0 : Nat) (l0 : List S122) (hv0 : Vw c122 2 cs0 o0 l0) (a1_0 : Int) (a1_1 : Int) (r : (List S122) × Int) (h : impl_SpanCut.f l0 a1_0 a1_1 = some r) : Tri Try.prog 64 [.c (.ref (.arg 0) [] o0 l0.length), .g [.sc (.int .u64 a1_0), .sc (.int .u64 a1_1)]] [(.arg 0, ⟨.fz, 2, cs0⟩)] (fun o => o = ⟨.tup [(false, [.ref (.res 0) [] 0 r.1.length]), (false, [.sc (.int .i64 r.2)])], [(.arg 0, ⟨.fz, 2, cs0⟩), (.res 0, ⟨.lst, 2, encL c122 r.1⟩)], [], []⟩) := by
 refine tri_of_body (ac := C64) (xs := r64) Try.func64 (show Try.f64.body = some (Try.f64.body.getD .skip) from rfl) k64 q64 (Nat.le_of_ble_eq_true rfl) ?_
 refine body_of fun K hKn hKr => ?_
 unfold impl_SpanCut.f at h
 unfold C64
 simp only [initT, Nat.reduceAdd]
 refine sr_k fun J1 hJ1 => ?_
 simp +decide only [Nat.reduceAdd, Nat.reduceMul, Int.reduceToNat, ak]
 refine gho_k (Weak.nm' 4 (.tmp 4 20) 2 (encL c122 ([] : List S122)) rfl rfl rfl) ?_
 simp +decide only [Nat.reduceAdd, Nat.reduceMul, Int.reduceToNat, ak]
 refine hJ1 _ ?_
 refine seq_k fun J2 hJ2 => ?_
 refine sr_k fun J3 hJ3 => ?_
 simp +decide only [Nat.reduceAdd, Nat.reduceMul, Int.reduceToNat, ak]
 obtain ⟨t4, h5, h⟩ := of_bind h
 refine call_m [(.arg 0, ⟨(.arg 0), [], none, .fz⟩)] (s0 := [(.arg 0, ⟨.fz, 2, cs0⟩)]) (by intro t ht; cases ht; decide) rfl rfl (by first | rfl | simp only [reduceCtorEq, Nat.reduceEqDiff, ak, akF]) (impl_validSpans.tri (cs0) o0 l0 hv0 a1_0 a1_1 _ h5) (by first | rfl | simp only [reduceCtorEq, Nat.reduceEqDiff, ak, akF]) (by simp [bkOk2, memK]) (fun hl5 => ?_)
 refine call_st (s4 := [(.arg 0, ⟨.fz, 2, cs0⟩), (.tmp 3 0, ⟨.box, 0, [.sc (.int .u64 a1_0), .sc (.int .u64 a1_1)]⟩), (.tmp 4 20, ⟨.lst, 2, encL c122 ([] : List S122)⟩)]) (m1' := []) (m2' := []) (v' := .c (.sc (.bool t4))) (Sto.mapN_killNil _ _) (mrgL_fz (mrgL_nil' _ _ _) rfl (by first | rfl | simp only [reduceCtorEq, Nat.reduceEqDiff, ak]) rfl (by intro R hR hh; cases hR; cases hh.2)) (by rfl) (mapT_killNil _ _) (by rfl) (by rfl) (by first | rfl | simp only [reduceCtorEq, Nat.reduceEqDiff, ak, akF, Nat.zero_add, List.append_nil]) ?_
 simp +decide only [Nat.reduceAdd, Nat.reduceMul, Int.reduceToNat, ak]
 refine hJ3 _ ?_
 refine cond_k (b := !t4) rfl (fun c7 => ?_) (fun c7 => ?_)
 ·rw [if_pos c7] at h
  refine sr_k fun J8 hJ8 => ?_
  simp +decide only [Nat.reduceAdd, Nat.reduceMul, Int.reduceToNat, ak]
  refine gho_k ((Weak.drop [.tmp 4 20]).trans (Weak.nm' 4 (.tmp 4 20) 2 (encL c122 ([] : List S122)) rfl rfl rfl)) ?_
  simp +decide only [Nat.reduceAdd, Nat.reduceMul, Int.reduceToNat, ak]
  refine hJ8 _ ?_
  obtain rfl := Option.some.inj h
  refine hKr _ ⟨_, rfl, [⟨(.tmp 4 20), [], none, .lst⟩], _, rfl, rfl, ?_⟩
  first | rfl | (simp only [reduceCtorEq, Nat.reduceEqDiff, ak, akF]; done) | (simp [reduceCtorEq, Nat.reduceEqDiff, ak, akF] <;> omega)
 ·rw [if_neg (Bool.eq_false_iff.1 c7)] at h
  refine hJ2 _ ?_
  refine sr_k fun J9 hJ9 => ?_
  simp +decide only [Nat.reduceAdd, Nat.reduceMul, Int.reduceToNat, ak]
  refine gho_k (Weak.nm' 6 (.tmp 6 20) 2 (encL c122 ([] : List S122)) rfl rfl rfl) ?_
  simp +decide only [Nat.reduceAdd, Nat.reduceMul, Int.reduceToNat, ak]
  refine hJ9 _ ?_
  refine seq_k fun J10 hJ10 => ?_
  refine sr_k fun J11 hJ11 => ?_
  simp +decide only [Nat.reduceAdd, Nat.reduceMul, Int.reduceToNat, ak]
  refine hJ11 _ ?_
  refine block_k fun B12 B12n B12x B12r B12j => ?_
  obtain ⟨y72, h73, h⟩ := of_bind h
  refine gh_k (st' := ⟨[(3, .c (.ptr (.tmp 3 0) [] 0)), (6, .c (.ref (.tmp 6 20) [] 0 (([] : List S122).length))), (13, .c (.ref (.arg 0) [] o0 l0.length)), (14, .c (.sc (.int .i64 (l0.length : Int)))), (15, .c (.sc (.int .i64 0)))], [(.arg 0, ⟨.fz, 2, cs0⟩), (.tmp 3 0, ⟨.box, 0, [.sc (.int .u64 a1_0), .sc (.int .u64 a1_1)]⟩), (.tmp 6 20, ⟨.lst, 2, encL c122 ([] : List S122)⟩)], [], []⟩) (wk [3, 6, 13, 14, 15] [pI (.arg 0) .fz, pI (.tmp 3 0) .box, pI (.tmp 6 20) .lst] (h := by first | rfl | (simp +decide only [ak, akF]; done) | (simp +decide [ak, akF] <;> omega))) ?_
  rw [e_loop]
  refine impl_SpanCut.l0_walk cs0 o0 l0 hv0 (l0.length : Int) a1_0 a1_1 0 ([] : List S122) _ h73 _ ?_
  refine B12x _ ?_
  refine hJ10 _ ?_
  refine sr_k fun J74 hJ74 => ?_
  simp +decide only [Nat.reduceAdd, Nat.reduceMul, Int.reduceToNat, ak]
  obtain ⟨t75, h76, h⟩ := of_bind h
  rcases hpo : t75.1 with _ | p79
  ·have hpp77 := hpo
   rw [hpo] at h; dsimp only at h
   refine call_m [(.arg 0, ⟨(.tmp 6 20), [], none, .fz⟩)] (s0 := [(.arg 0, ⟨.fz, 2, encL c122 y72⟩)]) (by intro t ht; cases ht; decide) rfl rfl (by first | rfl | simp only [reduceCtorEq, Nat.reduceEqDiff, ak, akF]) (impl_limited.tri0 (encL c122 y72) 0 y72 (Vw.whole c122_w y72) _ h76 hpp77) (by first | rfl | simp only [reduceCtorEq, Nat.reduceEqDiff, ak, akF]) (by simp [bkOk2, memK]) (fun hl77 => ?_)
   refine call_st (s4 := [(.arg 0, ⟨.fz, 2, cs0⟩), (.tmp 6 20, ⟨.lst, 2, encL c122 y72⟩)]) (m1' := []) (m2' := []) (v' := .tup [(false, [.ref (.tmp 6 20) [] 0 y72.length]), (false, [.sc (.int .i64 t75.2)])]) (Sto.mapN_killNil _ _) (mrgL_fz (mrgL_nil' _ _ _) rfl (by first | rfl | simp only [reduceCtorEq, Nat.reduceEqDiff, ak]) rfl (by intro R hR hh; cases hR; cases hh.2)) (by rfl) (mapT_killNil _ _) (by rfl) (by rfl) (by first | rfl | simp only [reduceCtorEq, Nat.reduceEqDiff, ak, akF, Nat.zero_add, List.append_nil]) ?_
   simp +decide only [Nat.reduceAdd, Nat.reduceMul, Int.reduceToNat, ak]
   refine hJ74 _ ?_
   obtain rfl := Option.some.inj h
   refine hKr _ ⟨_, rfl, [⟨(.tmp 6 20), [], none, .lst⟩], _, rfl, rfl, ?_⟩
   first | rfl | (simp only [reduceCtorEq, Nat.reduceEqDiff, ak, akF]; done) | (simp [reduceCtorEq, Nat.reduceEqDiff, ak, akF] <;> omega)
  ·have hpp79 := hpo
   rw [hpo] at h; dsimp only at h
   refine call_m [(.arg 0, ⟨(.tmp 6 20), [], none, .fz⟩)] (s0 := [(.arg 0, ⟨.fz, 2, encL c122 y72⟩)]) (by intro t ht; cases ht; decide) rfl rfl (by first | rfl | simp only [reduceCtorEq, Nat.reduceEqDiff, ak, akF]) (impl_limited.tri1 (encL c122 y72) 0 y72 (Vw.whole c122_w y72) _ h76 _ hpp79) (by first | rfl | simp only [reduceCtorEq, Nat.reduceEqDiff, ak, akF]) (by simp [bkOk2, memK]) (fun hl79 => ?_)
   refine call_st (s4 := [(.arg 0, ⟨.fz, 2, cs0⟩), (.tmp 6 20, ⟨.lst, 2, encL c122 y72⟩), (.tmp 70 0, ⟨.lst, 2, encL c122 p79⟩)]) (m1' := []) (m2' := []) (v' := .tup [(false, [.ref (.tmp 70 0) [] 0 p79.length]), (false, [.sc (.int .i64 t75.2)])]) (Sto.mapN_killNil _ _) (mrgL_fz (mrgL_nil' _ _ _) rfl (by first | rfl | simp only [reduceCtorEq, Nat.reduceEqDiff, ak]) rfl (by intro R hR hh; cases hR; cases hh.2)) (by rfl) (mapT_killNil _ _) (by rfl) (by rfl) (by first | rfl | simp only [reduceCtorEq, Nat.reduceEqDiff, ak, akF, Nat.zero_add, List.append_nil]) ?_
   simp +decide only [Nat.reduceAdd, Nat.reduceMul, Int.reduceToNat, ak]
   refine hJ74 _ ?_
   obtain rfl := Option.some.inj h
   refine hKr _ ⟨_, rfl, [⟨(.tmp 70 0), [], none, .lst⟩], _, rfl, rfl, ?_⟩
   first | rfl | (simp only [reduceCtorEq, Nat.reduceEqDiff, ak, akF]; done) | (simp [reduceCtorEq, Nat.reduceEqDiff, ak, akF] <;> omega)
/-! ### impl.SpanSize: function 65 -/
def C65_l0 : AC := .seq (.reg [.op none (.bin 18 .lss (.tmp 17) (.tmp 16)), .keep [3, 6, 15, 16, 17, 18]]) (.seq (.cond (.tmp 18) (.skip) (.gh (.exit 0))) (.seq (.ga (.block 1 (.seq (.reg [.op none (.iaddr 19 2 (.tmp 15) (.tmp 17)), .op none (.load 20 true 2 (.tmp 19)), .op none (.alloc 8 [.int .u64 0, .int .u64 0]), .op none (.store 2 (.tmp 8) (.tmp 20)), .keep [3, 6, 8, 15, 16, 17]]) (.seq (.regD (.first (.op none (.faddr 21 0 (.tmp 8))) (.first (.op none (.load 22 false 1 (.tmp 21))) (.first (.op none (.faddr 23 0 (.tmp 3))) (.first (.op none (.load 24 false 1 (.tmp 23))) (.first (.op none (.mm 25 true [.tmp 22, .tmp 24])) (.first (.op none (.faddr 26 1 (.tmp 8))) (.first (.op none (.load 27 false 1 (.tmp 26))) (.first (.op none (.faddr 28 1 (.tmp 3))) (.first (.op none (.load 29 false 1 (.tmp 28))) (.first (.op none (.mm 30 false [.tmp 27, .tmp 29])) (.first (.op none (.mv 9 (.tmp 25))) (.first (.op none (.mv 10 (.tmp 30))) (.done))))))))))))) [3, 6, 9, 10, 15, 16, 17]) (.seq (.reg [.op none (.mv 31 (.tmp 9)), .op none (.mv 32 (.tmp 10)), .op none (.bin 33 .lss (.tmp 31) (.tmp 32)), .keep [3, 6, 9, 10, 15, 16, 17, 33]]) (.cond (.tmp 33) (.reg [.op none (.mv 34 (.tmp 6)), .op none (.mv 35 (.tmp 10)), .op none (.mv 36 (.tmp 9)), .op none (.bin 37 .sub (.tmp 35) (.tmp 36)), .op none (.bin 38 .add (.tmp 34) (.tmp 37)), .op none (.mv 6 (.tmp 38)), .keep [3, 6, 15, 16, 17]]) (.skip))))))) (.reg [.op none (.bin 39 .add (.tmp 17) (.const (.int .i64 1))), .op none (.mv 17 (.tmp 39)), .keep [3, 6, 15, 16, 17]])))
def C65 : AC := .seq (.reg [.op none (.box 3 (.tmp 1)), .op none (.mv 4 (.const (.int .u64 0))), .op none (.mv 5 (.const (.int .i64 0))), .keep [0, 3]]) (.seq (.seq (.reg [.op none (.mv 11 (.tmp 0)), .op none (.load 12 true 2 (.tmp 3)), .call none (some 13) 112 [.tmp 11, .tmp 12], .op none (.un 14 .not (.tmp 13)), .keep [0, 3, 14]]) (.cond (.tmp 14) (.seq (.reg [.op none (.mv 4 (.const (.int .u64 0))), .op none (.mv 5 (.const (.int .i64 1))), .keep [4, 5]]) (.ret)) (.skip))) (.seq (.reg [.op none (.mv 6 (.const (.int .u64 0))), .keep [0, 3, 6]]) (.seq (.seq (.reg [.op none (.mv 15 (.tmp 0)), .op none (.len 16 (.tmp 15)), .op none (.mv 17 (.const (.int .i64 0))), .keep [3, 6, 15, 16, 17]]) (.block 0 (.gh (.loop (.ga C65_l0))))) (.seq (.reg [.op none (.mv 40 (.tmp 6)), .op none (.mv 4 (.tmp 40)), .op none (.mv 5 (.const (.int .i64 0))), .keep [4, 5]]) (.ret)))))
def r65 : List RV := [.tmp 4, .tmp 5]
theorem k65 : compC Try.prog 41 C65 (Try.f65.body.getD .skip) = some C65.erase := by kernel_rfl
theorem q65 : rvsOf Try.prog Try.f65.results.toList = some r65 := by kernel_rfl
def impl_SpanSize.l0 (l0 : List S122) (x0_1 : Int) (x0_3 : Int) (x0_4 : Int) (x0_0 : Int) (x0_2 : Int) : Option Int := (if x0_2 < x0_1 then ((if 0 ≤ x0_2 ∧ x0_2 < (l0.length : Int) then (if (if x0_3 > ((rd z122 l0 x0_2).f0) then x0_3 else (rd z122 l0 x0_2).f0) < (if x0_4 < ((rd z122 l0 x0_2).f1) then x0_4 else (rd z122 l0 x0_2).f1) then (some (IntKind.u64.wrap (x0_0 + (IntKind.u64.wrap ((if x0_4 < ((rd z122 l0 x0_2).f1) then x0_4 else (rd z122 l0 x0_2).f1) - (if x0_3 > ((rd z122 l0 x0_2).f0) then x0_3 else (rd z122 l0 x0_2).f0)))))) else (some x0_0)) else none) >>= fun (j16 : Int) => (impl_SpanSize.l0 l0 x0_1 x0_3 x0_4 j16 (IntKind.i64.wrap (x0_2 + 1)))) else (some x0_0))
 partial_fixpoint
def impl_SpanSize.f (l0 : List S122) (a1_0 : Int) (a1_1 : Int) : Option (Int × Int) := (impl_validSpans.f l0 a1_0 a1_1 >>= fun t4 => (if (!t4) = true then (some (0, 1)) else (impl_SpanSize.l0 l0 (l0.length : Int) a1_0 a1_1 0 0 >>= fun (y27 : Int) => (some (y27, 0)))))
def impl_SpanSize.l0_M (cs0 : List Cell) (o0 : Nat) (l0 : List S122) (hv0 : Vw c122 2 cs0 o0 l0) (x0_1 : Int) (x0_3 : Int) (x0_4 : Int) (x0_0 : Int) (x0_2 : Int) (y : Int) : Prop := ∀ (K : AE → St → Prop), (K (.exit 0) ⟨[(6, .c (.sc (.int .u64 y)))], [(.arg 0, ⟨.fz, 2, cs0⟩)], [], []⟩) → loopS Try.prog 41 (.ga C65_l0) K ⟨[(3, .c (.ptr (.tmp 3 0) [] 0)), (6, .c (.sc (.int .u64 x0_0))), (15, .c (.ref (.arg 0) [] o0 l0.length)), (16, .c (.sc (.int .i64 x0_1))), (17, .c (.sc (.int .i64 x0_2)))], [(.arg 0, ⟨.fz, 2, cs0⟩), (.tmp 3 0, ⟨.box, 0, [.sc (.int .u64 x0_3), .sc (.int .u64 x0_4)]⟩)], [], []⟩
theorem impl_SpanSize.l0_walk (cs0 : List Cell) (o0 : Nat) (l0 : List S122) (hv0 : Vw c122 2 cs0 o0 l0) (x0_1 : Int) (x0_3 : Int) (x0_4 : Int) (x0_0 : Int) (x0_2 : Int) (y : Int) (h : impl_SpanSize.l0 l0 x0_1 x0_3 x0_4 x0_0 x0_2 = some y) : impl_SpanSize.l0_M cs0 o0 l0 hv0 x0_1 x0_3 x0_4 x0_0 x0_2 y := by
 refine impl_SpanSize.l0.partial_correctness l0 x0_1 x0_3 x0_4 (motive := fun x0_0 x0_2 y => impl_SpanSize.l0_M cs0 o0 l0 hv0 x0_1 x0_3 x0_4 x0_0 x0_2 y) ?_ x0_0 x0_2 y h
 clear h
 unfold impl_SpanSize.l0_M
 intro rec ih x0_0 x0_2 y h K hx0
 refine loop_unroll (ga_k fun G0 G0n G0r G0x => ?_)
 unfold C65_l0
 refine sr_k fun J13 hJ13 => ?_
 simp +decide only [Nat.reduceAdd, Nat.reduceMul, Int.reduceToNat, ak]
 refine hJ13 _ ?_
 refine seq_k fun J14 hJ14 => ?_
 refine cond_k (b := decide (x0_2 < x0_1)) rfl (fun c15 => ?_) (fun c15 => ?_)
 ·replace c15 := of_decide_eq_true c15; rw [if_pos c15] at h
  refine hJ14 _ ?_
  obtain ⟨j16, h17, hn⟩ := of_bind h
  refine seq_j (fun st => st = ⟨[(3, .c (.ptr (.tmp 3 0) [] 0)), (6, .c (.sc (.int .u64 j16))), (15, .c (.ref (.arg 0) [] o0 l0.length)), (16, .c (.sc (.int .i64 x0_1))), (17, .c (.sc (.int .i64 x0_2)))], [(.arg 0, ⟨.fz, 2, cs0⟩), (.tmp 3 0, ⟨.box, 0, [.sc (.int .u64 x0_3), .sc (.int .u64 x0_4)]⟩)], [], []⟩) (fun J18 hJ18 => ?_) ?_
  ·replace h := h17; clear hn
   refine ga_k fun G19 G19n G19r G19x => ?_
   refine block_k fun B20 B20n B20x B20r B20j => ?_
   refine sr_k fun J21 hJ21 => ?_
   obtain ⟨b22, h⟩ := of_guard h
   have g23 : (List.drop (o0 + x0_2.toNat * 2) (cs0)).take 2 = [.sc (.int .u64 ((rd z122 l0 x0_2).f0)), .sc (.int .u64 ((rd z122 l0 x0_2).f1))] := hv0.stretch z122 b22.1 b22.2
   simp +decide only [Nat.reduceAdd, Nat.reduceMul, Int.reduceToNat, ak, b22, g23]
   refine hJ21 _ ?_
   refine sd_k fun J24 hJ24 => ?_
   simp +decide only [Nat.reduceAdd, Nat.reduceMul, Int.reduceToNat, ak, mmF, mm2, scv, List.foldl]
   refine hJ24 _ ?_
   refine sr_k fun J25 hJ25 => ?_
   simp +decide only [Nat.reduceAdd, Nat.reduceMul, Int.reduceToNat, ak]
   refine hJ25 _ ?_
   refine cond_k (b := decide ((if x0_3 > ((rd z122 l0 x0_2).f0) then x0_3 else (rd z122 l0 x0_2).f0) < (if x0_4 < ((rd z122 l0 x0_2).f1) then x0_4 else (rd z122 l0 x0_2).f1))) rfl (fun c26 => ?_) (fun c26 => ?_)
   ·replace c26 := of_decide_eq_true c26; rw [if_pos c26] at h
    refine reg_k ?_
    simp +decide only [Nat.reduceAdd, Nat.reduceMul, Int.reduceToNat, ak]
    refine B20n _ ?_
    obtain rfl := Option.some.inj h
    refine G19n _ _ (wk [3, 6, 15, 16, 17] [pI (.arg 0) .fz, pI (.tmp 3 0) .box]) (hJ18 _ rfl)
   ·replace c26 := of_decide_eq_false c26; rw [if_neg c26] at h
    refine B20n _ ?_
    obtain rfl := Option.some.inj h
    refine G19n _ _ (wk [3, 6, 15, 16, 17] [pI (.arg 0) .fz, pI (.tmp 3 0) .box]) (hJ18 _ rfl)
  ·replace h := hn; clear hn h17
   rintro _ rfl
   refine reg_k ?_
   simp +decide only [Nat.reduceAdd, Nat.reduceMul, Int.reduceToNat, ak]
   refine G0n _ _ (wk [3, 6, 15, 16, 17] [pI (.arg 0) .fz, pI (.tmp 3 0) .box]) (ih _ _ _ h K hx0)
 ·replace c15 := of_decide_eq_false c15; rw [if_neg c15] at h
  obtain rfl := Option.some.inj h
  refine gh_k (wk [6] [pI (.arg 0) .fz]) ?_
  refine G0x _ _ ?_
  exact hx0
theorem impl_SpanSize.tri (cs0 : List Cell) (o0 : Nat) (l0 : List S122) (hv0 : Vw c122 2 cs0 o0 l0) (a1_0 : Int) (a1_1 : Int) (r : Int × Int) (h : impl_SpanSize.f l0 a1_0 a1_1 = some r) : Tri Try.prog 65 [.c (.ref (.arg 0) [] o0 l0.length), .g [.sc (.int .u64 a1_0), .sc (.int .u64 a1_1)]] [(.arg 0, ⟨.fz, 2, cs0⟩)] (fun o => o = ⟨.tup [(false, [.sc (.int .u64 r.1)]), (false, [.sc (.int .i64 r.2)])], [(.arg 0, ⟨.fz, 2, cs0⟩)], [], []⟩) := by
 refine tri_of_body (ac := C65) (xs := r65) Try.func65 (show Try.f65.body = some (Try.f65.body.getD .skip) from rfl) k65 q65 (Nat.le_of_ble_eq_true rfl) ?_
 refine body_of fun K hKn hKr => ?_
 unfold impl_SpanSize.f at h
 unfold C65
 simp only [initT, Nat.reduceAdd]
 refine sr_k fun J1 hJ1 => ?_
 simp +decide only [Nat.reduceAdd, Nat.reduceMul, Int.reduceToNat, ak]
 refine hJ1 _ ?_
 refine seq_k fun J2 hJ2 => ?_
 refine sr_k fun J3 hJ3 => ?_
 simp +decide only [Nat.reduceAdd, Nat.reduceMul, Int.reduceToNat, ak]
 obtain ⟨t4, h5, h⟩ := of_bind h
 refine call_m [(.arg 0, ⟨(.arg 0), [], none, .fz⟩)] (s0 := [(.arg 0, ⟨.fz, 2, cs0⟩)]) (by intro t ht; cases ht; decide) rfl rfl (by first | rfl | simp only [reduceCtorEq, Nat.reduceEqDiff, ak, akF]) (impl_validSpans.tri (cs0) o0 l0 hv0 a1_0 a1_1 _ h5) (by first | rfl | simp only [reduceCtorEq, Nat.reduceEqDiff, ak, akF]) (by simp [bkOk2, memK]) (fun hl5 => ?_)
 refine call_st (s4 := [(.arg 0, ⟨.fz, 2, cs0⟩), (.tmp 3 0, ⟨.box, 0, [.sc (.int .u64 a1_0), .sc (.int .u64 a1_1)]⟩)]) (m1' := []) (m2' := []) (v' := .c (.sc (.bool t4))) (Sto.mapN_killNil _ _) (mrgL_fz (mrgL_nil' _ _ _) rfl (by first | rfl | simp only [reduceCtorEq, Nat.reduceEqDiff, ak]) rfl (by intro R hR hh; cases hR; cases hh.2)) (by rfl) (mapT_killNil _ _) (by rfl) (by rfl) (by first | rfl | simp only [reduceCtorEq, Nat.reduceEqDiff, ak, akF, Nat.zero_add, List.append_nil]) ?_
 simp +decide only [Nat.reduceAdd, Nat.reduceMul, Int.reduceToNat, ak]
 refine hJ3 _ ?_
 refine cond_k (b := !t4) rfl (fun c7 => ?_) (fun c7 => ?_)
 ·rw [if_pos c7] at h
  refine sr_k fun J8 hJ8 => ?_
  simp +decide only [Nat.reduceAdd, Nat.reduceMul, Int.reduceToNat, ak]
  refine hJ8 _ ?_
  obtain rfl := Option.some.inj h
  refine hKr _ ⟨_, rfl, [], _, rfl, rfl, ?_⟩
  first | rfl | (simp only [reduceCtorEq, Nat.reduceEqDiff, ak, akF]; done) | (simp [reduceCtorEq, Nat.reduceEqDiff, ak, akF] <;> omega)
 ·rw [if_neg (Bool.eq_false_iff.1 c7)] at h
  refine hJ2 _ ?_
  refine sr_k fun J9 hJ9 => ?_
  simp +decide only [Nat.reduceAdd, Nat.reduceMul, Int.reduceToNat, ak]
  refine hJ9 _ ?_
  refine seq_k fun J10 hJ10 => ?_
  refine sr_k fun J11 hJ11 => ?_
  simp +decide only [Nat.reduceAdd, Nat.reduceMul, Int.reduceToNat, ak]
  refine hJ11 _ ?_
  refine block_k fun B12 B12n B12x B12r B12j => ?_
  obtain ⟨y27, h28, h⟩ := of_bind h
  refine gh_k (wk [3, 6, 15, 16, 17] [pI (.arg 0) .fz, pI (.tmp 3 0) .box]) ?_
  rw [e_loop]
  refine impl_SpanSize.l0_walk cs0 o0 l0 hv0 (l0.length : Int) a1_0 a1_1 0 0 _ h28 _ ?_
  refine B12x _ ?_
  refine hJ10 _ ?_
  refine sr_k fun J29 hJ29 => ?_
  simp +decide only [Nat.reduceAdd, Nat.reduceMul, Int.reduceToNat, ak]
  refine hJ29 _ ?_
  obtain rfl := Option.some.inj h
  refine hKr _ ⟨_, rfl, [], _, rfl, rfl, ?_⟩
  first | rfl | (simp only [reduceCtorEq, Nat.reduceEqDiff, ak, akF]; done) | (simp [reduceCtorEq, Nat.reduceEqDiff, ak, akF] <;> omega)
end Go.AK
