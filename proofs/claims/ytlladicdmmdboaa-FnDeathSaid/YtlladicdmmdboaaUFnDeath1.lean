-- by a program of this session (wip/ak/pw.py)
import Derived.Test.YtlladicdmmdboaaUFnDeath0
set_option synthInstance.maxSize 20000
set_option synthInstance.maxHeartbeats 400000
set_option maxRecDepth 100000
set_option maxHeartbeats 4000000
set_option linter.unusedVariables false
set_option linter.unusedSimpArgs false
namespace Go.AK
open Go Go.Proofs
/-! ### spec.DrawSubRun: function 29 -/
def C29 : AC := .seq (.reg [.op none (.alloc 2 [.int .u32 0, .int .i64 0, .int .i64 0, .int .i64 0, .int .i64 0, .int .i64 0]), .op none (.mv 3 (.const (.slice none 0 0))), .gh, .keep [0, 2]]) (.seq (.reg [.op none (.mv 9 (.tmp 0)), .call none (some 10) 68 [.tmp 9], .op none (.alloc 4 [.slice none 0 0, .int .i64 0, .int .u64 0]), .gh, .op none (.store 3 (.tmp 4) (.tmp 10)), .keep [0, 2, 4]]) (.seq (.reg [.call none (some 11) 84 [.tmp 4], .op none (.alloc 5 [.int .u32 0, .int .i64 0, .int .i64 0, .int .i64 0, .int .i64 0, .int .i64 0]), .op none (.store 6 (.tmp 5) (.tmp 11)), .keep [0, 2, 4, 5]]) (.seq (.reg [.op none (.mv 12 (.tmp 0)), .op none (.len 13 (.tmp 12)), .op none (.bin 14 .quo (.tmp 13) (.const (.int .i64 2))), .op none (.bin 15 .add (.const (.int .i64 40)) (.tmp 14)), .call none (some 16) 69 [.tmp 4, .tmp 15], .op none (.bin 17 .add (.const (.int .i64 10)) (.tmp 16)), .op none (.mv 6 (.tmp 17)), .keep [2, 4, 5, 6]]) (.seq (.reg [.call none (some 18) 69 [.tmp 4, .const (.int .i64 30)], .op none (.mv 7 (.tmp 18)), .keep [2, 4, 5, 6, 7]]) (.seq (.ga (.seq (.reg [.op none (.mv 19 (.tmp 7)), .op none (.bin 20 .eql (.tmp 19) (.const (.int .i64 0))), .keep [2, 4, 5, 6, 7, 20]]) (.cond (.tmp 20) (.reg [.call none (some 21) 69 [.tmp 4, .const (.int .i64 2)], .op none (.bin 22 .add (.const (.int .i64 4000)) (.tmp 21)), .op none (.mv 6 (.tmp 22)), .keep [2, 4, 5, 6, 7]]) (.skip)))) (.seq (.reg [.op none (.load 23 true 6 (.tmp 5)), .op none (.mv 24 (.tmp 6)), .call none (some 25) 85 [.tmp 4, .tmp 23, .tmp 24], .op none (.mv 8 (.tmp 25)), .keep [2, 5, 7, 8]]) (.seq (.ga (.seq (.reg [.op none (.mv 26 (.tmp 7)), .keep [2, 5, 8, 26]]) (.block 0 (.seq (.reg [.op none (.bin 28 .eql (.tmp 26) (.const (.int .i64 1))), .op none (.mv 27 (.tmp 28)), .keep [2, 5, 8, 26, 27]]) (.cond (.tmp 27) (.reg [.op none (.faddr 29 1 (.tmp 5)), .op none (.store 1 (.tmp 29) (.const (.int .i64 17))), .keep [2, 5, 8]]) (.seq (.reg [.op none (.bin 31 .eql (.tmp 26) (.const (.int .i64 2))), .op none (.mv 30 (.tmp 31)), .keep [2, 5, 8, 26, 30]]) (.cond (.tmp 30) (.reg [.op none (.faddr 32 2 (.tmp 5)), .op none (.load 33 false 1 (.tmp 32)), .op none (.bin 34 .sub (.tmp 33) (.const (.int .i64 1))), .op none (.faddr 35 3 (.tmp 5)), .op none (.store 1 (.tmp 35) (.tmp 34)), .keep [2, 5, 8]]) (.seq (.reg [.op none (.bin 37 .eql (.tmp 26) (.const (.int .i64 3))), .op none (.mv 36 (.tmp 37)), .keep [2, 5, 8, 26, 36]]) (.cond (.tmp 36) (.reg [.op none (.faddr 38 4 (.tmp 5)), .op none (.store 1 (.tmp 38) (.const (.int .i64 0))), .keep [2, 5, 8]]) (.seq (.reg [.op none (.bin 40 .eql (.tmp 26) (.const (.int .i64 4))), .op none (.mv 39 (.tmp 40)), .keep [2, 5, 8, 26, 39]]) (.cond (.tmp 39) (.reg [.op none (.faddr 41 5 (.tmp 5)), .op none (.store 1 (.tmp 41) (.const (.int .i64 51))), .keep [2, 5, 8]]) (.seq (.reg [.op none (.bin 43 .eql (.tmp 26) (.const (.int .i64 5))), .op none (.mv 42 (.tmp 43)), .keep [2, 5, 8, 42]]) (.cond (.tmp 42) (.reg [.op none (.faddr 44 2 (.tmp 5)), .op none (.store 1 (.tmp 44) (.const (.int .i64 0))), .keep [2, 5, 8]]) (.skip)))))))))))))) (.seq (.reg [.op none (.load 45 true 6 (.tmp 5)), .op none (.mv 46 (.tmp 8)), .op none (.store 6 (.tmp 2) (.tmp 45)), .op none (.mv 3 (.tmp 46)), .keep [2, 3]]) (.ret)))))))))
def r29 : List RV := [.cell 2 true 6, .tmp 3]
theorem k29 : compC Try.prog 47 C29 (Try.f29.body.getD .skip) = some C29.erase := by kernel_rfl
theorem q29 : rvsOf Try.prog Try.f29.results.toList = some r29 := by kernel_rfl
def spec_DrawSubRun.f (l0 : List Int) : Option (Int × Int × Int × Int × Int × Int × (List S63)) := (spec_l1Begin.f l0 >>= fun t3 => (spec_l4DrawConfig.f l0 t3.1 t3.2 >>= fun t7 => (spec_l1Next.f l0 t7.2.2.2.2.2.2.1 t7.2.2.2.2.2.2.2 (IntKind.i64.wrap (40 + (IntKind.i64.wrap ((l0.length : Int).tdiv 2)))) >>= fun t11 => (spec_l1Next.f l0 t11.2.1 t11.2.2 30 >>= fun t15 => ((if t15.1 = 0 then (spec_l1Next.f l0 t15.2.1 t15.2.2 2 >>= fun t24 => (some (IntKind.i64.wrap (4000 + t24.1), t24.2.1, t24.2.2))) else (some (IntKind.i64.wrap (10 + t11.1), t15.2.1, t15.2.2))) >>= fun (j18 : Int × Int × Int) => (spec_l4DrawEvents.f l0 j18.2.1 j18.2.2 t7.1 t7.2.1 t7.2.2.1 t7.2.2.2.1 t7.2.2.2.2.1 t7.2.2.2.2.2.1 j18.1 >>= fun t28 => ((if t15.1 = 1 then (some (17, t7.2.2.1, t7.2.2.2.1, t7.2.2.2.2.1, t7.2.2.2.2.2.1)) else (if t15.1 = 2 then (some (t7.2.1, t7.2.2.1, IntKind.i64.wrap (t7.2.2.1 - 1), t7.2.2.2.2.1, t7.2.2.2.2.2.1)) else (if t15.1 = 3 then (some (t7.2.1, t7.2.2.1, t7.2.2.2.1, 0, t7.2.2.2.2.2.1)) else (if t15.1 = 4 then (some (t7.2.1, t7.2.2.1, t7.2.2.2.1, t7.2.2.2.2.1, 51)) else (if t15.1 = 5 then (some (t7.2.1, 0, t7.2.2.2.1, t7.2.2.2.2.1, t7.2.2.2.2.2.1)) else (some (t7.2.1, t7.2.2.1, t7.2.2.2.1, t7.2.2.2.2.1, t7.2.2.2.2.2.1))))))) >>= fun (j31 : Int × Int × Int × Int × Int) => (some (t7.1, j31.1, j31.2.1, j31.2.2.1, j31.2.2.2.1, j31.2.2.2.2, t28.1)))))))))
theorem spec_DrawSubRun.tri (cs0 : List Cell) (o0 : Nat) (l0 : List Int) (hv0 : Vw c_u8 1 cs0 o0 l0) (r : Int × Int × Int × Int × Int × Int × (List S63)) (h : spec_DrawSubRun.f l0 = some r) : Tri Try.prog 29 [.c (.ref (.arg 0) [] o0 l0.length)] [(.arg 0, ⟨.fz, 1, cs0⟩)] (fun o => o = ⟨.tup [(true, [.sc (.int .u32 r.1), .sc (.int .i64 r.2.1), .sc (.int .i64 r.2.2.1), .sc (.int .i64 r.2.2.2.1), .sc (.int .i64 r.2.2.2.2.1), .sc (.int .i64 r.2.2.2.2.2.1)]), (false, [.ref (.res 0) [] 0 r.2.2.2.2.2.2.length])], [(.arg 0, ⟨.fz, 1, cs0⟩), (.res 0, ⟨.lst, 3, encL c63 r.2.2.2.2.2.2⟩)], [], []⟩) := by
  refine tri_of_body (ac := C29) (xs := r29) Try.func29 (show Try.f29.body = some (Try.f29.body.getD .skip) from rfl) k29 q29 (Nat.le_of_ble_eq_true rfl) ?_
  refine body_of fun K hKn hKr => ?_
  unfold spec_DrawSubRun.f at h
  unfold C29
  simp only [initT, Nat.reduceAdd]
  refine sr_k fun J1 hJ1 => ?_
  simp +decide only [Nat.reduceAdd, Nat.reduceMul, Int.reduceToNat, ak]
  refine gho_k (Weak.nm' 3 (.tmp 3 20) 3 (encL c63 ([] : List S63)) rfl rfl rfl) ?_
  simp +decide only [Nat.reduceAdd, Nat.reduceMul, Int.reduceToNat, ak]
  refine hJ1 _ ?_
  refine sr_k fun J2 hJ2 => ?_
  simp +decide only [Nat.reduceAdd, Nat.reduceMul, Int.reduceToNat, ak]
  obtain ⟨t3, h4, h⟩ := of_bind h
  refine call_m [(.arg 0, ⟨(.arg 0), [], none, .fz⟩)] (s0 := [(.arg 0, ⟨.fz, 1, cs0⟩)]) (by intro t ht; cases ht; decide) rfl rfl (by first | rfl | simp only [reduceCtorEq, Nat.reduceEqDiff, ak, akF]) (spec_l1Begin.tri (cs0) o0 l0 hv0 _ h4) (by first | rfl | simp only [reduceCtorEq, Nat.reduceEqDiff, ak, akF]) (by simp [bkOk2, memK]) (fun hl4 => ?_)
  refine call_st (s4 := [(.arg 0, ⟨.fz, 1, cs0⟩), (.tmp 2 0, ⟨.box, 0, [.sc (.int .u32 0), .sc (.int .i64 0), .sc (.int .i64 0), .sc (.int .i64 0), .sc (.int .i64 0), .sc (.int .i64 0)]⟩), (.tmp 3 20, ⟨.lst, 3, encL c63 ([] : List S63)⟩)]) (m1' := []) (m2' := []) (v' := .g [.ref (.arg 0) [] o0 l0.length, .sc (.int .i64 t3.1), .sc (.int .u64 t3.2)]) (Sto.mapN_killNil _ _) (mrgL_fz (mrgL_nil' _ _ _) rfl (by first | rfl | simp only [reduceCtorEq, Nat.reduceEqDiff, ak]) rfl (by intro R hR hh; cases hR; cases hh.2)) (by rfl) (mapT_killNil _ _) (by rfl) (by rfl) (by first | rfl | simp only [reduceCtorEq, Nat.reduceEqDiff, ak, akF, Nat.zero_add, List.append_nil]) ?_
  simp +decide only [Nat.reduceAdd, Nat.reduceMul, Int.reduceToNat, ak]
  refine gho_k (Weak.own (.tmp 4 0) (cs' := [.own 1 (([] : List Int).length) (encL c_u8 ([] : List Int)), .sc (.int .i64 0), .sc (.int .u64 0)]) rfl ⟨.inr ⟨rfl, _, rfl⟩, .inl rfl, .inl rfl, trivial⟩) ?_
  simp +decide only [Nat.reduceAdd, Nat.reduceMul, Int.reduceToNat, ak]
  refine hJ2 _ ?_
  refine sr_k fun J6 hJ6 => ?_
  simp +decide only [Nat.reduceAdd, Nat.reduceMul, Int.reduceToNat, ak]
  obtain ⟨t7, h8, h⟩ := of_bind h
  refine call_m [(.arg 0, ⟨(.tmp 4 0), [], none, .box⟩), (.arg 1, ⟨(.arg 0), [], none, .fz⟩)] (s0 := [(.arg 0, ⟨.box, 0, [.ref (.arg 1) [] o0 l0.length, .sc (.int .i64 t3.1), .sc (.int .u64 t3.2)]⟩), (.arg 1, ⟨.fz, 1, cs0⟩)]) (by intro t ht; cases ht; decide) rfl rfl (by first | rfl | simp only [reduceCtorEq, Nat.reduceEqDiff, ak, akF]) (spec_l4DrawConfig.tri (cs0) o0 l0 hv0 t3.1 t3.2 _ h8) (by first | rfl | simp only [reduceCtorEq, Nat.reduceEqDiff, ak, akF]) (by simp [bkOk2, memK]) (fun hl8 => ?_)
  refine call_st (s4 := [(.arg 0, ⟨.fz, 1, cs0⟩), (.tmp 2 0, ⟨.box, 0, [.sc (.int .u32 0), .sc (.int .i64 0), .sc (.int .i64 0), .sc (.int .i64 0), .sc (.int .i64 0), .sc (.int .i64 0)]⟩), (.tmp 3 20, ⟨.lst, 3, encL c63 ([] : List S63)⟩), (.tmp 4 0, ⟨.box, 0, [.ref (.arg 0) [] o0 l0.length, .sc (.int .i64 t7.2.2.2.2.2.2.1), .sc (.int .u64 t7.2.2.2.2.2.2.2)]⟩)]) (m1' := []) (m2' := []) (v' := .g [.sc (.int .u32 t7.1), .sc (.int .i64 t7.2.1), .sc (.int .i64 t7.2.2.1), .sc (.int .i64 t7.2.2.2.1), .sc (.int .i64 t7.2.2.2.2.1), .sc (.int .i64 t7.2.2.2.2.2.1)]) (Sto.mapN_killNil _ _) (mrgL_whole (new' := [.ref (.arg 0) [] o0 l0.length, .sc (.int .i64 t7.2.2.2.2.2.2.1), .sc (.int .u64 t7.2.2.2.2.2.2.2)]) (mrgL_fz (mrgL_nil' _ _ _) rfl (by first | rfl | simp only [reduceCtorEq, Nat.reduceEqDiff, ak]) rfl (by intro R hR hh; cases hR; cases hh.2)) rfl (by rfl) (.inl ⟨rfl, by first | rfl | simp only [reduceCtorEq, Nat.reduceEqDiff, ak, akF, Nat.zero_add, List.append_nil]⟩)) (by rfl) (mapT_killNil _ _) (by rfl) (by rfl) (by first | rfl | simp only [reduceCtorEq, Nat.reduceEqDiff, ak, akF, Nat.zero_add, List.append_nil]) ?_
  simp +decide only [Nat.reduceAdd, Nat.reduceMul, Int.reduceToNat, ak]
  refine hJ6 _ ?_
  refine sr_k fun J10 hJ10 => ?_
  simp +decide only [Nat.reduceAdd, Nat.reduceMul, Int.reduceToNat, ak, ne_lit]
  obtain ⟨t11, h12, h⟩ := of_bind h
  refine call_m [(.arg 0, ⟨(.tmp 4 0), [], none, .box⟩), (.arg 1, ⟨(.arg 0), [], none, .fz⟩)] (s0 := [(.arg 0, ⟨.box, 0, [.ref (.arg 1) [] o0 l0.length, .sc (.int .i64 t7.2.2.2.2.2.2.1), .sc (.int .u64 t7.2.2.2.2.2.2.2)]⟩), (.arg 1, ⟨.fz, 1, cs0⟩)]) (by intro t ht; cases ht; decide) rfl rfl (by first | rfl | simp only [reduceCtorEq, Nat.reduceEqDiff, ak, akF]) (spec_l1Next.tri (cs0) o0 l0 hv0 t7.2.2.2.2.2.2.1 t7.2.2.2.2.2.2.2 (IntKind.i64.wrap (40 + (IntKind.i64.wrap ((l0.length : Int).tdiv 2)))) _ h12) (by first | rfl | simp only [reduceCtorEq, Nat.reduceEqDiff, ak, akF]) (by simp [bkOk2, memK]) (fun hl12 => ?_)
  refine call_st (s4 := [(.arg 0, ⟨.fz, 1, cs0⟩), (.tmp 2 0, ⟨.box, 0, [.sc (.int .u32 0), .sc (.int .i64 0), .sc (.int .i64 0), .sc (.int .i64 0), .sc (.int .i64 0), .sc (.int .i64 0)]⟩), (.tmp 3 20, ⟨.lst, 3, encL c63 ([] : List S63)⟩), (.tmp 4 0, ⟨.box, 0, [.ref (.arg 0) [] o0 l0.length, .sc (.int .i64 t11.2.1), .sc (.int .u64 t11.2.2)]⟩), (.tmp 5 0, ⟨.box, 0, [.sc (.int .u32 t7.1), .sc (.int .i64 t7.2.1), .sc (.int .i64 t7.2.2.1), .sc (.int .i64 t7.2.2.2.1), .sc (.int .i64 t7.2.2.2.2.1), .sc (.int .i64 t7.2.2.2.2.2.1)]⟩)]) (m1' := []) (m2' := []) (v' := .c (.sc (.int .i64 t11.1))) (Sto.mapN_killNil _ _) (mrgL_whole (new' := [.ref (.arg 0) [] o0 l0.length, .sc (.int .i64 t11.2.1), .sc (.int .u64 t11.2.2)]) (mrgL_fz (mrgL_nil' _ _ _) rfl (by first | rfl | simp only [reduceCtorEq, Nat.reduceEqDiff, ak]) rfl (by intro R hR hh; cases hR; cases hh.2)) rfl (by rfl) (.inl ⟨rfl, by first | rfl | simp only [reduceCtorEq, Nat.reduceEqDiff, ak, akF, Nat.zero_add, List.append_nil]⟩)) (by rfl) (mapT_killNil _ _) (by rfl) (by rfl) (by first | rfl | simp only [reduceCtorEq, Nat.reduceEqDiff, ak, akF, Nat.zero_add, List.append_nil]) ?_
  simp +decide only [Nat.reduceAdd, Nat.reduceMul, Int.reduceToNat, ak]
  refine hJ10 _ ?_
  refine sr_k fun J14 hJ14 => ?_
  simp +decide only [Nat.reduceAdd, Nat.reduceMul, Int.reduceToNat, ak]
  obtain ⟨t15, h16, h⟩ := of_bind h
  refine call_m [(.arg 0, ⟨(.tmp 4 0), [], none, .box⟩), (.arg 1, ⟨(.arg 0), [], none, .fz⟩)] (s0 := [(.arg 0, ⟨.box, 0, [.ref (.arg 1) [] o0 l0.length, .sc (.int .i64 t11.2.1), .sc (.int .u64 t11.2.2)]⟩), (.arg 1, ⟨.fz, 1, cs0⟩)]) (by intro t ht; cases ht; decide) rfl rfl (by first | rfl | simp only [reduceCtorEq, Nat.reduceEqDiff, ak, akF]) (spec_l1Next.tri (cs0) o0 l0 hv0 t11.2.1 t11.2.2 30 _ h16) (by first | rfl | simp only [reduceCtorEq, Nat.reduceEqDiff, ak, akF]) (by simp [bkOk2, memK]) (fun hl16 => ?_)
  refine call_st (s4 := [(.arg 0, ⟨.fz, 1, cs0⟩), (.tmp 2 0, ⟨.box, 0, [.sc (.int .u32 0), .sc (.int .i64 0), .sc (.int .i64 0), .sc (.int .i64 0), .sc (.int .i64 0), .sc (.int .i64 0)]⟩), (.tmp 3 20, ⟨.lst, 3, encL c63 ([] : List S63)⟩), (.tmp 4 0, ⟨.box, 0, [.ref (.arg 0) [] o0 l0.length, .sc (.int .i64 t15.2.1), .sc (.int .u64 t15.2.2)]⟩), (.tmp 5 0, ⟨.box, 0, [.sc (.int .u32 t7.1), .sc (.int .i64 t7.2.1), .sc (.int .i64 t7.2.2.1), .sc (.int .i64 t7.2.2.2.1), .sc (.int .i64 t7.2.2.2.2.1), .sc (.int .i64 t7.2.2.2.2.2.1)]⟩)]) (m1' := []) (m2' := []) (v' := .c (.sc (.int .i64 t15.1))) (Sto.mapN_killNil _ _) (mrgL_whole (new' := [.ref (.arg 0) [] o0 l0.length, .sc (.int .i64 t15.2.1), .sc (.int .u64 t15.2.2)]) (mrgL_fz (mrgL_nil' _ _ _) rfl (by first | rfl | simp only [reduceCtorEq, Nat.reduceEqDiff, ak]) rfl (by intro R hR hh; cases hR; cases hh.2)) rfl (by rfl) (.inl ⟨rfl, by first | rfl | simp only [reduceCtorEq, Nat.reduceEqDiff, ak, akF, Nat.zero_add, List.append_nil]⟩)) (by rfl) (mapT_killNil _ _) (by rfl) (by rfl) (by first | rfl | simp only [reduceCtorEq, Nat.reduceEqDiff, ak, akF, Nat.zero_add, List.append_nil]) ?_
  simp +decide only [Nat.reduceAdd, Nat.reduceMul, Int.reduceToNat, ak]
  refine hJ14 _ ?_
  obtain ⟨j18, h19, hn⟩ := of_bind h
  refine seq_j (fun st => st = ⟨[(2, .c (.ptr (.tmp 2 0) [] 0)), (4, .c (.ptr (.tmp 4 0) [] 0)), (5, .c (.ptr (.tmp 5 0) [] 0)), (6, .c (.sc (.int .i64 j18.1))), (7, .c (.sc (.int .i64 t15.1)))], [(.arg 0, ⟨.fz, 1, cs0⟩), (.tmp 2 0, ⟨.box, 0, [.sc (.int .u32 0), .sc (.int .i64 0), .sc (.int .i64 0), .sc (.int .i64 0), .sc (.int .i64 0), .sc (.int .i64 0)]⟩), (.tmp 4 0, ⟨.box, 0, [.ref (.arg 0) [] o0 l0.length, .sc (.int .i64 j18.2.1), .sc (.int .u64 j18.2.2)]⟩), (.tmp 5 0, ⟨.box, 0, [.sc (.int .u32 t7.1), .sc (.int .i64 t7.2.1), .sc (.int .i64 t7.2.2.1), .sc (.int .i64 t7.2.2.2.1), .sc (.int .i64 t7.2.2.2.2.1), .sc (.int .i64 t7.2.2.2.2.2.1)]⟩)], [], []⟩) (fun J20 hJ20 => ?_) ?_
  · replace h := h19; clear hn
    refine ga_k fun G21 G21n G21r G21x => ?_
    refine sr_k fun J22 hJ22 => ?_
    simp +decide only [Nat.reduceAdd, Nat.reduceMul, Int.reduceToNat, ak]
    refine hJ22 _ ?_
    refine cond_k (b := decide (t15.1 = 0)) rfl (fun c23 => ?_) (fun c23 => ?_)
    · replace c23 := of_decide_eq_true c23; rw [if_pos c23] at h
      refine reg_k ?_
      simp +decide only [Nat.reduceAdd, Nat.reduceMul, Int.reduceToNat, ak]
      obtain ⟨t24, h25, h⟩ := of_bind h
      refine call_m [(.arg 0, ⟨(.tmp 4 0), [], none, .box⟩), (.arg 1, ⟨(.arg 0), [], none, .fz⟩)] (s0 := [(.arg 0, ⟨.box, 0, [.ref (.arg 1) [] o0 l0.length, .sc (.int .i64 t15.2.1), .sc (.int .u64 t15.2.2)]⟩), (.arg 1, ⟨.fz, 1, cs0⟩)]) (by intro t ht; cases ht; decide) rfl rfl (by first | rfl | simp only [reduceCtorEq, Nat.reduceEqDiff, ak, akF]) (spec_l1Next.tri (cs0) o0 l0 hv0 t15.2.1 t15.2.2 2 _ h25) (by first | rfl | simp only [reduceCtorEq, Nat.reduceEqDiff, ak, akF]) (by simp [bkOk2, memK]) (fun hl25 => ?_)
      refine call_st (s4 := [(.arg 0, ⟨.fz, 1, cs0⟩), (.tmp 2 0, ⟨.box, 0, [.sc (.int .u32 0), .sc (.int .i64 0), .sc (.int .i64 0), .sc (.int .i64 0), .sc (.int .i64 0), .sc (.int .i64 0)]⟩), (.tmp 3 20, ⟨.lst, 3, encL c63 ([] : List S63)⟩), (.tmp 4 0, ⟨.box, 0, [.ref (.arg 0) [] o0 l0.length, .sc (.int .i64 t24.2.1), .sc (.int .u64 t24.2.2)]⟩), (.tmp 5 0, ⟨.box, 0, [.sc (.int .u32 t7.1), .sc (.int .i64 t7.2.1), .sc (.int .i64 t7.2.2.1), .sc (.int .i64 t7.2.2.2.1), .sc (.int .i64 t7.2.2.2.2.1), .sc (.int .i64 t7.2.2.2.2.2.1)]⟩)]) (m1' := []) (m2' := []) (v' := .c (.sc (.int .i64 t24.1))) (Sto.mapN_killNil _ _) (mrgL_whole (new' := [.ref (.arg 0) [] o0 l0.length, .sc (.int .i64 t24.2.1), .sc (.int .u64 t24.2.2)]) (mrgL_fz (mrgL_nil' _ _ _) rfl (by first | rfl | simp only [reduceCtorEq, Nat.reduceEqDiff, ak]) rfl (by intro R hR hh; cases hR; cases hh.2)) rfl (by rfl) (.inl ⟨rfl, by first | rfl | simp only [reduceCtorEq, Nat.reduceEqDiff, ak, akF, Nat.zero_add, List.append_nil]⟩)) (by rfl) (mapT_killNil _ _) (by rfl) (by rfl) (by first | rfl | simp only [reduceCtorEq, Nat.reduceEqDiff, ak, akF, Nat.zero_add, List.append_nil]) ?_
      simp +decide only [Nat.reduceAdd, Nat.reduceMul, Int.reduceToNat, ak]
      obtain rfl := Option.some.inj h
      refine G21n _ _ (wk [2, 4, 5, 6, 7] [pI (.arg 0) .fz, pI (.tmp 2 0) .box, pI (.tmp 4 0) .box, pI (.tmp 5 0) .box]) (hJ20 _ rfl)
    · replace c23 := of_decide_eq_false c23; rw [if_neg c23] at h
      obtain rfl := Option.some.inj h
      refine G21n _ _ (wk [2, 4, 5, 6, 7] [pI (.arg 0) .fz, pI (.tmp 2 0) .box, pI (.tmp 4 0) .box, pI (.tmp 5 0) .box]) (hJ20 _ rfl)
  · replace h := hn; clear hn h19
    rintro _ rfl
    refine sr_k fun J27 hJ27 => ?_
    simp +decide only [Nat.reduceAdd, Nat.reduceMul, Int.reduceToNat, ak]
    obtain ⟨t28, h29, h⟩ := of_bind h
    refine call_m [(.arg 0, ⟨(.tmp 4 0), [], none, .box⟩), (.arg 1, ⟨(.arg 0), [], none, .fz⟩)] (s0 := [(.arg 0, ⟨.box, 0, [.ref (.arg 1) [] o0 l0.length, .sc (.int .i64 j18.2.1), .sc (.int .u64 j18.2.2)]⟩), (.arg 1, ⟨.fz, 1, cs0⟩)]) (by intro t ht; cases ht; decide) rfl rfl (by first | rfl | simp only [reduceCtorEq, Nat.reduceEqDiff, ak, akF]) (spec_l4DrawEvents.tri (cs0) o0 l0 hv0 j18.2.1 j18.2.2 t7.1 t7.2.1 t7.2.2.1 t7.2.2.2.1 t7.2.2.2.2.1 t7.2.2.2.2.2.1 j18.1 _ h29) (by first | rfl | simp only [reduceCtorEq, Nat.reduceEqDiff, ak, akF]) (by simp [bkOk2, memK]) (fun hl29 => ?_)
    refine call_st (s4 := [(.arg 0, ⟨.fz, 1, cs0⟩), (.tmp 2 0, ⟨.box, 0, [.sc (.int .u32 0), .sc (.int .i64 0), .sc (.int .i64 0), .sc (.int .i64 0), .sc (.int .i64 0), .sc (.int .i64 0)]⟩), (.tmp 4 0, ⟨.box, 0, [.ref (.arg 0) [] o0 l0.length, .sc (.int .i64 t28.2.1), .sc (.int .u64 t28.2.2)]⟩), (.tmp 5 0, ⟨.box, 0, [.sc (.int .u32 t7.1), .sc (.int .i64 t7.2.1), .sc (.int .i64 t7.2.2.1), .sc (.int .i64 t7.2.2.2.1), .sc (.int .i64 t7.2.2.2.2.1), .sc (.int .i64 t7.2.2.2.2.2.1)]⟩), (.tmp 25 0, ⟨.lst, 3, encL c63 t28.1⟩)]) (m1' := []) (m2' := []) (v' := .c (.ref (.tmp 25 0) [] 0 t28.1.length)) (Sto.mapN_killNil _ _) (mrgL_whole (new' := [.ref (.arg 0) [] o0 l0.length, .sc (.int .i64 t28.2.1), .sc (.int .u64 t28.2.2)]) (mrgL_fz (mrgL_nil' _ _ _) rfl (by first | rfl | simp only [reduceCtorEq, Nat.reduceEqDiff, ak]) rfl (by intro R hR hh; cases hR; cases hh.2)) rfl (by rfl) (.inl ⟨rfl, by first | rfl | simp only [reduceCtorEq, Nat.reduceEqDiff, ak, akF, Nat.zero_add, List.append_nil]⟩)) (by rfl) (mapT_killNil _ _) (by rfl) (by rfl) (by first | rfl | simp only [reduceCtorEq, Nat.reduceEqDiff, ak, akF, Nat.zero_add, List.append_nil]) ?_
    simp +decide only [Nat.reduceAdd, Nat.reduceMul, Int.reduceToNat, ak]
    refine hJ27 _ ?_
    obtain ⟨j31, h32, hn⟩ := of_bind h
    refine seq_j (fun st => st = ⟨[(2, .c (.ptr (.tmp 2 0) [] 0)), (5, .c (.ptr (.tmp 5 0) [] 0)), (8, .c (.ref (.tmp 25 0) [] 0 t28.1.length))], [(.arg 0, ⟨.fz, 1, cs0⟩), (.tmp 2 0, ⟨.box, 0, [.sc (.int .u32 0), .sc (.int .i64 0), .sc (.int .i64 0), .sc (.int .i64 0), .sc (.int .i64 0), .sc (.int .i64 0)]⟩), (.tmp 5 0, ⟨.box, 0, [.sc (.int .u32 t7.1), .sc (.int .i64 j31.1), .sc (.int .i64 j31.2.1), .sc (.int .i64 j31.2.2.1), .sc (.int .i64 j31.2.2.2.1), .sc (.int .i64 j31.2.2.2.2)]⟩), (.tmp 25 0, ⟨.lst, 3, encL c63 t28.1⟩)], [], []⟩) (fun J33 hJ33 => ?_) ?_
    · replace h := h32; clear hn
      refine ga_k fun G34 G34n G34r G34x => ?_
      refine sr_k fun J35 hJ35 => ?_
      simp +decide only [Nat.reduceAdd, Nat.reduceMul, Int.reduceToNat, ak]
      refine hJ35 _ ?_
      refine block_k fun B36 B36n B36x B36r B36j => ?_
      refine sr_k fun J37 hJ37 => ?_
      simp +decide only [Nat.reduceAdd, Nat.reduceMul, Int.reduceToNat, ak]
      refine hJ37 _ ?_
      refine cond_k (b := decide (t15.1 = 1)) rfl (fun c38 => ?_) (fun c38 => ?_)
      · replace c38 := of_decide_eq_true c38; rw [if_pos c38] at h
        refine reg_k ?_
        simp +decide only [Nat.reduceAdd, Nat.reduceMul, Int.reduceToNat, ak]
        refine B36n _ ?_
        obtain rfl := Option.some.inj h
        refine G34n _ _ (wk [2, 5, 8] [pI (.arg 0) .fz, pI (.tmp 2 0) .box, pI (.tmp 5 0) .box, pI (.tmp 25 0) .lst]) (hJ33 _ rfl)
      · replace c38 := of_decide_eq_false c38; rw [if_neg c38] at h
        refine sr_k fun J39 hJ39 => ?_
        simp +decide only [Nat.reduceAdd, Nat.reduceMul, Int.reduceToNat, ak]
        refine hJ39 _ ?_
        refine cond_k (b := decide (t15.1 = 2)) rfl (fun c40 => ?_) (fun c40 => ?_)
        · replace c40 := of_decide_eq_true c40; rw [if_pos c40] at h
          refine reg_k ?_
          simp +decide only [Nat.reduceAdd, Nat.reduceMul, Int.reduceToNat, ak]
          refine B36n _ ?_
          obtain rfl := Option.some.inj h
          refine G34n _ _ (wk [2, 5, 8] [pI (.arg 0) .fz, pI (.tmp 2 0) .box, pI (.tmp 5 0) .box, pI (.tmp 25 0) .lst]) (hJ33 _ rfl)
        · replace c40 := of_decide_eq_false c40; rw [if_neg c40] at h
          refine sr_k fun J41 hJ41 => ?_
          simp +decide only [Nat.reduceAdd, Nat.reduceMul, Int.reduceToNat, ak]
          refine hJ41 _ ?_
          refine cond_k (b := decide (t15.1 = 3)) rfl (fun c42 => ?_) (fun c42 => ?_)
          · replace c42 := of_decide_eq_true c42; rw [if_pos c42] at h
            refine reg_k ?_
            simp +decide only [Nat.reduceAdd, Nat.reduceMul, Int.reduceToNat, ak]
            refine B36n _ ?_
            obtain rfl := Option.some.inj h
            refine G34n _ _ (wk [2, 5, 8] [pI (.arg 0) .fz, pI (.tmp 2 0) .box, pI (.tmp 5 0) .box, pI (.tmp 25 0) .lst]) (hJ33 _ rfl)
          · replace c42 := of_decide_eq_false c42; rw [if_neg c42] at h
            refine sr_k fun J43 hJ43 => ?_
            simp +decide only [Nat.reduceAdd, Nat.reduceMul, Int.reduceToNat, ak]
            refine hJ43 _ ?_
            refine cond_k (b := decide (t15.1 = 4)) rfl (fun c44 => ?_) (fun c44 => ?_)
            · replace c44 := of_decide_eq_true c44; rw [if_pos c44] at h
              refine reg_k ?_
              simp +decide only [Nat.reduceAdd, Nat.reduceMul, Int.reduceToNat, ak]
              refine B36n _ ?_
              obtain rfl := Option.some.inj h
              refine G34n _ _ (wk [2, 5, 8] [pI (.arg 0) .fz, pI (.tmp 2 0) .box, pI (.tmp 5 0) .box, pI (.tmp 25 0) .lst]) (hJ33 _ rfl)
            · replace c44 := of_decide_eq_false c44; rw [if_neg c44] at h
              refine sr_k fun J45 hJ45 => ?_
              simp +decide only [Nat.reduceAdd, Nat.reduceMul, Int.reduceToNat, ak]
              refine hJ45 _ ?_
              refine cond_k (b := decide (t15.1 = 5)) rfl (fun c46 => ?_) (fun c46 => ?_)
              · replace c46 := of_decide_eq_true c46; rw [if_pos c46] at h
                refine reg_k ?_
                simp +decide only [Nat.reduceAdd, Nat.reduceMul, Int.reduceToNat, ak]
                refine B36n _ ?_
                obtain rfl := Option.some.inj h
                refine G34n _ _ (wk [2, 5, 8] [pI (.arg 0) .fz, pI (.tmp 2 0) .box, pI (.tmp 5 0) .box, pI (.tmp 25 0) .lst]) (hJ33 _ rfl)
              · replace c46 := of_decide_eq_false c46; rw [if_neg c46] at h
                refine B36n _ ?_
                obtain rfl := Option.some.inj h
                refine G34n _ _ (wk [2, 5, 8] [pI (.arg 0) .fz, pI (.tmp 2 0) .box, pI (.tmp 5 0) .box, pI (.tmp 25 0) .lst]) (hJ33 _ rfl)
    · replace h := hn; clear hn h32
      rintro _ rfl
      refine sr_k fun J47 hJ47 => ?_
      simp +decide only [Nat.reduceAdd, Nat.reduceMul, Int.reduceToNat, ak]
      refine hJ47 _ ?_
      obtain rfl := Option.some.inj h
      refine hKr _ ⟨_, rfl, [⟨(.tmp 25 0), [], none, .lst⟩], _, rfl, rfl, ?_⟩
      first | rfl | (simp only [reduceCtorEq, Nat.reduceEqDiff, ak, akF]; done) | (simp [reduceCtorEq, Nat.reduceEqDiff, ak, akF] <;> omega)
/-! ### spec.l4ConfigOK: function 130 -/
def C130 : AC := .seq (.reg [.op none (.box 1 (.tmp 0)), .op none (.mv 2 (.const (.bool false))), .keep [1]]) (.seq (.reg [.op none (.faddr 3 1 (.tmp 1)), .op none (.load 4 false 1 (.tmp 3)), .op none (.bin 5 .geq (.tmp 4) (.const (.int .i64 1))), .op none (.mv 6 (.tmp 5)), .op (some (6, true)) (.faddr 7 1 (.tmp 1)), .op (some (6, true)) (.load 8 false 1 (.tmp 7)), .op (some (6, true)) (.bin 9 .leq (.tmp 8) (.const (.int .i64 16))), .op none (.pick 10 (.tmp 6) (.tmp 9) (.const (.bool false))), .op none (.mv 11 (.tmp 10)), .op (some (11, true)) (.faddr 12 2 (.tmp 1)), .op (some (11, true)) (.load 13 false 1 (.tmp 12)), .op (some (11, true)) (.bin 14 .geq (.tmp 13) (.const (.int .i64 1))), .op none (.pick 15 (.tmp 11) (.tmp 14) (.const (.bool false))), .op none (.mv 16 (.tmp 15)), .op (some (16, true)) (.faddr 17 2 (.tmp 1)), .op (some (16, true)) (.load 18 false 1 (.tmp 17)), .op (some (16, true)) (.bin 19 .leq (.tmp 18) (.const (.int .i64 50))), .op none (.pick 20 (.tmp 16) (.tmp 19) (.const (.bool false))), .op none (.mv 21 (.tmp 20)), .op (some (21, true)) (.faddr 22 3 (.tmp 1)), .op (some (21, true)) (.load 23 false 1 (.tmp 22)), .op (some (21, true)) (.faddr 24 2 (.tmp 1)), .op (some (21, true)) (.load 25 false 1 (.tmp 24)), .op (some (21, true)) (.bin 26 .geq (.tmp 23) (.tmp 25)), .op none (.pick 27 (.tmp 21) (.tmp 26) (.const (.bool false))), .op none (.mv 28 (.tmp 27)), .op (some (28, true)) (.faddr 29 3 (.tmp 1)), .op (some (28, true)) (.load 30 false 1 (.tmp 29)), .op (some (28, true)) (.bin 31 .leq (.tmp 30) (.const (.int .i64 400))), .op none (.pick 32 (.tmp 28) (.tmp 31) (.const (.bool false))), .op none (.mv 33 (.tmp 32)), .op (some (33, true)) (.faddr 34 4 (.tmp 1)), .op (some (33, true)) (.load 35 false 1 (.tmp 34)), .op (some (33, true)) (.bin 36 .geq (.tmp 35) (.const (.int .i64 1))), .op none (.pick 37 (.tmp 33) (.tmp 36) (.const (.bool false))), .op none (.mv 38 (.tmp 37)), .op (some (38, true)) (.faddr 39 4 (.tmp 1)), .op (some (38, true)) (.load 40 false 1 (.tmp 39)), .op (some (38, true)) (.bin 41 .leq (.tmp 40) (.const (.int .i64 8))), .op none (.pick 42 (.tmp 38) (.tmp 41) (.const (.bool false))), .op none (.mv 43 (.tmp 42)), .op (some (43, true)) (.faddr 44 5 (.tmp 1)), .op (some (43, true)) (.load 45 false 1 (.tmp 44)), .op (some (43, true)) (.bin 46 .geq (.tmp 45) (.const (.int .i64 1))), .op none (.pick 47 (.tmp 43) (.tmp 46) (.const (.bool false))), .op none (.mv 48 (.tmp 47)), .op (some (48, true)) (.faddr 49 5 (.tmp 1)), .op (some (48, true)) (.load 50 false 1 (.tmp 49)), .op (some (48, true)) (.bin 51 .leq (.tmp 50) (.const (.int .i64 50))), .op none (.pick 52 (.tmp 48) (.tmp 51) (.const (.bool false))), .op none (.mv 2 (.tmp 52)), .keep [2]]) (.ret))
def r130 : List RV := [.tmp 2]
theorem k130 : compC Try.prog 53 C130 (Try.f130.body.getD .skip) = some C130.erase := by kernel_rfl
theorem q130 : rvsOf Try.prog Try.f130.results.toList = some r130 := by kernel_rfl
def spec_l4ConfigOK.f (a0_0 : Int) (a0_1 : Int) (a0_2 : Int) (a0_3 : Int) (a0_4 : Int) (a0_5 : Int) : Option Bool := (if a0_1 ≥ 1 then (if a0_1 ≤ 16 then (if a0_2 ≥ 1 then (if a0_2 ≤ 50 then (if a0_3 ≥ a0_2 then (if a0_3 ≤ 400 then (if a0_4 ≥ 1 then (if a0_4 ≤ 8 then (if a0_5 ≥ 1 then (some (decide (a0_5 ≤ 50))) else (some false)) else (some false)) else (some false)) else (some false)) else (some false)) else (some false)) else (some false)) else (some false)) else (some false))
theorem spec_l4ConfigOK.tri (a0_0 : Int) (a0_1 : Int) (a0_2 : Int) (a0_3 : Int) (a0_4 : Int) (a0_5 : Int) (r : Bool) (h : spec_l4ConfigOK.f a0_0 a0_1 a0_2 a0_3 a0_4 a0_5 = some r) : Tri Try.prog 130 [.g [.sc (.int .u32 a0_0), .sc (.int .i64 a0_1), .sc (.int .i64 a0_2), .sc (.int .i64 a0_3), .sc (.int .i64 a0_4), .sc (.int .i64 a0_5)]] [] (fun o => o = ⟨.c (.sc (.bool r)), [], [], []⟩) := by
  refine tri_of_body (ac := C130) (xs := r130) Try.func130 (show Try.f130.body = some (Try.f130.body.getD .skip) from rfl) k130 q130 (Nat.le_of_ble_eq_true rfl) ?_
  refine body_of fun K hKn hKr => ?_
  unfold spec_l4ConfigOK.f at h
  unfold C130
  simp only [initT, Nat.reduceAdd]
  refine sr_k fun J1 hJ1 => ?_
  simp +decide only [Nat.reduceAdd, Nat.reduceMul, Int.reduceToNat, ak]
  refine hJ1 _ ?_
  refine sr_k fun J2 hJ2 => ?_
  simp +decide only [Nat.reduceAdd, Nat.reduceMul, Int.reduceToNat, ak]
  by_cases c3 : a0_1 ≥ 1
  · rw [if_pos c3] at h
    have e4 : decide (a0_1 ≥ 1) = true := decide_eq_true c3
    simp +decide only [Nat.reduceAdd, Nat.reduceMul, Int.reduceToNat, ak, e4]
    by_cases c5 : a0_1 ≤ 16
    · rw [if_pos c5] at h
      have e6 : decide (a0_1 ≤ 16) = true := decide_eq_true c5
      simp +decide only [Nat.reduceAdd, Nat.reduceMul, Int.reduceToNat, ak, e6]
      by_cases c7 : a0_2 ≥ 1
      · rw [if_pos c7] at h
        have e8 : decide (a0_2 ≥ 1) = true := decide_eq_true c7
        simp +decide only [Nat.reduceAdd, Nat.reduceMul, Int.reduceToNat, ak, e8]
        by_cases c9 : a0_2 ≤ 50
        · rw [if_pos c9] at h
          have e10 : decide (a0_2 ≤ 50) = true := decide_eq_true c9
          simp +decide only [Nat.reduceAdd, Nat.reduceMul, Int.reduceToNat, ak, e10]
          by_cases c11 : a0_3 ≥ a0_2
          · rw [if_pos c11] at h
            have e12 : decide (a0_3 ≥ a0_2) = true := decide_eq_true c11
            simp +decide only [Nat.reduceAdd, Nat.reduceMul, Int.reduceToNat, ak, e12]
            by_cases c13 : a0_3 ≤ 400
            · rw [if_pos c13] at h
              have e14 : decide (a0_3 ≤ 400) = true := decide_eq_true c13
              simp +decide only [Nat.reduceAdd, Nat.reduceMul, Int.reduceToNat, ak, e14]
              by_cases c15 : a0_4 ≥ 1
              · rw [if_pos c15] at h
                have e16 : decide (a0_4 ≥ 1) = true := decide_eq_true c15
                simp +decide only [Nat.reduceAdd, Nat.reduceMul, Int.reduceToNat, ak, e16]
                by_cases c17 : a0_4 ≤ 8
                · rw [if_pos c17] at h
                  have e18 : decide (a0_4 ≤ 8) = true := decide_eq_true c17
                  simp +decide only [Nat.reduceAdd, Nat.reduceMul, Int.reduceToNat, ak, e18]
                  by_cases c19 : a0_5 ≥ 1
                  · rw [if_pos c19] at h
                    have e20 : decide (a0_5 ≥ 1) = true := decide_eq_true c19
                    simp +decide only [Nat.reduceAdd, Nat.reduceMul, Int.reduceToNat, ak, e20]
                    refine hJ2 _ ?_
                    obtain rfl := Option.some.inj h
                    refine hKr _ ⟨_, rfl, [], _, rfl, rfl, ?_⟩
                    first | rfl | (simp only [reduceCtorEq, Nat.reduceEqDiff, ak, akF, e4, e6, e8, e10, e12, e14, e16, e18, e20]; done) | (simp [reduceCtorEq, Nat.reduceEqDiff, ak, akF, e4, e6, e8, e10, e12, e14, e16, e18, e20] <;> omega)
                  · rw [if_neg c19] at h
                    have e21 : decide (a0_5 ≥ 1) = false := decide_eq_false c19
                    simp +decide only [Nat.reduceAdd, Nat.reduceMul, Int.reduceToNat, ak, e21]
                    refine hJ2 _ ?_
                    obtain rfl := Option.some.inj h
                    refine hKr _ ⟨_, rfl, [], _, rfl, rfl, ?_⟩
                    first | rfl | (simp only [reduceCtorEq, Nat.reduceEqDiff, ak, akF, e4, e6, e8, e10, e12, e14, e16, e18, e21]; done) | (simp [reduceCtorEq, Nat.reduceEqDiff, ak, akF, e4, e6, e8, e10, e12, e14, e16, e18, e21] <;> omega)
                · rw [if_neg c17] at h
                  have e22 : decide (a0_4 ≤ 8) = false := decide_eq_false c17
                  simp +decide only [Nat.reduceAdd, Nat.reduceMul, Int.reduceToNat, ak, e22]
                  refine hJ2 _ ?_
                  obtain rfl := Option.some.inj h
                  refine hKr _ ⟨_, rfl, [], _, rfl, rfl, ?_⟩
                  first | rfl | (simp only [reduceCtorEq, Nat.reduceEqDiff, ak, akF, e4, e6, e8, e10, e12, e14, e16, e22]; done) | (simp [reduceCtorEq, Nat.reduceEqDiff, ak, akF, e4, e6, e8, e10, e12, e14, e16, e22] <;> omega)
              · rw [if_neg c15] at h
                have e23 : decide (a0_4 ≥ 1) = false := decide_eq_false c15
                simp +decide only [Nat.reduceAdd, Nat.reduceMul, Int.reduceToNat, ak, e23]
                refine hJ2 _ ?_
                obtain rfl := Option.some.inj h
                refine hKr _ ⟨_, rfl, [], _, rfl, rfl, ?_⟩
                first | rfl | (simp only [reduceCtorEq, Nat.reduceEqDiff, ak, akF, e4, e6, e8, e10, e12, e14, e23]; done) | (simp [reduceCtorEq, Nat.reduceEqDiff, ak, akF, e4, e6, e8, e10, e12, e14, e23] <;> omega)
            · rw [if_neg c13] at h
              have e24 : decide (a0_3 ≤ 400) = false := decide_eq_false c13
              simp +decide only [Nat.reduceAdd, Nat.reduceMul, Int.reduceToNat, ak, e24]
              refine hJ2 _ ?_
              obtain rfl := Option.some.inj h
              refine hKr _ ⟨_, rfl, [], _, rfl, rfl, ?_⟩
              first | rfl | (simp only [reduceCtorEq, Nat.reduceEqDiff, ak, akF, e4, e6, e8, e10, e12, e24]; done) | (simp [reduceCtorEq, Nat.reduceEqDiff, ak, akF, e4, e6, e8, e10, e12, e24] <;> omega)
          · rw [if_neg c11] at h
            have e25 : decide (a0_3 ≥ a0_2) = false := decide_eq_false c11
            simp +decide only [Nat.reduceAdd, Nat.reduceMul, Int.reduceToNat, ak, e25]
            refine hJ2 _ ?_
            obtain rfl := Option.some.inj h
            refine hKr _ ⟨_, rfl, [], _, rfl, rfl, ?_⟩
            first | rfl | (simp only [reduceCtorEq, Nat.reduceEqDiff, ak, akF, e4, e6, e8, e10, e25]; done) | (simp [reduceCtorEq, Nat.reduceEqDiff, ak, akF, e4, e6, e8, e10, e25] <;> omega)
        · rw [if_neg c9] at h
          have e26 : decide (a0_2 ≤ 50) = false := decide_eq_false c9
          simp +decide only [Nat.reduceAdd, Nat.reduceMul, Int.reduceToNat, ak, e26]
          refine hJ2 _ ?_
          obtain rfl := Option.some.inj h
          refine hKr _ ⟨_, rfl, [], _, rfl, rfl, ?_⟩
          first | rfl | (simp only [reduceCtorEq, Nat.reduceEqDiff, ak, akF, e4, e6, e8, e26]; done) | (simp [reduceCtorEq, Nat.reduceEqDiff, ak, akF, e4, e6, e8, e26] <;> omega)
      · rw [if_neg c7] at h
        have e27 : decide (a0_2 ≥ 1) = false := decide_eq_false c7
        simp +decide only [Nat.reduceAdd, Nat.reduceMul, Int.reduceToNat, ak, e27]
        refine hJ2 _ ?_
        obtain rfl := Option.some.inj h
        refine hKr _ ⟨_, rfl, [], _, rfl, rfl, ?_⟩
        first | rfl | (simp only [reduceCtorEq, Nat.reduceEqDiff, ak, akF, e4, e6, e27]; done) | (simp [reduceCtorEq, Nat.reduceEqDiff, ak, akF, e4, e6, e27] <;> omega)
    · rw [if_neg c5] at h
      have e28 : decide (a0_1 ≤ 16) = false := decide_eq_false c5
      simp +decide only [Nat.reduceAdd, Nat.reduceMul, Int.reduceToNat, ak, e28]
      refine hJ2 _ ?_
      obtain rfl := Option.some.inj h
      refine hKr _ ⟨_, rfl, [], _, rfl, rfl, ?_⟩
      first | rfl | (simp only [reduceCtorEq, Nat.reduceEqDiff, ak, akF, e4, e28]; done) | (simp [reduceCtorEq, Nat.reduceEqDiff, ak, akF, e4, e28] <;> omega)
  · rw [if_neg c3] at h
    have e29 : decide (a0_1 ≥ 1) = false := decide_eq_false c3
    simp +decide only [Nat.reduceAdd, Nat.reduceMul, Int.reduceToNat, ak, e29]
    refine hJ2 _ ?_
    obtain rfl := Option.some.inj h
    refine hKr _ ⟨_, rfl, [], _, rfl, rfl, ?_⟩
    first | rfl | (simp only [reduceCtorEq, Nat.reduceEqDiff, ak, akF, e29]; done) | (simp [reduceCtorEq, Nat.reduceEqDiff, ak, akF, e29] <;> omega)
/-! ### spec.l4Run: function 86 -/
def C86v1n_l0 : AC := .seq (.seq (.reg [.op none (.mv 21 (.tmp 9)), .op none (.mv 22 (.tmp 1)), .op none (.len 23 (.tmp 22)), .op none (.bin 24 .lss (.tmp 21) (.tmp 23)), .keep [1, 4, 7, 8, 9, 24]]) (.cond (.tmp 24) (.skip) (.gh (.exit 0)))) (.seq (.block 1 (.reg [.op none (.mv 27 (.tmp 8)), .op none (.mv 28 (.tmp 1)), .op none (.mv 29 (.tmp 9)), .op none (.iaddr 30 3 (.tmp 28) (.tmp 29)), .op none (.load 31 true 3 (.tmp 30)), .call none (some 32) 129 [.tmp 7, .tmp 31], .op none (.bslice 33 5 [.int .i64 0, .slice none 0 0, .slice none 0 0, .int .i64 0, .int .i64 0] 1 [(0, .tmp 32)]), .gh, .op none (.app 34 5 72 true (.tmp 27) (.tmp 33)), .op none (.mv 8 (.tmp 34)), .keep [1, 4, 7, 8, 9]])) (.reg [.op none (.mv 25 (.tmp 9)), .op none (.bin 26 .add (.tmp 25) (.const (.int .i64 1))), .op none (.mv 9 (.tmp 26)), .keep [1, 4, 7, 8, 9]]))
def C86v1n : AC := .seq (.reg [.op none (.box 2 (.tmp 0)), .op none (.alloc 4 [.int .u32 0, .int .i64 0, .int .i64 0, .int .i64 0, .int .i64 0, .int .i64 0, .slice none 0 0, .int .i64 0, .int .i64 0, .int .i64 0, .int .i64 0, .int .i64 0, .bool false]), .gh, .op none (.mv 5 (.const (.slice none 0 0))), .gh, .op none (.mv 6 (.const (.int .i64 0))), .keep [1, 2, 4]]) (.seq (.seq (.reg [.op none (.load 10 true 6 (.tmp 2)), .call none (some 11) 130 [.tmp 10], .op none (.un 12 .not (.tmp 11)), .keep [1, 2, 4, 12]]) (.cond (.tmp 12) (.seq (.reg [.op none (.build 13 [.int .u32 0, .int .i64 0, .int .i64 0, .int .i64 0, .int .i64 0, .int .i64 0, .slice none 0 0, .int .i64 0, .int .i64 0, .int .i64 0, .int .i64 0, .int .i64 0, .bool false] []), .gh, .op none (.store 13 (.tmp 4) (.tmp 13)), .op none (.mv 5 (.const (.slice none 0 0))), .gh, .op none (.mv 6 (.const (.int .i64 17))), .keep [4, 5, 6]]) (.ret)) (.skip))) (.seq (.seq (.reg [.op none (.mv 14 (.tmp 1)), .op none (.len 15 (.tmp 14)), .op none (.bin 16 .gtr (.tmp 15) (.const (.int .i64 4000))), .keep [1, 2, 4, 16]]) (.cond (.tmp 16) (.seq (.reg [.op none (.build 17 [.int .u32 0, .int .i64 0, .int .i64 0, .int .i64 0, .int .i64 0, .int .i64 0, .slice none 0 0, .int .i64 0, .int .i64 0, .int .i64 0, .int .i64 0, .int .i64 0, .bool false] []), .gh, .op none (.store 13 (.tmp 4) (.tmp 17)), .op none (.mv 5 (.const (.slice none 0 0))), .gh, .op none (.mv 6 (.const (.int .i64 5))), .keep [4, 5, 6]]) (.ret)) (.skip))) (.seq (.reg [.op none (.load 18 true 6 (.tmp 2)), .call none (some 19) 127 [.tmp 18], .op none (.alloc 7 [.int .u32 0, .int .i64 0, .int .i64 0, .int .i64 0, .int .i64 0, .int .i64 0, .slice none 0 0, .int .i64 0, .int .i64 0, .int .i64 0, .int .i64 0, .int .i64 0, .bool false]), .gh, .op none (.store 13 (.tmp 7) (.tmp 19)), .keep [1, 4, 7]]) (.seq (.reg [.op none (.bslice 20 5 [.int .i64 0, .slice none 0 0, .slice none 0 0, .int .i64 0, .int .i64 0] 0 []), .gh, .op none (.mv 8 (.tmp 20)), .keep [1, 4, 7, 8]]) (.seq (.seq (.reg [.op none (.mv 9 (.const (.int .i64 0))), .keep [1, 4, 7, 8, 9]]) (.block 0 (.gh (.loop (.ga C86v1n_l0))))) (.seq (.reg [.op none (.load 35 true 13 (.tmp 7)), .op none (.mv 36 (.tmp 8)), .op none (.store 13 (.tmp 4) (.tmp 35)), .op none (.mv 5 (.tmp 36)), .op none (.mv 6 (.const (.int .i64 0))), .keep [4, 5, 6]]) (.ret)))))))
def r86v1n : List RV := [.cell 4 true 13, .tmp 5, .tmp 6]
theorem k86v1n : compC Try.prog 37 C86v1n (Try.f86.body.getD .skip) = some C86v1n.erase := by kernel_rfl
theorem q86v1n : rvsOf Try.prog Try.f86.results.toList = some r86v1n := by kernel_rfl
def spec_l4Run_v1n.l0 (x0_0 : Int) (x0_1 : Int) (x0_2 : Int) (x0_3 : Int) (x0_4 : Int) (x0_5 : Int) (x0_6 : Int) (x0_7 : (List Int)) (x0_8 : Int) (x0_9 : Int) (x0_10 : Int) (x0_11 : Int) (x0_12 : Int) (x0_13 : Bool) (x0_14 : Int) (x0_15 : Int) (x0_16 : Int) (x0_17 : Int) (x0_18 : Int) (x0_19 : Int) (x0_20 : (List Int)) (x0_21 : Int) (x0_22 : Int) (x0_23 : Int) (x0_24 : Int) (x0_25 : Int) (x0_26 : Bool) (x0_27 : (List S66)) : Option Unit := (if x0_0 < 0 then none else (some ()))
def spec_l4Run_v1n.f (a0_0 : Int) (a0_1 : Int) (a0_2 : Int) (a0_3 : Int) (a0_4 : Int) (a0_5 : Int) : Option (Int × Int × Int × Int × Int × Int × (List Int) × Int × Int × Int × Int × Int × Bool × (List S66) × Int) := (spec_l4ConfigOK.f a0_0 a0_1 a0_2 a0_3 a0_4 a0_5 >>= fun t4 => (if (!t4) = true then (some (0, 0, 0, 0, 0, 0, ([] : List Int), 0, 0, 0, 0, 0, false, ([] : List S66), 17)) else (spec_l4Begin.f a0_0 a0_1 a0_2 a0_3 a0_4 a0_5 >>= fun t13 => (spec_l4Run_v1n.l0 0 0 0 0 0 0 0 ([] : List Int) 0 0 0 0 0 false t13.1 t13.2.1 t13.2.2.1 t13.2.2.2.1 t13.2.2.2.2.1 t13.2.2.2.2.2.1 t13.2.2.2.2.2.2.1 t13.2.2.2.2.2.2.2.1 t13.2.2.2.2.2.2.2.2.1 t13.2.2.2.2.2.2.2.2.2.1 t13.2.2.2.2.2.2.2.2.2.2.1 t13.2.2.2.2.2.2.2.2.2.2.2.1 t13.2.2.2.2.2.2.2.2.2.2.2.2 ([] : List S66) >>= fun (y29 : Unit) => (some (t13.1, t13.2.1, t13.2.2.1, t13.2.2.2.1, t13.2.2.2.2.1, t13.2.2.2.2.2.1, t13.2.2.2.2.2.2.1, t13.2.2.2.2.2.2.2.1, t13.2.2.2.2.2.2.2.2.1, t13.2.2.2.2.2.2.2.2.2.1, t13.2.2.2.2.2.2.2.2.2.2.1, t13.2.2.2.2.2.2.2.2.2.2.2.1, t13.2.2.2.2.2.2.2.2.2.2.2.2, ([] : List S66), 0))))))
def spec_l4Run_v1n.l0_M (x0_0 : Int) (x0_1 : Int) (x0_2 : Int) (x0_3 : Int) (x0_4 : Int) (x0_5 : Int) (x0_6 : Int) (x0_7 : (List Int)) (x0_8 : Int) (x0_9 : Int) (x0_10 : Int) (x0_11 : Int) (x0_12 : Int) (x0_13 : Bool) (x0_14 : Int) (x0_15 : Int) (x0_16 : Int) (x0_17 : Int) (x0_18 : Int) (x0_19 : Int) (x0_20 : (List Int)) (x0_21 : Int) (x0_22 : Int) (x0_23 : Int) (x0_24 : Int) (x0_25 : Int) (x0_26 : Bool) (x0_27 : (List S66)) (y : Unit) : Prop := ∀ (K : AE → St → Prop), (K (.exit 0) ⟨[(4, .c (.ptr (.tmp 4 0) [] 0)), (7, .c (.ptr (.tmp 7 0) [] 0)), (8, .c (.ref (.tmp 20 0) [] 0 x0_27.length))], [(.tmp 4 0, ⟨.box, 0, [.sc (.int .u32 x0_1), .sc (.int .i64 x0_2), .sc (.int .i64 x0_3), .sc (.int .i64 x0_4), .sc (.int .i64 x0_5), .sc (.int .i64 x0_6), .own 1 x0_7.length (encL c_i64 x0_7), .sc (.int .i64 x0_8), .sc (.int .i64 x0_9), .sc (.int .i64 x0_10), .sc (.int .i64 x0_11), .sc (.int .i64 x0_12), .sc (.bool x0_13)]⟩), (.tmp 7 0, ⟨.box, 0, [.sc (.int .u32 x0_14), .sc (.int .i64 x0_15), .sc (.int .i64 x0_16), .sc (.int .i64 x0_17), .sc (.int .i64 x0_18), .sc (.int .i64 x0_19), .own 1 x0_20.length (encL c_i64 x0_20), .sc (.int .i64 x0_21), .sc (.int .i64 x0_22), .sc (.int .i64 x0_23), .sc (.int .i64 x0_24), .sc (.int .i64 x0_25), .sc (.bool x0_26)]⟩), (.tmp 20 0, ⟨.lst, 5, encL c66 x0_27⟩)], [], []⟩) → loopS Try.prog 37 (.ga C86v1n_l0) K ⟨[(1, .c (.sc (.slice none 0 0))), (4, .c (.ptr (.tmp 4 0) [] 0)), (7, .c (.ptr (.tmp 7 0) [] 0)), (8, .c (.ref (.tmp 20 0) [] 0 x0_27.length)), (9, .c (.sc (.int .i64 x0_0)))], [(.tmp 4 0, ⟨.box, 0, [.sc (.int .u32 x0_1), .sc (.int .i64 x0_2), .sc (.int .i64 x0_3), .sc (.int .i64 x0_4), .sc (.int .i64 x0_5), .sc (.int .i64 x0_6), .own 1 x0_7.length (encL c_i64 x0_7), .sc (.int .i64 x0_8), .sc (.int .i64 x0_9), .sc (.int .i64 x0_10), .sc (.int .i64 x0_11), .sc (.int .i64 x0_12), .sc (.bool x0_13)]⟩), (.tmp 7 0, ⟨.box, 0, [.sc (.int .u32 x0_14), .sc (.int .i64 x0_15), .sc (.int .i64 x0_16), .sc (.int .i64 x0_17), .sc (.int .i64 x0_18), .sc (.int .i64 x0_19), .own 1 x0_20.length (encL c_i64 x0_20), .sc (.int .i64 x0_21), .sc (.int .i64 x0_22), .sc (.int .i64 x0_23), .sc (.int .i64 x0_24), .sc (.int .i64 x0_25), .sc (.bool x0_26)]⟩), (.tmp 20 0, ⟨.lst, 5, encL c66 x0_27⟩)], [], []⟩
theorem spec_l4Run_v1n.l0_walk (x0_0 : Int) (x0_1 : Int) (x0_2 : Int) (x0_3 : Int) (x0_4 : Int) (x0_5 : Int) (x0_6 : Int) (x0_7 : (List Int)) (x0_8 : Int) (x0_9 : Int) (x0_10 : Int) (x0_11 : Int) (x0_12 : Int) (x0_13 : Bool) (x0_14 : Int) (x0_15 : Int) (x0_16 : Int) (x0_17 : Int) (x0_18 : Int) (x0_19 : Int) (x0_20 : (List Int)) (x0_21 : Int) (x0_22 : Int) (x0_23 : Int) (x0_24 : Int) (x0_25 : Int) (x0_26 : Bool) (x0_27 : (List S66)) (y : Unit) (h : spec_l4Run_v1n.l0 x0_0 x0_1 x0_2 x0_3 x0_4 x0_5 x0_6 x0_7 x0_8 x0_9 x0_10 x0_11 x0_12 x0_13 x0_14 x0_15 x0_16 x0_17 x0_18 x0_19 x0_20 x0_21 x0_22 x0_23 x0_24 x0_25 x0_26 x0_27 = some y) : spec_l4Run_v1n.l0_M x0_0 x0_1 x0_2 x0_3 x0_4 x0_5 x0_6 x0_7 x0_8 x0_9 x0_10 x0_11 x0_12 x0_13 x0_14 x0_15 x0_16 x0_17 x0_18 x0_19 x0_20 x0_21 x0_22 x0_23 x0_24 x0_25 x0_26 x0_27 y := by
  unfold spec_l4Run_v1n.l0_M
  intro K hx0
  unfold spec_l4Run_v1n.l0 at h
  refine loop_unroll (ga_k fun G0 G0n G0r G0x => ?_)
  unfold C86v1n_l0
  refine seq_k fun J24 hJ24 => ?_
  refine sr_k fun J25 hJ25 => ?_
  simp +decide only [Nat.reduceAdd, Nat.reduceMul, Int.reduceToNat, ak]
  refine hJ25 _ ?_
  refine cond_k (b := decide (x0_0 < 0)) rfl (fun c26 => ?_) (fun c26 => ?_)
  · replace c26 := of_decide_eq_true c26; rw [if_pos c26] at h
    refine hJ24 _ ?_
    refine seq_k fun J27 hJ27 => ?_
    refine block_k fun B28 B28n B28x B28r B28j => ?_
    refine reg_k ?_
    simp +decide only [Nat.reduceAdd, Nat.reduceMul, Int.reduceToNat, ak]
    cases h
  · replace c26 := of_decide_eq_false c26; rw [if_neg c26] at h
    obtain rfl := Option.some.inj h
    refine gh_k (wk [4, 7, 8] [pI (.tmp 4 0) .box, pI (.tmp 7 0) .box, pI (.tmp 20 0) .lst]) ?_
    refine G0x _ _ ?_
    exact hx0
theorem spec_l4Run_v1n.tri (a0_0 : Int) (a0_1 : Int) (a0_2 : Int) (a0_3 : Int) (a0_4 : Int) (a0_5 : Int) (r : Int × Int × Int × Int × Int × Int × (List Int) × Int × Int × Int × Int × Int × Bool × (List S66) × Int) (h : spec_l4Run_v1n.f a0_0 a0_1 a0_2 a0_3 a0_4 a0_5 = some r) : Tri Try.prog 86 [.g [.sc (.int .u32 a0_0), .sc (.int .i64 a0_1), .sc (.int .i64 a0_2), .sc (.int .i64 a0_3), .sc (.int .i64 a0_4), .sc (.int .i64 a0_5)], .c (.sc (.slice none 0 0))] [] (fun o => o = ⟨.tup [(true, [.sc (.int .u32 r.1), .sc (.int .i64 r.2.1), .sc (.int .i64 r.2.2.1), .sc (.int .i64 r.2.2.2.1), .sc (.int .i64 r.2.2.2.2.1), .sc (.int .i64 r.2.2.2.2.2.1), .ref (.res 0) [] 0 r.2.2.2.2.2.2.1.length, .sc (.int .i64 r.2.2.2.2.2.2.2.1), .sc (.int .i64 r.2.2.2.2.2.2.2.2.1), .sc (.int .i64 r.2.2.2.2.2.2.2.2.2.1), .sc (.int .i64 r.2.2.2.2.2.2.2.2.2.2.1), .sc (.int .i64 r.2.2.2.2.2.2.2.2.2.2.2.1), .sc (.bool r.2.2.2.2.2.2.2.2.2.2.2.2.1)]), (false, [.ref (.res 1) [] 0 r.2.2.2.2.2.2.2.2.2.2.2.2.2.1.length]), (false, [.sc (.int .i64 r.2.2.2.2.2.2.2.2.2.2.2.2.2.2)])], [(.res 0, ⟨.lst, 1, encL c_i64 r.2.2.2.2.2.2.1⟩), (.res 1, ⟨.lst, 5, encL c66 r.2.2.2.2.2.2.2.2.2.2.2.2.2.1⟩)], [], []⟩) := by
  refine tri_of_body (ac := C86v1n) (xs := r86v1n) Try.func86 (show Try.f86.body = some (Try.f86.body.getD .skip) from rfl) k86v1n q86v1n (Nat.le_of_ble_eq_true rfl) ?_
  refine body_of fun K hKn hKr => ?_
  unfold spec_l4Run_v1n.f at h
  unfold C86v1n
  simp only [initT, Nat.reduceAdd]
  refine sr_k fun J1 hJ1 => ?_
  simp +decide only [Nat.reduceAdd, Nat.reduceMul, Int.reduceToNat, ak]
  refine gho_k (Weak.own (.tmp 4 0) (cs' := [.sc (.int .u32 0), .sc (.int .i64 0), .sc (.int .i64 0), .sc (.int .i64 0), .sc (.int .i64 0), .sc (.int .i64 0), .own 1 (([] : List Int).length) (encL c_i64 ([] : List Int)), .sc (.int .i64 0), .sc (.int .i64 0), .sc (.int .i64 0), .sc (.int .i64 0), .sc (.int .i64 0), .sc (.bool false)]) rfl ⟨.inl rfl, .inl rfl, .inl rfl, .inl rfl, .inl rfl, .inl rfl, .inr ⟨rfl, _, rfl⟩, .inl rfl, .inl rfl, .inl rfl, .inl rfl, .inl rfl, .inl rfl, trivial⟩) ?_
  simp +decide only [Nat.reduceAdd, Nat.reduceMul, Int.reduceToNat, ak]
  refine gho_k (Weak.nm' 5 (.tmp 5 20) 5 (encL c66 ([] : List S66)) rfl rfl rfl) ?_
  simp +decide only [Nat.reduceAdd, Nat.reduceMul, Int.reduceToNat, ak]
  refine hJ1 _ ?_
  refine seq_k fun J2 hJ2 => ?_
  refine sr_k fun J3 hJ3 => ?_
  simp +decide only [Nat.reduceAdd, Nat.reduceMul, Int.reduceToNat, ak]
  obtain ⟨t4, h5, h⟩ := of_bind h
  refine call_m [] (s0 := []) (by intro t ht; cases ht; decide) rfl rfl (by first | rfl | simp only [reduceCtorEq, Nat.reduceEqDiff, ak, akF]) (spec_l4ConfigOK.tri a0_0 a0_1 a0_2 a0_3 a0_4 a0_5 _ h5) (by first | rfl | simp only [reduceCtorEq, Nat.reduceEqDiff, ak, akF]) (by simp [bkOk2, memK]) (fun hl5 => ?_)
  refine call_st (s4 := [(.tmp 2 0, ⟨.box, 0, [.sc (.int .u32 a0_0), .sc (.int .i64 a0_1), .sc (.int .i64 a0_2), .sc (.int .i64 a0_3), .sc (.int .i64 a0_4), .sc (.int .i64 a0_5)]⟩), (.tmp 4 0, ⟨.box, 0, [.sc (.int .u32 0), .sc (.int .i64 0), .sc (.int .i64 0), .sc (.int .i64 0), .sc (.int .i64 0), .sc (.int .i64 0), .own 1 (([] : List Int).length) (encL c_i64 ([] : List Int)), .sc (.int .i64 0), .sc (.int .i64 0), .sc (.int .i64 0), .sc (.int .i64 0), .sc (.int .i64 0), .sc (.bool false)]⟩), (.tmp 5 20, ⟨.lst, 5, encL c66 ([] : List S66)⟩)]) (m1' := []) (m2' := []) (v' := .c (.sc (.bool t4))) (Sto.mapN_killNil _ _) (mrgL_nil' _ _ _) (by rfl) (mapT_killNil _ _) (by rfl) (by rfl) (by first | rfl | simp only [reduceCtorEq, Nat.reduceEqDiff, ak, akF, Nat.zero_add, List.append_nil]) ?_
  simp +decide only [Nat.reduceAdd, Nat.reduceMul, Int.reduceToNat, ak]
  refine hJ3 _ ?_
  refine cond_k (b := !t4) rfl (fun c7 => ?_) (fun c7 => ?_)
  · rw [if_pos c7] at h
    refine sr_k fun J8 hJ8 => ?_
    simp +decide only [Nat.reduceAdd, Nat.reduceMul, Int.reduceToNat, ak]
    refine gho_k (Weak.nmg' 13 6 (.tmp 13 26) 1 (encL c_i64 ([] : List Int)) rfl rfl rfl rfl) ?_
    have g9 : (encL c_i64 ([] : List Int)).length = 0 * 1 := by simp [encL_length c_i64_w]
    simp +decide only [Nat.reduceAdd, Nat.reduceMul, Int.reduceToNat, ak, g9]
    refine gho_k ((Weak.drop [.tmp 5 20]).trans (Weak.nm' 5 (.tmp 5 20) 5 (encL c66 ([] : List S66)) rfl rfl rfl)) ?_
    simp +decide only [Nat.reduceAdd, Nat.reduceMul, Int.reduceToNat, ak]
    refine hJ8 _ ?_
    obtain rfl := Option.some.inj h
    refine hKr _ ⟨_, rfl, [⟨(.tmp 4 0), [6], none, .lst⟩, ⟨(.tmp 5 20), [], none, .lst⟩], _, rfl, rfl, ?_⟩
    first | rfl | (simp only [reduceCtorEq, Nat.reduceEqDiff, ak, akF]; done) | (simp [reduceCtorEq, Nat.reduceEqDiff, ak, akF] <;> omega)
  · rw [if_neg (Bool.eq_false_iff.1 c7)] at h
    refine hJ2 _ ?_
    refine seq_k fun J10 hJ10 => ?_
    refine sr_k fun J11 hJ11 => ?_
    simp +decide only [Nat.reduceAdd, Nat.reduceMul, Int.reduceToNat, ak]
    refine hJ11 _ ?_
    refine cond_k (b := false) rfl (fun hc => ?_) (fun hc => ?_)
    · cases hc
    · refine hJ10 _ ?_
      refine sr_k fun J12 hJ12 => ?_
      simp +decide only [Nat.reduceAdd, Nat.reduceMul, Int.reduceToNat, ak]
      obtain ⟨t13, h14, h⟩ := of_bind h
      refine call_m [] (s0 := []) (by intro t ht; cases ht; decide) rfl rfl (by first | rfl | simp only [reduceCtorEq, Nat.reduceEqDiff, ak, akF]) (spec_l4Begin.tri a0_0 a0_1 a0_2 a0_3 a0_4 a0_5 _ h14) (by first | rfl | simp only [reduceCtorEq, Nat.reduceEqDiff, ak, akF]) (by simp [bkOk2, memK]) (fun hl14 => ?_)
      refine call_st (s4 := [(.tmp 2 0, ⟨.box, 0, [.sc (.int .u32 a0_0), .sc (.int .i64 a0_1), .sc (.int .i64 a0_2), .sc (.int .i64 a0_3), .sc (.int .i64 a0_4), .sc (.int .i64 a0_5)]⟩), (.tmp 4 0, ⟨.box, 0, [.sc (.int .u32 0), .sc (.int .i64 0), .sc (.int .i64 0), .sc (.int .i64 0), .sc (.int .i64 0), .sc (.int .i64 0), .own 1 (([] : List Int).length) (encL c_i64 ([] : List Int)), .sc (.int .i64 0), .sc (.int .i64 0), .sc (.int .i64 0), .sc (.int .i64 0), .sc (.int .i64 0), .sc (.bool false)]⟩), (.tmp 5 20, ⟨.lst, 5, encL c66 ([] : List S66)⟩), (.tmp 19 0, ⟨.lst, 1, encL c_i64 t13.2.2.2.2.2.2.1⟩)]) (m1' := []) (m2' := []) (v' := .g [.sc (.int .u32 t13.1), .sc (.int .i64 t13.2.1), .sc (.int .i64 t13.2.2.1), .sc (.int .i64 t13.2.2.2.1), .sc (.int .i64 t13.2.2.2.2.1), .sc (.int .i64 t13.2.2.2.2.2.1), .ref (.tmp 19 0) [] 0 t13.2.2.2.2.2.2.1.length, .sc (.int .i64 t13.2.2.2.2.2.2.2.1), .sc (.int .i64 t13.2.2.2.2.2.2.2.2.1), .sc (.int .i64 t13.2.2.2.2.2.2.2.2.2.1), .sc (.int .i64 t13.2.2.2.2.2.2.2.2.2.2.1), .sc (.int .i64 t13.2.2.2.2.2.2.2.2.2.2.2.1), .sc (.bool t13.2.2.2.2.2.2.2.2.2.2.2.2)]) (Sto.mapN_killNil _ _) (mrgL_nil' _ _ _) (by rfl) (mapT_killNil _ _) (by rfl) (by rfl) (by first | rfl | simp only [reduceCtorEq, Nat.reduceEqDiff, ak, akF, Nat.zero_add, List.append_nil]) ?_
      simp +decide only [Nat.reduceAdd, Nat.reduceMul, Int.reduceToNat, ak]
      refine gho_k (Weak.own (.tmp 7 0) (cs' := [.sc (.int .u32 0), .sc (.int .i64 0), .sc (.int .i64 0), .sc (.int .i64 0), .sc (.int .i64 0), .sc (.int .i64 0), .own 1 (([] : List Int).length) (encL c_i64 ([] : List Int)), .sc (.int .i64 0), .sc (.int .i64 0), .sc (.int .i64 0), .sc (.int .i64 0), .sc (.int .i64 0), .sc (.bool false)]) rfl ⟨.inl rfl, .inl rfl, .inl rfl, .inl rfl, .inl rfl, .inl rfl, .inr ⟨rfl, _, rfl⟩, .inl rfl, .inl rfl, .inl rfl, .inl rfl, .inl rfl, .inl rfl, trivial⟩) ?_
      have g16 : (encL c_i64 t13.2.2.2.2.2.2.1).length = t13.2.2.2.2.2.2.1.length * 1 := by simp [encL_length c_i64_w]
      simp +decide only [Nat.reduceAdd, Nat.reduceMul, Int.reduceToNat, ak, g16]
      refine hJ12 _ ?_
      refine sr_k fun J17 hJ17 => ?_
      have g18 : (List.replicate 0 ([.int .i64 0, .slice none 0 0, .slice none 0 0, .int .i64 0, .int .i64 0] : List Value)).flatten = [] := rfl
      have g19 : (⟨.lst, 5, []⟩ : Root) = ⟨.lst, 5, encL c66 ([] : List S66)⟩ := rfl
      have g20 : ([] : List S66).length = 0 := rfl
      simp +decide only [Nat.reduceAdd, Nat.reduceMul, Int.reduceToNat, ak, g18, g19, g20]
      refine gho_k (Weak.refl _ _) ?_
      simp +decide only [Nat.reduceAdd, Nat.reduceMul, Int.reduceToNat, ak]
      refine hJ17 _ ?_
      refine seq_k fun J21 hJ21 => ?_
      refine sr_k fun J22 hJ22 => ?_
      simp +decide only [Nat.reduceAdd, Nat.reduceMul, Int.reduceToNat, ak]
      refine hJ22 _ ?_
      refine block_k fun B23 B23n B23x B23r B23j => ?_
      obtain ⟨y29, h30, h⟩ := of_bind h
      refine gh_k (st' := ⟨[(1, .c (.sc (.slice none 0 0))), (4, .c (.ptr (.tmp 4 0) [] 0)), (7, .c (.ptr (.tmp 7 0) [] 0)), (8, .c (.ref (.tmp 20 0) [] 0 (([] : List S66).length))), (9, .c (.sc (.int .i64 0)))], [(.tmp 4 0, ⟨.box, 0, [.sc (.int .u32 0), .sc (.int .i64 0), .sc (.int .i64 0), .sc (.int .i64 0), .sc (.int .i64 0), .sc (.int .i64 0), .own 1 (([] : List Int).length) (encL c_i64 ([] : List Int)), .sc (.int .i64 0), .sc (.int .i64 0), .sc (.int .i64 0), .sc (.int .i64 0), .sc (.int .i64 0), .sc (.bool false)]⟩), (.tmp 7 0, ⟨.box, 0, [.sc (.int .u32 t13.1), .sc (.int .i64 t13.2.1), .sc (.int .i64 t13.2.2.1), .sc (.int .i64 t13.2.2.2.1), .sc (.int .i64 t13.2.2.2.2.1), .sc (.int .i64 t13.2.2.2.2.2.1), .own 1 t13.2.2.2.2.2.2.1.length (encL c_i64 t13.2.2.2.2.2.2.1), .sc (.int .i64 t13.2.2.2.2.2.2.2.1), .sc (.int .i64 t13.2.2.2.2.2.2.2.2.1), .sc (.int .i64 t13.2.2.2.2.2.2.2.2.2.1), .sc (.int .i64 t13.2.2.2.2.2.2.2.2.2.2.1), .sc (.int .i64 t13.2.2.2.2.2.2.2.2.2.2.2.1), .sc (.bool t13.2.2.2.2.2.2.2.2.2.2.2.2)]⟩), (.tmp 20 0, ⟨.lst, 5, encL c66 ([] : List S66)⟩)], [], []⟩) (wk [1, 4, 7, 8, 9] [pI (.tmp 4 0) .box, pI (.tmp 7 0) .box, pI (.tmp 20 0) .lst] (h := by first | rfl | (simp +decide only [ak, akF]; done) | (simp +decide [ak, akF] <;> omega))) ?_
      rw [e_loop]
      refine spec_l4Run_v1n.l0_walk 0 0 0 0 0 0 0 ([] : List Int) 0 0 0 0 0 false t13.1 t13.2.1 t13.2.2.1 t13.2.2.2.1 t13.2.2.2.2.1 t13.2.2.2.2.2.1 t13.2.2.2.2.2.2.1 t13.2.2.2.2.2.2.2.1 t13.2.2.2.2.2.2.2.2.1 t13.2.2.2.2.2.2.2.2.2.1 t13.2.2.2.2.2.2.2.2.2.2.1 t13.2.2.2.2.2.2.2.2.2.2.2.1 t13.2.2.2.2.2.2.2.2.2.2.2.2 ([] : List S66) _ h30 _ ?_
      refine B23x _ ?_
      refine hJ21 _ ?_
      refine sr_k fun J31 hJ31 => ?_
      simp +decide only [Nat.reduceAdd, Nat.reduceMul, Int.reduceToNat, ak]
      refine hJ31 _ ?_
      obtain rfl := Option.some.inj h
      refine hKr _ ⟨_, rfl, [⟨(.tmp 7 0), [6], none, .lst⟩, ⟨(.tmp 20 0), [], none, .lst⟩], _, rfl, rfl, ?_⟩
      first | rfl | (simp only [reduceCtorEq, Nat.reduceEqDiff, ak, akF]; done) | (simp [reduceCtorEq, Nat.reduceEqDiff, ak, akF] <;> omega)
/-! ### spec.SubRun: function 30 -/
def C30v1n : AC := .seq (.reg [.op none (.box 2 (.tmp 0)), .op none (.mv 4 (.const (.slice none 0 0))), .gh, .op none (.mv 5 (.const (.int .i64 0))), .keep [1, 2]]) (.seq (.reg [.op none (.load 10 true 6 (.tmp 2)), .op none (.mv 11 (.tmp 1)), .call none (some 12) 86 [.tmp 10, .tmp 11], .op none (.mv 9 (.tmp 12)), .op none (.extr 13 (.tmp 9) 0), .op none (.extr 14 (.tmp 9) 1), .op none (.extr 15 (.tmp 9) 2), .op none (.alloc 6 [.int .u32 0, .int .i64 0, .int .i64 0, .int .i64 0, .int .i64 0, .int .i64 0, .slice none 0 0, .int .i64 0, .int .i64 0, .int .i64 0, .int .i64 0, .int .i64 0, .bool false]), .gh, .op none (.store 13 (.tmp 6) (.tmp 13)), .op none (.mv 7 (.tmp 14)), .op none (.mv 8 (.tmp 15)), .keep [7, 8]]) (.seq (.reg [.op none (.mv 16 (.tmp 7)), .op none (.mv 17 (.tmp 8)), .op none (.mv 4 (.tmp 16)), .op none (.mv 5 (.tmp 17)), .keep [4, 5]]) (.ret)))
def r30v1n : List RV := [.tmp 4, .tmp 5]
theorem k30v1n : compC Try.prog 18 C30v1n (Try.f30.body.getD .skip) = some C30v1n.erase := by kernel_rfl
theorem q30v1n : rvsOf Try.prog Try.f30.results.toList = some r30v1n := by kernel_rfl
def spec_SubRun_v1n.f (a0_0 : Int) (a0_1 : Int) (a0_2 : Int) (a0_3 : Int) (a0_4 : Int) (a0_5 : Int) : Option ((List S66) × Int) := (spec_l4Run_v1n.f a0_0 a0_1 a0_2 a0_3 a0_4 a0_5 >>= fun t3 => (some (t3.2.2.2.2.2.2.2.2.2.2.2.2.2.1, t3.2.2.2.2.2.2.2.2.2.2.2.2.2.2)))
theorem spec_SubRun_v1n.tri (a0_0 : Int) (a0_1 : Int) (a0_2 : Int) (a0_3 : Int) (a0_4 : Int) (a0_5 : Int) (r : (List S66) × Int) (h : spec_SubRun_v1n.f a0_0 a0_1 a0_2 a0_3 a0_4 a0_5 = some r) : Tri Try.prog 30 [.g [.sc (.int .u32 a0_0), .sc (.int .i64 a0_1), .sc (.int .i64 a0_2), .sc (.int .i64 a0_3), .sc (.int .i64 a0_4), .sc (.int .i64 a0_5)], .c (.sc (.slice none 0 0))] [] (fun o => o = ⟨.tup [(false, [.ref (.res 0) [] 0 r.1.length]), (false, [.sc (.int .i64 r.2)])], [(.res 0, ⟨.lst, 5, encL c66 r.1⟩)], [], []⟩) := by
  refine tri_of_body (ac := C30v1n) (xs := r30v1n) Try.func30 (show Try.f30.body = some (Try.f30.body.getD .skip) from rfl) k30v1n q30v1n (Nat.le_of_ble_eq_true rfl) ?_
  refine body_of fun K hKn hKr => ?_
  unfold spec_SubRun_v1n.f at h
  unfold C30v1n
  simp only [initT, Nat.reduceAdd]
  refine sr_k fun J1 hJ1 => ?_
  simp +decide only [Nat.reduceAdd, Nat.reduceMul, Int.reduceToNat, ak]
  refine gho_k (Weak.nm' 4 (.tmp 4 20) 5 (encL c66 ([] : List S66)) rfl rfl rfl) ?_
  simp +decide only [Nat.reduceAdd, Nat.reduceMul, Int.reduceToNat, ak]
  refine hJ1 _ ?_
  refine sr_k fun J2 hJ2 => ?_
  simp +decide only [Nat.reduceAdd, Nat.reduceMul, Int.reduceToNat, ak]
  obtain ⟨t3, h4, h⟩ := of_bind h
  refine call_m [] (s0 := []) (by intro t ht; cases ht; decide) rfl rfl (by first | rfl | simp only [reduceCtorEq, Nat.reduceEqDiff, ak, akF]) (spec_l4Run_v1n.tri a0_0 a0_1 a0_2 a0_3 a0_4 a0_5 _ h4) (by first | rfl | simp only [reduceCtorEq, Nat.reduceEqDiff, ak, akF]) (by simp [bkOk2, memK]) (fun hl4 => ?_)
  refine call_st (s4 := [(.tmp 2 0, ⟨.box, 0, [.sc (.int .u32 a0_0), .sc (.int .i64 a0_1), .sc (.int .i64 a0_2), .sc (.int .i64 a0_3), .sc (.int .i64 a0_4), .sc (.int .i64 a0_5)]⟩), (.tmp 4 20, ⟨.lst, 5, encL c66 ([] : List S66)⟩), (.tmp 12 1, ⟨.lst, 5, encL c66 t3.2.2.2.2.2.2.2.2.2.2.2.2.2.1⟩), (.tmp 12 0, ⟨.lst, 1, encL c_i64 t3.2.2.2.2.2.2.1⟩)]) (m1' := []) (m2' := []) (v' := .tup [(true, [.sc (.int .u32 t3.1), .sc (.int .i64 t3.2.1), .sc (.int .i64 t3.2.2.1), .sc (.int .i64 t3.2.2.2.1), .sc (.int .i64 t3.2.2.2.2.1), .sc (.int .i64 t3.2.2.2.2.2.1), .ref (.tmp 12 0) [] 0 t3.2.2.2.2.2.2.1.length, .sc (.int .i64 t3.2.2.2.2.2.2.2.1), .sc (.int .i64 t3.2.2.2.2.2.2.2.2.1), .sc (.int .i64 t3.2.2.2.2.2.2.2.2.2.1), .sc (.int .i64 t3.2.2.2.2.2.2.2.2.2.2.1), .sc (.int .i64 t3.2.2.2.2.2.2.2.2.2.2.2.1), .sc (.bool t3.2.2.2.2.2.2.2.2.2.2.2.2.1)]), (false, [.ref (.tmp 12 1) [] 0 t3.2.2.2.2.2.2.2.2.2.2.2.2.2.1.length]), (false, [.sc (.int .i64 t3.2.2.2.2.2.2.2.2.2.2.2.2.2.2)])]) (Sto.mapN_killNil _ _) (mrgL_nil' _ _ _) (by rfl) (mapT_killNil _ _) (by rfl) (by rfl) (by first | rfl | simp only [reduceCtorEq, Nat.reduceEqDiff, ak, akF, Nat.zero_add, List.append_nil]) ?_
  simp +decide only [Nat.reduceAdd, Nat.reduceMul, Int.reduceToNat, ak]
  refine gho_k (Weak.own (.tmp 6 0) (cs' := [.sc (.int .u32 0), .sc (.int .i64 0), .sc (.int .i64 0), .sc (.int .i64 0), .sc (.int .i64 0), .sc (.int .i64 0), .own 1 (([] : List Int).length) (encL c_i64 ([] : List Int)), .sc (.int .i64 0), .sc (.int .i64 0), .sc (.int .i64 0), .sc (.int .i64 0), .sc (.int .i64 0), .sc (.bool false)]) rfl ⟨.inl rfl, .inl rfl, .inl rfl, .inl rfl, .inl rfl, .inl rfl, .inr ⟨rfl, _, rfl⟩, .inl rfl, .inl rfl, .inl rfl, .inl rfl, .inl rfl, .inl rfl, trivial⟩) ?_
  have g6 : (encL c_i64 t3.2.2.2.2.2.2.1).length = t3.2.2.2.2.2.2.1.length * 1 := by simp [encL_length c_i64_w]
  simp +decide only [Nat.reduceAdd, Nat.reduceMul, Int.reduceToNat, ak, g6]
  refine hJ2 _ ?_
  refine sr_k fun J7 hJ7 => ?_
  simp +decide only [Nat.reduceAdd, Nat.reduceMul, Int.reduceToNat, ak]
  refine hJ7 _ ?_
  obtain rfl := Option.some.inj h
  refine hKr _ ⟨_, rfl, [⟨(.tmp 12 1), [], none, .lst⟩], _, rfl, rfl, ?_⟩
  first | rfl | (simp only [reduceCtorEq, Nat.reduceEqDiff, ak, akF]; done) | (simp [reduceCtorEq, Nat.reduceEqDiff, ak, akF] <;> omega)
/-! ### impl.validSub: function 131 -/
def C131 : AC := .seq (.reg [.op none (.box 1 (.tmp 0)), .op none (.mv 2 (.const (.bool false))), .keep [1]]) (.seq (.reg [.op none (.faddr 3 1 (.tmp 1)), .op none (.load 4 false 1 (.tmp 3)), .op none (.bin 5 .geq (.tmp 4) (.const (.int .i64 1))), .op none (.mv 6 (.tmp 5)), .op (some (6, true)) (.faddr 7 1 (.tmp 1)), .op (some (6, true)) (.load 8 false 1 (.tmp 7)), .op (some (6, true)) (.bin 9 .leq (.tmp 8) (.const (.int .i64 16))), .op none (.pick 10 (.tmp 6) (.tmp 9) (.const (.bool false))), .op none (.mv 11 (.tmp 10)), .op (some (11, true)) (.faddr 12 2 (.tmp 1)), .op (some (11, true)) (.load 13 false 1 (.tmp 12)), .op (some (11, true)) (.bin 14 .geq (.tmp 13) (.const (.int .i64 1))), .op none (.pick 15 (.tmp 11) (.tmp 14) (.const (.bool false))), .op none (.mv 16 (.tmp 15)), .op (some (16, true)) (.faddr 17 2 (.tmp 1)), .op (some (16, true)) (.load 18 false 1 (.tmp 17)), .op (some (16, true)) (.bin 19 .leq (.tmp 18) (.const (.int .i64 50))), .op none (.pick 20 (.tmp 16) (.tmp 19) (.const (.bool false))), .op none (.mv 21 (.tmp 20)), .op (some (21, true)) (.faddr 22 3 (.tmp 1)), .op (some (21, true)) (.load 23 false 1 (.tmp 22)), .op (some (21, true)) (.faddr 24 2 (.tmp 1)), .op (some (21, true)) (.load 25 false 1 (.tmp 24)), .op (some (21, true)) (.bin 26 .geq (.tmp 23) (.tmp 25)), .op none (.pick 27 (.tmp 21) (.tmp 26) (.const (.bool false))), .op none (.mv 28 (.tmp 27)), .op (some (28, true)) (.faddr 29 3 (.tmp 1)), .op (some (28, true)) (.load 30 false 1 (.tmp 29)), .op (some (28, true)) (.bin 31 .leq (.tmp 30) (.const (.int .i64 400))), .op none (.pick 32 (.tmp 28) (.tmp 31) (.const (.bool false))), .op none (.mv 33 (.tmp 32)), .op (some (33, true)) (.faddr 34 4 (.tmp 1)), .op (some (33, true)) (.load 35 false 1 (.tmp 34)), .op (some (33, true)) (.bin 36 .geq (.tmp 35) (.const (.int .i64 1))), .op none (.pick 37 (.tmp 33) (.tmp 36) (.const (.bool false))), .op none (.mv 38 (.tmp 37)), .op (some (38, true)) (.faddr 39 4 (.tmp 1)), .op (some (38, true)) (.load 40 false 1 (.tmp 39)), .op (some (38, true)) (.bin 41 .leq (.tmp 40) (.const (.int .i64 8))), .op none (.pick 42 (.tmp 38) (.tmp 41) (.const (.bool false))), .op none (.mv 43 (.tmp 42)), .op (some (43, true)) (.faddr 44 5 (.tmp 1)), .op (some (43, true)) (.load 45 false 1 (.tmp 44)), .op (some (43, true)) (.bin 46 .geq (.tmp 45) (.const (.int .i64 1))), .op none (.pick 47 (.tmp 43) (.tmp 46) (.const (.bool false))), .op none (.mv 48 (.tmp 47)), .op (some (48, true)) (.faddr 49 5 (.tmp 1)), .op (some (48, true)) (.load 50 false 1 (.tmp 49)), .op (some (48, true)) (.bin 51 .leq (.tmp 50) (.const (.int .i64 50))), .op none (.pick 52 (.tmp 48) (.tmp 51) (.const (.bool false))), .op none (.mv 2 (.tmp 52)), .keep [2]]) (.ret))
def r131 : List RV := [.tmp 2]
theorem k131 : compC Try.prog 53 C131 (Try.f131.body.getD .skip) = some C131.erase := by kernel_rfl
theorem q131 : rvsOf Try.prog Try.f131.results.toList = some r131 := by kernel_rfl
def impl_validSub.f (a0_0 : Int) (a0_1 : Int) (a0_2 : Int) (a0_3 : Int) (a0_4 : Int) (a0_5 : Int) : Option Bool := (if a0_1 ≥ 1 then (if a0_1 ≤ 16 then (if a0_2 ≥ 1 then (if a0_2 ≤ 50 then (if a0_3 ≥ a0_2 then (if a0_3 ≤ 400 then (if a0_4 ≥ 1 then (if a0_4 ≤ 8 then (if a0_5 ≥ 1 then (some (decide (a0_5 ≤ 50))) else (some false)) else (some false)) else (some false)) else (some false)) else (some false)) else (some false)) else (some false)) else (some false)) else (some false))
theorem impl_validSub.tri (a0_0 : Int) (a0_1 : Int) (a0_2 : Int) (a0_3 : Int) (a0_4 : Int) (a0_5 : Int) (r : Bool) (h : impl_validSub.f a0_0 a0_1 a0_2 a0_3 a0_4 a0_5 = some r) : Tri Try.prog 131 [.g [.sc (.int .u32 a0_0), .sc (.int .i64 a0_1), .sc (.int .i64 a0_2), .sc (.int .i64 a0_3), .sc (.int .i64 a0_4), .sc (.int .i64 a0_5)]] [] (fun o => o = ⟨.c (.sc (.bool r)), [], [], []⟩) := by
  refine tri_of_body (ac := C131) (xs := r131) Try.func131 (show Try.f131.body = some (Try.f131.body.getD .skip) from rfl) k131 q131 (Nat.le_of_ble_eq_true rfl) ?_
  refine body_of fun K hKn hKr => ?_
  unfold impl_validSub.f at h
  unfold C131
  simp only [initT, Nat.reduceAdd]
  refine sr_k fun J1 hJ1 => ?_
  simp +decide only [Nat.reduceAdd, Nat.reduceMul, Int.reduceToNat, ak]
  refine hJ1 _ ?_
  refine sr_k fun J2 hJ2 => ?_
  simp +decide only [Nat.reduceAdd, Nat.reduceMul, Int.reduceToNat, ak]
  by_cases c3 : a0_1 ≥ 1
  · rw [if_pos c3] at h
    have e4 : decide (a0_1 ≥ 1) = true := decide_eq_true c3
    simp +decide only [Nat.reduceAdd, Nat.reduceMul, Int.reduceToNat, ak, e4]
    by_cases c5 : a0_1 ≤ 16
    · rw [if_pos c5] at h
      have e6 : decide (a0_1 ≤ 16) = true := decide_eq_true c5
      simp +decide only [Nat.reduceAdd, Nat.reduceMul, Int.reduceToNat, ak, e6]
      by_cases c7 : a0_2 ≥ 1
      · rw [if_pos c7] at h
        have e8 : decide (a0_2 ≥ 1) = true := decide_eq_true c7
        simp +decide only [Nat.reduceAdd, Nat.reduceMul, Int.reduceToNat, ak, e8]
        by_cases c9 : a0_2 ≤ 50
        · rw [if_pos c9] at h
          have e10 : decide (a0_2 ≤ 50) = true := decide_eq_true c9
          simp +decide only [Nat.reduceAdd, Nat.reduceMul, Int.reduceToNat, ak, e10]
          by_cases c11 : a0_3 ≥ a0_2
          · rw [if_pos c11] at h
            have e12 : decide (a0_3 ≥ a0_2) = true := decide_eq_true c11
            simp +decide only [Nat.reduceAdd, Nat.reduceMul, Int.reduceToNat, ak, e12]
            by_cases c13 : a0_3 ≤ 400
            · rw [if_pos c13] at h
              have e14 : decide (a0_3 ≤ 400) = true := decide_eq_true c13
              simp +decide only [Nat.reduceAdd, Nat.reduceMul, Int.reduceToNat, ak, e14]
              by_cases c15 : a0_4 ≥ 1
              · rw [if_pos c15] at h
                have e16 : decide (a0_4 ≥ 1) = true := decide_eq_true c15
                simp +decide only [Nat.reduceAdd, Nat.reduceMul, Int.reduceToNat, ak, e16]
                by_cases c17 : a0_4 ≤ 8
                · rw [if_pos c17] at h
                  have e18 : decide (a0_4 ≤ 8) = true := decide_eq_true c17
                  simp +decide only [Nat.reduceAdd, Nat.reduceMul, Int.reduceToNat, ak, e18]
                  by_cases c19 : a0_5 ≥ 1
                  · rw [if_pos c19] at h
                    have e20 : decide (a0_5 ≥ 1) = true := decide_eq_true c19
                    simp +decide only [Nat.reduceAdd, Nat.reduceMul, Int.reduceToNat, ak, e20]
                    refine hJ2 _ ?_
                    obtain rfl := Option.some.inj h
                    refine hKr _ ⟨_, rfl, [], _, rfl, rfl, ?_⟩
                    first | rfl | (simp only [reduceCtorEq, Nat.reduceEqDiff, ak, akF, e4, e6, e8, e10, e12, e14, e16, e18, e20]; done) | (simp [reduceCtorEq, Nat.reduceEqDiff, ak, akF, e4, e6, e8, e10, e12, e14, e16, e18, e20] <;> omega)
                  · rw [if_neg c19] at h
                    have e21 : decide (a0_5 ≥ 1) = false := decide_eq_false c19
                    simp +decide only [Nat.reduceAdd, Nat.reduceMul, Int.reduceToNat, ak, e21]
                    refine hJ2 _ ?_
                    obtain rfl := Option.some.inj h
                    refine hKr _ ⟨_, rfl, [], _, rfl, rfl, ?_⟩
                    first | rfl | (simp only [reduceCtorEq, Nat.reduceEqDiff, ak, akF, e4, e6, e8, e10, e12, e14, e16, e18, e21]; done) | (simp [reduceCtorEq, Nat.reduceEqDiff, ak, akF, e4, e6, e8, e10, e12, e14, e16, e18, e21] <;> omega)
                · rw [if_neg c17] at h
                  have e22 : decide (a0_4 ≤ 8) = false := decide_eq_false c17
                  simp +decide only [Nat.reduceAdd, Nat.reduceMul, Int.reduceToNat, ak, e22]
                  refine hJ2 _ ?_
                  obtain rfl := Option.some.inj h
                  refine hKr _ ⟨_, rfl, [], _, rfl, rfl, ?_⟩
                  first | rfl | (simp only [reduceCtorEq, Nat.reduceEqDiff, ak, akF, e4, e6, e8, e10, e12, e14, e16, e22]; done) | (simp [reduceCtorEq, Nat.reduceEqDiff, ak, akF, e4, e6, e8, e10, e12, e14, e16, e22] <;> omega)
              · rw [if_neg c15] at h
                have e23 : decide (a0_4 ≥ 1) = false := decide_eq_false c15
                simp +decide only [Nat.reduceAdd, Nat.reduceMul, Int.reduceToNat, ak, e23]
                refine hJ2 _ ?_
                obtain rfl := Option.some.inj h
                refine hKr _ ⟨_, rfl, [], _, rfl, rfl, ?_⟩
                first | rfl | (simp only [reduceCtorEq, Nat.reduceEqDiff, ak, akF, e4, e6, e8, e10, e12, e14, e23]; done) | (simp [reduceCtorEq, Nat.reduceEqDiff, ak, akF, e4, e6, e8, e10, e12, e14, e23] <;> omega)
            · rw [if_neg c13] at h
              have e24 : decide (a0_3 ≤ 400) = false := decide_eq_false c13
              simp +decide only [Nat.reduceAdd, Nat.reduceMul, Int.reduceToNat, ak, e24]
              refine hJ2 _ ?_
              obtain rfl := Option.some.inj h
              refine hKr _ ⟨_, rfl, [], _, rfl, rfl, ?_⟩
              first | rfl | (simp only [reduceCtorEq, Nat.reduceEqDiff, ak, akF, e4, e6, e8, e10, e12, e24]; done) | (simp [reduceCtorEq, Nat.reduceEqDiff, ak, akF, e4, e6, e8, e10, e12, e24] <;> omega)
          · rw [if_neg c11] at h
            have e25 : decide (a0_3 ≥ a0_2) = false := decide_eq_false c11
            simp +decide only [Nat.reduceAdd, Nat.reduceMul, Int.reduceToNat, ak, e25]
            refine hJ2 _ ?_
            obtain rfl := Option.some.inj h
            refine hKr _ ⟨_, rfl, [], _, rfl, rfl, ?_⟩
            first | rfl | (simp only [reduceCtorEq, Nat.reduceEqDiff, ak, akF, e4, e6, e8, e10, e25]; done) | (simp [reduceCtorEq, Nat.reduceEqDiff, ak, akF, e4, e6, e8, e10, e25] <;> omega)
        · rw [if_neg c9] at h
          have e26 : decide (a0_2 ≤ 50) = false := decide_eq_false c9
          simp +decide only [Nat.reduceAdd, Nat.reduceMul, Int.reduceToNat, ak, e26]
          refine hJ2 _ ?_
          obtain rfl := Option.some.inj h
          refine hKr _ ⟨_, rfl, [], _, rfl, rfl, ?_⟩
          first | rfl | (simp only [reduceCtorEq, Nat.reduceEqDiff, ak, akF, e4, e6, e8, e26]; done) | (simp [reduceCtorEq, Nat.reduceEqDiff, ak, akF, e4, e6, e8, e26] <;> omega)
      · rw [if_neg c7] at h
        have e27 : decide (a0_2 ≥ 1) = false := decide_eq_false c7
        simp +decide only [Nat.reduceAdd, Nat.reduceMul, Int.reduceToNat, ak, e27]
        refine hJ2 _ ?_
        obtain rfl := Option.some.inj h
        refine hKr _ ⟨_, rfl, [], _, rfl, rfl, ?_⟩
        first | rfl | (simp only [reduceCtorEq, Nat.reduceEqDiff, ak, akF, e4, e6, e27]; done) | (simp [reduceCtorEq, Nat.reduceEqDiff, ak, akF, e4, e6, e27] <;> omega)
    · rw [if_neg c5] at h
      have e28 : decide (a0_1 ≤ 16) = false := decide_eq_false c5
      simp +decide only [Nat.reduceAdd, Nat.reduceMul, Int.reduceToNat, ak, e28]
      refine hJ2 _ ?_
      obtain rfl := Option.some.inj h
      refine hKr _ ⟨_, rfl, [], _, rfl, rfl, ?_⟩
      first | rfl | (simp only [reduceCtorEq, Nat.reduceEqDiff, ak, akF, e4, e28]; done) | (simp [reduceCtorEq, Nat.reduceEqDiff, ak, akF, e4, e28] <;> omega)
  · rw [if_neg c3] at h
    have e29 : decide (a0_1 ≥ 1) = false := decide_eq_false c3
    simp +decide only [Nat.reduceAdd, Nat.reduceMul, Int.reduceToNat, ak, e29]
    refine hJ2 _ ?_
    obtain rfl := Option.some.inj h
    refine hKr _ ⟨_, rfl, [], _, rfl, rfl, ?_⟩
    first | rfl | (simp only [reduceCtorEq, Nat.reduceEqDiff, ak, akF, e29]; done) | (simp [reduceCtorEq, Nat.reduceEqDiff, ak, akF, e29] <;> omega)
/-! ### impl.newSender: function 132 -/
def C132 : AC := .seq (.reg [.op none (.box 1 (.tmp 0)), .op none (.mv 2 (.const (.pointer none))), .keep [1]]) (.seq (.reg [.op none (.load 3 true 6 (.tmp 1)), .op none (.faddr 4 0 (.tmp 1)), .op none (.load 5 false 1 (.tmp 4)), .op none (.faddr 6 2 (.tmp 1)), .op none (.load 7 false 1 (.tmp 6)), .op none (.build 8 [.int .u32 0, .int .i64 0, .int .i64 0, .int .i64 0, .int .i64 0, .int .i64 0, .int .u32 0, .slice none 0 0, .int .i64 0, .int .i64 0, .int .i64 0, .int .i64 0, .bool false] [(0, 6, .tmp 3), (6, 1, .tmp 5), (9, 1, .tmp 7)]), .gh, .op none (.box 9 (.tmp 8)), .op none (.mv 2 (.tmp 9)), .keep [2]]) (.ret))
def r132 : List RV := [.tmp 2]
theorem k132 : compC Try.prog 10 C132 (Try.f132.body.getD .skip) = some C132.erase := by kernel_rfl
theorem q132 : rvsOf Try.prog Try.f132.results.toList = some r132 := by kernel_rfl
def impl_newSender.f (a0_0 : Int) (a0_1 : Int) (a0_2 : Int) (a0_3 : Int) (a0_4 : Int) (a0_5 : Int) : Option (Int × Int × Int × Int × Int × Int × Int × (List Int) × Int × Int × Int × Int × Bool) := (some (a0_0, a0_1, a0_2, a0_3, a0_4, a0_5, a0_0, ([] : List Int), 0, a0_2, 0, 0, false))
theorem impl_newSender.tri (a0_0 : Int) (a0_1 : Int) (a0_2 : Int) (a0_3 : Int) (a0_4 : Int) (a0_5 : Int) (r : (Int × Int × Int × Int × Int × Int × Int × (List Int) × Int × Int × Int × Int × Bool)) (h : impl_newSender.f a0_0 a0_1 a0_2 a0_3 a0_4 a0_5 = some r) : Tri Try.prog 132 [.g [.sc (.int .u32 a0_0), .sc (.int .i64 a0_1), .sc (.int .i64 a0_2), .sc (.int .i64 a0_3), .sc (.int .i64 a0_4), .sc (.int .i64 a0_5)]] [] (fun o => o = ⟨.c (.ptr (.res 0) [] 0), [(.res 0, ⟨.box, 0, [.sc (.int .u32 r.1), .sc (.int .i64 r.2.1), .sc (.int .i64 r.2.2.1), .sc (.int .i64 r.2.2.2.1), .sc (.int .i64 r.2.2.2.2.1), .sc (.int .i64 r.2.2.2.2.2.1), .sc (.int .u32 r.2.2.2.2.2.2.1), .own 1 r.2.2.2.2.2.2.2.1.length (encL c_i64 r.2.2.2.2.2.2.2.1), .sc (.int .i64 r.2.2.2.2.2.2.2.2.1), .sc (.int .i64 r.2.2.2.2.2.2.2.2.2.1), .sc (.int .i64 r.2.2.2.2.2.2.2.2.2.2.1), .sc (.int .i64 r.2.2.2.2.2.2.2.2.2.2.2.1), .sc (.bool r.2.2.2.2.2.2.2.2.2.2.2.2)]⟩)], [], []⟩) := by
  refine tri_of_body (ac := C132) (xs := r132) Try.func132 (show Try.f132.body = some (Try.f132.body.getD .skip) from rfl) k132 q132 (Nat.le_of_ble_eq_true rfl) ?_
  refine body_of fun K hKn hKr => ?_
  unfold impl_newSender.f at h
  unfold C132
  simp only [initT, Nat.reduceAdd]
  refine sr_k fun J1 hJ1 => ?_
  simp +decide only [Nat.reduceAdd, Nat.reduceMul, Int.reduceToNat, ak]
  refine hJ1 _ ?_
  refine sr_k fun J2 hJ2 => ?_
  simp +decide only [Nat.reduceAdd, Nat.reduceMul, Int.reduceToNat, ak]
  refine gho_k (Weak.nmg' 8 7 (.tmp 8 27) 1 (encL c_i64 ([] : List Int)) rfl rfl rfl rfl) ?_
  have g3 : (encL c_i64 ([] : List Int)).length = 0 * 1 := by simp [encL_length c_i64_w]
  simp +decide only [Nat.reduceAdd, Nat.reduceMul, Int.reduceToNat, ak, g3]
  refine hJ2 _ ?_
  obtain rfl := Option.some.inj h
  refine hKr _ ⟨_, rfl, [⟨(.tmp 9 0), [], none, .box⟩], _, rfl, rfl, ?_⟩
  first | rfl | (simp only [reduceCtorEq, Nat.reduceEqDiff, ak, akF]; done) | (simp [reduceCtorEq, Nat.reduceEqDiff, ak, akF] <;> omega)
/-! ### impl.subAfter: function 87 -/
def C87v1n_l0 : AC := .seq (.reg [.op none (.bin 23 .lss (.tmp 22) (.tmp 21)), .keep [7, 8, 20, 21, 22, 23]]) (.seq (.cond (.tmp 23) (.skip) (.gh (.exit 0))) (.seq (.block 1 (.seq (.reg [.op none (.iaddr 24 3 (.tmp 20) (.tmp 22)), .op none (.load 25 true 3 (.tmp 24)), .op none (.alloc 10 [.int .i64 0, .int .i64 0, .int .u32 0]), .op none (.store 3 (.tmp 10) (.tmp 25)), .keep [7, 8, 10, 20, 21, 22]]) (.seq (.reg [.op none (.mv 11 (.const (.nilIface))), .keep [7, 8, 10, 20, 21, 22]]) (.seq (.seq (.reg [.op none (.faddr 26 0 (.tmp 10)), .op none (.load 27 false 1 (.tmp 26)), .keep [7, 8, 10, 20, 21, 22, 27]]) (.block 2 (.seq (.reg [.op none (.bin 33 .eql (.tmp 27) (.const (.int .i64 1))), .op none (.mv 32 (.tmp 33)), .keep [7, 8, 10, 20, 21, 22, 27, 32]]) (.cond (.tmp 32) (.reg [.op none (.faddr 34 1 (.tmp 10)), .op none (.load 35 false 1 (.tmp 34)), .op none (.build 36 [.int .i64 0] [(0, 1, .tmp 35)]), .op none (.mki 37 219 (.tmp 36)), .op none (.mv 11 (.tmp 37)), .keep [7, 8, 11, 20, 21, 22]]) (.seq (.reg [.op none (.bin 39 .eql (.tmp 27) (.const (.int .i64 2))), .op none (.mv 38 (.tmp 39)), .keep [7, 8, 10, 20, 21, 22, 27, 38]]) (.cond (.tmp 38) (.reg [.op none (.faddr 40 2 (.tmp 10)), .op none (.load 41 false 1 (.tmp 40)), .op none (.build 42 [.int .u32 0] [(0, 1, .tmp 41)]), .op none (.mki 43 221 (.tmp 42)), .op none (.mv 11 (.tmp 43)), .keep [7, 8, 11, 20, 21, 22]]) (.seq (.reg [.op none (.bin 45 .eql (.tmp 27) (.const (.int .i64 3))), .op none (.mv 44 (.tmp 45)), .keep [7, 8, 20, 21, 22, 44]]) (.cond (.tmp 44) (.reg [.op none (.build 46 [] []), .op none (.mki 47 223 (.tmp 46)), .op none (.mv 11 (.tmp 47)), .keep [7, 8, 11, 20, 21, 22]]) (.seq (.reg [.op none (.mv 28 (.tmp 8)), .op none (.build 29 [.int .i64 0, .slice none 0 0, .slice none 0 0, .int .i64 0, .int .i64 0] [(0, 1, .const (.int .i64 1))]), .gh, .op none (.bslice 30 5 [.int .i64 0, .slice none 0 0, .slice none 0 0, .int .i64 0, .int .i64 0] 1 [(0, .tmp 29)]), .gh, .op none (.app 31 5 72 true (.tmp 28) (.tmp 30)), .op none (.mv 8 (.tmp 31)), .keep [7, 8, 20, 21, 22]]) (.exit 1)))))))))) (.reg [.op none (.mv 48 (.tmp 8)), .op none (.mv 49 (.tmp 7)), .op none (.mv 50 (.tmp 11)), .call none (some 51) 133 [.tmp 49, .tmp 50], .op none (.bslice 52 5 [.int .i64 0, .slice none 0 0, .slice none 0 0, .int .i64 0, .int .i64 0] 1 [(0, .tmp 51)]), .gh, .op none (.app 53 5 72 true (.tmp 48) (.tmp 52)), .op none (.mv 8 (.tmp 53)), .keep [7, 8, 20, 21, 22]]))))) (.reg [.op none (.bin 54 .add (.tmp 22) (.const (.int .i64 1))), .op none (.mv 22 (.tmp 54)), .keep [7, 8, 20, 21, 22]])))
def C87v1n : AC := .seq (.reg [.op none (.box 2 (.tmp 0)), .op none (.mv 4 (.const (.pointer none))), .op none (.mv 5 (.const (.slice none 0 0))), .gh, .op none (.mv 6 (.const (.int .i64 0))), .keep [1, 2]]) (.seq (.seq (.reg [.op none (.load 12 true 6 (.tmp 2)), .call none (some 13) 131 [.tmp 12], .op none (.un 14 .not (.tmp 13)), .keep [1, 2, 14]]) (.cond (.tmp 14) (.seq (.reg [.op none (.mv 4 (.const (.pointer none))), .op none (.mv 5 (.const (.slice none 0 0))), .gh, .op none (.mv 6 (.const (.int .i64 17))), .keep [4, 5, 6]]) (.ret)) (.skip))) (.seq (.seq (.reg [.op none (.mv 15 (.tmp 1)), .op none (.len 16 (.tmp 15)), .op none (.bin 17 .gtr (.tmp 16) (.const (.int .i64 4000))), .keep [1, 2, 17]]) (.cond (.tmp 17) (.seq (.reg [.op none (.mv 4 (.const (.pointer none))), .op none (.mv 5 (.const (.slice none 0 0))), .gh, .op none (.mv 6 (.const (.int .i64 5))), .keep [4, 5, 6]]) (.ret)) (.skip))) (.seq (.reg [.op none (.load 18 true 6 (.tmp 2)), .call none (some 19) 132 [.tmp 18], .op none (.mv 7 (.tmp 19)), .keep [1, 7]]) (.seq (.reg [.op none (.mv 8 (.const (.slice none 0 0))), .gh, .keep [1, 7, 8]]) (.seq (.seq (.reg [.op none (.mv 20 (.tmp 1)), .op none (.len 21 (.tmp 20)), .op none (.mv 22 (.const (.int .i64 0))), .keep [7, 8, 20, 21, 22]]) (.block 0 (.gh (.loop (.ga C87v1n_l0))))) (.seq (.reg [.op none (.mv 55 (.tmp 7)), .op none (.mv 56 (.tmp 8)), .op none (.mv 4 (.tmp 55)), .op none (.mv 5 (.tmp 56)), .op none (.mv 6 (.const (.int .i64 0))), .keep [4, 5, 6]]) (.ret)))))))
def r87v1n : List RV := [.tmp 4, .tmp 5, .tmp 6]
theorem k87v1n : compC Try.prog 57 C87v1n (Try.f87.body.getD .skip) = some C87v1n.erase := by kernel_rfl
theorem q87v1n : rvsOf Try.prog Try.f87.results.toList = some r87v1n := by kernel_rfl
def impl_subAfter_v1n.l0 (x0_0 : Int) (x0_1 : Int) (x0_2 : Int) (x0_3 : Int) (x0_4 : Int) (x0_5 : Int) (x0_6 : Int) (x0_7 : Int) (x0_8 : Int) (x0_9 : (List Int)) (x0_10 : Int) (x0_11 : Int) (x0_12 : Int) (x0_13 : Int) (x0_14 : Bool) (x0_15 : (List S66)) : Option Unit := (if x0_1 < x0_0 then none else (some ()))
def impl_subAfter_v1n.f (a0_0 : Int) (a0_1 : Int) (a0_2 : Int) (a0_3 : Int) (a0_4 : Int) (a0_5 : Int) : Option ((Option (Int × Int × Int × Int × Int × Int × Int × (List Int) × Int × Int × Int × Int × Bool)) × (List S66) × Int) := (impl_validSub.f a0_0 a0_1 a0_2 a0_3 a0_4 a0_5 >>= fun t4 => (if (!t4) = true then (some (none, ([] : List S66), 17)) else (impl_newSender.f a0_0 a0_1 a0_2 a0_3 a0_4 a0_5 >>= fun t12 => (impl_subAfter_v1n.l0 0 0 t12.1 t12.2.1 t12.2.2.1 t12.2.2.2.1 t12.2.2.2.2.1 t12.2.2.2.2.2.1 t12.2.2.2.2.2.2.1 t12.2.2.2.2.2.2.2.1 t12.2.2.2.2.2.2.2.2.1 t12.2.2.2.2.2.2.2.2.2.1 t12.2.2.2.2.2.2.2.2.2.2.1 t12.2.2.2.2.2.2.2.2.2.2.2.1 t12.2.2.2.2.2.2.2.2.2.2.2.2 ([] : List S66) >>= fun (y25 : Unit) => (some ((some (t12.1, t12.2.1, t12.2.2.1, t12.2.2.2.1, t12.2.2.2.2.1, t12.2.2.2.2.2.1, t12.2.2.2.2.2.2.1, t12.2.2.2.2.2.2.2.1, t12.2.2.2.2.2.2.2.2.1, t12.2.2.2.2.2.2.2.2.2.1, t12.2.2.2.2.2.2.2.2.2.2.1, t12.2.2.2.2.2.2.2.2.2.2.2.1, t12.2.2.2.2.2.2.2.2.2.2.2.2)), ([] : List S66), 0))))))
def impl_subAfter_v1n.l0_M (x0_0 : Int) (x0_1 : Int) (x0_2 : Int) (x0_3 : Int) (x0_4 : Int) (x0_5 : Int) (x0_6 : Int) (x0_7 : Int) (x0_8 : Int) (x0_9 : (List Int)) (x0_10 : Int) (x0_11 : Int) (x0_12 : Int) (x0_13 : Int) (x0_14 : Bool) (x0_15 : (List S66)) (y : Unit) : Prop := ∀ (K : AE → St → Prop), (K (.exit 0) ⟨[(7, .c (.ptr (.tmp 19 0) [] 0)), (8, .c (.ref (.tmp 8 20) [] 0 x0_15.length))], [(.tmp 19 0, ⟨.box, 0, [.sc (.int .u32 x0_2), .sc (.int .i64 x0_3), .sc (.int .i64 x0_4), .sc (.int .i64 x0_5), .sc (.int .i64 x0_6), .sc (.int .i64 x0_7), .sc (.int .u32 x0_8), .own 1 x0_9.length (encL c_i64 x0_9), .sc (.int .i64 x0_10), .sc (.int .i64 x0_11), .sc (.int .i64 x0_12), .sc (.int .i64 x0_13), .sc (.bool x0_14)]⟩), (.tmp 8 20, ⟨.lst, 5, encL c66 x0_15⟩)], [], []⟩) → loopS Try.prog 57 (.ga C87v1n_l0) K ⟨[(7, .c (.ptr (.tmp 19 0) [] 0)), (8, .c (.ref (.tmp 8 20) [] 0 x0_15.length)), (20, .c (.sc (.slice none 0 0))), (21, .c (.sc (.int .i64 x0_0))), (22, .c (.sc (.int .i64 x0_1)))], [(.tmp 19 0, ⟨.box, 0, [.sc (.int .u32 x0_2), .sc (.int .i64 x0_3), .sc (.int .i64 x0_4), .sc (.int .i64 x0_5), .sc (.int .i64 x0_6), .sc (.int .i64 x0_7), .sc (.int .u32 x0_8), .own 1 x0_9.length (encL c_i64 x0_9), .sc (.int .i64 x0_10), .sc (.int .i64 x0_11), .sc (.int .i64 x0_12), .sc (.int .i64 x0_13), .sc (.bool x0_14)]⟩), (.tmp 8 20, ⟨.lst, 5, encL c66 x0_15⟩)], [], []⟩
theorem impl_subAfter_v1n.l0_walk (x0_0 : Int) (x0_1 : Int) (x0_2 : Int) (x0_3 : Int) (x0_4 : Int) (x0_5 : Int) (x0_6 : Int) (x0_7 : Int) (x0_8 : Int) (x0_9 : (List Int)) (x0_10 : Int) (x0_11 : Int) (x0_12 : Int) (x0_13 : Int) (x0_14 : Bool) (x0_15 : (List S66)) (y : Unit) (h : impl_subAfter_v1n.l0 x0_0 x0_1 x0_2 x0_3 x0_4 x0_5 x0_6 x0_7 x0_8 x0_9 x0_10 x0_11 x0_12 x0_13 x0_14 x0_15 = some y) : impl_subAfter_v1n.l0_M x0_0 x0_1 x0_2 x0_3 x0_4 x0_5 x0_6 x0_7 x0_8 x0_9 x0_10 x0_11 x0_12 x0_13 x0_14 x0_15 y := by
  unfold impl_subAfter_v1n.l0_M
  intro K hx0
  unfold impl_subAfter_v1n.l0 at h
  refine loop_unroll (ga_k fun G0 G0n G0r G0x => ?_)
  unfold C87v1n_l0
  refine sr_k fun J19 hJ19 => ?_
  simp +decide only [Nat.reduceAdd, Nat.reduceMul, Int.reduceToNat, ak]
  refine hJ19 _ ?_
  refine seq_k fun J20 hJ20 => ?_
  refine cond_k (b := decide (x0_1 < x0_0)) rfl (fun c21 => ?_) (fun c21 => ?_)
  · replace c21 := of_decide_eq_true c21; rw [if_pos c21] at h
    refine hJ20 _ ?_
    refine seq_k fun J22 hJ22 => ?_
    refine block_k fun B23 B23n B23x B23r B23j => ?_
    refine sr_k fun J24 hJ24 => ?_
    cases h
  · replace c21 := of_decide_eq_false c21; rw [if_neg c21] at h
    obtain rfl := Option.some.inj h
    refine gh_k (wk [7, 8] [pI (.tmp 19 0) .box, pI (.tmp 8 20) .lst]) ?_
    refine G0x _ _ ?_
    exact hx0
theorem impl_subAfter_v1n.tri0 (a0_0 : Int) (a0_1 : Int) (a0_2 : Int) (a0_3 : Int) (a0_4 : Int) (a0_5 : Int) (r : (Option (Int × Int × Int × Int × Int × Int × Int × (List Int) × Int × Int × Int × Int × Bool)) × (List S66) × Int) (h : impl_subAfter_v1n.f a0_0 a0_1 a0_2 a0_3 a0_4 a0_5 = some r) (hp : r.1 = none) : Tri Try.prog 87 [.g [.sc (.int .u32 a0_0), .sc (.int .i64 a0_1), .sc (.int .i64 a0_2), .sc (.int .i64 a0_3), .sc (.int .i64 a0_4), .sc (.int .i64 a0_5)], .c (.sc (.slice none 0 0))] [] (fun o => o = ⟨.tup [(false, [.sc (.pointer none)]), (false, [.ref (.res 0) [] 0 r.2.1.length]), (false, [.sc (.int .i64 r.2.2)])], [(.res 0, ⟨.lst, 5, encL c66 r.2.1⟩)], [], []⟩) := by
  refine tri_of_body (ac := C87v1n) (xs := r87v1n) Try.func87 (show Try.f87.body = some (Try.f87.body.getD .skip) from rfl) k87v1n q87v1n (Nat.le_of_ble_eq_true rfl) ?_
  refine body_of fun K hKn hKr => ?_
  unfold impl_subAfter_v1n.f at h
  unfold C87v1n
  simp only [initT, Nat.reduceAdd]
  refine sr_k fun J1 hJ1 => ?_
  simp +decide only [Nat.reduceAdd, Nat.reduceMul, Int.reduceToNat, ak]
  refine gho_k (Weak.nm' 5 (.tmp 5 20) 5 (encL c66 ([] : List S66)) rfl rfl rfl) ?_
  simp +decide only [Nat.reduceAdd, Nat.reduceMul, Int.reduceToNat, ak]
  refine hJ1 _ ?_
  refine seq_k fun J2 hJ2 => ?_
  refine sr_k fun J3 hJ3 => ?_
  simp +decide only [Nat.reduceAdd, Nat.reduceMul, Int.reduceToNat, ak]
  obtain ⟨t4, h5, h⟩ := of_bind h
  refine call_m [] (s0 := []) (by intro t ht; cases ht; decide) rfl rfl (by first | rfl | simp only [reduceCtorEq, Nat.reduceEqDiff, ak, akF]) (impl_validSub.tri a0_0 a0_1 a0_2 a0_3 a0_4 a0_5 _ h5) (by first | rfl | simp only [reduceCtorEq, Nat.reduceEqDiff, ak, akF]) (by simp [bkOk2, memK]) (fun hl5 => ?_)
  refine call_st (s4 := [(.tmp 2 0, ⟨.box, 0, [.sc (.int .u32 a0_0), .sc (.int .i64 a0_1), .sc (.int .i64 a0_2), .sc (.int .i64 a0_3), .sc (.int .i64 a0_4), .sc (.int .i64 a0_5)]⟩), (.tmp 5 20, ⟨.lst, 5, encL c66 ([] : List S66)⟩)]) (m1' := []) (m2' := []) (v' := .c (.sc (.bool t4))) (Sto.mapN_killNil _ _) (mrgL_nil' _ _ _) (by rfl) (mapT_killNil _ _) (by rfl) (by rfl) (by first | rfl | simp only [reduceCtorEq, Nat.reduceEqDiff, ak, akF, Nat.zero_add, List.append_nil]) ?_
  simp +decide only [Nat.reduceAdd, Nat.reduceMul, Int.reduceToNat, ak]
  refine hJ3 _ ?_
  refine cond_k (b := !t4) rfl (fun c7 => ?_) (fun c7 => ?_)
  · rw [if_pos c7] at h
    refine sr_k fun J8 hJ8 => ?_
    simp +decide only [Nat.reduceAdd, Nat.reduceMul, Int.reduceToNat, ak]
    refine gho_k ((Weak.drop [.tmp 5 20]).trans (Weak.nm' 5 (.tmp 5 20) 5 (encL c66 ([] : List S66)) rfl rfl rfl)) ?_
    simp +decide only [Nat.reduceAdd, Nat.reduceMul, Int.reduceToNat, ak]
    refine hJ8 _ ?_
    obtain rfl := Option.some.inj h
    refine hKr _ ⟨_, rfl, [⟨(.tmp 5 20), [], none, .lst⟩], _, rfl, rfl, ?_⟩
    first | rfl | (simp only [reduceCtorEq, Nat.reduceEqDiff, ak, akF]; done) | (simp [reduceCtorEq, Nat.reduceEqDiff, ak, akF] <;> omega)
  · rw [if_neg (Bool.eq_false_iff.1 c7)] at h
    refine hJ2 _ ?_
    refine seq_k fun J9 hJ9 => ?_
    refine sr_k fun J10 hJ10 => ?_
    simp +decide only [Nat.reduceAdd, Nat.reduceMul, Int.reduceToNat, ak]
    refine hJ10 _ ?_
    refine cond_k (b := false) rfl (fun hc => ?_) (fun hc => ?_)
    · cases hc
    · refine hJ9 _ ?_
      refine sr_k fun J11 hJ11 => ?_
      simp +decide only [Nat.reduceAdd, Nat.reduceMul, Int.reduceToNat, ak]
      obtain ⟨t12, h13, h⟩ := of_bind h
      refine call_m [] (s0 := []) (by intro t ht; cases ht; decide) rfl rfl (by first | rfl | simp only [reduceCtorEq, Nat.reduceEqDiff, ak, akF]) (impl_newSender.tri a0_0 a0_1 a0_2 a0_3 a0_4 a0_5 _ h13) (by first | rfl | simp only [reduceCtorEq, Nat.reduceEqDiff, ak, akF]) (by simp [bkOk2, memK]) (fun hl13 => ?_)
      refine call_st (s4 := [(.tmp 2 0, ⟨.box, 0, [.sc (.int .u32 a0_0), .sc (.int .i64 a0_1), .sc (.int .i64 a0_2), .sc (.int .i64 a0_3), .sc (.int .i64 a0_4), .sc (.int .i64 a0_5)]⟩), (.tmp 5 20, ⟨.lst, 5, encL c66 ([] : List S66)⟩), (.tmp 19 0, ⟨.box, 0, [.sc (.int .u32 t12.1), .sc (.int .i64 t12.2.1), .sc (.int .i64 t12.2.2.1), .sc (.int .i64 t12.2.2.2.1), .sc (.int .i64 t12.2.2.2.2.1), .sc (.int .i64 t12.2.2.2.2.2.1), .sc (.int .u32 t12.2.2.2.2.2.2.1), .own 1 t12.2.2.2.2.2.2.2.1.length (encL c_i64 t12.2.2.2.2.2.2.2.1), .sc (.int .i64 t12.2.2.2.2.2.2.2.2.1), .sc (.int .i64 t12.2.2.2.2.2.2.2.2.2.1), .sc (.int .i64 t12.2.2.2.2.2.2.2.2.2.2.1), .sc (.int .i64 t12.2.2.2.2.2.2.2.2.2.2.2.1), .sc (.bool t12.2.2.2.2.2.2.2.2.2.2.2.2)]⟩)]) (m1' := []) (m2' := []) (v' := .c (.ptr (.tmp 19 0) [] 0)) (Sto.mapN_killNil _ _) (mrgL_nil' _ _ _) (by rfl) (mapT_killNil _ _) (by rfl) (by rfl) (by first | rfl | simp only [reduceCtorEq, Nat.reduceEqDiff, ak, akF, Nat.zero_add, List.append_nil]) ?_
      simp +decide only [Nat.reduceAdd, Nat.reduceMul, Int.reduceToNat, ak]
      refine hJ11 _ ?_
      refine sr_k fun J15 hJ15 => ?_
      simp +decide only [Nat.reduceAdd, Nat.reduceMul, Int.reduceToNat, ak]
      refine gho_k (Weak.nm' 8 (.tmp 8 20) 5 (encL c66 ([] : List S66)) rfl rfl rfl) ?_
      simp +decide only [Nat.reduceAdd, Nat.reduceMul, Int.reduceToNat, ak]
      refine hJ15 _ ?_
      refine seq_k fun J16 hJ16 => ?_
      refine sr_k fun J17 hJ17 => ?_
      simp +decide only [Nat.reduceAdd, Nat.reduceMul, Int.reduceToNat, ak]
      refine hJ17 _ ?_
      refine block_k fun B18 B18n B18x B18r B18j => ?_
      obtain ⟨y25, h26, h⟩ := of_bind h
      refine gh_k (st' := ⟨[(7, .c (.ptr (.tmp 19 0) [] 0)), (8, .c (.ref (.tmp 8 20) [] 0 (([] : List S66).length))), (20, .c (.sc (.slice none 0 0))), (21, .c (.sc (.int .i64 0))), (22, .c (.sc (.int .i64 0)))], [(.tmp 19 0, ⟨.box, 0, [.sc (.int .u32 t12.1), .sc (.int .i64 t12.2.1), .sc (.int .i64 t12.2.2.1), .sc (.int .i64 t12.2.2.2.1), .sc (.int .i64 t12.2.2.2.2.1), .sc (.int .i64 t12.2.2.2.2.2.1), .sc (.int .u32 t12.2.2.2.2.2.2.1), .own 1 t12.2.2.2.2.2.2.2.1.length (encL c_i64 t12.2.2.2.2.2.2.2.1), .sc (.int .i64 t12.2.2.2.2.2.2.2.2.1), .sc (.int .i64 t12.2.2.2.2.2.2.2.2.2.1), .sc (.int .i64 t12.2.2.2.2.2.2.2.2.2.2.1), .sc (.int .i64 t12.2.2.2.2.2.2.2.2.2.2.2.1), .sc (.bool t12.2.2.2.2.2.2.2.2.2.2.2.2)]⟩), (.tmp 8 20, ⟨.lst, 5, encL c66 ([] : List S66)⟩)], [], []⟩) (wk [7, 8, 20, 21, 22] [pI (.tmp 19 0) .box, pI (.tmp 8 20) .lst] (h := by first | rfl | (simp +decide only [ak, akF]; done) | (simp +decide [ak, akF] <;> omega))) ?_
      rw [e_loop]
      refine impl_subAfter_v1n.l0_walk 0 0 t12.1 t12.2.1 t12.2.2.1 t12.2.2.2.1 t12.2.2.2.2.1 t12.2.2.2.2.2.1 t12.2.2.2.2.2.2.1 t12.2.2.2.2.2.2.2.1 t12.2.2.2.2.2.2.2.2.1 t12.2.2.2.2.2.2.2.2.2.1 t12.2.2.2.2.2.2.2.2.2.2.1 t12.2.2.2.2.2.2.2.2.2.2.2.1 t12.2.2.2.2.2.2.2.2.2.2.2.2 ([] : List S66) _ h26 _ ?_
      refine B18x _ ?_
      refine hJ16 _ ?_
      refine sr_k fun J27 hJ27 => ?_
      simp +decide only [Nat.reduceAdd, Nat.reduceMul, Int.reduceToNat, ak]
      refine hJ27 _ ?_
      obtain rfl := Option.some.inj h
      exact absurd hp (by simp)
theorem impl_subAfter_v1n.tri1 (a0_0 : Int) (a0_1 : Int) (a0_2 : Int) (a0_3 : Int) (a0_4 : Int) (a0_5 : Int) (r : (Option (Int × Int × Int × Int × Int × Int × Int × (List Int) × Int × Int × Int × Int × Bool)) × (List S66) × Int) (h : impl_subAfter_v1n.f a0_0 a0_1 a0_2 a0_3 a0_4 a0_5 = some r) (p : Int × Int × Int × Int × Int × Int × Int × (List Int) × Int × Int × Int × Int × Bool) (hp : r.1 = some p) : Tri Try.prog 87 [.g [.sc (.int .u32 a0_0), .sc (.int .i64 a0_1), .sc (.int .i64 a0_2), .sc (.int .i64 a0_3), .sc (.int .i64 a0_4), .sc (.int .i64 a0_5)], .c (.sc (.slice none 0 0))] [] (fun o => o = ⟨.tup [(false, [.ptr (.res 0) [] 0]), (false, [.ref (.res 1) [] 0 r.2.1.length]), (false, [.sc (.int .i64 r.2.2)])], [(.res 0, ⟨.box, 0, [.sc (.int .u32 p.1), .sc (.int .i64 p.2.1), .sc (.int .i64 p.2.2.1), .sc (.int .i64 p.2.2.2.1), .sc (.int .i64 p.2.2.2.2.1), .sc (.int .i64 p.2.2.2.2.2.1), .sc (.int .u32 p.2.2.2.2.2.2.1), .own 1 p.2.2.2.2.2.2.2.1.length (encL c_i64 p.2.2.2.2.2.2.2.1), .sc (.int .i64 p.2.2.2.2.2.2.2.2.1), .sc (.int .i64 p.2.2.2.2.2.2.2.2.2.1), .sc (.int .i64 p.2.2.2.2.2.2.2.2.2.2.1), .sc (.int .i64 p.2.2.2.2.2.2.2.2.2.2.2.1), .sc (.bool p.2.2.2.2.2.2.2.2.2.2.2.2)]⟩), (.res 1, ⟨.lst, 5, encL c66 r.2.1⟩)], [], []⟩) := by
  refine tri_of_body (ac := C87v1n) (xs := r87v1n) Try.func87 (show Try.f87.body = some (Try.f87.body.getD .skip) from rfl) k87v1n q87v1n (Nat.le_of_ble_eq_true rfl) ?_
  refine body_of fun K hKn hKr => ?_
  unfold impl_subAfter_v1n.f at h
  unfold C87v1n
  simp only [initT, Nat.reduceAdd]
  refine sr_k fun J1 hJ1 => ?_
  simp +decide only [Nat.reduceAdd, Nat.reduceMul, Int.reduceToNat, ak]
  refine gho_k (Weak.nm' 5 (.tmp 5 20) 5 (encL c66 ([] : List S66)) rfl rfl rfl) ?_
  simp +decide only [Nat.reduceAdd, Nat.reduceMul, Int.reduceToNat, ak]
  refine hJ1 _ ?_
  refine seq_k fun J2 hJ2 => ?_
  refine sr_k fun J3 hJ3 => ?_
  simp +decide only [Nat.reduceAdd, Nat.reduceMul, Int.reduceToNat, ak]
  obtain ⟨t4, h5, h⟩ := of_bind h
  refine call_m [] (s0 := []) (by intro t ht; cases ht; decide) rfl rfl (by first | rfl | simp only [reduceCtorEq, Nat.reduceEqDiff, ak, akF]) (impl_validSub.tri a0_0 a0_1 a0_2 a0_3 a0_4 a0_5 _ h5) (by first | rfl | simp only [reduceCtorEq, Nat.reduceEqDiff, ak, akF]) (by simp [bkOk2, memK]) (fun hl5 => ?_)
  refine call_st (s4 := [(.tmp 2 0, ⟨.box, 0, [.sc (.int .u32 a0_0), .sc (.int .i64 a0_1), .sc (.int .i64 a0_2), .sc (.int .i64 a0_3), .sc (.int .i64 a0_4), .sc (.int .i64 a0_5)]⟩), (.tmp 5 20, ⟨.lst, 5, encL c66 ([] : List S66)⟩)]) (m1' := []) (m2' := []) (v' := .c (.sc (.bool t4))) (Sto.mapN_killNil _ _) (mrgL_nil' _ _ _) (by rfl) (mapT_killNil _ _) (by rfl) (by rfl) (by first | rfl | simp only [reduceCtorEq, Nat.reduceEqDiff, ak, akF, Nat.zero_add, List.append_nil]) ?_
  simp +decide only [Nat.reduceAdd, Nat.reduceMul, Int.reduceToNat, ak]
  refine hJ3 _ ?_
  refine cond_k (b := !t4) rfl (fun c7 => ?_) (fun c7 => ?_)
  · rw [if_pos c7] at h
    refine sr_k fun J8 hJ8 => ?_
    simp +decide only [Nat.reduceAdd, Nat.reduceMul, Int.reduceToNat, ak]
    refine gho_k ((Weak.drop [.tmp 5 20]).trans (Weak.nm' 5 (.tmp 5 20) 5 (encL c66 ([] : List S66)) rfl rfl rfl)) ?_
    simp +decide only [Nat.reduceAdd, Nat.reduceMul, Int.reduceToNat, ak]
    refine hJ8 _ ?_
    obtain rfl := Option.some.inj h
    exact absurd hp (by simp)
  · rw [if_neg (Bool.eq_false_iff.1 c7)] at h
    refine hJ2 _ ?_
    refine seq_k fun J9 hJ9 => ?_
    refine sr_k fun J10 hJ10 => ?_
    simp +decide only [Nat.reduceAdd, Nat.reduceMul, Int.reduceToNat, ak]
    refine hJ10 _ ?_
    refine cond_k (b := false) rfl (fun hc => ?_) (fun hc => ?_)
    · cases hc
    · refine hJ9 _ ?_
      refine sr_k fun J11 hJ11 => ?_
      simp +decide only [Nat.reduceAdd, Nat.reduceMul, Int.reduceToNat, ak]
      obtain ⟨t12, h13, h⟩ := of_bind h
      refine call_m [] (s0 := []) (by intro t ht; cases ht; decide) rfl rfl (by first | rfl | simp only [reduceCtorEq, Nat.reduceEqDiff, ak, akF]) (impl_newSender.tri a0_0 a0_1 a0_2 a0_3 a0_4 a0_5 _ h13) (by first | rfl | simp only [reduceCtorEq, Nat.reduceEqDiff, ak, akF]) (by simp [bkOk2, memK]) (fun hl13 => ?_)
      refine call_st (s4 := [(.tmp 2 0, ⟨.box, 0, [.sc (.int .u32 a0_0), .sc (.int .i64 a0_1), .sc (.int .i64 a0_2), .sc (.int .i64 a0_3), .sc (.int .i64 a0_4), .sc (.int .i64 a0_5)]⟩), (.tmp 5 20, ⟨.lst, 5, encL c66 ([] : List S66)⟩), (.tmp 19 0, ⟨.box, 0, [.sc (.int .u32 t12.1), .sc (.int .i64 t12.2.1), .sc (.int .i64 t12.2.2.1), .sc (.int .i64 t12.2.2.2.1), .sc (.int .i64 t12.2.2.2.2.1), .sc (.int .i64 t12.2.2.2.2.2.1), .sc (.int .u32 t12.2.2.2.2.2.2.1), .own 1 t12.2.2.2.2.2.2.2.1.length (encL c_i64 t12.2.2.2.2.2.2.2.1), .sc (.int .i64 t12.2.2.2.2.2.2.2.2.1), .sc (.int .i64 t12.2.2.2.2.2.2.2.2.2.1), .sc (.int .i64 t12.2.2.2.2.2.2.2.2.2.2.1), .sc (.int .i64 t12.2.2.2.2.2.2.2.2.2.2.2.1), .sc (.bool t12.2.2.2.2.2.2.2.2.2.2.2.2)]⟩)]) (m1' := []) (m2' := []) (v' := .c (.ptr (.tmp 19 0) [] 0)) (Sto.mapN_killNil _ _) (mrgL_nil' _ _ _) (by rfl) (mapT_killNil _ _) (by rfl) (by rfl) (by first | rfl | simp only [reduceCtorEq, Nat.reduceEqDiff, ak, akF, Nat.zero_add, List.append_nil]) ?_
      simp +decide only [Nat.reduceAdd, Nat.reduceMul, Int.reduceToNat, ak]
      refine hJ11 _ ?_
      refine sr_k fun J15 hJ15 => ?_
      simp +decide only [Nat.reduceAdd, Nat.reduceMul, Int.reduceToNat, ak]
      refine gho_k (Weak.nm' 8 (.tmp 8 20) 5 (encL c66 ([] : List S66)) rfl rfl rfl) ?_
      simp +decide only [Nat.reduceAdd, Nat.reduceMul, Int.reduceToNat, ak]
      refine hJ15 _ ?_
      refine seq_k fun J16 hJ16 => ?_
      refine sr_k fun J17 hJ17 => ?_
      simp +decide only [Nat.reduceAdd, Nat.reduceMul, Int.reduceToNat, ak]
      refine hJ17 _ ?_
      refine block_k fun B18 B18n B18x B18r B18j => ?_
      obtain ⟨y25, h26, h⟩ := of_bind h
      refine gh_k (st' := ⟨[(7, .c (.ptr (.tmp 19 0) [] 0)), (8, .c (.ref (.tmp 8 20) [] 0 (([] : List S66).length))), (20, .c (.sc (.slice none 0 0))), (21, .c (.sc (.int .i64 0))), (22, .c (.sc (.int .i64 0)))], [(.tmp 19 0, ⟨.box, 0, [.sc (.int .u32 t12.1), .sc (.int .i64 t12.2.1), .sc (.int .i64 t12.2.2.1), .sc (.int .i64 t12.2.2.2.1), .sc (.int .i64 t12.2.2.2.2.1), .sc (.int .i64 t12.2.2.2.2.2.1), .sc (.int .u32 t12.2.2.2.2.2.2.1), .own 1 t12.2.2.2.2.2.2.2.1.length (encL c_i64 t12.2.2.2.2.2.2.2.1), .sc (.int .i64 t12.2.2.2.2.2.2.2.2.1), .sc (.int .i64 t12.2.2.2.2.2.2.2.2.2.1), .sc (.int .i64 t12.2.2.2.2.2.2.2.2.2.2.1), .sc (.int .i64 t12.2.2.2.2.2.2.2.2.2.2.2.1), .sc (.bool t12.2.2.2.2.2.2.2.2.2.2.2.2)]⟩), (.tmp 8 20, ⟨.lst, 5, encL c66 ([] : List S66)⟩)], [], []⟩) (wk [7, 8, 20, 21, 22] [pI (.tmp 19 0) .box, pI (.tmp 8 20) .lst] (h := by first | rfl | (simp +decide only [ak, akF]; done) | (simp +decide [ak, akF] <;> omega))) ?_
      rw [e_loop]
      refine impl_subAfter_v1n.l0_walk 0 0 t12.1 t12.2.1 t12.2.2.1 t12.2.2.2.1 t12.2.2.2.2.1 t12.2.2.2.2.2.1 t12.2.2.2.2.2.2.1 t12.2.2.2.2.2.2.2.1 t12.2.2.2.2.2.2.2.2.1 t12.2.2.2.2.2.2.2.2.2.1 t12.2.2.2.2.2.2.2.2.2.2.1 t12.2.2.2.2.2.2.2.2.2.2.2.1 t12.2.2.2.2.2.2.2.2.2.2.2.2 ([] : List S66) _ h26 _ ?_
      refine B18x _ ?_
      refine hJ16 _ ?_
      refine sr_k fun J27 hJ27 => ?_
      simp +decide only [Nat.reduceAdd, Nat.reduceMul, Int.reduceToNat, ak]
      refine hJ27 _ ?_
      obtain rfl := Option.some.inj h
      obtain rfl := Option.some.inj hp
      refine hKr _ ⟨_, rfl, [⟨(.tmp 19 0), [], none, .box⟩, ⟨(.tmp 8 20), [], none, .lst⟩], _, rfl, rfl, ?_⟩
      first | rfl | (simp only [reduceCtorEq, Nat.reduceEqDiff, ak, akF]; done) | (simp [reduceCtorEq, Nat.reduceEqDiff, ak, akF] <;> omega)
/-! ### impl.SubRun: function 31 -/
def C31v1n : AC := .seq (.reg [.op none (.box 2 (.tmp 0)), .op none (.mv 4 (.const (.slice none 0 0))), .gh, .op none (.mv 5 (.const (.int .i64 0))), .keep [1, 2]]) (.seq (.reg [.op none (.load 10 true 6 (.tmp 2)), .op none (.mv 11 (.tmp 1)), .call none (some 12) 87 [.tmp 10, .tmp 11], .op none (.mv 9 (.tmp 12)), .op none (.extr 13 (.tmp 9) 0), .op none (.extr 14 (.tmp 9) 1), .op none (.extr 15 (.tmp 9) 2), .op none (.mv 6 (.tmp 13)), .op none (.mv 7 (.tmp 14)), .op none (.mv 8 (.tmp 15)), .keep [7, 8]]) (.seq (.reg [.op none (.mv 16 (.tmp 7)), .op none (.mv 17 (.tmp 8)), .op none (.mv 4 (.tmp 16)), .op none (.mv 5 (.tmp 17)), .keep [4, 5]]) (.ret)))
def r31v1n : List RV := [.tmp 4, .tmp 5]
theorem k31v1n : compC Try.prog 18 C31v1n (Try.f31.body.getD .skip) = some C31v1n.erase := by kernel_rfl
theorem q31v1n : rvsOf Try.prog Try.f31.results.toList = some r31v1n := by kernel_rfl
def impl_SubRun_v1n.f (a0_0 : Int) (a0_1 : Int) (a0_2 : Int) (a0_3 : Int) (a0_4 : Int) (a0_5 : Int) : Option ((List S66) × Int) := (impl_subAfter_v1n.f a0_0 a0_1 a0_2 a0_3 a0_4 a0_5 >>= fun t3 => (match t3.1 with | none => (some (t3.2.1, t3.2.2)) | some p7 => (some (t3.2.1, t3.2.2))))
theorem impl_SubRun_v1n.tri (a0_0 : Int) (a0_1 : Int) (a0_2 : Int) (a0_3 : Int) (a0_4 : Int) (a0_5 : Int) (r : (List S66) × Int) (h : impl_SubRun_v1n.f a0_0 a0_1 a0_2 a0_3 a0_4 a0_5 = some r) : Tri Try.prog 31 [.g [.sc (.int .u32 a0_0), .sc (.int .i64 a0_1), .sc (.int .i64 a0_2), .sc (.int .i64 a0_3), .sc (.int .i64 a0_4), .sc (.int .i64 a0_5)], .c (.sc (.slice none 0 0))] [] (fun o => o = ⟨.tup [(false, [.ref (.res 0) [] 0 r.1.length]), (false, [.sc (.int .i64 r.2)])], [(.res 0, ⟨.lst, 5, encL c66 r.1⟩)], [], []⟩) := by
  refine tri_of_body (ac := C31v1n) (xs := r31v1n) Try.func31 (show Try.f31.body = some (Try.f31.body.getD .skip) from rfl) k31v1n q31v1n (Nat.le_of_ble_eq_true rfl) ?_
  refine body_of fun K hKn hKr => ?_
  unfold impl_SubRun_v1n.f at h
  unfold C31v1n
  simp only [initT, Nat.reduceAdd]
  refine sr_k fun J1 hJ1 => ?_
  simp +decide only [Nat.reduceAdd, Nat.reduceMul, Int.reduceToNat, ak]
  refine gho_k (Weak.nm' 4 (.tmp 4 20) 5 (encL c66 ([] : List S66)) rfl rfl rfl) ?_
  simp +decide only [Nat.reduceAdd, Nat.reduceMul, Int.reduceToNat, ak]
  refine hJ1 _ ?_
  refine sr_k fun J2 hJ2 => ?_
  simp +decide only [Nat.reduceAdd, Nat.reduceMul, Int.reduceToNat, ak]
  obtain ⟨t3, h4, h⟩ := of_bind h
  rcases hpo : t3.1 with _ | p7
  · have hpp5 := hpo
    rw [hpo] at h; dsimp only at h
    refine call_m [] (s0 := []) (by intro t ht; cases ht; decide) rfl rfl (by first | rfl | simp only [reduceCtorEq, Nat.reduceEqDiff, ak, akF]) (impl_subAfter_v1n.tri0 a0_0 a0_1 a0_2 a0_3 a0_4 a0_5 _ h4 hpp5) (by first | rfl | simp only [reduceCtorEq, Nat.reduceEqDiff, ak, akF]) (by simp [bkOk2, memK]) (fun hl5 => ?_)
    refine call_st (s4 := [(.tmp 2 0, ⟨.box, 0, [.sc (.int .u32 a0_0), .sc (.int .i64 a0_1), .sc (.int .i64 a0_2), .sc (.int .i64 a0_3), .sc (.int .i64 a0_4), .sc (.int .i64 a0_5)]⟩), (.tmp 4 20, ⟨.lst, 5, encL c66 ([] : List S66)⟩), (.tmp 12 0, ⟨.lst, 5, encL c66 t3.2.1⟩)]) (m1' := []) (m2' := []) (v' := .tup [(false, [.sc (.pointer none)]), (false, [.ref (.tmp 12 0) [] 0 t3.2.1.length]), (false, [.sc (.int .i64 t3.2.2)])]) (Sto.mapN_killNil _ _) (mrgL_nil' _ _ _) (by rfl) (mapT_killNil _ _) (by rfl) (by rfl) (by first | rfl | simp only [reduceCtorEq, Nat.reduceEqDiff, ak, akF, Nat.zero_add, List.append_nil]) ?_
    simp +decide only [Nat.reduceAdd, Nat.reduceMul, Int.reduceToNat, ak]
    refine hJ2 _ ?_
    refine sr_k fun J9 hJ9 => ?_
    simp +decide only [Nat.reduceAdd, Nat.reduceMul, Int.reduceToNat, ak]
    refine hJ9 _ ?_
    obtain rfl := Option.some.inj h
    refine hKr _ ⟨_, rfl, [⟨(.tmp 12 0), [], none, .lst⟩], _, rfl, rfl, ?_⟩
    first | rfl | (simp only [reduceCtorEq, Nat.reduceEqDiff, ak, akF]; done) | (simp [reduceCtorEq, Nat.reduceEqDiff, ak, akF] <;> omega)
  · have hpp7 := hpo
    rw [hpo] at h; dsimp only at h
    refine call_m [] (s0 := []) (by intro t ht; cases ht; decide) rfl rfl (by first | rfl | simp only [reduceCtorEq, Nat.reduceEqDiff, ak, akF]) (impl_subAfter_v1n.tri1 a0_0 a0_1 a0_2 a0_3 a0_4 a0_5 _ h4 _ hpp7) (by first | rfl | simp only [reduceCtorEq, Nat.reduceEqDiff, ak, akF]) (by simp [bkOk2, memK]) (fun hl7 => ?_)
    refine call_st (s4 := [(.tmp 2 0, ⟨.box, 0, [.sc (.int .u32 a0_0), .sc (.int .i64 a0_1), .sc (.int .i64 a0_2), .sc (.int .i64 a0_3), .sc (.int .i64 a0_4), .sc (.int .i64 a0_5)]⟩), (.tmp 4 20, ⟨.lst, 5, encL c66 ([] : List S66)⟩), (.tmp 12 1, ⟨.lst, 5, encL c66 t3.2.1⟩), (.tmp 12 0, ⟨.box, 0, [.sc (.int .u32 p7.1), .sc (.int .i64 p7.2.1), .sc (.int .i64 p7.2.2.1), .sc (.int .i64 p7.2.2.2.1), .sc (.int .i64 p7.2.2.2.2.1), .sc (.int .i64 p7.2.2.2.2.2.1), .sc (.int .u32 p7.2.2.2.2.2.2.1), .own 1 p7.2.2.2.2.2.2.2.1.length (encL c_i64 p7.2.2.2.2.2.2.2.1), .sc (.int .i64 p7.2.2.2.2.2.2.2.2.1), .sc (.int .i64 p7.2.2.2.2.2.2.2.2.2.1), .sc (.int .i64 p7.2.2.2.2.2.2.2.2.2.2.1), .sc (.int .i64 p7.2.2.2.2.2.2.2.2.2.2.2.1), .sc (.bool p7.2.2.2.2.2.2.2.2.2.2.2.2)]⟩)]) (m1' := []) (m2' := []) (v' := .tup [(false, [.ptr (.tmp 12 0) [] 0]), (false, [.ref (.tmp 12 1) [] 0 t3.2.1.length]), (false, [.sc (.int .i64 t3.2.2)])]) (Sto.mapN_killNil _ _) (mrgL_nil' _ _ _) (by rfl) (mapT_killNil _ _) (by rfl) (by rfl) (by first | rfl | simp only [reduceCtorEq, Nat.reduceEqDiff, ak, akF, Nat.zero_add, List.append_nil]) ?_
    simp +decide only [Nat.reduceAdd, Nat.reduceMul, Int.reduceToNat, ak]
    refine hJ2 _ ?_
    refine sr_k fun J10 hJ10 => ?_
    simp +decide only [Nat.reduceAdd, Nat.reduceMul, Int.reduceToNat, ak]
    refine hJ10 _ ?_
    obtain rfl := Option.some.inj h
    refine hKr _ ⟨_, rfl, [⟨(.tmp 12 1), [], none, .lst⟩], _, rfl, rfl, ?_⟩
    first | rfl | (simp only [reduceCtorEq, Nat.reduceEqDiff, ak, akF]; done) | (simp [reduceCtorEq, Nat.reduceEqDiff, ak, akF] <;> omega)
/-! ### (*impl.sender).next: function 134 -/
def C134 : AC := .seq (.reg [.op none (.mv 2 (.const (.int .u32 0))), .keep [0]]) (.seq (.regD (.first (.op none (.mv 3 (.tmp 0))) (.first (.op none (.nilc 4 (.tmp 3))) (.first (.op none (.faddr 5 6 (.tmp 4))) (.first (.op none (.load 6 false 1 (.tmp 5))) (.first (.op none (.mv 7 (.tmp 0))) (.first (.op none (.nilc 8 (.tmp 7))) (.first (.op none (.faddr 9 7 (.tmp 8))) (.first (.op none (.load 10 false 1 (.tmp 9))) (.first (.op none (.len 11 (.tmp 10))) (.first (.op none (.conv 12 .u32 (.tmp 11))) (.first (.op none (.bin 13 .add (.tmp 6) (.tmp 12))) (.first (.op none (.mv 2 (.tmp 13))) (.done))))))))))))) [2]) (.ret))
def r134 : List RV := [.tmp 2]
theorem k134 : compC Try.prog 14 C134 (Try.f134.body.getD .skip) = some C134.erase := by kernel_rfl
theorem q134 : rvsOf Try.prog Try.f134.results.toList = some r134 := by kernel_rfl
def impl_sender_next.f (a0_0 : Int) (a0_1 : Int) (a0_2 : Int) (a0_3 : Int) (a0_4 : Int) (a0_5 : Int) (a0_6 : Int) (l0_7 : List Int) (a0_8 : Int) (a0_9 : Int) (a0_10 : Int) (a0_11 : Int) (a0_12 : Bool) : Option Int := (some (IntKind.u32.wrap (a0_6 + (IntKind.u32.wrap (l0_7.length : Int)))))
theorem impl_sender_next.tri (a0_0 : Int) (a0_1 : Int) (a0_2 : Int) (a0_3 : Int) (a0_4 : Int) (a0_5 : Int) (a0_6 : Int) (l0_7 : List Int) (a0_8 : Int) (a0_9 : Int) (a0_10 : Int) (a0_11 : Int) (a0_12 : Bool) (r : Int) (h : impl_sender_next.f a0_0 a0_1 a0_2 a0_3 a0_4 a0_5 a0_6 l0_7 a0_8 a0_9 a0_10 a0_11 a0_12 = some r) : Tri Try.prog 134 [.c (.ptr (.arg 0) [] 0)] [(.arg 0, ⟨.box, 0, [.sc (.int .u32 a0_0), .sc (.int .i64 a0_1), .sc (.int .i64 a0_2), .sc (.int .i64 a0_3), .sc (.int .i64 a0_4), .sc (.int .i64 a0_5), .sc (.int .u32 a0_6), .own 1 l0_7.length (encL c_i64 l0_7), .sc (.int .i64 a0_8), .sc (.int .i64 a0_9), .sc (.int .i64 a0_10), .sc (.int .i64 a0_11), .sc (.bool a0_12)]⟩)] (fun o => o = ⟨.c (.sc (.int .u32 r)), [(.arg 0, ⟨.box, 0, [.sc (.int .u32 a0_0), .sc (.int .i64 a0_1), .sc (.int .i64 a0_2), .sc (.int .i64 a0_3), .sc (.int .i64 a0_4), .sc (.int .i64 a0_5), .sc (.int .u32 a0_6), .own 1 l0_7.length (encL c_i64 l0_7), .sc (.int .i64 a0_8), .sc (.int .i64 a0_9), .sc (.int .i64 a0_10), .sc (.int .i64 a0_11), .sc (.bool a0_12)]⟩)], [], []⟩) := by
  refine tri_of_body (ac := C134) (xs := r134) Try.func134 (show Try.f134.body = some (Try.f134.body.getD .skip) from rfl) k134 q134 (Nat.le_of_ble_eq_true rfl) ?_
  refine body_of fun K hKn hKr => ?_
  unfold impl_sender_next.f at h
  unfold C134
  simp only [initT, Nat.reduceAdd]
  refine sr_k fun J1 hJ1 => ?_
  simp +decide only [Nat.reduceAdd, Nat.reduceMul, Int.reduceToNat, ak]
  refine hJ1 _ ?_
  refine sd_k fun J2 hJ2 => ?_
  simp +decide only [Nat.reduceAdd, Nat.reduceMul, Int.reduceToNat, ak]
  refine hJ2 _ ?_
  obtain rfl := Option.some.inj h
  refine hKr _ ⟨_, rfl, [], _, rfl, rfl, ?_⟩
  first | rfl | (simp only [reduceCtorEq, Nat.reduceEqDiff, ak, akF]; done) | (simp [reduceCtorEq, Nat.reduceEqDiff, ak, akF] <;> omega)
/-! ### (impl.sendTag).happen: function 180 -/
def C180 : AC := .seq (.reg [.op none (.box 2 (.tmp 0)), .op none (.alloc 4 [.int .i64 0, .slice none 0 0, .slice none 0 0, .int .i64 0, .int .i64 0]), .gh, .keep [1, 2, 4]]) (.seq (.seq (.reg [.op none (.mv 6 (.tmp 1)), .op none (.nilc 7 (.tmp 6)), .op none (.faddr 8 12 (.tmp 7)), .op none (.load 9 false 1 (.tmp 8)), .keep [1, 2, 4, 9]]) (.cond (.tmp 9) (.seq (.reg [.op none (.build 10 [.int .i64 0, .slice none 0 0, .slice none 0 0, .int .i64 0, .int .i64 0] [(0, 1, .const (.int .i64 10))]), .gh, .op none (.store 5 (.tmp 4) (.tmp 10)), .keep [4]]) (.gh .ret)) (.skip))) (.seq (.seq (.regD (.first (.op none (.mv 11 (.tmp 1))) (.first (.op none (.nilc 12 (.tmp 11))) (.first (.op none (.faddr 13 7 (.tmp 12))) (.first (.op none (.load 14 false 1 (.tmp 13))) (.first (.op none (.len 15 (.tmp 14))) (.first (.op none (.mv 16 (.tmp 1))) (.first (.op none (.nilc 17 (.tmp 16))) (.first (.op none (.faddr 18 0 (.tmp 17))) (.first (.op none (.faddr 19 1 (.tmp 18))) (.first (.op none (.load 20 false 1 (.tmp 19))) (.first (.op none (.bin 21 .geq (.tmp 15) (.tmp 20))) (.done)))))))))))) [1, 2, 4, 21]) (.cond (.tmp 21) (.seq (.reg [.op none (.build 22 [.int .i64 0, .slice none 0 0, .slice none 0 0, .int .i64 0, .int .i64 0] [(0, 1, .const (.int .i64 9))]), .gh, .op none (.store 5 (.tmp 4) (.tmp 22)), .keep [4]]) (.gh .ret)) (.skip))) (.seq (.ga (.regD (.first (.op none (.mv 23 (.tmp 1))) (.first (.op none (.faddr 25 0 (.tmp 2))) (.pin [6, 4] (.op none (.load 26 false 1 (.tmp 25))) (.alt (.call none (some 24) 134 [.tmp 23]) none (.pin [6] (.op none (.build 27 [.int .i64 0, .int .u32 0, .int .i64 0] [(0, 1, .const (.int .i64 1)), (1, 1, .tmp 24), (2, 1, .tmp 26)])) (.alt (.op none (.alloc 5 [.int .i64 0, .int .u32 0, .int .i64 0])) none (.alt (.op none (.store 3 (.tmp 5) (.tmp 27))) (some 6) (.done) (.stop)) (.stop))) (.alt (.op none (.alloc 5 [.int .i64 0, .int .u32 0, .int .i64 0])) none (.alt (.call none (some 24) 134 [.tmp 23]) none (.pin [6] (.op none (.build 27 [.int .i64 0, .int .u32 0, .int .i64 0] [(0, 1, .const (.int .i64 1)), (1, 1, .tmp 24), (2, 1, .tmp 26)])) (.alt (.op none (.store 3 (.tmp 5) (.tmp 27))) (some 6) (.done) (.stop))) (.stop)) (.stop)))))) [1, 2, 4, 5])) (.seq (.regD (.first (.op none (.mv 28 (.tmp 1))) (.first (.op none (.mv 29 (.tmp 1))) (.first (.op none (.nilc 30 (.tmp 29))) (.first (.op none (.faddr 31 7 (.tmp 30))) (.first (.op none (.load 32 false 1 (.tmp 31))) (.first (.op none (.faddr 33 0 (.tmp 2))) (.first (.op none (.load 34 false 1 (.tmp 33))) (.alt (.op none (.bslice 35 1 [.int .i64 0] 1 [(0, .tmp 34)])) none (.alt (.op none (.app 36 1 8 false (.tmp 32) (.tmp 35))) none (.first (.op none (.nilc 37 (.tmp 28))) (.first (.op none (.faddr 38 7 (.tmp 37))) (.alt (.op none (.store 1 (.tmp 38) (.tmp 36))) none (.done) (.stop)))) (.stop)) (.stop))))))))) [1, 4, 5]) (.seq (.ga (.seq (.reg [.op none (.mv 39 (.tmp 1)), .op none (.nilc 40 (.tmp 39)), .op none (.faddr 41 8 (.tmp 40)), .op none (.load 42 false 1 (.tmp 41)), .op none (.bin 43 .eql (.tmp 42) (.const (.int .i64 0))), .keep [1, 4, 5, 43]]) (.cond (.tmp 43) (.reg [.op none (.mv 44 (.tmp 1)), .op none (.mv 45 (.tmp 1)), .op none (.nilc 46 (.tmp 45)), .op none (.faddr 47 9 (.tmp 46)), .op none (.load 48 false 1 (.tmp 47)), .op none (.nilc 49 (.tmp 44)), .op none (.faddr 50 8 (.tmp 49)), .op none (.store 1 (.tmp 50) (.tmp 48)), .keep [4, 5]]) (.skip)))) (.seq (.reg [.op none (.load 51 true 3 (.tmp 5)), .op none (.bslice 52 3 [.int .i64 0, .int .u32 0, .int .i64 0] 1 [(0, .tmp 51)]), .op none (.build 53 [.int .i64 0, .slice none 0 0, .slice none 0 0, .int .i64 0, .int .i64 0] [(1, 1, .tmp 52)]), .gh, .op none (.store 5 (.tmp 4) (.tmp 53)), .keep [4]]) (.gh .ret)))))))
def r180 : List RV := [.cell 4 true 5]
theorem k180 : compC Try.prog 54 C180 (Try.f180.body.getD .skip) = some C180.erase := by kernel_rfl
theorem q180 : rvsOf Try.prog Try.f180.results.toList = some r180 := by kernel_rfl
def impl_sendTag_happen.f (a0_0 : Int) (a1_0 : Int) (a1_1 : Int) (a1_2 : Int) (a1_3 : Int) (a1_4 : Int) (a1_5 : Int) (a1_6 : Int) (l1_7 : List Int) (a1_8 : Int) (a1_9 : Int) (a1_10 : Int) (a1_11 : Int) (a1_12 : Bool) : Option (Int × (List S68) × (List Int) × Int × Int × (List Int) × Int) := (if a1_12 = true then (some (10, ([] : List S68), ([] : List Int), 0, 0, l1_7, a1_8)) else (if (l1_7.length : Int) ≥ a1_1 then (some (9, ([] : List S68), ([] : List Int), 0, 0, l1_7, a1_8)) else ((impl_sender_next.f a1_0 a1_1 a1_2 a1_3 a1_4 a1_5 a1_6 l1_7 a1_8 a1_9 a1_10 a1_11 a1_12 >>= fun t18 => (some t18)) >>= fun (j14 : Int) => (if (l1_7.length + 1) * 8 ≤ 140737488355328 then ((if a1_8 = 0 then (some a1_9) else (some a1_8)) >>= fun (j60 : Int) => (some (0, ([(⟨1, j14, a0_0⟩ : S68)] : List S68), ([] : List Int), 0, 0, (l1_7 ++ ([a0_0] : List Int)), j60))) else none))))
theorem impl_sendTag_happen.tri (a0_0 : Int) (a1_0 : Int) (a1_1 : Int) (a1_2 : Int) (a1_3 : Int) (a1_4 : Int) (a1_5 : Int) (a1_6 : Int) (l1_7 : List Int) (a1_8 : Int) (a1_9 : Int) (a1_10 : Int) (a1_11 : Int) (a1_12 : Bool) (r : Int × (List S68) × (List Int) × Int × Int × (List Int) × Int) (h : impl_sendTag_happen.f a0_0 a1_0 a1_1 a1_2 a1_3 a1_4 a1_5 a1_6 l1_7 a1_8 a1_9 a1_10 a1_11 a1_12 = some r) : Tri Try.prog 180 [.g [.sc (.int .i64 a0_0)], .c (.ptr (.arg 0) [] 0)] [(.arg 0, ⟨.box, 0, [.sc (.int .u32 a1_0), .sc (.int .i64 a1_1), .sc (.int .i64 a1_2), .sc (.int .i64 a1_3), .sc (.int .i64 a1_4), .sc (.int .i64 a1_5), .sc (.int .u32 a1_6), .own 1 l1_7.length (encL c_i64 l1_7), .sc (.int .i64 a1_8), .sc (.int .i64 a1_9), .sc (.int .i64 a1_10), .sc (.int .i64 a1_11), .sc (.bool a1_12)]⟩)] (fun o => o = ⟨.g [.sc (.int .i64 r.1), .ref (.res 0) [] 0 r.2.1.length, .ref (.res 1) [] 0 r.2.2.1.length, .sc (.int .i64 r.2.2.2.1), .sc (.int .i64 r.2.2.2.2.1)], [(.arg 0, ⟨.box, 0, [.sc (.int .u32 a1_0), .sc (.int .i64 a1_1), .sc (.int .i64 a1_2), .sc (.int .i64 a1_3), .sc (.int .i64 a1_4), .sc (.int .i64 a1_5), .sc (.int .u32 a1_6), .own 1 r.2.2.2.2.2.1.length (encL c_i64 r.2.2.2.2.2.1), .sc (.int .i64 r.2.2.2.2.2.2), .sc (.int .i64 a1_9), .sc (.int .i64 a1_10), .sc (.int .i64 a1_11), .sc (.bool a1_12)]⟩), (.res 0, ⟨.lst, 3, encL c68 r.2.1⟩), (.res 1, ⟨.lst, 1, encL c_i64 r.2.2.1⟩)], [0], []⟩) := by
  refine tri_of_body (ac := C180) (xs := r180) Try.func180 (show Try.f180.body = some (Try.f180.body.getD .skip) from rfl) k180 q180 (Nat.le_of_ble_eq_true rfl) ?_
  refine body_of fun K hKn hKr => ?_
  unfold impl_sendTag_happen.f at h
  unfold C180
  simp only [initT, Nat.reduceAdd]
  refine sr_k fun J1 hJ1 => ?_
  simp +decide only [Nat.reduceAdd, Nat.reduceMul, Int.reduceToNat, ak]
  refine gho_k (Weak.own (.tmp 4 0) (cs' := [.sc (.int .i64 0), .own 3 (([] : List S68).length) (encL c68 ([] : List S68)), .own 1 (([] : List Int).length) (encL c_i64 ([] : List Int)), .sc (.int .i64 0), .sc (.int .i64 0)]) rfl ⟨.inl rfl, .inr ⟨rfl, _, rfl⟩, .inr ⟨rfl, _, rfl⟩, .inl rfl, .inl rfl, trivial⟩) ?_
  simp +decide only [Nat.reduceAdd, Nat.reduceMul, Int.reduceToNat, ak]
  refine hJ1 _ ?_
  refine seq_k fun J2 hJ2 => ?_
  refine sr_k fun J3 hJ3 => ?_
  simp +decide only [Nat.reduceAdd, Nat.reduceMul, Int.reduceToNat, ak]
  refine hJ3 _ ?_
  refine cond_k (b := a1_12) rfl (fun c4 => ?_) (fun c4 => ?_)
  · rw [if_pos c4] at h
    refine sr_k fun J5 hJ5 => ?_
    simp +decide only [Nat.reduceAdd, Nat.reduceMul, Int.reduceToNat, ak]
    refine gho_k ((Weak.nmg' 10 1 (.tmp 10 21) 3 (encL c68 ([] : List S68)) rfl rfl rfl rfl).trans (Weak.nmg' 10 2 (.tmp 10 22) 1 (encL c_i64 ([] : List Int)) rfl rfl rfl rfl)) ?_
    have g6 : (encL c68 ([] : List S68)).length = 0 * 3 := by simp [encL_length c68_w]
    have g7 : (encL c_i64 ([] : List Int)).length = 0 * 1 := by simp [encL_length c_i64_w]
    simp +decide only [Nat.reduceAdd, Nat.reduceMul, Int.reduceToNat, ak, g6, g7]
    refine hJ5 _ ?_
    refine gh_k (Weak.mark [0] [] (by simp) (by simp)) ?_
    obtain rfl := Option.some.inj h
    refine hKr _ ⟨_, rfl, [⟨(.tmp 4 0), [1], none, .lst⟩, ⟨(.tmp 4 0), [2], none, .lst⟩], _, rfl, rfl, ?_⟩
    first | rfl | (simp only [reduceCtorEq, Nat.reduceEqDiff, ak, akF]; done) | (simp [reduceCtorEq, Nat.reduceEqDiff, ak, akF] <;> omega)
  · rw [if_neg (Bool.eq_false_iff.1 c4)] at h
    refine hJ2 _ ?_
    refine seq_k fun J8 hJ8 => ?_
    refine sd_k fun J9 hJ9 => ?_
    simp +decide only [Nat.reduceAdd, Nat.reduceMul, Int.reduceToNat, ak]
    refine hJ9 _ ?_
    refine cond_k (b := decide ((l1_7.length : Int) ≥ a1_1)) rfl (fun c10 => ?_) (fun c10 => ?_)
    · replace c10 := of_decide_eq_true c10; rw [if_pos c10] at h
      refine sr_k fun J11 hJ11 => ?_
      simp +decide only [Nat.reduceAdd, Nat.reduceMul, Int.reduceToNat, ak]
      refine gho_k ((Weak.nmg' 22 1 (.tmp 22 21) 3 (encL c68 ([] : List S68)) rfl rfl rfl rfl).trans (Weak.nmg' 22 2 (.tmp 22 22) 1 (encL c_i64 ([] : List Int)) rfl rfl rfl rfl)) ?_
      have g12 : (encL c68 ([] : List S68)).length = 0 * 3 := by simp [encL_length c68_w]
      have g13 : (encL c_i64 ([] : List Int)).length = 0 * 1 := by simp [encL_length c_i64_w]
      simp +decide only [Nat.reduceAdd, Nat.reduceMul, Int.reduceToNat, ak, g12, g13]
      refine hJ11 _ ?_
      refine gh_k (Weak.mark [0] [] (by simp) (by simp)) ?_
      obtain rfl := Option.some.inj h
      refine hKr _ ⟨_, rfl, [⟨(.tmp 4 0), [1], none, .lst⟩, ⟨(.tmp 4 0), [2], none, .lst⟩], _, rfl, rfl, ?_⟩
      first | rfl | (simp only [reduceCtorEq, Nat.reduceEqDiff, ak, akF]; done) | (simp [reduceCtorEq, Nat.reduceEqDiff, ak, akF] <;> omega)
    · replace c10 := of_decide_eq_false c10; rw [if_neg c10] at h
      refine hJ8 _ ?_
      obtain ⟨j14, h15, hn⟩ := of_bind h
      refine seq_j (fun st => st = ⟨[(1, .c (.ptr (.arg 0) [] 0)), (2, .c (.ptr (.tmp 2 0) [] 0)), (4, .c (.ptr (.tmp 4 0) [] 0)), (5, .c (.ptr (.tmp 5 0) [] 0))], [(.arg 0, ⟨.box, 0, [.sc (.int .u32 a1_0), .sc (.int .i64 a1_1), .sc (.int .i64 a1_2), .sc (.int .i64 a1_3), .sc (.int .i64 a1_4), .sc (.int .i64 a1_5), .sc (.int .u32 a1_6), .own 1 l1_7.length (encL c_i64 l1_7), .sc (.int .i64 a1_8), .sc (.int .i64 a1_9), .sc (.int .i64 a1_10), .sc (.int .i64 a1_11), .sc (.bool a1_12)]⟩), (.tmp 2 0, ⟨.box, 0, [.sc (.int .i64 a0_0)]⟩), (.tmp 4 0, ⟨.box, 0, [.sc (.int .i64 0), .own 3 (([] : List S68).length) (encL c68 ([] : List S68)), .own 1 (([] : List Int).length) (encL c_i64 ([] : List Int)), .sc (.int .i64 0), .sc (.int .i64 0)]⟩), (.tmp 5 0, ⟨.box, 0, [.sc (.int .i64 1), .sc (.int .u32 j14), .sc (.int .i64 a0_0)]⟩)], [], []⟩) (fun J16 hJ16 => ?_) ?_
      · replace h := h15; clear hn
        refine ga_k fun G17 G17n G17r G17x => ?_
        refine regD_k ?_
        simp +decide only [Nat.reduceAdd, Nat.reduceMul, Int.reduceToNat, ak]
        obtain ⟨t18, h19, h⟩ := of_bind h
        refine alt_k ?_ (alt_e ?_)
        · simp +decide only [Nat.reduceAdd, Nat.reduceMul, Int.reduceToNat, ak]
          refine call_m [(.arg 0, ⟨(.arg 0), [], none, .box⟩)] (s0 := [(.arg 0, ⟨.box, 0, [.sc (.int .u32 a1_0), .sc (.int .i64 a1_1), .sc (.int .i64 a1_2), .sc (.int .i64 a1_3), .sc (.int .i64 a1_4), .sc (.int .i64 a1_5), .sc (.int .u32 a1_6), .own 1 l1_7.length (encL c_i64 l1_7), .sc (.int .i64 a1_8), .sc (.int .i64 a1_9), .sc (.int .i64 a1_10), .sc (.int .i64 a1_11), .sc (.bool a1_12)]⟩)]) (by intro t ht; cases ht; decide) rfl rfl (by first | rfl | simp only [reduceCtorEq, Nat.reduceEqDiff, ak, akF]) (impl_sender_next.tri a1_0 a1_1 a1_2 a1_3 a1_4 a1_5 a1_6 l1_7 a1_8 a1_9 a1_10 a1_11 a1_12 _ h19) (by first | rfl | simp only [reduceCtorEq, Nat.reduceEqDiff, ak, akF]) (by simp [bkOk2, memK]) (fun hl20 => ?_)
          refine call_st (s4 := [(.arg 0, ⟨.box, 0, [.sc (.int .u32 a1_0), .sc (.int .i64 a1_1), .sc (.int .i64 a1_2), .sc (.int .i64 a1_3), .sc (.int .i64 a1_4), .sc (.int .i64 a1_5), .sc (.int .u32 a1_6), .own 1 l1_7.length (encL c_i64 l1_7), .sc (.int .i64 a1_8), .sc (.int .i64 a1_9), .sc (.int .i64 a1_10), .sc (.int .i64 a1_11), .sc (.bool a1_12)]⟩), (.tmp 2 0, ⟨.box, 0, [.sc (.int .i64 a0_0)]⟩), (.tmp 4 0, ⟨.box, 0, [.sc (.int .i64 0), .own 3 (([] : List S68).length) (encL c68 ([] : List S68)), .own 1 (([] : List Int).length) (encL c_i64 ([] : List Int)), .sc (.int .i64 0), .sc (.int .i64 0)]⟩)]) (m1' := []) (m2' := []) (v' := .c (.sc (.int .u32 t18))) (Sto.mapN_killNil _ _) (mrgL_whole (new' := [.sc (.int .u32 a1_0), .sc (.int .i64 a1_1), .sc (.int .i64 a1_2), .sc (.int .i64 a1_3), .sc (.int .i64 a1_4), .sc (.int .i64 a1_5), .sc (.int .u32 a1_6), .own 1 l1_7.length (encL c_i64 l1_7), .sc (.int .i64 a1_8), .sc (.int .i64 a1_9), .sc (.int .i64 a1_10), .sc (.int .i64 a1_11), .sc (.bool a1_12)]) (mrgL_nil' _ _ _) rfl (by rfl) (.inl ⟨rfl, by first | rfl | simp only [reduceCtorEq, Nat.reduceEqDiff, ak, akF, Nat.zero_add, List.append_nil]⟩)) (by rfl) (mapT_killNil _ _) (by rfl) (by rfl) (by first | rfl | simp only [reduceCtorEq, Nat.reduceEqDiff, ak, akF, Nat.zero_add, List.append_nil]) ?_
          simp +decide only [Nat.reduceAdd, Nat.reduceMul, Int.reduceToNat, ak]
          refine alt_e ?_
          · simp +decide only [Nat.reduceAdd, Nat.reduceMul, Int.reduceToNat, ak]
            refine alt_e ?_
            · simp +decide only [Nat.reduceAdd, Nat.reduceMul, Int.reduceToNat, ak]
              obtain rfl := Option.some.inj h
              refine G17n _ _ (wk [1, 2, 4, 5] [pI (.arg 0) .box, pI (.tmp 2 0) .box, pI (.tmp 4 0) .box, pI (.tmp 5 0) .box]) (hJ16 _ rfl)
        · simp +decide only [Nat.reduceAdd, Nat.reduceMul, Int.reduceToNat, ak]
          refine alt_e ?_
          · simp +decide only [Nat.reduceAdd, Nat.reduceMul, Int.reduceToNat, ak]
            refine call_m [(.arg 0, ⟨(.arg 0), [], none, .box⟩)] (s0 := [(.arg 0, ⟨.box, 0, [.sc (.int .u32 a1_0), .sc (.int .i64 a1_1), .sc (.int .i64 a1_2), .sc (.int .i64 a1_3), .sc (.int .i64 a1_4), .sc (.int .i64 a1_5), .sc (.int .u32 a1_6), .own 1 l1_7.length (encL c_i64 l1_7), .sc (.int .i64 a1_8), .sc (.int .i64 a1_9), .sc (.int .i64 a1_10), .sc (.int .i64 a1_11), .sc (.bool a1_12)]⟩)]) (by intro t ht; cases ht; decide) rfl rfl (by first | rfl | simp only [reduceCtorEq, Nat.reduceEqDiff, ak, akF]) (impl_sender_next.tri a1_0 a1_1 a1_2 a1_3 a1_4 a1_5 a1_6 l1_7 a1_8 a1_9 a1_10 a1_11 a1_12 _ h19) (by first | rfl | simp only [reduceCtorEq, Nat.reduceEqDiff, ak, akF]) (by simp [bkOk2, memK]) (fun hl22 => ?_)
            refine call_st (s4 := [(.arg 0, ⟨.box, 0, [.sc (.int .u32 a1_0), .sc (.int .i64 a1_1), .sc (.int .i64 a1_2), .sc (.int .i64 a1_3), .sc (.int .i64 a1_4), .sc (.int .i64 a1_5), .sc (.int .u32 a1_6), .own 1 l1_7.length (encL c_i64 l1_7), .sc (.int .i64 a1_8), .sc (.int .i64 a1_9), .sc (.int .i64 a1_10), .sc (.int .i64 a1_11), .sc (.bool a1_12)]⟩), (.tmp 2 0, ⟨.box, 0, [.sc (.int .i64 a0_0)]⟩), (.tmp 4 0, ⟨.box, 0, [.sc (.int .i64 0), .own 3 (([] : List S68).length) (encL c68 ([] : List S68)), .own 1 (([] : List Int).length) (encL c_i64 ([] : List Int)), .sc (.int .i64 0), .sc (.int .i64 0)]⟩), (.tmp 5 0, ⟨.box, 0, [.sc (.int .i64 0), .sc (.int .u32 0), .sc (.int .i64 0)]⟩)]) (m1' := []) (m2' := []) (v' := .c (.sc (.int .u32 t18))) (Sto.mapN_killNil _ _) (mrgL_whole (new' := [.sc (.int .u32 a1_0), .sc (.int .i64 a1_1), .sc (.int .i64 a1_2), .sc (.int .i64 a1_3), .sc (.int .i64 a1_4), .sc (.int .i64 a1_5), .sc (.int .u32 a1_6), .own 1 l1_7.length (encL c_i64 l1_7), .sc (.int .i64 a1_8), .sc (.int .i64 a1_9), .sc (.int .i64 a1_10), .sc (.int .i64 a1_11), .sc (.bool a1_12)]) (mrgL_nil' _ _ _) rfl (by rfl) (.inl ⟨rfl, by first | rfl | simp only [reduceCtorEq, Nat.reduceEqDiff, ak, akF, Nat.zero_add, List.append_nil]⟩)) (by rfl) (mapT_killNil _ _) (by rfl) (by rfl) (by first | rfl | simp only [reduceCtorEq, Nat.reduceEqDiff, ak, akF, Nat.zero_add, List.append_nil]) ?_
            simp +decide only [Nat.reduceAdd, Nat.reduceMul, Int.reduceToNat, ak]
            refine alt_e ?_
            · simp +decide only [Nat.reduceAdd, Nat.reduceMul, Int.reduceToNat, ak]
              obtain rfl := Option.some.inj h
              refine G17n _ _ (wk [1, 2, 4, 5] [pI (.arg 0) .box, pI (.tmp 2 0) .box, pI (.tmp 4 0) .box, pI (.tmp 5 0) .box]) (hJ16 _ rfl)
      · replace h := hn; clear hn h15
        rintro _ rfl
        refine sd_k fun J24 hJ24 => ?_
        simp +decide only [Nat.reduceAdd, Nat.reduceMul, Int.reduceToNat, ak]
        obtain ⟨b30, h⟩ := of_guard h
        refine alt_e ?_
        · have g43 : (List.replicate 1 ([.int .i64 0] : List Value)).flatten = [.int .i64 0] := rfl
          have g44 : (⟨.lst, 1, [.sc (.int .i64 a0_0)]⟩ : Root) = ⟨.lst, 1, encL c_i64 ([a0_0] : List Int)⟩ := rfl
          have g45 : ([a0_0] : List Int).length = 1 := rfl
          simp +decide only [Nat.reduceAdd, Nat.reduceMul, Int.reduceToNat, ak, g43, g44, g45]
          refine alt_e ?_
          · have g53 : (encL c_i64 ([a0_0] : List Int)).take 1 = encL c_i64 ([a0_0] : List Int) := by simpa using (Vw.whole c_i64_w ([a0_0] : List Int)).all
            have g54 : (encL c_i64 ([a0_0] : List Int)).all isSc = true := encL_all (fun _ => rfl) _
            have g55 : appLim l1_7.length 1 8 := ⟨b30, by have := b30; omega⟩
            have g56 : (encL c_i64 l1_7).length = l1_7.length * 1 := by simp [encL_length c_i64_w]
            have g57 : encL c_i64 l1_7 ++ encL c_i64 ([a0_0] : List Int) = encL c_i64 (l1_7 ++ ([a0_0] : List Int)) := (encL_append _ _).symm
            simp +decide only [Nat.reduceAdd, Nat.reduceMul, Int.reduceToNat, ak, g53, g54, g55, g56, g57]
            refine alt_e ?_
            · have g59 : (encL c_i64 (l1_7 ++ ([a0_0] : List Int))).length = (l1_7.length + 1) * 1 := by simp [encL_length c_i64_w]
              simp +decide only [Nat.reduceAdd, Nat.reduceMul, Int.reduceToNat, ak, g59]
              refine hJ24 _ ?_
              obtain ⟨j60, h61, hn⟩ := of_bind h
              refine seq_j (fun st => st = ⟨[(4, .c (.ptr (.tmp 4 0) [] 0)), (5, .c (.ptr (.tmp 5 0) [] 0))], [(.arg 0, ⟨.box, 0, [.sc (.int .u32 a1_0), .sc (.int .i64 a1_1), .sc (.int .i64 a1_2), .sc (.int .i64 a1_3), .sc (.int .i64 a1_4), .sc (.int .i64 a1_5), .sc (.int .u32 a1_6), .own 1 (l1_7.length + 1) (encL c_i64 (l1_7 ++ ([a0_0] : List Int))), .sc (.int .i64 j60), .sc (.int .i64 a1_9), .sc (.int .i64 a1_10), .sc (.int .i64 a1_11), .sc (.bool a1_12)]⟩), (.tmp 4 0, ⟨.box, 0, [.sc (.int .i64 0), .own 3 (([] : List S68).length) (encL c68 ([] : List S68)), .own 1 (([] : List Int).length) (encL c_i64 ([] : List Int)), .sc (.int .i64 0), .sc (.int .i64 0)]⟩), (.tmp 5 0, ⟨.box, 0, [.sc (.int .i64 1), .sc (.int .u32 j14), .sc (.int .i64 a0_0)]⟩)], [0], []⟩) (fun J62 hJ62 => ?_) ?_
              · replace h := h61; clear hn
                refine ga_k fun G63 G63n G63r G63x => ?_
                refine sr_k fun J64 hJ64 => ?_
                simp +decide only [Nat.reduceAdd, Nat.reduceMul, Int.reduceToNat, ak]
                refine hJ64 _ ?_
                refine cond_k (b := decide (a1_8 = 0)) rfl (fun c65 => ?_) (fun c65 => ?_)
                · replace c65 := of_decide_eq_true c65; rw [if_pos c65] at h
                  refine reg_k ?_
                  simp +decide only [Nat.reduceAdd, Nat.reduceMul, Int.reduceToNat, ak]
                  obtain rfl := Option.some.inj h
                  refine G63n _ _ (wkm [0] [] [4, 5] [pI (.arg 0) .box, pI (.tmp 4 0) .box, pI (.tmp 5 0) .box] (h0 := by first | rfl | simp +decide only [ak, akF, b30]) (h := by first | rfl | (simp +decide only [ak, akF, b30]; done) | (simp +decide [ak, akF, b30] <;> omega))) (hJ62 _ rfl)
                · replace c65 := of_decide_eq_false c65; rw [if_neg c65] at h
                  obtain rfl := Option.some.inj h
                  refine G63n _ _ (wkm [0] [] [4, 5] [pI (.arg 0) .box, pI (.tmp 4 0) .box, pI (.tmp 5 0) .box] (h0 := by first | rfl | simp +decide only [ak, akF, b30]) (h := by first | rfl | (simp +decide only [ak, akF, b30]; done) | (simp +decide [ak, akF, b30] <;> omega))) (hJ62 _ rfl)
              · replace h := hn; clear hn h61
                rintro _ rfl
                refine sr_k fun J66 hJ66 => ?_
                have g67 : (List.replicate 1 ([.int .i64 0, .int .u32 0, .int .i64 0] : List Value)).flatten = [.int .i64 0, .int .u32 0, .int .i64 0] := rfl
                have g68 : (⟨.lst, 3, [.sc (.int .i64 1), .sc (.int .u32 j14), .sc (.int .i64 a0_0)]⟩ : Root) = ⟨.lst, 3, encL c68 ([(⟨1, j14, a0_0⟩ : S68)] : List S68)⟩ := rfl
                have g69 : ([(⟨1, j14, a0_0⟩ : S68)] : List S68).length = 1 := rfl
                simp +decide only [Nat.reduceAdd, Nat.reduceMul, Int.reduceToNat, ak, g67, g68, g69]
                refine gho_k (Weak.nmg' 53 2 (.tmp 53 22) 1 (encL c_i64 ([] : List Int)) rfl rfl rfl rfl) ?_
                have g70 : (encL c68 ([(⟨1, j14, a0_0⟩ : S68)] : List S68)).length = 1 * 3 := by simp [encL_length c68_w]
                have g71 : (encL c_i64 ([] : List Int)).length = 0 * 1 := by simp [encL_length c_i64_w]
                simp +decide only [Nat.reduceAdd, Nat.reduceMul, Int.reduceToNat, ak, g70, g71]
                refine hJ66 _ ?_
                refine gh_k (Weak.mark [0] [] (by simp) (by simp)) ?_
                obtain rfl := Option.some.inj h
                refine hKr _ ⟨_, rfl, [⟨(.tmp 4 0), [1], none, .lst⟩, ⟨(.tmp 4 0), [2], none, .lst⟩], _, rfl, rfl, ?_⟩
                first | rfl | (simp only [reduceCtorEq, Nat.reduceEqDiff, ak, akF, b30]; done) | (simp [reduceCtorEq, Nat.reduceEqDiff, ak, akF, b30] <;> omega)
/-! ### (*impl.sender).act: function 133 -/
def C133v1i219 : AC := .seq (.reg [.op none (.alloc 4 [.int .i64 0, .slice none 0 0, .slice none 0 0, .int .i64 0, .int .i64 0]), .gh, .keep [0, 1, 4]]) (.seq (.reg [.op none (.mv 5 (.tmp 1)), .op none (.mv 6 (.tmp 0)), .callv none (some 7) (.invoke (.tmp 5) "loop.example/s03010/impl.happen") [.tmp 6], .op none (.store 5 (.tmp 4) (.tmp 7)), .keep [4]]) (.gh .ret))
def r133v1i219 : List RV := [.cell 4 true 5]
theorem k133v1i219 : compC Try.prog 8 C133v1i219 (Try.f133.body.getD .skip) = some C133v1i219.erase := by kernel_rfl
theorem q133v1i219 : rvsOf Try.prog Try.f133.results.toList = some r133v1i219 := by kernel_rfl
def impl_sender_act_v1i219.f (a0_0 : Int) (a0_1 : Int) (a0_2 : Int) (a0_3 : Int) (a0_4 : Int) (a0_5 : Int) (a0_6 : Int) (l0_7 : List Int) (a0_8 : Int) (a0_9 : Int) (a0_10 : Int) (a0_11 : Int) (a0_12 : Bool) (a1_0 : Int) : Option (Int × (List S68) × (List Int) × Int × Int × (List Int) × Int) := (impl_sendTag_happen.f a1_0 a0_0 a0_1 a0_2 a0_3 a0_4 a0_5 a0_6 l0_7 a0_8 a0_9 a0_10 a0_11 a0_12 >>= fun t3 => (some (t3.1, t3.2.1, t3.2.2.1, t3.2.2.2.1, t3.2.2.2.2.1, t3.2.2.2.2.2.1, t3.2.2.2.2.2.2)))
theorem impl_sender_act_v1i219.tri (a0_0 : Int) (a0_1 : Int) (a0_2 : Int) (a0_3 : Int) (a0_4 : Int) (a0_5 : Int) (a0_6 : Int) (l0_7 : List Int) (a0_8 : Int) (a0_9 : Int) (a0_10 : Int) (a0_11 : Int) (a0_12 : Bool) (a1_0 : Int) (r : Int × (List S68) × (List Int) × Int × Int × (List Int) × Int) (h : impl_sender_act_v1i219.f a0_0 a0_1 a0_2 a0_3 a0_4 a0_5 a0_6 l0_7 a0_8 a0_9 a0_10 a0_11 a0_12 a1_0 = some r) : Tri Try.prog 133 [.c (.ptr (.arg 0) [] 0), .c (.sc (.iface 219 (.agg #[.int .i64 a1_0])))] [(.arg 0, ⟨.box, 0, [.sc (.int .u32 a0_0), .sc (.int .i64 a0_1), .sc (.int .i64 a0_2), .sc (.int .i64 a0_3), .sc (.int .i64 a0_4), .sc (.int .i64 a0_5), .sc (.int .u32 a0_6), .own 1 l0_7.length (encL c_i64 l0_7), .sc (.int .i64 a0_8), .sc (.int .i64 a0_9), .sc (.int .i64 a0_10), .sc (.int .i64 a0_11), .sc (.bool a0_12)]⟩)] (fun o => o = ⟨.g [.sc (.int .i64 r.1), .ref (.res 0) [] 0 r.2.1.length, .ref (.res 1) [] 0 r.2.2.1.length, .sc (.int .i64 r.2.2.2.1), .sc (.int .i64 r.2.2.2.2.1)], [(.arg 0, ⟨.box, 0, [.sc (.int .u32 a0_0), .sc (.int .i64 a0_1), .sc (.int .i64 a0_2), .sc (.int .i64 a0_3), .sc (.int .i64 a0_4), .sc (.int .i64 a0_5), .sc (.int .u32 a0_6), .own 1 r.2.2.2.2.2.1.length (encL c_i64 r.2.2.2.2.2.1), .sc (.int .i64 r.2.2.2.2.2.2), .sc (.int .i64 a0_9), .sc (.int .i64 a0_10), .sc (.int .i64 a0_11), .sc (.bool a0_12)]⟩), (.res 0, ⟨.lst, 3, encL c68 r.2.1⟩), (.res 1, ⟨.lst, 1, encL c_i64 r.2.2.1⟩)], [0], []⟩) := by
  refine tri_of_body (ac := C133v1i219) (xs := r133v1i219) Try.func133 (show Try.f133.body = some (Try.f133.body.getD .skip) from rfl) k133v1i219 q133v1i219 (Nat.le_of_ble_eq_true rfl) ?_
  refine body_of fun K hKn hKr => ?_
  unfold impl_sender_act_v1i219.f at h
  unfold C133v1i219
  simp only [initT, Nat.reduceAdd]
  refine sr_k fun J1 hJ1 => ?_
  simp +decide only [Nat.reduceAdd, Nat.reduceMul, Int.reduceToNat, ak]
  refine gho_k (Weak.own (.tmp 4 0) (cs' := [.sc (.int .i64 0), .own 3 (([] : List S68).length) (encL c68 ([] : List S68)), .own 1 (([] : List Int).length) (encL c_i64 ([] : List Int)), .sc (.int .i64 0), .sc (.int .i64 0)]) rfl ⟨.inl rfl, .inr ⟨rfl, _, rfl⟩, .inr ⟨rfl, _, rfl⟩, .inl rfl, .inl rfl, trivial⟩) ?_
  simp +decide only [Nat.reduceAdd, Nat.reduceMul, Int.reduceToNat, ak]
  refine hJ1 _ ?_
  refine sr_k fun J2 hJ2 => ?_
  simp +decide only [Nat.reduceAdd, Nat.reduceMul, Int.reduceToNat, ak]
  obtain ⟨t3, h4, h⟩ := of_bind h
  refine callv_iface (f := 180) (fn := Try.f180) (t := 219) (v := (.agg #[.int .i64 a1_0])) (recv := (.agg #[.int .i64 a1_0])) rfl (fun w => by kernel_rfl) Try.func180 (by kernel_rfl) (by decide) ?_
  refine call_m [(.arg 0, ⟨(.arg 0), [], none, .box⟩)] (s0 := [(.arg 0, ⟨.box, 0, [.sc (.int .u32 a0_0), .sc (.int .i64 a0_1), .sc (.int .i64 a0_2), .sc (.int .i64 a0_3), .sc (.int .i64 a0_4), .sc (.int .i64 a0_5), .sc (.int .u32 a0_6), .own 1 l0_7.length (encL c_i64 l0_7), .sc (.int .i64 a0_8), .sc (.int .i64 a0_9), .sc (.int .i64 a0_10), .sc (.int .i64 a0_11), .sc (.bool a0_12)]⟩)]) (by intro t ht; cases ht; decide) rfl rfl (by first | rfl | simp only [reduceCtorEq, Nat.reduceEqDiff, ak, akF]) (impl_sendTag_happen.tri a1_0 a0_0 a0_1 a0_2 a0_3 a0_4 a0_5 a0_6 l0_7 a0_8 a0_9 a0_10 a0_11 a0_12 _ h4) (by first | rfl | simp only [reduceCtorEq, Nat.reduceEqDiff, ak, akF]) (by simp [bkOk2, memK]) (fun hl4 => ?_)
  refine call_st (s2 := [(.arg 0, ⟨.box, 0, [.sc (.int .u32 a0_0), .sc (.int .i64 a0_1), .sc (.int .i64 a0_2), .sc (.int .i64 a0_3), .sc (.int .i64 a0_4), .sc (.int .i64 a0_5), .sc (.int .u32 a0_6), .own 1 l0_7.length (encL c_i64 l0_7), .sc (.int .i64 a0_8), .sc (.int .i64 a0_9), .sc (.int .i64 a0_10), .sc (.int .i64 a0_11), .sc (.bool a0_12)]⟩), (.tmp 4 0, ⟨.box, 0, [.sc (.int .i64 0), .own 3 (([] : List S68).length) (encL c68 ([] : List S68)), .own 1 (([] : List Int).length) (encL c_i64 ([] : List Int)), .sc (.int .i64 0), .sc (.int .i64 0)]⟩)]) (s4 := [(.arg 0, ⟨.box, 0, [.sc (.int .u32 a0_0), .sc (.int .i64 a0_1), .sc (.int .i64 a0_2), .sc (.int .i64 a0_3), .sc (.int .i64 a0_4), .sc (.int .i64 a0_5), .sc (.int .u32 a0_6), .own 1 t3.2.2.2.2.2.1.length (encL c_i64 t3.2.2.2.2.2.1), .sc (.int .i64 t3.2.2.2.2.2.2), .sc (.int .i64 a0_9), .sc (.int .i64 a0_10), .sc (.int .i64 a0_11), .sc (.bool a0_12)]⟩), (.tmp 4 0, ⟨.box, 0, [.sc (.int .i64 0), .own 3 (([] : List S68).length) (encL c68 ([] : List S68)), .own 1 (([] : List Int).length) (encL c_i64 ([] : List Int)), .sc (.int .i64 0), .sc (.int .i64 0)]⟩), (.tmp 7 1, ⟨.lst, 1, encL c_i64 t3.2.2.1⟩), (.tmp 7 0, ⟨.lst, 3, encL c68 t3.2.1⟩)]) (t' := [(0, .c (.ptr (.arg 0) [] 0)), (1, .c (.sc (.iface 219 (.agg #[.int .i64 a1_0])))), (4, .c (.ptr (.tmp 4 0) [] 0)), (5, .c (.sc (.iface 219 (.agg #[.int .i64 a1_0])))), (6, .c (.ptr (.arg 0) [] 0))]) (m1' := [0]) (m2' := []) (v' := .g [.sc (.int .i64 t3.1), .ref (.tmp 7 0) [] 0 t3.2.1.length, .ref (.tmp 7 1) [] 0 t3.2.2.1.length, .sc (.int .i64 t3.2.2.2.1), .sc (.int .i64 t3.2.2.2.2.1)]) (by first | rfl | simp only [reduceCtorEq, Nat.reduceEqDiff, ak, akF, List.contains_nil, List.contains_cons, Nat.reduceBEq]) (mrgL_whole (new' := [.sc (.int .u32 a0_0), .sc (.int .i64 a0_1), .sc (.int .i64 a0_2), .sc (.int .i64 a0_3), .sc (.int .i64 a0_4), .sc (.int .i64 a0_5), .sc (.int .u32 a0_6), .own 1 t3.2.2.2.2.2.1.length (encL c_i64 t3.2.2.2.2.2.1), .sc (.int .i64 t3.2.2.2.2.2.2), .sc (.int .i64 a0_9), .sc (.int .i64 a0_10), .sc (.int .i64 a0_11), .sc (.bool a0_12)]) (mrgL_nil' _ _ _) rfl (by rfl) (.inl ⟨rfl, by first | rfl | simp only [reduceCtorEq, Nat.reduceEqDiff, ak, akF, Nat.zero_add, List.append_nil]⟩)) (by rfl) (by first | rfl | simp only [reduceCtorEq, Nat.reduceEqDiff, ak, akF, List.contains_nil, List.contains_cons, Nat.reduceBEq]) (by rfl) (by rfl) (by first | rfl | simp only [reduceCtorEq, Nat.reduceEqDiff, ak, akF, Nat.zero_add, List.append_nil]) ?_
  have g6 : (encL c68 t3.2.1).length = t3.2.1.length * 3 := by simp [encL_length c68_w]
  have g7 : (encL c_i64 t3.2.2.1).length = t3.2.2.1.length * 1 := by simp [encL_length c_i64_w]
  simp +decide only [Nat.reduceAdd, Nat.reduceMul, Int.reduceToNat, ak, g6, g7]
  refine hJ2 _ ?_
  refine gh_k (Weak.mark [0] [] (by simp) (by simp)) ?_
  obtain rfl := Option.some.inj h
  refine hKr _ ⟨_, rfl, [⟨(.tmp 4 0), [1], none, .lst⟩, ⟨(.tmp 4 0), [2], none, .lst⟩], _, rfl, rfl, ?_⟩
  first | rfl | (simp only [reduceCtorEq, Nat.reduceEqDiff, ak, akF]; done) | (simp [reduceCtorEq, Nat.reduceEqDiff, ak, akF] <;> omega)
/-! ### (*impl.sender).calm: function 179 -/
def C179 : AC := .seq (.reg [.op none (.mv 2 (.tmp 0)), .op none (.mv 3 (.tmp 0)), .op none (.nilc 4 (.tmp 3)), .op none (.faddr 5 0 (.tmp 4)), .op none (.faddr 6 2 (.tmp 5)), .op none (.load 7 false 1 (.tmp 6)), .op none (.nilc 8 (.tmp 2)), .op none (.faddr 9 9 (.tmp 8)), .op none (.store 1 (.tmp 9) (.tmp 7)), .keep [0]]) (.seq (.reg [.op none (.mv 10 (.tmp 0)), .op none (.nilc 11 (.tmp 10)), .op none (.faddr 12 10 (.tmp 11)), .op none (.store 1 (.tmp 12) (.const (.int .i64 0))), .keep [0]]) (.seq (.reg [.op none (.mv 13 (.tmp 0)), .op none (.nilc 14 (.tmp 13)), .op none (.faddr 15 8 (.tmp 14)), .op none (.store 1 (.tmp 15) (.const (.int .i64 0))), .keep [0]]) (.seq (.reg [.op none (.mv 16 (.tmp 0)), .op none (.nilc 17 (.tmp 16)), .op none (.faddr 18 7 (.tmp 17)), .op none (.load 19 false 1 (.tmp 18)), .op none (.len 20 (.tmp 19)), .op none (.bin 21 .gtr (.tmp 20) (.const (.int .i64 0))), .keep [0, 21]]) (.cond (.tmp 21) (.reg [.op none (.mv 22 (.tmp 0)), .op none (.mv 23 (.tmp 0)), .op none (.nilc 24 (.tmp 23)), .op none (.faddr 25 9 (.tmp 24)), .op none (.load 26 false 1 (.tmp 25)), .op none (.nilc 27 (.tmp 22)), .op none (.faddr 28 8 (.tmp 27)), .op none (.store 1 (.tmp 28) (.tmp 26)), .keep []]) (.skip)))))
def r179 : List RV := []
theorem k179 : compC Try.prog 29 C179 (Try.f179.body.getD .skip) = some C179.erase := by kernel_rfl
theorem q179 : rvsOf Try.prog Try.f179.results.toList = some r179 := by kernel_rfl
def impl_sender_calm.f (a0_0 : Int) (a0_1 : Int) (a0_2 : Int) (a0_3 : Int) (a0_4 : Int) (a0_5 : Int) (a0_6 : Int) (l0_7 : List Int) (a0_8 : Int) (a0_9 : Int) (a0_10 : Int) (a0_11 : Int) (a0_12 : Bool) : Option (Int × Int × Int) := (if (l0_7.length : Int) > 0 then (some (a0_2, a0_2, 0)) else (some (0, a0_2, 0)))
theorem impl_sender_calm.tri (a0_0 : Int) (a0_1 : Int) (a0_2 : Int) (a0_3 : Int) (a0_4 : Int) (a0_5 : Int) (a0_6 : Int) (l0_7 : List Int) (a0_8 : Int) (a0_9 : Int) (a0_10 : Int) (a0_11 : Int) (a0_12 : Bool) (r : Int × Int × Int) (h : impl_sender_calm.f a0_0 a0_1 a0_2 a0_3 a0_4 a0_5 a0_6 l0_7 a0_8 a0_9 a0_10 a0_11 a0_12 = some r) : Tri Try.prog 179 [.c (.ptr (.arg 0) [] 0)] [(.arg 0, ⟨.box, 0, [.sc (.int .u32 a0_0), .sc (.int .i64 a0_1), .sc (.int .i64 a0_2), .sc (.int .i64 a0_3), .sc (.int .i64 a0_4), .sc (.int .i64 a0_5), .sc (.int .u32 a0_6), .own 1 l0_7.length (encL c_i64 l0_7), .sc (.int .i64 a0_8), .sc (.int .i64 a0_9), .sc (.int .i64 a0_10), .sc (.int .i64 a0_11), .sc (.bool a0_12)]⟩)] (fun o => o = ⟨.tup [], [(.arg 0, ⟨.box, 0, [.sc (.int .u32 a0_0), .sc (.int .i64 a0_1), .sc (.int .i64 a0_2), .sc (.int .i64 a0_3), .sc (.int .i64 a0_4), .sc (.int .i64 a0_5), .sc (.int .u32 a0_6), .own 1 l0_7.length (encL c_i64 l0_7), .sc (.int .i64 r.1), .sc (.int .i64 r.2.1), .sc (.int .i64 r.2.2), .sc (.int .i64 a0_11), .sc (.bool a0_12)]⟩)], [], []⟩) := by
  refine tri_of_body (ac := C179) (xs := r179) Try.func179 (show Try.f179.body = some (Try.f179.body.getD .skip) from rfl) k179 q179 (Nat.le_of_ble_eq_true rfl) ?_
  refine body_of fun K hKn hKr => ?_
  unfold impl_sender_calm.f at h
  unfold C179
  simp only [initT, Nat.reduceAdd]
  refine sr_k fun J1 hJ1 => ?_
  simp +decide only [Nat.reduceAdd, Nat.reduceMul, Int.reduceToNat, ak]
  refine hJ1 _ ?_
  refine sr_k fun J2 hJ2 => ?_
  simp +decide only [Nat.reduceAdd, Nat.reduceMul, Int.reduceToNat, ak]
  refine hJ2 _ ?_
  refine sr_k fun J3 hJ3 => ?_
  simp +decide only [Nat.reduceAdd, Nat.reduceMul, Int.reduceToNat, ak]
  refine hJ3 _ ?_
  refine sr_k fun J4 hJ4 => ?_
  simp +decide only [Nat.reduceAdd, Nat.reduceMul, Int.reduceToNat, ak]
  refine hJ4 _ ?_
  refine cond_k (b := decide ((l0_7.length : Int) > 0)) rfl (fun c5 => ?_) (fun c5 => ?_)
  · replace c5 := of_decide_eq_true c5; rw [if_pos c5] at h
    refine reg_k ?_
    simp +decide only [Nat.reduceAdd, Nat.reduceMul, Int.reduceToNat, ak]
    obtain rfl := Option.some.inj h
    refine hKn _ ⟨_, rfl, [], _, rfl, rfl, ?_⟩
    first | rfl | (simp only [reduceCtorEq, Nat.reduceEqDiff, ak, akF]; done) | (simp [reduceCtorEq, Nat.reduceEqDiff, ak, akF] <;> omega)
  · replace c5 := of_decide_eq_false c5; rw [if_neg c5] at h
    obtain rfl := Option.some.inj h
    refine hKn _ ⟨_, rfl, [], _, rfl, rfl, ?_⟩
    first | rfl | (simp only [reduceCtorEq, Nat.reduceEqDiff, ak, akF]; done) | (simp [reduceCtorEq, Nat.reduceEqDiff, ak, akF] <;> omega)
/-! ### (*impl.sender).again: function 182 -/
def C182_l0 : AC := .seq (.reg [.op none (.bin 12 .lss (.tmp 11) (.tmp 10)), .keep [0, 3, 9, 10, 11, 12]]) (.seq (.cond (.tmp 12) (.skip) (.gh (.exit 0))) (.seq (.block 1 (.seq (.reg [.op none (.mv 13 (.tmp 11)), .op none (.iaddr 14 1 (.tmp 9) (.tmp 11)), .op none (.load 15 false 1 (.tmp 14)), .op none (.mv 4 (.tmp 13)), .op none (.mv 5 (.tmp 15)), .keep [0, 3, 4, 5, 9, 10, 11]]) (.reg [.op none (.mv 16 (.tmp 3)), .op none (.mv 17 (.tmp 0)), .op none (.nilc 18 (.tmp 17)), .op none (.faddr 19 6 (.tmp 18)), .op none (.load 20 false 1 (.tmp 19)), .op none (.mv 21 (.tmp 4)), .op none (.conv 22 .u32 (.tmp 21)), .op none (.bin 23 .add (.tmp 20) (.tmp 22)), .op none (.mv 24 (.tmp 5)), .op none (.build 25 [.int .i64 0, .int .u32 0, .int .i64 0] [(0, 1, .const (.int .i64 2)), (1, 1, .tmp 23), (2, 1, .tmp 24)]), .op none (.bslice 26 3 [.int .i64 0, .int .u32 0, .int .i64 0] 1 [(0, .tmp 25)]), .op none (.app 27 3 24 true (.tmp 16) (.tmp 26)), .op none (.mv 3 (.tmp 27)), .keep [0, 3, 9, 10, 11]]))) (.reg [.op none (.bin 28 .add (.tmp 11) (.const (.int .i64 1))), .op none (.mv 11 (.tmp 28)), .keep [0, 3, 9, 10, 11]])))
def C182 : AC := .seq (.reg [.op none (.mv 2 (.const (.slice none 0 0))), .gh, .keep [0]]) (.seq (.reg [.op none (.mv 3 (.const (.slice none 0 0))), .gh, .keep [0, 3]]) (.seq (.seq (.reg [.op none (.mv 6 (.tmp 0)), .op none (.nilc 7 (.tmp 6)), .op none (.faddr 8 7 (.tmp 7)), .op none (.load 9 false 1 (.tmp 8)), .op none (.len 10 (.tmp 9)), .op none (.mv 11 (.const (.int .i64 0))), .keep [0, 3, 9, 10, 11]]) (.block 0 (.gh (.loop (.ga C182_l0))))) (.seq (.reg [.op none (.mv 29 (.tmp 3)), .op none (.mv 2 (.tmp 29)), .keep [2]]) (.ret))))
def r182 : List RV := [.tmp 2]
theorem k182 : compC Try.prog 30 C182 (Try.f182.body.getD .skip) = some C182.erase := by kernel_rfl
theorem q182 : rvsOf Try.prog Try.f182.results.toList = some r182 := by kernel_rfl
def impl_sender_again.l0 (x0_0 : Int) (x0_2 : Int) (x0_3 : Int) (x0_4 : Int) (x0_5 : Int) (x0_6 : Int) (x0_7 : Int) (x0_8 : Int) (x0_9 : (List Int)) (x0_10 : Int) (x0_11 : Int) (x0_12 : Int) (x0_13 : Int) (x0_14 : Bool) (x0_1 : Int) (x0_15 : (List S68)) : Option (List S68) := (if x0_1 < x0_0 then (if 0 ≤ x0_1 ∧ x0_1 < (x0_9.length : Int) then (if (x0_15.length + 1) * 24 ≤ 140737488355328 then (impl_sender_again.l0 x0_0 x0_2 x0_3 x0_4 x0_5 x0_6 x0_7 x0_8 x0_9 x0_10 x0_11 x0_12 x0_13 x0_14 (IntKind.i64.wrap (x0_1 + 1)) (x0_15 ++ ([(⟨2, IntKind.u32.wrap (x0_8 + (IntKind.u32.wrap x0_1)), (rd 0 x0_9 x0_1)⟩ : S68)] : List S68))) else none) else none) else (some x0_15))
  partial_fixpoint
def impl_sender_again.f (a0_0 : Int) (a0_1 : Int) (a0_2 : Int) (a0_3 : Int) (a0_4 : Int) (a0_5 : Int) (a0_6 : Int) (l0_7 : List Int) (a0_8 : Int) (a0_9 : Int) (a0_10 : Int) (a0_11 : Int) (a0_12 : Bool) : Option (List S68) := (impl_sender_again.l0 (l0_7.length : Int) a0_0 a0_1 a0_2 a0_3 a0_4 a0_5 a0_6 l0_7 a0_8 a0_9 a0_10 a0_11 a0_12 0 ([] : List S68) >>= fun (y23 : (List S68)) => (some y23))
def impl_sender_again.l0_M (x0_0 : Int) (x0_2 : Int) (x0_3 : Int) (x0_4 : Int) (x0_5 : Int) (x0_6 : Int) (x0_7 : Int) (x0_8 : Int) (x0_9 : (List Int)) (x0_10 : Int) (x0_11 : Int) (x0_12 : Int) (x0_13 : Int) (x0_14 : Bool) (x0_1 : Int) (x0_15 : (List S68)) (y : (List S68)) : Prop := ∀ (K : AE → St → Prop), (K (.exit 0) ⟨[(3, .c (.ref (.tmp 3 20) [] 0 y.length))], [(.arg 0, ⟨.box, 0, [.sc (.int .u32 x0_2), .sc (.int .i64 x0_3), .sc (.int .i64 x0_4), .sc (.int .i64 x0_5), .sc (.int .i64 x0_6), .sc (.int .i64 x0_7), .sc (.int .u32 x0_8), .own 1 x0_9.length (encL c_i64 x0_9), .sc (.int .i64 x0_10), .sc (.int .i64 x0_11), .sc (.int .i64 x0_12), .sc (.int .i64 x0_13), .sc (.bool x0_14)]⟩), (.tmp 3 20, ⟨.lst, 3, encL c68 y⟩)], [], []⟩) → loopS Try.prog 30 (.ga C182_l0) K ⟨[(0, .c (.ptr (.arg 0) [] 0)), (3, .c (.ref (.tmp 3 20) [] 0 x0_15.length)), (9, .c (.ref (.arg 0) [7] 0 x0_9.length)), (10, .c (.sc (.int .i64 x0_0))), (11, .c (.sc (.int .i64 x0_1)))], [(.arg 0, ⟨.box, 0, [.sc (.int .u32 x0_2), .sc (.int .i64 x0_3), .sc (.int .i64 x0_4), .sc (.int .i64 x0_5), .sc (.int .i64 x0_6), .sc (.int .i64 x0_7), .sc (.int .u32 x0_8), .own 1 x0_9.length (encL c_i64 x0_9), .sc (.int .i64 x0_10), .sc (.int .i64 x0_11), .sc (.int .i64 x0_12), .sc (.int .i64 x0_13), .sc (.bool x0_14)]⟩), (.tmp 3 20, ⟨.lst, 3, encL c68 x0_15⟩)], [], []⟩
theorem impl_sender_again.l0_walk (x0_0 : Int) (x0_2 : Int) (x0_3 : Int) (x0_4 : Int) (x0_5 : Int) (x0_6 : Int) (x0_7 : Int) (x0_8 : Int) (x0_9 : (List Int)) (x0_10 : Int) (x0_11 : Int) (x0_12 : Int) (x0_13 : Int) (x0_14 : Bool) (x0_1 : Int) (x0_15 : (List S68)) (y : (List S68)) (h : impl_sender_again.l0 x0_0 x0_2 x0_3 x0_4 x0_5 x0_6 x0_7 x0_8 x0_9 x0_10 x0_11 x0_12 x0_13 x0_14 x0_1 x0_15 = some y) : impl_sender_again.l0_M x0_0 x0_2 x0_3 x0_4 x0_5 x0_6 x0_7 x0_8 x0_9 x0_10 x0_11 x0_12 x0_13 x0_14 x0_1 x0_15 y := by
  refine impl_sender_again.l0.partial_correctness x0_0 x0_2 x0_3 x0_4 x0_5 x0_6 x0_7 x0_8 x0_9 x0_10 x0_11 x0_12 x0_13 x0_14 (motive := fun x0_1 x0_15 y => impl_sender_again.l0_M x0_0 x0_2 x0_3 x0_4 x0_5 x0_6 x0_7 x0_8 x0_9 x0_10 x0_11 x0_12 x0_13 x0_14 x0_1 x0_15 y) ?_ x0_1 x0_15 y h
  clear h
  unfold impl_sender_again.l0_M
  intro rec ih x0_1 x0_15 y h K hx0
  refine loop_unroll (ga_k fun G0 G0n G0r G0x => ?_)
  unfold C182_l0
  refine sr_k fun J6 hJ6 => ?_
  simp +decide only [Nat.reduceAdd, Nat.reduceMul, Int.reduceToNat, ak]
  refine hJ6 _ ?_
  refine seq_k fun J7 hJ7 => ?_
  refine cond_k (b := decide (x0_1 < x0_0)) rfl (fun c8 => ?_) (fun c8 => ?_)
  · replace c8 := of_decide_eq_true c8; rw [if_pos c8] at h
    refine hJ7 _ ?_
    refine seq_k fun J9 hJ9 => ?_
    refine block_k fun B10 B10n B10x B10r B10j => ?_
    refine sr_k fun J11 hJ11 => ?_
    obtain ⟨b12, h⟩ := of_guard h
    have g13 : (encL c_i64 x0_9)[0 + x0_1.toNat * 1]? = some (.sc (.int .i64 (rd 0 x0_9 x0_1))) := (Vw.whole c_i64_w x0_9).get 0 0 b12.1 b12.2 (by decide)
    simp +decide only [Nat.reduceAdd, Nat.reduceMul, Int.reduceToNat, ak, b12, g13]
    refine hJ11 _ ?_
    refine reg_k ?_
    have g14 : (List.replicate 1 ([.int .i64 0, .int .u32 0, .int .i64 0] : List Value)).flatten = [.int .i64 0, .int .u32 0, .int .i64 0] := rfl
    have g15 : (⟨.lst, 3, [.sc (.int .i64 2), .sc (.int .u32 (IntKind.u32.wrap (x0_8 + (IntKind.u32.wrap x0_1)))), .sc (.int .i64 (rd 0 x0_9 x0_1))]⟩ : Root) = ⟨.lst, 3, encL c68 ([(⟨2, IntKind.u32.wrap (x0_8 + (IntKind.u32.wrap x0_1)), (rd 0 x0_9 x0_1)⟩ : S68)] : List S68)⟩ := rfl
    have g16 : ([(⟨2, IntKind.u32.wrap (x0_8 + (IntKind.u32.wrap x0_1)), (rd 0 x0_9 x0_1)⟩ : S68)] : List S68).length = 1 := rfl
    have g17 : (encL c68 ([(⟨2, IntKind.u32.wrap (x0_8 + (IntKind.u32.wrap x0_1)), (rd 0 x0_9 x0_1)⟩ : S68)] : List S68)).length = 1 * 3 := by simp [encL_length c68_w]
    have g18 : (encL c68 ([(⟨2, IntKind.u32.wrap (x0_8 + (IntKind.u32.wrap x0_1)), (rd 0 x0_9 x0_1)⟩ : S68)] : List S68)).all nd = true := rfl
    obtain ⟨b19, h⟩ := of_guard h
    have g20 : appLim x0_15.length 1 24 := ⟨b19, by have := b19; omega⟩
    have g21 : (encL c68 x0_15).length = x0_15.length * 3 := by simp [encL_length c68_w]
    have g22 : encL c68 x0_15 ++ encL c68 ([(⟨2, IntKind.u32.wrap (x0_8 + (IntKind.u32.wrap x0_1)), (rd 0 x0_9 x0_1)⟩ : S68)] : List S68) = encL c68 (x0_15 ++ ([(⟨2, IntKind.u32.wrap (x0_8 + (IntKind.u32.wrap x0_1)), (rd 0 x0_9 x0_1)⟩ : S68)] : List S68)) := (encL_append _ _).symm
    simp +decide only [Nat.reduceAdd, Nat.reduceMul, Int.reduceToNat, ak, g14, g15, g16, g17, g18, g20, g21, g22]
    refine B10n _ ?_
    refine hJ9 _ ?_
    refine reg_k ?_
    simp +decide only [Nat.reduceAdd, Nat.reduceMul, Int.reduceToNat, ak]
    refine G0n _ _ (wk [0, 3, 9, 10, 11] [pI (.arg 0) .box, pI (.tmp 3 20) .lst] (h0 := by first | rfl | simp +decide only [ak, akF, b12, b19]) (h := by first | rfl | (simp +decide only [ak, akF, b12, b19]; done) | (simp +decide [ak, akF, b12, b19] <;> omega))) (ih _ _ _ h K hx0)
  · replace c8 := of_decide_eq_false c8; rw [if_neg c8] at h
    obtain rfl := Option.some.inj h
    refine gh_k (wk [3] [pI (.arg 0) .box, pI (.tmp 3 20) .lst]) ?_
    refine G0x _ _ ?_
    exact hx0
theorem impl_sender_again.tri (a0_0 : Int) (a0_1 : Int) (a0_2 : Int) (a0_3 : Int) (a0_4 : Int) (a0_5 : Int) (a0_6 : Int) (l0_7 : List Int) (a0_8 : Int) (a0_9 : Int) (a0_10 : Int) (a0_11 : Int) (a0_12 : Bool) (r : (List S68)) (h : impl_sender_again.f a0_0 a0_1 a0_2 a0_3 a0_4 a0_5 a0_6 l0_7 a0_8 a0_9 a0_10 a0_11 a0_12 = some r) : Tri Try.prog 182 [.c (.ptr (.arg 0) [] 0)] [(.arg 0, ⟨.box, 0, [.sc (.int .u32 a0_0), .sc (.int .i64 a0_1), .sc (.int .i64 a0_2), .sc (.int .i64 a0_3), .sc (.int .i64 a0_4), .sc (.int .i64 a0_5), .sc (.int .u32 a0_6), .own 1 l0_7.length (encL c_i64 l0_7), .sc (.int .i64 a0_8), .sc (.int .i64 a0_9), .sc (.int .i64 a0_10), .sc (.int .i64 a0_11), .sc (.bool a0_12)]⟩)] (fun o => o = ⟨.c (.ref (.res 0) [] 0 r.length), [(.arg 0, ⟨.box, 0, [.sc (.int .u32 a0_0), .sc (.int .i64 a0_1), .sc (.int .i64 a0_2), .sc (.int .i64 a0_3), .sc (.int .i64 a0_4), .sc (.int .i64 a0_5), .sc (.int .u32 a0_6), .own 1 l0_7.length (encL c_i64 l0_7), .sc (.int .i64 a0_8), .sc (.int .i64 a0_9), .sc (.int .i64 a0_10), .sc (.int .i64 a0_11), .sc (.bool a0_12)]⟩), (.res 0, ⟨.lst, 3, encL c68 r⟩)], [], []⟩) := by
  refine tri_of_body (ac := C182) (xs := r182) Try.func182 (show Try.f182.body = some (Try.f182.body.getD .skip) from rfl) k182 q182 (Nat.le_of_ble_eq_true rfl) ?_
  refine body_of fun K hKn hKr => ?_
  unfold impl_sender_again.f at h
  unfold C182
  simp only [initT, Nat.reduceAdd]
  refine sr_k fun J1 hJ1 => ?_
  simp +decide only [Nat.reduceAdd, Nat.reduceMul, Int.reduceToNat, ak]
  refine gho_k (Weak.nm' 2 (.tmp 2 20) 3 (encL c68 ([] : List S68)) rfl rfl rfl) ?_
  simp +decide only [Nat.reduceAdd, Nat.reduceMul, Int.reduceToNat, ak]
  refine hJ1 _ ?_
  refine sr_k fun J2 hJ2 => ?_
  simp +decide only [Nat.reduceAdd, Nat.reduceMul, Int.reduceToNat, ak]
  refine gho_k (Weak.nm' 3 (.tmp 3 20) 3 (encL c68 ([] : List S68)) rfl rfl rfl) ?_
  simp +decide only [Nat.reduceAdd, Nat.reduceMul, Int.reduceToNat, ak]
  refine hJ2 _ ?_
  refine seq_k fun J3 hJ3 => ?_
  refine sr_k fun J4 hJ4 => ?_
  simp +decide only [Nat.reduceAdd, Nat.reduceMul, Int.reduceToNat, ak]
  refine hJ4 _ ?_
  refine block_k fun B5 B5n B5x B5r B5j => ?_
  obtain ⟨y23, h24, h⟩ := of_bind h
  refine gh_k (st' := ⟨[(0, .c (.ptr (.arg 0) [] 0)), (3, .c (.ref (.tmp 3 20) [] 0 (([] : List S68).length))), (9, .c (.ref (.arg 0) [7] 0 l0_7.length)), (10, .c (.sc (.int .i64 (l0_7.length : Int)))), (11, .c (.sc (.int .i64 0)))], [(.arg 0, ⟨.box, 0, [.sc (.int .u32 a0_0), .sc (.int .i64 a0_1), .sc (.int .i64 a0_2), .sc (.int .i64 a0_3), .sc (.int .i64 a0_4), .sc (.int .i64 a0_5), .sc (.int .u32 a0_6), .own 1 l0_7.length (encL c_i64 l0_7), .sc (.int .i64 a0_8), .sc (.int .i64 a0_9), .sc (.int .i64 a0_10), .sc (.int .i64 a0_11), .sc (.bool a0_12)]⟩), (.tmp 3 20, ⟨.lst, 3, encL c68 ([] : List S68)⟩)], [], []⟩) (wk [0, 3, 9, 10, 11] [pI (.arg 0) .box, pI (.tmp 3 20) .lst] (h := by first | rfl | (simp +decide only [ak, akF]; done) | (simp +decide [ak, akF] <;> omega))) ?_
  rw [e_loop]
  refine impl_sender_again.l0_walk (l0_7.length : Int) a0_0 a0_1 a0_2 a0_3 a0_4 a0_5 a0_6 l0_7 a0_8 a0_9 a0_10 a0_11 a0_12 0 ([] : List S68) _ h24 _ ?_
  refine B5x _ ?_
  refine hJ3 _ ?_
  refine sr_k fun J25 hJ25 => ?_
  simp +decide only [Nat.reduceAdd, Nat.reduceMul, Int.reduceToNat, ak]
  refine hJ25 _ ?_
  obtain rfl := Option.some.inj h
  refine hKr _ ⟨_, rfl, [⟨(.tmp 3 20), [], none, .lst⟩], _, rfl, rfl, ?_⟩
  first | rfl | (simp only [reduceCtorEq, Nat.reduceEqDiff, ak, akF]; done) | (simp [reduceCtorEq, Nat.reduceEqDiff, ak, akF] <;> omega)
/-! ### (impl.ackSeq).happen: function 181 -/
def C181 : AC := .seq (.reg [.op none (.box 2 (.tmp 0)), .op none (.alloc 4 [.int .i64 0, .slice none 0 0, .slice none 0 0, .int .i64 0, .int .i64 0]), .gh, .keep [1, 2, 4]]) (.seq (.regD (.first (.op none (.faddr 7 0 (.tmp 2))) (.first (.op none (.load 8 false 1 (.tmp 7))) (.first (.op none (.mv 9 (.tmp 1))) (.first (.op none (.nilc 10 (.tmp 9))) (.first (.op none (.faddr 11 6 (.tmp 10))) (.first (.op none (.load 12 false 1 (.tmp 11))) (.first (.op none (.bin 13 .sub (.tmp 8) (.tmp 12))) (.first (.op none (.mv 5 (.tmp 13))) (.done))))))))) [1, 2, 4, 5]) (.seq (.seq (.reg [.op none (.mv 14 (.tmp 5)), .op none (.conv 15 .u64 (.tmp 14)), .op none (.mv 16 (.tmp 1)), .op none (.nilc 17 (.tmp 16)), .op none (.faddr 18 7 (.tmp 17)), .op none (.load 19 false 1 (.tmp 18)), .op none (.len 20 (.tmp 19)), .op none (.conv 21 .u64 (.tmp 20)), .op none (.bin 22 .gtr (.tmp 15) (.tmp 21)), .keep [1, 2, 4, 5, 22]]) (.cond (.tmp 22) (.seq (.reg [.op none (.build 23 [.int .i64 0, .slice none 0 0, .slice none 0 0, .int .i64 0, .int .i64 0] [(0, 1, .const (.int .i64 11))]), .gh, .op none (.store 5 (.tmp 4) (.tmp 23)), .keep [4]]) (.gh .ret)) (.skip))) (.seq (.reg [.op none (.mv 24 (.tmp 1)), .op none (.nilc 25 (.tmp 24)), .op none (.faddr 26 7 (.tmp 25)), .op none (.load 27 false 1 (.tmp 26)), .op none (.mv 28 (.tmp 5)), .op none (.slice 29 1 (.tmp 27) none (some (.tmp 28))), .op none (.app 30 1 8 false (.const (.slice none 0 0)) (.tmp 29)), .op none (.build 31 [.int .i64 0, .slice none 0 0, .slice none 0 0, .int .i64 0, .int .i64 0] [(2, 1, .tmp 30)]), .gh, .op none (.alloc 6 [.int .i64 0, .slice none 0 0, .slice none 0 0, .int .i64 0, .int .i64 0]), .gh, .op none (.store 5 (.tmp 6) (.tmp 31)), .keep [1, 2, 4, 5, 6]]) (.seq (.reg [.op none (.mv 32 (.tmp 1)), .op none (.mv 33 (.tmp 1)), .op none (.nilc 34 (.tmp 33)), .op none (.faddr 35 7 (.tmp 34)), .op none (.load 36 false 1 (.tmp 35)), .op none (.mv 37 (.tmp 5)), .op none (.slice 38 1 (.tmp 36) (some (.tmp 37)) none), .op none (.app 39 1 8 false (.const (.slice none 0 0)) (.tmp 38)), .op none (.nilc 40 (.tmp 32)), .op none (.faddr 41 7 (.tmp 40)), .op none (.store 1 (.tmp 41) (.tmp 39)), .keep [1, 2, 4, 5, 6]]) (.seq (.reg [.op none (.mv 42 (.tmp 1)), .op none (.faddr 43 0 (.tmp 2)), .op none (.load 44 false 1 (.tmp 43)), .op none (.nilc 45 (.tmp 42)), .op none (.faddr 46 6 (.tmp 45)), .op none (.store 1 (.tmp 46) (.tmp 44)), .keep [1, 4, 5, 6]]) (.seq (.ga (.seq (.reg [.op none (.mv 47 (.tmp 1)), .op none (.nilc 48 (.tmp 47)), .op none (.faddr 49 12 (.tmp 48)), .op none (.load 50 false 1 (.tmp 49)), .keep [1, 4, 5, 6, 50]]) (.cond (.tmp 50) (.seq (.reg [.op none (.mv 51 (.tmp 1)), .op none (.nilc 52 (.tmp 51)), .op none (.faddr 53 12 (.tmp 52)), .op none (.store 1 (.tmp 53) (.const (.bool false))), .keep [1, 4, 6]]) (.seq (.reg [.op none (.mv 54 (.tmp 1)), .op none (.nilc 55 (.tmp 54)), .op none (.faddr 56 11 (.tmp 55)), .op none (.store 1 (.tmp 56) (.const (.int .i64 0))), .keep [1, 4, 6]]) (.seq (.reg [.op none (.mv 57 (.tmp 1)), .call none (some 58) 179 [.tmp 57], .keep [1, 4, 6]]) (.seq (.reg [.op none (.faddr 59 4 (.tmp 6)), .op none (.store 1 (.tmp 59) (.const (.int .i64 1))), .keep [1, 4, 6]]) (.reg [.op none (.mv 60 (.tmp 1)), .call none (some 61) 182 [.tmp 60], .op none (.faddr 62 1 (.tmp 6)), .op none (.store 1 (.tmp 62) (.tmp 61)), .keep [4, 6]]))))) (.seq (.reg [.op none (.mv 63 (.tmp 5)), .op none (.bin 64 .gtr (.tmp 63) (.const (.int .u32 0))), .keep [1, 4, 6, 64]]) (.cond (.tmp 64) (.reg [.op none (.mv 65 (.tmp 1)), .call none (some 66) 179 [.tmp 65], .keep [4, 6]]) (.skip)))))) (.seq (.reg [.op none (.load 67 true 5 (.tmp 6)), .op none (.store 5 (.tmp 4) (.tmp 67)), .keep [4]]) (.gh .ret))))))))
def r181 : List RV := [.cell 4 true 5]
theorem k181 : compC Try.prog 68 C181 (Try.f181.body.getD .skip) = some C181.erase := by kernel_rfl
theorem q181 : rvsOf Try.prog Try.f181.results.toList = some r181 := by kernel_rfl
def impl_ackSeq_happen.f (a0_0 : Int) (a1_0 : Int) (a1_1 : Int) (a1_2 : Int) (a1_3 : Int) (a1_4 : Int) (a1_5 : Int) (a1_6 : Int) (l1_7 : List Int) (a1_8 : Int) (a1_9 : Int) (a1_10 : Int) (a1_11 : Int) (a1_12 : Bool) : Option (Int × (List S68) × (List Int) × Int × Int × Int × (List Int) × Int × Int × Int × Int × Bool) := (if IntKind.u64.wrap (IntKind.u32.wrap (a0_0 - a1_6)) > IntKind.u64.wrap (l1_7.length : Int) then (some (11, ([] : List S68), ([] : List Int), 0, 0, a1_6, l1_7, a1_8, a1_9, a1_10, a1_11, a1_12)) else (if 0 ≤ IntKind.u32.wrap (a0_0 - a1_6) ∧ IntKind.u32.wrap (a0_0 - a1_6) ≤ (l1_7.length : Int) then (if (0 + ((IntKind.u32.wrap (a0_0 - a1_6)).toNat - 0)) * 8 ≤ 140737488355328 then (if (0 + (l1_7.length - (IntKind.u32.wrap (a0_0 - a1_6)).toNat)) * 8 ≤ 140737488355328 then ((if a1_12 = true then (impl_sender_calm.f a1_0 a1_1 a1_2 a1_3 a1_4 a1_5 a0_0 (List.drop (IntKind.u32.wrap (a0_0 - a1_6)).toNat l1_7) a1_8 a1_9 a1_10 0 false >>= fun t38 => (impl_sender_again.f a1_0 a1_1 a1_2 a1_3 a1_4 a1_5 a0_0 (List.drop (IntKind.u32.wrap (a0_0 - a1_6)).toNat l1_7) t38.1 t38.2.1 t38.2.2 0 false >>= fun t42 => (some (t38.1, t38.2.1, t38.2.2, 0, false, t42, 1)))) else (if IntKind.u32.wrap (a0_0 - a1_6) > 0 then (impl_sender_calm.f a1_0 a1_1 a1_2 a1_3 a1_4 a1_5 a0_0 (List.drop (IntKind.u32.wrap (a0_0 - a1_6)).toNat l1_7) a1_8 a1_9 a1_10 a1_11 a1_12 >>= fun t48 => (some (t48.1, t48.2.1, t48.2.2, a1_11, a1_12, ([] : List S68), 0))) else (some (a1_8, a1_9, a1_10, a1_11, a1_12, ([] : List S68), 0)))) >>= fun (j29 : Int × Int × Int × Int × Bool × (List S68) × Int) => (some (0, j29.2.2.2.2.2.1, (List.take (IntKind.u32.wrap (a0_0 - a1_6)).toNat l1_7), 0, j29.2.2.2.2.2.2, a0_0, (List.drop (IntKind.u32.wrap (a0_0 - a1_6)).toNat l1_7), j29.1, j29.2.1, j29.2.2.1, j29.2.2.2.1, j29.2.2.2.2.1))) else none) else none) else none))
theorem impl_ackSeq_happen.tri (a0_0 : Int) (a1_0 : Int) (a1_1 : Int) (a1_2 : Int) (a1_3 : Int) (a1_4 : Int) (a1_5 : Int) (a1_6 : Int) (l1_7 : List Int) (a1_8 : Int) (a1_9 : Int) (a1_10 : Int) (a1_11 : Int) (a1_12 : Bool) (r : Int × (List S68) × (List Int) × Int × Int × Int × (List Int) × Int × Int × Int × Int × Bool) (h : impl_ackSeq_happen.f a0_0 a1_0 a1_1 a1_2 a1_3 a1_4 a1_5 a1_6 l1_7 a1_8 a1_9 a1_10 a1_11 a1_12 = some r) : Tri Try.prog 181 [.g [.sc (.int .u32 a0_0)], .c (.ptr (.arg 0) [] 0)] [(.arg 0, ⟨.box, 0, [.sc (.int .u32 a1_0), .sc (.int .i64 a1_1), .sc (.int .i64 a1_2), .sc (.int .i64 a1_3), .sc (.int .i64 a1_4), .sc (.int .i64 a1_5), .sc (.int .u32 a1_6), .own 1 l1_7.length (encL c_i64 l1_7), .sc (.int .i64 a1_8), .sc (.int .i64 a1_9), .sc (.int .i64 a1_10), .sc (.int .i64 a1_11), .sc (.bool a1_12)]⟩)] (fun o => o = ⟨.g [.sc (.int .i64 r.1), .ref (.res 0) [] 0 r.2.1.length, .ref (.res 1) [] 0 r.2.2.1.length, .sc (.int .i64 r.2.2.2.1), .sc (.int .i64 r.2.2.2.2.1)], [(.arg 0, ⟨.box, 0, [.sc (.int .u32 a1_0), .sc (.int .i64 a1_1), .sc (.int .i64 a1_2), .sc (.int .i64 a1_3), .sc (.int .i64 a1_4), .sc (.int .i64 a1_5), .sc (.int .u32 r.2.2.2.2.2.1), .own 1 r.2.2.2.2.2.2.1.length (encL c_i64 r.2.2.2.2.2.2.1), .sc (.int .i64 r.2.2.2.2.2.2.2.1), .sc (.int .i64 r.2.2.2.2.2.2.2.2.1), .sc (.int .i64 r.2.2.2.2.2.2.2.2.2.1), .sc (.int .i64 r.2.2.2.2.2.2.2.2.2.2.1), .sc (.bool r.2.2.2.2.2.2.2.2.2.2.2)]⟩), (.res 0, ⟨.lst, 3, encL c68 r.2.1⟩), (.res 1, ⟨.lst, 1, encL c_i64 r.2.2.1⟩)], [0], []⟩) := by
  refine tri_of_body (ac := C181) (xs := r181) Try.func181 (show Try.f181.body = some (Try.f181.body.getD .skip) from rfl) k181 q181 (Nat.le_of_ble_eq_true rfl) ?_
  refine body_of fun K hKn hKr => ?_
  unfold impl_ackSeq_happen.f at h
  unfold C181
  simp only [initT, Nat.reduceAdd]
  refine sr_k fun J1 hJ1 => ?_
  simp +decide only [Nat.reduceAdd, Nat.reduceMul, Int.reduceToNat, ak]
  refine gho_k (Weak.own (.tmp 4 0) (cs' := [.sc (.int .i64 0), .own 3 (([] : List S68).length) (encL c68 ([] : List S68)), .own 1 (([] : List Int).length) (encL c_i64 ([] : List Int)), .sc (.int .i64 0), .sc (.int .i64 0)]) rfl ⟨.inl rfl, .inr ⟨rfl, _, rfl⟩, .inr ⟨rfl, _, rfl⟩, .inl rfl, .inl rfl, trivial⟩) ?_
  simp +decide only [Nat.reduceAdd, Nat.reduceMul, Int.reduceToNat, ak]
  refine hJ1 _ ?_
  refine sd_k fun J2 hJ2 => ?_
  simp +decide only [Nat.reduceAdd, Nat.reduceMul, Int.reduceToNat, ak]
  refine hJ2 _ ?_
  refine seq_k fun J3 hJ3 => ?_
  refine sr_k fun J4 hJ4 => ?_
  simp +decide only [Nat.reduceAdd, Nat.reduceMul, Int.reduceToNat, ak]
  refine hJ4 _ ?_
  refine cond_k (b := decide (IntKind.u64.wrap (IntKind.u32.wrap (a0_0 - a1_6)) > IntKind.u64.wrap (l1_7.length : Int))) rfl (fun c5 => ?_) (fun c5 => ?_)
  · replace c5 := of_decide_eq_true c5; rw [if_pos c5] at h
    refine sr_k fun J6 hJ6 => ?_
    simp +decide only [Nat.reduceAdd, Nat.reduceMul, Int.reduceToNat, ak]
    refine gho_k ((Weak.nmg' 23 1 (.tmp 23 21) 3 (encL c68 ([] : List S68)) rfl rfl rfl rfl).trans (Weak.nmg' 23 2 (.tmp 23 22) 1 (encL c_i64 ([] : List Int)) rfl rfl rfl rfl)) ?_
    have g7 : (encL c68 ([] : List S68)).length = 0 * 3 := by simp [encL_length c68_w]
    have g8 : (encL c_i64 ([] : List Int)).length = 0 * 1 := by simp [encL_length c_i64_w]
    simp +decide only [Nat.reduceAdd, Nat.reduceMul, Int.reduceToNat, ak, g7, g8]
    refine hJ6 _ ?_
    refine gh_k (Weak.mark [0] [] (by simp) (by simp)) ?_
    obtain rfl := Option.some.inj h
    refine hKr _ ⟨_, rfl, [⟨(.tmp 4 0), [1], none, .lst⟩, ⟨(.tmp 4 0), [2], none, .lst⟩], _, rfl, rfl, ?_⟩
    first | rfl | (simp only [reduceCtorEq, Nat.reduceEqDiff, ak, akF]; done) | (simp [reduceCtorEq, Nat.reduceEqDiff, ak, akF] <;> omega)
  · replace c5 := of_decide_eq_false c5; rw [if_neg c5] at h
    refine hJ3 _ ?_
    refine sr_k fun J9 hJ9 => ?_
    obtain ⟨b10, h⟩ := of_guard h
    have g11 : 0 ≤ IntKind.u32.wrap (a0_0 - a1_6) := (by have := b10; omega)
    have g12 : 0 ≤ (IntKind.u32.wrap (a0_0 - a1_6)).toNat := (by have := b10; omega)
    have g13 : (IntKind.u32.wrap (a0_0 - a1_6)).toNat ≤ l1_7.length := (by have := b10; omega)
    have g14 : (List.take (IntKind.u32.wrap (a0_0 - a1_6)).toNat l1_7).length = (IntKind.u32.wrap (a0_0 - a1_6)).toNat - 0 := by have := b10; have h0 : l1_7.length = l1_7.length := (by simp); simp only [List.length_drop, List.length_take] <;> omega
    have g15 : (encL c_i64 l1_7).take (((IntKind.u32.wrap (a0_0 - a1_6)).toNat - 0) * 1) = encL c_i64 (List.take (IntKind.u32.wrap (a0_0 - a1_6)).toNat l1_7) := by simpa [g14] using ((Vw.whole c_i64_w l1_7).upto (b := (IntKind.u32.wrap (a0_0 - a1_6)).toNat) (by have := b10; omega)).all
    have g16 : (encL c_i64 (List.take (IntKind.u32.wrap (a0_0 - a1_6)).toNat l1_7)).all isSc = true := encL_all (fun _ => rfl) _
    obtain ⟨b17, h⟩ := of_guard h
    have g18 : appLim 0 ((IntKind.u32.wrap (a0_0 - a1_6)).toNat - 0) 8 := ⟨b17, by have := b17; omega⟩
    simp +decide only [Nat.reduceAdd, Nat.reduceMul, Int.reduceToNat, ak, g11, g12, g13, g15, g16, g18]
    refine gho_k (Weak.nmg' 31 1 (.tmp 31 21) 3 (encL c68 ([] : List S68)) rfl rfl rfl rfl) ?_
    simp +decide only [Nat.reduceAdd, Nat.reduceMul, Int.reduceToNat, ak]
    refine gho_k (Weak.own (.tmp 6 0) (cs' := [.sc (.int .i64 0), .own 3 (([] : List S68).length) (encL c68 ([] : List S68)), .own 1 (([] : List Int).length) (encL c_i64 ([] : List Int)), .sc (.int .i64 0), .sc (.int .i64 0)]) rfl ⟨.inl rfl, .inr ⟨rfl, _, rfl⟩, .inr ⟨rfl, _, rfl⟩, .inl rfl, .inl rfl, trivial⟩) ?_
    have g19 : (encL c68 ([] : List S68)).length = 0 * 3 := by simp [encL_length c68_w, g14]
    have g20 : (encL c_i64 (List.take (IntKind.u32.wrap (a0_0 - a1_6)).toNat l1_7)).length = (0 + ((IntKind.u32.wrap (a0_0 - a1_6)).toNat - 0)) * 1 := by simp [encL_length c_i64_w, g14]
    simp +decide only [Nat.reduceAdd, Nat.reduceMul, Int.reduceToNat, ak, g19, g20]
    refine hJ9 _ ?_
    refine sr_k fun J21 hJ21 => ?_
    have g22 : (List.drop (IntKind.u32.wrap (a0_0 - a1_6)).toNat l1_7).length = l1_7.length - (IntKind.u32.wrap (a0_0 - a1_6)).toNat := by have := b10; have h0 : l1_7.length = l1_7.length := (by simp [g14]); simp only [List.length_drop, List.length_take] <;> omega
    have g23 : (List.drop (0 + (IntKind.u32.wrap (a0_0 - a1_6)).toNat * 1) (encL c_i64 l1_7)).take ((l1_7.length - (IntKind.u32.wrap (a0_0 - a1_6)).toNat) * 1) = encL c_i64 (List.drop (IntKind.u32.wrap (a0_0 - a1_6)).toNat l1_7) := by simpa [g14, g22] using ((Vw.whole c_i64_w l1_7).from (a := (IntKind.u32.wrap (a0_0 - a1_6)).toNat) (by have := b10; omega)).all
    have g24 : (encL c_i64 (List.drop (IntKind.u32.wrap (a0_0 - a1_6)).toNat l1_7)).all isSc = true := encL_all (fun _ => rfl) _
    obtain ⟨b25, h⟩ := of_guard h
    have g26 : appLim 0 (l1_7.length - (IntKind.u32.wrap (a0_0 - a1_6)).toNat) 8 := ⟨b25, by have := b25; omega⟩
    have g27 : (encL c_i64 (List.drop (IntKind.u32.wrap (a0_0 - a1_6)).toNat l1_7)).length = (0 + (l1_7.length - (IntKind.u32.wrap (a0_0 - a1_6)).toNat)) * 1 := by simp [encL_length c_i64_w, g14, g22]
    simp +decide only [Nat.reduceAdd, Nat.reduceMul, Int.reduceToNat, ak, g11, g13, Nat.le_refl, g23, g24, g26, g27]
    refine hJ21 _ ?_
    refine sr_k fun J28 hJ28 => ?_
    simp +decide only [Nat.reduceAdd, Nat.reduceMul, Int.reduceToNat, ak]
    refine hJ28 _ ?_
    obtain ⟨j29, h30, hn⟩ := of_bind h
    refine seq_j (fun st => st = ⟨[(4, .c (.ptr (.tmp 4 0) [] 0)), (6, .c (.ptr (.tmp 6 0) [] 0))], [(.arg 0, ⟨.box, 0, [.sc (.int .u32 a1_0), .sc (.int .i64 a1_1), .sc (.int .i64 a1_2), .sc (.int .i64 a1_3), .sc (.int .i64 a1_4), .sc (.int .i64 a1_5), .sc (.int .u32 a0_0), .own 1 (0 + (l1_7.length - (IntKind.u32.wrap (a0_0 - a1_6)).toNat)) (encL c_i64 (List.drop (IntKind.u32.wrap (a0_0 - a1_6)).toNat l1_7)), .sc (.int .i64 j29.1), .sc (.int .i64 j29.2.1), .sc (.int .i64 j29.2.2.1), .sc (.int .i64 j29.2.2.2.1), .sc (.bool j29.2.2.2.2.1)]⟩), (.tmp 4 0, ⟨.box, 0, [.sc (.int .i64 0), .own 3 (([] : List S68).length) (encL c68 ([] : List S68)), .own 1 (([] : List Int).length) (encL c_i64 ([] : List Int)), .sc (.int .i64 0), .sc (.int .i64 0)]⟩), (.tmp 6 0, ⟨.box, 0, [.sc (.int .i64 0), .own 3 j29.2.2.2.2.2.1.length (encL c68 j29.2.2.2.2.2.1), .own 1 (0 + ((IntKind.u32.wrap (a0_0 - a1_6)).toNat - 0)) (encL c_i64 (List.take (IntKind.u32.wrap (a0_0 - a1_6)).toNat l1_7)), .sc (.int .i64 0), .sc (.int .i64 j29.2.2.2.2.2.2)]⟩)], [0], []⟩) (fun J31 hJ31 => ?_) ?_
    · replace h := h30; clear hn
      refine ga_k fun G32 G32n G32r G32x => ?_
      refine sr_k fun J33 hJ33 => ?_
      simp +decide only [Nat.reduceAdd, Nat.reduceMul, Int.reduceToNat, ak]
      refine hJ33 _ ?_
      refine cond_k (b := a1_12) rfl (fun c34 => ?_) (fun c34 => ?_)
      · rw [if_pos c34] at h
        refine sr_k fun J35 hJ35 => ?_
        simp +decide only [Nat.reduceAdd, Nat.reduceMul, Int.reduceToNat, ak]
        refine hJ35 _ ?_
        refine sr_k fun J36 hJ36 => ?_
        simp +decide only [Nat.reduceAdd, Nat.reduceMul, Int.reduceToNat, ak]
        refine hJ36 _ ?_
        refine sr_k fun J37 hJ37 => ?_
        simp +decide only [Nat.reduceAdd, Nat.reduceMul, Int.reduceToNat, ak]
        obtain ⟨t38, h39, h⟩ := of_bind h
        refine call_m [(.arg 0, ⟨(.arg 0), [], none, .box⟩)] (s0 := [(.arg 0, ⟨.box, 0, [.sc (.int .u32 a1_0), .sc (.int .i64 a1_1), .sc (.int .i64 a1_2), .sc (.int .i64 a1_3), .sc (.int .i64 a1_4), .sc (.int .i64 a1_5), .sc (.int .u32 a0_0), .own 1 ((List.drop (IntKind.u32.wrap (a0_0 - a1_6)).toNat l1_7).length) (encL c_i64 (List.drop (IntKind.u32.wrap (a0_0 - a1_6)).toNat l1_7)), .sc (.int .i64 a1_8), .sc (.int .i64 a1_9), .sc (.int .i64 a1_10), .sc (.int .i64 0), .sc (.bool false)]⟩)]) (by intro t ht; cases ht; decide) rfl rfl (by first | rfl | simp only [reduceCtorEq, Nat.reduceEqDiff, ak, akF, b10, b17, b25, g11, g12, g13, g14, g15, g16, g18, g19, g20, g22, g23, g24, g26, g27, (show 0 + (l1_7.length - (IntKind.u32.wrap (a0_0 - a1_6)).toNat) = (List.drop (IntKind.u32.wrap (a0_0 - a1_6)).toNat l1_7).length by simp [g14, g22])]) (impl_sender_calm.tri a1_0 a1_1 a1_2 a1_3 a1_4 a1_5 a0_0 (List.drop (IntKind.u32.wrap (a0_0 - a1_6)).toNat l1_7) a1_8 a1_9 a1_10 0 false _ h39) (by first | rfl | simp only [reduceCtorEq, Nat.reduceEqDiff, ak, akF, (show 0 + (l1_7.length - (IntKind.u32.wrap (a0_0 - a1_6)).toNat) = (List.drop (IntKind.u32.wrap (a0_0 - a1_6)).toNat l1_7).length by simp [g14, g22])]) (by simp [bkOk2, memK]) (fun hl39 => ?_)
        refine call_st (s4 := [(.arg 0, ⟨.box, 0, [.sc (.int .u32 a1_0), .sc (.int .i64 a1_1), .sc (.int .i64 a1_2), .sc (.int .i64 a1_3), .sc (.int .i64 a1_4), .sc (.int .i64 a1_5), .sc (.int .u32 a0_0), .own 1 (0 + (l1_7.length - (IntKind.u32.wrap (a0_0 - a1_6)).toNat)) (encL c_i64 (List.drop (IntKind.u32.wrap (a0_0 - a1_6)).toNat l1_7)), .sc (.int .i64 t38.1), .sc (.int .i64 t38.2.1), .sc (.int .i64 t38.2.2), .sc (.int .i64 0), .sc (.bool false)]⟩), (.tmp 2 0, ⟨.box, 0, [.sc (.int .u32 a0_0)]⟩), (.tmp 4 0, ⟨.box, 0, [.sc (.int .i64 0), .own 3 (([] : List S68).length) (encL c68 ([] : List S68)), .own 1 (([] : List Int).length) (encL c_i64 ([] : List Int)), .sc (.int .i64 0), .sc (.int .i64 0)]⟩), (.tmp 6 0, ⟨.box, 0, [.sc (.int .i64 0), .own 3 0 (encL c68 ([] : List S68)), .own 1 (0 + ((IntKind.u32.wrap (a0_0 - a1_6)).toNat - 0)) (encL c_i64 (List.take (IntKind.u32.wrap (a0_0 - a1_6)).toNat l1_7)), .sc (.int .i64 0), .sc (.int .i64 0)]⟩)]) (m1' := [0]) (m2' := []) (v' := .tup []) (Sto.mapN_killNil _ _) (mrgL_whole (new' := [.sc (.int .u32 a1_0), .sc (.int .i64 a1_1), .sc (.int .i64 a1_2), .sc (.int .i64 a1_3), .sc (.int .i64 a1_4), .sc (.int .i64 a1_5), .sc (.int .u32 a0_0), .own 1 (0 + (l1_7.length - (IntKind.u32.wrap (a0_0 - a1_6)).toNat)) (encL c_i64 (List.drop (IntKind.u32.wrap (a0_0 - a1_6)).toNat l1_7)), .sc (.int .i64 t38.1), .sc (.int .i64 t38.2.1), .sc (.int .i64 t38.2.2), .sc (.int .i64 0), .sc (.bool false)]) (mrgL_nil' _ _ _) rfl (by rfl) (.inl ⟨rfl, by first | rfl | simp only [reduceCtorEq, Nat.reduceEqDiff, ak, akF, Nat.zero_add, List.append_nil, b10, b17, b25, g14, g22]⟩)) (by rfl) (mapT_killNil _ _) (by rfl) (by rfl) (by first | rfl | simp only [reduceCtorEq, Nat.reduceEqDiff, ak, akF, Nat.zero_add, List.append_nil, b10, b17, b25, g14, g22]) ?_
        simp +decide only [Nat.reduceAdd, Nat.reduceMul, Int.reduceToNat, ak]
        refine hJ37 _ ?_
        refine sr_k fun J41 hJ41 => ?_
        simp +decide only [Nat.reduceAdd, Nat.reduceMul, Int.reduceToNat, ak]
        refine hJ41 _ ?_
        refine reg_k ?_
        simp +decide only [Nat.reduceAdd, Nat.reduceMul, Int.reduceToNat, ak]
        obtain ⟨t42, h43, h⟩ := of_bind h
        refine call_m [(.arg 0, ⟨(.arg 0), [], none, .box⟩)] (s0 := [(.arg 0, ⟨.box, 0, [.sc (.int .u32 a1_0), .sc (.int .i64 a1_1), .sc (.int .i64 a1_2), .sc (.int .i64 a1_3), .sc (.int .i64 a1_4), .sc (.int .i64 a1_5), .sc (.int .u32 a0_0), .own 1 ((List.drop (IntKind.u32.wrap (a0_0 - a1_6)).toNat l1_7).length) (encL c_i64 (List.drop (IntKind.u32.wrap (a0_0 - a1_6)).toNat l1_7)), .sc (.int .i64 t38.1), .sc (.int .i64 t38.2.1), .sc (.int .i64 t38.2.2), .sc (.int .i64 0), .sc (.bool false)]⟩)]) (by intro t ht; cases ht; decide) rfl rfl (by first | rfl | simp only [reduceCtorEq, Nat.reduceEqDiff, ak, akF, b10, b17, b25, g11, g12, g13, g14, g15, g16, g18, g19, g20, g22, g23, g24, g26, g27, (show 0 + (l1_7.length - (IntKind.u32.wrap (a0_0 - a1_6)).toNat) = (List.drop (IntKind.u32.wrap (a0_0 - a1_6)).toNat l1_7).length by simp [g14, g22])]) (impl_sender_again.tri a1_0 a1_1 a1_2 a1_3 a1_4 a1_5 a0_0 (List.drop (IntKind.u32.wrap (a0_0 - a1_6)).toNat l1_7) t38.1 t38.2.1 t38.2.2 0 false _ h43) (by first | rfl | simp only [reduceCtorEq, Nat.reduceEqDiff, ak, akF, (show 0 + (l1_7.length - (IntKind.u32.wrap (a0_0 - a1_6)).toNat) = (List.drop (IntKind.u32.wrap (a0_0 - a1_6)).toNat l1_7).length by simp [g14, g22])]) (by simp [bkOk2, memK]) (fun hl43 => ?_)
        refine call_st (s4 := [(.arg 0, ⟨.box, 0, [.sc (.int .u32 a1_0), .sc (.int .i64 a1_1), .sc (.int .i64 a1_2), .sc (.int .i64 a1_3), .sc (.int .i64 a1_4), .sc (.int .i64 a1_5), .sc (.int .u32 a0_0), .own 1 (0 + (l1_7.length - (IntKind.u32.wrap (a0_0 - a1_6)).toNat)) (encL c_i64 (List.drop (IntKind.u32.wrap (a0_0 - a1_6)).toNat l1_7)), .sc (.int .i64 t38.1), .sc (.int .i64 t38.2.1), .sc (.int .i64 t38.2.2), .sc (.int .i64 0), .sc (.bool false)]⟩), (.tmp 2 0, ⟨.box, 0, [.sc (.int .u32 a0_0)]⟩), (.tmp 4 0, ⟨.box, 0, [.sc (.int .i64 0), .own 3 (([] : List S68).length) (encL c68 ([] : List S68)), .own 1 (([] : List Int).length) (encL c_i64 ([] : List Int)), .sc (.int .i64 0), .sc (.int .i64 0)]⟩), (.tmp 6 0, ⟨.box, 0, [.sc (.int .i64 0), .own 3 0 (encL c68 ([] : List S68)), .own 1 (0 + ((IntKind.u32.wrap (a0_0 - a1_6)).toNat - 0)) (encL c_i64 (List.take (IntKind.u32.wrap (a0_0 - a1_6)).toNat l1_7)), .sc (.int .i64 0), .sc (.int .i64 1)]⟩), (.tmp 61 0, ⟨.lst, 3, encL c68 t42⟩)]) (m1' := [0]) (m2' := []) (v' := .c (.ref (.tmp 61 0) [] 0 t42.length)) (Sto.mapN_killNil _ _) (mrgL_whole (new' := [.sc (.int .u32 a1_0), .sc (.int .i64 a1_1), .sc (.int .i64 a1_2), .sc (.int .i64 a1_3), .sc (.int .i64 a1_4), .sc (.int .i64 a1_5), .sc (.int .u32 a0_0), .own 1 (0 + (l1_7.length - (IntKind.u32.wrap (a0_0 - a1_6)).toNat)) (encL c_i64 (List.drop (IntKind.u32.wrap (a0_0 - a1_6)).toNat l1_7)), .sc (.int .i64 t38.1), .sc (.int .i64 t38.2.1), .sc (.int .i64 t38.2.2), .sc (.int .i64 0), .sc (.bool false)]) (mrgL_nil' _ _ _) rfl (by rfl) (.inl ⟨rfl, by first | rfl | simp only [reduceCtorEq, Nat.reduceEqDiff, ak, akF, Nat.zero_add, List.append_nil, b10, b17, b25, g14, g22]⟩)) (by rfl) (mapT_killNil _ _) (by rfl) (by rfl) (by first | rfl | simp only [reduceCtorEq, Nat.reduceEqDiff, ak, akF, Nat.zero_add, List.append_nil, b10, b17, b25, g14, g22]) ?_
        have g45 : (encL c68 t42).length = t42.length * 3 := by simp [encL_length c68_w, g14, g22]
        simp +decide only [Nat.reduceAdd, Nat.reduceMul, Int.reduceToNat, ak, g45]
        obtain rfl := Option.some.inj h
        refine G32n _ _ (wkm [0] [] [4, 6] [pI (.arg 0) .box, pI (.tmp 4 0) .box, pI (.tmp 6 0) .box] (h0 := by first | rfl | simp +decide only [ak, akF, b10, b17, b25, g14, g22]) (h := by first | rfl | (simp +decide only [ak, akF, b10, b17, b25, g14, g22]; done) | (simp +decide [ak, akF, b10, b17, b25, g14, g22] <;> omega))) (hJ31 _ rfl)
      · rw [if_neg (Bool.eq_false_iff.1 c34)] at h
        refine sr_k fun J46 hJ46 => ?_
        simp +decide only [Nat.reduceAdd, Nat.reduceMul, Int.reduceToNat, ak]
        refine hJ46 _ ?_
        refine cond_k (b := decide (IntKind.u32.wrap (a0_0 - a1_6) > 0)) rfl (fun c47 => ?_) (fun c47 => ?_)
        · replace c47 := of_decide_eq_true c47; rw [if_pos c47] at h
          refine reg_k ?_
          simp +decide only [Nat.reduceAdd, Nat.reduceMul, Int.reduceToNat, ak]
          obtain ⟨t48, h49, h⟩ := of_bind h
          refine call_m [(.arg 0, ⟨(.arg 0), [], none, .box⟩)] (s0 := [(.arg 0, ⟨.box, 0, [.sc (.int .u32 a1_0), .sc (.int .i64 a1_1), .sc (.int .i64 a1_2), .sc (.int .i64 a1_3), .sc (.int .i64 a1_4), .sc (.int .i64 a1_5), .sc (.int .u32 a0_0), .own 1 ((List.drop (IntKind.u32.wrap (a0_0 - a1_6)).toNat l1_7).length) (encL c_i64 (List.drop (IntKind.u32.wrap (a0_0 - a1_6)).toNat l1_7)), .sc (.int .i64 a1_8), .sc (.int .i64 a1_9), .sc (.int .i64 a1_10), .sc (.int .i64 a1_11), .sc (.bool a1_12)]⟩)]) (by intro t ht; cases ht; decide) rfl rfl (by first | rfl | simp only [reduceCtorEq, Nat.reduceEqDiff, ak, akF, b10, b17, b25, g11, g12, g13, g14, g15, g16, g18, g19, g20, g22, g23, g24, g26, g27, (show 0 + (l1_7.length - (IntKind.u32.wrap (a0_0 - a1_6)).toNat) = (List.drop (IntKind.u32.wrap (a0_0 - a1_6)).toNat l1_7).length by simp [g14, g22])]) (impl_sender_calm.tri a1_0 a1_1 a1_2 a1_3 a1_4 a1_5 a0_0 (List.drop (IntKind.u32.wrap (a0_0 - a1_6)).toNat l1_7) a1_8 a1_9 a1_10 a1_11 a1_12 _ h49) (by first | rfl | simp only [reduceCtorEq, Nat.reduceEqDiff, ak, akF, (show 0 + (l1_7.length - (IntKind.u32.wrap (a0_0 - a1_6)).toNat) = (List.drop (IntKind.u32.wrap (a0_0 - a1_6)).toNat l1_7).length by simp [g14, g22])]) (by simp [bkOk2, memK]) (fun hl49 => ?_)
          refine call_st (s4 := [(.arg 0, ⟨.box, 0, [.sc (.int .u32 a1_0), .sc (.int .i64 a1_1), .sc (.int .i64 a1_2), .sc (.int .i64 a1_3), .sc (.int .i64 a1_4), .sc (.int .i64 a1_5), .sc (.int .u32 a0_0), .own 1 (0 + (l1_7.length - (IntKind.u32.wrap (a0_0 - a1_6)).toNat)) (encL c_i64 (List.drop (IntKind.u32.wrap (a0_0 - a1_6)).toNat l1_7)), .sc (.int .i64 t48.1), .sc (.int .i64 t48.2.1), .sc (.int .i64 t48.2.2), .sc (.int .i64 a1_11), .sc (.bool a1_12)]⟩), (.tmp 2 0, ⟨.box, 0, [.sc (.int .u32 a0_0)]⟩), (.tmp 4 0, ⟨.box, 0, [.sc (.int .i64 0), .own 3 (([] : List S68).length) (encL c68 ([] : List S68)), .own 1 (([] : List Int).length) (encL c_i64 ([] : List Int)), .sc (.int .i64 0), .sc (.int .i64 0)]⟩), (.tmp 6 0, ⟨.box, 0, [.sc (.int .i64 0), .own 3 0 (encL c68 ([] : List S68)), .own 1 (0 + ((IntKind.u32.wrap (a0_0 - a1_6)).toNat - 0)) (encL c_i64 (List.take (IntKind.u32.wrap (a0_0 - a1_6)).toNat l1_7)), .sc (.int .i64 0), .sc (.int .i64 0)]⟩)]) (m1' := [0]) (m2' := []) (v' := .tup []) (Sto.mapN_killNil _ _) (mrgL_whole (new' := [.sc (.int .u32 a1_0), .sc (.int .i64 a1_1), .sc (.int .i64 a1_2), .sc (.int .i64 a1_3), .sc (.int .i64 a1_4), .sc (.int .i64 a1_5), .sc (.int .u32 a0_0), .own 1 (0 + (l1_7.length - (IntKind.u32.wrap (a0_0 - a1_6)).toNat)) (encL c_i64 (List.drop (IntKind.u32.wrap (a0_0 - a1_6)).toNat l1_7)), .sc (.int .i64 t48.1), .sc (.int .i64 t48.2.1), .sc (.int .i64 t48.2.2), .sc (.int .i64 a1_11), .sc (.bool a1_12)]) (mrgL_nil' _ _ _) rfl (by rfl) (.inl ⟨rfl, by first | rfl | simp only [reduceCtorEq, Nat.reduceEqDiff, ak, akF, Nat.zero_add, List.append_nil, b10, b17, b25, g14, g22]⟩)) (by rfl) (mapT_killNil _ _) (by rfl) (by rfl) (by first | rfl | simp only [reduceCtorEq, Nat.reduceEqDiff, ak, akF, Nat.zero_add, List.append_nil, b10, b17, b25, g14, g22]) ?_
          simp +decide only [Nat.reduceAdd, Nat.reduceMul, Int.reduceToNat, ak]
          obtain rfl := Option.some.inj h
          refine G32n _ _ (wkm [0] [] [4, 6] [pI (.arg 0) .box, pI (.tmp 4 0) .box, pI (.tmp 6 0) .box] (h0 := by first | rfl | simp +decide only [ak, akF, b10, b17, b25, g14, g22]) (h := by first | rfl | (simp +decide only [ak, akF, b10, b17, b25, g14, g22]; done) | (simp +decide [ak, akF, b10, b17, b25, g14, g22] <;> omega))) (hJ31 _ rfl)
        · replace c47 := of_decide_eq_false c47; rw [if_neg c47] at h
          obtain rfl := Option.some.inj h
          refine G32n _ _ (wkm [0] [] [4, 6] [pI (.arg 0) .box, pI (.tmp 4 0) .box, pI (.tmp 6 0) .box] (h0 := by first | rfl | simp +decide only [ak, akF, b10, b17, b25, g14, g22]) (h := by first | rfl | (simp +decide only [ak, akF, b10, b17, b25, g14, g22]; done) | (simp +decide [ak, akF, b10, b17, b25, g14, g22] <;> omega))) (hJ31 _ rfl)
    · replace h := hn; clear hn h30
      rintro _ rfl
      refine sr_k fun J51 hJ51 => ?_
      simp +decide only [Nat.reduceAdd, Nat.reduceMul, Int.reduceToNat, ak]
      refine hJ51 _ ?_
      refine gh_k (Weak.mark [0] [] (by simp) (by simp)) ?_
      obtain rfl := Option.some.inj h
      refine hKr _ ⟨_, rfl, [⟨(.tmp 6 0), [1], none, .lst⟩, ⟨(.tmp 6 0), [2], none, .lst⟩], _, rfl, rfl, ?_⟩
      first | rfl | (simp only [reduceCtorEq, Nat.reduceEqDiff, ak, akF, b10, b17, b25, g14, g22]; done) | (simp [reduceCtorEq, Nat.reduceEqDiff, ak, akF, b10, b17, b25, g14, g22] <;> omega)
/-! ### (*impl.sender).act: function 133 -/
def C133v1i221 : AC := .seq (.reg [.op none (.alloc 4 [.int .i64 0, .slice none 0 0, .slice none 0 0, .int .i64 0, .int .i64 0]), .gh, .keep [0, 1, 4]]) (.seq (.reg [.op none (.mv 5 (.tmp 1)), .op none (.mv 6 (.tmp 0)), .callv none (some 7) (.invoke (.tmp 5) "loop.example/s03010/impl.happen") [.tmp 6], .op none (.store 5 (.tmp 4) (.tmp 7)), .keep [4]]) (.gh .ret))
def r133v1i221 : List RV := [.cell 4 true 5]
theorem k133v1i221 : compC Try.prog 8 C133v1i221 (Try.f133.body.getD .skip) = some C133v1i221.erase := by kernel_rfl
theorem q133v1i221 : rvsOf Try.prog Try.f133.results.toList = some r133v1i221 := by kernel_rfl
def impl_sender_act_v1i221.f (a0_0 : Int) (a0_1 : Int) (a0_2 : Int) (a0_3 : Int) (a0_4 : Int) (a0_5 : Int) (a0_6 : Int) (l0_7 : List Int) (a0_8 : Int) (a0_9 : Int) (a0_10 : Int) (a0_11 : Int) (a0_12 : Bool) (a1_0 : Int) : Option (Int × (List S68) × (List Int) × Int × Int × Int × (List Int) × Int × Int × Int × Int × Bool) := (impl_ackSeq_happen.f a1_0 a0_0 a0_1 a0_2 a0_3 a0_4 a0_5 a0_6 l0_7 a0_8 a0_9 a0_10 a0_11 a0_12 >>= fun t3 => (some (t3.1, t3.2.1, t3.2.2.1, t3.2.2.2.1, t3.2.2.2.2.1, t3.2.2.2.2.2.1, t3.2.2.2.2.2.2.1, t3.2.2.2.2.2.2.2.1, t3.2.2.2.2.2.2.2.2.1, t3.2.2.2.2.2.2.2.2.2.1, t3.2.2.2.2.2.2.2.2.2.2.1, t3.2.2.2.2.2.2.2.2.2.2.2)))
theorem impl_sender_act_v1i221.tri (a0_0 : Int) (a0_1 : Int) (a0_2 : Int) (a0_3 : Int) (a0_4 : Int) (a0_5 : Int) (a0_6 : Int) (l0_7 : List Int) (a0_8 : Int) (a0_9 : Int) (a0_10 : Int) (a0_11 : Int) (a0_12 : Bool) (a1_0 : Int) (r : Int × (List S68) × (List Int) × Int × Int × Int × (List Int) × Int × Int × Int × Int × Bool) (h : impl_sender_act_v1i221.f a0_0 a0_1 a0_2 a0_3 a0_4 a0_5 a0_6 l0_7 a0_8 a0_9 a0_10 a0_11 a0_12 a1_0 = some r) : Tri Try.prog 133 [.c (.ptr (.arg 0) [] 0), .c (.sc (.iface 221 (.agg #[.int .u32 a1_0])))] [(.arg 0, ⟨.box, 0, [.sc (.int .u32 a0_0), .sc (.int .i64 a0_1), .sc (.int .i64 a0_2), .sc (.int .i64 a0_3), .sc (.int .i64 a0_4), .sc (.int .i64 a0_5), .sc (.int .u32 a0_6), .own 1 l0_7.length (encL c_i64 l0_7), .sc (.int .i64 a0_8), .sc (.int .i64 a0_9), .sc (.int .i64 a0_10), .sc (.int .i64 a0_11), .sc (.bool a0_12)]⟩)] (fun o => o = ⟨.g [.sc (.int .i64 r.1), .ref (.res 0) [] 0 r.2.1.length, .ref (.res 1) [] 0 r.2.2.1.length, .sc (.int .i64 r.2.2.2.1), .sc (.int .i64 r.2.2.2.2.1)], [(.arg 0, ⟨.box, 0, [.sc (.int .u32 a0_0), .sc (.int .i64 a0_1), .sc (.int .i64 a0_2), .sc (.int .i64 a0_3), .sc (.int .i64 a0_4), .sc (.int .i64 a0_5), .sc (.int .u32 r.2.2.2.2.2.1), .own 1 r.2.2.2.2.2.2.1.length (encL c_i64 r.2.2.2.2.2.2.1), .sc (.int .i64 r.2.2.2.2.2.2.2.1), .sc (.int .i64 r.2.2.2.2.2.2.2.2.1), .sc (.int .i64 r.2.2.2.2.2.2.2.2.2.1), .sc (.int .i64 r.2.2.2.2.2.2.2.2.2.2.1), .sc (.bool r.2.2.2.2.2.2.2.2.2.2.2)]⟩), (.res 0, ⟨.lst, 3, encL c68 r.2.1⟩), (.res 1, ⟨.lst, 1, encL c_i64 r.2.2.1⟩)], [0], []⟩) := by
  refine tri_of_body (ac := C133v1i221) (xs := r133v1i221) Try.func133 (show Try.f133.body = some (Try.f133.body.getD .skip) from rfl) k133v1i221 q133v1i221 (Nat.le_of_ble_eq_true rfl) ?_
  refine body_of fun K hKn hKr => ?_
  unfold impl_sender_act_v1i221.f at h
  unfold C133v1i221
  simp only [initT, Nat.reduceAdd]
  refine sr_k fun J1 hJ1 => ?_
  simp +decide only [Nat.reduceAdd, Nat.reduceMul, Int.reduceToNat, ak]
  refine gho_k (Weak.own (.tmp 4 0) (cs' := [.sc (.int .i64 0), .own 3 (([] : List S68).length) (encL c68 ([] : List S68)), .own 1 (([] : List Int).length) (encL c_i64 ([] : List Int)), .sc (.int .i64 0), .sc (.int .i64 0)]) rfl ⟨.inl rfl, .inr ⟨rfl, _, rfl⟩, .inr ⟨rfl, _, rfl⟩, .inl rfl, .inl rfl, trivial⟩) ?_
  simp +decide only [Nat.reduceAdd, Nat.reduceMul, Int.reduceToNat, ak]
  refine hJ1 _ ?_
  refine sr_k fun J2 hJ2 => ?_
  simp +decide only [Nat.reduceAdd, Nat.reduceMul, Int.reduceToNat, ak]
  obtain ⟨t3, h4, h⟩ := of_bind h
  refine callv_iface (f := 181) (fn := Try.f181) (t := 221) (v := (.agg #[.int .u32 a1_0])) (recv := (.agg #[.int .u32 a1_0])) rfl (fun w => by kernel_rfl) Try.func181 (by kernel_rfl) (by decide) ?_
  refine call_m [(.arg 0, ⟨(.arg 0), [], none, .box⟩)] (s0 := [(.arg 0, ⟨.box, 0, [.sc (.int .u32 a0_0), .sc (.int .i64 a0_1), .sc (.int .i64 a0_2), .sc (.int .i64 a0_3), .sc (.int .i64 a0_4), .sc (.int .i64 a0_5), .sc (.int .u32 a0_6), .own 1 l0_7.length (encL c_i64 l0_7), .sc (.int .i64 a0_8), .sc (.int .i64 a0_9), .sc (.int .i64 a0_10), .sc (.int .i64 a0_11), .sc (.bool a0_12)]⟩)]) (by intro t ht; cases ht; decide) rfl rfl (by first | rfl | simp only [reduceCtorEq, Nat.reduceEqDiff, ak, akF]) (impl_ackSeq_happen.tri a1_0 a0_0 a0_1 a0_2 a0_3 a0_4 a0_5 a0_6 l0_7 a0_8 a0_9 a0_10 a0_11 a0_12 _ h4) (by first | rfl | simp only [reduceCtorEq, Nat.reduceEqDiff, ak, akF]) (by simp [bkOk2, memK]) (fun hl4 => ?_)
  refine call_st (s2 := [(.arg 0, ⟨.box, 0, [.sc (.int .u32 a0_0), .sc (.int .i64 a0_1), .sc (.int .i64 a0_2), .sc (.int .i64 a0_3), .sc (.int .i64 a0_4), .sc (.int .i64 a0_5), .sc (.int .u32 a0_6), .own 1 l0_7.length (encL c_i64 l0_7), .sc (.int .i64 a0_8), .sc (.int .i64 a0_9), .sc (.int .i64 a0_10), .sc (.int .i64 a0_11), .sc (.bool a0_12)]⟩), (.tmp 4 0, ⟨.box, 0, [.sc (.int .i64 0), .own 3 (([] : List S68).length) (encL c68 ([] : List S68)), .own 1 (([] : List Int).length) (encL c_i64 ([] : List Int)), .sc (.int .i64 0), .sc (.int .i64 0)]⟩)]) (s4 := [(.arg 0, ⟨.box, 0, [.sc (.int .u32 a0_0), .sc (.int .i64 a0_1), .sc (.int .i64 a0_2), .sc (.int .i64 a0_3), .sc (.int .i64 a0_4), .sc (.int .i64 a0_5), .sc (.int .u32 t3.2.2.2.2.2.1), .own 1 t3.2.2.2.2.2.2.1.length (encL c_i64 t3.2.2.2.2.2.2.1), .sc (.int .i64 t3.2.2.2.2.2.2.2.1), .sc (.int .i64 t3.2.2.2.2.2.2.2.2.1), .sc (.int .i64 t3.2.2.2.2.2.2.2.2.2.1), .sc (.int .i64 t3.2.2.2.2.2.2.2.2.2.2.1), .sc (.bool t3.2.2.2.2.2.2.2.2.2.2.2)]⟩), (.tmp 4 0, ⟨.box, 0, [.sc (.int .i64 0), .own 3 (([] : List S68).length) (encL c68 ([] : List S68)), .own 1 (([] : List Int).length) (encL c_i64 ([] : List Int)), .sc (.int .i64 0), .sc (.int .i64 0)]⟩), (.tmp 7 1, ⟨.lst, 1, encL c_i64 t3.2.2.1⟩), (.tmp 7 0, ⟨.lst, 3, encL c68 t3.2.1⟩)]) (t' := [(0, .c (.ptr (.arg 0) [] 0)), (1, .c (.sc (.iface 221 (.agg #[.int .u32 a1_0])))), (4, .c (.ptr (.tmp 4 0) [] 0)), (5, .c (.sc (.iface 221 (.agg #[.int .u32 a1_0])))), (6, .c (.ptr (.arg 0) [] 0))]) (m1' := [0]) (m2' := []) (v' := .g [.sc (.int .i64 t3.1), .ref (.tmp 7 0) [] 0 t3.2.1.length, .ref (.tmp 7 1) [] 0 t3.2.2.1.length, .sc (.int .i64 t3.2.2.2.1), .sc (.int .i64 t3.2.2.2.2.1)]) (by first | rfl | simp only [reduceCtorEq, Nat.reduceEqDiff, ak, akF, List.contains_nil, List.contains_cons, Nat.reduceBEq]) (mrgL_whole (new' := [.sc (.int .u32 a0_0), .sc (.int .i64 a0_1), .sc (.int .i64 a0_2), .sc (.int .i64 a0_3), .sc (.int .i64 a0_4), .sc (.int .i64 a0_5), .sc (.int .u32 t3.2.2.2.2.2.1), .own 1 t3.2.2.2.2.2.2.1.length (encL c_i64 t3.2.2.2.2.2.2.1), .sc (.int .i64 t3.2.2.2.2.2.2.2.1), .sc (.int .i64 t3.2.2.2.2.2.2.2.2.1), .sc (.int .i64 t3.2.2.2.2.2.2.2.2.2.1), .sc (.int .i64 t3.2.2.2.2.2.2.2.2.2.2.1), .sc (.bool t3.2.2.2.2.2.2.2.2.2.2.2)]) (mrgL_nil' _ _ _) rfl (by rfl) (.inl ⟨rfl, by first | rfl | simp only [reduceCtorEq, Nat.reduceEqDiff, ak, akF, Nat.zero_add, List.append_nil]⟩)) (by rfl) (by first | rfl | simp only [reduceCtorEq, Nat.reduceEqDiff, ak, akF, List.contains_nil, List.contains_cons, Nat.reduceBEq]) (by rfl) (by rfl) (by first | rfl | simp only [reduceCtorEq, Nat.reduceEqDiff, ak, akF, Nat.zero_add, List.append_nil]) ?_
  have g6 : (encL c68 t3.2.1).length = t3.2.1.length * 3 := by simp [encL_length c68_w]
  have g7 : (encL c_i64 t3.2.2.1).length = t3.2.2.1.length * 1 := by simp [encL_length c_i64_w]
  simp +decide only [Nat.reduceAdd, Nat.reduceMul, Int.reduceToNat, ak, g6, g7]
  refine hJ2 _ ?_
  refine gh_k (Weak.mark [0] [] (by simp) (by simp)) ?_
  obtain rfl := Option.some.inj h
  refine hKr _ ⟨_, rfl, [⟨(.tmp 4 0), [1], none, .lst⟩, ⟨(.tmp 4 0), [2], none, .lst⟩], _, rfl, rfl, ?_⟩
  first | rfl | (simp only [reduceCtorEq, Nat.reduceEqDiff, ak, akF]; done) | (simp [reduceCtorEq, Nat.reduceEqDiff, ak, akF] <;> omega)
/-! ### (impl.tick).happen: function 183 -/
def C183 : AC := .seq (.reg [.op none (.box 2 (.tmp 0)), .op none (.alloc 4 [.int .i64 0, .slice none 0 0, .slice none 0 0, .int .i64 0, .int .i64 0]), .gh, .keep [1, 4]]) (.seq (.seq (.reg [.op none (.mv 5 (.tmp 1)), .op none (.nilc 6 (.tmp 5)), .op none (.faddr 7 12 (.tmp 6)), .op none (.load 8 false 1 (.tmp 7)), .keep [1, 4, 8]]) (.cond (.tmp 8) (.seq (.reg [.op none (.mv 9 (.tmp 1)), .op none (.nilc 10 (.tmp 9)), .op none (.faddr 11 11 (.tmp 10)), .op none (.load 12 false 1 (.tmp 11)), .op none (.bin 13 .sub (.tmp 12) (.const (.int .i64 1))), .op none (.nilc 14 (.tmp 9)), .op none (.faddr 15 11 (.tmp 14)), .op none (.store 1 (.tmp 15) (.tmp 13)), .keep [1, 4]]) (.seq (.seq (.reg [.op none (.mv 16 (.tmp 1)), .op none (.nilc 17 (.tmp 16)), .op none (.faddr 18 11 (.tmp 17)), .op none (.load 19 false 1 (.tmp 18)), .op none (.bin 20 .gtr (.tmp 19) (.const (.int .i64 0))), .keep [1, 4, 20]]) (.cond (.tmp 20) (.seq (.reg [.op none (.build 21 [.int .i64 0, .slice none 0 0, .slice none 0 0, .int .i64 0, .int .i64 0] []), .gh, .op none (.store 5 (.tmp 4) (.tmp 21)), .keep [4]]) (.ret)) (.skip))) (.seq (.reg [.op none (.mv 22 (.tmp 1)), .op none (.mv 23 (.tmp 1)), .op none (.nilc 24 (.tmp 23)), .op none (.faddr 25 0 (.tmp 24)), .op none (.faddr 26 5 (.tmp 25)), .op none (.load 27 false 1 (.tmp 26)), .op none (.nilc 28 (.tmp 22)), .op none (.faddr 29 11 (.tmp 28)), .op none (.store 1 (.tmp 29) (.tmp 27)), .keep [1, 4]]) (.seq (.reg [.op none (.mv 30 (.tmp 1)), .op none (.nilc 31 (.tmp 30)), .op none (.faddr 32 6 (.tmp 31)), .op none (.load 33 false 1 (.tmp 32)), .op none (.build 34 [.int .i64 0, .int .u32 0, .int .i64 0] [(0, 1, .const (.int .i64 3)), (1, 1, .tmp 33), (2, 1, .const (.int .i64 0))]), .op none (.bslice 35 3 [.int .i64 0, .int .u32 0, .int .i64 0] 1 [(0, .tmp 34)]), .op none (.build 36 [.int .i64 0, .slice none 0 0, .slice none 0 0, .int .i64 0, .int .i64 0] [(1, 1, .tmp 35)]), .gh, .op none (.store 5 (.tmp 4) (.tmp 36)), .keep [4]]) (.ret))))) (.skip))) (.seq (.seq (.reg [.op none (.mv 37 (.tmp 1)), .op none (.nilc 38 (.tmp 37)), .op none (.faddr 39 8 (.tmp 38)), .op none (.load 40 false 1 (.tmp 39)), .op none (.bin 41 .eql (.tmp 40) (.const (.int .i64 0))), .keep [1, 4, 41]]) (.cond (.tmp 41) (.seq (.reg [.op none (.build 42 [.int .i64 0, .slice none 0 0, .slice none 0 0, .int .i64 0, .int .i64 0] []), .gh, .op none (.store 5 (.tmp 4) (.tmp 42)), .keep [4]]) (.ret)) (.skip))) (.seq (.reg [.op none (.mv 43 (.tmp 1)), .op none (.nilc 44 (.tmp 43)), .op none (.faddr 45 8 (.tmp 44)), .op none (.load 46 false 1 (.tmp 45)), .op none (.bin 47 .sub (.tmp 46) (.const (.int .i64 1))), .op none (.nilc 48 (.tmp 43)), .op none (.faddr 49 8 (.tmp 48)), .op none (.store 1 (.tmp 49) (.tmp 47)), .keep [1, 4]]) (.seq (.seq (.reg [.op none (.mv 50 (.tmp 1)), .op none (.nilc 51 (.tmp 50)), .op none (.faddr 52 8 (.tmp 51)), .op none (.load 53 false 1 (.tmp 52)), .op none (.bin 54 .gtr (.tmp 53) (.const (.int .i64 0))), .keep [1, 4, 54]]) (.cond (.tmp 54) (.seq (.reg [.op none (.build 55 [.int .i64 0, .slice none 0 0, .slice none 0 0, .int .i64 0, .int .i64 0] []), .gh, .op none (.store 5 (.tmp 4) (.tmp 55)), .keep [4]]) (.ret)) (.skip))) (.seq (.reg [.op none (.mv 56 (.tmp 1)), .op none (.nilc 57 (.tmp 56)), .op none (.faddr 58 10 (.tmp 57)), .op none (.load 59 false 1 (.tmp 58)), .op none (.bin 60 .add (.tmp 59) (.const (.int .i64 1))), .op none (.nilc 61 (.tmp 56)), .op none (.faddr 62 10 (.tmp 61)), .op none (.store 1 (.tmp 62) (.tmp 60)), .keep [1, 4]]) (.seq (.seq (.regD (.first (.op none (.mv 63 (.tmp 1))) (.first (.op none (.nilc 64 (.tmp 63))) (.first (.op none (.faddr 65 10 (.tmp 64))) (.first (.op none (.load 66 false 1 (.tmp 65))) (.first (.op none (.mv 67 (.tmp 1))) (.first (.op none (.nilc 68 (.tmp 67))) (.first (.op none (.faddr 69 0 (.tmp 68))) (.first (.op none (.faddr 70 4 (.tmp 69))) (.first (.op none (.load 71 false 1 (.tmp 70))) (.first (.op none (.bin 72 .eql (.tmp 66) (.tmp 71))) (.done))))))))))) [1, 4, 72]) (.cond (.tmp 72) (.seq (.reg [.op none (.mv 73 (.tmp 1)), .op none (.nilc 74 (.tmp 73)), .op none (.faddr 75 12 (.tmp 74)), .op none (.store 1 (.tmp 75) (.const (.bool true))), .keep [1, 4]]) (.seq (.reg [.op none (.mv 76 (.tmp 1)), .op none (.mv 77 (.tmp 1)), .op none (.nilc 78 (.tmp 77)), .op none (.faddr 79 0 (.tmp 78)), .op none (.faddr 80 5 (.tmp 79)), .op none (.load 81 false 1 (.tmp 80)), .op none (.nilc 82 (.tmp 76)), .op none (.faddr 83 11 (.tmp 82)), .op none (.store 1 (.tmp 83) (.tmp 81)), .keep [4]]) (.seq (.reg [.op none (.build 84 [.int .i64 0, .slice none 0 0, .slice none 0 0, .int .i64 0, .int .i64 0] [(3, 1, .const (.int .i64 1))]), .gh, .op none (.store 5 (.tmp 4) (.tmp 84)), .keep [4]]) (.ret)))) (.skip))) (.seq (.regD (.first (.op none (.mv 85 (.tmp 1))) (.first (.op none (.mv 86 (.tmp 1))) (.first (.op none (.nilc 87 (.tmp 86))) (.first (.op none (.faddr 88 9 (.tmp 87))) (.first (.op none (.load 89 false 1 (.tmp 88))) (.first (.op none (.bin 90 .mul (.const (.int .i64 2)) (.tmp 89))) (.first (.op none (.mv 91 (.tmp 1))) (.first (.op none (.nilc 92 (.tmp 91))) (.first (.op none (.faddr 93 0 (.tmp 92))) (.first (.op none (.faddr 94 3 (.tmp 93))) (.first (.op none (.load 95 false 1 (.tmp 94))) (.first (.op none (.mm 96 false [.tmp 90, .tmp 95])) (.first (.op none (.nilc 97 (.tmp 85))) (.first (.op none (.faddr 98 9 (.tmp 97))) (.alt (.op none (.store 1 (.tmp 98) (.tmp 96))) none (.done) (.stop)))))))))))))))) [1, 4]) (.seq (.reg [.op none (.mv 99 (.tmp 1)), .op none (.mv 100 (.tmp 1)), .op none (.nilc 101 (.tmp 100)), .op none (.faddr 102 9 (.tmp 101)), .op none (.load 103 false 1 (.tmp 102)), .op none (.nilc 104 (.tmp 99)), .op none (.faddr 105 8 (.tmp 104)), .op none (.store 1 (.tmp 105) (.tmp 103)), .keep [1, 4]]) (.seq (.reg [.op none (.mv 106 (.tmp 1)), .call none (some 107) 182 [.tmp 106], .op none (.build 108 [.int .i64 0, .slice none 0 0, .slice none 0 0, .int .i64 0, .int .i64 0] [(1, 1, .tmp 107)]), .gh, .op none (.store 5 (.tmp 4) (.tmp 108)), .keep [4]]) (.ret))))))))))
def r183 : List RV := [.cell 4 true 5]
theorem k183 : compC Try.prog 109 C183 (Try.f183.body.getD .skip) = some C183.erase := by kernel_rfl
theorem q183 : rvsOf Try.prog Try.f183.results.toList = some r183 := by kernel_rfl
def impl_tick_happen.f (a1_0 : Int) (a1_1 : Int) (a1_2 : Int) (a1_3 : Int) (a1_4 : Int) (a1_5 : Int) (a1_6 : Int) (l1_7 : List Int) (a1_8 : Int) (a1_9 : Int) (a1_10 : Int) (a1_11 : Int) (a1_12 : Bool) : Option (Int × (List S68) × (List Int) × Int × Int × Int × Int × Int × Int × Bool) := (if a1_12 = true then (if IntKind.i64.wrap (a1_11 - 1) > 0 then (some (0, ([] : List S68), ([] : List Int), 0, 0, a1_8, a1_9, a1_10, IntKind.i64.wrap (a1_11 - 1), a1_12)) else (some (0, ([(⟨3, a1_6, 0⟩ : S68)] : List S68), ([] : List Int), 0, 0, a1_8, a1_9, a1_10, a1_5, a1_12))) else (if a1_8 = 0 then (some (0, ([] : List S68), ([] : List Int), 0, 0, a1_8, a1_9, a1_10, a1_11, a1_12)) else (if IntKind.i64.wrap (a1_8 - 1) > 0 then (some (0, ([] : List S68), ([] : List Int), 0, 0, IntKind.i64.wrap (a1_8 - 1), a1_9, a1_10, a1_11, a1_12)) else (if IntKind.i64.wrap (a1_10 + 1) = a1_4 then (some (0, ([] : List S68), ([] : List Int), 1, 0, IntKind.i64.wrap (a1_8 - 1), a1_9, IntKind.i64.wrap (a1_10 + 1), a1_5, true)) else (impl_sender_again.f a1_0 a1_1 a1_2 a1_3 a1_4 a1_5 a1_6 l1_7 (if a1_3 < (IntKind.i64.wrap (2 * a1_9)) then a1_3 else IntKind.i64.wrap (2 * a1_9)) (if a1_3 < (IntKind.i64.wrap (2 * a1_9)) then a1_3 else IntKind.i64.wrap (2 * a1_9)) (IntKind.i64.wrap (a1_10 + 1)) a1_11 a1_12 >>= fun t44 => (some (0, t44, ([] : List Int), 0, 0, (if a1_3 < (IntKind.i64.wrap (2 * a1_9)) then a1_3 else IntKind.i64.wrap (2 * a1_9)), (if a1_3 < (IntKind.i64.wrap (2 * a1_9)) then a1_3 else IntKind.i64.wrap (2 * a1_9)), IntKind.i64.wrap (a1_10 + 1), a1_11, a1_12)))))))
theorem impl_tick_happen.tri (a1_0 : Int) (a1_1 : Int) (a1_2 : Int) (a1_3 : Int) (a1_4 : Int) (a1_5 : Int) (a1_6 : Int) (l1_7 : List Int) (a1_8 : Int) (a1_9 : Int) (a1_10 : Int) (a1_11 : Int) (a1_12 : Bool) (r : Int × (List S68) × (List Int) × Int × Int × Int × Int × Int × Int × Bool) (h : impl_tick_happen.f a1_0 a1_1 a1_2 a1_3 a1_4 a1_5 a1_6 l1_7 a1_8 a1_9 a1_10 a1_11 a1_12 = some r) : Tri Try.prog 183 [.g [], .c (.ptr (.arg 0) [] 0)] [(.arg 0, ⟨.box, 0, [.sc (.int .u32 a1_0), .sc (.int .i64 a1_1), .sc (.int .i64 a1_2), .sc (.int .i64 a1_3), .sc (.int .i64 a1_4), .sc (.int .i64 a1_5), .sc (.int .u32 a1_6), .own 1 l1_7.length (encL c_i64 l1_7), .sc (.int .i64 a1_8), .sc (.int .i64 a1_9), .sc (.int .i64 a1_10), .sc (.int .i64 a1_11), .sc (.bool a1_12)]⟩)] (fun o => o = ⟨.g [.sc (.int .i64 r.1), .ref (.res 0) [] 0 r.2.1.length, .ref (.res 1) [] 0 r.2.2.1.length, .sc (.int .i64 r.2.2.2.1), .sc (.int .i64 r.2.2.2.2.1)], [(.arg 0, ⟨.box, 0, [.sc (.int .u32 a1_0), .sc (.int .i64 a1_1), .sc (.int .i64 a1_2), .sc (.int .i64 a1_3), .sc (.int .i64 a1_4), .sc (.int .i64 a1_5), .sc (.int .u32 a1_6), .own 1 l1_7.length (encL c_i64 l1_7), .sc (.int .i64 r.2.2.2.2.2.1), .sc (.int .i64 r.2.2.2.2.2.2.1), .sc (.int .i64 r.2.2.2.2.2.2.2.1), .sc (.int .i64 r.2.2.2.2.2.2.2.2.1), .sc (.bool r.2.2.2.2.2.2.2.2.2)]⟩), (.res 0, ⟨.lst, 3, encL c68 r.2.1⟩), (.res 1, ⟨.lst, 1, encL c_i64 r.2.2.1⟩)], [], []⟩) := by
  refine tri_of_body (ac := C183) (xs := r183) Try.func183 (show Try.f183.body = some (Try.f183.body.getD .skip) from rfl) k183 q183 (Nat.le_of_ble_eq_true rfl) ?_
  refine body_of fun K hKn hKr => ?_
  unfold impl_tick_happen.f at h
  unfold C183
  simp only [initT, Nat.reduceAdd]
  refine sr_k fun J1 hJ1 => ?_
  simp +decide only [Nat.reduceAdd, Nat.reduceMul, Int.reduceToNat, ak]
  refine gho_k (Weak.own (.tmp 4 0) (cs' := [.sc (.int .i64 0), .own 3 (([] : List S68).length) (encL c68 ([] : List S68)), .own 1 (([] : List Int).length) (encL c_i64 ([] : List Int)), .sc (.int .i64 0), .sc (.int .i64 0)]) rfl ⟨.inl rfl, .inr ⟨rfl, _, rfl⟩, .inr ⟨rfl, _, rfl⟩, .inl rfl, .inl rfl, trivial⟩) ?_
  simp +decide only [Nat.reduceAdd, Nat.reduceMul, Int.reduceToNat, ak]
  refine hJ1 _ ?_
  refine seq_k fun J2 hJ2 => ?_
  refine sr_k fun J3 hJ3 => ?_
  simp +decide only [Nat.reduceAdd, Nat.reduceMul, Int.reduceToNat, ak]
  refine hJ3 _ ?_
  refine cond_k (b := a1_12) rfl (fun c4 => ?_) (fun c4 => ?_)
  · rw [if_pos c4] at h
    refine sr_k fun J5 hJ5 => ?_
    simp +decide only [Nat.reduceAdd, Nat.reduceMul, Int.reduceToNat, ak]
    refine hJ5 _ ?_
    refine seq_k fun J6 hJ6 => ?_
    refine sr_k fun J7 hJ7 => ?_
    simp +decide only [Nat.reduceAdd, Nat.reduceMul, Int.reduceToNat, ak]
    refine hJ7 _ ?_
    refine cond_k (b := decide (IntKind.i64.wrap (a1_11 - 1) > 0)) rfl (fun c8 => ?_) (fun c8 => ?_)
    · replace c8 := of_decide_eq_true c8; rw [if_pos c8] at h
      refine sr_k fun J9 hJ9 => ?_
      simp +decide only [Nat.reduceAdd, Nat.reduceMul, Int.reduceToNat, ak]
      refine gho_k ((Weak.nmg' 21 1 (.tmp 21 21) 3 (encL c68 ([] : List S68)) rfl rfl rfl rfl).trans (Weak.nmg' 21 2 (.tmp 21 22) 1 (encL c_i64 ([] : List Int)) rfl rfl rfl rfl)) ?_
      have g10 : (encL c68 ([] : List S68)).length = 0 * 3 := by simp [encL_length c68_w]
      have g11 : (encL c_i64 ([] : List Int)).length = 0 * 1 := by simp [encL_length c_i64_w]
      simp +decide only [Nat.reduceAdd, Nat.reduceMul, Int.reduceToNat, ak, g10, g11]
      refine hJ9 _ ?_
      obtain rfl := Option.some.inj h
      refine hKr _ ⟨_, rfl, [⟨(.tmp 4 0), [1], none, .lst⟩, ⟨(.tmp 4 0), [2], none, .lst⟩], _, rfl, rfl, ?_⟩
      first | rfl | (simp only [reduceCtorEq, Nat.reduceEqDiff, ak, akF]; done) | (simp [reduceCtorEq, Nat.reduceEqDiff, ak, akF] <;> omega)
    · replace c8 := of_decide_eq_false c8; rw [if_neg c8] at h
      refine hJ6 _ ?_
      refine sr_k fun J12 hJ12 => ?_
      simp +decide only [Nat.reduceAdd, Nat.reduceMul, Int.reduceToNat, ak]
      refine hJ12 _ ?_
      refine sr_k fun J13 hJ13 => ?_
      have g14 : (List.replicate 1 ([.int .i64 0, .int .u32 0, .int .i64 0] : List Value)).flatten = [.int .i64 0, .int .u32 0, .int .i64 0] := rfl
      have g15 : (⟨.lst, 3, [.sc (.int .i64 3), .sc (.int .u32 a1_6), .sc (.int .i64 0)]⟩ : Root) = ⟨.lst, 3, encL c68 ([(⟨3, a1_6, 0⟩ : S68)] : List S68)⟩ := rfl
      have g16 : ([(⟨3, a1_6, 0⟩ : S68)] : List S68).length = 1 := rfl
      simp +decide only [Nat.reduceAdd, Nat.reduceMul, Int.reduceToNat, ak, g14, g15, g16]
      refine gho_k (Weak.nmg' 36 2 (.tmp 36 22) 1 (encL c_i64 ([] : List Int)) rfl rfl rfl rfl) ?_
      have g17 : (encL c68 ([(⟨3, a1_6, 0⟩ : S68)] : List S68)).length = 1 * 3 := by simp [encL_length c68_w]
      have g18 : (encL c_i64 ([] : List Int)).length = 0 * 1 := by simp [encL_length c_i64_w]
      simp +decide only [Nat.reduceAdd, Nat.reduceMul, Int.reduceToNat, ak, g17, g18]
      refine hJ13 _ ?_
      obtain rfl := Option.some.inj h
      refine hKr _ ⟨_, rfl, [⟨(.tmp 4 0), [1], none, .lst⟩, ⟨(.tmp 4 0), [2], none, .lst⟩], _, rfl, rfl, ?_⟩
      first | rfl | (simp only [reduceCtorEq, Nat.reduceEqDiff, ak, akF]; done) | (simp [reduceCtorEq, Nat.reduceEqDiff, ak, akF] <;> omega)
  · rw [if_neg (Bool.eq_false_iff.1 c4)] at h
    refine hJ2 _ ?_
    refine seq_k fun J19 hJ19 => ?_
    refine sr_k fun J20 hJ20 => ?_
    simp +decide only [Nat.reduceAdd, Nat.reduceMul, Int.reduceToNat, ak]
    refine hJ20 _ ?_
    refine cond_k (b := decide (a1_8 = 0)) rfl (fun c21 => ?_) (fun c21 => ?_)
    · replace c21 := of_decide_eq_true c21; rw [if_pos c21] at h
      refine sr_k fun J22 hJ22 => ?_
      simp +decide only [Nat.reduceAdd, Nat.reduceMul, Int.reduceToNat, ak]
      refine gho_k ((Weak.nmg' 42 1 (.tmp 42 21) 3 (encL c68 ([] : List S68)) rfl rfl rfl rfl).trans (Weak.nmg' 42 2 (.tmp 42 22) 1 (encL c_i64 ([] : List Int)) rfl rfl rfl rfl)) ?_
      have g23 : (encL c68 ([] : List S68)).length = 0 * 3 := by simp [encL_length c68_w]
      have g24 : (encL c_i64 ([] : List Int)).length = 0 * 1 := by simp [encL_length c_i64_w]
      simp +decide only [Nat.reduceAdd, Nat.reduceMul, Int.reduceToNat, ak, g23, g24]
      refine hJ22 _ ?_
      obtain rfl := Option.some.inj h
      refine hKr _ ⟨_, rfl, [⟨(.tmp 4 0), [1], none, .lst⟩, ⟨(.tmp 4 0), [2], none, .lst⟩], _, rfl, rfl, ?_⟩
      first | rfl | (simp only [reduceCtorEq, Nat.reduceEqDiff, ak, akF]; done) | (simp [reduceCtorEq, Nat.reduceEqDiff, ak, akF] <;> omega)
    · replace c21 := of_decide_eq_false c21; rw [if_neg c21] at h
      refine hJ19 _ ?_
      refine sr_k fun J25 hJ25 => ?_
      simp +decide only [Nat.reduceAdd, Nat.reduceMul, Int.reduceToNat, ak]
      refine hJ25 _ ?_
      refine seq_k fun J26 hJ26 => ?_
      refine sr_k fun J27 hJ27 => ?_
      simp +decide only [Nat.reduceAdd, Nat.reduceMul, Int.reduceToNat, ak]
      refine hJ27 _ ?_
      refine cond_k (b := decide (IntKind.i64.wrap (a1_8 - 1) > 0)) rfl (fun c28 => ?_) (fun c28 => ?_)
      · replace c28 := of_decide_eq_true c28; rw [if_pos c28] at h
        refine sr_k fun J29 hJ29 => ?_
        simp +decide only [Nat.reduceAdd, Nat.reduceMul, Int.reduceToNat, ak]
        refine gho_k ((Weak.nmg' 55 1 (.tmp 55 21) 3 (encL c68 ([] : List S68)) rfl rfl rfl rfl).trans (Weak.nmg' 55 2 (.tmp 55 22) 1 (encL c_i64 ([] : List Int)) rfl rfl rfl rfl)) ?_
        have g30 : (encL c68 ([] : List S68)).length = 0 * 3 := by simp [encL_length c68_w]
        have g31 : (encL c_i64 ([] : List Int)).length = 0 * 1 := by simp [encL_length c_i64_w]
        simp +decide only [Nat.reduceAdd, Nat.reduceMul, Int.reduceToNat, ak, g30, g31]
        refine hJ29 _ ?_
        obtain rfl := Option.some.inj h
        refine hKr _ ⟨_, rfl, [⟨(.tmp 4 0), [1], none, .lst⟩, ⟨(.tmp 4 0), [2], none, .lst⟩], _, rfl, rfl, ?_⟩
        first | rfl | (simp only [reduceCtorEq, Nat.reduceEqDiff, ak, akF]; done) | (simp [reduceCtorEq, Nat.reduceEqDiff, ak, akF] <;> omega)
      · replace c28 := of_decide_eq_false c28; rw [if_neg c28] at h
        refine hJ26 _ ?_
        refine sr_k fun J32 hJ32 => ?_
        simp +decide only [Nat.reduceAdd, Nat.reduceMul, Int.reduceToNat, ak]
        refine hJ32 _ ?_
        refine seq_k fun J33 hJ33 => ?_
        refine sd_k fun J34 hJ34 => ?_
        simp +decide only [Nat.reduceAdd, Nat.reduceMul, Int.reduceToNat, ak]
        refine hJ34 _ ?_
        refine cond_k (b := decide (IntKind.i64.wrap (a1_10 + 1) = a1_4)) rfl (fun c35 => ?_) (fun c35 => ?_)
        · replace c35 := of_decide_eq_true c35; rw [if_pos c35] at h
          refine sr_k fun J36 hJ36 => ?_
          simp +decide only [Nat.reduceAdd, Nat.reduceMul, Int.reduceToNat, ak]
          refine hJ36 _ ?_
          refine sr_k fun J37 hJ37 => ?_
          simp +decide only [Nat.reduceAdd, Nat.reduceMul, Int.reduceToNat, ak]
          refine hJ37 _ ?_
          refine sr_k fun J38 hJ38 => ?_
          simp +decide only [Nat.reduceAdd, Nat.reduceMul, Int.reduceToNat, ak]
          refine gho_k ((Weak.nmg' 84 1 (.tmp 84 21) 3 (encL c68 ([] : List S68)) rfl rfl rfl rfl).trans (Weak.nmg' 84 2 (.tmp 84 22) 1 (encL c_i64 ([] : List Int)) rfl rfl rfl rfl)) ?_
          have g39 : (encL c68 ([] : List S68)).length = 0 * 3 := by simp [encL_length c68_w]
          have g40 : (encL c_i64 ([] : List Int)).length = 0 * 1 := by simp [encL_length c_i64_w]
          simp +decide only [Nat.reduceAdd, Nat.reduceMul, Int.reduceToNat, ak, g39, g40]
          refine hJ38 _ ?_
          obtain rfl := Option.some.inj h
          refine hKr _ ⟨_, rfl, [⟨(.tmp 4 0), [1], none, .lst⟩, ⟨(.tmp 4 0), [2], none, .lst⟩], _, rfl, rfl, ?_⟩
          first | rfl | (simp only [reduceCtorEq, Nat.reduceEqDiff, ak, akF]; done) | (simp [reduceCtorEq, Nat.reduceEqDiff, ak, akF] <;> omega)
        · replace c35 := of_decide_eq_false c35; rw [if_neg c35] at h
          refine hJ33 _ ?_
          refine sd_k fun J41 hJ41 => ?_
          simp +decide only [Nat.reduceAdd, Nat.reduceMul, Int.reduceToNat, ak, mmF, mm2, scv, List.foldl]
          refine alt_e ?_
          · simp +decide only [Nat.reduceAdd, Nat.reduceMul, Int.reduceToNat, ak]
            refine hJ41 _ ?_
            refine sr_k fun J42 hJ42 => ?_
            simp +decide only [Nat.reduceAdd, Nat.reduceMul, Int.reduceToNat, ak]
            refine hJ42 _ ?_
            refine sr_k fun J43 hJ43 => ?_
            simp +decide only [Nat.reduceAdd, Nat.reduceMul, Int.reduceToNat, ak]
            obtain ⟨t44, h45, h⟩ := of_bind h
            refine call_m [(.arg 0, ⟨(.arg 0), [], none, .box⟩)] (s0 := [(.arg 0, ⟨.box, 0, [.sc (.int .u32 a1_0), .sc (.int .i64 a1_1), .sc (.int .i64 a1_2), .sc (.int .i64 a1_3), .sc (.int .i64 a1_4), .sc (.int .i64 a1_5), .sc (.int .u32 a1_6), .own 1 l1_7.length (encL c_i64 l1_7), .sc (.int .i64 (if a1_3 < (IntKind.i64.wrap (2 * a1_9)) then a1_3 else IntKind.i64.wrap (2 * a1_9))), .sc (.int .i64 (if a1_3 < (IntKind.i64.wrap (2 * a1_9)) then a1_3 else IntKind.i64.wrap (2 * a1_9))), .sc (.int .i64 (IntKind.i64.wrap (a1_10 + 1))), .sc (.int .i64 a1_11), .sc (.bool a1_12)]⟩)]) (by intro t ht; cases ht; decide) rfl rfl (by first | rfl | simp only [reduceCtorEq, Nat.reduceEqDiff, ak, akF]) (impl_sender_again.tri a1_0 a1_1 a1_2 a1_3 a1_4 a1_5 a1_6 l1_7 (if a1_3 < (IntKind.i64.wrap (2 * a1_9)) then a1_3 else IntKind.i64.wrap (2 * a1_9)) (if a1_3 < (IntKind.i64.wrap (2 * a1_9)) then a1_3 else IntKind.i64.wrap (2 * a1_9)) (IntKind.i64.wrap (a1_10 + 1)) a1_11 a1_12 _ h45) (by first | rfl | simp only [reduceCtorEq, Nat.reduceEqDiff, ak, akF]) (by simp [bkOk2, memK]) (fun hl45 => ?_)
            refine call_st (s4 := [(.arg 0, ⟨.box, 0, [.sc (.int .u32 a1_0), .sc (.int .i64 a1_1), .sc (.int .i64 a1_2), .sc (.int .i64 a1_3), .sc (.int .i64 a1_4), .sc (.int .i64 a1_5), .sc (.int .u32 a1_6), .own 1 l1_7.length (encL c_i64 l1_7), .sc (.int .i64 (if a1_3 < (IntKind.i64.wrap (2 * a1_9)) then a1_3 else IntKind.i64.wrap (2 * a1_9))), .sc (.int .i64 (if a1_3 < (IntKind.i64.wrap (2 * a1_9)) then a1_3 else IntKind.i64.wrap (2 * a1_9))), .sc (.int .i64 (IntKind.i64.wrap (a1_10 + 1))), .sc (.int .i64 a1_11), .sc (.bool a1_12)]⟩), (.tmp 2 0, ⟨.box, 0, []⟩), (.tmp 4 0, ⟨.box, 0, [.sc (.int .i64 0), .own 3 (([] : List S68).length) (encL c68 ([] : List S68)), .own 1 (([] : List Int).length) (encL c_i64 ([] : List Int)), .sc (.int .i64 0), .sc (.int .i64 0)]⟩), (.tmp 107 0, ⟨.lst, 3, encL c68 t44⟩)]) (m1' := []) (m2' := []) (v' := .c (.ref (.tmp 107 0) [] 0 t44.length)) (Sto.mapN_killNil _ _) (mrgL_whole (new' := [.sc (.int .u32 a1_0), .sc (.int .i64 a1_1), .sc (.int .i64 a1_2), .sc (.int .i64 a1_3), .sc (.int .i64 a1_4), .sc (.int .i64 a1_5), .sc (.int .u32 a1_6), .own 1 l1_7.length (encL c_i64 l1_7), .sc (.int .i64 (if a1_3 < (IntKind.i64.wrap (2 * a1_9)) then a1_3 else IntKind.i64.wrap (2 * a1_9))), .sc (.int .i64 (if a1_3 < (IntKind.i64.wrap (2 * a1_9)) then a1_3 else IntKind.i64.wrap (2 * a1_9))), .sc (.int .i64 (IntKind.i64.wrap (a1_10 + 1))), .sc (.int .i64 a1_11), .sc (.bool a1_12)]) (mrgL_nil' _ _ _) rfl (by rfl) (.inl ⟨rfl, by first | rfl | simp only [reduceCtorEq, Nat.reduceEqDiff, ak, akF, Nat.zero_add, List.append_nil]⟩)) (by rfl) (mapT_killNil _ _) (by rfl) (by rfl) (by first | rfl | simp only [reduceCtorEq, Nat.reduceEqDiff, ak, akF, Nat.zero_add, List.append_nil]) ?_
            simp +decide only [Nat.reduceAdd, Nat.reduceMul, Int.reduceToNat, ak]
            refine gho_k (Weak.nmg' 108 2 (.tmp 108 22) 1 (encL c_i64 ([] : List Int)) rfl rfl rfl rfl) ?_
            have g47 : (encL c68 t44).length = t44.length * 3 := by simp [encL_length c68_w]
            have g48 : (encL c_i64 ([] : List Int)).length = 0 * 1 := by simp [encL_length c_i64_w]
            simp +decide only [Nat.reduceAdd, Nat.reduceMul, Int.reduceToNat, ak, g47, g48]
            refine hJ43 _ ?_
            obtain rfl := Option.some.inj h
            refine hKr _ ⟨_, rfl, [⟨(.tmp 4 0), [1], none, .lst⟩, ⟨(.tmp 4 0), [2], none, .lst⟩], _, rfl, rfl, ?_⟩
            first | rfl | (simp only [reduceCtorEq, Nat.reduceEqDiff, ak, akF]; done) | (simp [reduceCtorEq, Nat.reduceEqDiff, ak, akF] <;> omega)
/-! ### (*impl.sender).act: function 133 -/
def C133v1i223 : AC := .seq (.reg [.op none (.alloc 4 [.int .i64 0, .slice none 0 0, .slice none 0 0, .int .i64 0, .int .i64 0]), .gh, .keep [0, 1, 4]]) (.seq (.reg [.op none (.mv 5 (.tmp 1)), .op none (.mv 6 (.tmp 0)), .callv none (some 7) (.invoke (.tmp 5) "loop.example/s03010/impl.happen") [.tmp 6], .op none (.store 5 (.tmp 4) (.tmp 7)), .keep [4]]) (.ret))
def r133v1i223 : List RV := [.cell 4 true 5]
theorem k133v1i223 : compC Try.prog 8 C133v1i223 (Try.f133.body.getD .skip) = some C133v1i223.erase := by kernel_rfl
theorem q133v1i223 : rvsOf Try.prog Try.f133.results.toList = some r133v1i223 := by kernel_rfl
def impl_sender_act_v1i223.f (a0_0 : Int) (a0_1 : Int) (a0_2 : Int) (a0_3 : Int) (a0_4 : Int) (a0_5 : Int) (a0_6 : Int) (l0_7 : List Int) (a0_8 : Int) (a0_9 : Int) (a0_10 : Int) (a0_11 : Int) (a0_12 : Bool) : Option (Int × (List S68) × (List Int) × Int × Int × Int × Int × Int × Int × Bool) := (impl_tick_happen.f a0_0 a0_1 a0_2 a0_3 a0_4 a0_5 a0_6 l0_7 a0_8 a0_9 a0_10 a0_11 a0_12 >>= fun t3 => (some (t3.1, t3.2.1, t3.2.2.1, t3.2.2.2.1, t3.2.2.2.2.1, t3.2.2.2.2.2.1, t3.2.2.2.2.2.2.1, t3.2.2.2.2.2.2.2.1, t3.2.2.2.2.2.2.2.2.1, t3.2.2.2.2.2.2.2.2.2)))
theorem impl_sender_act_v1i223.tri (a0_0 : Int) (a0_1 : Int) (a0_2 : Int) (a0_3 : Int) (a0_4 : Int) (a0_5 : Int) (a0_6 : Int) (l0_7 : List Int) (a0_8 : Int) (a0_9 : Int) (a0_10 : Int) (a0_11 : Int) (a0_12 : Bool) (r : Int × (List S68) × (List Int) × Int × Int × Int × Int × Int × Int × Bool) (h : impl_sender_act_v1i223.f a0_0 a0_1 a0_2 a0_3 a0_4 a0_5 a0_6 l0_7 a0_8 a0_9 a0_10 a0_11 a0_12 = some r) : Tri Try.prog 133 [.c (.ptr (.arg 0) [] 0), .c (.sc (.iface 223 (.agg #[])))] [(.arg 0, ⟨.box, 0, [.sc (.int .u32 a0_0), .sc (.int .i64 a0_1), .sc (.int .i64 a0_2), .sc (.int .i64 a0_3), .sc (.int .i64 a0_4), .sc (.int .i64 a0_5), .sc (.int .u32 a0_6), .own 1 l0_7.length (encL c_i64 l0_7), .sc (.int .i64 a0_8), .sc (.int .i64 a0_9), .sc (.int .i64 a0_10), .sc (.int .i64 a0_11), .sc (.bool a0_12)]⟩)] (fun o => o = ⟨.g [.sc (.int .i64 r.1), .ref (.res 0) [] 0 r.2.1.length, .ref (.res 1) [] 0 r.2.2.1.length, .sc (.int .i64 r.2.2.2.1), .sc (.int .i64 r.2.2.2.2.1)], [(.arg 0, ⟨.box, 0, [.sc (.int .u32 a0_0), .sc (.int .i64 a0_1), .sc (.int .i64 a0_2), .sc (.int .i64 a0_3), .sc (.int .i64 a0_4), .sc (.int .i64 a0_5), .sc (.int .u32 a0_6), .own 1 l0_7.length (encL c_i64 l0_7), .sc (.int .i64 r.2.2.2.2.2.1), .sc (.int .i64 r.2.2.2.2.2.2.1), .sc (.int .i64 r.2.2.2.2.2.2.2.1), .sc (.int .i64 r.2.2.2.2.2.2.2.2.1), .sc (.bool r.2.2.2.2.2.2.2.2.2)]⟩), (.res 0, ⟨.lst, 3, encL c68 r.2.1⟩), (.res 1, ⟨.lst, 1, encL c_i64 r.2.2.1⟩)], [], []⟩) := by
  refine tri_of_body (ac := C133v1i223) (xs := r133v1i223) Try.func133 (show Try.f133.body = some (Try.f133.body.getD .skip) from rfl) k133v1i223 q133v1i223 (Nat.le_of_ble_eq_true rfl) ?_
  refine body_of fun K hKn hKr => ?_
  unfold impl_sender_act_v1i223.f at h
  unfold C133v1i223
  simp only [initT, Nat.reduceAdd]
  refine sr_k fun J1 hJ1 => ?_
  simp +decide only [Nat.reduceAdd, Nat.reduceMul, Int.reduceToNat, ak]
  refine gho_k (Weak.own (.tmp 4 0) (cs' := [.sc (.int .i64 0), .own 3 (([] : List S68).length) (encL c68 ([] : List S68)), .own 1 (([] : List Int).length) (encL c_i64 ([] : List Int)), .sc (.int .i64 0), .sc (.int .i64 0)]) rfl ⟨.inl rfl, .inr ⟨rfl, _, rfl⟩, .inr ⟨rfl, _, rfl⟩, .inl rfl, .inl rfl, trivial⟩) ?_
  simp +decide only [Nat.reduceAdd, Nat.reduceMul, Int.reduceToNat, ak]
  refine hJ1 _ ?_
  refine sr_k fun J2 hJ2 => ?_
  simp +decide only [Nat.reduceAdd, Nat.reduceMul, Int.reduceToNat, ak]
  obtain ⟨t3, h4, h⟩ := of_bind h
  refine callv_iface (f := 183) (fn := Try.f183) (t := 223) (v := (.agg #[])) (recv := (.agg #[])) rfl (fun w => by kernel_rfl) Try.func183 (by kernel_rfl) (by decide) ?_
  refine call_m [(.arg 0, ⟨(.arg 0), [], none, .box⟩)] (s0 := [(.arg 0, ⟨.box, 0, [.sc (.int .u32 a0_0), .sc (.int .i64 a0_1), .sc (.int .i64 a0_2), .sc (.int .i64 a0_3), .sc (.int .i64 a0_4), .sc (.int .i64 a0_5), .sc (.int .u32 a0_6), .own 1 l0_7.length (encL c_i64 l0_7), .sc (.int .i64 a0_8), .sc (.int .i64 a0_9), .sc (.int .i64 a0_10), .sc (.int .i64 a0_11), .sc (.bool a0_12)]⟩)]) (by intro t ht; cases ht; decide) rfl rfl (by first | rfl | simp only [reduceCtorEq, Nat.reduceEqDiff, ak, akF]) (impl_tick_happen.tri a0_0 a0_1 a0_2 a0_3 a0_4 a0_5 a0_6 l0_7 a0_8 a0_9 a0_10 a0_11 a0_12 _ h4) (by first | rfl | simp only [reduceCtorEq, Nat.reduceEqDiff, ak, akF]) (by simp [bkOk2, memK]) (fun hl4 => ?_)
  refine call_st (s4 := [(.arg 0, ⟨.box, 0, [.sc (.int .u32 a0_0), .sc (.int .i64 a0_1), .sc (.int .i64 a0_2), .sc (.int .i64 a0_3), .sc (.int .i64 a0_4), .sc (.int .i64 a0_5), .sc (.int .u32 a0_6), .own 1 l0_7.length (encL c_i64 l0_7), .sc (.int .i64 t3.2.2.2.2.2.1), .sc (.int .i64 t3.2.2.2.2.2.2.1), .sc (.int .i64 t3.2.2.2.2.2.2.2.1), .sc (.int .i64 t3.2.2.2.2.2.2.2.2.1), .sc (.bool t3.2.2.2.2.2.2.2.2.2)]⟩), (.tmp 4 0, ⟨.box, 0, [.sc (.int .i64 0), .own 3 (([] : List S68).length) (encL c68 ([] : List S68)), .own 1 (([] : List Int).length) (encL c_i64 ([] : List Int)), .sc (.int .i64 0), .sc (.int .i64 0)]⟩), (.tmp 7 1, ⟨.lst, 1, encL c_i64 t3.2.2.1⟩), (.tmp 7 0, ⟨.lst, 3, encL c68 t3.2.1⟩)]) (m1' := []) (m2' := []) (v' := .g [.sc (.int .i64 t3.1), .ref (.tmp 7 0) [] 0 t3.2.1.length, .ref (.tmp 7 1) [] 0 t3.2.2.1.length, .sc (.int .i64 t3.2.2.2.1), .sc (.int .i64 t3.2.2.2.2.1)]) (Sto.mapN_killNil _ _) (mrgL_whole (new' := [.sc (.int .u32 a0_0), .sc (.int .i64 a0_1), .sc (.int .i64 a0_2), .sc (.int .i64 a0_3), .sc (.int .i64 a0_4), .sc (.int .i64 a0_5), .sc (.int .u32 a0_6), .own 1 l0_7.length (encL c_i64 l0_7), .sc (.int .i64 t3.2.2.2.2.2.1), .sc (.int .i64 t3.2.2.2.2.2.2.1), .sc (.int .i64 t3.2.2.2.2.2.2.2.1), .sc (.int .i64 t3.2.2.2.2.2.2.2.2.1), .sc (.bool t3.2.2.2.2.2.2.2.2.2)]) (mrgL_nil' _ _ _) rfl (by rfl) (.inl ⟨rfl, by first | rfl | simp only [reduceCtorEq, Nat.reduceEqDiff, ak, akF, Nat.zero_add, List.append_nil]⟩)) (by rfl) (mapT_killNil _ _) (by rfl) (by rfl) (by first | rfl | simp only [reduceCtorEq, Nat.reduceEqDiff, ak, akF, Nat.zero_add, List.append_nil]) ?_
  have g6 : (encL c68 t3.2.1).length = t3.2.1.length * 3 := by simp [encL_length c68_w]
  have g7 : (encL c_i64 t3.2.2.1).length = t3.2.2.1.length * 1 := by simp [encL_length c_i64_w]
  simp +decide only [Nat.reduceAdd, Nat.reduceMul, Int.reduceToNat, ak, g6, g7]
  refine hJ2 _ ?_
  obtain rfl := Option.some.inj h
  refine hKr _ ⟨_, rfl, [⟨(.tmp 4 0), [1], none, .lst⟩, ⟨(.tmp 4 0), [2], none, .lst⟩], _, rfl, rfl, ?_⟩
  first | rfl | (simp only [reduceCtorEq, Nat.reduceEqDiff, ak, akF]; done) | (simp [reduceCtorEq, Nat.reduceEqDiff, ak, akF] <;> omega)
end Go.AK
