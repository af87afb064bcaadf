-- by a program of this session (wip/ak/pw.py)
import Derived.Test.YtlladicdmmdboaaUFnSubRecv0
set_option synthInstance.maxSize 20000
set_option synthInstance.maxHeartbeats 400000
set_option maxRecDepth 100000
set_option maxHeartbeats 4000000
set_option linter.unusedVariables false
set_option linter.unusedSimpArgs false
namespace Go.AK
open Go Go.Proofs
/-! ### spec.SubRun: function 30 -/
def C30 : AC := .sr [.o (.box 2 (.t 0)), .o (.mv 4 (.const (.slice none 0 0))), .gh, .o (.mv 5 (.k 0)), .keep [1, 2]] (.sr [.o (.load 10 true 6 (.t 2)), .m 11 1, .call none (some 12) 86 [.tmp 10, .tmp 11], .m 9 12, .o (.extr 13 (.t 9) 0), .o (.extr 14 (.t 9) 1), .o (.extr 15 (.t 9) 2), .o (.alloc 6 [.int .u32 0, .int .i64 0, .int .i64 0, .int .i64 0, .int .i64 0, .int .i64 0, .slice none 0 0, .int .i64 0, .int .i64 0, .int .i64 0, .int .i64 0, .int .i64 0, .bool false]), .gh, .st 13 6 13, .m 7 14, .m 8 15, .keep [7, 8]] (.sr [.m 16 7, .m 17 8, .m 4 16, .m 5 17, .keep [4, 5]] (.ret)))
def r30 : List RV := [.tmp 4, .tmp 5]
theorem k30 : compC Try.prog 18 C30 (Try.f30.body.getD .skip) = some C30.erase := by kernel_rfl
theorem q30 : rvsOf Try.prog Try.f30.results.toList = some r30 := by kernel_rfl
def spec_SubRun.f (a0_0 : Int) (a0_1 : Int) (a0_2 : Int) (a0_3 : Int) (a0_4 : Int) (a0_5 : Int) (l1 : List S63) : Option ((List S66) × Int) := (spec_l4Run.f a0_0 a0_1 a0_2 a0_3 a0_4 a0_5 l1 >>= fun t3 => (some (t3.2.2.2.2.2.2.2.2.2.2.2.2.2.1, t3.2.2.2.2.2.2.2.2.2.2.2.2.2.2)))
theorem spec_SubRun.tri (cs0 : List Cell) (o0 : Nat) (l1 : List S63) (hv0 : Vw c63 3 cs0 o0 l1) (a0_0 : Int) (a0_1 : Int) (a0_2 : Int) (a0_3 : Int) (a0_4 : Int) (a0_5 : Int) (r : (List S66) × Int) (h : spec_SubRun.f a0_0 a0_1 a0_2 a0_3 a0_4 a0_5 l1 = some r) : Tri Try.prog 30 [.g [.sc (.int .u32 a0_0), .sc (.int .i64 a0_1), .sc (.int .i64 a0_2), .sc (.int .i64 a0_3), .sc (.int .i64 a0_4), .sc (.int .i64 a0_5)], .c (.ref (.arg 0) [] o0 l1.length)] [(.arg 0, ⟨.fz, 3, cs0⟩)] (fun o => o = ⟨.tup [(false, [.ref (.res 0) [] 0 r.1.length]), (false, [.sc (.int .i64 r.2)])], [(.arg 0, ⟨.fz, 3, cs0⟩), (.res 0, ⟨.lst, 5, encL c66 r.1⟩)], [], []⟩) := by
 refine tri_of_body (ac := C30) (xs := r30) Try.func30 (show Try.f30.body = some (Try.f30.body.getD .skip) from rfl) k30 q30 (Nat.le_of_ble_eq_true rfl) ?_
 refine body_of fun K hKn hKr => ?_
 unfold spec_SubRun.f at h
 unfold C30
 simp only [initT, Nat.reduceAdd]
 refine sr_k fun J1 hJ1 => ?_
 simp +decide only [Nat.reduceAdd, Nat.reduceMul, Int.reduceToNat, ak]
 refine gho_k (Weak.nm' 4 (.tmp 4 20) 5 (encL c66 ([] : List S66)) rfl rfl rfl) ?_
 simp +decide only [Nat.reduceAdd, Nat.reduceMul, Int.reduceToNat, ak]
 refine hJ1 _ ?_
 refine sr_k fun J2 hJ2 => ?_
 simp +decide only [Nat.reduceAdd, Nat.reduceMul, Int.reduceToNat, ak]
 obtain ⟨t3, h4, h⟩ := of_bind h
 refine cm [pI (.arg 0) .fz] (spec_l4Run.tri (cs0) o0 l1 hv0 a0_0 a0_1 a0_2 a0_3 a0_4 a0_5 _ h4) (fun hl4 => ?_)
 refine ct (.tup [(true, [.sc (.int .u32 t3.1), .sc (.int .i64 t3.2.1), .sc (.int .i64 t3.2.2.1), .sc (.int .i64 t3.2.2.2.1), .sc (.int .i64 t3.2.2.2.2.1), .sc (.int .i64 t3.2.2.2.2.2.1), .ref (.tmp 12 0) [] 0 t3.2.2.2.2.2.2.1.length, .sc (.int .i64 t3.2.2.2.2.2.2.2.1), .sc (.int .i64 t3.2.2.2.2.2.2.2.2.1), .sc (.int .i64 t3.2.2.2.2.2.2.2.2.2.1), .sc (.int .i64 t3.2.2.2.2.2.2.2.2.2.2.1), .sc (.int .i64 t3.2.2.2.2.2.2.2.2.2.2.2.1), .sc (.bool t3.2.2.2.2.2.2.2.2.2.2.2.2.1)]), (false, [.ref (.tmp 12 1) [] 0 t3.2.2.2.2.2.2.2.2.2.2.2.2.2.1.length]), (false, [.sc (.int .i64 t3.2.2.2.2.2.2.2.2.2.2.2.2.2.2)])]) (mF (mN ..)) ?_ (s4 := [(.arg 0, ⟨.fz, 3, cs0⟩), (.tmp 2 0, ⟨.box, 0, [.sc (.int .u32 a0_0), .sc (.int .i64 a0_1), .sc (.int .i64 a0_2), .sc (.int .i64 a0_3), .sc (.int .i64 a0_4), .sc (.int .i64 a0_5)]⟩), (.tmp 4 20, ⟨.lst, 5, encL c66 ([] : List S66)⟩), (.tmp 12 1, ⟨.lst, 5, encL c66 t3.2.2.2.2.2.2.2.2.2.2.2.2.2.1⟩), (.tmp 12 0, ⟨.lst, 1, encL c_i64 t3.2.2.2.2.2.2.1⟩)])
 simp +decide only [Nat.reduceAdd, Nat.reduceMul, Int.reduceToNat, ak]
 refine gho_k (Weak.own (.tmp 6 0) (cs' := [.sc (.int .u32 0), .sc (.int .i64 0), .sc (.int .i64 0), .sc (.int .i64 0), .sc (.int .i64 0), .sc (.int .i64 0), .own 1 (([] : List Int).length) (encL c_i64 ([] : List Int)), .sc (.int .i64 0), .sc (.int .i64 0), .sc (.int .i64 0), .sc (.int .i64 0), .sc (.int .i64 0), .sc (.bool false)]) rfl ⟨.inl rfl, .inl rfl, .inl rfl, .inl rfl, .inl rfl, .inl rfl, .inr ⟨rfl, _, rfl⟩, .inl rfl, .inl rfl, .inl rfl, .inl rfl, .inl rfl, .inl rfl, trivial⟩) ?_
 have g6 : (encL c_i64 t3.2.2.2.2.2.2.1).length = t3.2.2.2.2.2.2.1.length * 1 := by simp [encL_length c_i64_w]
 simp +decide only [Nat.reduceAdd, Nat.reduceMul, Int.reduceToNat, ak, g6]
 refine hJ2 _ ?_
 refine sr_k fun J7 hJ7 => ?_
 simp +decide only [Nat.reduceAdd, Nat.reduceMul, Int.reduceToNat, ak]
 refine hJ7 _ ?_
 obtain rfl := Option.some.inj h
 refine hKr _ ⟨_, rfl, [⟨(.tmp 12 1), [], none, .lst⟩], _, rfl, rfl, ?_⟩
 exact cl
/-! ### impl.validSub: function 131 -/
def C131 : AC := .sr [.o (.box 1 (.t 0)), .o (.mv 2 (.const (.bool false))), .keep [1]] (.sr [.fa 3 1 1, .ld 4 1 3, .o (.bin 5 .geq (.t 4) (.k 1)), .m 6 5, .op (some (6, true)) (.faddr 7 1 (.t 1)), .op (some (6, true)) (.load 8 false 1 (.t 7)), .op (some (6, true)) (.bin 9 .leq (.t 8) (.k 16)), .o (.pick 10 (.t 6) (.t 9) (.const (.bool false))), .m 11 10, .op (some (11, true)) (.faddr 12 2 (.t 1)), .op (some (11, true)) (.load 13 false 1 (.t 12)), .op (some (11, true)) (.bin 14 .geq (.t 13) (.k 1)), .o (.pick 15 (.t 11) (.t 14) (.const (.bool false))), .m 16 15, .op (some (16, true)) (.faddr 17 2 (.t 1)), .op (some (16, true)) (.load 18 false 1 (.t 17)), .op (some (16, true)) (.bin 19 .leq (.t 18) (.k 50)), .o (.pick 20 (.t 16) (.t 19) (.const (.bool false))), .m 21 20, .op (some (21, true)) (.faddr 22 3 (.t 1)), .op (some (21, true)) (.load 23 false 1 (.t 22)), .op (some (21, true)) (.faddr 24 2 (.t 1)), .op (some (21, true)) (.load 25 false 1 (.t 24)), .op (some (21, true)) (.bin 26 .geq (.t 23) (.t 25)), .o (.pick 27 (.t 21) (.t 26) (.const (.bool false))), .m 28 27, .op (some (28, true)) (.faddr 29 3 (.t 1)), .op (some (28, true)) (.load 30 false 1 (.t 29)), .op (some (28, true)) (.bin 31 .leq (.t 30) (.k 400)), .o (.pick 32 (.t 28) (.t 31) (.const (.bool false))), .m 33 32, .op (some (33, true)) (.faddr 34 4 (.t 1)), .op (some (33, true)) (.load 35 false 1 (.t 34)), .op (some (33, true)) (.bin 36 .geq (.t 35) (.k 1)), .o (.pick 37 (.t 33) (.t 36) (.const (.bool false))), .m 38 37, .op (some (38, true)) (.faddr 39 4 (.t 1)), .op (some (38, true)) (.load 40 false 1 (.t 39)), .op (some (38, true)) (.bin 41 .leq (.t 40) (.k 8)), .o (.pick 42 (.t 38) (.t 41) (.const (.bool false))), .m 43 42, .op (some (43, true)) (.faddr 44 5 (.t 1)), .op (some (43, true)) (.load 45 false 1 (.t 44)), .op (some (43, true)) (.bin 46 .geq (.t 45) (.k 1)), .o (.pick 47 (.t 43) (.t 46) (.const (.bool false))), .m 48 47, .op (some (48, true)) (.faddr 49 5 (.t 1)), .op (some (48, true)) (.load 50 false 1 (.t 49)), .op (some (48, true)) (.bin 51 .leq (.t 50) (.k 50)), .o (.pick 52 (.t 48) (.t 51) (.const (.bool false))), .m 2 52, .keep [2]] (.ret))
def r131 : List RV := [.tmp 2]
theorem k131 : compC Try.prog 53 C131 (Try.f131.body.getD .skip) = some C131.erase := by kernel_rfl
theorem q131 : rvsOf Try.prog Try.f131.results.toList = some r131 := by kernel_rfl
def impl_validSub.f (a0_0 : Int) (a0_1 : Int) (a0_2 : Int) (a0_3 : Int) (a0_4 : Int) (a0_5 : Int) : Option Bool := (if a0_1 ≥ 1 then (if a0_1 ≤ 16 then (if a0_2 ≥ 1 then (if a0_2 ≤ 50 then (if a0_3 ≥ a0_2 then (if a0_3 ≤ 400 then (if a0_4 ≥ 1 then (if a0_4 ≤ 8 then (if a0_5 ≥ 1 then (some (decide (a0_5 ≤ 50))) else (some false)) else (some false)) else (some false)) else (some false)) else (some false)) else (some false)) else (some false)) else (some false)) else (some false))
theorem impl_validSub.tri (a0_0 : Int) (a0_1 : Int) (a0_2 : Int) (a0_3 : Int) (a0_4 : Int) (a0_5 : Int) (r : Bool) (h : impl_validSub.f a0_0 a0_1 a0_2 a0_3 a0_4 a0_5 = some r) : Tri Try.prog 131 [.g [.sc (.int .u32 a0_0), .sc (.int .i64 a0_1), .sc (.int .i64 a0_2), .sc (.int .i64 a0_3), .sc (.int .i64 a0_4), .sc (.int .i64 a0_5)]] [] (fun o => o = ⟨.c (.sc (.bool r)), [], [], []⟩) := by
 refine tri_of_body (ac := C131) (xs := r131) Try.func131 (show Try.f131.body = some (Try.f131.body.getD .skip) from rfl) k131 q131 (Nat.le_of_ble_eq_true rfl) ?_
 refine body_of fun K hKn hKr => ?_
 unfold impl_validSub.f at h
 unfold C131
 simp only [initT, Nat.reduceAdd]
 refine sr_k fun J1 hJ1 => ?_
 simp +decide only [Nat.reduceAdd, Nat.reduceMul, Int.reduceToNat, ak]
 refine hJ1 _ ?_
 refine sr_k fun J2 hJ2 => ?_
 simp +decide only [Nat.reduceAdd, Nat.reduceMul, Int.reduceToNat, ak]
 by_cases c3 : a0_1 ≥ 1
 ·rw [if_pos c3] at h
  have e4 : decide (a0_1 ≥ 1) = true := decide_eq_true c3
  simp +decide only [Nat.reduceAdd, Nat.reduceMul, Int.reduceToNat, ak, e4]
  by_cases c5 : a0_1 ≤ 16
  ·rw [if_pos c5] at h
   have e6 : decide (a0_1 ≤ 16) = true := decide_eq_true c5
   simp +decide only [Nat.reduceAdd, Nat.reduceMul, Int.reduceToNat, ak, e6]
   by_cases c9 : a0_2 ≥ 1
   ·rw [if_pos c9] at h
    have e10 : decide (a0_2 ≥ 1) = true := decide_eq_true c9
    simp +decide only [Nat.reduceAdd, Nat.reduceMul, Int.reduceToNat, ak, e10]
    by_cases c11 : a0_2 ≤ 50
    ·rw [if_pos c11] at h
     have e12 : decide (a0_2 ≤ 50) = true := decide_eq_true c11
     simp +decide only [Nat.reduceAdd, Nat.reduceMul, Int.reduceToNat, ak, e12]
     by_cases c15 : a0_3 ≥ a0_2
     ·rw [if_pos c15] at h
      have e16 : decide (a0_3 ≥ a0_2) = true := decide_eq_true c15
      simp +decide only [Nat.reduceAdd, Nat.reduceMul, Int.reduceToNat, ak, e16]
      by_cases c17 : a0_3 ≤ 400
      ·rw [if_pos c17] at h
       have e18 : decide (a0_3 ≤ 400) = true := decide_eq_true c17
       simp +decide only [Nat.reduceAdd, Nat.reduceMul, Int.reduceToNat, ak, e18]
       by_cases c20 : a0_4 ≥ 1
       ·rw [if_pos c20] at h
        have e21 : decide (a0_4 ≥ 1) = true := decide_eq_true c20
        simp +decide only [Nat.reduceAdd, Nat.reduceMul, Int.reduceToNat, ak, e21]
        by_cases c22 : a0_4 ≤ 8
        ·rw [if_pos c22] at h
         have e23 : decide (a0_4 ≤ 8) = true := decide_eq_true c22
         simp +decide only [Nat.reduceAdd, Nat.reduceMul, Int.reduceToNat, ak, e23]
         by_cases c24 : a0_5 ≥ 1
         ·rw [if_pos c24] at h
          have e25 : decide (a0_5 ≥ 1) = true := decide_eq_true c24
          simp +decide only [Nat.reduceAdd, Nat.reduceMul, Int.reduceToNat, ak, e25]
          refine hJ2 _ ?_
          obtain rfl := Option.some.inj h
          refine hKr _ ⟨_, rfl, [], _, rfl, rfl, ?_⟩
          exact cl
         ·rw [if_neg c24] at h
          have e26 : decide (a0_5 ≥ 1) = false := decide_eq_false c24
          simp +decide only [Nat.reduceAdd, Nat.reduceMul, Int.reduceToNat, ak, e26]
          refine hJ2 _ ?_
          obtain rfl := Option.some.inj h
          refine hKr _ ⟨_, rfl, [], _, rfl, rfl, ?_⟩
          exact cl
        ·rw [if_neg c22] at h
         have e27 : decide (a0_4 ≤ 8) = false := decide_eq_false c22
         simp +decide only [Nat.reduceAdd, Nat.reduceMul, Int.reduceToNat, ak, e27]
         refine hJ2 _ ?_
         obtain rfl := Option.some.inj h
         refine hKr _ ⟨_, rfl, [], _, rfl, rfl, ?_⟩
         exact cl
       ·rw [if_neg c20] at h
        have e28 : decide (a0_4 ≥ 1) = false := decide_eq_false c20
        simp +decide only [Nat.reduceAdd, Nat.reduceMul, Int.reduceToNat, ak, e28]
        refine hJ2 _ ?_
        obtain rfl := Option.some.inj h
        refine hKr _ ⟨_, rfl, [], _, rfl, rfl, ?_⟩
        exact cl
      ·rw [if_neg c17] at h
       have e29 : decide (a0_3 ≤ 400) = false := decide_eq_false c17
       simp +decide only [Nat.reduceAdd, Nat.reduceMul, Int.reduceToNat, ak, e29]
       refine hJ2 _ ?_
       obtain rfl := Option.some.inj h
       refine hKr _ ⟨_, rfl, [], _, rfl, rfl, ?_⟩
       exact cl
     ·rw [if_neg c15] at h
      have e30 : decide (a0_3 ≥ a0_2) = false := decide_eq_false c15
      simp +decide only [Nat.reduceAdd, Nat.reduceMul, Int.reduceToNat, ak, e30]
      refine hJ2 _ ?_
      obtain rfl := Option.some.inj h
      refine hKr _ ⟨_, rfl, [], _, rfl, rfl, ?_⟩
      exact cl
    ·rw [if_neg c11] at h
     have e31 : decide (a0_2 ≤ 50) = false := decide_eq_false c11
     simp +decide only [Nat.reduceAdd, Nat.reduceMul, Int.reduceToNat, ak, e31]
     refine hJ2 _ ?_
     obtain rfl := Option.some.inj h
     refine hKr _ ⟨_, rfl, [], _, rfl, rfl, ?_⟩
     exact cl
   ·rw [if_neg c9] at h
    have e32 : decide (a0_2 ≥ 1) = false := decide_eq_false c9
    simp +decide only [Nat.reduceAdd, Nat.reduceMul, Int.reduceToNat, ak, e32]
    refine hJ2 _ ?_
    obtain rfl := Option.some.inj h
    refine hKr _ ⟨_, rfl, [], _, rfl, rfl, ?_⟩
    exact cl
  ·rw [if_neg c5] at h
   have e33 : decide (a0_1 ≤ 16) = false := decide_eq_false c5
   simp +decide only [Nat.reduceAdd, Nat.reduceMul, Int.reduceToNat, ak, e33]
   refine hJ2 _ ?_
   obtain rfl := Option.some.inj h
   refine hKr _ ⟨_, rfl, [], _, rfl, rfl, ?_⟩
   exact cl
 ·rw [if_neg c3] at h
  have e34 : decide (a0_1 ≥ 1) = false := decide_eq_false c3
  simp +decide only [Nat.reduceAdd, Nat.reduceMul, Int.reduceToNat, ak, e34]
  refine hJ2 _ ?_
  obtain rfl := Option.some.inj h
  refine hKr _ ⟨_, rfl, [], _, rfl, rfl, ?_⟩
  exact cl
/-! ### impl.newSender: function 132 -/
def C132 : AC := .sr [.o (.box 1 (.t 0)), .o (.mv 2 (.const (.pointer none))), .keep [1]] (.sr [.o (.load 3 true 6 (.t 1)), .fa 4 0 1, .ld 5 1 4, .fa 6 2 1, .ld 7 1 6, .o (.build 8 [.int .u32 0, .int .i64 0, .int .i64 0, .int .i64 0, .int .i64 0, .int .i64 0, .int .u32 0, .slice none 0 0, .int .i64 0, .int .i64 0, .int .i64 0, .int .i64 0, .bool false] [(0, 6, .tmp 3), (6, 1, .tmp 5), (9, 1, .tmp 7)]), .gh, .o (.box 9 (.t 8)), .m 2 9, .keep [2]] (.ret))
def r132 : List RV := [.tmp 2]
theorem k132 : compC Try.prog 10 C132 (Try.f132.body.getD .skip) = some C132.erase := by kernel_rfl
theorem q132 : rvsOf Try.prog Try.f132.results.toList = some r132 := by kernel_rfl
def impl_newSender.f (a0_0 : Int) (a0_1 : Int) (a0_2 : Int) (a0_3 : Int) (a0_4 : Int) (a0_5 : Int) : Option (Int × Int × Int × Int × Int × Int × Int × (List Int) × Int × Int × Int × Int × Bool) := (some (a0_0, a0_1, a0_2, a0_3, a0_4, a0_5, a0_0, ([] : List Int), 0, a0_2, 0, 0, false))
theorem impl_newSender.tri (a0_0 : Int) (a0_1 : Int) (a0_2 : Int) (a0_3 : Int) (a0_4 : Int) (a0_5 : Int) (r : (Int × Int × Int × Int × Int × Int × Int × (List Int) × Int × Int × Int × Int × Bool)) (h : impl_newSender.f a0_0 a0_1 a0_2 a0_3 a0_4 a0_5 = some r) : Tri Try.prog 132 [.g [.sc (.int .u32 a0_0), .sc (.int .i64 a0_1), .sc (.int .i64 a0_2), .sc (.int .i64 a0_3), .sc (.int .i64 a0_4), .sc (.int .i64 a0_5)]] [] (fun o => o = ⟨.c (.ptr (.res 0) [] 0), [(.res 0, ⟨.box, 0, [.sc (.int .u32 r.1), .sc (.int .i64 r.2.1), .sc (.int .i64 r.2.2.1), .sc (.int .i64 r.2.2.2.1), .sc (.int .i64 r.2.2.2.2.1), .sc (.int .i64 r.2.2.2.2.2.1), .sc (.int .u32 r.2.2.2.2.2.2.1), .own 1 r.2.2.2.2.2.2.2.1.length (encL c_i64 r.2.2.2.2.2.2.2.1), .sc (.int .i64 r.2.2.2.2.2.2.2.2.1), .sc (.int .i64 r.2.2.2.2.2.2.2.2.2.1), .sc (.int .i64 r.2.2.2.2.2.2.2.2.2.2.1), .sc (.int .i64 r.2.2.2.2.2.2.2.2.2.2.2.1), .sc (.bool r.2.2.2.2.2.2.2.2.2.2.2.2)]⟩)], [], []⟩) := by
 refine tri_of_body (ac := C132) (xs := r132) Try.func132 (show Try.f132.body = some (Try.f132.body.getD .skip) from rfl) k132 q132 (Nat.le_of_ble_eq_true rfl) ?_
 refine body_of fun K hKn hKr => ?_
 unfold impl_newSender.f at h
 unfold C132
 simp only [initT, Nat.reduceAdd]
 refine sr_k fun J1 hJ1 => ?_
 simp +decide only [Nat.reduceAdd, Nat.reduceMul, Int.reduceToNat, ak]
 refine hJ1 _ ?_
 refine sr_k fun J2 hJ2 => ?_
 simp +decide only [Nat.reduceAdd, Nat.reduceMul, Int.reduceToNat, ak]
 refine gho_k (Weak.nmg' 8 7 (.tmp 8 27) 1 (encL c_i64 ([] : List Int)) rfl rfl rfl rfl) ?_
 have g3 : (encL c_i64 ([] : List Int)).length = 0 * 1 := by simp [encL_length c_i64_w]
 simp +decide only [Nat.reduceAdd, Nat.reduceMul, Int.reduceToNat, ak, g3]
 refine hJ2 _ ?_
 obtain rfl := Option.some.inj h
 refine hKr _ ⟨_, rfl, [⟨(.tmp 9 0), [], none, .box⟩], _, rfl, rfl, ?_⟩
 exact cl
/-! ### (*impl.sender).next: function 134 -/
def C134 : AC := .sr [.o (.mv 2 (.const (.int .u32 0))), .keep [0]] (.seq (.regD (.f (.m 3 0) (.f (.o (.nilc 4 (.t 3))) (.f (.fa 5 6 4) (.f (.ld 6 1 5) (.f (.m 7 0) (.f (.o (.nilc 8 (.t 7))) (.f (.fa 9 7 8) (.f (.ld 10 1 9) (.f (.ln 11 10) (.f (.o (.conv 12 .u32 (.t 11))) (.f (.o (.bin 13 .add (.t 6) (.t 12))) (.f (.m 2 13) (.done))))))))))))) [2]) (.ret))
def r134 : List RV := [.tmp 2]
theorem k134 : compC Try.prog 14 C134 (Try.f134.body.getD .skip) = some C134.erase := by kernel_rfl
theorem q134 : rvsOf Try.prog Try.f134.results.toList = some r134 := by kernel_rfl
def impl_sender_next.f (a0_0 : Int) (a0_1 : Int) (a0_2 : Int) (a0_3 : Int) (a0_4 : Int) (a0_5 : Int) (a0_6 : Int) (l0_7 : List Int) (a0_8 : Int) (a0_9 : Int) (a0_10 : Int) (a0_11 : Int) (a0_12 : Bool) : Option Int := (some (IntKind.u32.wrap (a0_6 + (IntKind.u32.wrap (l0_7.length : Int)))))
theorem impl_sender_next.tri (a0_0 : Int) (a0_1 : Int) (a0_2 : Int) (a0_3 : Int) (a0_4 : Int) (a0_5 : Int) (a0_6 : Int) (l0_7 : List Int) (a0_8 : Int) (a0_9 : Int) (a0_10 : Int) (a0_11 : Int) (a0_12 : Bool) (r : Int) (h : impl_sender_next.f a0_0 a0_1 a0_2 a0_3 a0_4 a0_5 a0_6 l0_7 a0_8 a0_9 a0_10 a0_11 a0_12 = some r) : Tri Try.prog 134 [.c (.ptr (.arg 0) [] 0)] [(.arg 0, ⟨.box, 0, [.sc (.int .u32 a0_0), .sc (.int .i64 a0_1), .sc (.int .i64 a0_2), .sc (.int .i64 a0_3), .sc (.int .i64 a0_4), .sc (.int .i64 a0_5), .sc (.int .u32 a0_6), .own 1 l0_7.length (encL c_i64 l0_7), .sc (.int .i64 a0_8), .sc (.int .i64 a0_9), .sc (.int .i64 a0_10), .sc (.int .i64 a0_11), .sc (.bool a0_12)]⟩)] (fun o => o = ⟨.c (.sc (.int .u32 r)), [(.arg 0, ⟨.box, 0, [.sc (.int .u32 a0_0), .sc (.int .i64 a0_1), .sc (.int .i64 a0_2), .sc (.int .i64 a0_3), .sc (.int .i64 a0_4), .sc (.int .i64 a0_5), .sc (.int .u32 a0_6), .own 1 l0_7.length (encL c_i64 l0_7), .sc (.int .i64 a0_8), .sc (.int .i64 a0_9), .sc (.int .i64 a0_10), .sc (.int .i64 a0_11), .sc (.bool a0_12)]⟩)], [], []⟩) := by
 refine tri_of_body (ac := C134) (xs := r134) Try.func134 (show Try.f134.body = some (Try.f134.body.getD .skip) from rfl) k134 q134 (Nat.le_of_ble_eq_true rfl) ?_
 refine body_of fun K hKn hKr => ?_
 unfold impl_sender_next.f at h
 unfold C134
 simp only [initT, Nat.reduceAdd]
 refine sr_k fun J1 hJ1 => ?_
 simp +decide only [Nat.reduceAdd, Nat.reduceMul, Int.reduceToNat, ak]
 refine hJ1 _ ?_
 refine sd_k fun J2 hJ2 => ?_
 simp +decide only [Nat.reduceAdd, Nat.reduceMul, Int.reduceToNat, ak]
 refine hJ2 _ ?_
 obtain rfl := Option.some.inj h
 refine hKr _ ⟨_, rfl, [], _, rfl, rfl, ?_⟩
 exact cl
/-! ### (impl.sendTag).happen: function 180 -/
def C180 : AC := .sr [.o (.box 2 (.t 0)), .o (.alloc 4 [.int .i64 0, .slice none 0 0, .slice none 0 0, .int .i64 0, .int .i64 0]), .gh, .keep [1, 2, 4]] (.seq (.sr [.m 6 1, .o (.nilc 7 (.t 6)), .fa 8 12 7, .ld 9 1 8, .keep [1, 2, 4, 9]] (.cond (.t 9) (.sr [.o (.build 10 [.int .i64 0, .slice none 0 0, .slice none 0 0, .int .i64 0, .int .i64 0] [(0, 1, .const (.int .i64 10))]), .gh, .st 5 4 10, .keep [4]] (.gh .ret)) (.skip))) (.seq (.seq (.regD (.f (.m 11 1) (.f (.o (.nilc 12 (.t 11))) (.f (.fa 13 7 12) (.f (.ld 14 1 13) (.f (.ln 15 14) (.f (.m 16 1) (.f (.o (.nilc 17 (.t 16))) (.f (.fa 18 0 17) (.f (.fa 19 1 18) (.f (.ld 20 1 19) (.f (.o (.bin 21 .geq (.t 15) (.t 20))) (.done)))))))))))) [1, 2, 4, 21]) (.cond (.t 21) (.sr [.o (.build 22 [.int .i64 0, .slice none 0 0, .slice none 0 0, .int .i64 0, .int .i64 0] [(0, 1, .const (.int .i64 9))]), .gh, .st 5 4 22, .keep [4]] (.gh .ret)) (.skip))) (.seq (.ga (.regD (.f (.m 23 1) (.f (.fa 25 0 2) (.pin [6, 4] (.ld 26 1 25) (.alt (.call none (some 24) 134 [.tmp 23]) none (.pin [6] (.o (.build 27 [.int .i64 0, .int .u32 0, .int .i64 0] [(0, 1, .const (.int .i64 1)), (1, 1, .tmp 24), (2, 1, .tmp 26)])) (.alt (.o (.alloc 5 [.int .i64 0, .int .u32 0, .int .i64 0])) none (.alt (.st 3 5 27) (some 6) (.done) (.stop)) (.stop))) (.alt (.o (.alloc 5 [.int .i64 0, .int .u32 0, .int .i64 0])) none (.alt (.call none (some 24) 134 [.tmp 23]) none (.pin [6] (.o (.build 27 [.int .i64 0, .int .u32 0, .int .i64 0] [(0, 1, .const (.int .i64 1)), (1, 1, .tmp 24), (2, 1, .tmp 26)])) (.alt (.st 3 5 27) (some 6) (.done) (.stop))) (.stop)) (.stop)))))) [1, 2, 4, 5])) (.seq (.regD (.f (.m 28 1) (.f (.m 29 1) (.f (.o (.nilc 30 (.t 29))) (.f (.fa 31 7 30) (.f (.ld 32 1 31) (.f (.fa 33 0 2) (.f (.ld 34 1 33) (.alt (.o (.bslice 35 1 [.int .i64 0] 1 [(0, .tmp 34)])) none (.alt (.o (.app 36 1 8 false (.t 32) (.t 35))) none (.f (.o (.nilc 37 (.t 28))) (.f (.fa 38 7 37) (.alt (.st 1 38 36) none (.done) (.stop)))) (.stop)) (.stop))))))))) [1, 4, 5]) (.seq (.ga (.sr [.m 39 1, .o (.nilc 40 (.t 39)), .fa 41 8 40, .ld 42 1 41, .o (.bin 43 .eql (.t 42) (.k 0)), .keep [1, 4, 5, 43]] (.cond (.t 43) (.reg [.m 44 1, .m 45 1, .o (.nilc 46 (.t 45)), .fa 47 9 46, .ld 48 1 47, .o (.nilc 49 (.t 44)), .fa 50 8 49, .st 1 50 48, .keep [4, 5]]) (.skip)))) (.sr [.o (.load 51 true 3 (.t 5)), .o (.bslice 52 3 [.int .i64 0, .int .u32 0, .int .i64 0] 1 [(0, .tmp 51)]), .o (.build 53 [.int .i64 0, .slice none 0 0, .slice none 0 0, .int .i64 0, .int .i64 0] [(1, 1, .tmp 52)]), .gh, .st 5 4 53, .keep [4]] (.gh .ret)))))))
def r180 : List RV := [.cell 4 true 5]
theorem k180 : compC Try.prog 54 C180 (Try.f180.body.getD .skip) = some C180.erase := by kernel_rfl
theorem q180 : rvsOf Try.prog Try.f180.results.toList = some r180 := by kernel_rfl
def impl_sendTag_happen.f (a0_0 : Int) (a1_0 : Int) (a1_1 : Int) (a1_2 : Int) (a1_3 : Int) (a1_4 : Int) (a1_5 : Int) (a1_6 : Int) (l1_7 : List Int) (a1_8 : Int) (a1_9 : Int) (a1_10 : Int) (a1_11 : Int) (a1_12 : Bool) : Option (Int × (List S68) × (List Int) × Int × Int × (List Int) × Int) := (if a1_12 = true then (some (10, ([] : List S68), ([] : List Int), 0, 0, l1_7, a1_8)) else (if (l1_7.length : Int) ≥ a1_1 then (some (9, ([] : List S68), ([] : List Int), 0, 0, l1_7, a1_8)) else ((impl_sender_next.f a1_0 a1_1 a1_2 a1_3 a1_4 a1_5 a1_6 l1_7 a1_8 a1_9 a1_10 a1_11 a1_12 >>= fun t18 => (some t18)) >>= fun (j14 : Int) => (if (l1_7.length + 1) * 8 ≤ 140737488355328 then ((if a1_8 = 0 then (some a1_9) else (some a1_8)) >>= fun (j60 : Int) => (some (0, ([(⟨1, j14, a0_0⟩ : S68)] : List S68), ([] : List Int), 0, 0, (l1_7 ++ ([a0_0] : List Int)), j60))) else none))))
theorem impl_sendTag_happen.tri (a0_0 : Int) (a1_0 : Int) (a1_1 : Int) (a1_2 : Int) (a1_3 : Int) (a1_4 : Int) (a1_5 : Int) (a1_6 : Int) (l1_7 : List Int) (a1_8 : Int) (a1_9 : Int) (a1_10 : Int) (a1_11 : Int) (a1_12 : Bool) (r : Int × (List S68) × (List Int) × Int × Int × (List Int) × Int) (h : impl_sendTag_happen.f a0_0 a1_0 a1_1 a1_2 a1_3 a1_4 a1_5 a1_6 l1_7 a1_8 a1_9 a1_10 a1_11 a1_12 = some r) : Tri Try.prog 180 [.g [.sc (.int .i64 a0_0)], .c (.ptr (.arg 0) [] 0)] [(.arg 0, ⟨.box, 0, [.sc (.int .u32 a1_0), .sc (.int .i64 a1_1), .sc (.int .i64 a1_2), .sc (.int .i64 a1_3), .sc (.int .i64 a1_4), .sc (.int .i64 a1_5), .sc (.int .u32 a1_6), .own 1 l1_7.length (encL c_i64 l1_7), .sc (.int .i64 a1_8), .sc (.int .i64 a1_9), .sc (.int .i64 a1_10), .sc (.int .i64 a1_11), .sc (.bool a1_12)]⟩)] (fun o => o = ⟨.g [.sc (.int .i64 r.1), .ref (.res 0) [] 0 r.2.1.length, .ref (.res 1) [] 0 r.2.2.1.length, .sc (.int .i64 r.2.2.2.1), .sc (.int .i64 r.2.2.2.2.1)], [(.arg 0, ⟨.box, 0, [.sc (.int .u32 a1_0), .sc (.int .i64 a1_1), .sc (.int .i64 a1_2), .sc (.int .i64 a1_3), .sc (.int .i64 a1_4), .sc (.int .i64 a1_5), .sc (.int .u32 a1_6), .own 1 r.2.2.2.2.2.1.length (encL c_i64 r.2.2.2.2.2.1), .sc (.int .i64 r.2.2.2.2.2.2), .sc (.int .i64 a1_9), .sc (.int .i64 a1_10), .sc (.int .i64 a1_11), .sc (.bool a1_12)]⟩), (.res 0, ⟨.lst, 3, encL c68 r.2.1⟩), (.res 1, ⟨.lst, 1, encL c_i64 r.2.2.1⟩)], [0], []⟩) := by
 refine tri_of_body (ac := C180) (xs := r180) Try.func180 (show Try.f180.body = some (Try.f180.body.getD .skip) from rfl) k180 q180 (Nat.le_of_ble_eq_true rfl) ?_
 refine body_of fun K hKn hKr => ?_
 unfold impl_sendTag_happen.f at h
 unfold C180
 simp only [initT, Nat.reduceAdd]
 refine sr_k fun J1 hJ1 => ?_
 simp +decide only [Nat.reduceAdd, Nat.reduceMul, Int.reduceToNat, ak]
 refine gho_k (Weak.own (.tmp 4 0) (cs' := [.sc (.int .i64 0), .own 3 (([] : List S68).length) (encL c68 ([] : List S68)), .own 1 (([] : List Int).length) (encL c_i64 ([] : List Int)), .sc (.int .i64 0), .sc (.int .i64 0)]) rfl ⟨.inl rfl, .inr ⟨rfl, _, rfl⟩, .inr ⟨rfl, _, rfl⟩, .inl rfl, .inl rfl, trivial⟩) ?_
 simp +decide only [Nat.reduceAdd, Nat.reduceMul, Int.reduceToNat, ak]
 refine hJ1 _ ?_
 refine seq_k fun J2 hJ2 => ?_
 refine sr_k fun J3 hJ3 => ?_
 simp +decide only [Nat.reduceAdd, Nat.reduceMul, Int.reduceToNat, ak]
 refine hJ3 _ ?_
 refine cond_k (b := a1_12) rfl (fun c4 => ?_) (fun c4 => ?_)
 ·rw [if_pos c4] at h
  refine sr_k fun J5 hJ5 => ?_
  simp +decide only [Nat.reduceAdd, Nat.reduceMul, Int.reduceToNat, ak]
  refine gho_k ((Weak.nmg' 10 1 (.tmp 10 21) 3 (encL c68 ([] : List S68)) rfl rfl rfl rfl).trans (Weak.nmg' 10 2 (.tmp 10 22) 1 (encL c_i64 ([] : List Int)) rfl rfl rfl rfl)) ?_
  have g6 : (encL c68 ([] : List S68)).length = 0 * 3 := by simp [encL_length c68_w]
  have g7 : (encL c_i64 ([] : List Int)).length = 0 * 1 := by simp [encL_length c_i64_w]
  simp +decide only [Nat.reduceAdd, Nat.reduceMul, Int.reduceToNat, ak, g6, g7]
  refine hJ5 _ ?_
  refine gh_k (Weak.mark [0] [] (by simp) (by simp)) ?_
  obtain rfl := Option.some.inj h
  refine hKr _ ⟨_, rfl, [⟨(.tmp 4 0), [1], none, .lst⟩, ⟨(.tmp 4 0), [2], none, .lst⟩], _, rfl, rfl, ?_⟩
  exact cl
 ·rw [if_neg (Bool.eq_false_iff.1 c4)] at h
  refine hJ2 _ ?_
  refine seq_k fun J8 hJ8 => ?_
  refine sd_k fun J9 hJ9 => ?_
  simp +decide only [Nat.reduceAdd, Nat.reduceMul, Int.reduceToNat, ak]
  refine hJ9 _ ?_
  refine cond_k (b := decide ((l1_7.length : Int) ≥ a1_1)) rfl (fun c10 => ?_) (fun c10 => ?_)
  ·replace c10 := of_decide_eq_true c10; rw [if_pos c10] at h
   refine sr_k fun J11 hJ11 => ?_
   simp +decide only [Nat.reduceAdd, Nat.reduceMul, Int.reduceToNat, ak]
   refine gho_k ((Weak.nmg' 22 1 (.tmp 22 21) 3 (encL c68 ([] : List S68)) rfl rfl rfl rfl).trans (Weak.nmg' 22 2 (.tmp 22 22) 1 (encL c_i64 ([] : List Int)) rfl rfl rfl rfl)) ?_
   have g12 : (encL c68 ([] : List S68)).length = 0 * 3 := by simp [encL_length c68_w]
   have g13 : (encL c_i64 ([] : List Int)).length = 0 * 1 := by simp [encL_length c_i64_w]
   simp +decide only [Nat.reduceAdd, Nat.reduceMul, Int.reduceToNat, ak, g12, g13]
   refine hJ11 _ ?_
   refine gh_k (Weak.mark [0] [] (by simp) (by simp)) ?_
   obtain rfl := Option.some.inj h
   refine hKr _ ⟨_, rfl, [⟨(.tmp 4 0), [1], none, .lst⟩, ⟨(.tmp 4 0), [2], none, .lst⟩], _, rfl, rfl, ?_⟩
   exact cl
  ·replace c10 := of_decide_eq_false c10; rw [if_neg c10] at h
   refine hJ8 _ ?_
   obtain ⟨j14, h15, hn⟩ := of_bind h
   refine seq_j (fun st => st = ⟨[(1, .c (.ptr (.arg 0) [] 0)), (2, .c (.ptr (.tmp 2 0) [] 0)), (4, .c (.ptr (.tmp 4 0) [] 0)), (5, .c (.ptr (.tmp 5 0) [] 0))], [(.arg 0, ⟨.box, 0, [.sc (.int .u32 a1_0), .sc (.int .i64 a1_1), .sc (.int .i64 a1_2), .sc (.int .i64 a1_3), .sc (.int .i64 a1_4), .sc (.int .i64 a1_5), .sc (.int .u32 a1_6), .own 1 l1_7.length (encL c_i64 l1_7), .sc (.int .i64 a1_8), .sc (.int .i64 a1_9), .sc (.int .i64 a1_10), .sc (.int .i64 a1_11), .sc (.bool a1_12)]⟩), (.tmp 2 0, ⟨.box, 0, [.sc (.int .i64 a0_0)]⟩), (.tmp 4 0, ⟨.box, 0, [.sc (.int .i64 0), .own 3 (([] : List S68).length) (encL c68 ([] : List S68)), .own 1 (([] : List Int).length) (encL c_i64 ([] : List Int)), .sc (.int .i64 0), .sc (.int .i64 0)]⟩), (.tmp 5 0, ⟨.box, 0, [.sc (.int .i64 1), .sc (.int .u32 j14), .sc (.int .i64 a0_0)]⟩)], [], []⟩) (fun J16 hJ16 => ?_) ?_
   ·replace h := h15; clear hn
    refine ga_k fun G17 G17n G17r G17x => ?_
    refine regD_k ?_
    simp +decide only [Nat.reduceAdd, Nat.reduceMul, Int.reduceToNat, ak]
    obtain ⟨t18, h19, h⟩ := of_bind h
    refine alt_k ?_ (alt_e ?_)
    ·simp +decide only [Nat.reduceAdd, Nat.reduceMul, Int.reduceToNat, ak]
     refine cm [pI (.arg 0) .box] (impl_sender_next.tri a1_0 a1_1 a1_2 a1_3 a1_4 a1_5 a1_6 l1_7 a1_8 a1_9 a1_10 a1_11 a1_12 _ h19) (fun hl20 => ?_)
     refine cs (mW [.sc (.int .u32 a1_0), .sc (.int .i64 a1_1), .sc (.int .i64 a1_2), .sc (.int .i64 a1_3), .sc (.int .i64 a1_4), .sc (.int .i64 a1_5), .sc (.int .u32 a1_6), .own 1 l1_7.length (encL c_i64 l1_7), .sc (.int .i64 a1_8), .sc (.int .i64 a1_9), .sc (.int .i64 a1_10), .sc (.int .i64 a1_11), .sc (.bool a1_12)] (mN ..)) ?_ (s4 := [(.arg 0, ⟨.box, 0, [.sc (.int .u32 a1_0), .sc (.int .i64 a1_1), .sc (.int .i64 a1_2), .sc (.int .i64 a1_3), .sc (.int .i64 a1_4), .sc (.int .i64 a1_5), .sc (.int .u32 a1_6), .own 1 l1_7.length (encL c_i64 l1_7), .sc (.int .i64 a1_8), .sc (.int .i64 a1_9), .sc (.int .i64 a1_10), .sc (.int .i64 a1_11), .sc (.bool a1_12)]⟩), (.tmp 2 0, ⟨.box, 0, [.sc (.int .i64 a0_0)]⟩), (.tmp 4 0, ⟨.box, 0, [.sc (.int .i64 0), .own 3 (([] : List S68).length) (encL c68 ([] : List S68)), .own 1 (([] : List Int).length) (encL c_i64 ([] : List Int)), .sc (.int .i64 0), .sc (.int .i64 0)]⟩)])
     simp +decide only [Nat.reduceAdd, Nat.reduceMul, Int.reduceToNat, ak]
     refine alt_e ?_
     ·simp +decide only [Nat.reduceAdd, Nat.reduceMul, Int.reduceToNat, ak]
      refine alt_e ?_
      ·simp +decide only [Nat.reduceAdd, Nat.reduceMul, Int.reduceToNat, ak]
       obtain rfl := Option.some.inj h
       refine G17n _ _ (wk [1, 2, 4, 5] [pI (.arg 0) .box, pI (.tmp 2 0) .box, pI (.tmp 4 0) .box, pI (.tmp 5 0) .box]) (hJ16 _ rfl)
    ·simp +decide only [Nat.reduceAdd, Nat.reduceMul, Int.reduceToNat, ak]
     refine alt_e ?_
     ·simp +decide only [Nat.reduceAdd, Nat.reduceMul, Int.reduceToNat, ak]
      refine cm [pI (.arg 0) .box] (impl_sender_next.tri a1_0 a1_1 a1_2 a1_3 a1_4 a1_5 a1_6 l1_7 a1_8 a1_9 a1_10 a1_11 a1_12 _ h19) (fun hl22 => ?_)
      refine cs (mW [.sc (.int .u32 a1_0), .sc (.int .i64 a1_1), .sc (.int .i64 a1_2), .sc (.int .i64 a1_3), .sc (.int .i64 a1_4), .sc (.int .i64 a1_5), .sc (.int .u32 a1_6), .own 1 l1_7.length (encL c_i64 l1_7), .sc (.int .i64 a1_8), .sc (.int .i64 a1_9), .sc (.int .i64 a1_10), .sc (.int .i64 a1_11), .sc (.bool a1_12)] (mN ..)) ?_ (s4 := [(.arg 0, ⟨.box, 0, [.sc (.int .u32 a1_0), .sc (.int .i64 a1_1), .sc (.int .i64 a1_2), .sc (.int .i64 a1_3), .sc (.int .i64 a1_4), .sc (.int .i64 a1_5), .sc (.int .u32 a1_6), .own 1 l1_7.length (encL c_i64 l1_7), .sc (.int .i64 a1_8), .sc (.int .i64 a1_9), .sc (.int .i64 a1_10), .sc (.int .i64 a1_11), .sc (.bool a1_12)]⟩), (.tmp 2 0, ⟨.box, 0, [.sc (.int .i64 a0_0)]⟩), (.tmp 4 0, ⟨.box, 0, [.sc (.int .i64 0), .own 3 (([] : List S68).length) (encL c68 ([] : List S68)), .own 1 (([] : List Int).length) (encL c_i64 ([] : List Int)), .sc (.int .i64 0), .sc (.int .i64 0)]⟩), (.tmp 5 0, ⟨.box, 0, [.sc (.int .i64 0), .sc (.int .u32 0), .sc (.int .i64 0)]⟩)])
      simp +decide only [Nat.reduceAdd, Nat.reduceMul, Int.reduceToNat, ak]
      refine alt_e ?_
      ·simp +decide only [Nat.reduceAdd, Nat.reduceMul, Int.reduceToNat, ak]
       obtain rfl := Option.some.inj h
       refine G17n _ _ (wk [1, 2, 4, 5] [pI (.arg 0) .box, pI (.tmp 2 0) .box, pI (.tmp 4 0) .box, pI (.tmp 5 0) .box]) (hJ16 _ rfl)
   ·replace h := hn; clear hn h15
    rintro _ rfl
    refine sd_k fun J24 hJ24 => ?_
    simp +decide only [Nat.reduceAdd, Nat.reduceMul, Int.reduceToNat, ak]
    obtain ⟨b30, h⟩ := of_guard h
    refine alt_e ?_
    ·have g43 : (List.replicate 1 ([.int .i64 0] : List Value)).flatten = [.int .i64 0] := rfl
     have g44 : (⟨.lst, 1, [.sc (.int .i64 a0_0)]⟩ : Root) = ⟨.lst, 1, encL c_i64 ([a0_0] : List Int)⟩ := rfl
     have g45 : ([a0_0] : List Int).length = 1 := rfl
     simp +decide only [Nat.reduceAdd, Nat.reduceMul, Int.reduceToNat, ak, g43, g44, g45]
     refine alt_e ?_
     ·have g53 : (encL c_i64 ([a0_0] : List Int)).take 1 = encL c_i64 ([a0_0] : List Int) := by simpa using (Vw.whole c_i64_w ([a0_0] : List Int)).all
      have g54 : (encL c_i64 ([a0_0] : List Int)).all isSc = true := encL_all (fun _ => rfl) _
      have g55 : appLim l1_7.length 1 8 := ⟨b30, by have := b30; omega⟩
      have g56 : (encL c_i64 l1_7).length = l1_7.length * 1 := by simp [encL_length c_i64_w]
      have g57 : encL c_i64 l1_7 ++ encL c_i64 ([a0_0] : List Int) = encL c_i64 (l1_7 ++ ([a0_0] : List Int)) := (encL_append _ _).symm
      simp +decide only [Nat.reduceAdd, Nat.reduceMul, Int.reduceToNat, ak, g53, g54, g55, g56, g57]
      refine alt_e ?_
      ·have g59 : (encL c_i64 (l1_7 ++ ([a0_0] : List Int))).length = (l1_7.length + 1) * 1 := by simp [encL_length c_i64_w]
       simp +decide only [Nat.reduceAdd, Nat.reduceMul, Int.reduceToNat, ak, g59]
       refine hJ24 _ ?_
       obtain ⟨j60, h61, hn⟩ := of_bind h
       refine seq_j (fun st => st = ⟨[(4, .c (.ptr (.tmp 4 0) [] 0)), (5, .c (.ptr (.tmp 5 0) [] 0))], [(.arg 0, ⟨.box, 0, [.sc (.int .u32 a1_0), .sc (.int .i64 a1_1), .sc (.int .i64 a1_2), .sc (.int .i64 a1_3), .sc (.int .i64 a1_4), .sc (.int .i64 a1_5), .sc (.int .u32 a1_6), .own 1 (l1_7.length + 1) (encL c_i64 (l1_7 ++ ([a0_0] : List Int))), .sc (.int .i64 j60), .sc (.int .i64 a1_9), .sc (.int .i64 a1_10), .sc (.int .i64 a1_11), .sc (.bool a1_12)]⟩), (.tmp 4 0, ⟨.box, 0, [.sc (.int .i64 0), .own 3 (([] : List S68).length) (encL c68 ([] : List S68)), .own 1 (([] : List Int).length) (encL c_i64 ([] : List Int)), .sc (.int .i64 0), .sc (.int .i64 0)]⟩), (.tmp 5 0, ⟨.box, 0, [.sc (.int .i64 1), .sc (.int .u32 j14), .sc (.int .i64 a0_0)]⟩)], [0], []⟩) (fun J62 hJ62 => ?_) ?_
       ·replace h := h61; clear hn
        refine ga_k fun G63 G63n G63r G63x => ?_
        refine sr_k fun J64 hJ64 => ?_
        simp +decide only [Nat.reduceAdd, Nat.reduceMul, Int.reduceToNat, ak]
        refine hJ64 _ ?_
        refine cond_k (b := decide (a1_8 = 0)) rfl (fun c69 => ?_) (fun c69 => ?_)
        ·replace c69 := of_decide_eq_true c69; rw [if_pos c69] at h
         refine reg_k ?_
         simp +decide only [Nat.reduceAdd, Nat.reduceMul, Int.reduceToNat, ak]
         obtain rfl := Option.some.inj h
         refine G63n _ _ (wkm [0] [] [4, 5] [pI (.arg 0) .box, pI (.tmp 4 0) .box, pI (.tmp 5 0) .box] (h0 := by first | rfl | simp +decide only [ak, akF, b30]) (h := by first | rfl | (simp +decide only [ak, akF, b30]; done) | (simp +decide [ak, akF, b30] <;> omega))) (hJ62 _ rfl)
        ·replace c69 := of_decide_eq_false c69; rw [if_neg c69] at h
         obtain rfl := Option.some.inj h
         refine G63n _ _ (wkm [0] [] [4, 5] [pI (.arg 0) .box, pI (.tmp 4 0) .box, pI (.tmp 5 0) .box] (h0 := by first | rfl | simp +decide only [ak, akF, b30]) (h := by first | rfl | (simp +decide only [ak, akF, b30]; done) | (simp +decide [ak, akF, b30] <;> omega))) (hJ62 _ rfl)
       ·replace h := hn; clear hn h61
        rintro _ rfl
        refine sr_k fun J70 hJ70 => ?_
        have g71 : (List.replicate 1 ([.int .i64 0, .int .u32 0, .int .i64 0] : List Value)).flatten = [.int .i64 0, .int .u32 0, .int .i64 0] := rfl
        have g72 : (⟨.lst, 3, [.sc (.int .i64 1), .sc (.int .u32 j14), .sc (.int .i64 a0_0)]⟩ : Root) = ⟨.lst, 3, encL c68 ([(⟨1, j14, a0_0⟩ : S68)] : List S68)⟩ := rfl
        have g73 : ([(⟨1, j14, a0_0⟩ : S68)] : List S68).length = 1 := rfl
        simp +decide only [Nat.reduceAdd, Nat.reduceMul, Int.reduceToNat, ak, g71, g72, g73]
        refine gho_k (Weak.nmg' 53 2 (.tmp 53 22) 1 (encL c_i64 ([] : List Int)) rfl rfl rfl rfl) ?_
        have g74 : (encL c68 ([(⟨1, j14, a0_0⟩ : S68)] : List S68)).length = 1 * 3 := by simp [encL_length c68_w]
        have g75 : (encL c_i64 ([] : List Int)).length = 0 * 1 := by simp [encL_length c_i64_w]
        simp +decide only [Nat.reduceAdd, Nat.reduceMul, Int.reduceToNat, ak, g74, g75]
        refine hJ70 _ ?_
        refine gh_k (Weak.mark [0] [] (by simp) (by simp)) ?_
        obtain rfl := Option.some.inj h
        refine hKr _ ⟨_, rfl, [⟨(.tmp 4 0), [1], none, .lst⟩, ⟨(.tmp 4 0), [2], none, .lst⟩], _, rfl, rfl, ?_⟩
        exact cl
/-! ### (*impl.sender).act: function 133 -/
def C133v1i219 : AC := .sr [.o (.alloc 4 [.int .i64 0, .slice none 0 0, .slice none 0 0, .int .i64 0, .int .i64 0]), .gh, .keep [0, 1, 4]] (.sr [.m 5 1, .m 6 0, .callv none (some 7) (.invoke (.t 5) "loop.example/s03010/impl.happen") [.tmp 6], .st 5 4 7, .keep [4]] (.gh .ret))
def r133v1i219 : List RV := [.cell 4 true 5]
theorem k133v1i219 : compC Try.prog 8 C133v1i219 (Try.f133.body.getD .skip) = some C133v1i219.erase := by kernel_rfl
theorem q133v1i219 : rvsOf Try.prog Try.f133.results.toList = some r133v1i219 := by kernel_rfl
def impl_sender_act_v1i219.f (a0_0 : Int) (a0_1 : Int) (a0_2 : Int) (a0_3 : Int) (a0_4 : Int) (a0_5 : Int) (a0_6 : Int) (l0_7 : List Int) (a0_8 : Int) (a0_9 : Int) (a0_10 : Int) (a0_11 : Int) (a0_12 : Bool) (a1_0 : Int) : Option (Int × (List S68) × (List Int) × Int × Int × (List Int) × Int) := (impl_sendTag_happen.f a1_0 a0_0 a0_1 a0_2 a0_3 a0_4 a0_5 a0_6 l0_7 a0_8 a0_9 a0_10 a0_11 a0_12 >>= fun t3 => (some (t3.1, t3.2.1, t3.2.2.1, t3.2.2.2.1, t3.2.2.2.2.1, t3.2.2.2.2.2.1, t3.2.2.2.2.2.2)))
theorem impl_sender_act_v1i219.tri (a0_0 : Int) (a0_1 : Int) (a0_2 : Int) (a0_3 : Int) (a0_4 : Int) (a0_5 : Int) (a0_6 : Int) (l0_7 : List Int) (a0_8 : Int) (a0_9 : Int) (a0_10 : Int) (a0_11 : Int) (a0_12 : Bool) (a1_0 : Int) (r : Int × (List S68) × (List Int) × Int × Int × (List Int) × Int) (h : impl_sender_act_v1i219.f a0_0 a0_1 a0_2 a0_3 a0_4 a0_5 a0_6 l0_7 a0_8 a0_9 a0_10 a0_11 a0_12 a1_0 = some r) : Tri Try.prog 133 [.c (.ptr (.arg 0) [] 0), .c (.sc (.iface 219 (.agg #[.int .i64 a1_0])))] [(.arg 0, ⟨.box, 0, [.sc (.int .u32 a0_0), .sc (.int .i64 a0_1), .sc (.int .i64 a0_2), .sc (.int .i64 a0_3), .sc (.int .i64 a0_4), .sc (.int .i64 a0_5), .sc (.int .u32 a0_6), .own 1 l0_7.length (encL c_i64 l0_7), .sc (.int .i64 a0_8), .sc (.int .i64 a0_9), .sc (.int .i64 a0_10), .sc (.int .i64 a0_11), .sc (.bool a0_12)]⟩)] (fun o => o = ⟨.g [.sc (.int .i64 r.1), .ref (.res 0) [] 0 r.2.1.length, .ref (.res 1) [] 0 r.2.2.1.length, .sc (.int .i64 r.2.2.2.1), .sc (.int .i64 r.2.2.2.2.1)], [(.arg 0, ⟨.box, 0, [.sc (.int .u32 a0_0), .sc (.int .i64 a0_1), .sc (.int .i64 a0_2), .sc (.int .i64 a0_3), .sc (.int .i64 a0_4), .sc (.int .i64 a0_5), .sc (.int .u32 a0_6), .own 1 r.2.2.2.2.2.1.length (encL c_i64 r.2.2.2.2.2.1), .sc (.int .i64 r.2.2.2.2.2.2), .sc (.int .i64 a0_9), .sc (.int .i64 a0_10), .sc (.int .i64 a0_11), .sc (.bool a0_12)]⟩), (.res 0, ⟨.lst, 3, encL c68 r.2.1⟩), (.res 1, ⟨.lst, 1, encL c_i64 r.2.2.1⟩)], [0], []⟩) := by
 refine tri_of_body (ac := C133v1i219) (xs := r133v1i219) Try.func133 (show Try.f133.body = some (Try.f133.body.getD .skip) from rfl) k133v1i219 q133v1i219 (Nat.le_of_ble_eq_true rfl) ?_
 refine body_of fun K hKn hKr => ?_
 unfold impl_sender_act_v1i219.f at h
 unfold C133v1i219
 simp only [initT, Nat.reduceAdd]
 refine sr_k fun J1 hJ1 => ?_
 simp +decide only [Nat.reduceAdd, Nat.reduceMul, Int.reduceToNat, ak]
 refine gho_k (Weak.own (.tmp 4 0) (cs' := [.sc (.int .i64 0), .own 3 (([] : List S68).length) (encL c68 ([] : List S68)), .own 1 (([] : List Int).length) (encL c_i64 ([] : List Int)), .sc (.int .i64 0), .sc (.int .i64 0)]) rfl ⟨.inl rfl, .inr ⟨rfl, _, rfl⟩, .inr ⟨rfl, _, rfl⟩, .inl rfl, .inl rfl, trivial⟩) ?_
 simp +decide only [Nat.reduceAdd, Nat.reduceMul, Int.reduceToNat, ak]
 refine hJ1 _ ?_
 refine sr_k fun J2 hJ2 => ?_
 simp +decide only [Nat.reduceAdd, Nat.reduceMul, Int.reduceToNat, ak]
 obtain ⟨t3, h4, h⟩ := of_bind h
 refine callv_iface (f := 180) (fn := Try.f180) (t := 219) (v := (.agg #[.int .i64 a1_0])) (recv := (.agg #[.int .i64 a1_0])) rfl (fun w => by kernel_rfl) Try.func180 (by kernel_rfl) (by decide) ?_
 refine cm [pI (.arg 0) .box] (impl_sendTag_happen.tri a1_0 a0_0 a0_1 a0_2 a0_3 a0_4 a0_5 a0_6 l0_7 a0_8 a0_9 a0_10 a0_11 a0_12 _ h4) (fun hl4 => ?_)
 refine call_st (s2 := [(.arg 0, ⟨.box, 0, [.sc (.int .u32 a0_0), .sc (.int .i64 a0_1), .sc (.int .i64 a0_2), .sc (.int .i64 a0_3), .sc (.int .i64 a0_4), .sc (.int .i64 a0_5), .sc (.int .u32 a0_6), .own 1 l0_7.length (encL c_i64 l0_7), .sc (.int .i64 a0_8), .sc (.int .i64 a0_9), .sc (.int .i64 a0_10), .sc (.int .i64 a0_11), .sc (.bool a0_12)]⟩), (.tmp 4 0, ⟨.box, 0, [.sc (.int .i64 0), .own 3 (([] : List S68).length) (encL c68 ([] : List S68)), .own 1 (([] : List Int).length) (encL c_i64 ([] : List Int)), .sc (.int .i64 0), .sc (.int .i64 0)]⟩)]) (s4 := [(.arg 0, ⟨.box, 0, [.sc (.int .u32 a0_0), .sc (.int .i64 a0_1), .sc (.int .i64 a0_2), .sc (.int .i64 a0_3), .sc (.int .i64 a0_4), .sc (.int .i64 a0_5), .sc (.int .u32 a0_6), .own 1 t3.2.2.2.2.2.1.length (encL c_i64 t3.2.2.2.2.2.1), .sc (.int .i64 t3.2.2.2.2.2.2), .sc (.int .i64 a0_9), .sc (.int .i64 a0_10), .sc (.int .i64 a0_11), .sc (.bool a0_12)]⟩), (.tmp 4 0, ⟨.box, 0, [.sc (.int .i64 0), .own 3 (([] : List S68).length) (encL c68 ([] : List S68)), .own 1 (([] : List Int).length) (encL c_i64 ([] : List Int)), .sc (.int .i64 0), .sc (.int .i64 0)]⟩), (.tmp 7 1, ⟨.lst, 1, encL c_i64 t3.2.2.1⟩), (.tmp 7 0, ⟨.lst, 3, encL c68 t3.2.1⟩)]) (t' := [(0, .c (.ptr (.arg 0) [] 0)), (1, .c (.sc (.iface 219 (.agg #[.int .i64 a1_0])))), (4, .c (.ptr (.tmp 4 0) [] 0)), (5, .c (.sc (.iface 219 (.agg #[.int .i64 a1_0])))), (6, .c (.ptr (.arg 0) [] 0))]) (m1' := [0]) (m2' := []) (v' := .g [.sc (.int .i64 t3.1), .ref (.tmp 7 0) [] 0 t3.2.1.length, .ref (.tmp 7 1) [] 0 t3.2.2.1.length, .sc (.int .i64 t3.2.2.2.1), .sc (.int .i64 t3.2.2.2.2.1)]) (by first | rfl | simp only [reduceCtorEq, Nat.reduceEqDiff, ak, akF, List.contains_nil, List.contains_cons, Nat.reduceBEq]) (mrgL_whole (new' := [.sc (.int .u32 a0_0), .sc (.int .i64 a0_1), .sc (.int .i64 a0_2), .sc (.int .i64 a0_3), .sc (.int .i64 a0_4), .sc (.int .i64 a0_5), .sc (.int .u32 a0_6), .own 1 t3.2.2.2.2.2.1.length (encL c_i64 t3.2.2.2.2.2.1), .sc (.int .i64 t3.2.2.2.2.2.2), .sc (.int .i64 a0_9), .sc (.int .i64 a0_10), .sc (.int .i64 a0_11), .sc (.bool a0_12)]) (mrgL_nil' _ _ _) rfl (by rfl) (.inl ⟨rfl, by first | rfl | simp only [reduceCtorEq, Nat.reduceEqDiff, ak, akF, Nat.zero_add, List.append_nil]⟩)) (by rfl) (by first | rfl | simp only [reduceCtorEq, Nat.reduceEqDiff, ak, akF, List.contains_nil, List.contains_cons, Nat.reduceBEq]) (by rfl) (by rfl) (by first | rfl | simp only [reduceCtorEq, Nat.reduceEqDiff, ak, akF, Nat.zero_add, List.append_nil]) ?_
 have g6 : (encL c68 t3.2.1).length = t3.2.1.length * 3 := by simp [encL_length c68_w]
 have g7 : (encL c_i64 t3.2.2.1).length = t3.2.2.1.length * 1 := by simp [encL_length c_i64_w]
 simp +decide only [Nat.reduceAdd, Nat.reduceMul, Int.reduceToNat, ak, g6, g7]
 refine hJ2 _ ?_
 refine gh_k (Weak.mark [0] [] (by simp) (by simp)) ?_
 obtain rfl := Option.some.inj h
 refine hKr _ ⟨_, rfl, [⟨(.tmp 4 0), [1], none, .lst⟩, ⟨(.tmp 4 0), [2], none, .lst⟩], _, rfl, rfl, ?_⟩
 exact cl
/-! ### (*impl.sender).calm: function 179 -/
def C179 : AC := .sr [.m 2 0, .m 3 0, .o (.nilc 4 (.t 3)), .fa 5 0 4, .fa 6 2 5, .ld 7 1 6, .o (.nilc 8 (.t 2)), .fa 9 9 8, .st 1 9 7, .keep [0]] (.sr [.m 10 0, .o (.nilc 11 (.t 10)), .fa 12 10 11, .o (.store 1 (.t 12) (.k 0)), .keep [0]] (.sr [.m 13 0, .o (.nilc 14 (.t 13)), .fa 15 8 14, .o (.store 1 (.t 15) (.k 0)), .keep [0]] (.sr [.m 16 0, .o (.nilc 17 (.t 16)), .fa 18 7 17, .ld 19 1 18, .ln 20 19, .o (.bin 21 .gtr (.t 20) (.k 0)), .keep [0, 21]] (.cond (.t 21) (.reg [.m 22 0, .m 23 0, .o (.nilc 24 (.t 23)), .fa 25 9 24, .ld 26 1 25, .o (.nilc 27 (.t 22)), .fa 28 8 27, .st 1 28 26, .keep []]) (.skip)))))
def r179 : List RV := []
theorem k179 : compC Try.prog 29 C179 (Try.f179.body.getD .skip) = some C179.erase := by kernel_rfl
theorem q179 : rvsOf Try.prog Try.f179.results.toList = some r179 := by kernel_rfl
def impl_sender_calm.f (a0_0 : Int) (a0_1 : Int) (a0_2 : Int) (a0_3 : Int) (a0_4 : Int) (a0_5 : Int) (a0_6 : Int) (l0_7 : List Int) (a0_8 : Int) (a0_9 : Int) (a0_10 : Int) (a0_11 : Int) (a0_12 : Bool) : Option (Int × Int × Int) := (if (l0_7.length : Int) > 0 then (some (a0_2, a0_2, 0)) else (some (0, a0_2, 0)))
theorem impl_sender_calm.tri (a0_0 : Int) (a0_1 : Int) (a0_2 : Int) (a0_3 : Int) (a0_4 : Int) (a0_5 : Int) (a0_6 : Int) (l0_7 : List Int) (a0_8 : Int) (a0_9 : Int) (a0_10 : Int) (a0_11 : Int) (a0_12 : Bool) (r : Int × Int × Int) (h : impl_sender_calm.f a0_0 a0_1 a0_2 a0_3 a0_4 a0_5 a0_6 l0_7 a0_8 a0_9 a0_10 a0_11 a0_12 = some r) : Tri Try.prog 179 [.c (.ptr (.arg 0) [] 0)] [(.arg 0, ⟨.box, 0, [.sc (.int .u32 a0_0), .sc (.int .i64 a0_1), .sc (.int .i64 a0_2), .sc (.int .i64 a0_3), .sc (.int .i64 a0_4), .sc (.int .i64 a0_5), .sc (.int .u32 a0_6), .own 1 l0_7.length (encL c_i64 l0_7), .sc (.int .i64 a0_8), .sc (.int .i64 a0_9), .sc (.int .i64 a0_10), .sc (.int .i64 a0_11), .sc (.bool a0_12)]⟩)] (fun o => o = ⟨.tup [], [(.arg 0, ⟨.box, 0, [.sc (.int .u32 a0_0), .sc (.int .i64 a0_1), .sc (.int .i64 a0_2), .sc (.int .i64 a0_3), .sc (.int .i64 a0_4), .sc (.int .i64 a0_5), .sc (.int .u32 a0_6), .own 1 l0_7.length (encL c_i64 l0_7), .sc (.int .i64 r.1), .sc (.int .i64 r.2.1), .sc (.int .i64 r.2.2), .sc (.int .i64 a0_11), .sc (.bool a0_12)]⟩)], [], []⟩) := by
 refine tri_of_body (ac := C179) (xs := r179) Try.func179 (show Try.f179.body = some (Try.f179.body.getD .skip) from rfl) k179 q179 (Nat.le_of_ble_eq_true rfl) ?_
 refine body_of fun K hKn hKr => ?_
 unfold impl_sender_calm.f at h
 unfold C179
 simp only [initT, Nat.reduceAdd]
 refine sr_k fun J1 hJ1 => ?_
 simp +decide only [Nat.reduceAdd, Nat.reduceMul, Int.reduceToNat, ak]
 refine hJ1 _ ?_
 refine sr_k fun J2 hJ2 => ?_
 simp +decide only [Nat.reduceAdd, Nat.reduceMul, Int.reduceToNat, ak]
 refine hJ2 _ ?_
 refine sr_k fun J3 hJ3 => ?_
 simp +decide only [Nat.reduceAdd, Nat.reduceMul, Int.reduceToNat, ak]
 refine hJ3 _ ?_
 refine sr_k fun J4 hJ4 => ?_
 simp +decide only [Nat.reduceAdd, Nat.reduceMul, Int.reduceToNat, ak]
 refine hJ4 _ ?_
 refine cond_k (b := decide ((l0_7.length : Int) > 0)) rfl (fun c5 => ?_) (fun c5 => ?_)
 ·replace c5 := of_decide_eq_true c5; rw [if_pos c5] at h
  refine reg_k ?_
  simp +decide only [Nat.reduceAdd, Nat.reduceMul, Int.reduceToNat, ak]
  obtain rfl := Option.some.inj h
  refine hKn _ ⟨_, rfl, [], _, rfl, rfl, ?_⟩
  exact cl
 ·replace c5 := of_decide_eq_false c5; rw [if_neg c5] at h
  obtain rfl := Option.some.inj h
  refine hKn _ ⟨_, rfl, [], _, rfl, rfl, ?_⟩
  exact cl
/-! ### (*impl.sender).again: function 182 -/
def C182_l0 : AC := .sr [.o (.bin 12 .lss (.t 11) (.t 10)), .keep [0, 3, 9, 10, 11, 12]] (.seq (.cond (.t 12) (.skip) (.gh (.exit 0))) (.seq (.block 1 (.sr [.m 13 11, .ia 14 1 9 11, .ld 15 1 14, .m 4 13, .m 5 15, .keep [0, 3, 4, 5, 9, 10, 11]] (.reg [.m 16 3, .m 17 0, .o (.nilc 18 (.t 17)), .fa 19 6 18, .ld 20 1 19, .m 21 4, .o (.conv 22 .u32 (.t 21)), .o (.bin 23 .add (.t 20) (.t 22)), .m 24 5, .o (.build 25 [.int .i64 0, .int .u32 0, .int .i64 0] [(0, 1, .const (.int .i64 2)), (1, 1, .tmp 23), (2, 1, .tmp 24)]), .o (.bslice 26 3 [.int .i64 0, .int .u32 0, .int .i64 0] 1 [(0, .tmp 25)]), .o (.app 27 3 24 true (.t 16) (.t 26)), .m 3 27, .keep [0, 3, 9, 10, 11]]))) (.reg [.o (.bin 28 .add (.t 11) (.k 1)), .m 11 28, .keep [0, 3, 9, 10, 11]])))
def C182 : AC := .sr [.o (.mv 2 (.const (.slice none 0 0))), .gh, .keep [0]] (.sr [.o (.mv 3 (.const (.slice none 0 0))), .gh, .keep [0, 3]] (.seq (.sr [.m 6 0, .o (.nilc 7 (.t 6)), .fa 8 7 7, .ld 9 1 8, .ln 10 9, .o (.mv 11 (.k 0)), .keep [0, 3, 9, 10, 11]] (.block 0 (.gh (.loop (.ga C182_l0))))) (.sr [.m 29 3, .m 2 29, .keep [2]] (.ret))))
def r182 : List RV := [.tmp 2]
theorem k182 : compC Try.prog 30 C182 (Try.f182.body.getD .skip) = some C182.erase := by kernel_rfl
theorem q182 : rvsOf Try.prog Try.f182.results.toList = some r182 := by kernel_rfl
def impl_sender_again.l0 (x0_0 : Int) (x0_2 : Int) (x0_3 : Int) (x0_4 : Int) (x0_5 : Int) (x0_6 : Int) (x0_7 : Int) (x0_8 : Int) (x0_9 : (List Int)) (x0_10 : Int) (x0_11 : Int) (x0_12 : Int) (x0_13 : Int) (x0_14 : Bool) (x0_1 : Int) (x0_15 : (List S68)) : Option (List S68) := (if x0_1 < x0_0 then (if 0 ≤ x0_1 ∧ x0_1 < (x0_9.length : Int) then (if (x0_15.length + 1) * 24 ≤ 140737488355328 then (impl_sender_again.l0 x0_0 x0_2 x0_3 x0_4 x0_5 x0_6 x0_7 x0_8 x0_9 x0_10 x0_11 x0_12 x0_13 x0_14 (IntKind.i64.wrap (x0_1 + 1)) (x0_15 ++ ([(⟨2, IntKind.u32.wrap (x0_8 + (IntKind.u32.wrap x0_1)), (rd 0 x0_9 x0_1)⟩ : S68)] : List S68))) else none) else none) else (some x0_15))
 partial_fixpoint
def impl_sender_again.f (a0_0 : Int) (a0_1 : Int) (a0_2 : Int) (a0_3 : Int) (a0_4 : Int) (a0_5 : Int) (a0_6 : Int) (l0_7 : List Int) (a0_8 : Int) (a0_9 : Int) (a0_10 : Int) (a0_11 : Int) (a0_12 : Bool) : Option (List S68) := (impl_sender_again.l0 (l0_7.length : Int) a0_0 a0_1 a0_2 a0_3 a0_4 a0_5 a0_6 l0_7 a0_8 a0_9 a0_10 a0_11 a0_12 0 ([] : List S68) >>= fun (y24 : (List S68)) => (some y24))
def impl_sender_again.l0_M (x0_0 : Int) (x0_2 : Int) (x0_3 : Int) (x0_4 : Int) (x0_5 : Int) (x0_6 : Int) (x0_7 : Int) (x0_8 : Int) (x0_9 : (List Int)) (x0_10 : Int) (x0_11 : Int) (x0_12 : Int) (x0_13 : Int) (x0_14 : Bool) (x0_1 : Int) (x0_15 : (List S68)) (y : (List S68)) : Prop := ∀ (K : AE → St → Prop), (K (.exit 0) ⟨[(3, .c (.ref (.tmp 3 20) [] 0 y.length))], [(.arg 0, ⟨.box, 0, [.sc (.int .u32 x0_2), .sc (.int .i64 x0_3), .sc (.int .i64 x0_4), .sc (.int .i64 x0_5), .sc (.int .i64 x0_6), .sc (.int .i64 x0_7), .sc (.int .u32 x0_8), .own 1 x0_9.length (encL c_i64 x0_9), .sc (.int .i64 x0_10), .sc (.int .i64 x0_11), .sc (.int .i64 x0_12), .sc (.int .i64 x0_13), .sc (.bool x0_14)]⟩), (.tmp 3 20, ⟨.lst, 3, encL c68 y⟩)], [], []⟩) → loopS Try.prog 30 (.ga C182_l0) K ⟨[(0, .c (.ptr (.arg 0) [] 0)), (3, .c (.ref (.tmp 3 20) [] 0 x0_15.length)), (9, .c (.ref (.arg 0) [7] 0 x0_9.length)), (10, .c (.sc (.int .i64 x0_0))), (11, .c (.sc (.int .i64 x0_1)))], [(.arg 0, ⟨.box, 0, [.sc (.int .u32 x0_2), .sc (.int .i64 x0_3), .sc (.int .i64 x0_4), .sc (.int .i64 x0_5), .sc (.int .i64 x0_6), .sc (.int .i64 x0_7), .sc (.int .u32 x0_8), .own 1 x0_9.length (encL c_i64 x0_9), .sc (.int .i64 x0_10), .sc (.int .i64 x0_11), .sc (.int .i64 x0_12), .sc (.int .i64 x0_13), .sc (.bool x0_14)]⟩), (.tmp 3 20, ⟨.lst, 3, encL c68 x0_15⟩)], [], []⟩
theorem impl_sender_again.l0_walk (x0_0 : Int) (x0_2 : Int) (x0_3 : Int) (x0_4 : Int) (x0_5 : Int) (x0_6 : Int) (x0_7 : Int) (x0_8 : Int) (x0_9 : (List Int)) (x0_10 : Int) (x0_11 : Int) (x0_12 : Int) (x0_13 : Int) (x0_14 : Bool) (x0_1 : Int) (x0_15 : (List S68)) (y : (List S68)) (h : impl_sender_again.l0 x0_0 x0_2 x0_3 x0_4 x0_5 x0_6 x0_7 x0_8 x0_9 x0_10 x0_11 x0_12 x0_13 x0_14 x0_1 x0_15 = some y) : impl_sender_again.l0_M x0_0 x0_2 x0_3 x0_4 x0_5 x0_6 x0_7 x0_8 x0_9 x0_10 x0_11 x0_12 x0_13 x0_14 x0_1 x0_15 y := by
 refine impl_sender_again.l0.partial_correctness x0_0 x0_2 x0_3 x0_4 x0_5 x0_6 x0_7 x0_8 x0_9 x0_10 x0_11 x0_12 x0_13 x0_14 (motive := fun x0_1 x0_15 y => impl_sender_again.l0_M x0_0 x0_2 x0_3 x0_4 x0_5 x0_6 x0_7 x0_8 x0_9 x0_10 x0_11 x0_12 x0_13 x0_14 x0_1 x0_15 y) ?_ x0_1 x0_15 y h
 clear h
 unfold impl_sender_again.l0_M
 intro rec ih x0_1 x0_15 y h K hx0
 refine loop_unroll (ga_k fun G0 G0n G0r G0x => ?_)
 unfold C182_l0
 refine sr_k fun J6 hJ6 => ?_
 simp +decide only [Nat.reduceAdd, Nat.reduceMul, Int.reduceToNat, ak]
 refine hJ6 _ ?_
 refine seq_k fun J7 hJ7 => ?_
 refine cond_k (b := decide (x0_1 < x0_0)) rfl (fun c9 => ?_) (fun c9 => ?_)
 ·replace c9 := of_decide_eq_true c9; rw [if_pos c9] at h
  refine hJ7 _ ?_
  refine seq_k fun J10 hJ10 => ?_
  refine block_k fun B11 B11n B11x B11r B11j => ?_
  refine sr_k fun J12 hJ12 => ?_
  obtain ⟨b13, h⟩ := of_guard h
  have g14 : (encL c_i64 x0_9)[0 + x0_1.toNat * 1]? = some (.sc (.int .i64 (rd 0 x0_9 x0_1))) := (Vw.whole c_i64_w x0_9).get 0 0 b13.1 b13.2 (by decide)
  simp +decide only [Nat.reduceAdd, Nat.reduceMul, Int.reduceToNat, ak, b13, g14]
  refine hJ12 _ ?_
  refine reg_k ?_
  have g15 : (List.replicate 1 ([.int .i64 0, .int .u32 0, .int .i64 0] : List Value)).flatten = [.int .i64 0, .int .u32 0, .int .i64 0] := rfl
  have g16 : (⟨.lst, 3, [.sc (.int .i64 2), .sc (.int .u32 (IntKind.u32.wrap (x0_8 + (IntKind.u32.wrap x0_1)))), .sc (.int .i64 (rd 0 x0_9 x0_1))]⟩ : Root) = ⟨.lst, 3, encL c68 ([(⟨2, IntKind.u32.wrap (x0_8 + (IntKind.u32.wrap x0_1)), (rd 0 x0_9 x0_1)⟩ : S68)] : List S68)⟩ := rfl
  have g17 : ([(⟨2, IntKind.u32.wrap (x0_8 + (IntKind.u32.wrap x0_1)), (rd 0 x0_9 x0_1)⟩ : S68)] : List S68).length = 1 := rfl
  have g18 : (encL c68 ([(⟨2, IntKind.u32.wrap (x0_8 + (IntKind.u32.wrap x0_1)), (rd 0 x0_9 x0_1)⟩ : S68)] : List S68)).length = 1 * 3 := by simp [encL_length c68_w]
  have g19 : (encL c68 ([(⟨2, IntKind.u32.wrap (x0_8 + (IntKind.u32.wrap x0_1)), (rd 0 x0_9 x0_1)⟩ : S68)] : List S68)).all nd = true := rfl
  obtain ⟨b20, h⟩ := of_guard h
  have g21 : appLim x0_15.length 1 24 := ⟨b20, by have := b20; omega⟩
  have g22 : (encL c68 x0_15).length = x0_15.length * 3 := by simp [encL_length c68_w]
  have g23 : encL c68 x0_15 ++ encL c68 ([(⟨2, IntKind.u32.wrap (x0_8 + (IntKind.u32.wrap x0_1)), (rd 0 x0_9 x0_1)⟩ : S68)] : List S68) = encL c68 (x0_15 ++ ([(⟨2, IntKind.u32.wrap (x0_8 + (IntKind.u32.wrap x0_1)), (rd 0 x0_9 x0_1)⟩ : S68)] : List S68)) := (encL_append _ _).symm
  simp +decide only [Nat.reduceAdd, Nat.reduceMul, Int.reduceToNat, ak, g15, g16, g17, g18, g19, g21, g22, g23]
  refine B11n _ ?_
  refine hJ10 _ ?_
  refine reg_k ?_
  simp +decide only [Nat.reduceAdd, Nat.reduceMul, Int.reduceToNat, ak]
  refine G0n _ _ (wj [0, 3, 9, 10, 11] [pI (.arg 0) .box, pI (.tmp 3 20) .lst]) (ih _ _ _ h K hx0)
 ·replace c9 := of_decide_eq_false c9; rw [if_neg c9] at h
  obtain rfl := Option.some.inj h
  refine gh_k (wk [3] [pI (.arg 0) .box, pI (.tmp 3 20) .lst]) ?_
  refine G0x _ _ ?_
  exact hx0
theorem impl_sender_again.tri (a0_0 : Int) (a0_1 : Int) (a0_2 : Int) (a0_3 : Int) (a0_4 : Int) (a0_5 : Int) (a0_6 : Int) (l0_7 : List Int) (a0_8 : Int) (a0_9 : Int) (a0_10 : Int) (a0_11 : Int) (a0_12 : Bool) (r : (List S68)) (h : impl_sender_again.f a0_0 a0_1 a0_2 a0_3 a0_4 a0_5 a0_6 l0_7 a0_8 a0_9 a0_10 a0_11 a0_12 = some r) : Tri Try.prog 182 [.c (.ptr (.arg 0) [] 0)] [(.arg 0, ⟨.box, 0, [.sc (.int .u32 a0_0), .sc (.int .i64 a0_1), .sc (.int .i64 a0_2), .sc (.int .i64 a0_3), .sc (.int .i64 a0_4), .sc (.int .i64 a0_5), .sc (.int .u32 a0_6), .own 1 l0_7.length (encL c_i64 l0_7), .sc (.int .i64 a0_8), .sc (.int .i64 a0_9), .sc (.int .i64 a0_10), .sc (.int .i64 a0_11), .sc (.bool a0_12)]⟩)] (fun o => o = ⟨.c (.ref (.res 0) [] 0 r.length), [(.arg 0, ⟨.box, 0, [.sc (.int .u32 a0_0), .sc (.int .i64 a0_1), .sc (.int .i64 a0_2), .sc (.int .i64 a0_3), .sc (.int .i64 a0_4), .sc (.int .i64 a0_5), .sc (.int .u32 a0_6), .own 1 l0_7.length (encL c_i64 l0_7), .sc (.int .i64 a0_8), .sc (.int .i64 a0_9), .sc (.int .i64 a0_10), .sc (.int .i64 a0_11), .sc (.bool a0_12)]⟩), (.res 0, ⟨.lst, 3, encL c68 r⟩)], [], []⟩) := by
 refine tri_of_body (ac := C182) (xs := r182) Try.func182 (show Try.f182.body = some (Try.f182.body.getD .skip) from rfl) k182 q182 (Nat.le_of_ble_eq_true rfl) ?_
 refine body_of fun K hKn hKr => ?_
 unfold impl_sender_again.f at h
 unfold C182
 simp only [initT, Nat.reduceAdd]
 refine sr_k fun J1 hJ1 => ?_
 simp +decide only [Nat.reduceAdd, Nat.reduceMul, Int.reduceToNat, ak]
 refine gho_k (Weak.nm' 2 (.tmp 2 20) 3 (encL c68 ([] : List S68)) rfl rfl rfl) ?_
 simp +decide only [Nat.reduceAdd, Nat.reduceMul, Int.reduceToNat, ak]
 refine hJ1 _ ?_
 refine sr_k fun J2 hJ2 => ?_
 simp +decide only [Nat.reduceAdd, Nat.reduceMul, Int.reduceToNat, ak]
 refine gho_k (Weak.nm' 3 (.tmp 3 20) 3 (encL c68 ([] : List S68)) rfl rfl rfl) ?_
 simp +decide only [Nat.reduceAdd, Nat.reduceMul, Int.reduceToNat, ak]
 refine hJ2 _ ?_
 refine seq_k fun J3 hJ3 => ?_
 refine sr_k fun J4 hJ4 => ?_
 simp +decide only [Nat.reduceAdd, Nat.reduceMul, Int.reduceToNat, ak]
 refine hJ4 _ ?_
 refine block_k fun B5 B5n B5x B5r B5j => ?_
 obtain ⟨y24, h25, h⟩ := of_bind h
 refine gh_k (st' := ⟨[(0, .c (.ptr (.arg 0) [] 0)), (3, .c (.ref (.tmp 3 20) [] 0 (([] : List S68).length))), (9, .c (.ref (.arg 0) [7] 0 l0_7.length)), (10, .c (.sc (.int .i64 (l0_7.length : Int)))), (11, .c (.sc (.int .i64 0)))], [(.arg 0, ⟨.box, 0, [.sc (.int .u32 a0_0), .sc (.int .i64 a0_1), .sc (.int .i64 a0_2), .sc (.int .i64 a0_3), .sc (.int .i64 a0_4), .sc (.int .i64 a0_5), .sc (.int .u32 a0_6), .own 1 l0_7.length (encL c_i64 l0_7), .sc (.int .i64 a0_8), .sc (.int .i64 a0_9), .sc (.int .i64 a0_10), .sc (.int .i64 a0_11), .sc (.bool a0_12)]⟩), (.tmp 3 20, ⟨.lst, 3, encL c68 ([] : List S68)⟩)], [], []⟩) (wk [0, 3, 9, 10, 11] [pI (.arg 0) .box, pI (.tmp 3 20) .lst] (h := by first | rfl | (simp +decide only [ak, akF]; done) | (simp +decide [ak, akF] <;> omega))) ?_
 rw [e_loop]
 refine impl_sender_again.l0_walk (l0_7.length : Int) a0_0 a0_1 a0_2 a0_3 a0_4 a0_5 a0_6 l0_7 a0_8 a0_9 a0_10 a0_11 a0_12 0 ([] : List S68) _ h25 _ ?_
 refine B5x _ ?_
 refine hJ3 _ ?_
 refine sr_k fun J26 hJ26 => ?_
 simp +decide only [Nat.reduceAdd, Nat.reduceMul, Int.reduceToNat, ak]
 refine hJ26 _ ?_
 obtain rfl := Option.some.inj h
 refine hKr _ ⟨_, rfl, [⟨(.tmp 3 20), [], none, .lst⟩], _, rfl, rfl, ?_⟩
 exact cl
/-! ### (impl.ackSeq).happen: function 181 -/
def C181 : AC := .sr [.o (.box 2 (.t 0)), .o (.alloc 4 [.int .i64 0, .slice none 0 0, .slice none 0 0, .int .i64 0, .int .i64 0]), .gh, .keep [1, 2, 4]] (.seq (.regD (.f (.fa 7 0 2) (.f (.ld 8 1 7) (.f (.m 9 1) (.f (.o (.nilc 10 (.t 9))) (.f (.fa 11 6 10) (.f (.ld 12 1 11) (.f (.o (.bin 13 .sub (.t 8) (.t 12))) (.f (.m 5 13) (.done))))))))) [1, 2, 4, 5]) (.seq (.sr [.m 14 5, .o (.conv 15 .u64 (.t 14)), .m 16 1, .o (.nilc 17 (.t 16)), .fa 18 7 17, .ld 19 1 18, .ln 20 19, .o (.conv 21 .u64 (.t 20)), .o (.bin 22 .gtr (.t 15) (.t 21)), .keep [1, 2, 4, 5, 22]] (.cond (.t 22) (.sr [.o (.build 23 [.int .i64 0, .slice none 0 0, .slice none 0 0, .int .i64 0, .int .i64 0] [(0, 1, .const (.int .i64 11))]), .gh, .st 5 4 23, .keep [4]] (.gh .ret)) (.skip))) (.sr [.m 24 1, .o (.nilc 25 (.t 24)), .fa 26 7 25, .ld 27 1 26, .m 28 5, .o (.slice 29 1 (.t 27) none (some (.t 28))), .o (.app 30 1 8 false (.const (.slice none 0 0)) (.t 29)), .o (.build 31 [.int .i64 0, .slice none 0 0, .slice none 0 0, .int .i64 0, .int .i64 0] [(2, 1, .tmp 30)]), .gh, .o (.alloc 6 [.int .i64 0, .slice none 0 0, .slice none 0 0, .int .i64 0, .int .i64 0]), .gh, .st 5 6 31, .keep [1, 2, 4, 5, 6]] (.sr [.m 32 1, .m 33 1, .o (.nilc 34 (.t 33)), .fa 35 7 34, .ld 36 1 35, .m 37 5, .o (.slice 38 1 (.t 36) (some (.t 37)) none), .o (.app 39 1 8 false (.const (.slice none 0 0)) (.t 38)), .o (.nilc 40 (.t 32)), .fa 41 7 40, .st 1 41 39, .keep [1, 2, 4, 5, 6]] (.sr [.m 42 1, .fa 43 0 2, .ld 44 1 43, .o (.nilc 45 (.t 42)), .fa 46 6 45, .st 1 46 44, .keep [1, 4, 5, 6]] (.seq (.ga (.sr [.m 47 1, .o (.nilc 48 (.t 47)), .fa 49 12 48, .ld 50 1 49, .keep [1, 4, 5, 6, 50]] (.cond (.t 50) (.sr [.m 51 1, .o (.nilc 52 (.t 51)), .fa 53 12 52, .o (.store 1 (.t 53) (.const (.bool false))), .keep [1, 4, 6]] (.sr [.m 54 1, .o (.nilc 55 (.t 54)), .fa 56 11 55, .o (.store 1 (.t 56) (.k 0)), .keep [1, 4, 6]] (.sr [.m 57 1, .call none (some 58) 179 [.tmp 57], .keep [1, 4, 6]] (.sr [.fa 59 4 6, .o (.store 1 (.t 59) (.k 1)), .keep [1, 4, 6]] (.reg [.m 60 1, .call none (some 61) 182 [.tmp 60], .fa 62 1 6, .st 1 62 61, .keep [4, 6]]))))) (.sr [.m 63 5, .o (.bin 64 .gtr (.t 63) (.const (.int .u32 0))), .keep [1, 4, 6, 64]] (.cond (.t 64) (.reg [.m 65 1, .call none (some 66) 179 [.tmp 65], .keep [4, 6]]) (.skip)))))) (.sr [.o (.load 67 true 5 (.t 6)), .st 5 4 67, .keep [4]] (.gh .ret))))))))
def r181 : List RV := [.cell 4 true 5]
theorem k181 : compC Try.prog 68 C181 (Try.f181.body.getD .skip) = some C181.erase := by kernel_rfl
theorem q181 : rvsOf Try.prog Try.f181.results.toList = some r181 := by kernel_rfl
def impl_ackSeq_happen.f (a0_0 : Int) (a1_0 : Int) (a1_1 : Int) (a1_2 : Int) (a1_3 : Int) (a1_4 : Int) (a1_5 : Int) (a1_6 : Int) (l1_7 : List Int) (a1_8 : Int) (a1_9 : Int) (a1_10 : Int) (a1_11 : Int) (a1_12 : Bool) : Option (Int × (List S68) × (List Int) × Int × Int × Int × (List Int) × Int × Int × Int × Int × Bool) := (if IntKind.u64.wrap (IntKind.u32.wrap (a0_0 - a1_6)) > IntKind.u64.wrap (l1_7.length : Int) then (some (11, ([] : List S68), ([] : List Int), 0, 0, a1_6, l1_7, a1_8, a1_9, a1_10, a1_11, a1_12)) else (if 0 ≤ IntKind.u32.wrap (a0_0 - a1_6) ∧ IntKind.u32.wrap (a0_0 - a1_6) ≤ (l1_7.length : Int) then (if (0 + ((IntKind.u32.wrap (a0_0 - a1_6)).toNat - 0)) * 8 ≤ 140737488355328 then (if (0 + (l1_7.length - (IntKind.u32.wrap (a0_0 - a1_6)).toNat)) * 8 ≤ 140737488355328 then ((if a1_12 = true then (impl_sender_calm.f a1_0 a1_1 a1_2 a1_3 a1_4 a1_5 a0_0 (List.drop (IntKind.u32.wrap (a0_0 - a1_6)).toNat l1_7) a1_8 a1_9 a1_10 0 false >>= fun t42 => (impl_sender_again.f a1_0 a1_1 a1_2 a1_3 a1_4 a1_5 a0_0 (List.drop (IntKind.u32.wrap (a0_0 - a1_6)).toNat l1_7) t42.1 t42.2.1 t42.2.2 0 false >>= fun t46 => (some (t42.1, t42.2.1, t42.2.2, 0, false, t46, 1)))) else (if IntKind.u32.wrap (a0_0 - a1_6) > 0 then (impl_sender_calm.f a1_0 a1_1 a1_2 a1_3 a1_4 a1_5 a0_0 (List.drop (IntKind.u32.wrap (a0_0 - a1_6)).toNat l1_7) a1_8 a1_9 a1_10 a1_11 a1_12 >>= fun t52 => (some (t52.1, t52.2.1, t52.2.2, a1_11, a1_12, ([] : List S68), 0))) else (some (a1_8, a1_9, a1_10, a1_11, a1_12, ([] : List S68), 0)))) >>= fun (j29 : Int × Int × Int × Int × Bool × (List S68) × Int) => (some (0, j29.2.2.2.2.2.1, (List.take (IntKind.u32.wrap (a0_0 - a1_6)).toNat l1_7), 0, j29.2.2.2.2.2.2, a0_0, (List.drop (IntKind.u32.wrap (a0_0 - a1_6)).toNat l1_7), j29.1, j29.2.1, j29.2.2.1, j29.2.2.2.1, j29.2.2.2.2.1))) else none) else none) else none))
theorem impl_ackSeq_happen.tri (a0_0 : Int) (a1_0 : Int) (a1_1 : Int) (a1_2 : Int) (a1_3 : Int) (a1_4 : Int) (a1_5 : Int) (a1_6 : Int) (l1_7 : List Int) (a1_8 : Int) (a1_9 : Int) (a1_10 : Int) (a1_11 : Int) (a1_12 : Bool) (r : Int × (List S68) × (List Int) × Int × Int × Int × (List Int) × Int × Int × Int × Int × Bool) (h : impl_ackSeq_happen.f a0_0 a1_0 a1_1 a1_2 a1_3 a1_4 a1_5 a1_6 l1_7 a1_8 a1_9 a1_10 a1_11 a1_12 = some r) : Tri Try.prog 181 [.g [.sc (.int .u32 a0_0)], .c (.ptr (.arg 0) [] 0)] [(.arg 0, ⟨.box, 0, [.sc (.int .u32 a1_0), .sc (.int .i64 a1_1), .sc (.int .i64 a1_2), .sc (.int .i64 a1_3), .sc (.int .i64 a1_4), .sc (.int .i64 a1_5), .sc (.int .u32 a1_6), .own 1 l1_7.length (encL c_i64 l1_7), .sc (.int .i64 a1_8), .sc (.int .i64 a1_9), .sc (.int .i64 a1_10), .sc (.int .i64 a1_11), .sc (.bool a1_12)]⟩)] (fun o => o = ⟨.g [.sc (.int .i64 r.1), .ref (.res 0) [] 0 r.2.1.length, .ref (.res 1) [] 0 r.2.2.1.length, .sc (.int .i64 r.2.2.2.1), .sc (.int .i64 r.2.2.2.2.1)], [(.arg 0, ⟨.box, 0, [.sc (.int .u32 a1_0), .sc (.int .i64 a1_1), .sc (.int .i64 a1_2), .sc (.int .i64 a1_3), .sc (.int .i64 a1_4), .sc (.int .i64 a1_5), .sc (.int .u32 r.2.2.2.2.2.1), .own 1 r.2.2.2.2.2.2.1.length (encL c_i64 r.2.2.2.2.2.2.1), .sc (.int .i64 r.2.2.2.2.2.2.2.1), .sc (.int .i64 r.2.2.2.2.2.2.2.2.1), .sc (.int .i64 r.2.2.2.2.2.2.2.2.2.1), .sc (.int .i64 r.2.2.2.2.2.2.2.2.2.2.1), .sc (.bool r.2.2.2.2.2.2.2.2.2.2.2)]⟩), (.res 0, ⟨.lst, 3, encL c68 r.2.1⟩), (.res 1, ⟨.lst, 1, encL c_i64 r.2.2.1⟩)], [0], []⟩) := by
 refine tri_of_body (ac := C181) (xs := r181) Try.func181 (show Try.f181.body = some (Try.f181.body.getD .skip) from rfl) k181 q181 (Nat.le_of_ble_eq_true rfl) ?_
 refine body_of fun K hKn hKr => ?_
 unfold impl_ackSeq_happen.f at h
 unfold C181
 simp only [initT, Nat.reduceAdd]
 refine sr_k fun J1 hJ1 => ?_
 simp +decide only [Nat.reduceAdd, Nat.reduceMul, Int.reduceToNat, ak]
 refine gho_k (Weak.own (.tmp 4 0) (cs' := [.sc (.int .i64 0), .own 3 (([] : List S68).length) (encL c68 ([] : List S68)), .own 1 (([] : List Int).length) (encL c_i64 ([] : List Int)), .sc (.int .i64 0), .sc (.int .i64 0)]) rfl ⟨.inl rfl, .inr ⟨rfl, _, rfl⟩, .inr ⟨rfl, _, rfl⟩, .inl rfl, .inl rfl, trivial⟩) ?_
 simp +decide only [Nat.reduceAdd, Nat.reduceMul, Int.reduceToNat, ak]
 refine hJ1 _ ?_
 refine sd_k fun J2 hJ2 => ?_
 simp +decide only [Nat.reduceAdd, Nat.reduceMul, Int.reduceToNat, ak]
 refine hJ2 _ ?_
 refine seq_k fun J3 hJ3 => ?_
 refine sr_k fun J4 hJ4 => ?_
 simp +decide only [Nat.reduceAdd, Nat.reduceMul, Int.reduceToNat, ak]
 refine hJ4 _ ?_
 refine cond_k (b := decide (IntKind.u64.wrap (IntKind.u32.wrap (a0_0 - a1_6)) > IntKind.u64.wrap (l1_7.length : Int))) rfl (fun c5 => ?_) (fun c5 => ?_)
 ·replace c5 := of_decide_eq_true c5; rw [if_pos c5] at h
  refine sr_k fun J6 hJ6 => ?_
  simp +decide only [Nat.reduceAdd, Nat.reduceMul, Int.reduceToNat, ak]
  refine gho_k ((Weak.nmg' 23 1 (.tmp 23 21) 3 (encL c68 ([] : List S68)) rfl rfl rfl rfl).trans (Weak.nmg' 23 2 (.tmp 23 22) 1 (encL c_i64 ([] : List Int)) rfl rfl rfl rfl)) ?_
  have g7 : (encL c68 ([] : List S68)).length = 0 * 3 := by simp [encL_length c68_w]
  have g8 : (encL c_i64 ([] : List Int)).length = 0 * 1 := by simp [encL_length c_i64_w]
  simp +decide only [Nat.reduceAdd, Nat.reduceMul, Int.reduceToNat, ak, g7, g8]
  refine hJ6 _ ?_
  refine gh_k (Weak.mark [0] [] (by simp) (by simp)) ?_
  obtain rfl := Option.some.inj h
  refine hKr _ ⟨_, rfl, [⟨(.tmp 4 0), [1], none, .lst⟩, ⟨(.tmp 4 0), [2], none, .lst⟩], _, rfl, rfl, ?_⟩
  exact cl
 ·replace c5 := of_decide_eq_false c5; rw [if_neg c5] at h
  refine hJ3 _ ?_
  refine sr_k fun J9 hJ9 => ?_
  obtain ⟨b10, h⟩ := of_guard h
  have g11 : 0 ≤ IntKind.u32.wrap (a0_0 - a1_6) := (by have := b10; omega)
  have g12 : 0 ≤ (IntKind.u32.wrap (a0_0 - a1_6)).toNat := (by have := b10; omega)
  have g13 : (IntKind.u32.wrap (a0_0 - a1_6)).toNat ≤ l1_7.length := (by have := b10; omega)
  have g14 : (List.take (IntKind.u32.wrap (a0_0 - a1_6)).toNat l1_7).length = (IntKind.u32.wrap (a0_0 - a1_6)).toNat - 0 := by have := b10; have h0 : l1_7.length = l1_7.length := (by simp); simp only [List.length_drop, List.length_take] <;> omega
  have g15 : (encL c_i64 l1_7).take (((IntKind.u32.wrap (a0_0 - a1_6)).toNat - 0) * 1) = encL c_i64 (List.take (IntKind.u32.wrap (a0_0 - a1_6)).toNat l1_7) := by simpa [g14] using ((Vw.whole c_i64_w l1_7).upto (b := (IntKind.u32.wrap (a0_0 - a1_6)).toNat) (by have := b10; omega)).all
  have g16 : (encL c_i64 (List.take (IntKind.u32.wrap (a0_0 - a1_6)).toNat l1_7)).all isSc = true := encL_all (fun _ => rfl) _
  obtain ⟨b17, h⟩ := of_guard h
  have g18 : appLim 0 ((IntKind.u32.wrap (a0_0 - a1_6)).toNat - 0) 8 := ⟨b17, by have := b17; omega⟩
  simp +decide only [Nat.reduceAdd, Nat.reduceMul, Int.reduceToNat, ak, g11, g12, g13, g15, g16, g18]
  refine gho_k (Weak.nmg' 31 1 (.tmp 31 21) 3 (encL c68 ([] : List S68)) rfl rfl rfl rfl) ?_
  simp +decide only [Nat.reduceAdd, Nat.reduceMul, Int.reduceToNat, ak]
  refine gho_k (Weak.own (.tmp 6 0) (cs' := [.sc (.int .i64 0), .own 3 (([] : List S68).length) (encL c68 ([] : List S68)), .own 1 (([] : List Int).length) (encL c_i64 ([] : List Int)), .sc (.int .i64 0), .sc (.int .i64 0)]) rfl ⟨.inl rfl, .inr ⟨rfl, _, rfl⟩, .inr ⟨rfl, _, rfl⟩, .inl rfl, .inl rfl, trivial⟩) ?_
  have g19 : (encL c68 ([] : List S68)).length = 0 * 3 := by simp [encL_length c68_w, g14]
  have g20 : (encL c_i64 (List.take (IntKind.u32.wrap (a0_0 - a1_6)).toNat l1_7)).length = (0 + ((IntKind.u32.wrap (a0_0 - a1_6)).toNat - 0)) * 1 := by simp [encL_length c_i64_w, g14]
  simp +decide only [Nat.reduceAdd, Nat.reduceMul, Int.reduceToNat, ak, g19, g20]
  refine hJ9 _ ?_
  refine sr_k fun J21 hJ21 => ?_
  have g22 : (List.drop (IntKind.u32.wrap (a0_0 - a1_6)).toNat l1_7).length = l1_7.length - (IntKind.u32.wrap (a0_0 - a1_6)).toNat := by have := b10; have h0 : l1_7.length = l1_7.length := (by simp [g14]); simp only [List.length_drop, List.length_take] <;> omega
  have g23 : (List.drop (0 + (IntKind.u32.wrap (a0_0 - a1_6)).toNat * 1) (encL c_i64 l1_7)).take ((l1_7.length - (IntKind.u32.wrap (a0_0 - a1_6)).toNat) * 1) = encL c_i64 (List.drop (IntKind.u32.wrap (a0_0 - a1_6)).toNat l1_7) := by simpa [g14, g22] using ((Vw.whole c_i64_w l1_7).from (a := (IntKind.u32.wrap (a0_0 - a1_6)).toNat) (by have := b10; omega)).all
  have g24 : (encL c_i64 (List.drop (IntKind.u32.wrap (a0_0 - a1_6)).toNat l1_7)).all isSc = true := encL_all (fun _ => rfl) _
  obtain ⟨b25, h⟩ := of_guard h
  have g26 : appLim 0 (l1_7.length - (IntKind.u32.wrap (a0_0 - a1_6)).toNat) 8 := ⟨b25, by have := b25; omega⟩
  have g27 : (encL c_i64 (List.drop (IntKind.u32.wrap (a0_0 - a1_6)).toNat l1_7)).length = (0 + (l1_7.length - (IntKind.u32.wrap (a0_0 - a1_6)).toNat)) * 1 := by simp [encL_length c_i64_w, g14, g22]
  simp +decide only [Nat.reduceAdd, Nat.reduceMul, Int.reduceToNat, ak, g11, g13, Nat.le_refl, g23, g24, g26, g27]
  refine hJ21 _ ?_
  refine sr_k fun J28 hJ28 => ?_
  simp +decide only [Nat.reduceAdd, Nat.reduceMul, Int.reduceToNat, ak]
  refine hJ28 _ ?_
  obtain ⟨j29, h30, hn⟩ := of_bind h
  refine seq_j (fun st => st = ⟨[(4, .c (.ptr (.tmp 4 0) [] 0)), (6, .c (.ptr (.tmp 6 0) [] 0))], [(.arg 0, ⟨.box, 0, [.sc (.int .u32 a1_0), .sc (.int .i64 a1_1), .sc (.int .i64 a1_2), .sc (.int .i64 a1_3), .sc (.int .i64 a1_4), .sc (.int .i64 a1_5), .sc (.int .u32 a0_0), .own 1 (0 + (l1_7.length - (IntKind.u32.wrap (a0_0 - a1_6)).toNat)) (encL c_i64 (List.drop (IntKind.u32.wrap (a0_0 - a1_6)).toNat l1_7)), .sc (.int .i64 j29.1), .sc (.int .i64 j29.2.1), .sc (.int .i64 j29.2.2.1), .sc (.int .i64 j29.2.2.2.1), .sc (.bool j29.2.2.2.2.1)]⟩), (.tmp 4 0, ⟨.box, 0, [.sc (.int .i64 0), .own 3 (([] : List S68).length) (encL c68 ([] : List S68)), .own 1 (([] : List Int).length) (encL c_i64 ([] : List Int)), .sc (.int .i64 0), .sc (.int .i64 0)]⟩), (.tmp 6 0, ⟨.box, 0, [.sc (.int .i64 0), .own 3 j29.2.2.2.2.2.1.length (encL c68 j29.2.2.2.2.2.1), .own 1 (0 + ((IntKind.u32.wrap (a0_0 - a1_6)).toNat - 0)) (encL c_i64 (List.take (IntKind.u32.wrap (a0_0 - a1_6)).toNat l1_7)), .sc (.int .i64 0), .sc (.int .i64 j29.2.2.2.2.2.2)]⟩)], [0], []⟩) (fun J31 hJ31 => ?_) ?_
  ·replace h := h30; clear hn
   refine ga_k fun G32 G32n G32r G32x => ?_
   refine sr_k fun J33 hJ33 => ?_
   simp +decide only [Nat.reduceAdd, Nat.reduceMul, Int.reduceToNat, ak]
   refine hJ33 _ ?_
   refine cond_k (b := a1_12) rfl (fun c38 => ?_) (fun c38 => ?_)
   ·rw [if_pos c38] at h
    refine sr_k fun J39 hJ39 => ?_
    simp +decide only [Nat.reduceAdd, Nat.reduceMul, Int.reduceToNat, ak]
    refine hJ39 _ ?_
    refine sr_k fun J40 hJ40 => ?_
    simp +decide only [Nat.reduceAdd, Nat.reduceMul, Int.reduceToNat, ak]
    refine hJ40 _ ?_
    refine sr_k fun J41 hJ41 => ?_
    simp +decide only [Nat.reduceAdd, Nat.reduceMul, Int.reduceToNat, ak]
    obtain ⟨t42, h43, h⟩ := of_bind h
    refine cm [pI (.arg 0) .box] (impl_sender_calm.tri a1_0 a1_1 a1_2 a1_3 a1_4 a1_5 a0_0 (List.drop (IntKind.u32.wrap (a0_0 - a1_6)).toNat l1_7) a1_8 a1_9 a1_10 0 false _ h43) (fun hl43 => ?_) (h0 := by first | rfl | simp only [reduceCtorEq, Nat.reduceEqDiff, ak, akF, b10, b17, b25, g11, g12, g13, g14, g15, g16, g18, g19, g20, g22, g23, g24, g26, g27, (show 0 + (l1_7.length - (IntKind.u32.wrap (a0_0 - a1_6)).toNat) = (List.drop (IntKind.u32.wrap (a0_0 - a1_6)).toNat l1_7).length by simp [g14, g22])]) (hav := by first | rfl | simp only [reduceCtorEq, Nat.reduceEqDiff, ak, akF, (show 0 + (l1_7.length - (IntKind.u32.wrap (a0_0 - a1_6)).toNat) = (List.drop (IntKind.u32.wrap (a0_0 - a1_6)).toNat l1_7).length by simp [g14, g22])])
    refine ct (.tup []) (mW [.sc (.int .u32 a1_0), .sc (.int .i64 a1_1), .sc (.int .i64 a1_2), .sc (.int .i64 a1_3), .sc (.int .i64 a1_4), .sc (.int .i64 a1_5), .sc (.int .u32 a0_0), .own 1 (0 + (l1_7.length - (IntKind.u32.wrap (a0_0 - a1_6)).toNat)) (encL c_i64 (List.drop (IntKind.u32.wrap (a0_0 - a1_6)).toNat l1_7)), .sc (.int .i64 t42.1), .sc (.int .i64 t42.2.1), .sc (.int .i64 t42.2.2), .sc (.int .i64 0), .sc (.bool false)] (mN ..)) ?_ (s4 := [(.arg 0, ⟨.box, 0, [.sc (.int .u32 a1_0), .sc (.int .i64 a1_1), .sc (.int .i64 a1_2), .sc (.int .i64 a1_3), .sc (.int .i64 a1_4), .sc (.int .i64 a1_5), .sc (.int .u32 a0_0), .own 1 (0 + (l1_7.length - (IntKind.u32.wrap (a0_0 - a1_6)).toNat)) (encL c_i64 (List.drop (IntKind.u32.wrap (a0_0 - a1_6)).toNat l1_7)), .sc (.int .i64 t42.1), .sc (.int .i64 t42.2.1), .sc (.int .i64 t42.2.2), .sc (.int .i64 0), .sc (.bool false)]⟩), (.tmp 2 0, ⟨.box, 0, [.sc (.int .u32 a0_0)]⟩), (.tmp 4 0, ⟨.box, 0, [.sc (.int .i64 0), .own 3 (([] : List S68).length) (encL c68 ([] : List S68)), .own 1 (([] : List Int).length) (encL c_i64 ([] : List Int)), .sc (.int .i64 0), .sc (.int .i64 0)]⟩), (.tmp 6 0, ⟨.box, 0, [.sc (.int .i64 0), .own 3 0 (encL c68 ([] : List S68)), .own 1 (0 + ((IntKind.u32.wrap (a0_0 - a1_6)).toNat - 0)) (encL c_i64 (List.take (IntKind.u32.wrap (a0_0 - a1_6)).toNat l1_7)), .sc (.int .i64 0), .sc (.int .i64 0)]⟩)])
    simp +decide only [Nat.reduceAdd, Nat.reduceMul, Int.reduceToNat, ak]
    refine hJ41 _ ?_
    refine sr_k fun J45 hJ45 => ?_
    simp +decide only [Nat.reduceAdd, Nat.reduceMul, Int.reduceToNat, ak]
    refine hJ45 _ ?_
    refine reg_k ?_
    simp +decide only [Nat.reduceAdd, Nat.reduceMul, Int.reduceToNat, ak]
    obtain ⟨t46, h47, h⟩ := of_bind h
    refine cm [pI (.arg 0) .box] (impl_sender_again.tri a1_0 a1_1 a1_2 a1_3 a1_4 a1_5 a0_0 (List.drop (IntKind.u32.wrap (a0_0 - a1_6)).toNat l1_7) t42.1 t42.2.1 t42.2.2 0 false _ h47) (fun hl47 => ?_) (h0 := by first | rfl | simp only [reduceCtorEq, Nat.reduceEqDiff, ak, akF, b10, b17, b25, g11, g12, g13, g14, g15, g16, g18, g19, g20, g22, g23, g24, g26, g27, (show 0 + (l1_7.length - (IntKind.u32.wrap (a0_0 - a1_6)).toNat) = (List.drop (IntKind.u32.wrap (a0_0 - a1_6)).toNat l1_7).length by simp [g14, g22])]) (hav := by first | rfl | simp only [reduceCtorEq, Nat.reduceEqDiff, ak, akF, (show 0 + (l1_7.length - (IntKind.u32.wrap (a0_0 - a1_6)).toNat) = (List.drop (IntKind.u32.wrap (a0_0 - a1_6)).toNat l1_7).length by simp [g14, g22])])
    refine ct (.c (.ref (.tmp 61 0) [] 0 t46.length)) (mW [.sc (.int .u32 a1_0), .sc (.int .i64 a1_1), .sc (.int .i64 a1_2), .sc (.int .i64 a1_3), .sc (.int .i64 a1_4), .sc (.int .i64 a1_5), .sc (.int .u32 a0_0), .own 1 (0 + (l1_7.length - (IntKind.u32.wrap (a0_0 - a1_6)).toNat)) (encL c_i64 (List.drop (IntKind.u32.wrap (a0_0 - a1_6)).toNat l1_7)), .sc (.int .i64 t42.1), .sc (.int .i64 t42.2.1), .sc (.int .i64 t42.2.2), .sc (.int .i64 0), .sc (.bool false)] (mN ..)) ?_ (s4 := [(.arg 0, ⟨.box, 0, [.sc (.int .u32 a1_0), .sc (.int .i64 a1_1), .sc (.int .i64 a1_2), .sc (.int .i64 a1_3), .sc (.int .i64 a1_4), .sc (.int .i64 a1_5), .sc (.int .u32 a0_0), .own 1 (0 + (l1_7.length - (IntKind.u32.wrap (a0_0 - a1_6)).toNat)) (encL c_i64 (List.drop (IntKind.u32.wrap (a0_0 - a1_6)).toNat l1_7)), .sc (.int .i64 t42.1), .sc (.int .i64 t42.2.1), .sc (.int .i64 t42.2.2), .sc (.int .i64 0), .sc (.bool false)]⟩), (.tmp 2 0, ⟨.box, 0, [.sc (.int .u32 a0_0)]⟩), (.tmp 4 0, ⟨.box, 0, [.sc (.int .i64 0), .own 3 (([] : List S68).length) (encL c68 ([] : List S68)), .own 1 (([] : List Int).length) (encL c_i64 ([] : List Int)), .sc (.int .i64 0), .sc (.int .i64 0)]⟩), (.tmp 6 0, ⟨.box, 0, [.sc (.int .i64 0), .own 3 0 (encL c68 ([] : List S68)), .own 1 (0 + ((IntKind.u32.wrap (a0_0 - a1_6)).toNat - 0)) (encL c_i64 (List.take (IntKind.u32.wrap (a0_0 - a1_6)).toNat l1_7)), .sc (.int .i64 0), .sc (.int .i64 1)]⟩), (.tmp 61 0, ⟨.lst, 3, encL c68 t46⟩)])
    have g49 : (encL c68 t46).length = t46.length * 3 := by simp [encL_length c68_w, g14, g22]
    simp +decide only [Nat.reduceAdd, Nat.reduceMul, Int.reduceToNat, ak, g49]
    obtain rfl := Option.some.inj h
    refine G32n _ _ (wkm [0] [] [4, 6] [pI (.arg 0) .box, pI (.tmp 4 0) .box, pI (.tmp 6 0) .box] (h0 := by first | rfl | simp +decide only [ak, akF, b10, b17, b25, g14, g22]) (h := by first | rfl | (simp +decide only [ak, akF, b10, b17, b25, g14, g22]; done) | (simp +decide [ak, akF, b10, b17, b25, g14, g22] <;> omega))) (hJ31 _ rfl)
   ·rw [if_neg (Bool.eq_false_iff.1 c38)] at h
    refine sr_k fun J50 hJ50 => ?_
    simp +decide only [Nat.reduceAdd, Nat.reduceMul, Int.reduceToNat, ak]
    refine hJ50 _ ?_
    refine cond_k (b := decide (IntKind.u32.wrap (a0_0 - a1_6) > 0)) rfl (fun c51 => ?_) (fun c51 => ?_)
    ·replace c51 := of_decide_eq_true c51; rw [if_pos c51] at h
     refine reg_k ?_
     simp +decide only [Nat.reduceAdd, Nat.reduceMul, Int.reduceToNat, ak]
     obtain ⟨t52, h53, h⟩ := of_bind h
     refine cm [pI (.arg 0) .box] (impl_sender_calm.tri a1_0 a1_1 a1_2 a1_3 a1_4 a1_5 a0_0 (List.drop (IntKind.u32.wrap (a0_0 - a1_6)).toNat l1_7) a1_8 a1_9 a1_10 a1_11 a1_12 _ h53) (fun hl53 => ?_) (h0 := by first | rfl | simp only [reduceCtorEq, Nat.reduceEqDiff, ak, akF, b10, b17, b25, g11, g12, g13, g14, g15, g16, g18, g19, g20, g22, g23, g24, g26, g27, (show 0 + (l1_7.length - (IntKind.u32.wrap (a0_0 - a1_6)).toNat) = (List.drop (IntKind.u32.wrap (a0_0 - a1_6)).toNat l1_7).length by simp [g14, g22])]) (hav := by first | rfl | simp only [reduceCtorEq, Nat.reduceEqDiff, ak, akF, (show 0 + (l1_7.length - (IntKind.u32.wrap (a0_0 - a1_6)).toNat) = (List.drop (IntKind.u32.wrap (a0_0 - a1_6)).toNat l1_7).length by simp [g14, g22])])
     refine ct (.tup []) (mW [.sc (.int .u32 a1_0), .sc (.int .i64 a1_1), .sc (.int .i64 a1_2), .sc (.int .i64 a1_3), .sc (.int .i64 a1_4), .sc (.int .i64 a1_5), .sc (.int .u32 a0_0), .own 1 (0 + (l1_7.length - (IntKind.u32.wrap (a0_0 - a1_6)).toNat)) (encL c_i64 (List.drop (IntKind.u32.wrap (a0_0 - a1_6)).toNat l1_7)), .sc (.int .i64 t52.1), .sc (.int .i64 t52.2.1), .sc (.int .i64 t52.2.2), .sc (.int .i64 a1_11), .sc (.bool a1_12)] (mN ..)) ?_ (s4 := [(.arg 0, ⟨.box, 0, [.sc (.int .u32 a1_0), .sc (.int .i64 a1_1), .sc (.int .i64 a1_2), .sc (.int .i64 a1_3), .sc (.int .i64 a1_4), .sc (.int .i64 a1_5), .sc (.int .u32 a0_0), .own 1 (0 + (l1_7.length - (IntKind.u32.wrap (a0_0 - a1_6)).toNat)) (encL c_i64 (List.drop (IntKind.u32.wrap (a0_0 - a1_6)).toNat l1_7)), .sc (.int .i64 t52.1), .sc (.int .i64 t52.2.1), .sc (.int .i64 t52.2.2), .sc (.int .i64 a1_11), .sc (.bool a1_12)]⟩), (.tmp 2 0, ⟨.box, 0, [.sc (.int .u32 a0_0)]⟩), (.tmp 4 0, ⟨.box, 0, [.sc (.int .i64 0), .own 3 (([] : List S68).length) (encL c68 ([] : List S68)), .own 1 (([] : List Int).length) (encL c_i64 ([] : List Int)), .sc (.int .i64 0), .sc (.int .i64 0)]⟩), (.tmp 6 0, ⟨.box, 0, [.sc (.int .i64 0), .own 3 0 (encL c68 ([] : List S68)), .own 1 (0 + ((IntKind.u32.wrap (a0_0 - a1_6)).toNat - 0)) (encL c_i64 (List.take (IntKind.u32.wrap (a0_0 - a1_6)).toNat l1_7)), .sc (.int .i64 0), .sc (.int .i64 0)]⟩)])
     simp +decide only [Nat.reduceAdd, Nat.reduceMul, Int.reduceToNat, ak]
     obtain rfl := Option.some.inj h
     refine G32n _ _ (wkm [0] [] [4, 6] [pI (.arg 0) .box, pI (.tmp 4 0) .box, pI (.tmp 6 0) .box] (h0 := by first | rfl | simp +decide only [ak, akF, b10, b17, b25, g14, g22]) (h := by first | rfl | (simp +decide only [ak, akF, b10, b17, b25, g14, g22]; done) | (simp +decide [ak, akF, b10, b17, b25, g14, g22] <;> omega))) (hJ31 _ rfl)
    ·replace c51 := of_decide_eq_false c51; rw [if_neg c51] at h
     obtain rfl := Option.some.inj h
     refine G32n _ _ (wkm [0] [] [4, 6] [pI (.arg 0) .box, pI (.tmp 4 0) .box, pI (.tmp 6 0) .box] (h0 := by first | rfl | simp +decide only [ak, akF, b10, b17, b25, g14, g22]) (h := by first | rfl | (simp +decide only [ak, akF, b10, b17, b25, g14, g22]; done) | (simp +decide [ak, akF, b10, b17, b25, g14, g22] <;> omega))) (hJ31 _ rfl)
  ·replace h := hn; clear hn h30
   rintro _ rfl
   refine sr_k fun J55 hJ55 => ?_
   simp +decide only [Nat.reduceAdd, Nat.reduceMul, Int.reduceToNat, ak]
   refine hJ55 _ ?_
   refine gh_k (Weak.mark [0] [] (by simp) (by simp)) ?_
   obtain rfl := Option.some.inj h
   refine hKr _ ⟨_, rfl, [⟨(.tmp 6 0), [1], none, .lst⟩, ⟨(.tmp 6 0), [2], none, .lst⟩], _, rfl, rfl, ?_⟩
   exact cl
/-! ### (*impl.sender).act: function 133 -/
def C133v1i221 : AC := .sr [.o (.alloc 4 [.int .i64 0, .slice none 0 0, .slice none 0 0, .int .i64 0, .int .i64 0]), .gh, .keep [0, 1, 4]] (.sr [.m 5 1, .m 6 0, .callv none (some 7) (.invoke (.t 5) "loop.example/s03010/impl.happen") [.tmp 6], .st 5 4 7, .keep [4]] (.gh .ret))
def r133v1i221 : List RV := [.cell 4 true 5]
theorem k133v1i221 : compC Try.prog 8 C133v1i221 (Try.f133.body.getD .skip) = some C133v1i221.erase := by kernel_rfl
theorem q133v1i221 : rvsOf Try.prog Try.f133.results.toList = some r133v1i221 := by kernel_rfl
def impl_sender_act_v1i221.f (a0_0 : Int) (a0_1 : Int) (a0_2 : Int) (a0_3 : Int) (a0_4 : Int) (a0_5 : Int) (a0_6 : Int) (l0_7 : List Int) (a0_8 : Int) (a0_9 : Int) (a0_10 : Int) (a0_11 : Int) (a0_12 : Bool) (a1_0 : Int) : Option (Int × (List S68) × (List Int) × Int × Int × Int × (List Int) × Int × Int × Int × Int × Bool) := (impl_ackSeq_happen.f a1_0 a0_0 a0_1 a0_2 a0_3 a0_4 a0_5 a0_6 l0_7 a0_8 a0_9 a0_10 a0_11 a0_12 >>= fun t3 => (some (t3.1, t3.2.1, t3.2.2.1, t3.2.2.2.1, t3.2.2.2.2.1, t3.2.2.2.2.2.1, t3.2.2.2.2.2.2.1, t3.2.2.2.2.2.2.2.1, t3.2.2.2.2.2.2.2.2.1, t3.2.2.2.2.2.2.2.2.2.1, t3.2.2.2.2.2.2.2.2.2.2.1, t3.2.2.2.2.2.2.2.2.2.2.2)))
theorem impl_sender_act_v1i221.tri (a0_0 : Int) (a0_1 : Int) (a0_2 : Int) (a0_3 : Int) (a0_4 : Int) (a0_5 : Int) (a0_6 : Int) (l0_7 : List Int) (a0_8 : Int) (a0_9 : Int) (a0_10 : Int) (a0_11 : Int) (a0_12 : Bool) (a1_0 : Int) (r : Int × (List S68) × (List Int) × Int × Int × Int × (List Int) × Int × Int × Int × Int × Bool) (h : impl_sender_act_v1i221.f a0_0 a0_1 a0_2 a0_3 a0_4 a0_5 a0_6 l0_7 a0_8 a0_9 a0_10 a0_11 a0_12 a1_0 = some r) : Tri Try.prog 133 [.c (.ptr (.arg 0) [] 0), .c (.sc (.iface 221 (.agg #[.int .u32 a1_0])))] [(.arg 0, ⟨.box, 0, [.sc (.int .u32 a0_0), .sc (.int .i64 a0_1), .sc (.int .i64 a0_2), .sc (.int .i64 a0_3), .sc (.int .i64 a0_4), .sc (.int .i64 a0_5), .sc (.int .u32 a0_6), .own 1 l0_7.length (encL c_i64 l0_7), .sc (.int .i64 a0_8), .sc (.int .i64 a0_9), .sc (.int .i64 a0_10), .sc (.int .i64 a0_11), .sc (.bool a0_12)]⟩)] (fun o => o = ⟨.g [.sc (.int .i64 r.1), .ref (.res 0) [] 0 r.2.1.length, .ref (.res 1) [] 0 r.2.2.1.length, .sc (.int .i64 r.2.2.2.1), .sc (.int .i64 r.2.2.2.2.1)], [(.arg 0, ⟨.box, 0, [.sc (.int .u32 a0_0), .sc (.int .i64 a0_1), .sc (.int .i64 a0_2), .sc (.int .i64 a0_3), .sc (.int .i64 a0_4), .sc (.int .i64 a0_5), .sc (.int .u32 r.2.2.2.2.2.1), .own 1 r.2.2.2.2.2.2.1.length (encL c_i64 r.2.2.2.2.2.2.1), .sc (.int .i64 r.2.2.2.2.2.2.2.1), .sc (.int .i64 r.2.2.2.2.2.2.2.2.1), .sc (.int .i64 r.2.2.2.2.2.2.2.2.2.1), .sc (.int .i64 r.2.2.2.2.2.2.2.2.2.2.1), .sc (.bool r.2.2.2.2.2.2.2.2.2.2.2)]⟩), (.res 0, ⟨.lst, 3, encL c68 r.2.1⟩), (.res 1, ⟨.lst, 1, encL c_i64 r.2.2.1⟩)], [0], []⟩) := by
 refine tri_of_body (ac := C133v1i221) (xs := r133v1i221) Try.func133 (show Try.f133.body = some (Try.f133.body.getD .skip) from rfl) k133v1i221 q133v1i221 (Nat.le_of_ble_eq_true rfl) ?_
 refine body_of fun K hKn hKr => ?_
 unfold impl_sender_act_v1i221.f at h
 unfold C133v1i221
 simp only [initT, Nat.reduceAdd]
 refine sr_k fun J1 hJ1 => ?_
 simp +decide only [Nat.reduceAdd, Nat.reduceMul, Int.reduceToNat, ak]
 refine gho_k (Weak.own (.tmp 4 0) (cs' := [.sc (.int .i64 0), .own 3 (([] : List S68).length) (encL c68 ([] : List S68)), .own 1 (([] : List Int).length) (encL c_i64 ([] : List Int)), .sc (.int .i64 0), .sc (.int .i64 0)]) rfl ⟨.inl rfl, .inr ⟨rfl, _, rfl⟩, .inr ⟨rfl, _, rfl⟩, .inl rfl, .inl rfl, trivial⟩) ?_
 simp +decide only [Nat.reduceAdd, Nat.reduceMul, Int.reduceToNat, ak]
 refine hJ1 _ ?_
 refine sr_k fun J2 hJ2 => ?_
 simp +decide only [Nat.reduceAdd, Nat.reduceMul, Int.reduceToNat, ak]
 obtain ⟨t3, h4, h⟩ := of_bind h
 refine callv_iface (f := 181) (fn := Try.f181) (t := 221) (v := (.agg #[.int .u32 a1_0])) (recv := (.agg #[.int .u32 a1_0])) rfl (fun w => by kernel_rfl) Try.func181 (by kernel_rfl) (by decide) ?_
 refine cm [pI (.arg 0) .box] (impl_ackSeq_happen.tri a1_0 a0_0 a0_1 a0_2 a0_3 a0_4 a0_5 a0_6 l0_7 a0_8 a0_9 a0_10 a0_11 a0_12 _ h4) (fun hl4 => ?_)
 refine call_st (s2 := [(.arg 0, ⟨.box, 0, [.sc (.int .u32 a0_0), .sc (.int .i64 a0_1), .sc (.int .i64 a0_2), .sc (.int .i64 a0_3), .sc (.int .i64 a0_4), .sc (.int .i64 a0_5), .sc (.int .u32 a0_6), .own 1 l0_7.length (encL c_i64 l0_7), .sc (.int .i64 a0_8), .sc (.int .i64 a0_9), .sc (.int .i64 a0_10), .sc (.int .i64 a0_11), .sc (.bool a0_12)]⟩), (.tmp 4 0, ⟨.box, 0, [.sc (.int .i64 0), .own 3 (([] : List S68).length) (encL c68 ([] : List S68)), .own 1 (([] : List Int).length) (encL c_i64 ([] : List Int)), .sc (.int .i64 0), .sc (.int .i64 0)]⟩)]) (s4 := [(.arg 0, ⟨.box, 0, [.sc (.int .u32 a0_0), .sc (.int .i64 a0_1), .sc (.int .i64 a0_2), .sc (.int .i64 a0_3), .sc (.int .i64 a0_4), .sc (.int .i64 a0_5), .sc (.int .u32 t3.2.2.2.2.2.1), .own 1 t3.2.2.2.2.2.2.1.length (encL c_i64 t3.2.2.2.2.2.2.1), .sc (.int .i64 t3.2.2.2.2.2.2.2.1), .sc (.int .i64 t3.2.2.2.2.2.2.2.2.1), .sc (.int .i64 t3.2.2.2.2.2.2.2.2.2.1), .sc (.int .i64 t3.2.2.2.2.2.2.2.2.2.2.1), .sc (.bool t3.2.2.2.2.2.2.2.2.2.2.2)]⟩), (.tmp 4 0, ⟨.box, 0, [.sc (.int .i64 0), .own 3 (([] : List S68).length) (encL c68 ([] : List S68)), .own 1 (([] : List Int).length) (encL c_i64 ([] : List Int)), .sc (.int .i64 0), .sc (.int .i64 0)]⟩), (.tmp 7 1, ⟨.lst, 1, encL c_i64 t3.2.2.1⟩), (.tmp 7 0, ⟨.lst, 3, encL c68 t3.2.1⟩)]) (t' := [(0, .c (.ptr (.arg 0) [] 0)), (1, .c (.sc (.iface 221 (.agg #[.int .u32 a1_0])))), (4, .c (.ptr (.tmp 4 0) [] 0)), (5, .c (.sc (.iface 221 (.agg #[.int .u32 a1_0])))), (6, .c (.ptr (.arg 0) [] 0))]) (m1' := [0]) (m2' := []) (v' := .g [.sc (.int .i64 t3.1), .ref (.tmp 7 0) [] 0 t3.2.1.length, .ref (.tmp 7 1) [] 0 t3.2.2.1.length, .sc (.int .i64 t3.2.2.2.1), .sc (.int .i64 t3.2.2.2.2.1)]) (by first | rfl | simp only [reduceCtorEq, Nat.reduceEqDiff, ak, akF, List.contains_nil, List.contains_cons, Nat.reduceBEq]) (mrgL_whole (new' := [.sc (.int .u32 a0_0), .sc (.int .i64 a0_1), .sc (.int .i64 a0_2), .sc (.int .i64 a0_3), .sc (.int .i64 a0_4), .sc (.int .i64 a0_5), .sc (.int .u32 t3.2.2.2.2.2.1), .own 1 t3.2.2.2.2.2.2.1.length (encL c_i64 t3.2.2.2.2.2.2.1), .sc (.int .i64 t3.2.2.2.2.2.2.2.1), .sc (.int .i64 t3.2.2.2.2.2.2.2.2.1), .sc (.int .i64 t3.2.2.2.2.2.2.2.2.2.1), .sc (.int .i64 t3.2.2.2.2.2.2.2.2.2.2.1), .sc (.bool t3.2.2.2.2.2.2.2.2.2.2.2)]) (mrgL_nil' _ _ _) rfl (by rfl) (.inl ⟨rfl, by first | rfl | simp only [reduceCtorEq, Nat.reduceEqDiff, ak, akF, Nat.zero_add, List.append_nil]⟩)) (by rfl) (by first | rfl | simp only [reduceCtorEq, Nat.reduceEqDiff, ak, akF, List.contains_nil, List.contains_cons, Nat.reduceBEq]) (by rfl) (by rfl) (by first | rfl | simp only [reduceCtorEq, Nat.reduceEqDiff, ak, akF, Nat.zero_add, List.append_nil]) ?_
 have g6 : (encL c68 t3.2.1).length = t3.2.1.length * 3 := by simp [encL_length c68_w]
 have g7 : (encL c_i64 t3.2.2.1).length = t3.2.2.1.length * 1 := by simp [encL_length c_i64_w]
 simp +decide only [Nat.reduceAdd, Nat.reduceMul, Int.reduceToNat, ak, g6, g7]
 refine hJ2 _ ?_
 refine gh_k (Weak.mark [0] [] (by simp) (by simp)) ?_
 obtain rfl := Option.some.inj h
 refine hKr _ ⟨_, rfl, [⟨(.tmp 4 0), [1], none, .lst⟩, ⟨(.tmp 4 0), [2], none, .lst⟩], _, rfl, rfl, ?_⟩
 exact cl
/-! ### (impl.tick).happen: function 183 -/
def C183 : AC := .sr [.o (.box 2 (.t 0)), .o (.alloc 4 [.int .i64 0, .slice none 0 0, .slice none 0 0, .int .i64 0, .int .i64 0]), .gh, .keep [1, 4]] (.seq (.sr [.m 5 1, .o (.nilc 6 (.t 5)), .fa 7 12 6, .ld 8 1 7, .keep [1, 4, 8]] (.cond (.t 8) (.sr [.m 9 1, .o (.nilc 10 (.t 9)), .fa 11 11 10, .ld 12 1 11, .o (.bin 13 .sub (.t 12) (.k 1)), .o (.nilc 14 (.t 9)), .fa 15 11 14, .st 1 15 13, .keep [1, 4]] (.seq (.sr [.m 16 1, .o (.nilc 17 (.t 16)), .fa 18 11 17, .ld 19 1 18, .o (.bin 20 .gtr (.t 19) (.k 0)), .keep [1, 4, 20]] (.cond (.t 20) (.sr [.o (.build 21 [.int .i64 0, .slice none 0 0, .slice none 0 0, .int .i64 0, .int .i64 0] []), .gh, .st 5 4 21, .keep [4]] (.ret)) (.skip))) (.sr [.m 22 1, .m 23 1, .o (.nilc 24 (.t 23)), .fa 25 0 24, .fa 26 5 25, .ld 27 1 26, .o (.nilc 28 (.t 22)), .fa 29 11 28, .st 1 29 27, .keep [1, 4]] (.sr [.m 30 1, .o (.nilc 31 (.t 30)), .fa 32 6 31, .ld 33 1 32, .o (.build 34 [.int .i64 0, .int .u32 0, .int .i64 0] [(0, 1, .const (.int .i64 3)), (1, 1, .tmp 33), (2, 1, .const (.int .i64 0))]), .o (.bslice 35 3 [.int .i64 0, .int .u32 0, .int .i64 0] 1 [(0, .tmp 34)]), .o (.build 36 [.int .i64 0, .slice none 0 0, .slice none 0 0, .int .i64 0, .int .i64 0] [(1, 1, .tmp 35)]), .gh, .st 5 4 36, .keep [4]] (.ret))))) (.skip))) (.seq (.sr [.m 37 1, .o (.nilc 38 (.t 37)), .fa 39 8 38, .ld 40 1 39, .o (.bin 41 .eql (.t 40) (.k 0)), .keep [1, 4, 41]] (.cond (.t 41) (.sr [.o (.build 42 [.int .i64 0, .slice none 0 0, .slice none 0 0, .int .i64 0, .int .i64 0] []), .gh, .st 5 4 42, .keep [4]] (.ret)) (.skip))) (.sr [.m 43 1, .o (.nilc 44 (.t 43)), .fa 45 8 44, .ld 46 1 45, .o (.bin 47 .sub (.t 46) (.k 1)), .o (.nilc 48 (.t 43)), .fa 49 8 48, .st 1 49 47, .keep [1, 4]] (.seq (.sr [.m 50 1, .o (.nilc 51 (.t 50)), .fa 52 8 51, .ld 53 1 52, .o (.bin 54 .gtr (.t 53) (.k 0)), .keep [1, 4, 54]] (.cond (.t 54) (.sr [.o (.build 55 [.int .i64 0, .slice none 0 0, .slice none 0 0, .int .i64 0, .int .i64 0] []), .gh, .st 5 4 55, .keep [4]] (.ret)) (.skip))) (.sr [.m 56 1, .o (.nilc 57 (.t 56)), .fa 58 10 57, .ld 59 1 58, .o (.bin 60 .add (.t 59) (.k 1)), .o (.nilc 61 (.t 56)), .fa 62 10 61, .st 1 62 60, .keep [1, 4]] (.seq (.seq (.regD (.f (.m 63 1) (.f (.o (.nilc 64 (.t 63))) (.f (.fa 65 10 64) (.f (.ld 66 1 65) (.f (.m 67 1) (.f (.o (.nilc 68 (.t 67))) (.f (.fa 69 0 68) (.f (.fa 70 4 69) (.f (.ld 71 1 70) (.f (.o (.bin 72 .eql (.t 66) (.t 71))) (.done))))))))))) [1, 4, 72]) (.cond (.t 72) (.sr [.m 73 1, .o (.nilc 74 (.t 73)), .fa 75 12 74, .o (.store 1 (.t 75) (.const (.bool true))), .keep [1, 4]] (.sr [.m 76 1, .m 77 1, .o (.nilc 78 (.t 77)), .fa 79 0 78, .fa 80 5 79, .ld 81 1 80, .o (.nilc 82 (.t 76)), .fa 83 11 82, .st 1 83 81, .keep [4]] (.sr [.o (.build 84 [.int .i64 0, .slice none 0 0, .slice none 0 0, .int .i64 0, .int .i64 0] [(3, 1, .const (.int .i64 1))]), .gh, .st 5 4 84, .keep [4]] (.ret)))) (.skip))) (.seq (.regD (.f (.m 85 1) (.f (.m 86 1) (.f (.o (.nilc 87 (.t 86))) (.f (.fa 88 9 87) (.f (.ld 89 1 88) (.f (.o (.bin 90 .mul (.k 2) (.t 89))) (.f (.m 91 1) (.f (.o (.nilc 92 (.t 91))) (.f (.fa 93 0 92) (.f (.fa 94 3 93) (.f (.ld 95 1 94) (.f (.o (.mm 96 false [.tmp 90, .tmp 95])) (.f (.o (.nilc 97 (.t 85))) (.f (.fa 98 9 97) (.alt (.st 1 98 96) none (.done) (.stop)))))))))))))))) [1, 4]) (.sr [.m 99 1, .m 100 1, .o (.nilc 101 (.t 100)), .fa 102 9 101, .ld 103 1 102, .o (.nilc 104 (.t 99)), .fa 105 8 104, .st 1 105 103, .keep [1, 4]] (.sr [.m 106 1, .call none (some 107) 182 [.tmp 106], .o (.build 108 [.int .i64 0, .slice none 0 0, .slice none 0 0, .int .i64 0, .int .i64 0] [(1, 1, .tmp 107)]), .gh, .st 5 4 108, .keep [4]] (.ret))))))))))
def r183 : List RV := [.cell 4 true 5]
theorem k183 : compC Try.prog 109 C183 (Try.f183.body.getD .skip) = some C183.erase := by kernel_rfl
theorem q183 : rvsOf Try.prog Try.f183.results.toList = some r183 := by kernel_rfl
def impl_tick_happen.f (a1_0 : Int) (a1_1 : Int) (a1_2 : Int) (a1_3 : Int) (a1_4 : Int) (a1_5 : Int) (a1_6 : Int) (l1_7 : List Int) (a1_8 : Int) (a1_9 : Int) (a1_10 : Int) (a1_11 : Int) (a1_12 : Bool) : Option (Int × (List S68) × (List Int) × Int × Int × Int × Int × Int × Int × Bool) := (if a1_12 = true then (if IntKind.i64.wrap (a1_11 - 1) > 0 then (some (0, ([] : List S68), ([] : List Int), 0, 0, a1_8, a1_9, a1_10, IntKind.i64.wrap (a1_11 - 1), a1_12)) else (some (0, ([(⟨3, a1_6, 0⟩ : S68)] : List S68), ([] : List Int), 0, 0, a1_8, a1_9, a1_10, a1_5, a1_12))) else (if a1_8 = 0 then (some (0, ([] : List S68), ([] : List Int), 0, 0, a1_8, a1_9, a1_10, a1_11, a1_12)) else (if IntKind.i64.wrap (a1_8 - 1) > 0 then (some (0, ([] : List S68), ([] : List Int), 0, 0, IntKind.i64.wrap (a1_8 - 1), a1_9, a1_10, a1_11, a1_12)) else (if IntKind.i64.wrap (a1_10 + 1) = a1_4 then (some (0, ([] : List S68), ([] : List Int), 1, 0, IntKind.i64.wrap (a1_8 - 1), a1_9, IntKind.i64.wrap (a1_10 + 1), a1_5, true)) else (impl_sender_again.f a1_0 a1_1 a1_2 a1_3 a1_4 a1_5 a1_6 l1_7 (if a1_3 < (IntKind.i64.wrap (2 * a1_9)) then a1_3 else IntKind.i64.wrap (2 * a1_9)) (if a1_3 < (IntKind.i64.wrap (2 * a1_9)) then a1_3 else IntKind.i64.wrap (2 * a1_9)) (IntKind.i64.wrap (a1_10 + 1)) a1_11 a1_12 >>= fun t47 => (some (0, t47, ([] : List Int), 0, 0, (if a1_3 < (IntKind.i64.wrap (2 * a1_9)) then a1_3 else IntKind.i64.wrap (2 * a1_9)), (if a1_3 < (IntKind.i64.wrap (2 * a1_9)) then a1_3 else IntKind.i64.wrap (2 * a1_9)), IntKind.i64.wrap (a1_10 + 1), a1_11, a1_12)))))))
theorem impl_tick_happen.tri (a1_0 : Int) (a1_1 : Int) (a1_2 : Int) (a1_3 : Int) (a1_4 : Int) (a1_5 : Int) (a1_6 : Int) (l1_7 : List Int) (a1_8 : Int) (a1_9 : Int) (a1_10 : Int) (a1_11 : Int) (a1_12 : Bool) (r : Int × (List S68) × (List Int) × Int × Int × Int × Int × Int × Int × Bool) (h : impl_tick_happen.f a1_0 a1_1 a1_2 a1_3 a1_4 a1_5 a1_6 l1_7 a1_8 a1_9 a1_10 a1_11 a1_12 = some r) : Tri Try.prog 183 [.g [], .c (.ptr (.arg 0) [] 0)] [(.arg 0, ⟨.box, 0, [.sc (.int .u32 a1_0), .sc (.int .i64 a1_1), .sc (.int .i64 a1_2), .sc (.int .i64 a1_3), .sc (.int .i64 a1_4), .sc (.int .i64 a1_5), .sc (.int .u32 a1_6), .own 1 l1_7.length (encL c_i64 l1_7), .sc (.int .i64 a1_8), .sc (.int .i64 a1_9), .sc (.int .i64 a1_10), .sc (.int .i64 a1_11), .sc (.bool a1_12)]⟩)] (fun o => o = ⟨.g [.sc (.int .i64 r.1), .ref (.res 0) [] 0 r.2.1.length, .ref (.res 1) [] 0 r.2.2.1.length, .sc (.int .i64 r.2.2.2.1), .sc (.int .i64 r.2.2.2.2.1)], [(.arg 0, ⟨.box, 0, [.sc (.int .u32 a1_0), .sc (.int .i64 a1_1), .sc (.int .i64 a1_2), .sc (.int .i64 a1_3), .sc (.int .i64 a1_4), .sc (.int .i64 a1_5), .sc (.int .u32 a1_6), .own 1 l1_7.length (encL c_i64 l1_7), .sc (.int .i64 r.2.2.2.2.2.1), .sc (.int .i64 r.2.2.2.2.2.2.1), .sc (.int .i64 r.2.2.2.2.2.2.2.1), .sc (.int .i64 r.2.2.2.2.2.2.2.2.1), .sc (.bool r.2.2.2.2.2.2.2.2.2)]⟩), (.res 0, ⟨.lst, 3, encL c68 r.2.1⟩), (.res 1, ⟨.lst, 1, encL c_i64 r.2.2.1⟩)], [], []⟩) := by
 refine tri_of_body (ac := C183) (xs := r183) Try.func183 (show Try.f183.body = some (Try.f183.body.getD .skip) from rfl) k183 q183 (Nat.le_of_ble_eq_true rfl) ?_
 refine body_of fun K hKn hKr => ?_
 unfold impl_tick_happen.f at h
 unfold C183
 simp only [initT, Nat.reduceAdd]
 refine sr_k fun J1 hJ1 => ?_
 simp +decide only [Nat.reduceAdd, Nat.reduceMul, Int.reduceToNat, ak]
 refine gho_k (Weak.own (.tmp 4 0) (cs' := [.sc (.int .i64 0), .own 3 (([] : List S68).length) (encL c68 ([] : List S68)), .own 1 (([] : List Int).length) (encL c_i64 ([] : List Int)), .sc (.int .i64 0), .sc (.int .i64 0)]) rfl ⟨.inl rfl, .inr ⟨rfl, _, rfl⟩, .inr ⟨rfl, _, rfl⟩, .inl rfl, .inl rfl, trivial⟩) ?_
 simp +decide only [Nat.reduceAdd, Nat.reduceMul, Int.reduceToNat, ak]
 refine hJ1 _ ?_
 refine seq_k fun J2 hJ2 => ?_
 refine sr_k fun J3 hJ3 => ?_
 simp +decide only [Nat.reduceAdd, Nat.reduceMul, Int.reduceToNat, ak]
 refine hJ3 _ ?_
 refine cond_k (b := a1_12) rfl (fun c4 => ?_) (fun c4 => ?_)
 ·rw [if_pos c4] at h
  refine sr_k fun J5 hJ5 => ?_
  simp +decide only [Nat.reduceAdd, Nat.reduceMul, Int.reduceToNat, ak]
  refine hJ5 _ ?_
  refine seq_k fun J6 hJ6 => ?_
  refine sr_k fun J7 hJ7 => ?_
  simp +decide only [Nat.reduceAdd, Nat.reduceMul, Int.reduceToNat, ak]
  refine hJ7 _ ?_
  refine cond_k (b := decide (IntKind.i64.wrap (a1_11 - 1) > 0)) rfl (fun c9 => ?_) (fun c9 => ?_)
  ·replace c9 := of_decide_eq_true c9; rw [if_pos c9] at h
   refine sr_k fun J10 hJ10 => ?_
   simp +decide only [Nat.reduceAdd, Nat.reduceMul, Int.reduceToNat, ak]
   refine gho_k ((Weak.nmg' 21 1 (.tmp 21 21) 3 (encL c68 ([] : List S68)) rfl rfl rfl rfl).trans (Weak.nmg' 21 2 (.tmp 21 22) 1 (encL c_i64 ([] : List Int)) rfl rfl rfl rfl)) ?_
   have g11 : (encL c68 ([] : List S68)).length = 0 * 3 := by simp [encL_length c68_w]
   have g12 : (encL c_i64 ([] : List Int)).length = 0 * 1 := by simp [encL_length c_i64_w]
   simp +decide only [Nat.reduceAdd, Nat.reduceMul, Int.reduceToNat, ak, g11, g12]
   refine hJ10 _ ?_
   obtain rfl := Option.some.inj h
   refine hKr _ ⟨_, rfl, [⟨(.tmp 4 0), [1], none, .lst⟩, ⟨(.tmp 4 0), [2], none, .lst⟩], _, rfl, rfl, ?_⟩
   exact cl
  ·replace c9 := of_decide_eq_false c9; rw [if_neg c9] at h
   refine hJ6 _ ?_
   refine sr_k fun J13 hJ13 => ?_
   simp +decide only [Nat.reduceAdd, Nat.reduceMul, Int.reduceToNat, ak]
   refine hJ13 _ ?_
   refine sr_k fun J14 hJ14 => ?_
   have g15 : (List.replicate 1 ([.int .i64 0, .int .u32 0, .int .i64 0] : List Value)).flatten = [.int .i64 0, .int .u32 0, .int .i64 0] := rfl
   have g16 : (⟨.lst, 3, [.sc (.int .i64 3), .sc (.int .u32 a1_6), .sc (.int .i64 0)]⟩ : Root) = ⟨.lst, 3, encL c68 ([(⟨3, a1_6, 0⟩ : S68)] : List S68)⟩ := rfl
   have g17 : ([(⟨3, a1_6, 0⟩ : S68)] : List S68).length = 1 := rfl
   simp +decide only [Nat.reduceAdd, Nat.reduceMul, Int.reduceToNat, ak, g15, g16, g17]
   refine gho_k (Weak.nmg' 36 2 (.tmp 36 22) 1 (encL c_i64 ([] : List Int)) rfl rfl rfl rfl) ?_
   have g18 : (encL c68 ([(⟨3, a1_6, 0⟩ : S68)] : List S68)).length = 1 * 3 := by simp [encL_length c68_w]
   have g19 : (encL c_i64 ([] : List Int)).length = 0 * 1 := by simp [encL_length c_i64_w]
   simp +decide only [Nat.reduceAdd, Nat.reduceMul, Int.reduceToNat, ak, g18, g19]
   refine hJ14 _ ?_
   obtain rfl := Option.some.inj h
   refine hKr _ ⟨_, rfl, [⟨(.tmp 4 0), [1], none, .lst⟩, ⟨(.tmp 4 0), [2], none, .lst⟩], _, rfl, rfl, ?_⟩
   exact cl
 ·rw [if_neg (Bool.eq_false_iff.1 c4)] at h
  refine hJ2 _ ?_
  refine seq_k fun J20 hJ20 => ?_
  refine sr_k fun J21 hJ21 => ?_
  simp +decide only [Nat.reduceAdd, Nat.reduceMul, Int.reduceToNat, ak]
  refine hJ21 _ ?_
  refine cond_k (b := decide (a1_8 = 0)) rfl (fun c22 => ?_) (fun c22 => ?_)
  ·replace c22 := of_decide_eq_true c22; rw [if_pos c22] at h
   refine sr_k fun J23 hJ23 => ?_
   simp +decide only [Nat.reduceAdd, Nat.reduceMul, Int.reduceToNat, ak]
   refine gho_k ((Weak.nmg' 42 1 (.tmp 42 21) 3 (encL c68 ([] : List S68)) rfl rfl rfl rfl).trans (Weak.nmg' 42 2 (.tmp 42 22) 1 (encL c_i64 ([] : List Int)) rfl rfl rfl rfl)) ?_
   have g24 : (encL c68 ([] : List S68)).length = 0 * 3 := by simp [encL_length c68_w]
   have g25 : (encL c_i64 ([] : List Int)).length = 0 * 1 := by simp [encL_length c_i64_w]
   simp +decide only [Nat.reduceAdd, Nat.reduceMul, Int.reduceToNat, ak, g24, g25]
   refine hJ23 _ ?_
   obtain rfl := Option.some.inj h
   refine hKr _ ⟨_, rfl, [⟨(.tmp 4 0), [1], none, .lst⟩, ⟨(.tmp 4 0), [2], none, .lst⟩], _, rfl, rfl, ?_⟩
   exact cl
  ·replace c22 := of_decide_eq_false c22; rw [if_neg c22] at h
   refine hJ20 _ ?_
   refine sr_k fun J26 hJ26 => ?_
   simp +decide only [Nat.reduceAdd, Nat.reduceMul, Int.reduceToNat, ak]
   refine hJ26 _ ?_
   refine seq_k fun J27 hJ27 => ?_
   refine sr_k fun J28 hJ28 => ?_
   simp +decide only [Nat.reduceAdd, Nat.reduceMul, Int.reduceToNat, ak]
   refine hJ28 _ ?_
   refine cond_k (b := decide (IntKind.i64.wrap (a1_8 - 1) > 0)) rfl (fun c29 => ?_) (fun c29 => ?_)
   ·replace c29 := of_decide_eq_true c29; rw [if_pos c29] at h
    refine sr_k fun J30 hJ30 => ?_
    simp +decide only [Nat.reduceAdd, Nat.reduceMul, Int.reduceToNat, ak]
    refine gho_k ((Weak.nmg' 55 1 (.tmp 55 21) 3 (encL c68 ([] : List S68)) rfl rfl rfl rfl).trans (Weak.nmg' 55 2 (.tmp 55 22) 1 (encL c_i64 ([] : List Int)) rfl rfl rfl rfl)) ?_
    have g31 : (encL c68 ([] : List S68)).length = 0 * 3 := by simp [encL_length c68_w]
    have g32 : (encL c_i64 ([] : List Int)).length = 0 * 1 := by simp [encL_length c_i64_w]
    simp +decide only [Nat.reduceAdd, Nat.reduceMul, Int.reduceToNat, ak, g31, g32]
    refine hJ30 _ ?_
    obtain rfl := Option.some.inj h
    refine hKr _ ⟨_, rfl, [⟨(.tmp 4 0), [1], none, .lst⟩, ⟨(.tmp 4 0), [2], none, .lst⟩], _, rfl, rfl, ?_⟩
    exact cl
   ·replace c29 := of_decide_eq_false c29; rw [if_neg c29] at h
    refine hJ27 _ ?_
    refine sr_k fun J33 hJ33 => ?_
    simp +decide only [Nat.reduceAdd, Nat.reduceMul, Int.reduceToNat, ak]
    refine hJ33 _ ?_
    refine seq_k fun J34 hJ34 => ?_
    refine sd_k fun J35 hJ35 => ?_
    simp +decide only [Nat.reduceAdd, Nat.reduceMul, Int.reduceToNat, ak]
    refine hJ35 _ ?_
    refine cond_k (b := decide (IntKind.i64.wrap (a1_10 + 1) = a1_4)) rfl (fun c38 => ?_) (fun c38 => ?_)
    ·replace c38 := of_decide_eq_true c38; rw [if_pos c38] at h
     refine sr_k fun J39 hJ39 => ?_
     simp +decide only [Nat.reduceAdd, Nat.reduceMul, Int.reduceToNat, ak]
     refine hJ39 _ ?_
     refine sr_k fun J40 hJ40 => ?_
     simp +decide only [Nat.reduceAdd, Nat.reduceMul, Int.reduceToNat, ak]
     refine hJ40 _ ?_
     refine sr_k fun J41 hJ41 => ?_
     simp +decide only [Nat.reduceAdd, Nat.reduceMul, Int.reduceToNat, ak]
     refine gho_k ((Weak.nmg' 84 1 (.tmp 84 21) 3 (encL c68 ([] : List S68)) rfl rfl rfl rfl).trans (Weak.nmg' 84 2 (.tmp 84 22) 1 (encL c_i64 ([] : List Int)) rfl rfl rfl rfl)) ?_
     have g42 : (encL c68 ([] : List S68)).length = 0 * 3 := by simp [encL_length c68_w]
     have g43 : (encL c_i64 ([] : List Int)).length = 0 * 1 := by simp [encL_length c_i64_w]
     simp +decide only [Nat.reduceAdd, Nat.reduceMul, Int.reduceToNat, ak, g42, g43]
     refine hJ41 _ ?_
     obtain rfl := Option.some.inj h
     refine hKr _ ⟨_, rfl, [⟨(.tmp 4 0), [1], none, .lst⟩, ⟨(.tmp 4 0), [2], none, .lst⟩], _, rfl, rfl, ?_⟩
     exact cl
    ·replace c38 := of_decide_eq_false c38; rw [if_neg c38] at h
     refine hJ34 _ ?_
     refine sd_k fun J44 hJ44 => ?_
     simp +decide only [Nat.reduceAdd, Nat.reduceMul, Int.reduceToNat, ak, mmF, mm2, scv, List.foldl]
     refine alt_e ?_
     ·simp +decide only [Nat.reduceAdd, Nat.reduceMul, Int.reduceToNat, ak]
      refine hJ44 _ ?_
      refine sr_k fun J45 hJ45 => ?_
      simp +decide only [Nat.reduceAdd, Nat.reduceMul, Int.reduceToNat, ak]
      refine hJ45 _ ?_
      refine sr_k fun J46 hJ46 => ?_
      simp +decide only [Nat.reduceAdd, Nat.reduceMul, Int.reduceToNat, ak]
      obtain ⟨t47, h48, h⟩ := of_bind h
      refine cm [pI (.arg 0) .box] (impl_sender_again.tri a1_0 a1_1 a1_2 a1_3 a1_4 a1_5 a1_6 l1_7 (if a1_3 < (IntKind.i64.wrap (2 * a1_9)) then a1_3 else IntKind.i64.wrap (2 * a1_9)) (if a1_3 < (IntKind.i64.wrap (2 * a1_9)) then a1_3 else IntKind.i64.wrap (2 * a1_9)) (IntKind.i64.wrap (a1_10 + 1)) a1_11 a1_12 _ h48) (fun hl48 => ?_)
      refine ct (.c (.ref (.tmp 107 0) [] 0 t47.length)) (mW [.sc (.int .u32 a1_0), .sc (.int .i64 a1_1), .sc (.int .i64 a1_2), .sc (.int .i64 a1_3), .sc (.int .i64 a1_4), .sc (.int .i64 a1_5), .sc (.int .u32 a1_6), .own 1 l1_7.length (encL c_i64 l1_7), .sc (.int .i64 (if a1_3 < (IntKind.i64.wrap (2 * a1_9)) then a1_3 else IntKind.i64.wrap (2 * a1_9))), .sc (.int .i64 (if a1_3 < (IntKind.i64.wrap (2 * a1_9)) then a1_3 else IntKind.i64.wrap (2 * a1_9))), .sc (.int .i64 (IntKind.i64.wrap (a1_10 + 1))), .sc (.int .i64 a1_11), .sc (.bool a1_12)] (mN ..)) ?_ (s4 := [(.arg 0, ⟨.box, 0, [.sc (.int .u32 a1_0), .sc (.int .i64 a1_1), .sc (.int .i64 a1_2), .sc (.int .i64 a1_3), .sc (.int .i64 a1_4), .sc (.int .i64 a1_5), .sc (.int .u32 a1_6), .own 1 l1_7.length (encL c_i64 l1_7), .sc (.int .i64 (if a1_3 < (IntKind.i64.wrap (2 * a1_9)) then a1_3 else IntKind.i64.wrap (2 * a1_9))), .sc (.int .i64 (if a1_3 < (IntKind.i64.wrap (2 * a1_9)) then a1_3 else IntKind.i64.wrap (2 * a1_9))), .sc (.int .i64 (IntKind.i64.wrap (a1_10 + 1))), .sc (.int .i64 a1_11), .sc (.bool a1_12)]⟩), (.tmp 2 0, ⟨.box, 0, []⟩), (.tmp 4 0, ⟨.box, 0, [.sc (.int .i64 0), .own 3 (([] : List S68).length) (encL c68 ([] : List S68)), .own 1 (([] : List Int).length) (encL c_i64 ([] : List Int)), .sc (.int .i64 0), .sc (.int .i64 0)]⟩), (.tmp 107 0, ⟨.lst, 3, encL c68 t47⟩)])
      simp +decide only [Nat.reduceAdd, Nat.reduceMul, Int.reduceToNat, ak]
      refine gho_k (Weak.nmg' 108 2 (.tmp 108 22) 1 (encL c_i64 ([] : List Int)) rfl rfl rfl rfl) ?_
      have g50 : (encL c68 t47).length = t47.length * 3 := by simp [encL_length c68_w]
      have g51 : (encL c_i64 ([] : List Int)).length = 0 * 1 := by simp [encL_length c_i64_w]
      simp +decide only [Nat.reduceAdd, Nat.reduceMul, Int.reduceToNat, ak, g50, g51]
      refine hJ46 _ ?_
      obtain rfl := Option.some.inj h
      refine hKr _ ⟨_, rfl, [⟨(.tmp 4 0), [1], none, .lst⟩, ⟨(.tmp 4 0), [2], none, .lst⟩], _, rfl, rfl, ?_⟩
      exact cl
/-! ### (*impl.sender).act: function 133 -/
def C133v1i223 : AC := .sr [.o (.alloc 4 [.int .i64 0, .slice none 0 0, .slice none 0 0, .int .i64 0, .int .i64 0]), .gh, .keep [0, 1, 4]] (.sr [.m 5 1, .m 6 0, .callv none (some 7) (.invoke (.t 5) "loop.example/s03010/impl.happen") [.tmp 6], .st 5 4 7, .keep [4]] (.ret))
def r133v1i223 : List RV := [.cell 4 true 5]
theorem k133v1i223 : compC Try.prog 8 C133v1i223 (Try.f133.body.getD .skip) = some C133v1i223.erase := by kernel_rfl
theorem q133v1i223 : rvsOf Try.prog Try.f133.results.toList = some r133v1i223 := by kernel_rfl
def impl_sender_act_v1i223.f (a0_0 : Int) (a0_1 : Int) (a0_2 : Int) (a0_3 : Int) (a0_4 : Int) (a0_5 : Int) (a0_6 : Int) (l0_7 : List Int) (a0_8 : Int) (a0_9 : Int) (a0_10 : Int) (a0_11 : Int) (a0_12 : Bool) : Option (Int × (List S68) × (List Int) × Int × Int × Int × Int × Int × Int × Bool) := (impl_tick_happen.f a0_0 a0_1 a0_2 a0_3 a0_4 a0_5 a0_6 l0_7 a0_8 a0_9 a0_10 a0_11 a0_12 >>= fun t3 => (some (t3.1, t3.2.1, t3.2.2.1, t3.2.2.2.1, t3.2.2.2.2.1, t3.2.2.2.2.2.1, t3.2.2.2.2.2.2.1, t3.2.2.2.2.2.2.2.1, t3.2.2.2.2.2.2.2.2.1, t3.2.2.2.2.2.2.2.2.2)))
theorem impl_sender_act_v1i223.tri (a0_0 : Int) (a0_1 : Int) (a0_2 : Int) (a0_3 : Int) (a0_4 : Int) (a0_5 : Int) (a0_6 : Int) (l0_7 : List Int) (a0_8 : Int) (a0_9 : Int) (a0_10 : Int) (a0_11 : Int) (a0_12 : Bool) (r : Int × (List S68) × (List Int) × Int × Int × Int × Int × Int × Int × Bool) (h : impl_sender_act_v1i223.f a0_0 a0_1 a0_2 a0_3 a0_4 a0_5 a0_6 l0_7 a0_8 a0_9 a0_10 a0_11 a0_12 = some r) : Tri Try.prog 133 [.c (.ptr (.arg 0) [] 0), .c (.sc (.iface 223 (.agg #[])))] [(.arg 0, ⟨.box, 0, [.sc (.int .u32 a0_0), .sc (.int .i64 a0_1), .sc (.int .i64 a0_2), .sc (.int .i64 a0_3), .sc (.int .i64 a0_4), .sc (.int .i64 a0_5), .sc (.int .u32 a0_6), .own 1 l0_7.length (encL c_i64 l0_7), .sc (.int .i64 a0_8), .sc (.int .i64 a0_9), .sc (.int .i64 a0_10), .sc (.int .i64 a0_11), .sc (.bool a0_12)]⟩)] (fun o => o = ⟨.g [.sc (.int .i64 r.1), .ref (.res 0) [] 0 r.2.1.length, .ref (.res 1) [] 0 r.2.2.1.length, .sc (.int .i64 r.2.2.2.1), .sc (.int .i64 r.2.2.2.2.1)], [(.arg 0, ⟨.box, 0, [.sc (.int .u32 a0_0), .sc (.int .i64 a0_1), .sc (.int .i64 a0_2), .sc (.int .i64 a0_3), .sc (.int .i64 a0_4), .sc (.int .i64 a0_5), .sc (.int .u32 a0_6), .own 1 l0_7.length (encL c_i64 l0_7), .sc (.int .i64 r.2.2.2.2.2.1), .sc (.int .i64 r.2.2.2.2.2.2.1), .sc (.int .i64 r.2.2.2.2.2.2.2.1), .sc (.int .i64 r.2.2.2.2.2.2.2.2.1), .sc (.bool r.2.2.2.2.2.2.2.2.2)]⟩), (.res 0, ⟨.lst, 3, encL c68 r.2.1⟩), (.res 1, ⟨.lst, 1, encL c_i64 r.2.2.1⟩)], [], []⟩) := by
 refine tri_of_body (ac := C133v1i223) (xs := r133v1i223) Try.func133 (show Try.f133.body = some (Try.f133.body.getD .skip) from rfl) k133v1i223 q133v1i223 (Nat.le_of_ble_eq_true rfl) ?_
 refine body_of fun K hKn hKr => ?_
 unfold impl_sender_act_v1i223.f at h
 unfold C133v1i223
 simp only [initT, Nat.reduceAdd]
 refine sr_k fun J1 hJ1 => ?_
 simp +decide only [Nat.reduceAdd, Nat.reduceMul, Int.reduceToNat, ak]
 refine gho_k (Weak.own (.tmp 4 0) (cs' := [.sc (.int .i64 0), .own 3 (([] : List S68).length) (encL c68 ([] : List S68)), .own 1 (([] : List Int).length) (encL c_i64 ([] : List Int)), .sc (.int .i64 0), .sc (.int .i64 0)]) rfl ⟨.inl rfl, .inr ⟨rfl, _, rfl⟩, .inr ⟨rfl, _, rfl⟩, .inl rfl, .inl rfl, trivial⟩) ?_
 simp +decide only [Nat.reduceAdd, Nat.reduceMul, Int.reduceToNat, ak]
 refine hJ1 _ ?_
 refine sr_k fun J2 hJ2 => ?_
 simp +decide only [Nat.reduceAdd, Nat.reduceMul, Int.reduceToNat, ak]
 obtain ⟨t3, h4, h⟩ := of_bind h
 refine callv_iface (f := 183) (fn := Try.f183) (t := 223) (v := (.agg #[])) (recv := (.agg #[])) rfl (fun w => by kernel_rfl) Try.func183 (by kernel_rfl) (by decide) ?_
 refine cm [pI (.arg 0) .box] (impl_tick_happen.tri a0_0 a0_1 a0_2 a0_3 a0_4 a0_5 a0_6 l0_7 a0_8 a0_9 a0_10 a0_11 a0_12 _ h4) (fun hl4 => ?_)
 refine ct (.g [.sc (.int .i64 t3.1), .ref (.tmp 7 0) [] 0 t3.2.1.length, .ref (.tmp 7 1) [] 0 t3.2.2.1.length, .sc (.int .i64 t3.2.2.2.1), .sc (.int .i64 t3.2.2.2.2.1)]) (mW [.sc (.int .u32 a0_0), .sc (.int .i64 a0_1), .sc (.int .i64 a0_2), .sc (.int .i64 a0_3), .sc (.int .i64 a0_4), .sc (.int .i64 a0_5), .sc (.int .u32 a0_6), .own 1 l0_7.length (encL c_i64 l0_7), .sc (.int .i64 t3.2.2.2.2.2.1), .sc (.int .i64 t3.2.2.2.2.2.2.1), .sc (.int .i64 t3.2.2.2.2.2.2.2.1), .sc (.int .i64 t3.2.2.2.2.2.2.2.2.1), .sc (.bool t3.2.2.2.2.2.2.2.2.2)] (mN ..)) ?_ (s4 := [(.arg 0, ⟨.box, 0, [.sc (.int .u32 a0_0), .sc (.int .i64 a0_1), .sc (.int .i64 a0_2), .sc (.int .i64 a0_3), .sc (.int .i64 a0_4), .sc (.int .i64 a0_5), .sc (.int .u32 a0_6), .own 1 l0_7.length (encL c_i64 l0_7), .sc (.int .i64 t3.2.2.2.2.2.1), .sc (.int .i64 t3.2.2.2.2.2.2.1), .sc (.int .i64 t3.2.2.2.2.2.2.2.1), .sc (.int .i64 t3.2.2.2.2.2.2.2.2.1), .sc (.bool t3.2.2.2.2.2.2.2.2.2)]⟩), (.tmp 4 0, ⟨.box, 0, [.sc (.int .i64 0), .own 3 (([] : List S68).length) (encL c68 ([] : List S68)), .own 1 (([] : List Int).length) (encL c_i64 ([] : List Int)), .sc (.int .i64 0), .sc (.int .i64 0)]⟩), (.tmp 7 1, ⟨.lst, 1, encL c_i64 t3.2.2.1⟩), (.tmp 7 0, ⟨.lst, 3, encL c68 t3.2.1⟩)])
 have g6 : (encL c68 t3.2.1).length = t3.2.1.length * 3 := by simp [encL_length c68_w]
 have g7 : (encL c_i64 t3.2.2.1).length = t3.2.2.1.length * 1 := by simp [encL_length c_i64_w]
 simp +decide only [Nat.reduceAdd, Nat.reduceMul, Int.reduceToNat, ak, g6, g7]
 refine hJ2 _ ?_
 obtain rfl := Option.some.inj h
 refine hKr _ ⟨_, rfl, [⟨(.tmp 4 0), [1], none, .lst⟩, ⟨(.tmp 4 0), [2], none, .lst⟩], _, rfl, rfl, ?_⟩
 exact cl
/-! ### impl.subAfter: function 87 -/
def C87_l0 : AC := .sr [.o (.bin 23 .lss (.t 22) (.t 21)), .keep [7, 8, 20, 21, 22, 23]] (.seq (.cond (.t 23) (.skip) (.gh (.exit 0))) (.seq (.ga (.block 1 (.sr [.ia 24 3 20 22, .o (.load 25 true 3 (.t 24)), .o (.alloc 10 [.int .i64 0, .int .i64 0, .int .u32 0]), .st 3 10 25, .keep [7, 8, 10, 20, 21, 22]] (.sr [.o (.mv 11 (.const (.nilIface))), .keep [7, 8, 10, 20, 21, 22]] (.seq (.sr [.fa 26 0 10, .ld 27 1 26, .keep [7, 8, 10, 20, 21, 22, 27]] (.block 2 (.sr [.o (.bin 33 .eql (.t 27) (.k 1)), .m 32 33, .keep [7, 8, 10, 20, 21, 22, 27, 32]] (.cond (.t 32) (.reg [.fa 34 1 10, .ld 35 1 34, .o (.build 36 [.int .i64 0] [(0, 1, .tmp 35)]), .o (.mki 37 219 (.t 36)), .m 11 37, .keep [7, 8, 11, 20, 21, 22]]) (.sr [.o (.bin 39 .eql (.t 27) (.k 2)), .m 38 39, .keep [7, 8, 10, 20, 21, 22, 27, 38]] (.cond (.t 38) (.reg [.fa 40 2 10, .ld 41 1 40, .o (.build 42 [.int .u32 0] [(0, 1, .tmp 41)]), .o (.mki 43 221 (.t 42)), .m 11 43, .keep [7, 8, 11, 20, 21, 22]]) (.sr [.o (.bin 45 .eql (.t 27) (.k 3)), .m 44 45, .keep [7, 8, 20, 21, 22, 44]] (.cond (.t 44) (.reg [.o (.build 46 [] []), .o (.mki 47 223 (.t 46)), .m 11 47, .keep [7, 8, 11, 20, 21, 22]]) (.sr [.m 28 8, .o (.build 29 [.int .i64 0, .slice none 0 0, .slice none 0 0, .int .i64 0, .int .i64 0] [(0, 1, .const (.int .i64 1))]), .gh, .o (.bslice 30 5 [.int .i64 0, .slice none 0 0, .slice none 0 0, .int .i64 0, .int .i64 0] 1 [(0, .tmp 29)]), .gh, .o (.app 31 5 72 true (.t 28) (.t 30)), .m 8 31, .keep [7, 8, 20, 21, 22]] (.exit 1)))))))))) (.reg [.m 48 8, .m 49 7, .m 50 11, .call none (some 51) 133 [.tmp 49, .tmp 50], .o (.bslice 52 5 [.int .i64 0, .slice none 0 0, .slice none 0 0, .int .i64 0, .int .i64 0] 1 [(0, .tmp 51)]), .gh, .o (.app 53 5 72 true (.t 48) (.t 52)), .m 8 53, .keep [7, 8, 20, 21, 22]])))))) (.reg [.o (.bin 54 .add (.t 22) (.k 1)), .m 22 54, .keep [7, 8, 20, 21, 22]])))
def C87 : AC := .sr [.o (.box 2 (.t 0)), .o (.mv 4 (.const (.pointer none))), .o (.mv 5 (.const (.slice none 0 0))), .gh, .o (.mv 6 (.k 0)), .keep [1, 2]] (.seq (.sr [.o (.load 12 true 6 (.t 2)), .call none (some 13) 131 [.tmp 12], .o (.un 14 .not (.t 13)), .keep [1, 2, 14]] (.cond (.t 14) (.sr [.o (.mv 4 (.const (.pointer none))), .o (.mv 5 (.const (.slice none 0 0))), .gh, .o (.mv 6 (.k 17)), .keep [4, 5, 6]] (.ret)) (.skip))) (.seq (.sr [.m 15 1, .ln 16 15, .o (.bin 17 .gtr (.t 16) (.k 4000)), .keep [1, 2, 17]] (.cond (.t 17) (.sr [.o (.mv 4 (.const (.pointer none))), .o (.mv 5 (.const (.slice none 0 0))), .gh, .o (.mv 6 (.k 5)), .keep [4, 5, 6]] (.ret)) (.skip))) (.sr [.o (.load 18 true 6 (.t 2)), .call none (some 19) 132 [.tmp 18], .m 7 19, .keep [1, 7]] (.sr [.o (.mv 8 (.const (.slice none 0 0))), .gh, .keep [1, 7, 8]] (.seq (.sr [.m 20 1, .ln 21 20, .o (.mv 22 (.k 0)), .keep [7, 8, 20, 21, 22]] (.block 0 (.gh (.loop (.ga C87_l0))))) (.sr [.m 55 7, .m 56 8, .m 4 55, .m 5 56, .o (.mv 6 (.k 0)), .keep [4, 5, 6]] (.ret)))))))
def r87 : List RV := [.tmp 4, .tmp 5, .tmp 6]
theorem k87 : compC Try.prog 57 C87 (Try.f87.body.getD .skip) = some C87.erase := by kernel_rfl
theorem q87 : rvsOf Try.prog Try.f87.results.toList = some r87 := by kernel_rfl
def impl_subAfter.l0 (l1 : List S63) (x0_0 : Int) (x0_2 : Int) (x0_3 : Int) (x0_4 : Int) (x0_5 : Int) (x0_6 : Int) (x0_7 : Int) (x0_1 : Int) (x0_8 : Int) (x0_9 : (List Int)) (x0_10 : Int) (x0_11 : Int) (x0_12 : Int) (x0_13 : Int) (x0_14 : Bool) (x0_15 : (List S66)) : Option (Int × (List Int) × Int × Int × Int × Int × Bool × (List S66)) := (if x0_1 < x0_0 then ((if 0 ≤ x0_1 ∧ x0_1 < (l1.length : Int) then (if (rd z63 l1 x0_1).f0 = 1 then (impl_sender_act_v1i219.f x0_2 x0_3 x0_4 x0_5 x0_6 x0_7 x0_8 x0_9 x0_10 x0_11 x0_12 x0_13 x0_14 ((rd z63 l1 x0_1).f1) >>= fun t43 => (if (x0_15.length + 1) * 72 ≤ 140737488355328 then (some (x0_8, t43.2.2.2.2.2.1, t43.2.2.2.2.2.2, x0_11, x0_12, x0_13, x0_14, (x0_15 ++ ([(⟨t43.1, t43.2.1, t43.2.2.1, t43.2.2.2.1, t43.2.2.2.2.1⟩ : S66)] : List S66)))) else none)) else (if (rd z63 l1 x0_1).f0 = 2 then (impl_sender_act_v1i221.f x0_2 x0_3 x0_4 x0_5 x0_6 x0_7 x0_8 x0_9 x0_10 x0_11 x0_12 x0_13 x0_14 ((rd z63 l1 x0_1).f2) >>= fun t59 => (if (x0_15.length + 1) * 72 ≤ 140737488355328 then (some (t59.2.2.2.2.2.1, t59.2.2.2.2.2.2.1, t59.2.2.2.2.2.2.2.1, t59.2.2.2.2.2.2.2.2.1, t59.2.2.2.2.2.2.2.2.2.1, t59.2.2.2.2.2.2.2.2.2.2.1, t59.2.2.2.2.2.2.2.2.2.2.2, (x0_15 ++ ([(⟨t59.1, t59.2.1, t59.2.2.1, t59.2.2.2.1, t59.2.2.2.2.1⟩ : S66)] : List S66)))) else none)) else (if (rd z63 l1 x0_1).f0 = 3 then (impl_sender_act_v1i223.f x0_2 x0_3 x0_4 x0_5 x0_6 x0_7 x0_8 x0_9 x0_10 x0_11 x0_12 x0_13 x0_14 >>= fun t78 => (if (x0_15.length + 1) * 72 ≤ 140737488355328 then (some (x0_8, x0_9, t78.2.2.2.2.2.1, t78.2.2.2.2.2.2.1, t78.2.2.2.2.2.2.2.1, t78.2.2.2.2.2.2.2.2.1, t78.2.2.2.2.2.2.2.2.2, (x0_15 ++ ([(⟨t78.1, t78.2.1, t78.2.2.1, t78.2.2.2.1, t78.2.2.2.2.1⟩ : S66)] : List S66)))) else none)) else (if (x0_15.length + 1) * 72 ≤ 140737488355328 then (some (x0_8, x0_9, x0_10, x0_11, x0_12, x0_13, x0_14, (x0_15 ++ ([(⟨1, ([] : List S68), ([] : List Int), 0, 0⟩ : S66)] : List S66)))) else none)))) else none) >>= fun (j28 : Int × (List Int) × Int × Int × Int × Int × Bool × (List S66)) => (impl_subAfter.l0 l1 x0_0 x0_2 x0_3 x0_4 x0_5 x0_6 x0_7 (IntKind.i64.wrap (x0_1 + 1)) j28.1 j28.2.1 j28.2.2.1 j28.2.2.2.1 j28.2.2.2.2.1 j28.2.2.2.2.2.1 j28.2.2.2.2.2.2.1 j28.2.2.2.2.2.2.2)) else (some (x0_8, x0_9, x0_10, x0_11, x0_12, x0_13, x0_14, x0_15)))
 partial_fixpoint
def impl_subAfter.f (a0_0 : Int) (a0_1 : Int) (a0_2 : Int) (a0_3 : Int) (a0_4 : Int) (a0_5 : Int) (l1 : List S63) : Option ((Option (Int × Int × Int × Int × Int × Int × Int × (List Int) × Int × Int × Int × Int × Bool)) × (List S66) × Int) := (impl_validSub.f a0_0 a0_1 a0_2 a0_3 a0_4 a0_5 >>= fun t4 => (if (!t4) = true then (some (none, ([] : List S66), 17)) else (if (l1.length : Int) > 4000 then (some (none, ([] : List S66), 5)) else (impl_newSender.f a0_0 a0_1 a0_2 a0_3 a0_4 a0_5 >>= fun t18 => (impl_subAfter.l0 l1 (l1.length : Int) t18.1 t18.2.1 t18.2.2.1 t18.2.2.2.1 t18.2.2.2.2.1 t18.2.2.2.2.2.1 0 t18.2.2.2.2.2.2.1 t18.2.2.2.2.2.2.2.1 t18.2.2.2.2.2.2.2.2.1 t18.2.2.2.2.2.2.2.2.2.1 t18.2.2.2.2.2.2.2.2.2.2.1 t18.2.2.2.2.2.2.2.2.2.2.2.1 t18.2.2.2.2.2.2.2.2.2.2.2.2 ([] : List S66) >>= fun (y104 : (Int × (List Int) × Int × Int × Int × Int × Bool × (List S66))) => (some ((some (t18.1, t18.2.1, t18.2.2.1, t18.2.2.2.1, t18.2.2.2.2.1, t18.2.2.2.2.2.1, y104.1, y104.2.1, y104.2.2.1, y104.2.2.2.1, y104.2.2.2.2.1, y104.2.2.2.2.2.1, y104.2.2.2.2.2.2.1)), y104.2.2.2.2.2.2.2, 0)))))))
def impl_subAfter.l0_M (cs0 : List Cell) (o0 : Nat) (l1 : List S63) (hv0 : Vw c63 3 cs0 o0 l1) (x0_0 : Int) (x0_2 : Int) (x0_3 : Int) (x0_4 : Int) (x0_5 : Int) (x0_6 : Int) (x0_7 : Int) (x0_1 : Int) (x0_8 : Int) (x0_9 : (List Int)) (x0_10 : Int) (x0_11 : Int) (x0_12 : Int) (x0_13 : Int) (x0_14 : Bool) (x0_15 : (List S66)) (y : (Int × (List Int) × Int × Int × Int × Int × Bool × (List S66))) : Prop := ∀ (K : AE → St → Prop), (K (.exit 0) ⟨[(7, .c (.ptr (.tmp 19 0) [] 0)), (8, .c (.ref (.tmp 8 20) [] 0 y.2.2.2.2.2.2.2.length))], [(.arg 0, ⟨.fz, 3, cs0⟩), (.tmp 19 0, ⟨.box, 0, [.sc (.int .u32 x0_2), .sc (.int .i64 x0_3), .sc (.int .i64 x0_4), .sc (.int .i64 x0_5), .sc (.int .i64 x0_6), .sc (.int .i64 x0_7), .sc (.int .u32 y.1), .own 1 y.2.1.length (encL c_i64 y.2.1), .sc (.int .i64 y.2.2.1), .sc (.int .i64 y.2.2.2.1), .sc (.int .i64 y.2.2.2.2.1), .sc (.int .i64 y.2.2.2.2.2.1), .sc (.bool y.2.2.2.2.2.2.1)]⟩), (.tmp 8 20, ⟨.lst, 5, encL c66 y.2.2.2.2.2.2.2⟩)], [], []⟩) → loopS Try.prog 57 (.ga C87_l0) K ⟨[(7, .c (.ptr (.tmp 19 0) [] 0)), (8, .c (.ref (.tmp 8 20) [] 0 x0_15.length)), (20, .c (.ref (.arg 0) [] o0 l1.length)), (21, .c (.sc (.int .i64 x0_0))), (22, .c (.sc (.int .i64 x0_1)))], [(.arg 0, ⟨.fz, 3, cs0⟩), (.tmp 19 0, ⟨.box, 0, [.sc (.int .u32 x0_2), .sc (.int .i64 x0_3), .sc (.int .i64 x0_4), .sc (.int .i64 x0_5), .sc (.int .i64 x0_6), .sc (.int .i64 x0_7), .sc (.int .u32 x0_8), .own 1 x0_9.length (encL c_i64 x0_9), .sc (.int .i64 x0_10), .sc (.int .i64 x0_11), .sc (.int .i64 x0_12), .sc (.int .i64 x0_13), .sc (.bool x0_14)]⟩), (.tmp 8 20, ⟨.lst, 5, encL c66 x0_15⟩)], [], []⟩
theorem impl_subAfter.l0_walk (cs0 : List Cell) (o0 : Nat) (l1 : List S63) (hv0 : Vw c63 3 cs0 o0 l1) (x0_0 : Int) (x0_2 : Int) (x0_3 : Int) (x0_4 : Int) (x0_5 : Int) (x0_6 : Int) (x0_7 : Int) (x0_1 : Int) (x0_8 : Int) (x0_9 : (List Int)) (x0_10 : Int) (x0_11 : Int) (x0_12 : Int) (x0_13 : Int) (x0_14 : Bool) (x0_15 : (List S66)) (y : (Int × (List Int) × Int × Int × Int × Int × Bool × (List S66))) (h : impl_subAfter.l0 l1 x0_0 x0_2 x0_3 x0_4 x0_5 x0_6 x0_7 x0_1 x0_8 x0_9 x0_10 x0_11 x0_12 x0_13 x0_14 x0_15 = some y) : impl_subAfter.l0_M cs0 o0 l1 hv0 x0_0 x0_2 x0_3 x0_4 x0_5 x0_6 x0_7 x0_1 x0_8 x0_9 x0_10 x0_11 x0_12 x0_13 x0_14 x0_15 y := by
 refine impl_subAfter.l0.partial_correctness l1 x0_0 x0_2 x0_3 x0_4 x0_5 x0_6 x0_7 (motive := fun x0_1 x0_8 x0_9 x0_10 x0_11 x0_12 x0_13 x0_14 x0_15 y => impl_subAfter.l0_M cs0 o0 l1 hv0 x0_0 x0_2 x0_3 x0_4 x0_5 x0_6 x0_7 x0_1 x0_8 x0_9 x0_10 x0_11 x0_12 x0_13 x0_14 x0_15 y) ?_ x0_1 x0_8 x0_9 x0_10 x0_11 x0_12 x0_13 x0_14 x0_15 y h
 clear h
 unfold impl_subAfter.l0_M
 intro rec ih x0_1 x0_8 x0_9 x0_10 x0_11 x0_12 x0_13 x0_14 x0_15 y h K hx0
 refine loop_unroll (ga_k fun G0 G0n G0r G0x => ?_)
 unfold C87_l0
 refine sr_k fun J25 hJ25 => ?_
 simp +decide only [Nat.reduceAdd, Nat.reduceMul, Int.reduceToNat, ak]
 refine hJ25 _ ?_
 refine seq_k fun J26 hJ26 => ?_
 refine cond_k (b := decide (x0_1 < x0_0)) rfl (fun c27 => ?_) (fun c27 => ?_)
 ·replace c27 := of_decide_eq_true c27; rw [if_pos c27] at h
  refine hJ26 _ ?_
  obtain ⟨j28, h29, hn⟩ := of_bind h
  refine seq_j (fun st => st = ⟨[(7, .c (.ptr (.tmp 19 0) [] 0)), (8, .c (.ref (.tmp 8 20) [] 0 j28.2.2.2.2.2.2.2.length)), (20, .c (.ref (.arg 0) [] o0 l1.length)), (21, .c (.sc (.int .i64 x0_0))), (22, .c (.sc (.int .i64 x0_1)))], [(.arg 0, ⟨.fz, 3, cs0⟩), (.tmp 19 0, ⟨.box, 0, [.sc (.int .u32 x0_2), .sc (.int .i64 x0_3), .sc (.int .i64 x0_4), .sc (.int .i64 x0_5), .sc (.int .i64 x0_6), .sc (.int .i64 x0_7), .sc (.int .u32 j28.1), .own 1 j28.2.1.length (encL c_i64 j28.2.1), .sc (.int .i64 j28.2.2.1), .sc (.int .i64 j28.2.2.2.1), .sc (.int .i64 j28.2.2.2.2.1), .sc (.int .i64 j28.2.2.2.2.2.1), .sc (.bool j28.2.2.2.2.2.2.1)]⟩), (.tmp 8 20, ⟨.lst, 5, encL c66 j28.2.2.2.2.2.2.2⟩)], [], []⟩) (fun J30 hJ30 => ?_) ?_
  ·replace h := h29; clear hn
   refine ga_k fun G31 G31n G31r G31x => ?_
   refine block_k fun B32 B32n B32x B32r B32j => ?_
   refine sr_k fun J33 hJ33 => ?_
   obtain ⟨b34, h⟩ := of_guard h
   have g35 : (List.drop (o0 + x0_1.toNat * 3) (cs0)).take 3 = [.sc (.int .i64 ((rd z63 l1 x0_1).f0)), .sc (.int .i64 ((rd z63 l1 x0_1).f1)), .sc (.int .u32 ((rd z63 l1 x0_1).f2))] := hv0.stretch z63 b34.1 b34.2
   simp +decide only [Nat.reduceAdd, Nat.reduceMul, Int.reduceToNat, ak, b34, g35]
   refine hJ33 _ ?_
   refine sr_k fun J36 hJ36 => ?_
   simp +decide only [Nat.reduceAdd, Nat.reduceMul, Int.reduceToNat, ak]
   refine hJ36 _ ?_
   refine seq_k fun J37 hJ37 => ?_
   refine sr_k fun J38 hJ38 => ?_
   simp +decide only [Nat.reduceAdd, Nat.reduceMul, Int.reduceToNat, ak]
   refine hJ38 _ ?_
   refine block_k fun B39 B39n B39x B39r B39j => ?_
   refine sr_k fun J40 hJ40 => ?_
   simp +decide only [Nat.reduceAdd, Nat.reduceMul, Int.reduceToNat, ak]
   refine hJ40 _ ?_
   refine cond_k (b := decide ((rd z63 l1 x0_1).f0 = 1)) rfl (fun c42 => ?_) (fun c42 => ?_)
   ·replace c42 := of_decide_eq_true c42; rw [if_pos c42] at h
    refine reg_k ?_
    simp +decide only [Nat.reduceAdd, Nat.reduceMul, Int.reduceToNat, ak]
    refine B39n _ ?_
    refine hJ37 _ ?_
    refine reg_k ?_
    simp +decide only [Nat.reduceAdd, Nat.reduceMul, Int.reduceToNat, ak]
    obtain ⟨t43, h44, h⟩ := of_bind h
    refine cm [pN (.arg 0) (.tmp 19 0) .box] (impl_sender_act_v1i219.tri x0_2 x0_3 x0_4 x0_5 x0_6 x0_7 x0_8 x0_9 x0_10 x0_11 x0_12 x0_13 x0_14 ((rd z63 l1 x0_1).f1) _ h44) (fun hl44 => ?_)
    refine call_st (s2 := [(.arg 0, ⟨.fz, 3, cs0⟩), (.tmp 19 0, ⟨.box, 0, [.sc (.int .u32 x0_2), .sc (.int .i64 x0_3), .sc (.int .i64 x0_4), .sc (.int .i64 x0_5), .sc (.int .i64 x0_6), .sc (.int .i64 x0_7), .sc (.int .u32 x0_8), .own 1 x0_9.length (encL c_i64 x0_9), .sc (.int .i64 x0_10), .sc (.int .i64 x0_11), .sc (.int .i64 x0_12), .sc (.int .i64 x0_13), .sc (.bool x0_14)]⟩), (.tmp 8 20, ⟨.lst, 5, encL c66 x0_15⟩), (.tmp 10 0, ⟨.box, 0, [.sc (.int .i64 ((rd z63 l1 x0_1).f0)), .sc (.int .i64 ((rd z63 l1 x0_1).f1)), .sc (.int .u32 ((rd z63 l1 x0_1).f2))]⟩)]) (s4 := [(.arg 0, ⟨.fz, 3, cs0⟩), (.tmp 19 0, ⟨.box, 0, [.sc (.int .u32 x0_2), .sc (.int .i64 x0_3), .sc (.int .i64 x0_4), .sc (.int .i64 x0_5), .sc (.int .i64 x0_6), .sc (.int .i64 x0_7), .sc (.int .u32 x0_8), .own 1 t43.2.2.2.2.2.1.length (encL c_i64 t43.2.2.2.2.2.1), .sc (.int .i64 t43.2.2.2.2.2.2), .sc (.int .i64 x0_11), .sc (.int .i64 x0_12), .sc (.int .i64 x0_13), .sc (.bool x0_14)]⟩), (.tmp 8 20, ⟨.lst, 5, encL c66 x0_15⟩), (.tmp 10 0, ⟨.box, 0, [.sc (.int .i64 ((rd z63 l1 x0_1).f0)), .sc (.int .i64 ((rd z63 l1 x0_1).f1)), .sc (.int .u32 ((rd z63 l1 x0_1).f2))]⟩), (.tmp 51 1, ⟨.lst, 1, encL c_i64 t43.2.2.1⟩), (.tmp 51 0, ⟨.lst, 3, encL c68 t43.2.1⟩)]) (t' := [(7, .c (.ptr (.tmp 19 0) [] 0)), (8, .c (.ref (.tmp 8 20) [] 0 x0_15.length)), (11, .c (.sc (.iface 219 (.agg #[.int .i64 ((rd z63 l1 x0_1).f1)])))), (20, .c (.ref (.arg 0) [] o0 l1.length)), (21, .c (.sc (.int .i64 x0_0))), (22, .c (.sc (.int .i64 x0_1))), (48, .c (.ref (.tmp 8 20) [] 0 x0_15.length)), (49, .c (.ptr (.tmp 19 0) [] 0)), (50, .c (.sc (.iface 219 (.agg #[.int .i64 ((rd z63 l1 x0_1).f1)]))))]) (m1' := []) (m2' := []) (v' := .g [.sc (.int .i64 t43.1), .ref (.tmp 51 0) [] 0 t43.2.1.length, .ref (.tmp 51 1) [] 0 t43.2.2.1.length, .sc (.int .i64 t43.2.2.2.1), .sc (.int .i64 t43.2.2.2.2.1)]) (by first | rfl | simp only [reduceCtorEq, Nat.reduceEqDiff, ak, akF, List.contains_nil, List.contains_cons, Nat.reduceBEq, b34]) (mrgL_whole (new' := [.sc (.int .u32 x0_2), .sc (.int .i64 x0_3), .sc (.int .i64 x0_4), .sc (.int .i64 x0_5), .sc (.int .i64 x0_6), .sc (.int .i64 x0_7), .sc (.int .u32 x0_8), .own 1 t43.2.2.2.2.2.1.length (encL c_i64 t43.2.2.2.2.2.1), .sc (.int .i64 t43.2.2.2.2.2.2), .sc (.int .i64 x0_11), .sc (.int .i64 x0_12), .sc (.int .i64 x0_13), .sc (.bool x0_14)]) (mrgL_nil' _ _ _) rfl (by rfl) (.inl ⟨rfl, by first | rfl | simp only [reduceCtorEq, Nat.reduceEqDiff, ak, akF, Nat.zero_add, List.append_nil, b34]⟩)) (by rfl) (by first | rfl | simp only [reduceCtorEq, Nat.reduceEqDiff, ak, akF, List.contains_nil, List.contains_cons, Nat.reduceBEq, b34]) (by rfl) (by rfl) (by first | rfl | simp only [reduceCtorEq, Nat.reduceEqDiff, ak, akF, Nat.zero_add, List.append_nil, b34]) ?_
    have g46 : (List.replicate 1 ([.int .i64 0, .slice none 0 0, .slice none 0 0, .int .i64 0, .int .i64 0] : List Value)).flatten = [.int .i64 0, .slice none 0 0, .slice none 0 0, .int .i64 0, .int .i64 0] := rfl
    have g47 : (encL c68 t43.2.1).length = t43.2.1.length * 3 := by simp [encL_length c68_w]
    have g48 : (encL c_i64 t43.2.2.1).length = t43.2.2.1.length * 1 := by simp [encL_length c_i64_w]
    have g49 : (⟨.lst, 5, [.sc (.int .i64 t43.1), .own 3 t43.2.1.length (encL c68 t43.2.1), .own 1 t43.2.2.1.length (encL c_i64 t43.2.2.1), .sc (.int .i64 t43.2.2.2.1), .sc (.int .i64 t43.2.2.2.2.1)]⟩ : Root) = ⟨.lst, 5, encL c66 ([(⟨t43.1, t43.2.1, t43.2.2.1, t43.2.2.2.1, t43.2.2.2.2.1⟩ : S66)] : List S66)⟩ := rfl
    have g50 : ([(⟨t43.1, t43.2.1, t43.2.2.1, t43.2.2.2.1, t43.2.2.2.2.1⟩ : S66)] : List S66).length = 1 := rfl
    simp +decide only [Nat.reduceAdd, Nat.reduceMul, Int.reduceToNat, ak, g46, g47, g48, g49, g50]
    refine gho_k (Weak.refl _ _) ?_
    have g51 : (encL c66 ([(⟨t43.1, t43.2.1, t43.2.2.1, t43.2.2.2.1, t43.2.2.2.2.1⟩ : S66)] : List S66)).length = 1 * 5 := by simp [encL_length c66_w]
    have g52 : (encL c66 ([(⟨t43.1, t43.2.1, t43.2.2.1, t43.2.2.2.1, t43.2.2.2.2.1⟩ : S66)] : List S66)).all nd = true := rfl
    obtain ⟨b53, h⟩ := of_guard h
    have g54 : appLim x0_15.length 1 72 := ⟨b53, by have := b53; omega⟩
    have g55 : (encL c66 x0_15).length = x0_15.length * 5 := by simp [encL_length c66_w]
    have g56 : encL c66 x0_15 ++ encL c66 ([(⟨t43.1, t43.2.1, t43.2.2.1, t43.2.2.2.1, t43.2.2.2.2.1⟩ : S66)] : List S66) = encL c66 (x0_15 ++ ([(⟨t43.1, t43.2.1, t43.2.2.1, t43.2.2.2.1, t43.2.2.2.2.1⟩ : S66)] : List S66)) := (encL_append _ _).symm
    simp +decide only [Nat.reduceAdd, Nat.reduceMul, Int.reduceToNat, ak, g51, g52, g54, g55, g56]
    refine B32n _ ?_
    obtain rfl := Option.some.inj h
    refine G31n _ _ (wj [7, 8, 20, 21, 22] [pI (.arg 0) .fz, pI (.tmp 19 0) .box, pI (.tmp 8 20) .lst]) (hJ30 _ rfl)
   ·replace c42 := of_decide_eq_false c42; rw [if_neg c42] at h
    refine sr_k fun J57 hJ57 => ?_
    simp +decide only [Nat.reduceAdd, Nat.reduceMul, Int.reduceToNat, ak]
    refine hJ57 _ ?_
    refine cond_k (b := decide ((rd z63 l1 x0_1).f0 = 2)) rfl (fun c58 => ?_) (fun c58 => ?_)
    ·replace c58 := of_decide_eq_true c58; rw [if_pos c58] at h
     refine reg_k ?_
     simp +decide only [Nat.reduceAdd, Nat.reduceMul, Int.reduceToNat, ak]
     refine B39n _ ?_
     refine hJ37 _ ?_
     refine reg_k ?_
     simp +decide only [Nat.reduceAdd, Nat.reduceMul, Int.reduceToNat, ak]
     obtain ⟨t59, h60, h⟩ := of_bind h
     refine cm [pN (.arg 0) (.tmp 19 0) .box] (impl_sender_act_v1i221.tri x0_2 x0_3 x0_4 x0_5 x0_6 x0_7 x0_8 x0_9 x0_10 x0_11 x0_12 x0_13 x0_14 ((rd z63 l1 x0_1).f2) _ h60) (fun hl60 => ?_)
     refine call_st (s2 := [(.arg 0, ⟨.fz, 3, cs0⟩), (.tmp 19 0, ⟨.box, 0, [.sc (.int .u32 x0_2), .sc (.int .i64 x0_3), .sc (.int .i64 x0_4), .sc (.int .i64 x0_5), .sc (.int .i64 x0_6), .sc (.int .i64 x0_7), .sc (.int .u32 x0_8), .own 1 x0_9.length (encL c_i64 x0_9), .sc (.int .i64 x0_10), .sc (.int .i64 x0_11), .sc (.int .i64 x0_12), .sc (.int .i64 x0_13), .sc (.bool x0_14)]⟩), (.tmp 8 20, ⟨.lst, 5, encL c66 x0_15⟩), (.tmp 10 0, ⟨.box, 0, [.sc (.int .i64 ((rd z63 l1 x0_1).f0)), .sc (.int .i64 ((rd z63 l1 x0_1).f1)), .sc (.int .u32 ((rd z63 l1 x0_1).f2))]⟩)]) (s4 := [(.arg 0, ⟨.fz, 3, cs0⟩), (.tmp 19 0, ⟨.box, 0, [.sc (.int .u32 x0_2), .sc (.int .i64 x0_3), .sc (.int .i64 x0_4), .sc (.int .i64 x0_5), .sc (.int .i64 x0_6), .sc (.int .i64 x0_7), .sc (.int .u32 t59.2.2.2.2.2.1), .own 1 t59.2.2.2.2.2.2.1.length (encL c_i64 t59.2.2.2.2.2.2.1), .sc (.int .i64 t59.2.2.2.2.2.2.2.1), .sc (.int .i64 t59.2.2.2.2.2.2.2.2.1), .sc (.int .i64 t59.2.2.2.2.2.2.2.2.2.1), .sc (.int .i64 t59.2.2.2.2.2.2.2.2.2.2.1), .sc (.bool t59.2.2.2.2.2.2.2.2.2.2.2)]⟩), (.tmp 8 20, ⟨.lst, 5, encL c66 x0_15⟩), (.tmp 10 0, ⟨.box, 0, [.sc (.int .i64 ((rd z63 l1 x0_1).f0)), .sc (.int .i64 ((rd z63 l1 x0_1).f1)), .sc (.int .u32 ((rd z63 l1 x0_1).f2))]⟩), (.tmp 51 1, ⟨.lst, 1, encL c_i64 t59.2.2.1⟩), (.tmp 51 0, ⟨.lst, 3, encL c68 t59.2.1⟩)]) (t' := [(7, .c (.ptr (.tmp 19 0) [] 0)), (8, .c (.ref (.tmp 8 20) [] 0 x0_15.length)), (11, .c (.sc (.iface 221 (.agg #[.int .u32 ((rd z63 l1 x0_1).f2)])))), (20, .c (.ref (.arg 0) [] o0 l1.length)), (21, .c (.sc (.int .i64 x0_0))), (22, .c (.sc (.int .i64 x0_1))), (48, .c (.ref (.tmp 8 20) [] 0 x0_15.length)), (49, .c (.ptr (.tmp 19 0) [] 0)), (50, .c (.sc (.iface 221 (.agg #[.int .u32 ((rd z63 l1 x0_1).f2)]))))]) (m1' := []) (m2' := []) (v' := .g [.sc (.int .i64 t59.1), .ref (.tmp 51 0) [] 0 t59.2.1.length, .ref (.tmp 51 1) [] 0 t59.2.2.1.length, .sc (.int .i64 t59.2.2.2.1), .sc (.int .i64 t59.2.2.2.2.1)]) (by first | rfl | simp only [reduceCtorEq, Nat.reduceEqDiff, ak, akF, List.contains_nil, List.contains_cons, Nat.reduceBEq, b34]) (mrgL_whole (new' := [.sc (.int .u32 x0_2), .sc (.int .i64 x0_3), .sc (.int .i64 x0_4), .sc (.int .i64 x0_5), .sc (.int .i64 x0_6), .sc (.int .i64 x0_7), .sc (.int .u32 t59.2.2.2.2.2.1), .own 1 t59.2.2.2.2.2.2.1.length (encL c_i64 t59.2.2.2.2.2.2.1), .sc (.int .i64 t59.2.2.2.2.2.2.2.1), .sc (.int .i64 t59.2.2.2.2.2.2.2.2.1), .sc (.int .i64 t59.2.2.2.2.2.2.2.2.2.1), .sc (.int .i64 t59.2.2.2.2.2.2.2.2.2.2.1), .sc (.bool t59.2.2.2.2.2.2.2.2.2.2.2)]) (mrgL_nil' _ _ _) rfl (by rfl) (.inl ⟨rfl, by first | rfl | simp only [reduceCtorEq, Nat.reduceEqDiff, ak, akF, Nat.zero_add, List.append_nil, b34]⟩)) (by rfl) (by first | rfl | simp only [reduceCtorEq, Nat.reduceEqDiff, ak, akF, List.contains_nil, List.contains_cons, Nat.reduceBEq, b34]) (by rfl) (by rfl) (by first | rfl | simp only [reduceCtorEq, Nat.reduceEqDiff, ak, akF, Nat.zero_add, List.append_nil, b34]) ?_
     have g62 : (List.replicate 1 ([.int .i64 0, .slice none 0 0, .slice none 0 0, .int .i64 0, .int .i64 0] : List Value)).flatten = [.int .i64 0, .slice none 0 0, .slice none 0 0, .int .i64 0, .int .i64 0] := rfl
     have g63 : (encL c68 t59.2.1).length = t59.2.1.length * 3 := by simp [encL_length c68_w]
     have g64 : (encL c_i64 t59.2.2.1).length = t59.2.2.1.length * 1 := by simp [encL_length c_i64_w]
     have g65 : (⟨.lst, 5, [.sc (.int .i64 t59.1), .own 3 t59.2.1.length (encL c68 t59.2.1), .own 1 t59.2.2.1.length (encL c_i64 t59.2.2.1), .sc (.int .i64 t59.2.2.2.1), .sc (.int .i64 t59.2.2.2.2.1)]⟩ : Root) = ⟨.lst, 5, encL c66 ([(⟨t59.1, t59.2.1, t59.2.2.1, t59.2.2.2.1, t59.2.2.2.2.1⟩ : S66)] : List S66)⟩ := rfl
     have g66 : ([(⟨t59.1, t59.2.1, t59.2.2.1, t59.2.2.2.1, t59.2.2.2.2.1⟩ : S66)] : List S66).length = 1 := rfl
     simp +decide only [Nat.reduceAdd, Nat.reduceMul, Int.reduceToNat, ak, g62, g63, g64, g65, g66]
     refine gho_k (Weak.refl _ _) ?_
     have g67 : (encL c66 ([(⟨t59.1, t59.2.1, t59.2.2.1, t59.2.2.2.1, t59.2.2.2.2.1⟩ : S66)] : List S66)).length = 1 * 5 := by simp [encL_length c66_w]
     have g68 : (encL c66 ([(⟨t59.1, t59.2.1, t59.2.2.1, t59.2.2.2.1, t59.2.2.2.2.1⟩ : S66)] : List S66)).all nd = true := rfl
     obtain ⟨b69, h⟩ := of_guard h
     have g70 : appLim x0_15.length 1 72 := ⟨b69, by have := b69; omega⟩
     have g71 : (encL c66 x0_15).length = x0_15.length * 5 := by simp [encL_length c66_w]
     have g72 : encL c66 x0_15 ++ encL c66 ([(⟨t59.1, t59.2.1, t59.2.2.1, t59.2.2.2.1, t59.2.2.2.2.1⟩ : S66)] : List S66) = encL c66 (x0_15 ++ ([(⟨t59.1, t59.2.1, t59.2.2.1, t59.2.2.2.1, t59.2.2.2.2.1⟩ : S66)] : List S66)) := (encL_append _ _).symm
     simp +decide only [Nat.reduceAdd, Nat.reduceMul, Int.reduceToNat, ak, g67, g68, g70, g71, g72]
     refine B32n _ ?_
     obtain rfl := Option.some.inj h
     refine G31n _ _ (wj [7, 8, 20, 21, 22] [pI (.arg 0) .fz, pI (.tmp 19 0) .box, pI (.tmp 8 20) .lst]) (hJ30 _ rfl)
    ·replace c58 := of_decide_eq_false c58; rw [if_neg c58] at h
     refine sr_k fun J73 hJ73 => ?_
     simp +decide only [Nat.reduceAdd, Nat.reduceMul, Int.reduceToNat, ak]
     refine hJ73 _ ?_
     refine cond_k (b := decide ((rd z63 l1 x0_1).f0 = 3)) rfl (fun c77 => ?_) (fun c77 => ?_)
     ·replace c77 := of_decide_eq_true c77; rw [if_pos c77] at h
      refine reg_k ?_
      simp +decide only [Nat.reduceAdd, Nat.reduceMul, Int.reduceToNat, ak]
      refine B39n _ ?_
      refine hJ37 _ ?_
      refine reg_k ?_
      simp +decide only [Nat.reduceAdd, Nat.reduceMul, Int.reduceToNat, ak]
      obtain ⟨t78, h79, h⟩ := of_bind h
      refine cm [pN (.arg 0) (.tmp 19 0) .box] (impl_sender_act_v1i223.tri x0_2 x0_3 x0_4 x0_5 x0_6 x0_7 x0_8 x0_9 x0_10 x0_11 x0_12 x0_13 x0_14 _ h79) (fun hl79 => ?_)
      refine ct (.g [.sc (.int .i64 t78.1), .ref (.tmp 51 0) [] 0 t78.2.1.length, .ref (.tmp 51 1) [] 0 t78.2.2.1.length, .sc (.int .i64 t78.2.2.2.1), .sc (.int .i64 t78.2.2.2.2.1)]) (mW [.sc (.int .u32 x0_2), .sc (.int .i64 x0_3), .sc (.int .i64 x0_4), .sc (.int .i64 x0_5), .sc (.int .i64 x0_6), .sc (.int .i64 x0_7), .sc (.int .u32 x0_8), .own 1 x0_9.length (encL c_i64 x0_9), .sc (.int .i64 t78.2.2.2.2.2.1), .sc (.int .i64 t78.2.2.2.2.2.2.1), .sc (.int .i64 t78.2.2.2.2.2.2.2.1), .sc (.int .i64 t78.2.2.2.2.2.2.2.2.1), .sc (.bool t78.2.2.2.2.2.2.2.2.2)] (mN ..)) ?_ (s4 := [(.arg 0, ⟨.fz, 3, cs0⟩), (.tmp 19 0, ⟨.box, 0, [.sc (.int .u32 x0_2), .sc (.int .i64 x0_3), .sc (.int .i64 x0_4), .sc (.int .i64 x0_5), .sc (.int .i64 x0_6), .sc (.int .i64 x0_7), .sc (.int .u32 x0_8), .own 1 x0_9.length (encL c_i64 x0_9), .sc (.int .i64 t78.2.2.2.2.2.1), .sc (.int .i64 t78.2.2.2.2.2.2.1), .sc (.int .i64 t78.2.2.2.2.2.2.2.1), .sc (.int .i64 t78.2.2.2.2.2.2.2.2.1), .sc (.bool t78.2.2.2.2.2.2.2.2.2)]⟩), (.tmp 8 20, ⟨.lst, 5, encL c66 x0_15⟩), (.tmp 10 0, ⟨.box, 0, [.sc (.int .i64 ((rd z63 l1 x0_1).f0)), .sc (.int .i64 ((rd z63 l1 x0_1).f1)), .sc (.int .u32 ((rd z63 l1 x0_1).f2))]⟩), (.tmp 51 1, ⟨.lst, 1, encL c_i64 t78.2.2.1⟩), (.tmp 51 0, ⟨.lst, 3, encL c68 t78.2.1⟩)])
      have g81 : (List.replicate 1 ([.int .i64 0, .slice none 0 0, .slice none 0 0, .int .i64 0, .int .i64 0] : List Value)).flatten = [.int .i64 0, .slice none 0 0, .slice none 0 0, .int .i64 0, .int .i64 0] := rfl
      have g82 : (encL c68 t78.2.1).length = t78.2.1.length * 3 := by simp [encL_length c68_w]
      have g83 : (encL c_i64 t78.2.2.1).length = t78.2.2.1.length * 1 := by simp [encL_length c_i64_w]
      have g84 : (⟨.lst, 5, [.sc (.int .i64 t78.1), .own 3 t78.2.1.length (encL c68 t78.2.1), .own 1 t78.2.2.1.length (encL c_i64 t78.2.2.1), .sc (.int .i64 t78.2.2.2.1), .sc (.int .i64 t78.2.2.2.2.1)]⟩ : Root) = ⟨.lst, 5, encL c66 ([(⟨t78.1, t78.2.1, t78.2.2.1, t78.2.2.2.1, t78.2.2.2.2.1⟩ : S66)] : List S66)⟩ := rfl
      have g85 : ([(⟨t78.1, t78.2.1, t78.2.2.1, t78.2.2.2.1, t78.2.2.2.2.1⟩ : S66)] : List S66).length = 1 := rfl
      simp +decide only [Nat.reduceAdd, Nat.reduceMul, Int.reduceToNat, ak, g81, g82, g83, g84, g85]
      refine gho_k (Weak.refl _ _) ?_
      have g86 : (encL c66 ([(⟨t78.1, t78.2.1, t78.2.2.1, t78.2.2.2.1, t78.2.2.2.2.1⟩ : S66)] : List S66)).length = 1 * 5 := by simp [encL_length c66_w]
      have g87 : (encL c66 ([(⟨t78.1, t78.2.1, t78.2.2.1, t78.2.2.2.1, t78.2.2.2.2.1⟩ : S66)] : List S66)).all nd = true := rfl
      obtain ⟨b88, h⟩ := of_guard h
      have g89 : appLim x0_15.length 1 72 := ⟨b88, by have := b88; omega⟩
      have g90 : (encL c66 x0_15).length = x0_15.length * 5 := by simp [encL_length c66_w]
      have g91 : encL c66 x0_15 ++ encL c66 ([(⟨t78.1, t78.2.1, t78.2.2.1, t78.2.2.2.1, t78.2.2.2.2.1⟩ : S66)] : List S66) = encL c66 (x0_15 ++ ([(⟨t78.1, t78.2.1, t78.2.2.1, t78.2.2.2.1, t78.2.2.2.2.1⟩ : S66)] : List S66)) := (encL_append _ _).symm
      simp +decide only [Nat.reduceAdd, Nat.reduceMul, Int.reduceToNat, ak, g86, g87, g89, g90, g91]
      refine B32n _ ?_
      obtain rfl := Option.some.inj h
      refine G31n _ _ (wj [7, 8, 20, 21, 22] [pI (.arg 0) .fz, pI (.tmp 19 0) .box, pI (.tmp 8 20) .lst]) (hJ30 _ rfl)
     ·replace c77 := of_decide_eq_false c77; rw [if_neg c77] at h
      refine sr_k fun J92 hJ92 => ?_
      simp +decide only [Nat.reduceAdd, Nat.reduceMul, Int.reduceToNat, ak]
      refine gho_k ((Weak.nmg' 29 1 (.tmp 29 21) 3 (encL c68 ([] : List S68)) rfl rfl rfl rfl).trans (Weak.nmg' 29 2 (.tmp 29 22) 1 (encL c_i64 ([] : List Int)) rfl rfl rfl rfl)) ?_
      have g93 : (List.replicate 1 ([.int .i64 0, .slice none 0 0, .slice none 0 0, .int .i64 0, .int .i64 0] : List Value)).flatten = [.int .i64 0, .slice none 0 0, .slice none 0 0, .int .i64 0, .int .i64 0] := rfl
      have g94 : (encL c68 ([] : List S68)).length = 0 * 3 := by simp [encL_length c68_w]
      have g95 : (encL c_i64 ([] : List Int)).length = 0 * 1 := by simp [encL_length c_i64_w]
      have g96 : (⟨.lst, 5, [.sc (.int .i64 1), .own 3 0 (encL c68 ([] : List S68)), .own 1 0 (encL c_i64 ([] : List Int)), .sc (.int .i64 0), .sc (.int .i64 0)]⟩ : Root) = ⟨.lst, 5, encL c66 ([(⟨1, ([] : List S68), ([] : List Int), 0, 0⟩ : S66)] : List S66)⟩ := rfl
      have g97 : ([(⟨1, ([] : List S68), ([] : List Int), 0, 0⟩ : S66)] : List S66).length = 1 := rfl
      simp +decide only [Nat.reduceAdd, Nat.reduceMul, Int.reduceToNat, ak, g93, g94, g95, g96, g97]
      refine gho_k (Weak.refl _ _) ?_
      have g98 : (encL c66 ([(⟨1, ([] : List S68), ([] : List Int), 0, 0⟩ : S66)] : List S66)).length = 1 * 5 := by simp [encL_length c66_w]
      have g99 : (encL c66 ([(⟨1, ([] : List S68), ([] : List Int), 0, 0⟩ : S66)] : List S66)).all nd = true := rfl
      obtain ⟨b100, h⟩ := of_guard h
      have g101 : appLim x0_15.length 1 72 := ⟨b100, by have := b100; omega⟩
      have g102 : (encL c66 x0_15).length = x0_15.length * 5 := by simp [encL_length c66_w]
      have g103 : encL c66 x0_15 ++ encL c66 ([(⟨1, ([] : List S68), ([] : List Int), 0, 0⟩ : S66)] : List S66) = encL c66 (x0_15 ++ ([(⟨1, ([] : List S68), ([] : List Int), 0, 0⟩ : S66)] : List S66)) := (encL_append _ _).symm
      simp +decide only [Nat.reduceAdd, Nat.reduceMul, Int.reduceToNat, ak, g98, g99, g101, g102, g103]
      refine hJ92 _ ?_
      refine B39j _ _ (by decide) ?_
      refine B32x _ ?_
      obtain rfl := Option.some.inj h
      refine G31n _ _ (wj [7, 8, 20, 21, 22] [pI (.arg 0) .fz, pI (.tmp 19 0) .box, pI (.tmp 8 20) .lst]) (hJ30 _ rfl)
  ·replace h := hn; clear hn h29
   rintro _ rfl
   refine reg_k ?_
   simp +decide only [Nat.reduceAdd, Nat.reduceMul, Int.reduceToNat, ak]
   refine G0n _ _ (wk [7, 8, 20, 21, 22] [pI (.arg 0) .fz, pI (.tmp 19 0) .box, pI (.tmp 8 20) .lst]) (ih _ _ _ _ _ _ _ _ _ _ h K hx0)
 ·replace c27 := of_decide_eq_false c27; rw [if_neg c27] at h
  obtain rfl := Option.some.inj h
  refine gh_k (wk [7, 8] [pI (.arg 0) .fz, pI (.tmp 19 0) .box, pI (.tmp 8 20) .lst]) ?_
  refine G0x _ _ ?_
  exact hx0
theorem impl_subAfter.tri0 (cs0 : List Cell) (o0 : Nat) (l1 : List S63) (hv0 : Vw c63 3 cs0 o0 l1) (a0_0 : Int) (a0_1 : Int) (a0_2 : Int) (a0_3 : Int) (a0_4 : Int) (a0_5 : Int) (r : (Option (Int × Int × Int × Int × Int × Int × Int × (List Int) × Int × Int × Int × Int × Bool)) × (List S66) × Int) (h : impl_subAfter.f a0_0 a0_1 a0_2 a0_3 a0_4 a0_5 l1 = some r) (hp : r.1 = none) : Tri Try.prog 87 [.g [.sc (.int .u32 a0_0), .sc (.int .i64 a0_1), .sc (.int .i64 a0_2), .sc (.int .i64 a0_3), .sc (.int .i64 a0_4), .sc (.int .i64 a0_5)], .c (.ref (.arg 0) [] o0 l1.length)] [(.arg 0, ⟨.fz, 3, cs0⟩)] (fun o => o = ⟨.tup [(false, [.sc (.pointer none)]), (false, [.ref (.res 0) [] 0 r.2.1.length]), (false, [.sc (.int .i64 r.2.2)])], [(.arg 0, ⟨.fz, 3, cs0⟩), (.res 0, ⟨.lst, 5, encL c66 r.2.1⟩)], [], []⟩) := by
 refine tri_of_body (ac := C87) (xs := r87) Try.func87 (show Try.f87.body = some (Try.f87.body.getD .skip) from rfl) k87 q87 (Nat.le_of_ble_eq_true rfl) ?_
 refine body_of fun K hKn hKr => ?_
 unfold impl_subAfter.f at h
 unfold C87
 simp only [initT, Nat.reduceAdd]
 refine sr_k fun J1 hJ1 => ?_
 simp +decide only [Nat.reduceAdd, Nat.reduceMul, Int.reduceToNat, ak]
 refine gho_k (Weak.nm' 5 (.tmp 5 20) 5 (encL c66 ([] : List S66)) rfl rfl rfl) ?_
 simp +decide only [Nat.reduceAdd, Nat.reduceMul, Int.reduceToNat, ak]
 refine hJ1 _ ?_
 refine seq_k fun J2 hJ2 => ?_
 refine sr_k fun J3 hJ3 => ?_
 simp +decide only [Nat.reduceAdd, Nat.reduceMul, Int.reduceToNat, ak]
 obtain ⟨t4, h5, h⟩ := of_bind h
 refine cm [] (impl_validSub.tri a0_0 a0_1 a0_2 a0_3 a0_4 a0_5 _ h5) (fun hl5 => ?_)
 refine cs (mN ..) ?_ (s4 := [(.arg 0, ⟨.fz, 3, cs0⟩), (.tmp 2 0, ⟨.box, 0, [.sc (.int .u32 a0_0), .sc (.int .i64 a0_1), .sc (.int .i64 a0_2), .sc (.int .i64 a0_3), .sc (.int .i64 a0_4), .sc (.int .i64 a0_5)]⟩), (.tmp 5 20, ⟨.lst, 5, encL c66 ([] : List S66)⟩)])
 simp +decide only [Nat.reduceAdd, Nat.reduceMul, Int.reduceToNat, ak]
 refine hJ3 _ ?_
 refine cond_k (b := !t4) rfl (fun c9 => ?_) (fun c9 => ?_)
 ·rw [if_pos c9] at h
  refine sr_k fun J10 hJ10 => ?_
  simp +decide only [Nat.reduceAdd, Nat.reduceMul, Int.reduceToNat, ak]
  refine gho_k ((Weak.drop [.tmp 5 20]).trans (Weak.nm' 5 (.tmp 5 20) 5 (encL c66 ([] : List S66)) rfl rfl rfl)) ?_
  simp +decide only [Nat.reduceAdd, Nat.reduceMul, Int.reduceToNat, ak]
  refine hJ10 _ ?_
  obtain rfl := Option.some.inj h
  refine hKr _ ⟨_, rfl, [⟨(.tmp 5 20), [], none, .lst⟩], _, rfl, rfl, ?_⟩
  exact cl
 ·rw [if_neg (Bool.eq_false_iff.1 c9)] at h
  refine hJ2 _ ?_
  refine seq_k fun J11 hJ11 => ?_
  refine sr_k fun J12 hJ12 => ?_
  simp +decide only [Nat.reduceAdd, Nat.reduceMul, Int.reduceToNat, ak]
  refine hJ12 _ ?_
  refine cond_k (b := decide ((l1.length : Int) > 4000)) rfl (fun c15 => ?_) (fun c15 => ?_)
  ·replace c15 := of_decide_eq_true c15; rw [if_pos c15] at h
   refine sr_k fun J16 hJ16 => ?_
   simp +decide only [Nat.reduceAdd, Nat.reduceMul, Int.reduceToNat, ak]
   refine gho_k ((Weak.drop [.tmp 5 20]).trans (Weak.nm' 5 (.tmp 5 20) 5 (encL c66 ([] : List S66)) rfl rfl rfl)) ?_
   simp +decide only [Nat.reduceAdd, Nat.reduceMul, Int.reduceToNat, ak]
   refine hJ16 _ ?_
   obtain rfl := Option.some.inj h
   refine hKr _ ⟨_, rfl, [⟨(.tmp 5 20), [], none, .lst⟩], _, rfl, rfl, ?_⟩
   exact cl
  ·replace c15 := of_decide_eq_false c15; rw [if_neg c15] at h
   refine hJ11 _ ?_
   refine sr_k fun J17 hJ17 => ?_
   simp +decide only [Nat.reduceAdd, Nat.reduceMul, Int.reduceToNat, ak]
   obtain ⟨t18, h19, h⟩ := of_bind h
   refine cm [] (impl_newSender.tri a0_0 a0_1 a0_2 a0_3 a0_4 a0_5 _ h19) (fun hl19 => ?_)
   refine ct (.c (.ptr (.tmp 19 0) [] 0)) (mN ..) ?_ (s4 := [(.arg 0, ⟨.fz, 3, cs0⟩), (.tmp 2 0, ⟨.box, 0, [.sc (.int .u32 a0_0), .sc (.int .i64 a0_1), .sc (.int .i64 a0_2), .sc (.int .i64 a0_3), .sc (.int .i64 a0_4), .sc (.int .i64 a0_5)]⟩), (.tmp 5 20, ⟨.lst, 5, encL c66 ([] : List S66)⟩), (.tmp 19 0, ⟨.box, 0, [.sc (.int .u32 t18.1), .sc (.int .i64 t18.2.1), .sc (.int .i64 t18.2.2.1), .sc (.int .i64 t18.2.2.2.1), .sc (.int .i64 t18.2.2.2.2.1), .sc (.int .i64 t18.2.2.2.2.2.1), .sc (.int .u32 t18.2.2.2.2.2.2.1), .own 1 t18.2.2.2.2.2.2.2.1.length (encL c_i64 t18.2.2.2.2.2.2.2.1), .sc (.int .i64 t18.2.2.2.2.2.2.2.2.1), .sc (.int .i64 t18.2.2.2.2.2.2.2.2.2.1), .sc (.int .i64 t18.2.2.2.2.2.2.2.2.2.2.1), .sc (.int .i64 t18.2.2.2.2.2.2.2.2.2.2.2.1), .sc (.bool t18.2.2.2.2.2.2.2.2.2.2.2.2)]⟩)])
   simp +decide only [Nat.reduceAdd, Nat.reduceMul, Int.reduceToNat, ak]
   refine hJ17 _ ?_
   refine sr_k fun J21 hJ21 => ?_
   simp +decide only [Nat.reduceAdd, Nat.reduceMul, Int.reduceToNat, ak]
   refine gho_k (Weak.nm' 8 (.tmp 8 20) 5 (encL c66 ([] : List S66)) rfl rfl rfl) ?_
   simp +decide only [Nat.reduceAdd, Nat.reduceMul, Int.reduceToNat, ak]
   refine hJ21 _ ?_
   refine seq_k fun J22 hJ22 => ?_
   refine sr_k fun J23 hJ23 => ?_
   simp +decide only [Nat.reduceAdd, Nat.reduceMul, Int.reduceToNat, ak]
   refine hJ23 _ ?_
   refine block_k fun B24 B24n B24x B24r B24j => ?_
   obtain ⟨y104, h105, h⟩ := of_bind h
   refine gh_k (st' := ⟨[(7, .c (.ptr (.tmp 19 0) [] 0)), (8, .c (.ref (.tmp 8 20) [] 0 (([] : List S66).length))), (20, .c (.ref (.arg 0) [] o0 l1.length)), (21, .c (.sc (.int .i64 (l1.length : Int)))), (22, .c (.sc (.int .i64 0)))], [(.arg 0, ⟨.fz, 3, cs0⟩), (.tmp 19 0, ⟨.box, 0, [.sc (.int .u32 t18.1), .sc (.int .i64 t18.2.1), .sc (.int .i64 t18.2.2.1), .sc (.int .i64 t18.2.2.2.1), .sc (.int .i64 t18.2.2.2.2.1), .sc (.int .i64 t18.2.2.2.2.2.1), .sc (.int .u32 t18.2.2.2.2.2.2.1), .own 1 t18.2.2.2.2.2.2.2.1.length (encL c_i64 t18.2.2.2.2.2.2.2.1), .sc (.int .i64 t18.2.2.2.2.2.2.2.2.1), .sc (.int .i64 t18.2.2.2.2.2.2.2.2.2.1), .sc (.int .i64 t18.2.2.2.2.2.2.2.2.2.2.1), .sc (.int .i64 t18.2.2.2.2.2.2.2.2.2.2.2.1), .sc (.bool t18.2.2.2.2.2.2.2.2.2.2.2.2)]⟩), (.tmp 8 20, ⟨.lst, 5, encL c66 ([] : List S66)⟩)], [], []⟩) (wk [7, 8, 20, 21, 22] [pI (.arg 0) .fz, pI (.tmp 19 0) .box, pI (.tmp 8 20) .lst] (h := by first | rfl | (simp +decide only [ak, akF]; done) | (simp +decide [ak, akF] <;> omega))) ?_
   rw [e_loop]
   refine impl_subAfter.l0_walk cs0 o0 l1 hv0 (l1.length : Int) t18.1 t18.2.1 t18.2.2.1 t18.2.2.2.1 t18.2.2.2.2.1 t18.2.2.2.2.2.1 0 t18.2.2.2.2.2.2.1 t18.2.2.2.2.2.2.2.1 t18.2.2.2.2.2.2.2.2.1 t18.2.2.2.2.2.2.2.2.2.1 t18.2.2.2.2.2.2.2.2.2.2.1 t18.2.2.2.2.2.2.2.2.2.2.2.1 t18.2.2.2.2.2.2.2.2.2.2.2.2 ([] : List S66) _ h105 _ ?_
   refine B24x _ ?_
   refine hJ22 _ ?_
   refine sr_k fun J106 hJ106 => ?_
   simp +decide only [Nat.reduceAdd, Nat.reduceMul, Int.reduceToNat, ak]
   refine hJ106 _ ?_
   obtain rfl := Option.some.inj h
   exact absurd hp (by simp)
theorem impl_subAfter.tri1 (cs0 : List Cell) (o0 : Nat) (l1 : List S63) (hv0 : Vw c63 3 cs0 o0 l1) (a0_0 : Int) (a0_1 : Int) (a0_2 : Int) (a0_3 : Int) (a0_4 : Int) (a0_5 : Int) (r : (Option (Int × Int × Int × Int × Int × Int × Int × (List Int) × Int × Int × Int × Int × Bool)) × (List S66) × Int) (h : impl_subAfter.f a0_0 a0_1 a0_2 a0_3 a0_4 a0_5 l1 = some r) (p : Int × Int × Int × Int × Int × Int × Int × (List Int) × Int × Int × Int × Int × Bool) (hp : r.1 = some p) : Tri Try.prog 87 [.g [.sc (.int .u32 a0_0), .sc (.int .i64 a0_1), .sc (.int .i64 a0_2), .sc (.int .i64 a0_3), .sc (.int .i64 a0_4), .sc (.int .i64 a0_5)], .c (.ref (.arg 0) [] o0 l1.length)] [(.arg 0, ⟨.fz, 3, cs0⟩)] (fun o => o = ⟨.tup [(false, [.ptr (.res 0) [] 0]), (false, [.ref (.res 1) [] 0 r.2.1.length]), (false, [.sc (.int .i64 r.2.2)])], [(.arg 0, ⟨.fz, 3, cs0⟩), (.res 0, ⟨.box, 0, [.sc (.int .u32 p.1), .sc (.int .i64 p.2.1), .sc (.int .i64 p.2.2.1), .sc (.int .i64 p.2.2.2.1), .sc (.int .i64 p.2.2.2.2.1), .sc (.int .i64 p.2.2.2.2.2.1), .sc (.int .u32 p.2.2.2.2.2.2.1), .own 1 p.2.2.2.2.2.2.2.1.length (encL c_i64 p.2.2.2.2.2.2.2.1), .sc (.int .i64 p.2.2.2.2.2.2.2.2.1), .sc (.int .i64 p.2.2.2.2.2.2.2.2.2.1), .sc (.int .i64 p.2.2.2.2.2.2.2.2.2.2.1), .sc (.int .i64 p.2.2.2.2.2.2.2.2.2.2.2.1), .sc (.bool p.2.2.2.2.2.2.2.2.2.2.2.2)]⟩), (.res 1, ⟨.lst, 5, encL c66 r.2.1⟩)], [], []⟩) := by
 refine tri_of_body (ac := C87) (xs := r87) Try.func87 (show Try.f87.body = some (Try.f87.body.getD .skip) from rfl) k87 q87 (Nat.le_of_ble_eq_true rfl) ?_
 refine body_of fun K hKn hKr => ?_
 unfold impl_subAfter.f at h
 unfold C87
 simp only [initT, Nat.reduceAdd]
 refine sr_k fun J1 hJ1 => ?_
 simp +decide only [Nat.reduceAdd, Nat.reduceMul, Int.reduceToNat, ak]
 refine gho_k (Weak.nm' 5 (.tmp 5 20) 5 (encL c66 ([] : List S66)) rfl rfl rfl) ?_
 simp +decide only [Nat.reduceAdd, Nat.reduceMul, Int.reduceToNat, ak]
 refine hJ1 _ ?_
 refine seq_k fun J2 hJ2 => ?_
 refine sr_k fun J3 hJ3 => ?_
 simp +decide only [Nat.reduceAdd, Nat.reduceMul, Int.reduceToNat, ak]
 obtain ⟨t4, h5, h⟩ := of_bind h
 refine cm [] (impl_validSub.tri a0_0 a0_1 a0_2 a0_3 a0_4 a0_5 _ h5) (fun hl5 => ?_)
 refine cs (mN ..) ?_ (s4 := [(.arg 0, ⟨.fz, 3, cs0⟩), (.tmp 2 0, ⟨.box, 0, [.sc (.int .u32 a0_0), .sc (.int .i64 a0_1), .sc (.int .i64 a0_2), .sc (.int .i64 a0_3), .sc (.int .i64 a0_4), .sc (.int .i64 a0_5)]⟩), (.tmp 5 20, ⟨.lst, 5, encL c66 ([] : List S66)⟩)])
 simp +decide only [Nat.reduceAdd, Nat.reduceMul, Int.reduceToNat, ak]
 refine hJ3 _ ?_
 refine cond_k (b := !t4) rfl (fun c9 => ?_) (fun c9 => ?_)
 ·rw [if_pos c9] at h
  refine sr_k fun J10 hJ10 => ?_
  simp +decide only [Nat.reduceAdd, Nat.reduceMul, Int.reduceToNat, ak]
  refine gho_k ((Weak.drop [.tmp 5 20]).trans (Weak.nm' 5 (.tmp 5 20) 5 (encL c66 ([] : List S66)) rfl rfl rfl)) ?_
  simp +decide only [Nat.reduceAdd, Nat.reduceMul, Int.reduceToNat, ak]
  refine hJ10 _ ?_
  obtain rfl := Option.some.inj h
  exact absurd hp (by simp)
 ·rw [if_neg (Bool.eq_false_iff.1 c9)] at h
  refine hJ2 _ ?_
  refine seq_k fun J11 hJ11 => ?_
  refine sr_k fun J12 hJ12 => ?_
  simp +decide only [Nat.reduceAdd, Nat.reduceMul, Int.reduceToNat, ak]
  refine hJ12 _ ?_
  refine cond_k (b := decide ((l1.length : Int) > 4000)) rfl (fun c15 => ?_) (fun c15 => ?_)
  ·replace c15 := of_decide_eq_true c15; rw [if_pos c15] at h
   refine sr_k fun J16 hJ16 => ?_
   simp +decide only [Nat.reduceAdd, Nat.reduceMul, Int.reduceToNat, ak]
   refine gho_k ((Weak.drop [.tmp 5 20]).trans (Weak.nm' 5 (.tmp 5 20) 5 (encL c66 ([] : List S66)) rfl rfl rfl)) ?_
   simp +decide only [Nat.reduceAdd, Nat.reduceMul, Int.reduceToNat, ak]
   refine hJ16 _ ?_
   obtain rfl := Option.some.inj h
   exact absurd hp (by simp)
  ·replace c15 := of_decide_eq_false c15; rw [if_neg c15] at h
   refine hJ11 _ ?_
   refine sr_k fun J17 hJ17 => ?_
   simp +decide only [Nat.reduceAdd, Nat.reduceMul, Int.reduceToNat, ak]
   obtain ⟨t18, h19, h⟩ := of_bind h
   refine cm [] (impl_newSender.tri a0_0 a0_1 a0_2 a0_3 a0_4 a0_5 _ h19) (fun hl19 => ?_)
   refine ct (.c (.ptr (.tmp 19 0) [] 0)) (mN ..) ?_ (s4 := [(.arg 0, ⟨.fz, 3, cs0⟩), (.tmp 2 0, ⟨.box, 0, [.sc (.int .u32 a0_0), .sc (.int .i64 a0_1), .sc (.int .i64 a0_2), .sc (.int .i64 a0_3), .sc (.int .i64 a0_4), .sc (.int .i64 a0_5)]⟩), (.tmp 5 20, ⟨.lst, 5, encL c66 ([] : List S66)⟩), (.tmp 19 0, ⟨.box, 0, [.sc (.int .u32 t18.1), .sc (.int .i64 t18.2.1), .sc (.int .i64 t18.2.2.1), .sc (.int .i64 t18.2.2.2.1), .sc (.int .i64 t18.2.2.2.2.1), .sc (.int .i64 t18.2.2.2.2.2.1), .sc (.int .u32 t18.2.2.2.2.2.2.1), .own 1 t18.2.2.2.2.2.2.2.1.length (encL c_i64 t18.2.2.2.2.2.2.2.1), .sc (.int .i64 t18.2.2.2.2.2.2.2.2.1), .sc (.int .i64 t18.2.2.2.2.2.2.2.2.2.1), .sc (.int .i64 t18.2.2.2.2.2.2.2.2.2.2.1), .sc (.int .i64 t18.2.2.2.2.2.2.2.2.2.2.2.1), .sc (.bool t18.2.2.2.2.2.2.2.2.2.2.2.2)]⟩)])
   simp +decide only [Nat.reduceAdd, Nat.reduceMul, Int.reduceToNat, ak]
   refine hJ17 _ ?_
   refine sr_k fun J21 hJ21 => ?_
   simp +decide only [Nat.reduceAdd, Nat.reduceMul, Int.reduceToNat, ak]
   refine gho_k (Weak.nm' 8 (.tmp 8 20) 5 (encL c66 ([] : List S66)) rfl rfl rfl) ?_
   simp +decide only [Nat.reduceAdd, Nat.reduceMul, Int.reduceToNat, ak]
   refine hJ21 _ ?_
   refine seq_k fun J22 hJ22 => ?_
   refine sr_k fun J23 hJ23 => ?_
   simp +decide only [Nat.reduceAdd, Nat.reduceMul, Int.reduceToNat, ak]
   refine hJ23 _ ?_
   refine block_k fun B24 B24n B24x B24r B24j => ?_
   obtain ⟨y104, h105, h⟩ := of_bind h
   refine gh_k (st' := ⟨[(7, .c (.ptr (.tmp 19 0) [] 0)), (8, .c (.ref (.tmp 8 20) [] 0 (([] : List S66).length))), (20, .c (.ref (.arg 0) [] o0 l1.length)), (21, .c (.sc (.int .i64 (l1.length : Int)))), (22, .c (.sc (.int .i64 0)))], [(.arg 0, ⟨.fz, 3, cs0⟩), (.tmp 19 0, ⟨.box, 0, [.sc (.int .u32 t18.1), .sc (.int .i64 t18.2.1), .sc (.int .i64 t18.2.2.1), .sc (.int .i64 t18.2.2.2.1), .sc (.int .i64 t18.2.2.2.2.1), .sc (.int .i64 t18.2.2.2.2.2.1), .sc (.int .u32 t18.2.2.2.2.2.2.1), .own 1 t18.2.2.2.2.2.2.2.1.length (encL c_i64 t18.2.2.2.2.2.2.2.1), .sc (.int .i64 t18.2.2.2.2.2.2.2.2.1), .sc (.int .i64 t18.2.2.2.2.2.2.2.2.2.1), .sc (.int .i64 t18.2.2.2.2.2.2.2.2.2.2.1), .sc (.int .i64 t18.2.2.2.2.2.2.2.2.2.2.2.1), .sc (.bool t18.2.2.2.2.2.2.2.2.2.2.2.2)]⟩), (.tmp 8 20, ⟨.lst, 5, encL c66 ([] : List S66)⟩)], [], []⟩) (wk [7, 8, 20, 21, 22] [pI (.arg 0) .fz, pI (.tmp 19 0) .box, pI (.tmp 8 20) .lst] (h := by first | rfl | (simp +decide only [ak, akF]; done) | (simp +decide [ak, akF] <;> omega))) ?_
   rw [e_loop]
   refine impl_subAfter.l0_walk cs0 o0 l1 hv0 (l1.length : Int) t18.1 t18.2.1 t18.2.2.1 t18.2.2.2.1 t18.2.2.2.2.1 t18.2.2.2.2.2.1 0 t18.2.2.2.2.2.2.1 t18.2.2.2.2.2.2.2.1 t18.2.2.2.2.2.2.2.2.1 t18.2.2.2.2.2.2.2.2.2.1 t18.2.2.2.2.2.2.2.2.2.2.1 t18.2.2.2.2.2.2.2.2.2.2.2.1 t18.2.2.2.2.2.2.2.2.2.2.2.2 ([] : List S66) _ h105 _ ?_
   refine B24x _ ?_
   refine hJ22 _ ?_
   refine sr_k fun J106 hJ106 => ?_
   simp +decide only [Nat.reduceAdd, Nat.reduceMul, Int.reduceToNat, ak]
   refine hJ106 _ ?_
   obtain rfl := Option.some.inj h
   obtain rfl := Option.some.inj hp
   refine hKr _ ⟨_, rfl, [⟨(.tmp 19 0), [], none, .box⟩, ⟨(.tmp 8 20), [], none, .lst⟩], _, rfl, rfl, ?_⟩
   exact cl
/-! ### impl.SubRun: function 31 -/
def C31 : AC := .sr [.o (.box 2 (.t 0)), .o (.mv 4 (.const (.slice none 0 0))), .gh, .o (.mv 5 (.k 0)), .keep [1, 2]] (.sr [.o (.load 10 true 6 (.t 2)), .m 11 1, .call none (some 12) 87 [.tmp 10, .tmp 11], .m 9 12, .o (.extr 13 (.t 9) 0), .o (.extr 14 (.t 9) 1), .o (.extr 15 (.t 9) 2), .m 6 13, .m 7 14, .m 8 15, .keep [7, 8]] (.sr [.m 16 7, .m 17 8, .m 4 16, .m 5 17, .keep [4, 5]] (.ret)))
def r31 : List RV := [.tmp 4, .tmp 5]
theorem k31 : compC Try.prog 18 C31 (Try.f31.body.getD .skip) = some C31.erase := by kernel_rfl
theorem q31 : rvsOf Try.prog Try.f31.results.toList = some r31 := by kernel_rfl
def impl_SubRun.f (a0_0 : Int) (a0_1 : Int) (a0_2 : Int) (a0_3 : Int) (a0_4 : Int) (a0_5 : Int) (l1 : List S63) : Option ((List S66) × Int) := (impl_subAfter.f a0_0 a0_1 a0_2 a0_3 a0_4 a0_5 l1 >>= fun t3 => (match t3.1 with | none => (some (t3.2.1, t3.2.2)) | some p7 => (some (t3.2.1, t3.2.2))))
theorem impl_SubRun.tri (cs0 : List Cell) (o0 : Nat) (l1 : List S63) (hv0 : Vw c63 3 cs0 o0 l1) (a0_0 : Int) (a0_1 : Int) (a0_2 : Int) (a0_3 : Int) (a0_4 : Int) (a0_5 : Int) (r : (List S66) × Int) (h : impl_SubRun.f a0_0 a0_1 a0_2 a0_3 a0_4 a0_5 l1 = some r) : Tri Try.prog 31 [.g [.sc (.int .u32 a0_0), .sc (.int .i64 a0_1), .sc (.int .i64 a0_2), .sc (.int .i64 a0_3), .sc (.int .i64 a0_4), .sc (.int .i64 a0_5)], .c (.ref (.arg 0) [] o0 l1.length)] [(.arg 0, ⟨.fz, 3, cs0⟩)] (fun o => o = ⟨.tup [(false, [.ref (.res 0) [] 0 r.1.length]), (false, [.sc (.int .i64 r.2)])], [(.arg 0, ⟨.fz, 3, cs0⟩), (.res 0, ⟨.lst, 5, encL c66 r.1⟩)], [], []⟩) := by
 refine tri_of_body (ac := C31) (xs := r31) Try.func31 (show Try.f31.body = some (Try.f31.body.getD .skip) from rfl) k31 q31 (Nat.le_of_ble_eq_true rfl) ?_
 refine body_of fun K hKn hKr => ?_
 unfold impl_SubRun.f at h
 unfold C31
 simp only [initT, Nat.reduceAdd]
 refine sr_k fun J1 hJ1 => ?_
 simp +decide only [Nat.reduceAdd, Nat.reduceMul, Int.reduceToNat, ak]
 refine gho_k (Weak.nm' 4 (.tmp 4 20) 5 (encL c66 ([] : List S66)) rfl rfl rfl) ?_
 simp +decide only [Nat.reduceAdd, Nat.reduceMul, Int.reduceToNat, ak]
 refine hJ1 _ ?_
 refine sr_k fun J2 hJ2 => ?_
 simp +decide only [Nat.reduceAdd, Nat.reduceMul, Int.reduceToNat, ak]
 obtain ⟨t3, h4, h⟩ := of_bind h
 rcases hpo : t3.1 with _ | p7
 ·have hpp5 := hpo
  rw [hpo] at h; dsimp only at h
  refine cm [pI (.arg 0) .fz] (impl_subAfter.tri0 (cs0) o0 l1 hv0 a0_0 a0_1 a0_2 a0_3 a0_4 a0_5 _ h4 hpp5) (fun hl5 => ?_)
  refine ct (.tup [(false, [.sc (.pointer none)]), (false, [.ref (.tmp 12 0) [] 0 t3.2.1.length]), (false, [.sc (.int .i64 t3.2.2)])]) (mF (mN ..)) ?_ (s4 := [(.arg 0, ⟨.fz, 3, cs0⟩), (.tmp 2 0, ⟨.box, 0, [.sc (.int .u32 a0_0), .sc (.int .i64 a0_1), .sc (.int .i64 a0_2), .sc (.int .i64 a0_3), .sc (.int .i64 a0_4), .sc (.int .i64 a0_5)]⟩), (.tmp 4 20, ⟨.lst, 5, encL c66 ([] : List S66)⟩), (.tmp 12 0, ⟨.lst, 5, encL c66 t3.2.1⟩)])
  simp +decide only [Nat.reduceAdd, Nat.reduceMul, Int.reduceToNat, ak]
  refine hJ2 _ ?_
  refine sr_k fun J9 hJ9 => ?_
  simp +decide only [Nat.reduceAdd, Nat.reduceMul, Int.reduceToNat, ak]
  refine hJ9 _ ?_
  obtain rfl := Option.some.inj h
  refine hKr _ ⟨_, rfl, [⟨(.tmp 12 0), [], none, .lst⟩], _, rfl, rfl, ?_⟩
  exact cl
 ·have hpp7 := hpo
  rw [hpo] at h; dsimp only at h
  refine cm [pI (.arg 0) .fz] (impl_subAfter.tri1 (cs0) o0 l1 hv0 a0_0 a0_1 a0_2 a0_3 a0_4 a0_5 _ h4 _ hpp7) (fun hl7 => ?_)
  refine ct (.tup [(false, [.ptr (.tmp 12 0) [] 0]), (false, [.ref (.tmp 12 1) [] 0 t3.2.1.length]), (false, [.sc (.int .i64 t3.2.2)])]) (mF (mN ..)) ?_ (s4 := [(.arg 0, ⟨.fz, 3, cs0⟩), (.tmp 2 0, ⟨.box, 0, [.sc (.int .u32 a0_0), .sc (.int .i64 a0_1), .sc (.int .i64 a0_2), .sc (.int .i64 a0_3), .sc (.int .i64 a0_4), .sc (.int .i64 a0_5)]⟩), (.tmp 4 20, ⟨.lst, 5, encL c66 ([] : List S66)⟩), (.tmp 12 1, ⟨.lst, 5, encL c66 t3.2.1⟩), (.tmp 12 0, ⟨.box, 0, [.sc (.int .u32 p7.1), .sc (.int .i64 p7.2.1), .sc (.int .i64 p7.2.2.1), .sc (.int .i64 p7.2.2.2.1), .sc (.int .i64 p7.2.2.2.2.1), .sc (.int .i64 p7.2.2.2.2.2.1), .sc (.int .u32 p7.2.2.2.2.2.2.1), .own 1 p7.2.2.2.2.2.2.2.1.length (encL c_i64 p7.2.2.2.2.2.2.2.1), .sc (.int .i64 p7.2.2.2.2.2.2.2.2.1), .sc (.int .i64 p7.2.2.2.2.2.2.2.2.2.1), .sc (.int .i64 p7.2.2.2.2.2.2.2.2.2.2.1), .sc (.int .i64 p7.2.2.2.2.2.2.2.2.2.2.2.1), .sc (.bool p7.2.2.2.2.2.2.2.2.2.2.2.2)]⟩)])
  simp +decide only [Nat.reduceAdd, Nat.reduceMul, Int.reduceToNat, ak]
  refine hJ2 _ ?_
  refine sr_k fun J10 hJ10 => ?_
  simp +decide only [Nat.reduceAdd, Nat.reduceMul, Int.reduceToNat, ak]
  refine hJ10 _ ?_
  obtain rfl := Option.some.inj h
  refine hKr _ ⟨_, rfl, [⟨(.tmp 12 1), [], none, .lst⟩], _, rfl, rfl, ?_⟩
  exact cl
/-! ### impl.mark: function 88 -/
def C88 : AC := .sr [.o (.mv 2 (.k 0)), .keep [0]] (.seq (.sr [.m 3 0, .keep [3]] (.cond (.t 3) (.sr [.o (.mv 2 (.k 1)), .keep [2]] (.ret)) (.skip))) (.sr [.o (.mv 2 (.k 0)), .keep [2]] (.ret)))
def r88 : List RV := [.tmp 2]
theorem k88 : compC Try.prog 4 C88 (Try.f88.body.getD .skip) = some C88.erase := by kernel_rfl
theorem q88 : rvsOf Try.prog Try.f88.results.toList = some r88 := by kernel_rfl
def impl_mark.f (a0 : Bool) : Option Int := (if a0 = true then (some 1) else (some 0))
theorem impl_mark.tri (a0 : Bool) (r : Int) (h : impl_mark.f a0 = some r) : Tri Try.prog 88 [.c (.sc (.bool a0))] [] (fun o => o = ⟨.c (.sc (.int .i64 r)), [], [], []⟩) := by
 refine tri_of_body (ac := C88) (xs := r88) Try.func88 (show Try.f88.body = some (Try.f88.body.getD .skip) from rfl) k88 q88 (Nat.le_of_ble_eq_true rfl) ?_
 refine body_of fun K hKn hKr => ?_
 unfold impl_mark.f at h
 unfold C88
 simp only [initT, Nat.reduceAdd]
 refine sr_k fun J1 hJ1 => ?_
 simp +decide only [Nat.reduceAdd, Nat.reduceMul, Int.reduceToNat, ak]
 refine hJ1 _ ?_
 refine seq_k fun J2 hJ2 => ?_
 refine sr_k fun J3 hJ3 => ?_
 simp +decide only [Nat.reduceAdd, Nat.reduceMul, Int.reduceToNat, ak]
 refine hJ3 _ ?_
 refine cond_k (b := a0) rfl (fun c4 => ?_) (fun c4 => ?_)
 ·rw [if_pos c4] at h
  refine sr_k fun J5 hJ5 => ?_
  simp +decide only [Nat.reduceAdd, Nat.reduceMul, Int.reduceToNat, ak]
  refine hJ5 _ ?_
  obtain rfl := Option.some.inj h
  refine hKr _ ⟨_, rfl, [], _, rfl, rfl, ?_⟩
  exact cl
 ·rw [if_neg (Bool.eq_false_iff.1 c4)] at h
  refine hJ2 _ ?_
  refine sr_k fun J6 hJ6 => ?_
  simp +decide only [Nat.reduceAdd, Nat.reduceMul, Int.reduceToNat, ak]
  refine hJ6 _ ?_
  obtain rfl := Option.some.inj h
  refine hKr _ ⟨_, rfl, [], _, rfl, rfl, ?_⟩
  exact cl
/-! ### impl.RecvRun: function 32 -/
def C32_l0 : AC := .sr [.o (.bin 18 .lss (.t 17) (.t 16)), .keep [6, 7, 15, 16, 17, 18]] (.seq (.cond (.t 18) (.skip) (.gh (.exit 0))) (.seq (.block 1 (.sr [.ia 19 1 15 17, .ld 20 1 19, .m 9 20, .keep [6, 7, 9, 15, 16, 17]] (.sr [.m 21 9, .m 22 7, .o (.bin 23 .eql (.t 21) (.t 22)), .m 10 23, .keep [6, 7, 10, 15, 16, 17]] (.seq (.ga (.sr [.m 24 10, .keep [6, 7, 10, 15, 16, 17, 24]] (.cond (.t 24) (.reg [.m 25 7, .o (.bin 26 .add (.t 25) (.const (.int .u32 1))), .m 7 26, .keep [6, 7, 10, 15, 16, 17]]) (.skip)))) (.reg [.m 27 6, .m 28 10, .call none (some 29) 88 [.tmp 28], .m 30 7, .o (.build 31 [.int .i64 0, .int .u32 0] [(0, 1, .tmp 29), (1, 1, .tmp 30)]), .o (.bslice 32 2 [.int .i64 0, .int .u32 0] 1 [(0, .tmp 31)]), .o (.app 33 2 16 true (.t 27) (.t 32)), .m 6 33, .keep [6, 7, 15, 16, 17]]))))) (.reg [.o (.bin 34 .add (.t 17) (.k 1)), .m 17 34, .keep [6, 7, 15, 16, 17]])))
def C32 : AC := .sr [.o (.mv 4 (.const (.slice none 0 0))), .gh, .o (.mv 5 (.k 0)), .keep [0, 1]] (.seq (.sr [.m 11 1, .ln 12 11, .o (.bin 13 .gtr (.t 12) (.k 4000)), .keep [0, 1, 13]] (.cond (.t 13) (.sr [.o (.mv 4 (.const (.slice none 0 0))), .gh, .o (.mv 5 (.k 5)), .keep [4, 5]] (.ret)) (.skip))) (.sr [.o (.mv 6 (.const (.slice none 0 0))), .gh, .keep [0, 1, 6]] (.sr [.m 14 0, .m 7 14, .keep [1, 6, 7]] (.seq (.sr [.m 15 1, .ln 16 15, .o (.mv 17 (.k 0)), .keep [6, 7, 15, 16, 17]] (.block 0 (.gh (.loop (.ga C32_l0))))) (.sr [.m 35 6, .m 4 35, .o (.mv 5 (.k 0)), .keep [4, 5]] (.ret))))))
def r32 : List RV := [.tmp 4, .tmp 5]
theorem k32 : compC Try.prog 36 C32 (Try.f32.body.getD .skip) = some C32.erase := by kernel_rfl
theorem q32 : rvsOf Try.prog Try.f32.results.toList = some r32 := by kernel_rfl
def impl_RecvRun.l0 (l1 : List Int) (x0_1 : Int) (x0_0 : Int) (x0_2 : Int) (x0_3 : (List S74)) : Option (List S74) := (if x0_2 < x0_1 then (if 0 ≤ x0_2 ∧ x0_2 < (l1.length : Int) then ((if (rd 0 l1 x0_2) = x0_0 then (some (IntKind.u32.wrap (x0_0 + 1))) else (some x0_0)) >>= fun (j22 : Int) => (impl_mark.f (decide ((rd 0 l1 x0_2) = x0_0)) >>= fun t28 => (if (x0_3.length + 1) * 16 ≤ 140737488355328 then (impl_RecvRun.l0 l1 x0_1 j22 (IntKind.i64.wrap (x0_2 + 1)) (x0_3 ++ ([(⟨t28, j22⟩ : S74)] : List S74))) else none))) else none) else (some x0_3))
 partial_fixpoint
def impl_RecvRun.f (a0 : Int) (l1 : List Int) : Option ((List S74) × Int) := (if (l1.length : Int) > 4000 then (some (([] : List S74), 5)) else (impl_RecvRun.l0 l1 (l1.length : Int) a0 0 ([] : List S74) >>= fun (y40 : (List S74)) => (some (y40, 0))))
def impl_RecvRun.l0_M (cs0 : List Cell) (o0 : Nat) (l1 : List Int) (hv0 : Vw c_u32 1 cs0 o0 l1) (x0_1 : Int) (x0_0 : Int) (x0_2 : Int) (x0_3 : (List S74)) (y : (List S74)) : Prop := ∀ (K : AE → St → Prop), (K (.exit 0) ⟨[(6, .c (.ref (.tmp 6 20) [] 0 y.length))], [(.arg 0, ⟨.fz, 1, cs0⟩), (.tmp 6 20, ⟨.lst, 2, encL c74 y⟩)], [], []⟩) → loopS Try.prog 36 (.ga C32_l0) K ⟨[(6, .c (.ref (.tmp 6 20) [] 0 x0_3.length)), (7, .c (.sc (.int .u32 x0_0))), (15, .c (.ref (.arg 0) [] o0 l1.length)), (16, .c (.sc (.int .i64 x0_1))), (17, .c (.sc (.int .i64 x0_2)))], [(.arg 0, ⟨.fz, 1, cs0⟩), (.tmp 6 20, ⟨.lst, 2, encL c74 x0_3⟩)], [], []⟩
theorem impl_RecvRun.l0_walk (cs0 : List Cell) (o0 : Nat) (l1 : List Int) (hv0 : Vw c_u32 1 cs0 o0 l1) (x0_1 : Int) (x0_0 : Int) (x0_2 : Int) (x0_3 : (List S74)) (y : (List S74)) (h : impl_RecvRun.l0 l1 x0_1 x0_0 x0_2 x0_3 = some y) : impl_RecvRun.l0_M cs0 o0 l1 hv0 x0_1 x0_0 x0_2 x0_3 y := by
 refine impl_RecvRun.l0.partial_correctness l1 x0_1 (motive := fun x0_0 x0_2 x0_3 y => impl_RecvRun.l0_M cs0 o0 l1 hv0 x0_1 x0_0 x0_2 x0_3 y) ?_ x0_0 x0_2 x0_3 y h
 clear h
 unfold impl_RecvRun.l0_M
 intro rec ih x0_0 x0_2 x0_3 y h K hx0
 refine loop_unroll (ga_k fun G0 G0n G0r G0x => ?_)
 unfold C32_l0
 refine sr_k fun J11 hJ11 => ?_
 simp +decide only [Nat.reduceAdd, Nat.reduceMul, Int.reduceToNat, ak]
 refine hJ11 _ ?_
 refine seq_k fun J12 hJ12 => ?_
 refine cond_k (b := decide (x0_2 < x0_1)) rfl (fun c15 => ?_) (fun c15 => ?_)
 ·replace c15 := of_decide_eq_true c15; rw [if_pos c15] at h
  refine hJ12 _ ?_
  refine seq_k fun J16 hJ16 => ?_
  refine block_k fun B17 B17n B17x B17r B17j => ?_
  refine sr_k fun J18 hJ18 => ?_
  obtain ⟨b19, h⟩ := of_guard h
  have g20 : (cs0)[o0 + x0_2.toNat * 1]? = some (.sc (.int .u32 (rd 0 l1 x0_2))) := hv0.get 0 0 b19.1 b19.2 (by decide)
  simp +decide only [Nat.reduceAdd, Nat.reduceMul, Int.reduceToNat, ak, b19, g20]
  refine hJ18 _ ?_
  refine sr_k fun J21 hJ21 => ?_
  simp +decide only [Nat.reduceAdd, Nat.reduceMul, Int.reduceToNat, ak]
  refine hJ21 _ ?_
  obtain ⟨j22, h23, hn⟩ := of_bind h
  refine seq_j (fun st => st = ⟨[(6, .c (.ref (.tmp 6 20) [] 0 x0_3.length)), (7, .c (.sc (.int .u32 j22))), (10, .c (.sc (.bool (decide ((rd 0 l1 x0_2) = x0_0))))), (15, .c (.ref (.arg 0) [] o0 l1.length)), (16, .c (.sc (.int .i64 x0_1))), (17, .c (.sc (.int .i64 x0_2)))], [(.arg 0, ⟨.fz, 1, cs0⟩), (.tmp 6 20, ⟨.lst, 2, encL c74 x0_3⟩)], [], []⟩) (fun J24 hJ24 => ?_) ?_
  ·replace h := h23; clear hn
   refine ga_k fun G25 G25n G25r G25x => ?_
   refine sr_k fun J26 hJ26 => ?_
   simp +decide only [Nat.reduceAdd, Nat.reduceMul, Int.reduceToNat, ak]
   refine hJ26 _ ?_
   refine cond_k (b := decide ((rd 0 l1 x0_2) = x0_0)) rfl (fun c27 => ?_) (fun c27 => ?_)
   ·replace c27 := of_decide_eq_true c27; rw [if_pos c27] at h
    refine reg_k ?_
    simp +decide only [Nat.reduceAdd, Nat.reduceMul, Int.reduceToNat, ak]
    obtain rfl := Option.some.inj h
    refine G25n _ _ (wk [6, 7, 10, 15, 16, 17] [pI (.arg 0) .fz, pI (.tmp 6 20) .lst]) (hJ24 _ rfl)
   ·replace c27 := of_decide_eq_false c27; rw [if_neg c27] at h
    obtain rfl := Option.some.inj h
    refine G25n _ _ (wk [6, 7, 10, 15, 16, 17] [pI (.arg 0) .fz, pI (.tmp 6 20) .lst]) (hJ24 _ rfl)
  ·replace h := hn; clear hn h23
   rintro _ rfl
   refine reg_k ?_
   simp +decide only [Nat.reduceAdd, Nat.reduceMul, Int.reduceToNat, ak]
   obtain ⟨t28, h29, h⟩ := of_bind h
   refine cm [] (impl_mark.tri (decide ((rd 0 l1 x0_2) = x0_0)) _ h29) (fun hl29 => ?_)
   refine cs (mN ..) ?_ (s4 := [(.arg 0, ⟨.fz, 1, cs0⟩), (.tmp 6 20, ⟨.lst, 2, encL c74 x0_3⟩)])
   have g31 : (List.replicate 1 ([.int .i64 0, .int .u32 0] : List Value)).flatten = [.int .i64 0, .int .u32 0] := rfl
   have g32 : (⟨.lst, 2, [.sc (.int .i64 t28), .sc (.int .u32 j22)]⟩ : Root) = ⟨.lst, 2, encL c74 ([(⟨t28, j22⟩ : S74)] : List S74)⟩ := rfl
   have g33 : ([(⟨t28, j22⟩ : S74)] : List S74).length = 1 := rfl
   have g34 : (encL c74 ([(⟨t28, j22⟩ : S74)] : List S74)).length = 1 * 2 := by simp [encL_length c74_w]
   have g35 : (encL c74 ([(⟨t28, j22⟩ : S74)] : List S74)).all nd = true := rfl
   obtain ⟨b36, h⟩ := of_guard h
   have g37 : appLim x0_3.length 1 16 := ⟨b36, by have := b36; omega⟩
   have g38 : (encL c74 x0_3).length = x0_3.length * 2 := by simp [encL_length c74_w]
   have g39 : encL c74 x0_3 ++ encL c74 ([(⟨t28, j22⟩ : S74)] : List S74) = encL c74 (x0_3 ++ ([(⟨t28, j22⟩ : S74)] : List S74)) := (encL_append _ _).symm
   simp +decide only [Nat.reduceAdd, Nat.reduceMul, Int.reduceToNat, ak, g31, g32, g33, g34, g35, g37, g38, g39]
   refine B17n _ ?_
   refine hJ16 _ ?_
   refine reg_k ?_
   simp +decide only [Nat.reduceAdd, Nat.reduceMul, Int.reduceToNat, ak]
   refine G0n _ _ (wj [6, 7, 15, 16, 17] [pI (.arg 0) .fz, pI (.tmp 6 20) .lst]) (ih _ _ _ _ h K hx0)
 ·replace c15 := of_decide_eq_false c15; rw [if_neg c15] at h
  obtain rfl := Option.some.inj h
  refine gh_k (wk [6] [pI (.arg 0) .fz, pI (.tmp 6 20) .lst]) ?_
  refine G0x _ _ ?_
  exact hx0
theorem impl_RecvRun.tri (cs0 : List Cell) (o0 : Nat) (l1 : List Int) (hv0 : Vw c_u32 1 cs0 o0 l1) (a0 : Int) (r : (List S74) × Int) (h : impl_RecvRun.f a0 l1 = some r) : Tri Try.prog 32 [.c (.sc (.int .u32 a0)), .c (.ref (.arg 0) [] o0 l1.length)] [(.arg 0, ⟨.fz, 1, cs0⟩)] (fun o => o = ⟨.tup [(false, [.ref (.res 0) [] 0 r.1.length]), (false, [.sc (.int .i64 r.2)])], [(.arg 0, ⟨.fz, 1, cs0⟩), (.res 0, ⟨.lst, 2, encL c74 r.1⟩)], [], []⟩) := by
 refine tri_of_body (ac := C32) (xs := r32) Try.func32 (show Try.f32.body = some (Try.f32.body.getD .skip) from rfl) k32 q32 (Nat.le_of_ble_eq_true rfl) ?_
 refine body_of fun K hKn hKr => ?_
 unfold impl_RecvRun.f at h
 unfold C32
 simp only [initT, Nat.reduceAdd]
 refine sr_k fun J1 hJ1 => ?_
 simp +decide only [Nat.reduceAdd, Nat.reduceMul, Int.reduceToNat, ak]
 refine gho_k (Weak.nm' 4 (.tmp 4 20) 2 (encL c74 ([] : List S74)) rfl rfl rfl) ?_
 simp +decide only [Nat.reduceAdd, Nat.reduceMul, Int.reduceToNat, ak]
 refine hJ1 _ ?_
 refine seq_k fun J2 hJ2 => ?_
 refine sr_k fun J3 hJ3 => ?_
 simp +decide only [Nat.reduceAdd, Nat.reduceMul, Int.reduceToNat, ak]
 refine hJ3 _ ?_
 refine cond_k (b := decide ((l1.length : Int) > 4000)) rfl (fun c4 => ?_) (fun c4 => ?_)
 ·replace c4 := of_decide_eq_true c4; rw [if_pos c4] at h
  refine sr_k fun J5 hJ5 => ?_
  simp +decide only [Nat.reduceAdd, Nat.reduceMul, Int.reduceToNat, ak]
  refine gho_k ((Weak.drop [.tmp 4 20]).trans (Weak.nm' 4 (.tmp 4 20) 2 (encL c74 ([] : List S74)) rfl rfl rfl)) ?_
  simp +decide only [Nat.reduceAdd, Nat.reduceMul, Int.reduceToNat, ak]
  refine hJ5 _ ?_
  obtain rfl := Option.some.inj h
  refine hKr _ ⟨_, rfl, [⟨(.tmp 4 20), [], none, .lst⟩], _, rfl, rfl, ?_⟩
  exact cl
 ·replace c4 := of_decide_eq_false c4; rw [if_neg c4] at h
  refine hJ2 _ ?_
  refine sr_k fun J6 hJ6 => ?_
  simp +decide only [Nat.reduceAdd, Nat.reduceMul, Int.reduceToNat, ak]
  refine gho_k (Weak.nm' 6 (.tmp 6 20) 2 (encL c74 ([] : List S74)) rfl rfl rfl) ?_
  simp +decide only [Nat.reduceAdd, Nat.reduceMul, Int.reduceToNat, ak]
  refine hJ6 _ ?_
  refine sr_k fun J7 hJ7 => ?_
  simp +decide only [Nat.reduceAdd, Nat.reduceMul, Int.reduceToNat, ak]
  refine hJ7 _ ?_
  refine seq_k fun J8 hJ8 => ?_
  refine sr_k fun J9 hJ9 => ?_
  simp +decide only [Nat.reduceAdd, Nat.reduceMul, Int.reduceToNat, ak]
  refine hJ9 _ ?_
  refine block_k fun B10 B10n B10x B10r B10j => ?_
  obtain ⟨y40, h41, h⟩ := of_bind h
  refine gh_k (st' := ⟨[(6, .c (.ref (.tmp 6 20) [] 0 (([] : List S74).length))), (7, .c (.sc (.int .u32 a0))), (15, .c (.ref (.arg 0) [] o0 l1.length)), (16, .c (.sc (.int .i64 (l1.length : Int)))), (17, .c (.sc (.int .i64 0)))], [(.arg 0, ⟨.fz, 1, cs0⟩), (.tmp 6 20, ⟨.lst, 2, encL c74 ([] : List S74)⟩)], [], []⟩) (wk [6, 7, 15, 16, 17] [pI (.arg 0) .fz, pI (.tmp 6 20) .lst] (h := by first | rfl | (simp +decide only [ak, akF]; done) | (simp +decide [ak, akF] <;> omega))) ?_
  rw [e_loop]
  refine impl_RecvRun.l0_walk cs0 o0 l1 hv0 (l1.length : Int) a0 0 ([] : List S74) _ h41 _ ?_
  refine B10x _ ?_
  refine hJ8 _ ?_
  refine sr_k fun J42 hJ42 => ?_
  simp +decide only [Nat.reduceAdd, Nat.reduceMul, Int.reduceToNat, ak]
  refine hJ42 _ ?_
  obtain rfl := Option.some.inj h
  refine hKr _ ⟨_, rfl, [⟨(.tmp 6 20), [], none, .lst⟩], _, rfl, rfl, ?_⟩
  exact cl
/-! ### (*impl.sender).view: function 89 -/
def C89 : AC := .sr [.o (.alloc 2 [.int .u32 0, .int .u32 0, .slice none 0 0, .int .i64 0, .int .i64 0, .int .i64 0, .int .i64 0, .int .i64 0]), .gh, .keep [0, 2]] (.seq (.regD (.f (.m 3 0) (.f (.o (.nilc 4 (.t 3))) (.f (.fa 5 6 4) (.f (.m 7 0) (.f (.m 9 0) (.f (.o (.nilc 10 (.t 9))) (.f (.fa 11 7 10) (.f (.m 14 0) (.f (.o (.nilc 15 (.t 14))) (.f (.fa 16 8 15) (.f (.m 18 0) (.f (.o (.nilc 19 (.t 18))) (.f (.fa 20 9 19) (.f (.m 22 0) (.f (.o (.nilc 23 (.t 22))) (.f (.fa 24 10 23) (.f (.m 26 0) (.f (.o (.nilc 27 (.t 26))) (.f (.fa 28 11 27) (.f (.m 30 0) (.f (.o (.nilc 31 (.t 30))) (.f (.fa 32 12 31) (.pin [33, 32] (.ld 6 1 5) (.pin [33, 32, 31, 10] (.ld 12 1 11) (.pin [33, 32] (.ld 17 1 16) (.pin [33, 32] (.ld 21 1 20) (.pin [33, 32] (.ld 25 1 24) (.pin [33, 32] (.ld 29 1 28) (.pin [33, 32, 31] (.ld 33 1 32) (.alt (.call none (some 8) 134 [.tmp 7]) none (.alt (.o (.app 13 1 8 false (.const (.slice none 0 0)) (.t 12))) (some 10) (.alt (.call none (some 34) 88 [.tmp 33]) (some 31) (.pin [33] (.o (.build 35 [.int .u32 0, .int .u32 0, .slice none 0 0, .int .i64 0, .int .i64 0, .int .i64 0, .int .i64 0, .int .i64 0] [(0, 1, .tmp 6), (1, 1, .tmp 8), (2, 1, .tmp 13), (3, 1, .tmp 17), (4, 1, .tmp 21), (5, 1, .tmp 25), (6, 1, .tmp 29), (7, 1, .tmp 34)])) (.gh (.alt (.st 8 2 35) (some 33) (.done) (.stop)))) (.stop)) (.stop)) (.stop))))))))))))))))))))))))))))))) [2]) (.ret))
def r89 : List RV := [.cell 2 true 8]
theorem k89 : compC Try.prog 36 C89 (Try.f89.body.getD .skip) = some C89.erase := by kernel_rfl
theorem q89 : rvsOf Try.prog Try.f89.results.toList = some r89 := by kernel_rfl
def impl_sender_view.f (a0_0 : Int) (a0_1 : Int) (a0_2 : Int) (a0_3 : Int) (a0_4 : Int) (a0_5 : Int) (a0_6 : Int) (l0_7 : List Int) (a0_8 : Int) (a0_9 : Int) (a0_10 : Int) (a0_11 : Int) (a0_12 : Bool) : Option (Int × Int × (List Int) × Int × Int × Int × Int × Int) := (impl_sender_next.f a0_0 a0_1 a0_2 a0_3 a0_4 a0_5 a0_6 l0_7 a0_8 a0_9 a0_10 a0_11 a0_12 >>= fun t3 => (if (0 + l0_7.length) * 8 ≤ 140737488355328 then (impl_mark.f a0_12 >>= fun t10 => (some (a0_6, t3, l0_7, a0_8, a0_9, a0_10, a0_11, t10))) else none))
theorem impl_sender_view.tri (a0_0 : Int) (a0_1 : Int) (a0_2 : Int) (a0_3 : Int) (a0_4 : Int) (a0_5 : Int) (a0_6 : Int) (l0_7 : List Int) (a0_8 : Int) (a0_9 : Int) (a0_10 : Int) (a0_11 : Int) (a0_12 : Bool) (r : Int × Int × (List Int) × Int × Int × Int × Int × Int) (h : impl_sender_view.f a0_0 a0_1 a0_2 a0_3 a0_4 a0_5 a0_6 l0_7 a0_8 a0_9 a0_10 a0_11 a0_12 = some r) : Tri Try.prog 89 [.c (.ptr (.arg 0) [] 0)] [(.arg 0, ⟨.box, 0, [.sc (.int .u32 a0_0), .sc (.int .i64 a0_1), .sc (.int .i64 a0_2), .sc (.int .i64 a0_3), .sc (.int .i64 a0_4), .sc (.int .i64 a0_5), .sc (.int .u32 a0_6), .own 1 l0_7.length (encL c_i64 l0_7), .sc (.int .i64 a0_8), .sc (.int .i64 a0_9), .sc (.int .i64 a0_10), .sc (.int .i64 a0_11), .sc (.bool a0_12)]⟩)] (fun o => o = ⟨.g [.sc (.int .u32 r.1), .sc (.int .u32 r.2.1), .ref (.res 0) [] 0 r.2.2.1.length, .sc (.int .i64 r.2.2.2.1), .sc (.int .i64 r.2.2.2.2.1), .sc (.int .i64 r.2.2.2.2.2.1), .sc (.int .i64 r.2.2.2.2.2.2.1), .sc (.int .i64 r.2.2.2.2.2.2.2)], [(.arg 0, ⟨.box, 0, [.sc (.int .u32 a0_0), .sc (.int .i64 a0_1), .sc (.int .i64 a0_2), .sc (.int .i64 a0_3), .sc (.int .i64 a0_4), .sc (.int .i64 a0_5), .sc (.int .u32 a0_6), .own 1 l0_7.length (encL c_i64 l0_7), .sc (.int .i64 a0_8), .sc (.int .i64 a0_9), .sc (.int .i64 a0_10), .sc (.int .i64 a0_11), .sc (.bool a0_12)]⟩), (.res 0, ⟨.lst, 1, encL c_i64 r.2.2.1⟩)], [], []⟩) := by
 refine tri_of_body (ac := C89) (xs := r89) Try.func89 (show Try.f89.body = some (Try.f89.body.getD .skip) from rfl) k89 q89 (Nat.le_of_ble_eq_true rfl) ?_
 refine body_of fun K hKn hKr => ?_
 unfold impl_sender_view.f at h
 unfold C89
 simp only [initT, Nat.reduceAdd]
 refine sr_k fun J1 hJ1 => ?_
 simp +decide only [Nat.reduceAdd, Nat.reduceMul, Int.reduceToNat, ak]
 refine gho_k (Weak.own (.tmp 2 0) (cs' := [.sc (.int .u32 0), .sc (.int .u32 0), .own 1 (([] : List Int).length) (encL c_i64 ([] : List Int)), .sc (.int .i64 0), .sc (.int .i64 0), .sc (.int .i64 0), .sc (.int .i64 0), .sc (.int .i64 0)]) rfl ⟨.inl rfl, .inl rfl, .inr ⟨rfl, _, rfl⟩, .inl rfl, .inl rfl, .inl rfl, .inl rfl, .inl rfl, trivial⟩) ?_
 simp +decide only [Nat.reduceAdd, Nat.reduceMul, Int.reduceToNat, ak]
 refine hJ1 _ ?_
 refine sd_k fun J2 hJ2 => ?_
 simp +decide only [Nat.reduceAdd, Nat.reduceMul, Int.reduceToNat, ak]
 obtain ⟨t3, h4, h⟩ := of_bind h
 obtain ⟨b8, h⟩ := of_guard h
 obtain ⟨t10, h11, h⟩ := of_bind h
 refine alt_e ?_
 ·simp +decide only [Nat.reduceAdd, Nat.reduceMul, Int.reduceToNat, ak]
  refine cm [pI (.arg 0) .box] (impl_sender_next.tri a0_0 a0_1 a0_2 a0_3 a0_4 a0_5 a0_6 l0_7 a0_8 a0_9 a0_10 a0_11 a0_12 _ h4) (fun hl26 => ?_)
  refine cs (mW [.sc (.int .u32 a0_0), .sc (.int .i64 a0_1), .sc (.int .i64 a0_2), .sc (.int .i64 a0_3), .sc (.int .i64 a0_4), .sc (.int .i64 a0_5), .sc (.int .u32 a0_6), .own 1 l0_7.length (encL c_i64 l0_7), .sc (.int .i64 a0_8), .sc (.int .i64 a0_9), .sc (.int .i64 a0_10), .sc (.int .i64 a0_11), .sc (.bool a0_12)] (mN ..)) ?_ (s4 := [(.arg 0, ⟨.box, 0, [.sc (.int .u32 a0_0), .sc (.int .i64 a0_1), .sc (.int .i64 a0_2), .sc (.int .i64 a0_3), .sc (.int .i64 a0_4), .sc (.int .i64 a0_5), .sc (.int .u32 a0_6), .own 1 l0_7.length (encL c_i64 l0_7), .sc (.int .i64 a0_8), .sc (.int .i64 a0_9), .sc (.int .i64 a0_10), .sc (.int .i64 a0_11), .sc (.bool a0_12)]⟩), (.tmp 2 0, ⟨.box, 0, [.sc (.int .u32 0), .sc (.int .u32 0), .own 1 (([] : List Int).length) (encL c_i64 ([] : List Int)), .sc (.int .i64 0), .sc (.int .i64 0), .sc (.int .i64 0), .sc (.int .i64 0), .sc (.int .i64 0)]⟩)])
  simp +decide only [Nat.reduceAdd, Nat.reduceMul, Int.reduceToNat, ak]
  refine alt_e ?_
  ·have g37 : (encL c_i64 l0_7).take (l0_7.length * 1) = encL c_i64 l0_7 := by simpa using (Vw.whole c_i64_w l0_7).all
   have g38 : (encL c_i64 l0_7).all isSc = true := encL_all (fun _ => rfl) _
   have g39 : appLim 0 l0_7.length 8 := ⟨b8, by have := b8; omega⟩
   simp +decide only [Nat.reduceAdd, Nat.reduceMul, Int.reduceToNat, ak, g37, g38, g39]
   refine alt_e ?_
   ·simp +decide only [Nat.reduceAdd, Nat.reduceMul, Int.reduceToNat, ak]
    refine cm [] (impl_mark.tri a0_12 _ h11) (fun hl42 => ?_)
    refine cs (mN ..) ?_ (s4 := [(.arg 0, ⟨.box, 0, [.sc (.int .u32 a0_0), .sc (.int .i64 a0_1), .sc (.int .i64 a0_2), .sc (.int .i64 a0_3), .sc (.int .i64 a0_4), .sc (.int .i64 a0_5), .sc (.int .u32 a0_6), .own 1 l0_7.length (encL c_i64 l0_7), .sc (.int .i64 a0_8), .sc (.int .i64 a0_9), .sc (.int .i64 a0_10), .sc (.int .i64 a0_11), .sc (.bool a0_12)]⟩), (.tmp 2 0, ⟨.box, 0, [.sc (.int .u32 0), .sc (.int .u32 0), .own 1 (([] : List Int).length) (encL c_i64 ([] : List Int)), .sc (.int .i64 0), .sc (.int .i64 0), .sc (.int .i64 0), .sc (.int .i64 0), .sc (.int .i64 0)]⟩), (.tmp 13 0, ⟨.lst, 1, encL c_i64 l0_7⟩)])
    simp +decide only [Nat.reduceAdd, Nat.reduceMul, Int.reduceToNat, ak]
    refine ghp_k (Weak.refl _ _) ?_
    try simp +decide only [Nat.reduceAdd, Nat.reduceMul, Int.reduceToNat, ak]
    refine alt_e ?_
    ·have g45 : (encL c_i64 l0_7).length = (0 + l0_7.length) * 1 := by simp [encL_length c_i64_w]
     simp +decide only [Nat.reduceAdd, Nat.reduceMul, Int.reduceToNat, ak, g45]
     refine hJ2 _ ?_
     obtain rfl := Option.some.inj h
     refine hKr _ ⟨_, rfl, [⟨(.tmp 2 0), [2], none, .lst⟩], _, rfl, rfl, ?_⟩
     exact cl
/-! ### impl.SubState: function 33 -/
def C33 : AC := .sr [.o (.box 2 (.t 0)), .o (.alloc 4 [.int .u32 0, .int .u32 0, .slice none 0 0, .int .i64 0, .int .i64 0, .int .i64 0, .int .i64 0, .int .i64 0]), .gh, .o (.mv 5 (.k 0)), .keep [1, 2, 4]] (.sr [.o (.load 10 true 6 (.t 2)), .m 11 1, .call none (some 12) 87 [.tmp 10, .tmp 11], .m 9 12, .o (.extr 13 (.t 9) 0), .o (.extr 14 (.t 9) 1), .o (.extr 15 (.t 9) 2), .m 6 13, .m 7 14, .m 8 15, .keep [4, 6, 8]] (.seq (.sr [.m 16 8, .o (.bin 17 .neq (.t 16) (.k 0)), .keep [4, 6, 8, 17]] (.cond (.t 17) (.sr [.o (.build 18 [.int .u32 0, .int .u32 0, .slice none 0 0, .int .i64 0, .int .i64 0, .int .i64 0, .int .i64 0, .int .i64 0] []), .gh, .m 19 8, .st 8 4 18, .m 5 19, .keep [4, 5]] (.ret)) (.skip))) (.sr [.m 20 6, .call none (some 21) 89 [.tmp 20], .st 8 4 21, .o (.mv 5 (.k 0)), .keep [4, 5]] (.ret))))
def r33 : List RV := [.cell 4 true 8, .tmp 5]
theorem k33 : compC Try.prog 22 C33 (Try.f33.body.getD .skip) = some C33.erase := by kernel_rfl
theorem q33 : rvsOf Try.prog Try.f33.results.toList = some r33 := by kernel_rfl
def impl_SubState.f (a0_0 : Int) (a0_1 : Int) (a0_2 : Int) (a0_3 : Int) (a0_4 : Int) (a0_5 : Int) (l1 : List S63) : Option (Int × Int × (List Int) × Int × Int × Int × Int × Int × Int) := (impl_subAfter.f a0_0 a0_1 a0_2 a0_3 a0_4 a0_5 l1 >>= fun t3 => (match t3.1 with | none => (if t3.2.2 ≠ 0 then (some (0, 0, ([] : List Int), 0, 0, 0, 0, 0, t3.2.2)) else none) | some p7 => (if t3.2.2 ≠ 0 then (some (0, 0, ([] : List Int), 0, 0, 0, 0, 0, t3.2.2)) else (impl_sender_view.f p7.1 p7.2.1 p7.2.2.1 p7.2.2.2.1 p7.2.2.2.2.1 p7.2.2.2.2.2.1 p7.2.2.2.2.2.2.1 p7.2.2.2.2.2.2.2.1 p7.2.2.2.2.2.2.2.2.1 p7.2.2.2.2.2.2.2.2.2.1 p7.2.2.2.2.2.2.2.2.2.2.1 p7.2.2.2.2.2.2.2.2.2.2.2.1 p7.2.2.2.2.2.2.2.2.2.2.2.2 >>= fun t21 => (some (t21.1, t21.2.1, t21.2.2.1, t21.2.2.2.1, t21.2.2.2.2.1, t21.2.2.2.2.2.1, t21.2.2.2.2.2.2.1, t21.2.2.2.2.2.2.2, 0))))))
theorem impl_SubState.tri (cs0 : List Cell) (o0 : Nat) (l1 : List S63) (hv0 : Vw c63 3 cs0 o0 l1) (a0_0 : Int) (a0_1 : Int) (a0_2 : Int) (a0_3 : Int) (a0_4 : Int) (a0_5 : Int) (r : Int × Int × (List Int) × Int × Int × Int × Int × Int × Int) (h : impl_SubState.f a0_0 a0_1 a0_2 a0_3 a0_4 a0_5 l1 = some r) : Tri Try.prog 33 [.g [.sc (.int .u32 a0_0), .sc (.int .i64 a0_1), .sc (.int .i64 a0_2), .sc (.int .i64 a0_3), .sc (.int .i64 a0_4), .sc (.int .i64 a0_5)], .c (.ref (.arg 0) [] o0 l1.length)] [(.arg 0, ⟨.fz, 3, cs0⟩)] (fun o => o = ⟨.tup [(true, [.sc (.int .u32 r.1), .sc (.int .u32 r.2.1), .ref (.res 0) [] 0 r.2.2.1.length, .sc (.int .i64 r.2.2.2.1), .sc (.int .i64 r.2.2.2.2.1), .sc (.int .i64 r.2.2.2.2.2.1), .sc (.int .i64 r.2.2.2.2.2.2.1), .sc (.int .i64 r.2.2.2.2.2.2.2.1)]), (false, [.sc (.int .i64 r.2.2.2.2.2.2.2.2)])], [(.arg 0, ⟨.fz, 3, cs0⟩), (.res 0, ⟨.lst, 1, encL c_i64 r.2.2.1⟩)], [], []⟩) := by
 refine tri_of_body (ac := C33) (xs := r33) Try.func33 (show Try.f33.body = some (Try.f33.body.getD .skip) from rfl) k33 q33 (Nat.le_of_ble_eq_true rfl) ?_
 refine body_of fun K hKn hKr => ?_
 unfold impl_SubState.f at h
 unfold C33
 simp only [initT, Nat.reduceAdd]
 refine sr_k fun J1 hJ1 => ?_
 simp +decide only [Nat.reduceAdd, Nat.reduceMul, Int.reduceToNat, ak]
 refine gho_k (Weak.own (.tmp 4 0) (cs' := [.sc (.int .u32 0), .sc (.int .u32 0), .own 1 (([] : List Int).length) (encL c_i64 ([] : List Int)), .sc (.int .i64 0), .sc (.int .i64 0), .sc (.int .i64 0), .sc (.int .i64 0), .sc (.int .i64 0)]) rfl ⟨.inl rfl, .inl rfl, .inr ⟨rfl, _, rfl⟩, .inl rfl, .inl rfl, .inl rfl, .inl rfl, .inl rfl, trivial⟩) ?_
 simp +decide only [Nat.reduceAdd, Nat.reduceMul, Int.reduceToNat, ak]
 refine hJ1 _ ?_
 refine sr_k fun J2 hJ2 => ?_
 simp +decide only [Nat.reduceAdd, Nat.reduceMul, Int.reduceToNat, ak]
 obtain ⟨t3, h4, h⟩ := of_bind h
 rcases hpo : t3.1 with _ | p7
 ·have hpp5 := hpo
  rw [hpo] at h; dsimp only at h
  refine cm [pI (.arg 0) .fz] (impl_subAfter.tri0 (cs0) o0 l1 hv0 a0_0 a0_1 a0_2 a0_3 a0_4 a0_5 _ h4 hpp5) (fun hl5 => ?_)
  refine ct (.tup [(false, [.sc (.pointer none)]), (false, [.ref (.tmp 12 0) [] 0 t3.2.1.length]), (false, [.sc (.int .i64 t3.2.2)])]) (mF (mN ..)) ?_ (s4 := [(.arg 0, ⟨.fz, 3, cs0⟩), (.tmp 2 0, ⟨.box, 0, [.sc (.int .u32 a0_0), .sc (.int .i64 a0_1), .sc (.int .i64 a0_2), .sc (.int .i64 a0_3), .sc (.int .i64 a0_4), .sc (.int .i64 a0_5)]⟩), (.tmp 4 0, ⟨.box, 0, [.sc (.int .u32 0), .sc (.int .u32 0), .own 1 (([] : List Int).length) (encL c_i64 ([] : List Int)), .sc (.int .i64 0), .sc (.int .i64 0), .sc (.int .i64 0), .sc (.int .i64 0), .sc (.int .i64 0)]⟩), (.tmp 12 0, ⟨.lst, 5, encL c66 t3.2.1⟩)])
  simp +decide only [Nat.reduceAdd, Nat.reduceMul, Int.reduceToNat, ak]
  refine hJ2 _ ?_
  refine seq_k fun J9 hJ9 => ?_
  refine sr_k fun J10 hJ10 => ?_
  simp +decide only [Nat.reduceAdd, Nat.reduceMul, Int.reduceToNat, ak]
  refine hJ10 _ ?_
  refine cond_k (b := decide (t3.2.2 ≠ 0)) rfl (fun c11 => ?_) (fun c11 => ?_)
  ·replace c11 := of_decide_eq_true c11; rw [if_pos c11] at h
   refine sr_k fun J12 hJ12 => ?_
   simp +decide only [Nat.reduceAdd, Nat.reduceMul, Int.reduceToNat, ak]
   refine gho_k (Weak.nmg' 18 2 (.tmp 18 22) 1 (encL c_i64 ([] : List Int)) rfl rfl rfl rfl) ?_
   have g13 : (encL c_i64 ([] : List Int)).length = 0 * 1 := by simp [encL_length c_i64_w]
   simp +decide only [Nat.reduceAdd, Nat.reduceMul, Int.reduceToNat, ak, g13]
   refine hJ12 _ ?_
   obtain rfl := Option.some.inj h
   refine hKr _ ⟨_, rfl, [⟨(.tmp 4 0), [2], none, .lst⟩], _, rfl, rfl, ?_⟩
   exact cl
  ·replace c11 := of_decide_eq_false c11; rw [if_neg c11] at h
   refine hJ9 _ ?_
   refine sr_k fun J14 hJ14 => ?_
   simp +decide only [Nat.reduceAdd, Nat.reduceMul, Int.reduceToNat, ak]
   cases h
 ·have hpp7 := hpo
  rw [hpo] at h; dsimp only at h
  refine cm [pI (.arg 0) .fz] (impl_subAfter.tri1 (cs0) o0 l1 hv0 a0_0 a0_1 a0_2 a0_3 a0_4 a0_5 _ h4 _ hpp7) (fun hl7 => ?_)
  refine ct (.tup [(false, [.ptr (.tmp 12 0) [] 0]), (false, [.ref (.tmp 12 1) [] 0 t3.2.1.length]), (false, [.sc (.int .i64 t3.2.2)])]) (mF (mN ..)) ?_ (s4 := [(.arg 0, ⟨.fz, 3, cs0⟩), (.tmp 2 0, ⟨.box, 0, [.sc (.int .u32 a0_0), .sc (.int .i64 a0_1), .sc (.int .i64 a0_2), .sc (.int .i64 a0_3), .sc (.int .i64 a0_4), .sc (.int .i64 a0_5)]⟩), (.tmp 4 0, ⟨.box, 0, [.sc (.int .u32 0), .sc (.int .u32 0), .own 1 (([] : List Int).length) (encL c_i64 ([] : List Int)), .sc (.int .i64 0), .sc (.int .i64 0), .sc (.int .i64 0), .sc (.int .i64 0), .sc (.int .i64 0)]⟩), (.tmp 12 1, ⟨.lst, 5, encL c66 t3.2.1⟩), (.tmp 12 0, ⟨.box, 0, [.sc (.int .u32 p7.1), .sc (.int .i64 p7.2.1), .sc (.int .i64 p7.2.2.1), .sc (.int .i64 p7.2.2.2.1), .sc (.int .i64 p7.2.2.2.2.1), .sc (.int .i64 p7.2.2.2.2.2.1), .sc (.int .u32 p7.2.2.2.2.2.2.1), .own 1 p7.2.2.2.2.2.2.2.1.length (encL c_i64 p7.2.2.2.2.2.2.2.1), .sc (.int .i64 p7.2.2.2.2.2.2.2.2.1), .sc (.int .i64 p7.2.2.2.2.2.2.2.2.2.1), .sc (.int .i64 p7.2.2.2.2.2.2.2.2.2.2.1), .sc (.int .i64 p7.2.2.2.2.2.2.2.2.2.2.2.1), .sc (.bool p7.2.2.2.2.2.2.2.2.2.2.2.2)]⟩)])
  simp +decide only [Nat.reduceAdd, Nat.reduceMul, Int.reduceToNat, ak]
  refine hJ2 _ ?_
  refine seq_k fun J15 hJ15 => ?_
  refine sr_k fun J16 hJ16 => ?_
  simp +decide only [Nat.reduceAdd, Nat.reduceMul, Int.reduceToNat, ak]
  refine hJ16 _ ?_
  refine cond_k (b := decide (t3.2.2 ≠ 0)) rfl (fun c17 => ?_) (fun c17 => ?_)
  ·replace c17 := of_decide_eq_true c17; rw [if_pos c17] at h
   refine sr_k fun J18 hJ18 => ?_
   simp +decide only [Nat.reduceAdd, Nat.reduceMul, Int.reduceToNat, ak]
   refine gho_k (Weak.nmg' 18 2 (.tmp 18 22) 1 (encL c_i64 ([] : List Int)) rfl rfl rfl rfl) ?_
   have g19 : (encL c_i64 ([] : List Int)).length = 0 * 1 := by simp [encL_length c_i64_w]
   simp +decide only [Nat.reduceAdd, Nat.reduceMul, Int.reduceToNat, ak, g19]
   refine hJ18 _ ?_
   obtain rfl := Option.some.inj h
   refine hKr _ ⟨_, rfl, [⟨(.tmp 4 0), [2], none, .lst⟩], _, rfl, rfl, ?_⟩
   exact cl
  ·replace c17 := of_decide_eq_false c17; rw [if_neg c17] at h
   refine hJ15 _ ?_
   refine sr_k fun J20 hJ20 => ?_
   simp +decide only [Nat.reduceAdd, Nat.reduceMul, Int.reduceToNat, ak]
   obtain ⟨t21, h22, h⟩ := of_bind h
   refine cm [pN (.arg 0) (.tmp 12 0) .box] (impl_sender_view.tri p7.1 p7.2.1 p7.2.2.1 p7.2.2.2.1 p7.2.2.2.2.1 p7.2.2.2.2.2.1 p7.2.2.2.2.2.2.1 p7.2.2.2.2.2.2.2.1 p7.2.2.2.2.2.2.2.2.1 p7.2.2.2.2.2.2.2.2.2.1 p7.2.2.2.2.2.2.2.2.2.2.1 p7.2.2.2.2.2.2.2.2.2.2.2.1 p7.2.2.2.2.2.2.2.2.2.2.2.2 _ h22) (fun hl22 => ?_)
   refine ct (.g [.sc (.int .u32 t21.1), .sc (.int .u32 t21.2.1), .ref (.tmp 21 0) [] 0 t21.2.2.1.length, .sc (.int .i64 t21.2.2.2.1), .sc (.int .i64 t21.2.2.2.2.1), .sc (.int .i64 t21.2.2.2.2.2.1), .sc (.int .i64 t21.2.2.2.2.2.2.1), .sc (.int .i64 t21.2.2.2.2.2.2.2)]) (mW [.sc (.int .u32 p7.1), .sc (.int .i64 p7.2.1), .sc (.int .i64 p7.2.2.1), .sc (.int .i64 p7.2.2.2.1), .sc (.int .i64 p7.2.2.2.2.1), .sc (.int .i64 p7.2.2.2.2.2.1), .sc (.int .u32 p7.2.2.2.2.2.2.1), .own 1 p7.2.2.2.2.2.2.2.1.length (encL c_i64 p7.2.2.2.2.2.2.2.1), .sc (.int .i64 p7.2.2.2.2.2.2.2.2.1), .sc (.int .i64 p7.2.2.2.2.2.2.2.2.2.1), .sc (.int .i64 p7.2.2.2.2.2.2.2.2.2.2.1), .sc (.int .i64 p7.2.2.2.2.2.2.2.2.2.2.2.1), .sc (.bool p7.2.2.2.2.2.2.2.2.2.2.2.2)] (mN ..)) ?_ (s4 := [(.arg 0, ⟨.fz, 3, cs0⟩), (.tmp 2 0, ⟨.box, 0, [.sc (.int .u32 a0_0), .sc (.int .i64 a0_1), .sc (.int .i64 a0_2), .sc (.int .i64 a0_3), .sc (.int .i64 a0_4), .sc (.int .i64 a0_5)]⟩), (.tmp 4 0, ⟨.box, 0, [.sc (.int .u32 0), .sc (.int .u32 0), .own 1 (([] : List Int).length) (encL c_i64 ([] : List Int)), .sc (.int .i64 0), .sc (.int .i64 0), .sc (.int .i64 0), .sc (.int .i64 0), .sc (.int .i64 0)]⟩), (.tmp 12 1, ⟨.lst, 5, encL c66 t3.2.1⟩), (.tmp 12 0, ⟨.box, 0, [.sc (.int .u32 p7.1), .sc (.int .i64 p7.2.1), .sc (.int .i64 p7.2.2.1), .sc (.int .i64 p7.2.2.2.1), .sc (.int .i64 p7.2.2.2.2.1), .sc (.int .i64 p7.2.2.2.2.2.1), .sc (.int .u32 p7.2.2.2.2.2.2.1), .own 1 p7.2.2.2.2.2.2.2.1.length (encL c_i64 p7.2.2.2.2.2.2.2.1), .sc (.int .i64 p7.2.2.2.2.2.2.2.2.1), .sc (.int .i64 p7.2.2.2.2.2.2.2.2.2.1), .sc (.int .i64 p7.2.2.2.2.2.2.2.2.2.2.1), .sc (.int .i64 p7.2.2.2.2.2.2.2.2.2.2.2.1), .sc (.bool p7.2.2.2.2.2.2.2.2.2.2.2.2)]⟩), (.tmp 21 0, ⟨.lst, 1, encL c_i64 t21.2.2.1⟩)])
   have g24 : (encL c_i64 t21.2.2.1).length = t21.2.2.1.length * 1 := by simp [encL_length c_i64_w]
   simp +decide only [Nat.reduceAdd, Nat.reduceMul, Int.reduceToNat, ak, g24]
   refine hJ20 _ ?_
   obtain rfl := Option.some.inj h
   refine hKr _ ⟨_, rfl, [⟨(.tmp 4 0), [2], none, .lst⟩], _, rfl, rfl, ?_⟩
   exact cl
/-! ### laws.lNums: function 34 -/
def C34_l0 : AC := .seq (.sr [.m 11 5, .m 12 0, .ln 13 12, .o (.bin 14 .lss (.t 11) (.t 13)), .keep [0, 1, 5, 14]] (.cond (.t 14) (.skip) (.gh (.exit 0)))) (.seq (.block 1 (.seq (.regD (.f (.m 17 0) (.f (.m 18 5) (.f (.ia 19 1 17 18) (.f (.ld 20 1 19) (.f (.m 21 1) (.f (.m 22 5) (.f (.ia 23 1 21 22) (.f (.ld 24 1 23) (.f (.o (.bin 25 .neq (.t 20) (.t 24))) (.done)))))))))) [0, 1, 5, 25]) (.cond (.t 25) (.sr [.o (.mv 4 (.const (.bool false))), .keep [4]] (.gh .ret)) (.skip)))) (.reg [.m 15 5, .o (.bin 16 .add (.t 15) (.k 1)), .m 5 16, .keep [0, 1, 5]]))
def C34 : AC := .sr [.o (.mv 4 (.const (.bool false))), .keep [0, 1]] (.seq (.sr [.m 6 0, .ln 7 6, .m 8 1, .ln 9 8, .o (.bin 10 .neq (.t 7) (.t 9)), .keep [0, 1, 10]] (.cond (.t 10) (.sr [.o (.mv 4 (.const (.bool false))), .keep [4]] (.ret)) (.skip))) (.seq (.sr [.o (.mv 5 (.k 0)), .keep [0, 1, 5]] (.block 0 (.gh (.loop (.ga C34_l0))))) (.sr [.o (.mv 4 (.const (.bool true))), .keep [4]] (.ret))))
def r34 : List RV := [.tmp 4]
theorem k34 : compC Try.prog 26 C34 (Try.f34.body.getD .skip) = some C34.erase := by kernel_rfl
theorem q34 : rvsOf Try.prog Try.f34.results.toList = some r34 := by kernel_rfl
def laws_lNums.l0 (l0 : List Int) (l1 : List Int) (x0_0 : Int) : Option (Lp Unit Bool) := (if x0_0 < (l0.length : Int) then (if 0 ≤ x0_0 ∧ x0_0 < (l0.length : Int) then (if 0 ≤ x0_0 ∧ x0_0 < (l1.length : Int) then (if (rd 0 l0 x0_0) ≠ (rd 0 l1 x0_0) then (some (.b false)) else (laws_lNums.l0 l0 l1 (IntKind.i64.wrap (x0_0 + 1)))) else none) else none) else (some (.a ())))
 partial_fixpoint
def laws_lNums.f (l0 : List Int) (l1 : List Int) : Option Bool := (if (l0.length : Int) ≠ (l1.length : Int) then (some false) else (laws_lNums.l0 l0 l1 0 >>= fun (y22 : Lp Unit Bool) => match y22 with | .a x24 => (some true) | .b x24 => (some x24)))
def laws_lNums.l0_M (cs0 : List Cell) (o0 : Nat) (l0 : List Int) (hv0 : Vw c_i64 1 cs0 o0 l0) (cs1 : List Cell) (o1 : Nat) (l1 : List Int) (hv1 : Vw c_i64 1 cs1 o1 l1) (x0_0 : Int) (y : Lp Unit Bool) : Prop := ∀ (K : AE → St → Prop), (∀ x, y = .a x → K (.exit 0) ⟨[], [(.arg 0, ⟨.fz, 1, cs0⟩), (.arg 1, ⟨.fz, 1, cs1⟩)], [], []⟩) → (∀ x, y = .b x → K .ret ⟨[(4, .c (.sc (.bool x)))], [(.arg 0, ⟨.fz, 1, cs0⟩), (.arg 1, ⟨.fz, 1, cs1⟩)], [], []⟩) → loopS Try.prog 26 (.ga C34_l0) K ⟨[(0, .c (.ref (.arg 0) [] o0 l0.length)), (1, .c (.ref (.arg 1) [] o1 l1.length)), (5, .c (.sc (.int .i64 x0_0)))], [(.arg 0, ⟨.fz, 1, cs0⟩), (.arg 1, ⟨.fz, 1, cs1⟩)], [], []⟩
theorem laws_lNums.l0_walk (cs0 : List Cell) (o0 : Nat) (l0 : List Int) (hv0 : Vw c_i64 1 cs0 o0 l0) (cs1 : List Cell) (o1 : Nat) (l1 : List Int) (hv1 : Vw c_i64 1 cs1 o1 l1) (x0_0 : Int) (y : Lp Unit Bool) (h : laws_lNums.l0 l0 l1 x0_0 = some y) : laws_lNums.l0_M cs0 o0 l0 hv0 cs1 o1 l1 hv1 x0_0 y := by
 refine laws_lNums.l0.partial_correctness l0 l1 (motive := fun x0_0 y => laws_lNums.l0_M cs0 o0 l0 hv0 cs1 o1 l1 hv1 x0_0 y) ?_ x0_0 y h
 clear h
 unfold laws_lNums.l0_M
 intro rec ih x0_0 y h K hx0 hx1
 refine loop_unroll (ga_k fun G0 G0n G0r G0x => ?_)
 unfold C34_l0
 refine seq_k fun J9 hJ9 => ?_
 refine sr_k fun J10 hJ10 => ?_
 simp +decide only [Nat.reduceAdd, Nat.reduceMul, Int.reduceToNat, ak]
 refine hJ10 _ ?_
 refine cond_k (b := decide (x0_0 < (l0.length : Int))) rfl (fun c11 => ?_) (fun c11 => ?_)
 ·replace c11 := of_decide_eq_true c11; rw [if_pos c11] at h
  refine hJ9 _ ?_
  refine seq_k fun J12 hJ12 => ?_
  refine block_k fun B13 B13n B13x B13r B13j => ?_
  refine sd_k fun J14 hJ14 => ?_
  obtain ⟨b15, h⟩ := of_guard h
  have g16 : (cs0)[o0 + x0_0.toNat * 1]? = some (.sc (.int .i64 (rd 0 l0 x0_0))) := hv0.get 0 0 b15.1 b15.2 (by decide)
  obtain ⟨b17, h⟩ := of_guard h
  have g18 : (cs1)[o1 + x0_0.toNat * 1]? = some (.sc (.int .i64 (rd 0 l1 x0_0))) := hv1.get 0 0 b17.1 b17.2 (by decide)
  simp +decide only [Nat.reduceAdd, Nat.reduceMul, Int.reduceToNat, ak, b15, g16, b17, g18]
  refine hJ14 _ ?_
  refine cond_k (b := decide ((rd 0 l0 x0_0) ≠ (rd 0 l1 x0_0))) rfl (fun c20 => ?_) (fun c20 => ?_)
  ·replace c20 := of_decide_eq_true c20; rw [if_pos c20] at h
   refine sr_k fun J21 hJ21 => ?_
   simp +decide only [Nat.reduceAdd, Nat.reduceMul, Int.reduceToNat, ak]
   refine hJ21 _ ?_
   obtain rfl := Option.some.inj h
   refine gh_k (wk [4] [pI (.arg 0) .fz, pI (.arg 1) .fz]) ?_
   refine B13r _ ?_
   refine G0r _ ?_
   exact hx1 _ rfl
  ·replace c20 := of_decide_eq_false c20; rw [if_neg c20] at h
   refine B13n _ ?_
   refine hJ12 _ ?_
   refine reg_k ?_
   simp +decide only [Nat.reduceAdd, Nat.reduceMul, Int.reduceToNat, ak]
   refine G0n _ _ (wk [0, 1, 5] [pI (.arg 0) .fz, pI (.arg 1) .fz]) (ih _ _ h K hx0 hx1)
 ·replace c11 := of_decide_eq_false c11; rw [if_neg c11] at h
  obtain rfl := Option.some.inj h
  refine gh_k (wk [] [pI (.arg 0) .fz, pI (.arg 1) .fz]) ?_
  refine G0x _ _ ?_
  exact hx0 _ rfl
theorem laws_lNums.tri (cs0 : List Cell) (o0 : Nat) (l0 : List Int) (hv0 : Vw c_i64 1 cs0 o0 l0) (cs1 : List Cell) (o1 : Nat) (l1 : List Int) (hv1 : Vw c_i64 1 cs1 o1 l1) (r : Bool) (h : laws_lNums.f l0 l1 = some r) : Tri Try.prog 34 [.c (.ref (.arg 0) [] o0 l0.length), .c (.ref (.arg 1) [] o1 l1.length)] [(.arg 0, ⟨.fz, 1, cs0⟩), (.arg 1, ⟨.fz, 1, cs1⟩)] (fun o => o = ⟨.c (.sc (.bool r)), [(.arg 0, ⟨.fz, 1, cs0⟩), (.arg 1, ⟨.fz, 1, cs1⟩)], [], []⟩) := by
 refine tri_of_body (ac := C34) (xs := r34) Try.func34 (show Try.f34.body = some (Try.f34.body.getD .skip) from rfl) k34 q34 (Nat.le_of_ble_eq_true rfl) ?_
 refine body_of fun K hKn hKr => ?_
 unfold laws_lNums.f at h
 unfold C34
 simp only [initT, Nat.reduceAdd]
 refine sr_k fun J1 hJ1 => ?_
 simp +decide only [Nat.reduceAdd, Nat.reduceMul, Int.reduceToNat, ak]
 refine hJ1 _ ?_
 refine seq_k fun J2 hJ2 => ?_
 refine sr_k fun J3 hJ3 => ?_
 simp +decide only [Nat.reduceAdd, Nat.reduceMul, Int.reduceToNat, ak]
 refine hJ3 _ ?_
 refine cond_k (b := decide ((l0.length : Int) ≠ (l1.length : Int))) rfl (fun c4 => ?_) (fun c4 => ?_)
 ·replace c4 := of_decide_eq_true c4; rw [if_pos c4] at h
  refine sr_k fun J5 hJ5 => ?_
  simp +decide only [Nat.reduceAdd, Nat.reduceMul, Int.reduceToNat, ak]
  refine hJ5 _ ?_
  obtain rfl := Option.some.inj h
  refine hKr _ ⟨_, rfl, [], _, rfl, rfl, ?_⟩
  exact cl
 ·replace c4 := of_decide_eq_false c4; rw [if_neg c4] at h
  refine hJ2 _ ?_
  refine seq_k fun J6 hJ6 => ?_
  refine sr_k fun J7 hJ7 => ?_
  simp +decide only [Nat.reduceAdd, Nat.reduceMul, Int.reduceToNat, ak]
  refine hJ7 _ ?_
  refine block_k fun B8 B8n B8x B8r B8j => ?_
  obtain ⟨y22, h23, h⟩ := of_bind h
  refine gh_k (wk [0, 1, 5] [pI (.arg 0) .fz, pI (.arg 1) .fz]) ?_
  rw [e_loop]
  refine laws_lNums.l0_walk cs0 o0 l0 hv0 cs1 o1 l1 hv1 0 _ h23 _ ?_ ?_
  ·rintro x24 rfl
   dsimp only at h
   refine B8x _ ?_
   refine hJ6 _ ?_
   refine sr_k fun J25 hJ25 => ?_
   simp +decide only [Nat.reduceAdd, Nat.reduceMul, Int.reduceToNat, ak]
   refine hJ25 _ ?_
   obtain rfl := Option.some.inj h
   refine hKr _ ⟨_, rfl, [], _, rfl, rfl, ?_⟩
   exact cl
  ·rintro x24 rfl
   dsimp only at h
   refine B8r _ ?_
   obtain rfl := Option.some.inj h
   refine hKr _ ⟨_, rfl, [], _, rfl, rfl, ?_⟩
   exact cl
end Go.AK
