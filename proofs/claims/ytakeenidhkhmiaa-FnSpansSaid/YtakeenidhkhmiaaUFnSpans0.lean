-- by a program of this session (wip/ak/pw.py)
import Derived.Test.YtakeenidhkhmiaaAk2
import Derived.KernelRfl
import Derived.Test.YtakeenidhkhmiaaChecked
set_option synthInstance.maxSize 20000
set_option synthInstance.maxHeartbeats 400000
set_option maxRecDepth 100000
set_option maxHeartbeats 4000000
set_option linter.unusedVariables false
set_option linter.unusedSimpArgs false
namespace Go.AK
open Go Go.Proofs
def c_u8 (x : Int) : List Cell := [.sc (.int .u8 x)]
theorem c_u8_w (x : Int) : (c_u8 x).length = 1 := rfl
structure S31 where
  f0 : Int
  f1 : Int
def z31 : S31 := ⟨0, 0⟩
theorem S31.eta (x : S31) : (⟨x.f0, x.f1⟩ : S31) = x := rfl
def c31 (x : S31) : List Cell := [.sc (.int .u64 x.f0), .sc (.int .u64 x.f1)]
theorem c31_w (x : S31) : (c31 x).length = 2 := rfl
def c_u64 (x : Int) : List Cell := [.sc (.int .u64 x)]
theorem c_u64_w (x : Int) : (c_u64 x).length = 1 := rfl
/-! ### spec.l1Begin: function 91 -/
def C91_l0 : AC := .seq (.seq (.reg [.op none (.mv 8 (.tmp 4)), .op none (.mv 9 (.tmp 0)), .op none (.len 10 (.tmp 9)), .op none (.bin 11 .lss (.tmp 8) (.tmp 10)), .keep [0, 2, 3, 4, 11]]) (.cond (.tmp 11) (.skip) (.gh (.exit 0)))) (.seq (.block 1 (.regD (.first (.op none (.faddr 14 2 (.tmp 3))) (.first (.op none (.load 15 false 1 (.tmp 14))) (.first (.op none (.mv 16 (.tmp 0))) (.first (.op none (.mv 17 (.tmp 4))) (.first (.op none (.iaddr 18 1 (.tmp 16) (.tmp 17))) (.first (.op none (.load 19 false 1 (.tmp 18))) (.first (.op none (.conv 20 .u64 (.tmp 19))) (.first (.op none (.bin 21 .xor (.tmp 15) (.tmp 20))) (.first (.op none (.bin 22 .mul (.tmp 21) (.const (.int .u64 1099511628211)))) (.first (.op none (.faddr 23 2 (.tmp 3))) (.alt (.op none (.store 1 (.tmp 23) (.tmp 22))) none (.done) (.stop)))))))))))) [0, 2, 3, 4])) (.reg [.op none (.mv 12 (.tmp 4)), .op none (.bin 13 .add (.tmp 12) (.const (.int .i64 1))), .op none (.mv 4 (.tmp 13)), .keep [0, 2, 3, 4]]))
def C91 : AC := .seq (.reg [.op none (.alloc 2 [.slice none 0 0, .int .i64 0, .int .u64 0]), .gh, .keep [0, 2]]) (.seq (.reg [.op none (.mv 5 (.tmp 0)), .op none (.build 6 [.slice none 0 0, .int .i64 0, .int .u64 0] [(0, 1, .tmp 5)]), .gh, .op none (.alloc 3 [.slice none 0 0, .int .i64 0, .int .u64 0]), .gh, .op none (.store 3 (.tmp 3) (.tmp 6)), .keep [0, 2, 3]]) (.seq (.reg [.op none (.faddr 7 2 (.tmp 3)), .op none (.store 1 (.tmp 7) (.const (.int .u64 1469598103934665603))), .keep [0, 2, 3]]) (.seq (.seq (.reg [.op none (.mv 4 (.const (.int .i64 0))), .keep [0, 2, 3, 4]]) (.block 0 (.gh (.loop (.ga C91_l0))))) (.seq (.reg [.op none (.load 24 true 3 (.tmp 3)), .op none (.store 3 (.tmp 2) (.tmp 24)), .keep [2]]) (.ret)))))
def r91 : List RV := [.cell 2 true 3]
theorem k91 : compC Try.prog 25 C91 (Try.f91.body.getD .skip) = some C91.erase := by kernel_rfl
theorem q91 : rvsOf Try.prog Try.f91.results.toList = some r91 := by kernel_rfl
def spec_l1Begin.l0 (l0 : List Int) (x0_1 : (List Int)) (x0_2 : Int) (x0_3 : Int) (x0_4 : Int) (x0_0 : Int) (x0_5 : Int) : Option Int := (if x0_0 < (l0.length : Int) then (if 0 ≤ x0_0 ∧ x0_0 < (l0.length : Int) then (spec_l1Begin.l0 l0 x0_1 x0_2 x0_3 x0_4 (IntKind.i64.wrap (x0_0 + 1)) (IntKind.u64.wrap ((bits .xor .u64 x0_5 (IntKind.u64.wrap (rd 0 l0 x0_0))) * 1099511628211))) else none) else (some x0_5))
  partial_fixpoint
def spec_l1Begin.f (l0 : List Int) : Option (Int × Int) := (spec_l1Begin.l0 l0 ([] : List Int) 0 0 0 0 1469598103934665603 >>= fun (y14 : Int) => (some (0, y14)))
def spec_l1Begin.l0_M (cs0 : List Cell) (o0 : Nat) (l0 : List Int) (hv0 : Vw c_u8 1 cs0 o0 l0) (x0_1 : (List Int)) (x0_2 : Int) (x0_3 : Int) (x0_4 : Int) (x0_0 : Int) (x0_5 : Int) (y : Int) : Prop := ∀ (K : AE → St → Prop), (K (.exit 0) ⟨[(2, .c (.ptr (.tmp 2 0) [] 0)), (3, .c (.ptr (.tmp 3 0) [] 0))], [(.arg 0, ⟨.fz, 1, cs0⟩), (.tmp 2 0, ⟨.box, 0, [.own 1 x0_1.length (encL c_u8 x0_1), .sc (.int .i64 x0_2), .sc (.int .u64 x0_3)]⟩), (.tmp 3 0, ⟨.box, 0, [.ref (.arg 0) [] o0 l0.length, .sc (.int .i64 x0_4), .sc (.int .u64 y)]⟩)], [], []⟩) → loopS Try.prog 25 (.ga C91_l0) K ⟨[(0, .c (.ref (.arg 0) [] o0 l0.length)), (2, .c (.ptr (.tmp 2 0) [] 0)), (3, .c (.ptr (.tmp 3 0) [] 0)), (4, .c (.sc (.int .i64 x0_0)))], [(.arg 0, ⟨.fz, 1, cs0⟩), (.tmp 2 0, ⟨.box, 0, [.own 1 x0_1.length (encL c_u8 x0_1), .sc (.int .i64 x0_2), .sc (.int .u64 x0_3)]⟩), (.tmp 3 0, ⟨.box, 0, [.ref (.arg 0) [] o0 l0.length, .sc (.int .i64 x0_4), .sc (.int .u64 x0_5)]⟩)], [], []⟩
theorem spec_l1Begin.l0_walk (cs0 : List Cell) (o0 : Nat) (l0 : List Int) (hv0 : Vw c_u8 1 cs0 o0 l0) (x0_1 : (List Int)) (x0_2 : Int) (x0_3 : Int) (x0_4 : Int) (x0_0 : Int) (x0_5 : Int) (y : Int) (h : spec_l1Begin.l0 l0 x0_1 x0_2 x0_3 x0_4 x0_0 x0_5 = some y) : spec_l1Begin.l0_M cs0 o0 l0 hv0 x0_1 x0_2 x0_3 x0_4 x0_0 x0_5 y := by
  refine spec_l1Begin.l0.partial_correctness l0 x0_1 x0_2 x0_3 x0_4 (motive := fun x0_0 x0_5 y => spec_l1Begin.l0_M cs0 o0 l0 hv0 x0_1 x0_2 x0_3 x0_4 x0_0 x0_5 y) ?_ x0_0 x0_5 y h
  clear h
  unfold spec_l1Begin.l0_M
  intro rec ih x0_0 x0_5 y h K hx0
  refine loop_unroll (ga_k fun G0 G0n G0r G0x => ?_)
  unfold C91_l0
  refine seq_k fun J7 hJ7 => ?_
  refine sr_k fun J8 hJ8 => ?_
  simp +decide only [Nat.reduceAdd, Nat.reduceMul, Int.reduceToNat, ak]
  refine hJ8 _ ?_
  refine cond_k (b := decide (x0_0 < (l0.length : Int))) rfl (fun c9 => ?_) (fun c9 => ?_)
  · replace c9 := of_decide_eq_true c9; rw [if_pos c9] at h
    refine hJ7 _ ?_
    refine seq_k fun J10 hJ10 => ?_
    refine block_k fun B11 B11n B11x B11r B11j => ?_
    refine regD_k ?_
    obtain ⟨b12, h⟩ := of_guard h
    have g13 : (cs0)[o0 + x0_0.toNat * 1]? = some (.sc (.int .u8 (rd 0 l0 x0_0))) := hv0.get 0 0 b12.1 b12.2 (by decide)
    simp +decide only [Nat.reduceAdd, Nat.reduceMul, Int.reduceToNat, ak, b12, g13]
    refine alt_e ?_
    · simp +decide only [Nat.reduceAdd, Nat.reduceMul, Int.reduceToNat, ak]
      refine B11n _ ?_
      refine hJ10 _ ?_
      refine reg_k ?_
      simp +decide only [Nat.reduceAdd, Nat.reduceMul, Int.reduceToNat, ak]
      refine G0n _ _ (wk [0, 2, 3, 4] [pI (.arg 0) .fz, pI (.tmp 2 0) .box, pI (.tmp 3 0) .box]) (ih _ _ _ h K hx0)
  · replace c9 := of_decide_eq_false c9; rw [if_neg c9] at h
    obtain rfl := Option.some.inj h
    refine gh_k (wk [2, 3] [pI (.arg 0) .fz, pI (.tmp 2 0) .box, pI (.tmp 3 0) .box]) ?_
    refine G0x _ _ ?_
    exact hx0
theorem spec_l1Begin.tri (cs0 : List Cell) (o0 : Nat) (l0 : List Int) (hv0 : Vw c_u8 1 cs0 o0 l0) (r : Int × Int) (h : spec_l1Begin.f l0 = some r) : Tri Try.prog 91 [.c (.ref (.arg 0) [] o0 l0.length)] [(.arg 0, ⟨.fz, 1, cs0⟩)] (fun o => o = ⟨.g [.ref (.arg 0) [] o0 l0.length, .sc (.int .i64 r.1), .sc (.int .u64 r.2)], [(.arg 0, ⟨.fz, 1, cs0⟩)], [], []⟩) := by
  refine tri_of_body (ac := C91) (xs := r91) Try.func91 (show Try.f91.body = some (Try.f91.body.getD .skip) from rfl) k91 q91 (Nat.le_of_ble_eq_true rfl) ?_
  refine body_of fun K hKn hKr => ?_
  unfold spec_l1Begin.f at h
  unfold C91
  simp only [initT, Nat.reduceAdd]
  refine sr_k fun J1 hJ1 => ?_
  simp +decide only [Nat.reduceAdd, Nat.reduceMul, Int.reduceToNat, ak]
  refine gho_k (Weak.own (.tmp 2 0) (cs' := [.own 1 (([] : List Int).length) (encL c_u8 ([] : List Int)), .sc (.int .i64 0), .sc (.int .u64 0)]) rfl ⟨.inr ⟨rfl, _, rfl⟩, .inl rfl, .inl rfl, trivial⟩) ?_
  simp +decide only [Nat.reduceAdd, Nat.reduceMul, Int.reduceToNat, ak]
  refine hJ1 _ ?_
  refine sr_k fun J2 hJ2 => ?_
  simp +decide only [Nat.reduceAdd, Nat.reduceMul, Int.reduceToNat, ak]
  refine gho_k (Weak.refl _ _) ?_
  simp +decide only [Nat.reduceAdd, Nat.reduceMul, Int.reduceToNat, ak]
  refine gho_k (Weak.own (.tmp 3 0) (cs' := [.own 1 (([] : List Int).length) (encL c_u8 ([] : List Int)), .sc (.int .i64 0), .sc (.int .u64 0)]) rfl ⟨.inr ⟨rfl, _, rfl⟩, .inl rfl, .inl rfl, trivial⟩) ?_
  simp +decide only [Nat.reduceAdd, Nat.reduceMul, Int.reduceToNat, ak]
  refine hJ2 _ ?_
  refine sr_k fun J3 hJ3 => ?_
  simp +decide only [Nat.reduceAdd, Nat.reduceMul, Int.reduceToNat, ak]
  refine hJ3 _ ?_
  refine seq_k fun J4 hJ4 => ?_
  refine sr_k fun J5 hJ5 => ?_
  simp +decide only [Nat.reduceAdd, Nat.reduceMul, Int.reduceToNat, ak]
  refine hJ5 _ ?_
  refine block_k fun B6 B6n B6x B6r B6j => ?_
  obtain ⟨y14, h15, h⟩ := of_bind h
  refine gh_k (wk [0, 2, 3, 4] [pI (.arg 0) .fz, pI (.tmp 2 0) .box, pI (.tmp 3 0) .box]) ?_
  rw [e_loop]
  refine spec_l1Begin.l0_walk cs0 o0 l0 hv0 ([] : List Int) 0 0 0 0 1469598103934665603 _ h15 _ ?_
  refine B6x _ ?_
  refine hJ4 _ ?_
  refine sr_k fun J16 hJ16 => ?_
  simp +decide only [Nat.reduceAdd, Nat.reduceMul, Int.reduceToNat, ak]
  refine hJ16 _ ?_
  obtain rfl := Option.some.inj h
  refine hKr _ ⟨_, rfl, [], _, rfl, rfl, ?_⟩
  first | rfl | (simp only [reduceCtorEq, Nat.reduceEqDiff, ak, akF]; done) | (simp [reduceCtorEq, Nat.reduceEqDiff, ak, akF] <;> omega)
/-! ### spec.l1Next: function 92 -/
def C92 : AC := .seq (.reg [.op none (.mv 4 (.const (.int .i64 0))), .keep [0, 1]]) (.seq (.seq (.reg [.op none (.mv 6 (.tmp 1)), .op none (.bin 7 .leq (.tmp 6) (.const (.int .i64 0))), .keep [0, 1, 7]]) (.cond (.tmp 7) (.seq (.reg [.op none (.mv 4 (.const (.int .i64 0))), .keep [4]]) (.ret)) (.skip))) (.seq (.reg [.op none (.mv 8 (.tmp 0)), .op none (.mv 9 (.tmp 0)), .op none (.nilc 10 (.tmp 9)), .op none (.faddr 11 2 (.tmp 10)), .op none (.load 12 false 1 (.tmp 11)), .op none (.bin 13 .mul (.tmp 12) (.const (.int .u64 6364136223846793005))), .op none (.bin 14 .add (.tmp 13) (.const (.int .u64 1442695040888963407))), .op none (.nilc 15 (.tmp 8)), .op none (.faddr 16 2 (.tmp 15)), .op none (.store 1 (.tmp 16) (.tmp 14)), .keep [0, 1]]) (.seq (.reg [.op none (.mv 17 (.tmp 0)), .op none (.nilc 18 (.tmp 17)), .op none (.faddr 19 2 (.tmp 18)), .op none (.load 20 false 1 (.tmp 19)), .op none (.bin 21 .shr (.tmp 20) (.const (.int .u64 33))), .op none (.mv 5 (.tmp 21)), .keep [0, 1, 5]]) (.seq (.ga (.seq (.regD (.first (.op none (.mv 22 (.tmp 0))) (.first (.op none (.nilc 23 (.tmp 22))) (.first (.op none (.faddr 24 1 (.tmp 23))) (.first (.op none (.load 25 false 1 (.tmp 24))) (.first (.op none (.mv 26 (.tmp 0))) (.first (.op none (.nilc 27 (.tmp 26))) (.first (.op none (.faddr 28 0 (.tmp 27))) (.first (.op none (.load 29 false 1 (.tmp 28))) (.first (.op none (.len 30 (.tmp 29))) (.first (.op none (.bin 31 .lss (.tmp 25) (.tmp 30))) (.done))))))))))) [0, 1, 5, 31]) (.cond (.tmp 31) (.seq (.regD (.first (.op none (.mv 32 (.tmp 5))) (.first (.op none (.mv 33 (.tmp 0))) (.first (.op none (.nilc 34 (.tmp 33))) (.first (.op none (.faddr 35 0 (.tmp 34))) (.first (.op none (.load 36 false 1 (.tmp 35))) (.first (.op none (.mv 37 (.tmp 0))) (.first (.op none (.nilc 38 (.tmp 37))) (.first (.op none (.faddr 39 1 (.tmp 38))) (.first (.op none (.load 40 false 1 (.tmp 39))) (.first (.op none (.iaddr 41 1 (.tmp 36) (.tmp 40))) (.first (.op none (.load 42 false 1 (.tmp 41))) (.first (.op none (.conv 43 .u64 (.tmp 42))) (.first (.op none (.bin 44 .xor (.tmp 32) (.tmp 43))) (.first (.op none (.mv 5 (.tmp 44))) (.done))))))))))))))) [0, 1, 5]) (.reg [.op none (.mv 45 (.tmp 0)), .op none (.mv 46 (.tmp 0)), .op none (.nilc 47 (.tmp 46)), .op none (.faddr 48 1 (.tmp 47)), .op none (.load 49 false 1 (.tmp 48)), .op none (.bin 50 .add (.tmp 49) (.const (.int .i64 1))), .op none (.nilc 51 (.tmp 45)), .op none (.faddr 52 1 (.tmp 51)), .op none (.store 1 (.tmp 52) (.tmp 50)), .keep [1, 5]])) (.skip)))) (.seq (.reg [.op none (.mv 53 (.tmp 5)), .op none (.mv 54 (.tmp 1)), .op none (.conv 55 .u64 (.tmp 54)), .op none (.bin 56 .rem (.tmp 53) (.tmp 55)), .op none (.conv 57 .i64 (.tmp 56)), .op none (.mv 4 (.tmp 57)), .keep [4]]) (.ret))))))
def r92 : List RV := [.tmp 4]
theorem k92 : compC Try.prog 58 C92 (Try.f92.body.getD .skip) = some C92.erase := by kernel_rfl
theorem q92 : rvsOf Try.prog Try.f92.results.toList = some r92 := by kernel_rfl
def spec_l1Next.f (l0_0 : List Int) (a0_1 : Int) (a0_2 : Int) (a1 : Int) : Option (Int × Int × Int) := (if a1 ≤ 0 then (some (0, a0_1, a0_2)) else ((if a0_1 < (l0_0.length : Int) then (if 0 ≤ a0_1 ∧ a0_1 < (l0_0.length : Int) then (some (bits .xor .u64 ((IntKind.u64.wrap ((IntKind.u64.wrap (a0_2 * 6364136223846793005)) + 1442695040888963407)).fdiv (2 ^ 33)) (IntKind.u64.wrap (rd 0 l0_0 a0_1)), IntKind.i64.wrap (a0_1 + 1))) else none) else (some ((IntKind.u64.wrap ((IntKind.u64.wrap (a0_2 * 6364136223846793005)) + 1442695040888963407)).fdiv (2 ^ 33), a0_1))) >>= fun (j9 : Int × Int) => (if ¬ IntKind.u64.wrap a1 = 0 then (some (IntKind.i64.wrap (j9.1.tmod (IntKind.u64.wrap a1)), j9.2, IntKind.u64.wrap ((IntKind.u64.wrap (a0_2 * 6364136223846793005)) + 1442695040888963407))) else none)))
theorem spec_l1Next.tri (cs1 : List Cell) (o1 : Nat) (l0_0 : List Int) (hv1 : Vw c_u8 1 cs1 o1 l0_0) (a0_1 : Int) (a0_2 : Int) (a1 : Int) (r : Int × Int × Int) (h : spec_l1Next.f l0_0 a0_1 a0_2 a1 = some r) : Tri Try.prog 92 [.c (.ptr (.arg 0) [] 0), .c (.sc (.int .i64 a1))] [(.arg 0, ⟨.box, 0, [.ref (.arg 1) [] o1 l0_0.length, .sc (.int .i64 a0_1), .sc (.int .u64 a0_2)]⟩), (.arg 1, ⟨.fz, 1, cs1⟩)] (fun o => o = ⟨.c (.sc (.int .i64 r.1)), [(.arg 0, ⟨.box, 0, [.ref (.arg 1) [] o1 l0_0.length, .sc (.int .i64 r.2.1), .sc (.int .u64 r.2.2)]⟩), (.arg 1, ⟨.fz, 1, cs1⟩)], [], []⟩) := by
  refine tri_of_body (ac := C92) (xs := r92) Try.func92 (show Try.f92.body = some (Try.f92.body.getD .skip) from rfl) k92 q92 (Nat.le_of_ble_eq_true rfl) ?_
  refine body_of fun K hKn hKr => ?_
  unfold spec_l1Next.f at h
  unfold C92
  simp only [initT, Nat.reduceAdd]
  refine sr_k fun J1 hJ1 => ?_
  simp +decide only [Nat.reduceAdd, Nat.reduceMul, Int.reduceToNat, ak]
  refine hJ1 _ ?_
  refine seq_k fun J2 hJ2 => ?_
  refine sr_k fun J3 hJ3 => ?_
  simp +decide only [Nat.reduceAdd, Nat.reduceMul, Int.reduceToNat, ak]
  refine hJ3 _ ?_
  refine cond_k (b := decide (a1 ≤ 0)) rfl (fun c4 => ?_) (fun c4 => ?_)
  · replace c4 := of_decide_eq_true c4; rw [if_pos c4] at h
    refine sr_k fun J5 hJ5 => ?_
    simp +decide only [Nat.reduceAdd, Nat.reduceMul, Int.reduceToNat, ak]
    refine hJ5 _ ?_
    obtain rfl := Option.some.inj h
    refine hKr _ ⟨_, rfl, [], _, rfl, rfl, ?_⟩
    first | rfl | (simp only [reduceCtorEq, Nat.reduceEqDiff, ak, akF]; done) | (simp [reduceCtorEq, Nat.reduceEqDiff, ak, akF] <;> omega)
  · replace c4 := of_decide_eq_false c4; rw [if_neg c4] at h
    refine hJ2 _ ?_
    refine sr_k fun J6 hJ6 => ?_
    simp +decide only [Nat.reduceAdd, Nat.reduceMul, Int.reduceToNat, ak]
    refine hJ6 _ ?_
    refine sr_k fun J7 hJ7 => ?_
    have g8 : ∀ a, abin .shr (.int .u64 a) (.int .u64 33) = some (.int .u64 (a.fdiv (2 ^ 33))) := fun a => akShrL _ _ a 33 (by decide)
    simp +decide only [Nat.reduceAdd, Nat.reduceMul, Int.reduceToNat, ak, g8]
    refine hJ7 _ ?_
    obtain ⟨j9, h10, hn⟩ := of_bind h
    refine seq_j (fun st => st = ⟨[(1, .c (.sc (.int .i64 a1))), (5, .c (.sc (.int .u64 j9.1)))], [(.arg 0, ⟨.box, 0, [.ref (.arg 1) [] o1 l0_0.length, .sc (.int .i64 j9.2), .sc (.int .u64 (IntKind.u64.wrap ((IntKind.u64.wrap (a0_2 * 6364136223846793005)) + 1442695040888963407)))]⟩), (.arg 1, ⟨.fz, 1, cs1⟩)], [], []⟩) (fun J11 hJ11 => ?_) ?_
    · replace h := h10; clear hn
      refine ga_k fun G12 G12n G12r G12x => ?_
      refine sd_k fun J13 hJ13 => ?_
      simp +decide only [Nat.reduceAdd, Nat.reduceMul, Int.reduceToNat, ak]
      refine hJ13 _ ?_
      refine cond_k (b := decide (a0_1 < (l0_0.length : Int))) rfl (fun c14 => ?_) (fun c14 => ?_)
      · replace c14 := of_decide_eq_true c14; rw [if_pos c14] at h
        refine sd_k fun J15 hJ15 => ?_
        obtain ⟨b16, h⟩ := of_guard h
        have g17 : (cs1)[o1 + a0_1.toNat * 1]? = some (.sc (.int .u8 (rd 0 l0_0 a0_1))) := hv1.get 0 0 b16.1 b16.2 (by decide)
        simp +decide only [Nat.reduceAdd, Nat.reduceMul, Int.reduceToNat, ak, b16, g17]
        refine hJ15 _ ?_
        refine reg_k ?_
        simp +decide only [Nat.reduceAdd, Nat.reduceMul, Int.reduceToNat, ak]
        obtain rfl := Option.some.inj h
        refine G12n _ _ (wk [1, 5] [pI (.arg 0) .box, pI (.arg 1) .fz]) (hJ11 _ rfl)
      · replace c14 := of_decide_eq_false c14; rw [if_neg c14] at h
        obtain rfl := Option.some.inj h
        refine G12n _ _ (wk [1, 5] [pI (.arg 0) .box, pI (.arg 1) .fz]) (hJ11 _ rfl)
    · replace h := hn; clear hn h10
      rintro _ rfl
      refine sr_k fun J18 hJ18 => ?_
      obtain ⟨b19, h⟩ := of_guard h
      simp +decide only [Nat.reduceAdd, Nat.reduceMul, Int.reduceToNat, ak, b19]
      refine hJ18 _ ?_
      obtain rfl := Option.some.inj h
      refine hKr _ ⟨_, rfl, [], _, rfl, rfl, ?_⟩
      first | rfl | (simp only [reduceCtorEq, Nat.reduceEqDiff, ak, akF, b19]; done) | (simp [reduceCtorEq, Nat.reduceEqDiff, ak, akF, b19] <;> omega)
/-! ### spec.l1Word: function 123 -/
def C123 : AC := .seq (.reg [.op none (.mv 2 (.const (.int .u64 0))), .keep [0]]) (.seq (.reg [.op none (.mv 3 (.tmp 0)), .call none (some 4) 92 [.tmp 3, .const (.int .i64 2147483648)], .op none (.conv 5 .u64 (.tmp 4)), .op none (.bin 6 .shl (.tmp 5) (.const (.int .u64 40))), .op none (.mv 7 (.tmp 0)), .call none (some 8) 92 [.tmp 7, .const (.int .i64 2147483648)], .op none (.conv 9 .u64 (.tmp 8)), .op none (.bin 10 .shl (.tmp 9) (.const (.int .u64 20))), .op none (.bin 11 .xor (.tmp 6) (.tmp 10)), .op none (.mv 12 (.tmp 0)), .call none (some 13) 92 [.tmp 12, .const (.int .i64 2147483648)], .op none (.conv 14 .u64 (.tmp 13)), .op none (.bin 15 .xor (.tmp 11) (.tmp 14)), .op none (.mv 2 (.tmp 15)), .keep [2]]) (.ret))
def r123 : List RV := [.tmp 2]
theorem k123 : compC Try.prog 16 C123 (Try.f123.body.getD .skip) = some C123.erase := by kernel_rfl
theorem q123 : rvsOf Try.prog Try.f123.results.toList = some r123 := by kernel_rfl
def spec_l1Word.f (l0_0 : List Int) (a0_1 : Int) (a0_2 : Int) : Option (Int × Int × Int) := (spec_l1Next.f l0_0 a0_1 a0_2 2147483648 >>= fun t3 => (spec_l1Next.f l0_0 t3.2.1 t3.2.2 2147483648 >>= fun t7 => (spec_l1Next.f l0_0 t7.2.1 t7.2.2 2147483648 >>= fun t11 => (some (bits .xor .u64 (bits .xor .u64 (IntKind.u64.wrap ((IntKind.u64.wrap t3.1) * 2 ^ 40)) (IntKind.u64.wrap ((IntKind.u64.wrap t7.1) * 2 ^ 20))) (IntKind.u64.wrap t11.1), t11.2.1, t11.2.2)))))
theorem spec_l1Word.tri (cs1 : List Cell) (o1 : Nat) (l0_0 : List Int) (hv1 : Vw c_u8 1 cs1 o1 l0_0) (a0_1 : Int) (a0_2 : Int) (r : Int × Int × Int) (h : spec_l1Word.f l0_0 a0_1 a0_2 = some r) : Tri Try.prog 123 [.c (.ptr (.arg 0) [] 0)] [(.arg 0, ⟨.box, 0, [.ref (.arg 1) [] o1 l0_0.length, .sc (.int .i64 a0_1), .sc (.int .u64 a0_2)]⟩), (.arg 1, ⟨.fz, 1, cs1⟩)] (fun o => o = ⟨.c (.sc (.int .u64 r.1)), [(.arg 0, ⟨.box, 0, [.ref (.arg 1) [] o1 l0_0.length, .sc (.int .i64 r.2.1), .sc (.int .u64 r.2.2)]⟩), (.arg 1, ⟨.fz, 1, cs1⟩)], [], []⟩) := by
  refine tri_of_body (ac := C123) (xs := r123) Try.func123 (show Try.f123.body = some (Try.f123.body.getD .skip) from rfl) k123 q123 (Nat.le_of_ble_eq_true rfl) ?_
  refine body_of fun K hKn hKr => ?_
  unfold spec_l1Word.f at h
  unfold C123
  simp only [initT, Nat.reduceAdd]
  refine sr_k fun J1 hJ1 => ?_
  simp +decide only [Nat.reduceAdd, Nat.reduceMul, Int.reduceToNat, ak]
  refine hJ1 _ ?_
  refine sr_k fun J2 hJ2 => ?_
  simp +decide only [Nat.reduceAdd, Nat.reduceMul, Int.reduceToNat, ak]
  obtain ⟨t3, h4, h⟩ := of_bind h
  refine call_m [(.arg 0, ⟨(.arg 0), [], none, .box⟩), (.arg 1, ⟨(.arg 1), [], none, .fz⟩)] (s0 := [(.arg 0, ⟨.box, 0, [.ref (.arg 1) [] o1 l0_0.length, .sc (.int .i64 a0_1), .sc (.int .u64 a0_2)]⟩), (.arg 1, ⟨.fz, 1, cs1⟩)]) (by intro t ht; cases ht; decide) rfl rfl (by first | rfl | simp only [reduceCtorEq, Nat.reduceEqDiff, ak, akF]) (spec_l1Next.tri (cs1) o1 l0_0 hv1 a0_1 a0_2 2147483648 _ h4) (by first | rfl | simp only [reduceCtorEq, Nat.reduceEqDiff, ak, akF]) (by simp [bkOk2, memK]) (fun hl4 => ?_)
  refine call_st (s4 := [(.arg 0, ⟨.box, 0, [.ref (.arg 1) [] o1 l0_0.length, .sc (.int .i64 t3.2.1), .sc (.int .u64 t3.2.2)]⟩), (.arg 1, ⟨.fz, 1, cs1⟩)]) (m1' := []) (m2' := []) (v' := .c (.sc (.int .i64 t3.1))) (Sto.mapN_killNil _ _) (mrgL_whole (new' := [.ref (.arg 1) [] o1 l0_0.length, .sc (.int .i64 t3.2.1), .sc (.int .u64 t3.2.2)]) (mrgL_fz (mrgL_nil' _ _ _) rfl (by first | rfl | simp only [reduceCtorEq, Nat.reduceEqDiff, ak]) rfl (by intro R hR hh; cases hR; cases hh.2)) rfl (by rfl) (.inl ⟨rfl, by first | rfl | simp only [reduceCtorEq, Nat.reduceEqDiff, ak, akF, Nat.zero_add, List.append_nil]⟩)) (by rfl) (mapT_killNil _ _) (by rfl) (by rfl) (by first | rfl | simp only [reduceCtorEq, Nat.reduceEqDiff, ak, akF, Nat.zero_add, List.append_nil]) ?_
  have g6 : ∀ a, abin .shl (.int .u64 a) (.int .u64 40) = some (.int .u64 (IntKind.u64.wrap (a * 2 ^ 40))) := fun a => akShlL _ _ a 40 (by decide)
  simp +decide only [Nat.reduceAdd, Nat.reduceMul, Int.reduceToNat, ak, g6]
  obtain ⟨t7, h8, h⟩ := of_bind h
  refine call_m [(.arg 0, ⟨(.arg 0), [], none, .box⟩), (.arg 1, ⟨(.arg 1), [], none, .fz⟩)] (s0 := [(.arg 0, ⟨.box, 0, [.ref (.arg 1) [] o1 l0_0.length, .sc (.int .i64 t3.2.1), .sc (.int .u64 t3.2.2)]⟩), (.arg 1, ⟨.fz, 1, cs1⟩)]) (by intro t ht; cases ht; decide) rfl rfl (by first | rfl | simp only [reduceCtorEq, Nat.reduceEqDiff, ak, akF, g6]) (spec_l1Next.tri (cs1) o1 l0_0 hv1 t3.2.1 t3.2.2 2147483648 _ h8) (by first | rfl | simp only [reduceCtorEq, Nat.reduceEqDiff, ak, akF]) (by simp [bkOk2, memK]) (fun hl8 => ?_)
  refine call_st (s4 := [(.arg 0, ⟨.box, 0, [.ref (.arg 1) [] o1 l0_0.length, .sc (.int .i64 t7.2.1), .sc (.int .u64 t7.2.2)]⟩), (.arg 1, ⟨.fz, 1, cs1⟩)]) (m1' := []) (m2' := []) (v' := .c (.sc (.int .i64 t7.1))) (Sto.mapN_killNil _ _) (mrgL_whole (new' := [.ref (.arg 1) [] o1 l0_0.length, .sc (.int .i64 t7.2.1), .sc (.int .u64 t7.2.2)]) (mrgL_fz (mrgL_nil' _ _ _) rfl (by first | rfl | simp only [reduceCtorEq, Nat.reduceEqDiff, ak, g6]) rfl (by intro R hR hh; cases hR; cases hh.2)) rfl (by rfl) (.inl ⟨rfl, by first | rfl | simp only [reduceCtorEq, Nat.reduceEqDiff, ak, akF, Nat.zero_add, List.append_nil]⟩)) (by rfl) (mapT_killNil _ _) (by rfl) (by rfl) (by first | rfl | simp only [reduceCtorEq, Nat.reduceEqDiff, ak, akF, Nat.zero_add, List.append_nil]) ?_
  have g10 : ∀ a, abin .shl (.int .u64 a) (.int .u64 20) = some (.int .u64 (IntKind.u64.wrap (a * 2 ^ 20))) := fun a => akShlL _ _ a 20 (by decide)
  simp +decide only [Nat.reduceAdd, Nat.reduceMul, Int.reduceToNat, ak, g10]
  obtain ⟨t11, h12, h⟩ := of_bind h
  refine call_m [(.arg 0, ⟨(.arg 0), [], none, .box⟩), (.arg 1, ⟨(.arg 1), [], none, .fz⟩)] (s0 := [(.arg 0, ⟨.box, 0, [.ref (.arg 1) [] o1 l0_0.length, .sc (.int .i64 t7.2.1), .sc (.int .u64 t7.2.2)]⟩), (.arg 1, ⟨.fz, 1, cs1⟩)]) (by intro t ht; cases ht; decide) rfl rfl (by first | rfl | simp only [reduceCtorEq, Nat.reduceEqDiff, ak, akF, g6, g10]) (spec_l1Next.tri (cs1) o1 l0_0 hv1 t7.2.1 t7.2.2 2147483648 _ h12) (by first | rfl | simp only [reduceCtorEq, Nat.reduceEqDiff, ak, akF]) (by simp [bkOk2, memK]) (fun hl12 => ?_)
  refine call_st (s4 := [(.arg 0, ⟨.box, 0, [.ref (.arg 1) [] o1 l0_0.length, .sc (.int .i64 t11.2.1), .sc (.int .u64 t11.2.2)]⟩), (.arg 1, ⟨.fz, 1, cs1⟩)]) (m1' := []) (m2' := []) (v' := .c (.sc (.int .i64 t11.1))) (Sto.mapN_killNil _ _) (mrgL_whole (new' := [.ref (.arg 1) [] o1 l0_0.length, .sc (.int .i64 t11.2.1), .sc (.int .u64 t11.2.2)]) (mrgL_fz (mrgL_nil' _ _ _) rfl (by first | rfl | simp only [reduceCtorEq, Nat.reduceEqDiff, ak, g6, g10]) rfl (by intro R hR hh; cases hR; cases hh.2)) rfl (by rfl) (.inl ⟨rfl, by first | rfl | simp only [reduceCtorEq, Nat.reduceEqDiff, ak, akF, Nat.zero_add, List.append_nil]⟩)) (by rfl) (mapT_killNil _ _) (by rfl) (by rfl) (by first | rfl | simp only [reduceCtorEq, Nat.reduceEqDiff, ak, akF, Nat.zero_add, List.append_nil]) ?_
  simp +decide only [Nat.reduceAdd, Nat.reduceMul, Int.reduceToNat, ak]
  refine hJ2 _ ?_
  obtain rfl := Option.some.inj h
  refine hKr _ ⟨_, rfl, [], _, rfl, rfl, ?_⟩
  first | rfl | (simp only [reduceCtorEq, Nat.reduceEqDiff, ak, akF]; done) | (simp [reduceCtorEq, Nat.reduceEqDiff, ak, akF] <;> omega)
/-! ### spec.l2DrawSet: function 108 -/
def C108_l0 : AC := .seq (.seq (.reg [.op none (.mv 28 (.tmp 9)), .op none (.mv 29 (.tmp 7)), .op none (.bin 30 .lss (.tmp 28) (.tmp 29)), .keep [0, 5, 6, 7, 8, 9, 30]]) (.cond (.tmp 30) (.skip) (.gh (.exit 0)))) (.seq (.block 1 (.seq (.reg [.op none (.mv 33 (.tmp 6)), .op none (.mv 34 (.tmp 0)), .call none (some 35) 92 [.tmp 34, .const (.int .i64 6)], .op none (.conv 36 .u64 (.tmp 35)), .op none (.bin 37 .add (.tmp 33) (.tmp 36)), .op none (.mv 10 (.tmp 37)), .keep [0, 5, 7, 8, 9, 10]]) (.seq (.reg [.op none (.mv 38 (.tmp 10)), .op none (.bin 39 .add (.tmp 38) (.const (.int .u64 1))), .op none (.mv 40 (.tmp 0)), .call none (some 41) 92 [.tmp 40, .const (.int .i64 6)], .op none (.conv 42 .u64 (.tmp 41)), .op none (.bin 43 .add (.tmp 39) (.tmp 42)), .op none (.mv 11 (.tmp 43)), .keep [0, 5, 7, 8, 9, 10, 11]]) (.seq (.ga (.seq (.reg [.op none (.mv 44 (.tmp 8)), .keep [0, 5, 7, 8, 9, 10, 11, 44]]) (.cond (.tmp 44) (.reg [.op none (.mv 45 (.tmp 11)), .op none (.mv 46 (.tmp 0)), .call none (some 47) 92 [.tmp 46, .const (.int .i64 1099511627776)], .op none (.conv 48 .u64 (.tmp 47)), .op none (.bin 49 .add (.tmp 45) (.tmp 48)), .op none (.mv 11 (.tmp 49)), .keep [0, 5, 7, 8, 9, 10, 11]]) (.skip)))) (.seq (.seq (.reg [.op none (.mv 50 (.tmp 11)), .op none (.mv 51 (.tmp 10)), .op none (.bin 52 .lss (.tmp 50) (.tmp 51)), .keep [0, 5, 7, 8, 9, 10, 11, 52]]) (.cond (.tmp 52) (.seq (.reg [.op none (.mv 53 (.tmp 5)), .op none (.mv 4 (.tmp 53)), .keep [4]]) (.gh .ret)) (.skip))) (.seq (.reg [.op none (.mv 54 (.tmp 5)), .op none (.mv 55 (.tmp 10)), .op none (.mv 56 (.tmp 11)), .op none (.build 57 [.int .u64 0, .int .u64 0] [(0, 1, .tmp 55), (1, 1, .tmp 56)]), .op none (.bslice 58 2 [.int .u64 0, .int .u64 0] 1 [(0, .tmp 57)]), .op none (.app 59 2 16 true (.tmp 54) (.tmp 58)), .op none (.mv 5 (.tmp 59)), .keep [0, 5, 7, 8, 9, 11]]) (.reg [.op none (.mv 60 (.tmp 11)), .op none (.bin 61 .add (.tmp 60) (.const (.int .u64 1))), .op none (.mv 6 (.tmp 61)), .keep [0, 5, 6, 7, 8, 9]]))))))) (.reg [.op none (.mv 31 (.tmp 9)), .op none (.bin 32 .add (.tmp 31) (.const (.int .i64 1))), .op none (.mv 9 (.tmp 32)), .keep [0, 5, 6, 7, 8, 9]]))
def C108 : AC := .seq (.reg [.op none (.mv 4 (.const (.slice none 0 0))), .gh, .keep [0, 1]]) (.seq (.reg [.op none (.bslice 12 2 [.int .u64 0, .int .u64 0] 0 []), .op none (.mv 5 (.tmp 12)), .keep [0, 1, 5]]) (.seq (.reg [.op none (.mv 13 (.tmp 0)), .call none (some 14) 92 [.tmp 13, .const (.int .i64 5)], .op none (.conv 15 .u64 (.tmp 14)), .op none (.mv 6 (.tmp 15)), .keep [0, 1, 5, 6]]) (.seq (.ga (.seq (.reg [.op none (.mv 16 (.tmp 0)), .call none (some 17) 92 [.tmp 16, .const (.int .i64 6)], .op none (.bin 18 .eql (.tmp 17) (.const (.int .i64 0))), .keep [0, 1, 5, 6, 18]]) (.cond (.tmp 18) (.reg [.op none (.mv 19 (.tmp 0)), .call none (some 20) 123 [.tmp 19], .op none (.mv 6 (.tmp 20)), .keep [0, 1, 5, 6]]) (.skip)))) (.seq (.reg [.op none (.mv 21 (.tmp 0)), .op none (.mv 22 (.tmp 1)), .op none (.bin 23 .add (.tmp 22) (.const (.int .i64 1))), .call none (some 24) 92 [.tmp 21, .tmp 23], .op none (.mv 7 (.tmp 24)), .keep [0, 5, 6, 7]]) (.seq (.reg [.op none (.mv 25 (.tmp 0)), .call none (some 26) 92 [.tmp 25, .const (.int .i64 3)], .op none (.bin 27 .eql (.tmp 26) (.const (.int .i64 0))), .op none (.mv 8 (.tmp 27)), .keep [0, 5, 6, 7, 8]]) (.seq (.seq (.reg [.op none (.mv 9 (.const (.int .i64 0))), .keep [0, 5, 6, 7, 8, 9]]) (.block 0 (.gh (.loop (.ga C108_l0))))) (.seq (.ga (.seq (.ga (.reg [.op none (.mv 62 (.tmp 0)), .call none (some 63) 92 [.tmp 62, .const (.int .i64 12)], .op none (.bin 64 .eql (.tmp 63) (.const (.int .i64 0))), .op none (.mv 65 (.tmp 64)), .op (some (65, true)) (.mv 66 (.tmp 5)), .op (some (65, true)) (.len 67 (.tmp 66)), .op (some (65, true)) (.bin 68 .gtr (.tmp 67) (.const (.int .i64 0))), .op none (.pick 69 (.tmp 65) (.tmp 68) (.const (.bool false))), .keep [5, 69]])) (.cond (.tmp 69) (.reg [.op none (.mv 70 (.tmp 5)), .op none (.mv 71 (.tmp 5)), .op none (.len 72 (.tmp 71)), .op none (.bin 73 .sub (.tmp 72) (.const (.int .i64 1))), .op none (.iaddr 74 2 (.tmp 70) (.tmp 73)), .op none (.faddr 75 1 (.tmp 74)), .op none (.store 1 (.tmp 75) (.const (.int .u64 18446744073709551615))), .keep [5]]) (.skip)))) (.seq (.reg [.op none (.mv 76 (.tmp 5)), .op none (.mv 4 (.tmp 76)), .keep [4]]) (.ret)))))))))
def r108 : List RV := [.tmp 4]
theorem k108 : compC Try.prog 77 C108 (Try.f108.body.getD .skip) = some C108.erase := by kernel_rfl
theorem q108 : rvsOf Try.prog Try.f108.results.toList = some r108 := by kernel_rfl
def spec_l2DrawSet.l0 (l0_0 : List Int) (x0_1 : Int) (x0_2 : Bool) (x0_0 : Int) (x0_3 : Int) (x0_4 : Int) (x0_5 : Int) (x0_6 : (List S31)) : Option (Lp (Int × Int × (List S31)) (Int × Int × (List S31))) := (if x0_3 < x0_1 then (spec_l1Next.f l0_0 x0_4 x0_5 6 >>= fun t39 => (spec_l1Next.f l0_0 t39.2.1 t39.2.2 6 >>= fun t43 => ((if x0_2 = true then (spec_l1Next.f l0_0 t43.2.1 t43.2.2 1099511627776 >>= fun t52 => (some (IntKind.u64.wrap ((IntKind.u64.wrap ((IntKind.u64.wrap ((IntKind.u64.wrap (x0_0 + (IntKind.u64.wrap t39.1))) + 1)) + (IntKind.u64.wrap t43.1))) + (IntKind.u64.wrap t52.1)), t52.2.1, t52.2.2))) else (some (IntKind.u64.wrap ((IntKind.u64.wrap ((IntKind.u64.wrap (x0_0 + (IntKind.u64.wrap t39.1))) + 1)) + (IntKind.u64.wrap t43.1)), t43.2.1, t43.2.2))) >>= fun (j46 : Int × Int × Int) => (if j46.1 < IntKind.u64.wrap (x0_0 + (IntKind.u64.wrap t39.1)) then (some (.b (j46.2.1, j46.2.2, x0_6))) else (if (x0_6.length + 1) * 16 ≤ 140737488355328 then (spec_l2DrawSet.l0 l0_0 x0_1 x0_2 (IntKind.u64.wrap (j46.1 + 1)) (IntKind.i64.wrap (x0_3 + 1)) j46.2.1 j46.2.2 (x0_6 ++ ([(⟨IntKind.u64.wrap (x0_0 + (IntKind.u64.wrap t39.1)), j46.1⟩ : S31)] : List S31))) else none))))) else (some (.a (x0_4, x0_5, x0_6))))
  partial_fixpoint
def spec_l2DrawSet.f (l0_0 : List Int) (a0_1 : Int) (a0_2 : Int) (a1 : Int) : Option ((List S31) × Int × Int) := (spec_l1Next.f l0_0 a0_1 a0_2 5 >>= fun t7 => ((spec_l1Next.f l0_0 t7.2.1 t7.2.2 6 >>= fun t15 => (if t15.1 = 0 then (spec_l1Word.f l0_0 t15.2.1 t15.2.2 >>= fun t19 => (some (t19.1, t19.2.1, t19.2.2))) else (some (IntKind.u64.wrap t7.1, t15.2.1, t15.2.2)))) >>= fun (j10 : Int × Int × Int) => (spec_l1Next.f l0_0 j10.2.1 j10.2.2 (IntKind.i64.wrap (a1 + 1)) >>= fun t23 => (spec_l1Next.f l0_0 t23.2.1 t23.2.2 3 >>= fun t27 => (spec_l2DrawSet.l0 l0_0 t23.1 (decide (t27.1 = 0)) j10.1 0 t27.2.1 t27.2.2 ([] : List S31) >>= fun (y69 : Lp (Int × Int × (List S31)) (Int × Int × (List S31))) => match y69 with | .a x71 => (((spec_l1Next.f l0_0 x71.1 x71.2.1 12 >>= fun t80 => (if t80.1 = 0 then (some (decide ((x71.2.2.length : Int) > 0), t80.2.1, t80.2.2)) else (some (false, t80.2.1, t80.2.2)))) >>= fun (j76 : Bool × Int × Int) => (if j76.1 = true then (if 0 ≤ IntKind.i64.wrap ((x71.2.2.length : Int) - 1) ∧ IntKind.i64.wrap ((x71.2.2.length : Int) - 1) < (x71.2.2.length : Int) then (some (j76.2.1, j76.2.2, (x71.2.2.set (IntKind.i64.wrap ((x71.2.2.length : Int) - 1)).toNat (⟨(rd z31 x71.2.2 (IntKind.i64.wrap ((x71.2.2.length : Int) - 1))).f0, 18446744073709551615⟩ : S31)))) else none) else (some (j76.2.1, j76.2.2, x71.2.2)))) >>= fun (j72 : Int × Int × (List S31)) => (some (j72.2.2, j72.1, j72.2.1))) | .b x71 => (some (x71.2.2, x71.1, x71.2.1)))))))
def spec_l2DrawSet.l0_M (cs1 : List Cell) (o1 : Nat) (l0_0 : List Int) (hv1 : Vw c_u8 1 cs1 o1 l0_0) (x0_1 : Int) (x0_2 : Bool) (x0_0 : Int) (x0_3 : Int) (x0_4 : Int) (x0_5 : Int) (x0_6 : (List S31)) (y : Lp (Int × Int × (List S31)) (Int × Int × (List S31))) : Prop := ∀ (K : AE → St → Prop), (∀ x, y = .a x → K (.exit 0) ⟨[(0, .c (.ptr (.arg 0) [] 0)), (5, .c (.ref (.tmp 12 0) [] 0 x.2.2.length))], [(.arg 0, ⟨.box, 0, [.ref (.arg 1) [] o1 l0_0.length, .sc (.int .i64 x.1), .sc (.int .u64 x.2.1)]⟩), (.arg 1, ⟨.fz, 1, cs1⟩), (.tmp 12 0, ⟨.lst, 2, encL c31 x.2.2⟩)], [], []⟩) → (∀ x, y = .b x → K .ret ⟨[(4, .c (.ref (.tmp 12 0) [] 0 x.2.2.length))], [(.arg 0, ⟨.box, 0, [.ref (.arg 1) [] o1 l0_0.length, .sc (.int .i64 x.1), .sc (.int .u64 x.2.1)]⟩), (.arg 1, ⟨.fz, 1, cs1⟩), (.tmp 12 0, ⟨.lst, 2, encL c31 x.2.2⟩)], [], []⟩) → loopS Try.prog 77 (.ga C108_l0) K ⟨[(0, .c (.ptr (.arg 0) [] 0)), (5, .c (.ref (.tmp 12 0) [] 0 x0_6.length)), (6, .c (.sc (.int .u64 x0_0))), (7, .c (.sc (.int .i64 x0_1))), (8, .c (.sc (.bool x0_2))), (9, .c (.sc (.int .i64 x0_3)))], [(.arg 0, ⟨.box, 0, [.ref (.arg 1) [] o1 l0_0.length, .sc (.int .i64 x0_4), .sc (.int .u64 x0_5)]⟩), (.arg 1, ⟨.fz, 1, cs1⟩), (.tmp 12 0, ⟨.lst, 2, encL c31 x0_6⟩)], [], []⟩
theorem spec_l2DrawSet.l0_walk (cs1 : List Cell) (o1 : Nat) (l0_0 : List Int) (hv1 : Vw c_u8 1 cs1 o1 l0_0) (x0_1 : Int) (x0_2 : Bool) (x0_0 : Int) (x0_3 : Int) (x0_4 : Int) (x0_5 : Int) (x0_6 : (List S31)) (y : Lp (Int × Int × (List S31)) (Int × Int × (List S31))) (h : spec_l2DrawSet.l0 l0_0 x0_1 x0_2 x0_0 x0_3 x0_4 x0_5 x0_6 = some y) : spec_l2DrawSet.l0_M cs1 o1 l0_0 hv1 x0_1 x0_2 x0_0 x0_3 x0_4 x0_5 x0_6 y := by
  refine spec_l2DrawSet.l0.partial_correctness l0_0 x0_1 x0_2 (motive := fun x0_0 x0_3 x0_4 x0_5 x0_6 y => spec_l2DrawSet.l0_M cs1 o1 l0_0 hv1 x0_1 x0_2 x0_0 x0_3 x0_4 x0_5 x0_6 y) ?_ x0_0 x0_3 x0_4 x0_5 x0_6 y h
  clear h
  unfold spec_l2DrawSet.l0_M
  intro rec ih x0_0 x0_3 x0_4 x0_5 x0_6 y h K hx0 hx1
  refine loop_unroll (ga_k fun G0 G0n G0r G0x => ?_)
  unfold C108_l0
  refine seq_k fun J33 hJ33 => ?_
  refine sr_k fun J34 hJ34 => ?_
  simp +decide only [Nat.reduceAdd, Nat.reduceMul, Int.reduceToNat, ak]
  refine hJ34 _ ?_
  refine cond_k (b := decide (x0_3 < x0_1)) rfl (fun c35 => ?_) (fun c35 => ?_)
  · replace c35 := of_decide_eq_true c35; rw [if_pos c35] at h
    refine hJ33 _ ?_
    refine seq_k fun J36 hJ36 => ?_
    refine block_k fun B37 B37n B37x B37r B37j => ?_
    refine sr_k fun J38 hJ38 => ?_
    simp +decide only [Nat.reduceAdd, Nat.reduceMul, Int.reduceToNat, ak]
    obtain ⟨t39, h40, h⟩ := of_bind h
    refine call_m [(.arg 0, ⟨(.arg 0), [], none, .box⟩), (.arg 1, ⟨(.arg 1), [], none, .fz⟩)] (s0 := [(.arg 0, ⟨.box, 0, [.ref (.arg 1) [] o1 l0_0.length, .sc (.int .i64 x0_4), .sc (.int .u64 x0_5)]⟩), (.arg 1, ⟨.fz, 1, cs1⟩)]) (by intro t ht; cases ht; decide) rfl rfl (by first | rfl | simp only [reduceCtorEq, Nat.reduceEqDiff, ak, akF]) (spec_l1Next.tri (cs1) o1 l0_0 hv1 x0_4 x0_5 6 _ h40) (by first | rfl | simp only [reduceCtorEq, Nat.reduceEqDiff, ak, akF]) (by simp [bkOk2, memK]) (fun hl40 => ?_)
    refine call_st (s4 := [(.arg 0, ⟨.box, 0, [.ref (.arg 1) [] o1 l0_0.length, .sc (.int .i64 t39.2.1), .sc (.int .u64 t39.2.2)]⟩), (.arg 1, ⟨.fz, 1, cs1⟩), (.tmp 12 0, ⟨.lst, 2, encL c31 x0_6⟩)]) (m1' := []) (m2' := []) (v' := .c (.sc (.int .i64 t39.1))) (Sto.mapN_killNil _ _) (mrgL_whole (new' := [.ref (.arg 1) [] o1 l0_0.length, .sc (.int .i64 t39.2.1), .sc (.int .u64 t39.2.2)]) (mrgL_fz (mrgL_nil' _ _ _) rfl (by first | rfl | simp only [reduceCtorEq, Nat.reduceEqDiff, ak]) rfl (by intro R hR hh; cases hR; cases hh.2)) rfl (by rfl) (.inl ⟨rfl, by first | rfl | simp only [reduceCtorEq, Nat.reduceEqDiff, ak, akF, Nat.zero_add, List.append_nil]⟩)) (by rfl) (mapT_killNil _ _) (by rfl) (by rfl) (by first | rfl | simp only [reduceCtorEq, Nat.reduceEqDiff, ak, akF, Nat.zero_add, List.append_nil]) ?_
    simp +decide only [Nat.reduceAdd, Nat.reduceMul, Int.reduceToNat, ak]
    refine hJ38 _ ?_
    refine sr_k fun J42 hJ42 => ?_
    simp +decide only [Nat.reduceAdd, Nat.reduceMul, Int.reduceToNat, ak]
    obtain ⟨t43, h44, h⟩ := of_bind h
    refine call_m [(.arg 0, ⟨(.arg 0), [], none, .box⟩), (.arg 1, ⟨(.arg 1), [], none, .fz⟩)] (s0 := [(.arg 0, ⟨.box, 0, [.ref (.arg 1) [] o1 l0_0.length, .sc (.int .i64 t39.2.1), .sc (.int .u64 t39.2.2)]⟩), (.arg 1, ⟨.fz, 1, cs1⟩)]) (by intro t ht; cases ht; decide) rfl rfl (by first | rfl | simp only [reduceCtorEq, Nat.reduceEqDiff, ak, akF]) (spec_l1Next.tri (cs1) o1 l0_0 hv1 t39.2.1 t39.2.2 6 _ h44) (by first | rfl | simp only [reduceCtorEq, Nat.reduceEqDiff, ak, akF]) (by simp [bkOk2, memK]) (fun hl44 => ?_)
    refine call_st (s4 := [(.arg 0, ⟨.box, 0, [.ref (.arg 1) [] o1 l0_0.length, .sc (.int .i64 t43.2.1), .sc (.int .u64 t43.2.2)]⟩), (.arg 1, ⟨.fz, 1, cs1⟩), (.tmp 12 0, ⟨.lst, 2, encL c31 x0_6⟩)]) (m1' := []) (m2' := []) (v' := .c (.sc (.int .i64 t43.1))) (Sto.mapN_killNil _ _) (mrgL_whole (new' := [.ref (.arg 1) [] o1 l0_0.length, .sc (.int .i64 t43.2.1), .sc (.int .u64 t43.2.2)]) (mrgL_fz (mrgL_nil' _ _ _) rfl (by first | rfl | simp only [reduceCtorEq, Nat.reduceEqDiff, ak]) rfl (by intro R hR hh; cases hR; cases hh.2)) rfl (by rfl) (.inl ⟨rfl, by first | rfl | simp only [reduceCtorEq, Nat.reduceEqDiff, ak, akF, Nat.zero_add, List.append_nil]⟩)) (by rfl) (mapT_killNil _ _) (by rfl) (by rfl) (by first | rfl | simp only [reduceCtorEq, Nat.reduceEqDiff, ak, akF, Nat.zero_add, List.append_nil]) ?_
    simp +decide only [Nat.reduceAdd, Nat.reduceMul, Int.reduceToNat, ak]
    refine hJ42 _ ?_
    obtain ⟨j46, h47, hn⟩ := of_bind h
    refine seq_j (fun st => st = ⟨[(0, .c (.ptr (.arg 0) [] 0)), (5, .c (.ref (.tmp 12 0) [] 0 x0_6.length)), (7, .c (.sc (.int .i64 x0_1))), (8, .c (.sc (.bool x0_2))), (9, .c (.sc (.int .i64 x0_3))), (10, .c (.sc (.int .u64 (IntKind.u64.wrap (x0_0 + (IntKind.u64.wrap t39.1)))))), (11, .c (.sc (.int .u64 j46.1)))], [(.arg 0, ⟨.box, 0, [.ref (.arg 1) [] o1 l0_0.length, .sc (.int .i64 j46.2.1), .sc (.int .u64 j46.2.2)]⟩), (.arg 1, ⟨.fz, 1, cs1⟩), (.tmp 12 0, ⟨.lst, 2, encL c31 x0_6⟩)], [], []⟩) (fun J48 hJ48 => ?_) ?_
    · replace h := h47; clear hn
      refine ga_k fun G49 G49n G49r G49x => ?_
      refine sr_k fun J50 hJ50 => ?_
      simp +decide only [Nat.reduceAdd, Nat.reduceMul, Int.reduceToNat, ak]
      refine hJ50 _ ?_
      refine cond_k (b := x0_2) rfl (fun c51 => ?_) (fun c51 => ?_)
      · rw [if_pos c51] at h
        refine reg_k ?_
        simp +decide only [Nat.reduceAdd, Nat.reduceMul, Int.reduceToNat, ak]
        obtain ⟨t52, h53, h⟩ := of_bind h
        refine call_m [(.arg 0, ⟨(.arg 0), [], none, .box⟩), (.arg 1, ⟨(.arg 1), [], none, .fz⟩)] (s0 := [(.arg 0, ⟨.box, 0, [.ref (.arg 1) [] o1 l0_0.length, .sc (.int .i64 t43.2.1), .sc (.int .u64 t43.2.2)]⟩), (.arg 1, ⟨.fz, 1, cs1⟩)]) (by intro t ht; cases ht; decide) rfl rfl (by first | rfl | simp only [reduceCtorEq, Nat.reduceEqDiff, ak, akF]) (spec_l1Next.tri (cs1) o1 l0_0 hv1 t43.2.1 t43.2.2 1099511627776 _ h53) (by first | rfl | simp only [reduceCtorEq, Nat.reduceEqDiff, ak, akF]) (by simp [bkOk2, memK]) (fun hl53 => ?_)
        refine call_st (s4 := [(.arg 0, ⟨.box, 0, [.ref (.arg 1) [] o1 l0_0.length, .sc (.int .i64 t52.2.1), .sc (.int .u64 t52.2.2)]⟩), (.arg 1, ⟨.fz, 1, cs1⟩), (.tmp 12 0, ⟨.lst, 2, encL c31 x0_6⟩)]) (m1' := []) (m2' := []) (v' := .c (.sc (.int .i64 t52.1))) (Sto.mapN_killNil _ _) (mrgL_whole (new' := [.ref (.arg 1) [] o1 l0_0.length, .sc (.int .i64 t52.2.1), .sc (.int .u64 t52.2.2)]) (mrgL_fz (mrgL_nil' _ _ _) rfl (by first | rfl | simp only [reduceCtorEq, Nat.reduceEqDiff, ak]) rfl (by intro R hR hh; cases hR; cases hh.2)) rfl (by rfl) (.inl ⟨rfl, by first | rfl | simp only [reduceCtorEq, Nat.reduceEqDiff, ak, akF, Nat.zero_add, List.append_nil]⟩)) (by rfl) (mapT_killNil _ _) (by rfl) (by rfl) (by first | rfl | simp only [reduceCtorEq, Nat.reduceEqDiff, ak, akF, Nat.zero_add, List.append_nil]) ?_
        simp +decide only [Nat.reduceAdd, Nat.reduceMul, Int.reduceToNat, ak]
        obtain rfl := Option.some.inj h
        refine G49n _ _ (wk [0, 5, 7, 8, 9, 10, 11] [pI (.arg 0) .box, pI (.arg 1) .fz, pI (.tmp 12 0) .lst]) (hJ48 _ rfl)
      · rw [if_neg (Bool.eq_false_iff.1 c51)] at h
        obtain rfl := Option.some.inj h
        refine G49n _ _ (wk [0, 5, 7, 8, 9, 10, 11] [pI (.arg 0) .box, pI (.arg 1) .fz, pI (.tmp 12 0) .lst]) (hJ48 _ rfl)
    · replace h := hn; clear hn h47
      rintro _ rfl
      refine seq_k fun J55 hJ55 => ?_
      refine sr_k fun J56 hJ56 => ?_
      simp +decide only [Nat.reduceAdd, Nat.reduceMul, Int.reduceToNat, ak]
      refine hJ56 _ ?_
      refine cond_k (b := decide (j46.1 < IntKind.u64.wrap (x0_0 + (IntKind.u64.wrap t39.1)))) rfl (fun c57 => ?_) (fun c57 => ?_)
      · replace c57 := of_decide_eq_true c57; rw [if_pos c57] at h
        refine sr_k fun J58 hJ58 => ?_
        simp +decide only [Nat.reduceAdd, Nat.reduceMul, Int.reduceToNat, ak]
        refine hJ58 _ ?_
        obtain rfl := Option.some.inj h
        refine gh_k (wk [4] [pI (.arg 0) .box, pI (.arg 1) .fz, pI (.tmp 12 0) .lst]) ?_
        refine B37r _ ?_
        refine G0r _ ?_
        exact hx1 _ rfl
      · replace c57 := of_decide_eq_false c57; rw [if_neg c57] at h
        refine hJ55 _ ?_
        refine sr_k fun J59 hJ59 => ?_
        have g60 : (List.replicate 1 ([.int .u64 0, .int .u64 0] : List Value)).flatten = [.int .u64 0, .int .u64 0] := rfl
        have g61 : (⟨.lst, 2, [.sc (.int .u64 (IntKind.u64.wrap (x0_0 + (IntKind.u64.wrap t39.1)))), .sc (.int .u64 j46.1)]⟩ : Root) = ⟨.lst, 2, encL c31 ([(⟨IntKind.u64.wrap (x0_0 + (IntKind.u64.wrap t39.1)), j46.1⟩ : S31)] : List S31)⟩ := rfl
        have g62 : ([(⟨IntKind.u64.wrap (x0_0 + (IntKind.u64.wrap t39.1)), j46.1⟩ : S31)] : List S31).length = 1 := rfl
        have g63 : (encL c31 ([(⟨IntKind.u64.wrap (x0_0 + (IntKind.u64.wrap t39.1)), j46.1⟩ : S31)] : List S31)).length = 1 * 2 := by simp [encL_length c31_w]
        have g64 : (encL c31 ([(⟨IntKind.u64.wrap (x0_0 + (IntKind.u64.wrap t39.1)), j46.1⟩ : S31)] : List S31)).all nd = true := rfl
        obtain ⟨b65, h⟩ := of_guard h
        have g66 : appLim x0_6.length 1 16 := ⟨b65, by have := b65; omega⟩
        have g67 : (encL c31 x0_6).length = x0_6.length * 2 := by simp [encL_length c31_w]
        have g68 : encL c31 x0_6 ++ encL c31 ([(⟨IntKind.u64.wrap (x0_0 + (IntKind.u64.wrap t39.1)), j46.1⟩ : S31)] : List S31) = encL c31 (x0_6 ++ ([(⟨IntKind.u64.wrap (x0_0 + (IntKind.u64.wrap t39.1)), j46.1⟩ : S31)] : List S31)) := (encL_append _ _).symm
        simp +decide only [Nat.reduceAdd, Nat.reduceMul, Int.reduceToNat, ak, g60, g61, g62, g63, g64, g66, g67, g68]
        refine hJ59 _ ?_
        refine reg_k ?_
        simp +decide only [Nat.reduceAdd, Nat.reduceMul, Int.reduceToNat, ak]
        refine B37n _ ?_
        refine hJ36 _ ?_
        refine reg_k ?_
        simp +decide only [Nat.reduceAdd, Nat.reduceMul, Int.reduceToNat, ak]
        refine G0n _ _ (wk [0, 5, 6, 7, 8, 9] [pI (.arg 0) .box, pI (.arg 1) .fz, pI (.tmp 12 0) .lst] (h0 := by first | rfl | simp +decide only [ak, akF, b65]) (h := by first | rfl | (simp +decide only [ak, akF, b65]; done) | (simp +decide [ak, akF, b65] <;> omega))) (ih _ _ _ _ _ _ h K hx0 hx1)
  · replace c35 := of_decide_eq_false c35; rw [if_neg c35] at h
    obtain rfl := Option.some.inj h
    refine gh_k (wk [0, 5] [pI (.arg 0) .box, pI (.arg 1) .fz, pI (.tmp 12 0) .lst]) ?_
    refine G0x _ _ ?_
    exact hx0 _ rfl
theorem spec_l2DrawSet.tri (cs1 : List Cell) (o1 : Nat) (l0_0 : List Int) (hv1 : Vw c_u8 1 cs1 o1 l0_0) (a0_1 : Int) (a0_2 : Int) (a1 : Int) (r : (List S31) × Int × Int) (h : spec_l2DrawSet.f l0_0 a0_1 a0_2 a1 = some r) : Tri Try.prog 108 [.c (.ptr (.arg 0) [] 0), .c (.sc (.int .i64 a1))] [(.arg 0, ⟨.box, 0, [.ref (.arg 1) [] o1 l0_0.length, .sc (.int .i64 a0_1), .sc (.int .u64 a0_2)]⟩), (.arg 1, ⟨.fz, 1, cs1⟩)] (fun o => o = ⟨.c (.ref (.res 0) [] 0 r.1.length), [(.arg 0, ⟨.box, 0, [.ref (.arg 1) [] o1 l0_0.length, .sc (.int .i64 r.2.1), .sc (.int .u64 r.2.2)]⟩), (.arg 1, ⟨.fz, 1, cs1⟩), (.res 0, ⟨.lst, 2, encL c31 r.1⟩)], [], []⟩) := by
  refine tri_of_body (ac := C108) (xs := r108) Try.func108 (show Try.f108.body = some (Try.f108.body.getD .skip) from rfl) k108 q108 (Nat.le_of_ble_eq_true rfl) ?_
  refine body_of fun K hKn hKr => ?_
  unfold spec_l2DrawSet.f at h
  unfold C108
  simp only [initT, Nat.reduceAdd]
  refine sr_k fun J1 hJ1 => ?_
  simp +decide only [Nat.reduceAdd, Nat.reduceMul, Int.reduceToNat, ak]
  refine gho_k (Weak.nm' 4 (.tmp 4 20) 2 (encL c31 ([] : List S31)) rfl rfl rfl) ?_
  simp +decide only [Nat.reduceAdd, Nat.reduceMul, Int.reduceToNat, ak]
  refine hJ1 _ ?_
  refine sr_k fun J2 hJ2 => ?_
  have g3 : (List.replicate 0 ([.int .u64 0, .int .u64 0] : List Value)).flatten = [] := rfl
  have g4 : (⟨.lst, 2, []⟩ : Root) = ⟨.lst, 2, encL c31 ([] : List S31)⟩ := rfl
  have g5 : ([] : List S31).length = 0 := rfl
  simp +decide only [Nat.reduceAdd, Nat.reduceMul, Int.reduceToNat, ak, g3, g4, g5]
  refine hJ2 _ ?_
  refine sr_k fun J6 hJ6 => ?_
  simp +decide only [Nat.reduceAdd, Nat.reduceMul, Int.reduceToNat, ak]
  obtain ⟨t7, h8, h⟩ := of_bind h
  refine call_m [(.arg 0, ⟨(.arg 0), [], none, .box⟩), (.arg 1, ⟨(.arg 1), [], none, .fz⟩)] (s0 := [(.arg 0, ⟨.box, 0, [.ref (.arg 1) [] o1 l0_0.length, .sc (.int .i64 a0_1), .sc (.int .u64 a0_2)]⟩), (.arg 1, ⟨.fz, 1, cs1⟩)]) (by intro t ht; cases ht; decide) rfl rfl (by first | rfl | simp only [reduceCtorEq, Nat.reduceEqDiff, ak, akF, g3, g4, g5]) (spec_l1Next.tri (cs1) o1 l0_0 hv1 a0_1 a0_2 5 _ h8) (by first | rfl | simp only [reduceCtorEq, Nat.reduceEqDiff, ak, akF]) (by simp [bkOk2, memK]) (fun hl8 => ?_)
  refine call_st (s4 := [(.arg 0, ⟨.box, 0, [.ref (.arg 1) [] o1 l0_0.length, .sc (.int .i64 t7.2.1), .sc (.int .u64 t7.2.2)]⟩), (.arg 1, ⟨.fz, 1, cs1⟩), (.tmp 4 20, ⟨.lst, 2, encL c31 ([] : List S31)⟩), (.tmp 12 0, ⟨.lst, 2, encL c31 ([] : List S31)⟩)]) (m1' := []) (m2' := []) (v' := .c (.sc (.int .i64 t7.1))) (Sto.mapN_killNil _ _) (mrgL_whole (new' := [.ref (.arg 1) [] o1 l0_0.length, .sc (.int .i64 t7.2.1), .sc (.int .u64 t7.2.2)]) (mrgL_fz (mrgL_nil' _ _ _) rfl (by first | rfl | simp only [reduceCtorEq, Nat.reduceEqDiff, ak, g3, g4, g5]) rfl (by intro R hR hh; cases hR; cases hh.2)) rfl (by rfl) (.inl ⟨rfl, by first | rfl | simp only [reduceCtorEq, Nat.reduceEqDiff, ak, akF, Nat.zero_add, List.append_nil]⟩)) (by rfl) (mapT_killNil _ _) (by rfl) (by rfl) (by first | rfl | simp only [reduceCtorEq, Nat.reduceEqDiff, ak, akF, Nat.zero_add, List.append_nil]) ?_
  simp +decide only [Nat.reduceAdd, Nat.reduceMul, Int.reduceToNat, ak]
  refine hJ6 _ ?_
  obtain ⟨j10, h11, hn⟩ := of_bind h
  refine seq_j (fun st => st = ⟨[(0, .c (.ptr (.arg 0) [] 0)), (1, .c (.sc (.int .i64 a1))), (5, .c (.ref (.tmp 12 0) [] 0 (([] : List S31).length))), (6, .c (.sc (.int .u64 j10.1)))], [(.arg 0, ⟨.box, 0, [.ref (.arg 1) [] o1 l0_0.length, .sc (.int .i64 j10.2.1), .sc (.int .u64 j10.2.2)]⟩), (.arg 1, ⟨.fz, 1, cs1⟩), (.tmp 12 0, ⟨.lst, 2, encL c31 ([] : List S31)⟩)], [], []⟩) (fun J12 hJ12 => ?_) ?_
  · replace h := h11; clear hn
    refine ga_k fun G13 G13n G13r G13x => ?_
    refine sr_k fun J14 hJ14 => ?_
    simp +decide only [Nat.reduceAdd, Nat.reduceMul, Int.reduceToNat, ak]
    obtain ⟨t15, h16, h⟩ := of_bind h
    refine call_m [(.arg 0, ⟨(.arg 0), [], none, .box⟩), (.arg 1, ⟨(.arg 1), [], none, .fz⟩)] (s0 := [(.arg 0, ⟨.box, 0, [.ref (.arg 1) [] o1 l0_0.length, .sc (.int .i64 t7.2.1), .sc (.int .u64 t7.2.2)]⟩), (.arg 1, ⟨.fz, 1, cs1⟩)]) (by intro t ht; cases ht; decide) rfl rfl (by first | rfl | simp only [reduceCtorEq, Nat.reduceEqDiff, ak, akF, g3, g4, g5]) (spec_l1Next.tri (cs1) o1 l0_0 hv1 t7.2.1 t7.2.2 6 _ h16) (by first | rfl | simp only [reduceCtorEq, Nat.reduceEqDiff, ak, akF]) (by simp [bkOk2, memK]) (fun hl16 => ?_)
    refine call_st (s4 := [(.arg 0, ⟨.box, 0, [.ref (.arg 1) [] o1 l0_0.length, .sc (.int .i64 t15.2.1), .sc (.int .u64 t15.2.2)]⟩), (.arg 1, ⟨.fz, 1, cs1⟩), (.tmp 4 20, ⟨.lst, 2, encL c31 ([] : List S31)⟩), (.tmp 12 0, ⟨.lst, 2, encL c31 ([] : List S31)⟩)]) (m1' := []) (m2' := []) (v' := .c (.sc (.int .i64 t15.1))) (Sto.mapN_killNil _ _) (mrgL_whole (new' := [.ref (.arg 1) [] o1 l0_0.length, .sc (.int .i64 t15.2.1), .sc (.int .u64 t15.2.2)]) (mrgL_fz (mrgL_nil' _ _ _) rfl (by first | rfl | simp only [reduceCtorEq, Nat.reduceEqDiff, ak, g3, g4, g5]) rfl (by intro R hR hh; cases hR; cases hh.2)) rfl (by rfl) (.inl ⟨rfl, by first | rfl | simp only [reduceCtorEq, Nat.reduceEqDiff, ak, akF, Nat.zero_add, List.append_nil]⟩)) (by rfl) (mapT_killNil _ _) (by rfl) (by rfl) (by first | rfl | simp only [reduceCtorEq, Nat.reduceEqDiff, ak, akF, Nat.zero_add, List.append_nil]) ?_
    simp +decide only [Nat.reduceAdd, Nat.reduceMul, Int.reduceToNat, ak]
    refine hJ14 _ ?_
    refine cond_k (b := decide (t15.1 = 0)) rfl (fun c18 => ?_) (fun c18 => ?_)
    · replace c18 := of_decide_eq_true c18; rw [if_pos c18] at h
      refine reg_k ?_
      simp +decide only [Nat.reduceAdd, Nat.reduceMul, Int.reduceToNat, ak]
      obtain ⟨t19, h20, h⟩ := of_bind h
      refine call_m [(.arg 0, ⟨(.arg 0), [], none, .box⟩), (.arg 1, ⟨(.arg 1), [], none, .fz⟩)] (s0 := [(.arg 0, ⟨.box, 0, [.ref (.arg 1) [] o1 l0_0.length, .sc (.int .i64 t15.2.1), .sc (.int .u64 t15.2.2)]⟩), (.arg 1, ⟨.fz, 1, cs1⟩)]) (by intro t ht; cases ht; decide) rfl rfl (by first | rfl | simp only [reduceCtorEq, Nat.reduceEqDiff, ak, akF, g3, g4, g5]) (spec_l1Word.tri (cs1) o1 l0_0 hv1 t15.2.1 t15.2.2 _ h20) (by first | rfl | simp only [reduceCtorEq, Nat.reduceEqDiff, ak, akF]) (by simp [bkOk2, memK]) (fun hl20 => ?_)
      refine call_st (s4 := [(.arg 0, ⟨.box, 0, [.ref (.arg 1) [] o1 l0_0.length, .sc (.int .i64 t19.2.1), .sc (.int .u64 t19.2.2)]⟩), (.arg 1, ⟨.fz, 1, cs1⟩), (.tmp 4 20, ⟨.lst, 2, encL c31 ([] : List S31)⟩), (.tmp 12 0, ⟨.lst, 2, encL c31 ([] : List S31)⟩)]) (m1' := []) (m2' := []) (v' := .c (.sc (.int .u64 t19.1))) (Sto.mapN_killNil _ _) (mrgL_whole (new' := [.ref (.arg 1) [] o1 l0_0.length, .sc (.int .i64 t19.2.1), .sc (.int .u64 t19.2.2)]) (mrgL_fz (mrgL_nil' _ _ _) rfl (by first | rfl | simp only [reduceCtorEq, Nat.reduceEqDiff, ak, g3, g4, g5]) rfl (by intro R hR hh; cases hR; cases hh.2)) rfl (by rfl) (.inl ⟨rfl, by first | rfl | simp only [reduceCtorEq, Nat.reduceEqDiff, ak, akF, Nat.zero_add, List.append_nil]⟩)) (by rfl) (mapT_killNil _ _) (by rfl) (by rfl) (by first | rfl | simp only [reduceCtorEq, Nat.reduceEqDiff, ak, akF, Nat.zero_add, List.append_nil]) ?_
      simp +decide only [Nat.reduceAdd, Nat.reduceMul, Int.reduceToNat, ak]
      obtain rfl := Option.some.inj h
      refine G13n _ _ (wk [0, 1, 5, 6] [pI (.arg 0) .box, pI (.arg 1) .fz, pI (.tmp 12 0) .lst] (h := by first | rfl | (simp +decide only [ak, akF]; done) | (simp +decide [ak, akF] <;> omega))) (hJ12 _ rfl)
    · replace c18 := of_decide_eq_false c18; rw [if_neg c18] at h
      obtain rfl := Option.some.inj h
      refine G13n _ _ (wk [0, 1, 5, 6] [pI (.arg 0) .box, pI (.arg 1) .fz, pI (.tmp 12 0) .lst] (h := by first | rfl | (simp +decide only [ak, akF]; done) | (simp +decide [ak, akF] <;> omega))) (hJ12 _ rfl)
  · replace h := hn; clear hn h11
    rintro _ rfl
    refine sr_k fun J22 hJ22 => ?_
    simp +decide only [Nat.reduceAdd, Nat.reduceMul, Int.reduceToNat, ak]
    obtain ⟨t23, h24, h⟩ := of_bind h
    refine call_m [(.arg 0, ⟨(.arg 0), [], none, .box⟩), (.arg 1, ⟨(.arg 1), [], none, .fz⟩)] (s0 := [(.arg 0, ⟨.box, 0, [.ref (.arg 1) [] o1 l0_0.length, .sc (.int .i64 j10.2.1), .sc (.int .u64 j10.2.2)]⟩), (.arg 1, ⟨.fz, 1, cs1⟩)]) (by intro t ht; cases ht; decide) rfl rfl (by first | rfl | simp only [reduceCtorEq, Nat.reduceEqDiff, ak, akF, g3, g4, g5]) (spec_l1Next.tri (cs1) o1 l0_0 hv1 j10.2.1 j10.2.2 (IntKind.i64.wrap (a1 + 1)) _ h24) (by first | rfl | simp only [reduceCtorEq, Nat.reduceEqDiff, ak, akF]) (by simp [bkOk2, memK]) (fun hl24 => ?_)
    refine call_st (s4 := [(.arg 0, ⟨.box, 0, [.ref (.arg 1) [] o1 l0_0.length, .sc (.int .i64 t23.2.1), .sc (.int .u64 t23.2.2)]⟩), (.arg 1, ⟨.fz, 1, cs1⟩), (.tmp 12 0, ⟨.lst, 2, encL c31 ([] : List S31)⟩)]) (m1' := []) (m2' := []) (v' := .c (.sc (.int .i64 t23.1))) (Sto.mapN_killNil _ _) (mrgL_whole (new' := [.ref (.arg 1) [] o1 l0_0.length, .sc (.int .i64 t23.2.1), .sc (.int .u64 t23.2.2)]) (mrgL_fz (mrgL_nil' _ _ _) rfl (by first | rfl | simp only [reduceCtorEq, Nat.reduceEqDiff, ak, g3, g4, g5]) rfl (by intro R hR hh; cases hR; cases hh.2)) rfl (by rfl) (.inl ⟨rfl, by first | rfl | simp only [reduceCtorEq, Nat.reduceEqDiff, ak, akF, Nat.zero_add, List.append_nil]⟩)) (by rfl) (mapT_killNil _ _) (by rfl) (by rfl) (by first | rfl | simp only [reduceCtorEq, Nat.reduceEqDiff, ak, akF, Nat.zero_add, List.append_nil]) ?_
    simp +decide only [Nat.reduceAdd, Nat.reduceMul, Int.reduceToNat, ak]
    refine hJ22 _ ?_
    refine sr_k fun J26 hJ26 => ?_
    simp +decide only [Nat.reduceAdd, Nat.reduceMul, Int.reduceToNat, ak]
    obtain ⟨t27, h28, h⟩ := of_bind h
    refine call_m [(.arg 0, ⟨(.arg 0), [], none, .box⟩), (.arg 1, ⟨(.arg 1), [], none, .fz⟩)] (s0 := [(.arg 0, ⟨.box, 0, [.ref (.arg 1) [] o1 l0_0.length, .sc (.int .i64 t23.2.1), .sc (.int .u64 t23.2.2)]⟩), (.arg 1, ⟨.fz, 1, cs1⟩)]) (by intro t ht; cases ht; decide) rfl rfl (by first | rfl | simp only [reduceCtorEq, Nat.reduceEqDiff, ak, akF, g3, g4, g5]) (spec_l1Next.tri (cs1) o1 l0_0 hv1 t23.2.1 t23.2.2 3 _ h28) (by first | rfl | simp only [reduceCtorEq, Nat.reduceEqDiff, ak, akF]) (by simp [bkOk2, memK]) (fun hl28 => ?_)
    refine call_st (s4 := [(.arg 0, ⟨.box, 0, [.ref (.arg 1) [] o1 l0_0.length, .sc (.int .i64 t27.2.1), .sc (.int .u64 t27.2.2)]⟩), (.arg 1, ⟨.fz, 1, cs1⟩), (.tmp 12 0, ⟨.lst, 2, encL c31 ([] : List S31)⟩)]) (m1' := []) (m2' := []) (v' := .c (.sc (.int .i64 t27.1))) (Sto.mapN_killNil _ _) (mrgL_whole (new' := [.ref (.arg 1) [] o1 l0_0.length, .sc (.int .i64 t27.2.1), .sc (.int .u64 t27.2.2)]) (mrgL_fz (mrgL_nil' _ _ _) rfl (by first | rfl | simp only [reduceCtorEq, Nat.reduceEqDiff, ak, g3, g4, g5]) rfl (by intro R hR hh; cases hR; cases hh.2)) rfl (by rfl) (.inl ⟨rfl, by first | rfl | simp only [reduceCtorEq, Nat.reduceEqDiff, ak, akF, Nat.zero_add, List.append_nil]⟩)) (by rfl) (mapT_killNil _ _) (by rfl) (by rfl) (by first | rfl | simp only [reduceCtorEq, Nat.reduceEqDiff, ak, akF, Nat.zero_add, List.append_nil]) ?_
    simp +decide only [Nat.reduceAdd, Nat.reduceMul, Int.reduceToNat, ak]
    refine hJ26 _ ?_
    refine seq_k fun J30 hJ30 => ?_
    refine sr_k fun J31 hJ31 => ?_
    simp +decide only [Nat.reduceAdd, Nat.reduceMul, Int.reduceToNat, ak]
    refine hJ31 _ ?_
    refine block_k fun B32 B32n B32x B32r B32j => ?_
    obtain ⟨y69, h70, h⟩ := of_bind h
    refine gh_k (wk [0, 5, 6, 7, 8, 9] [pI (.arg 0) .box, pI (.arg 1) .fz, pI (.tmp 12 0) .lst]) ?_
    rw [e_loop]
    refine spec_l2DrawSet.l0_walk cs1 o1 l0_0 hv1 t23.1 (decide (t27.1 = 0)) j10.1 0 t27.2.1 t27.2.2 ([] : List S31) _ h70 _ ?_ ?_
    · rintro x71 rfl
      dsimp only at h
      refine B32x _ ?_
      refine hJ30 _ ?_
      obtain ⟨j72, h73, hn⟩ := of_bind h
      refine seq_j (fun st => st = ⟨[(5, .c (.ref (.tmp 12 0) [] 0 j72.2.2.length))], [(.arg 0, ⟨.box, 0, [.ref (.arg 1) [] o1 l0_0.length, .sc (.int .i64 j72.1), .sc (.int .u64 j72.2.1)]⟩), (.arg 1, ⟨.fz, 1, cs1⟩), (.tmp 12 0, ⟨.lst, 2, encL c31 j72.2.2⟩)], [], []⟩) (fun J74 hJ74 => ?_) ?_
      · replace h := h73; clear hn
        refine ga_k fun G75 G75n G75r G75x => ?_
        obtain ⟨j76, h77, hn⟩ := of_bind h
        refine seq_j (fun st => st = ⟨[(5, .c (.ref (.tmp 12 0) [] 0 x71.2.2.length)), (69, .c (.sc (.bool j76.1)))], [(.arg 0, ⟨.box, 0, [.ref (.arg 1) [] o1 l0_0.length, .sc (.int .i64 j76.2.1), .sc (.int .u64 j76.2.2)]⟩), (.arg 1, ⟨.fz, 1, cs1⟩), (.tmp 12 0, ⟨.lst, 2, encL c31 x71.2.2⟩)], [], []⟩) (fun J78 hJ78 => ?_) ?_
        · replace h := h77; clear hn
          refine ga_k fun G79 G79n G79r G79x => ?_
          refine reg_k ?_
          simp +decide only [Nat.reduceAdd, Nat.reduceMul, Int.reduceToNat, ak]
          obtain ⟨t80, h81, h⟩ := of_bind h
          refine call_m [(.arg 0, ⟨(.arg 0), [], none, .box⟩), (.arg 1, ⟨(.arg 1), [], none, .fz⟩)] (s0 := [(.arg 0, ⟨.box, 0, [.ref (.arg 1) [] o1 l0_0.length, .sc (.int .i64 x71.1), .sc (.int .u64 x71.2.1)]⟩), (.arg 1, ⟨.fz, 1, cs1⟩)]) (by intro t ht; cases ht; decide) rfl rfl (by first | rfl | simp only [reduceCtorEq, Nat.reduceEqDiff, ak, akF, g3, g4, g5]) (spec_l1Next.tri (cs1) o1 l0_0 hv1 x71.1 x71.2.1 12 _ h81) (by first | rfl | simp only [reduceCtorEq, Nat.reduceEqDiff, ak, akF]) (by simp [bkOk2, memK]) (fun hl81 => ?_)
          refine call_st (s4 := [(.arg 0, ⟨.box, 0, [.ref (.arg 1) [] o1 l0_0.length, .sc (.int .i64 t80.2.1), .sc (.int .u64 t80.2.2)]⟩), (.arg 1, ⟨.fz, 1, cs1⟩), (.tmp 12 0, ⟨.lst, 2, encL c31 x71.2.2⟩)]) (m1' := []) (m2' := []) (v' := .c (.sc (.int .i64 t80.1))) (Sto.mapN_killNil _ _) (mrgL_whole (new' := [.ref (.arg 1) [] o1 l0_0.length, .sc (.int .i64 t80.2.1), .sc (.int .u64 t80.2.2)]) (mrgL_fz (mrgL_nil' _ _ _) rfl (by first | rfl | simp only [reduceCtorEq, Nat.reduceEqDiff, ak, g3, g4, g5]) rfl (by intro R hR hh; cases hR; cases hh.2)) rfl (by rfl) (.inl ⟨rfl, by first | rfl | simp only [reduceCtorEq, Nat.reduceEqDiff, ak, akF, Nat.zero_add, List.append_nil]⟩)) (by rfl) (mapT_killNil _ _) (by rfl) (by rfl) (by first | rfl | simp only [reduceCtorEq, Nat.reduceEqDiff, ak, akF, Nat.zero_add, List.append_nil]) ?_
          simp +decide only [Nat.reduceAdd, Nat.reduceMul, Int.reduceToNat, ak]
          by_cases c83 : t80.1 = 0
          · rw [if_pos c83] at h
            have e84 : decide (t80.1 = 0) = true := decide_eq_true c83
            simp +decide only [Nat.reduceAdd, Nat.reduceMul, Int.reduceToNat, ak, e84]
            obtain rfl := Option.some.inj h
            refine G79n _ _ (wk [5, 69] [pI (.arg 0) .box, pI (.arg 1) .fz, pI (.tmp 12 0) .lst] (h0 := by first | rfl | simp +decide only [ak, akF, e84]) (h := by first | rfl | (simp +decide only [ak, akF, e84]; done) | (simp +decide [ak, akF, e84] <;> omega))) (hJ78 _ rfl)
          · rw [if_neg c83] at h
            have e85 : decide (t80.1 = 0) = false := decide_eq_false c83
            simp +decide only [Nat.reduceAdd, Nat.reduceMul, Int.reduceToNat, ak, e85]
            obtain rfl := Option.some.inj h
            refine G79n _ _ (wk [5, 69] [pI (.arg 0) .box, pI (.arg 1) .fz, pI (.tmp 12 0) .lst] (h0 := by first | rfl | simp +decide only [ak, akF, e85]) (h := by first | rfl | (simp +decide only [ak, akF, e85]; done) | (simp +decide [ak, akF, e85] <;> omega))) (hJ78 _ rfl)
        · replace h := hn; clear hn h77
          rintro _ rfl
          refine cond_k (b := j76.1) rfl (fun c86 => ?_) (fun c86 => ?_)
          · rw [if_pos c86] at h
            refine reg_k ?_
            obtain ⟨b87, h⟩ := of_guard h
            have g88 : 0 + (IntKind.i64.wrap ((x71.2.2.length : Int) - 1)).toNat * 2 + 1 ≤ (encL c31 x71.2.2).length := ((Vw.whole c31_w x71.2.2).len_le b87.1 b87.2 (by decide))
            have g89 : 0 + (IntKind.i64.wrap ((x71.2.2.length : Int) - 1)).toNat * 2 + 1 + 1 ≤ (encL c31 x71.2.2).length := (Vw.whole c31_w x71.2.2).le b87.1 b87.2 (j := 1) (q := 1) (by decide)
            have g90 : 0 + (IntKind.i64.wrap ((x71.2.2.length : Int) - 1)).toNat * 2 + 1 < (encL c31 x71.2.2).length := (Vw.whole c31_w x71.2.2).lt b87.1 b87.2 (j := 1) (by decide)
            have g91 : (encL c31 x71.2.2)[0 + (IntKind.i64.wrap ((x71.2.2.length : Int) - 1)).toNat * 2 + 1]? = some (.sc (.int .u64 ((rd z31 x71.2.2 (IntKind.i64.wrap ((x71.2.2.length : Int) - 1))).f1))) := (Vw.whole c31_w x71.2.2).get z31 1 b87.1 b87.2 (by decide)
            have g92 : (encL c31 x71.2.2).set (0 + (IntKind.i64.wrap ((x71.2.2.length : Int) - 1)).toNat * 2 + 1) (.sc (.int .u64 18446744073709551615)) = encL c31 (x71.2.2.set (IntKind.i64.wrap ((x71.2.2.length : Int) - 1)).toNat (⟨(rd z31 x71.2.2 (IntKind.i64.wrap ((x71.2.2.length : Int) - 1))).f0, 18446744073709551615⟩ : S31)) := encL_put c31_w z31 b87.1 b87.2 (j := 1) (by decide) rfl
            simp +decide only [Nat.reduceAdd, Nat.reduceMul, Int.reduceToNat, ak, b87, g88, g89, g90, g91, g92]
            obtain rfl := Option.some.inj h
            refine G75n _ _ (wk [5] [pI (.arg 0) .box, pI (.arg 1) .fz, pI (.tmp 12 0) .lst] (h0 := by first | rfl | simp +decide only [ak, akF, b87]) (h := by first | rfl | (simp +decide only [ak, akF, b87]; done) | (simp +decide [ak, akF, b87] <;> omega))) (hJ74 _ rfl)
          · rw [if_neg (Bool.eq_false_iff.1 c86)] at h
            obtain rfl := Option.some.inj h
            refine G75n _ _ (wk [5] [pI (.arg 0) .box, pI (.arg 1) .fz, pI (.tmp 12 0) .lst]) (hJ74 _ rfl)
      · replace h := hn; clear hn h73
        rintro _ rfl
        refine sr_k fun J93 hJ93 => ?_
        simp +decide only [Nat.reduceAdd, Nat.reduceMul, Int.reduceToNat, ak]
        refine hJ93 _ ?_
        obtain rfl := Option.some.inj h
        refine hKr _ ⟨_, rfl, [⟨(.tmp 12 0), [], none, .lst⟩], _, rfl, rfl, ?_⟩
        first | rfl | (simp only [reduceCtorEq, Nat.reduceEqDiff, ak, akF]; done) | (simp [reduceCtorEq, Nat.reduceEqDiff, ak, akF] <;> omega)
    · rintro x71 rfl
      dsimp only at h
      refine B32r _ ?_
      obtain rfl := Option.some.inj h
      refine hKr _ ⟨_, rfl, [⟨(.tmp 12 0), [], none, .lst⟩], _, rfl, rfl, ?_⟩
      first | rfl | (simp only [reduceCtorEq, Nat.reduceEqDiff, ak, akF]; done) | (simp [reduceCtorEq, Nat.reduceEqDiff, ak, akF] <;> omega)
/-! ### spec.l2DrawArgs: function 70 -/
def C70_l0 : AC := .seq (.seq (.reg [.op none (.mv 21 (.tmp 7)), .op none (.mv 22 (.tmp 6)), .op none (.bin 23 .lss (.tmp 21) (.tmp 22)), .keep [3, 4, 5, 6, 7, 23]]) (.cond (.tmp 23) (.skip) (.gh (.exit 0)))) (.seq (.block 1 (.reg [.op none (.mv 26 (.tmp 5)), .op none (.mv 27 (.tmp 7)), .op none (.bin 28 .mul (.const (.int .i64 4)) (.tmp 27)), .op none (.bin 29 .add (.tmp 28) (.const (.int .i64 2))), .op none (.conv 30 .u64 (.tmp 29)), .op none (.mv 31 (.tmp 7)), .op none (.bin 32 .mul (.const (.int .i64 4)) (.tmp 31)), .op none (.bin 33 .add (.tmp 32) (.const (.int .i64 4))), .op none (.conv 34 .u64 (.tmp 33)), .op none (.build 35 [.int .u64 0, .int .u64 0] [(0, 1, .tmp 30), (1, 1, .tmp 34)]), .op none (.bslice 36 2 [.int .u64 0, .int .u64 0] 1 [(0, .tmp 35)]), .op none (.app 37 2 16 true (.tmp 26) (.tmp 36)), .op none (.mv 5 (.tmp 37)), .keep [3, 4, 5, 6, 7]])) (.reg [.op none (.mv 24 (.tmp 7)), .op none (.bin 25 .add (.tmp 24) (.const (.int .i64 1))), .op none (.mv 7 (.tmp 25)), .keep [3, 4, 5, 6, 7]]))
def C70 : AC := .seq (.reg [.op none (.mv 2 (.const (.slice none 0 0))), .gh, .op none (.alloc 3 [.int .u64 0, .int .u64 0]), .keep [0, 3]]) (.seq (.reg [.op none (.mv 14 (.tmp 0)), .call none (some 15) 91 [.tmp 14], .op none (.alloc 4 [.slice none 0 0, .int .i64 0, .int .u64 0]), .gh, .op none (.store 3 (.tmp 4) (.tmp 15)), .keep [3, 4]]) (.seq (.reg [.call none (some 16) 108 [.tmp 4, .const (.int .i64 12)], .op none (.mv 5 (.tmp 16)), .keep [3, 4, 5]]) (.seq (.seq (.reg [.call none (some 17) 92 [.tmp 4, .const (.int .i64 20)], .op none (.bin 18 .eql (.tmp 17) (.const (.int .i64 0))), .keep [3, 4, 5, 18]]) (.cond (.tmp 18) (.seq (.reg [.op none (.mv 5 (.const (.slice none 0 0))), .gh, .keep [3, 4, 5]]) (.seq (.reg [.call none (some 19) 92 [.tmp 4, .const (.int .i64 3)], .op none (.bin 20 .add (.const (.int .i64 999)) (.tmp 19)), .op none (.mv 6 (.tmp 20)), .keep [3, 4, 5, 6]]) (.seq (.seq (.reg [.op none (.mv 7 (.const (.int .i64 0))), .keep [3, 4, 5, 6, 7]]) (.block 0 (.gh (.loop (.ga C70_l0))))) (.seq (.reg [.call none (some 38) 92 [.tmp 4, .const (.int .i64 4100)], .op none (.conv 39 .u64 (.tmp 38)), .op none (.mv 8 (.tmp 39)), .keep [3, 4, 5, 8]]) (.seq (.reg [.op none (.mv 40 (.tmp 5)), .op none (.mv 41 (.tmp 8)), .op none (.mv 42 (.tmp 8)), .call none (some 43) 92 [.tmp 4, .const (.int .i64 3)], .op none (.conv 44 .u64 (.tmp 43)), .op none (.bin 45 .add (.tmp 42) (.tmp 44)), .call none (some 46) 92 [.tmp 4, .const (.int .i64 2)], .op none (.bin 47 .mul (.tmp 46) (.const (.int .i64 5000))), .op none (.conv 48 .u64 (.tmp 47)), .op none (.bin 49 .add (.tmp 45) (.tmp 48)), .op none (.build 50 [.int .u64 0, .int .u64 0] [(0, 1, .tmp 41), (1, 1, .tmp 49)]), .op none (.mv 2 (.tmp 40)), .op none (.store 2 (.tmp 3) (.tmp 50)), .keep [2, 3]]) (.ret)))))) (.skip))) (.seq (.reg [.call none (some 51) 92 [.tmp 4, .const (.int .i64 90)], .op none (.conv 52 .u64 (.tmp 51)), .op none (.mv 9 (.tmp 52)), .keep [3, 4, 5, 9]]) (.seq (.ga (.seq (.ga (.reg [.op none (.mv 53 (.tmp 5)), .op none (.len 54 (.tmp 53)), .op none (.bin 55 .gtr (.tmp 54) (.const (.int .i64 0))), .op none (.mv 56 (.tmp 55)), .call (some (56, true)) (some 57) 92 [.tmp 4, .const (.int .i64 3)], .op (some (56, true)) (.bin 58 .gtr (.tmp 57) (.const (.int .i64 0))), .op none (.pick 59 (.tmp 56) (.tmp 58) (.const (.bool false))), .keep [3, 4, 5, 9, 59]])) (.cond (.tmp 59) (.seq (.reg [.op none (.mv 60 (.tmp 5)), .op none (.mv 61 (.tmp 5)), .op none (.len 62 (.tmp 61)), .call none (some 63) 92 [.tmp 4, .tmp 62], .op none (.iaddr 64 2 (.tmp 60) (.tmp 63)), .op none (.load 65 true 2 (.tmp 64)), .op none (.alloc 10 [.int .u64 0, .int .u64 0]), .op none (.store 2 (.tmp 10) (.tmp 65)), .keep [3, 4, 5, 10]]) (.seq (.reg [.op none (.faddr 66 0 (.tmp 10)), .op none (.load 67 false 1 (.tmp 66)), .op none (.mv 9 (.tmp 67)), .keep [3, 4, 5, 9, 10]]) (.seq (.ga (.seq (.reg [.call none (some 68) 92 [.tmp 4, .const (.int .i64 2)], .op none (.bin 69 .eql (.tmp 68) (.const (.int .i64 0))), .keep [3, 4, 5, 9, 10, 69]]) (.cond (.tmp 69) (.reg [.op none (.faddr 70 1 (.tmp 10)), .op none (.load 71 false 1 (.tmp 70)), .op none (.mv 9 (.tmp 71)), .keep [3, 4, 5, 9]]) (.skip)))) (.reg [.op none (.mv 72 (.tmp 9)), .call none (some 73) 92 [.tmp 4, .const (.int .i64 3)], .op none (.conv 74 .u64 (.tmp 73)), .op none (.bin 75 .add (.tmp 72) (.tmp 74)), .op none (.bin 76 .sub (.tmp 75) (.const (.int .u64 1))), .op none (.mv 9 (.tmp 76)), .keep [3, 4, 5, 9]])))) (.skip)))) (.seq (.reg [.op none (.mv 77 (.tmp 9)), .op none (.mv 78 (.tmp 9)), .call none (some 79) 92 [.tmp 4, .const (.int .i64 25)], .op none (.conv 80 .u64 (.tmp 79)), .op none (.bin 81 .add (.tmp 78) (.tmp 80)), .op none (.build 82 [.int .u64 0, .int .u64 0] [(0, 1, .tmp 77), (1, 1, .tmp 81)]), .op none (.alloc 11 [.int .u64 0, .int .u64 0]), .op none (.store 2 (.tmp 11) (.tmp 82)), .keep [3, 4, 5, 11]]) (.seq (.reg [.call none (some 83) 92 [.tmp 4, .const (.int .i64 20)], .op none (.mv 12 (.tmp 83)), .keep [3, 4, 5, 11, 12]]) (.seq (.ga (.seq (.reg [.op none (.mv 84 (.tmp 12)), .op none (.bin 85 .eql (.tmp 84) (.const (.int .i64 0))), .keep [3, 4, 5, 11, 12, 85]]) (.cond (.tmp 85) (.reg [.op none (.faddr 86 0 (.tmp 11)), .op none (.load 87 false 1 (.tmp 86)), .op none (.bin 88 .sub (.tmp 87) (.const (.int .u64 1))), .op none (.faddr 89 1 (.tmp 11)), .op none (.store 1 (.tmp 89) (.tmp 88)), .keep [3, 5, 11]]) (.seq (.reg [.op none (.mv 90 (.tmp 12)), .op none (.bin 91 .eql (.tmp 90) (.const (.int .i64 1))), .keep [3, 4, 5, 11, 12, 91]]) (.cond (.tmp 91) (.reg [.op none (.faddr 92 1 (.tmp 11)), .op none (.store 1 (.tmp 92) (.const (.int .u64 18446744073709551615))), .keep [3, 5, 11]]) (.seq (.reg [.op none (.mv 93 (.tmp 12)), .op none (.bin 94 .eql (.tmp 93) (.const (.int .i64 2))), .keep [3, 4, 5, 11, 12, 94]]) (.cond (.tmp 94) (.reg [.op none (.build 95 [.int .u64 0, .int .u64 0] [(1, 1, .const (.int .u64 18446744073709551615))]), .op none (.store 2 (.tmp 11) (.tmp 95)), .keep [3, 5, 11]]) (.seq (.ga (.reg [.op none (.mv 96 (.tmp 12)), .op none (.bin 97 .eql (.tmp 96) (.const (.int .i64 3))), .op none (.mv 98 (.tmp 97)), .op (some (98, true)) (.mv 99 (.tmp 5)), .op (some (98, true)) (.len 100 (.tmp 99)), .op (some (98, true)) (.bin 101 .gtr (.tmp 100) (.const (.int .i64 1))), .op none (.pick 102 (.tmp 98) (.tmp 101) (.const (.bool false))), .keep [3, 4, 5, 11, 12, 102]])) (.cond (.tmp 102) (.seq (.reg [.op none (.mv 103 (.tmp 5)), .op none (.len 104 (.tmp 103)), .op none (.bin 105 .sub (.tmp 104) (.const (.int .i64 1))), .call none (some 106) 92 [.tmp 4, .tmp 105], .op none (.bin 107 .add (.const (.int .i64 1)) (.tmp 106)), .op none (.mv 13 (.tmp 107)), .keep [3, 4, 5, 11, 13]]) (.regD (.first (.op none (.mv 108 (.tmp 5))) (.first (.op none (.mv 109 (.tmp 13))) (.first (.op none (.mv 110 (.tmp 5))) (.first (.op none (.mv 111 (.tmp 13))) (.first (.op none (.bin 112 .sub (.tmp 111) (.const (.int .i64 1)))) (.first (.op none (.iaddr 113 2 (.tmp 110) (.tmp 112))) (.first (.op none (.faddr 114 1 (.tmp 113))) (.pin [13, 12, 11, 10] (.op none (.load 115 false 1 (.tmp 114))) (.alt (.call none (some 116) 92 [.tmp 4, .const (.int .i64 2)]) none (.first (.op none (.conv 117 .u64 (.tmp 116))) (.pin [13, 12, 11] (.op none (.bin 118 .sub (.tmp 115) (.tmp 117))) (.pin [13, 12] (.op none (.iaddr 119 2 (.tmp 108) (.tmp 109))) (.pin [13] (.op none (.faddr 120 0 (.tmp 119))) (.alt (.op none (.store 1 (.tmp 120) (.tmp 118))) (some 13) (.done) (.stop)))))) (.stop)))))))))) [3, 5, 11])) (.seq (.ga (.reg [.op none (.mv 121 (.tmp 12)), .op none (.bin 122 .eql (.tmp 121) (.const (.int .i64 4))), .op none (.mv 123 (.tmp 122)), .op (some (123, true)) (.mv 124 (.tmp 5)), .op (some (123, true)) (.len 125 (.tmp 124)), .op (some (123, true)) (.bin 126 .gtr (.tmp 125) (.const (.int .i64 0))), .op none (.pick 127 (.tmp 123) (.tmp 126) (.const (.bool false))), .keep [3, 5, 11, 127]])) (.cond (.tmp 127) (.reg [.op none (.mv 128 (.tmp 5)), .op none (.mv 129 (.tmp 5)), .op none (.iaddr 130 2 (.tmp 129) (.const (.int .i64 0))), .op none (.faddr 131 0 (.tmp 130)), .op none (.load 132 false 1 (.tmp 131)), .op none (.iaddr 133 2 (.tmp 128) (.const (.int .i64 0))), .op none (.faddr 134 1 (.tmp 133)), .op none (.store 1 (.tmp 134) (.tmp 132)), .keep [3, 5, 11]]) (.skip)))))))))))) (.seq (.regD (.first (.op none (.mv 135 (.tmp 5))) (.first (.op none (.load 136 true 2 (.tmp 11))) (.first (.op none (.mv 2 (.tmp 135))) (.alt (.op none (.store 2 (.tmp 3) (.tmp 136))) none (.done) (.stop))))) [2, 3]) (.ret))))))))))
def r70 : List RV := [.tmp 2, .cell 3 true 2]
theorem k70 : compC Try.prog 137 C70 (Try.f70.body.getD .skip) = some C70.erase := by kernel_rfl
theorem q70 : rvsOf Try.prog Try.f70.results.toList = some r70 := by kernel_rfl
def spec_l2DrawArgs.l0 (l0 : List Int) (x0_0 : Int) (x0_2 : Int) (x0_3 : Int) (x0_4 : Int) (x0_5 : Int) (x0_1 : Int) (x0_6 : (List S31)) : Option (List S31) := (if x0_1 < x0_0 then (if (x0_6.length + 1) * 16 ≤ 140737488355328 then (spec_l2DrawArgs.l0 l0 x0_0 x0_2 x0_3 x0_4 x0_5 (IntKind.i64.wrap (x0_1 + 1)) (x0_6 ++ ([(⟨IntKind.u64.wrap (IntKind.i64.wrap ((IntKind.i64.wrap (4 * x0_1)) + 2)), IntKind.u64.wrap (IntKind.i64.wrap ((IntKind.i64.wrap (4 * x0_1)) + 4))⟩ : S31)] : List S31))) else none) else (some x0_6))
  partial_fixpoint
def spec_l2DrawArgs.f (l0 : List Int) : Option ((List S31) × Int × Int) := (spec_l1Begin.f l0 >>= fun t3 => (spec_l2DrawSet.f l0 t3.1 t3.2 12 >>= fun t7 => (spec_l1Next.f l0 t7.2.1 t7.2.2 20 >>= fun t12 => (if t12.1 = 0 then (spec_l1Next.f l0 t12.2.1 t12.2.2 3 >>= fun t18 => (spec_l2DrawArgs.l0 l0 (IntKind.i64.wrap (999 + t18.1)) 0 0 t18.2.1 t18.2.2 0 ([] : List S31) >>= fun (y38 : (List S31)) => (spec_l1Next.f l0 t18.2.1 t18.2.2 4100 >>= fun t41 => (spec_l1Next.f l0 t41.2.1 t41.2.2 3 >>= fun t45 => (spec_l1Next.f l0 t45.2.1 t45.2.2 2 >>= fun t48 => (some (y38, IntKind.u64.wrap t41.1, IntKind.u64.wrap ((IntKind.u64.wrap ((IntKind.u64.wrap t41.1) + (IntKind.u64.wrap t45.1))) + (IntKind.u64.wrap (IntKind.i64.wrap (t48.1 * 5000))))))))))) else (spec_l1Next.f l0 t12.2.1 t12.2.2 90 >>= fun t52 => (((if (t7.1.length : Int) > 0 then (spec_l1Next.f l0 t52.2.1 t52.2.2 3 >>= fun t65 => (some (decide (t65.1 > 0), t65.2.1, t65.2.2))) else (some (false, t52.2.1, t52.2.2))) >>= fun (j59 : Bool × Int × Int) => (if j59.1 = true then (spec_l1Next.f l0 j59.2.1 j59.2.2 (t7.1.length : Int) >>= fun t71 => (if 0 ≤ t71.1 ∧ t71.1 < (t7.1.length : Int) then ((spec_l1Next.f l0 t71.2.1 t71.2.2 2 >>= fun t82 => (if t82.1 = 0 then (some ((rd z31 t7.1 t71.1).f1, t82.2.1, t82.2.2)) else (some ((rd z31 t7.1 t71.1).f0, t82.2.1, t82.2.2)))) >>= fun (j77 : Int × Int × Int) => (spec_l1Next.f l0 j77.2.1 j77.2.2 3 >>= fun t86 => (some (IntKind.u64.wrap ((IntKind.u64.wrap (j77.1 + (IntKind.u64.wrap t86.1))) - 1), t86.2.1, t86.2.2)))) else none)) else (some (IntKind.u64.wrap t52.1, j59.2.1, j59.2.2)))) >>= fun (j55 : Int × Int × Int) => (spec_l1Next.f l0 j55.2.1 j55.2.2 25 >>= fun t90 => (spec_l1Next.f l0 t90.2.1 t90.2.2 20 >>= fun t94 => ((if t94.1 = 0 then (some (t7.1, j55.1, IntKind.u64.wrap (j55.1 - 1))) else (if t94.1 = 1 then (some (t7.1, j55.1, 18446744073709551615)) else (if t94.1 = 2 then (some (t7.1, 0, 18446744073709551615)) else ((if t94.1 = 3 then (some (decide ((t7.1.length : Int) > 1))) else (some false)) >>= fun (j107 : Bool) => (if j107 = true then (spec_l1Next.f l0 t94.2.1 t94.2.2 (IntKind.i64.wrap ((t7.1.length : Int) - 1)) >>= fun t116 => (if 0 ≤ IntKind.i64.wrap ((IntKind.i64.wrap (1 + t116.1)) - 1) ∧ IntKind.i64.wrap ((IntKind.i64.wrap (1 + t116.1)) - 1) < (t7.1.length : Int) then (spec_l1Next.f l0 t116.2.1 t116.2.2 2 >>= fun t122 => (if 0 ≤ IntKind.i64.wrap (1 + t116.1) ∧ IntKind.i64.wrap (1 + t116.1) < (t7.1.length : Int) then (some ((t7.1.set (IntKind.i64.wrap (1 + t116.1)).toNat (⟨IntKind.u64.wrap (((rd z31 t7.1 (IntKind.i64.wrap ((IntKind.i64.wrap (1 + t116.1)) - 1))).f1) - (IntKind.u64.wrap t122.1)), (rd z31 t7.1 (IntKind.i64.wrap (1 + t116.1))).f1⟩ : S31)), j55.1, IntKind.u64.wrap (j55.1 + (IntKind.u64.wrap t90.1)))) else none)) else none)) else ((if t94.1 = 4 then (some (decide ((t7.1.length : Int) > 0))) else (some false)) >>= fun (j145 : Bool) => (if j145 = true then (if (0 : Int) ≤ 0 ∧ 0 < (t7.1.length : Int) then (some ((t7.1.set 0 (⟨(rd z31 t7.1 0).f0, (rd z31 t7.1 0).f0⟩ : S31)), j55.1, IntKind.u64.wrap (j55.1 + (IntKind.u64.wrap t90.1)))) else none) else (some (t7.1, j55.1, IntKind.u64.wrap (j55.1 + (IntKind.u64.wrap t90.1))))))))))) >>= fun (j97 : (List S31) × Int × Int) => (some (j97.1, j97.2.1, j97.2.2)))))))))))
def spec_l2DrawArgs.l0_M (cs0 : List Cell) (o0 : Nat) (l0 : List Int) (hv0 : Vw c_u8 1 cs0 o0 l0) (x0_0 : Int) (x0_2 : Int) (x0_3 : Int) (x0_4 : Int) (x0_5 : Int) (x0_1 : Int) (x0_6 : (List S31)) (y : (List S31)) : Prop := ∀ (K : AE → St → Prop), (K (.exit 0) ⟨[(3, .c (.ptr (.tmp 3 0) [] 0)), (4, .c (.ptr (.tmp 4 0) [] 0)), (5, .c (.ref (.tmp 5 20) [] 0 y.length))], [(.arg 0, ⟨.fz, 1, cs0⟩), (.tmp 3 0, ⟨.box, 0, [.sc (.int .u64 x0_2), .sc (.int .u64 x0_3)]⟩), (.tmp 4 0, ⟨.box, 0, [.ref (.arg 0) [] o0 l0.length, .sc (.int .i64 x0_4), .sc (.int .u64 x0_5)]⟩), (.tmp 5 20, ⟨.lst, 2, encL c31 y⟩)], [], []⟩) → loopS Try.prog 137 (.ga C70_l0) K ⟨[(3, .c (.ptr (.tmp 3 0) [] 0)), (4, .c (.ptr (.tmp 4 0) [] 0)), (5, .c (.ref (.tmp 5 20) [] 0 x0_6.length)), (6, .c (.sc (.int .i64 x0_0))), (7, .c (.sc (.int .i64 x0_1)))], [(.arg 0, ⟨.fz, 1, cs0⟩), (.tmp 3 0, ⟨.box, 0, [.sc (.int .u64 x0_2), .sc (.int .u64 x0_3)]⟩), (.tmp 4 0, ⟨.box, 0, [.ref (.arg 0) [] o0 l0.length, .sc (.int .i64 x0_4), .sc (.int .u64 x0_5)]⟩), (.tmp 5 20, ⟨.lst, 2, encL c31 x0_6⟩)], [], []⟩
theorem spec_l2DrawArgs.l0_walk (cs0 : List Cell) (o0 : Nat) (l0 : List Int) (hv0 : Vw c_u8 1 cs0 o0 l0) (x0_0 : Int) (x0_2 : Int) (x0_3 : Int) (x0_4 : Int) (x0_5 : Int) (x0_1 : Int) (x0_6 : (List S31)) (y : (List S31)) (h : spec_l2DrawArgs.l0 l0 x0_0 x0_2 x0_3 x0_4 x0_5 x0_1 x0_6 = some y) : spec_l2DrawArgs.l0_M cs0 o0 l0 hv0 x0_0 x0_2 x0_3 x0_4 x0_5 x0_1 x0_6 y := by
  refine spec_l2DrawArgs.l0.partial_correctness l0 x0_0 x0_2 x0_3 x0_4 x0_5 (motive := fun x0_1 x0_6 y => spec_l2DrawArgs.l0_M cs0 o0 l0 hv0 x0_0 x0_2 x0_3 x0_4 x0_5 x0_1 x0_6 y) ?_ x0_1 x0_6 y h
  clear h
  unfold spec_l2DrawArgs.l0_M
  intro rec ih x0_1 x0_6 y h K hx0
  refine loop_unroll (ga_k fun G0 G0n G0r G0x => ?_)
  unfold C70_l0
  refine seq_k fun J24 hJ24 => ?_
  refine sr_k fun J25 hJ25 => ?_
  simp +decide only [Nat.reduceAdd, Nat.reduceMul, Int.reduceToNat, ak]
  refine hJ25 _ ?_
  refine cond_k (b := decide (x0_1 < x0_0)) rfl (fun c26 => ?_) (fun c26 => ?_)
  · replace c26 := of_decide_eq_true c26; rw [if_pos c26] at h
    refine hJ24 _ ?_
    refine seq_k fun J27 hJ27 => ?_
    refine block_k fun B28 B28n B28x B28r B28j => ?_
    refine reg_k ?_
    have g29 : (List.replicate 1 ([.int .u64 0, .int .u64 0] : List Value)).flatten = [.int .u64 0, .int .u64 0] := rfl
    have g30 : (⟨.lst, 2, [.sc (.int .u64 (IntKind.u64.wrap (IntKind.i64.wrap ((IntKind.i64.wrap (4 * x0_1)) + 2)))), .sc (.int .u64 (IntKind.u64.wrap (IntKind.i64.wrap ((IntKind.i64.wrap (4 * x0_1)) + 4))))]⟩ : Root) = ⟨.lst, 2, encL c31 ([(⟨IntKind.u64.wrap (IntKind.i64.wrap ((IntKind.i64.wrap (4 * x0_1)) + 2)), IntKind.u64.wrap (IntKind.i64.wrap ((IntKind.i64.wrap (4 * x0_1)) + 4))⟩ : S31)] : List S31)⟩ := rfl
    have g31 : ([(⟨IntKind.u64.wrap (IntKind.i64.wrap ((IntKind.i64.wrap (4 * x0_1)) + 2)), IntKind.u64.wrap (IntKind.i64.wrap ((IntKind.i64.wrap (4 * x0_1)) + 4))⟩ : S31)] : List S31).length = 1 := rfl
    have g32 : (encL c31 ([(⟨IntKind.u64.wrap (IntKind.i64.wrap ((IntKind.i64.wrap (4 * x0_1)) + 2)), IntKind.u64.wrap (IntKind.i64.wrap ((IntKind.i64.wrap (4 * x0_1)) + 4))⟩ : S31)] : List S31)).length = 1 * 2 := by simp [encL_length c31_w]
    have g33 : (encL c31 ([(⟨IntKind.u64.wrap (IntKind.i64.wrap ((IntKind.i64.wrap (4 * x0_1)) + 2)), IntKind.u64.wrap (IntKind.i64.wrap ((IntKind.i64.wrap (4 * x0_1)) + 4))⟩ : S31)] : List S31)).all nd = true := rfl
    obtain ⟨b34, h⟩ := of_guard h
    have g35 : appLim x0_6.length 1 16 := ⟨b34, by have := b34; omega⟩
    have g36 : (encL c31 x0_6).length = x0_6.length * 2 := by simp [encL_length c31_w]
    have g37 : encL c31 x0_6 ++ encL c31 ([(⟨IntKind.u64.wrap (IntKind.i64.wrap ((IntKind.i64.wrap (4 * x0_1)) + 2)), IntKind.u64.wrap (IntKind.i64.wrap ((IntKind.i64.wrap (4 * x0_1)) + 4))⟩ : S31)] : List S31) = encL c31 (x0_6 ++ ([(⟨IntKind.u64.wrap (IntKind.i64.wrap ((IntKind.i64.wrap (4 * x0_1)) + 2)), IntKind.u64.wrap (IntKind.i64.wrap ((IntKind.i64.wrap (4 * x0_1)) + 4))⟩ : S31)] : List S31)) := (encL_append _ _).symm
    simp +decide only [Nat.reduceAdd, Nat.reduceMul, Int.reduceToNat, ak, g29, g30, g31, g32, g33, g35, g36, g37]
    refine B28n _ ?_
    refine hJ27 _ ?_
    refine reg_k ?_
    simp +decide only [Nat.reduceAdd, Nat.reduceMul, Int.reduceToNat, ak]
    refine G0n _ _ (wk [3, 4, 5, 6, 7] [pI (.arg 0) .fz, pI (.tmp 3 0) .box, pI (.tmp 4 0) .box, pI (.tmp 5 20) .lst] (h0 := by first | rfl | simp +decide only [ak, akF, b34]) (h := by first | rfl | (simp +decide only [ak, akF, b34]; done) | (simp +decide [ak, akF, b34] <;> omega))) (ih _ _ _ h K hx0)
  · replace c26 := of_decide_eq_false c26; rw [if_neg c26] at h
    obtain rfl := Option.some.inj h
    refine gh_k (wk [3, 4, 5] [pI (.arg 0) .fz, pI (.tmp 3 0) .box, pI (.tmp 4 0) .box, pI (.tmp 5 20) .lst]) ?_
    refine G0x _ _ ?_
    exact hx0
theorem spec_l2DrawArgs.tri (cs0 : List Cell) (o0 : Nat) (l0 : List Int) (hv0 : Vw c_u8 1 cs0 o0 l0) (r : (List S31) × Int × Int) (h : spec_l2DrawArgs.f l0 = some r) : Tri Try.prog 70 [.c (.ref (.arg 0) [] o0 l0.length)] [(.arg 0, ⟨.fz, 1, cs0⟩)] (fun o => o = ⟨.tup [(false, [.ref (.res 0) [] 0 r.1.length]), (true, [.sc (.int .u64 r.2.1), .sc (.int .u64 r.2.2)])], [(.arg 0, ⟨.fz, 1, cs0⟩), (.res 0, ⟨.lst, 2, encL c31 r.1⟩)], [], []⟩) := by
  refine tri_of_body (ac := C70) (xs := r70) Try.func70 (show Try.f70.body = some (Try.f70.body.getD .skip) from rfl) k70 q70 (Nat.le_of_ble_eq_true rfl) ?_
  refine body_of fun K hKn hKr => ?_
  unfold spec_l2DrawArgs.f at h
  unfold C70
  simp only [initT, Nat.reduceAdd]
  refine sr_k fun J1 hJ1 => ?_
  simp +decide only [Nat.reduceAdd, Nat.reduceMul, Int.reduceToNat, ak]
  refine gho_k (Weak.nm' 2 (.tmp 2 20) 2 (encL c31 ([] : List S31)) rfl rfl rfl) ?_
  simp +decide only [Nat.reduceAdd, Nat.reduceMul, Int.reduceToNat, ak]
  refine hJ1 _ ?_
  refine sr_k fun J2 hJ2 => ?_
  simp +decide only [Nat.reduceAdd, Nat.reduceMul, Int.reduceToNat, ak]
  obtain ⟨t3, h4, h⟩ := of_bind h
  refine call_m [(.arg 0, ⟨(.arg 0), [], none, .fz⟩)] (s0 := [(.arg 0, ⟨.fz, 1, cs0⟩)]) (by intro t ht; cases ht; decide) rfl rfl (by first | rfl | simp only [reduceCtorEq, Nat.reduceEqDiff, ak, akF]) (spec_l1Begin.tri (cs0) o0 l0 hv0 _ h4) (by first | rfl | simp only [reduceCtorEq, Nat.reduceEqDiff, ak, akF]) (by simp [bkOk2, memK]) (fun hl4 => ?_)
  refine call_st (s4 := [(.arg 0, ⟨.fz, 1, cs0⟩), (.tmp 2 20, ⟨.lst, 2, encL c31 ([] : List S31)⟩), (.tmp 3 0, ⟨.box, 0, [.sc (.int .u64 0), .sc (.int .u64 0)]⟩)]) (m1' := []) (m2' := []) (v' := .g [.ref (.arg 0) [] o0 l0.length, .sc (.int .i64 t3.1), .sc (.int .u64 t3.2)]) (Sto.mapN_killNil _ _) (mrgL_fz (mrgL_nil' _ _ _) rfl (by first | rfl | simp only [reduceCtorEq, Nat.reduceEqDiff, ak]) rfl (by intro R hR hh; cases hR; cases hh.2)) (by rfl) (mapT_killNil _ _) (by rfl) (by rfl) (by first | rfl | simp only [reduceCtorEq, Nat.reduceEqDiff, ak, akF, Nat.zero_add, List.append_nil]) ?_
  simp +decide only [Nat.reduceAdd, Nat.reduceMul, Int.reduceToNat, ak]
  refine gho_k (Weak.own (.tmp 4 0) (cs' := [.own 1 (([] : List Int).length) (encL c_u8 ([] : List Int)), .sc (.int .i64 0), .sc (.int .u64 0)]) rfl ⟨.inr ⟨rfl, _, rfl⟩, .inl rfl, .inl rfl, trivial⟩) ?_
  simp +decide only [Nat.reduceAdd, Nat.reduceMul, Int.reduceToNat, ak]
  refine hJ2 _ ?_
  refine sr_k fun J6 hJ6 => ?_
  simp +decide only [Nat.reduceAdd, Nat.reduceMul, Int.reduceToNat, ak]
  obtain ⟨t7, h8, h⟩ := of_bind h
  refine call_m [(.arg 0, ⟨(.tmp 4 0), [], none, .box⟩), (.arg 1, ⟨(.arg 0), [], none, .fz⟩)] (s0 := [(.arg 0, ⟨.box, 0, [.ref (.arg 1) [] o0 l0.length, .sc (.int .i64 t3.1), .sc (.int .u64 t3.2)]⟩), (.arg 1, ⟨.fz, 1, cs0⟩)]) (by intro t ht; cases ht; decide) rfl rfl (by first | rfl | simp only [reduceCtorEq, Nat.reduceEqDiff, ak, akF]) (spec_l2DrawSet.tri (cs0) o0 l0 hv0 t3.1 t3.2 12 _ h8) (by first | rfl | simp only [reduceCtorEq, Nat.reduceEqDiff, ak, akF]) (by simp [bkOk2, memK]) (fun hl8 => ?_)
  refine call_st (s4 := [(.arg 0, ⟨.fz, 1, cs0⟩), (.tmp 2 20, ⟨.lst, 2, encL c31 ([] : List S31)⟩), (.tmp 3 0, ⟨.box, 0, [.sc (.int .u64 0), .sc (.int .u64 0)]⟩), (.tmp 4 0, ⟨.box, 0, [.ref (.arg 0) [] o0 l0.length, .sc (.int .i64 t7.2.1), .sc (.int .u64 t7.2.2)]⟩), (.tmp 16 0, ⟨.lst, 2, encL c31 t7.1⟩)]) (m1' := []) (m2' := []) (v' := .c (.ref (.tmp 16 0) [] 0 t7.1.length)) (Sto.mapN_killNil _ _) (mrgL_whole (new' := [.ref (.arg 0) [] o0 l0.length, .sc (.int .i64 t7.2.1), .sc (.int .u64 t7.2.2)]) (mrgL_fz (mrgL_nil' _ _ _) rfl (by first | rfl | simp only [reduceCtorEq, Nat.reduceEqDiff, ak]) rfl (by intro R hR hh; cases hR; cases hh.2)) rfl (by rfl) (.inl ⟨rfl, by first | rfl | simp only [reduceCtorEq, Nat.reduceEqDiff, ak, akF, Nat.zero_add, List.append_nil]⟩)) (by rfl) (mapT_killNil _ _) (by rfl) (by rfl) (by first | rfl | simp only [reduceCtorEq, Nat.reduceEqDiff, ak, akF, Nat.zero_add, List.append_nil]) ?_
  simp +decide only [Nat.reduceAdd, Nat.reduceMul, Int.reduceToNat, ak]
  refine hJ6 _ ?_
  refine seq_k fun J10 hJ10 => ?_
  refine sr_k fun J11 hJ11 => ?_
  simp +decide only [Nat.reduceAdd, Nat.reduceMul, Int.reduceToNat, ak]
  obtain ⟨t12, h13, h⟩ := of_bind h
  refine call_m [(.arg 0, ⟨(.tmp 4 0), [], none, .box⟩), (.arg 1, ⟨(.arg 0), [], none, .fz⟩)] (s0 := [(.arg 0, ⟨.box, 0, [.ref (.arg 1) [] o0 l0.length, .sc (.int .i64 t7.2.1), .sc (.int .u64 t7.2.2)]⟩), (.arg 1, ⟨.fz, 1, cs0⟩)]) (by intro t ht; cases ht; decide) rfl rfl (by first | rfl | simp only [reduceCtorEq, Nat.reduceEqDiff, ak, akF]) (spec_l1Next.tri (cs0) o0 l0 hv0 t7.2.1 t7.2.2 20 _ h13) (by first | rfl | simp only [reduceCtorEq, Nat.reduceEqDiff, ak, akF]) (by simp [bkOk2, memK]) (fun hl13 => ?_)
  refine call_st (s4 := [(.arg 0, ⟨.fz, 1, cs0⟩), (.tmp 2 20, ⟨.lst, 2, encL c31 ([] : List S31)⟩), (.tmp 3 0, ⟨.box, 0, [.sc (.int .u64 0), .sc (.int .u64 0)]⟩), (.tmp 4 0, ⟨.box, 0, [.ref (.arg 0) [] o0 l0.length, .sc (.int .i64 t12.2.1), .sc (.int .u64 t12.2.2)]⟩), (.tmp 16 0, ⟨.lst, 2, encL c31 t7.1⟩)]) (m1' := []) (m2' := []) (v' := .c (.sc (.int .i64 t12.1))) (Sto.mapN_killNil _ _) (mrgL_whole (new' := [.ref (.arg 0) [] o0 l0.length, .sc (.int .i64 t12.2.1), .sc (.int .u64 t12.2.2)]) (mrgL_fz (mrgL_nil' _ _ _) rfl (by first | rfl | simp only [reduceCtorEq, Nat.reduceEqDiff, ak]) rfl (by intro R hR hh; cases hR; cases hh.2)) rfl (by rfl) (.inl ⟨rfl, by first | rfl | simp only [reduceCtorEq, Nat.reduceEqDiff, ak, akF, Nat.zero_add, List.append_nil]⟩)) (by rfl) (mapT_killNil _ _) (by rfl) (by rfl) (by first | rfl | simp only [reduceCtorEq, Nat.reduceEqDiff, ak, akF, Nat.zero_add, List.append_nil]) ?_
  simp +decide only [Nat.reduceAdd, Nat.reduceMul, Int.reduceToNat, ak]
  refine hJ11 _ ?_
  refine cond_k (b := decide (t12.1 = 0)) rfl (fun c15 => ?_) (fun c15 => ?_)
  · replace c15 := of_decide_eq_true c15; rw [if_pos c15] at h
    refine sr_k fun J16 hJ16 => ?_
    simp +decide only [Nat.reduceAdd, Nat.reduceMul, Int.reduceToNat, ak]
    refine gho_k (Weak.nm' 5 (.tmp 5 20) 2 (encL c31 ([] : List S31)) rfl rfl rfl) ?_
    simp +decide only [Nat.reduceAdd, Nat.reduceMul, Int.reduceToNat, ak]
    refine hJ16 _ ?_
    refine sr_k fun J17 hJ17 => ?_
    simp +decide only [Nat.reduceAdd, Nat.reduceMul, Int.reduceToNat, ak]
    obtain ⟨t18, h19, h⟩ := of_bind h
    refine call_m [(.arg 0, ⟨(.tmp 4 0), [], none, .box⟩), (.arg 1, ⟨(.arg 0), [], none, .fz⟩)] (s0 := [(.arg 0, ⟨.box, 0, [.ref (.arg 1) [] o0 l0.length, .sc (.int .i64 t12.2.1), .sc (.int .u64 t12.2.2)]⟩), (.arg 1, ⟨.fz, 1, cs0⟩)]) (by intro t ht; cases ht; decide) rfl rfl (by first | rfl | simp only [reduceCtorEq, Nat.reduceEqDiff, ak, akF]) (spec_l1Next.tri (cs0) o0 l0 hv0 t12.2.1 t12.2.2 3 _ h19) (by first | rfl | simp only [reduceCtorEq, Nat.reduceEqDiff, ak, akF]) (by simp [bkOk2, memK]) (fun hl19 => ?_)
    refine call_st (s4 := [(.arg 0, ⟨.fz, 1, cs0⟩), (.tmp 2 20, ⟨.lst, 2, encL c31 ([] : List S31)⟩), (.tmp 3 0, ⟨.box, 0, [.sc (.int .u64 0), .sc (.int .u64 0)]⟩), (.tmp 4 0, ⟨.box, 0, [.ref (.arg 0) [] o0 l0.length, .sc (.int .i64 t18.2.1), .sc (.int .u64 t18.2.2)]⟩), (.tmp 16 0, ⟨.lst, 2, encL c31 t7.1⟩), (.tmp 5 20, ⟨.lst, 2, encL c31 ([] : List S31)⟩)]) (m1' := []) (m2' := []) (v' := .c (.sc (.int .i64 t18.1))) (Sto.mapN_killNil _ _) (mrgL_whole (new' := [.ref (.arg 0) [] o0 l0.length, .sc (.int .i64 t18.2.1), .sc (.int .u64 t18.2.2)]) (mrgL_fz (mrgL_nil' _ _ _) rfl (by first | rfl | simp only [reduceCtorEq, Nat.reduceEqDiff, ak]) rfl (by intro R hR hh; cases hR; cases hh.2)) rfl (by rfl) (.inl ⟨rfl, by first | rfl | simp only [reduceCtorEq, Nat.reduceEqDiff, ak, akF, Nat.zero_add, List.append_nil]⟩)) (by rfl) (mapT_killNil _ _) (by rfl) (by rfl) (by first | rfl | simp only [reduceCtorEq, Nat.reduceEqDiff, ak, akF, Nat.zero_add, List.append_nil]) ?_
    simp +decide only [Nat.reduceAdd, Nat.reduceMul, Int.reduceToNat, ak]
    refine hJ17 _ ?_
    refine seq_k fun J21 hJ21 => ?_
    refine sr_k fun J22 hJ22 => ?_
    simp +decide only [Nat.reduceAdd, Nat.reduceMul, Int.reduceToNat, ak]
    refine hJ22 _ ?_
    refine block_k fun B23 B23n B23x B23r B23j => ?_
    obtain ⟨y38, h39, h⟩ := of_bind h
    refine gh_k (st' := ⟨[(3, .c (.ptr (.tmp 3 0) [] 0)), (4, .c (.ptr (.tmp 4 0) [] 0)), (5, .c (.ref (.tmp 5 20) [] 0 (([] : List S31).length))), (6, .c (.sc (.int .i64 (IntKind.i64.wrap (999 + t18.1))))), (7, .c (.sc (.int .i64 0)))], [(.arg 0, ⟨.fz, 1, cs0⟩), (.tmp 3 0, ⟨.box, 0, [.sc (.int .u64 0), .sc (.int .u64 0)]⟩), (.tmp 4 0, ⟨.box, 0, [.ref (.arg 0) [] o0 l0.length, .sc (.int .i64 t18.2.1), .sc (.int .u64 t18.2.2)]⟩), (.tmp 5 20, ⟨.lst, 2, encL c31 ([] : List S31)⟩)], [], []⟩) (wk [3, 4, 5, 6, 7] [pI (.arg 0) .fz, pI (.tmp 3 0) .box, pI (.tmp 4 0) .box, pI (.tmp 5 20) .lst] (h := by first | rfl | (simp +decide only [ak, akF]; done) | (simp +decide [ak, akF] <;> omega))) ?_
    rw [e_loop]
    refine spec_l2DrawArgs.l0_walk cs0 o0 l0 hv0 (IntKind.i64.wrap (999 + t18.1)) 0 0 t18.2.1 t18.2.2 0 ([] : List S31) _ h39 _ ?_
    refine B23x _ ?_
    refine hJ21 _ ?_
    refine sr_k fun J40 hJ40 => ?_
    simp +decide only [Nat.reduceAdd, Nat.reduceMul, Int.reduceToNat, ak]
    obtain ⟨t41, h42, h⟩ := of_bind h
    refine call_m [(.arg 0, ⟨(.tmp 4 0), [], none, .box⟩), (.arg 1, ⟨(.arg 0), [], none, .fz⟩)] (s0 := [(.arg 0, ⟨.box, 0, [.ref (.arg 1) [] o0 l0.length, .sc (.int .i64 t18.2.1), .sc (.int .u64 t18.2.2)]⟩), (.arg 1, ⟨.fz, 1, cs0⟩)]) (by intro t ht; cases ht; decide) rfl rfl (by first | rfl | simp only [reduceCtorEq, Nat.reduceEqDiff, ak, akF]) (spec_l1Next.tri (cs0) o0 l0 hv0 t18.2.1 t18.2.2 4100 _ h42) (by first | rfl | simp only [reduceCtorEq, Nat.reduceEqDiff, ak, akF]) (by simp [bkOk2, memK]) (fun hl42 => ?_)
    refine call_st (s4 := [(.arg 0, ⟨.fz, 1, cs0⟩), (.tmp 3 0, ⟨.box, 0, [.sc (.int .u64 0), .sc (.int .u64 0)]⟩), (.tmp 4 0, ⟨.box, 0, [.ref (.arg 0) [] o0 l0.length, .sc (.int .i64 t41.2.1), .sc (.int .u64 t41.2.2)]⟩), (.tmp 5 20, ⟨.lst, 2, encL c31 y38⟩)]) (m1' := []) (m2' := []) (v' := .c (.sc (.int .i64 t41.1))) (Sto.mapN_killNil _ _) (mrgL_whole (new' := [.ref (.arg 0) [] o0 l0.length, .sc (.int .i64 t41.2.1), .sc (.int .u64 t41.2.2)]) (mrgL_fz (mrgL_nil' _ _ _) rfl (by first | rfl | simp only [reduceCtorEq, Nat.reduceEqDiff, ak]) rfl (by intro R hR hh; cases hR; cases hh.2)) rfl (by rfl) (.inl ⟨rfl, by first | rfl | simp only [reduceCtorEq, Nat.reduceEqDiff, ak, akF, Nat.zero_add, List.append_nil]⟩)) (by rfl) (mapT_killNil _ _) (by rfl) (by rfl) (by first | rfl | simp only [reduceCtorEq, Nat.reduceEqDiff, ak, akF, Nat.zero_add, List.append_nil]) ?_
    simp +decide only [Nat.reduceAdd, Nat.reduceMul, Int.reduceToNat, ak]
    refine hJ40 _ ?_
    refine sr_k fun J44 hJ44 => ?_
    simp +decide only [Nat.reduceAdd, Nat.reduceMul, Int.reduceToNat, ak]
    obtain ⟨t45, h46, h⟩ := of_bind h
    refine call_m [(.arg 0, ⟨(.tmp 4 0), [], none, .box⟩), (.arg 1, ⟨(.arg 0), [], none, .fz⟩)] (s0 := [(.arg 0, ⟨.box, 0, [.ref (.arg 1) [] o0 l0.length, .sc (.int .i64 t41.2.1), .sc (.int .u64 t41.2.2)]⟩), (.arg 1, ⟨.fz, 1, cs0⟩)]) (by intro t ht; cases ht; decide) rfl rfl (by first | rfl | simp only [reduceCtorEq, Nat.reduceEqDiff, ak, akF]) (spec_l1Next.tri (cs0) o0 l0 hv0 t41.2.1 t41.2.2 3 _ h46) (by first | rfl | simp only [reduceCtorEq, Nat.reduceEqDiff, ak, akF]) (by simp [bkOk2, memK]) (fun hl46 => ?_)
    refine call_st (s4 := [(.arg 0, ⟨.fz, 1, cs0⟩), (.tmp 3 0, ⟨.box, 0, [.sc (.int .u64 0), .sc (.int .u64 0)]⟩), (.tmp 4 0, ⟨.box, 0, [.ref (.arg 0) [] o0 l0.length, .sc (.int .i64 t45.2.1), .sc (.int .u64 t45.2.2)]⟩), (.tmp 5 20, ⟨.lst, 2, encL c31 y38⟩)]) (m1' := []) (m2' := []) (v' := .c (.sc (.int .i64 t45.1))) (Sto.mapN_killNil _ _) (mrgL_whole (new' := [.ref (.arg 0) [] o0 l0.length, .sc (.int .i64 t45.2.1), .sc (.int .u64 t45.2.2)]) (mrgL_fz (mrgL_nil' _ _ _) rfl (by first | rfl | simp only [reduceCtorEq, Nat.reduceEqDiff, ak]) rfl (by intro R hR hh; cases hR; cases hh.2)) rfl (by rfl) (.inl ⟨rfl, by first | rfl | simp only [reduceCtorEq, Nat.reduceEqDiff, ak, akF, Nat.zero_add, List.append_nil]⟩)) (by rfl) (mapT_killNil _ _) (by rfl) (by rfl) (by first | rfl | simp only [reduceCtorEq, Nat.reduceEqDiff, ak, akF, Nat.zero_add, List.append_nil]) ?_
    simp +decide only [Nat.reduceAdd, Nat.reduceMul, Int.reduceToNat, ak]
    obtain ⟨t48, h49, h⟩ := of_bind h
    refine call_m [(.arg 0, ⟨(.tmp 4 0), [], none, .box⟩), (.arg 1, ⟨(.arg 0), [], none, .fz⟩)] (s0 := [(.arg 0, ⟨.box, 0, [.ref (.arg 1) [] o0 l0.length, .sc (.int .i64 t45.2.1), .sc (.int .u64 t45.2.2)]⟩), (.arg 1, ⟨.fz, 1, cs0⟩)]) (by intro t ht; cases ht; decide) rfl rfl (by first | rfl | simp only [reduceCtorEq, Nat.reduceEqDiff, ak, akF]) (spec_l1Next.tri (cs0) o0 l0 hv0 t45.2.1 t45.2.2 2 _ h49) (by first | rfl | simp only [reduceCtorEq, Nat.reduceEqDiff, ak, akF]) (by simp [bkOk2, memK]) (fun hl49 => ?_)
    refine call_st (s4 := [(.arg 0, ⟨.fz, 1, cs0⟩), (.tmp 3 0, ⟨.box, 0, [.sc (.int .u64 0), .sc (.int .u64 0)]⟩), (.tmp 4 0, ⟨.box, 0, [.ref (.arg 0) [] o0 l0.length, .sc (.int .i64 t48.2.1), .sc (.int .u64 t48.2.2)]⟩), (.tmp 5 20, ⟨.lst, 2, encL c31 y38⟩)]) (m1' := []) (m2' := []) (v' := .c (.sc (.int .i64 t48.1))) (Sto.mapN_killNil _ _) (mrgL_whole (new' := [.ref (.arg 0) [] o0 l0.length, .sc (.int .i64 t48.2.1), .sc (.int .u64 t48.2.2)]) (mrgL_fz (mrgL_nil' _ _ _) rfl (by first | rfl | simp only [reduceCtorEq, Nat.reduceEqDiff, ak]) rfl (by intro R hR hh; cases hR; cases hh.2)) rfl (by rfl) (.inl ⟨rfl, by first | rfl | simp only [reduceCtorEq, Nat.reduceEqDiff, ak, akF, Nat.zero_add, List.append_nil]⟩)) (by rfl) (mapT_killNil _ _) (by rfl) (by rfl) (by first | rfl | simp only [reduceCtorEq, Nat.reduceEqDiff, ak, akF, Nat.zero_add, List.append_nil]) ?_
    simp +decide only [Nat.reduceAdd, Nat.reduceMul, Int.reduceToNat, ak]
    refine hJ44 _ ?_
    obtain rfl := Option.some.inj h
    refine hKr _ ⟨_, rfl, [⟨(.tmp 5 20), [], none, .lst⟩], _, rfl, rfl, ?_⟩
    first | rfl | (simp only [reduceCtorEq, Nat.reduceEqDiff, ak, akF]; done) | (simp [reduceCtorEq, Nat.reduceEqDiff, ak, akF] <;> omega)
  · replace c15 := of_decide_eq_false c15; rw [if_neg c15] at h
    refine hJ10 _ ?_
    refine sr_k fun J51 hJ51 => ?_
    simp +decide only [Nat.reduceAdd, Nat.reduceMul, Int.reduceToNat, ak]
    obtain ⟨t52, h53, h⟩ := of_bind h
    refine call_m [(.arg 0, ⟨(.tmp 4 0), [], none, .box⟩), (.arg 1, ⟨(.arg 0), [], none, .fz⟩)] (s0 := [(.arg 0, ⟨.box, 0, [.ref (.arg 1) [] o0 l0.length, .sc (.int .i64 t12.2.1), .sc (.int .u64 t12.2.2)]⟩), (.arg 1, ⟨.fz, 1, cs0⟩)]) (by intro t ht; cases ht; decide) rfl rfl (by first | rfl | simp only [reduceCtorEq, Nat.reduceEqDiff, ak, akF]) (spec_l1Next.tri (cs0) o0 l0 hv0 t12.2.1 t12.2.2 90 _ h53) (by first | rfl | simp only [reduceCtorEq, Nat.reduceEqDiff, ak, akF]) (by simp [bkOk2, memK]) (fun hl53 => ?_)
    refine call_st (s4 := [(.arg 0, ⟨.fz, 1, cs0⟩), (.tmp 2 20, ⟨.lst, 2, encL c31 ([] : List S31)⟩), (.tmp 3 0, ⟨.box, 0, [.sc (.int .u64 0), .sc (.int .u64 0)]⟩), (.tmp 4 0, ⟨.box, 0, [.ref (.arg 0) [] o0 l0.length, .sc (.int .i64 t52.2.1), .sc (.int .u64 t52.2.2)]⟩), (.tmp 16 0, ⟨.lst, 2, encL c31 t7.1⟩)]) (m1' := []) (m2' := []) (v' := .c (.sc (.int .i64 t52.1))) (Sto.mapN_killNil _ _) (mrgL_whole (new' := [.ref (.arg 0) [] o0 l0.length, .sc (.int .i64 t52.2.1), .sc (.int .u64 t52.2.2)]) (mrgL_fz (mrgL_nil' _ _ _) rfl (by first | rfl | simp only [reduceCtorEq, Nat.reduceEqDiff, ak]) rfl (by intro R hR hh; cases hR; cases hh.2)) rfl (by rfl) (.inl ⟨rfl, by first | rfl | simp only [reduceCtorEq, Nat.reduceEqDiff, ak, akF, Nat.zero_add, List.append_nil]⟩)) (by rfl) (mapT_killNil _ _) (by rfl) (by rfl) (by first | rfl | simp only [reduceCtorEq, Nat.reduceEqDiff, ak, akF, Nat.zero_add, List.append_nil]) ?_
    simp +decide only [Nat.reduceAdd, Nat.reduceMul, Int.reduceToNat, ak]
    refine hJ51 _ ?_
    obtain ⟨j55, h56, hn⟩ := of_bind h
    refine seq_j (fun st => st = ⟨[(3, .c (.ptr (.tmp 3 0) [] 0)), (4, .c (.ptr (.tmp 4 0) [] 0)), (5, .c (.ref (.tmp 16 0) [] 0 t7.1.length)), (9, .c (.sc (.int .u64 j55.1)))], [(.arg 0, ⟨.fz, 1, cs0⟩), (.tmp 3 0, ⟨.box, 0, [.sc (.int .u64 0), .sc (.int .u64 0)]⟩), (.tmp 4 0, ⟨.box, 0, [.ref (.arg 0) [] o0 l0.length, .sc (.int .i64 j55.2.1), .sc (.int .u64 j55.2.2)]⟩), (.tmp 16 0, ⟨.lst, 2, encL c31 t7.1⟩)], [], []⟩) (fun J57 hJ57 => ?_) ?_
    · replace h := h56; clear hn
      refine ga_k fun G58 G58n G58r G58x => ?_
      obtain ⟨j59, h60, hn⟩ := of_bind h
      refine seq_j (fun st => st = ⟨[(3, .c (.ptr (.tmp 3 0) [] 0)), (4, .c (.ptr (.tmp 4 0) [] 0)), (5, .c (.ref (.tmp 16 0) [] 0 t7.1.length)), (9, .c (.sc (.int .u64 (IntKind.u64.wrap t52.1)))), (59, .c (.sc (.bool j59.1)))], [(.arg 0, ⟨.fz, 1, cs0⟩), (.tmp 3 0, ⟨.box, 0, [.sc (.int .u64 0), .sc (.int .u64 0)]⟩), (.tmp 4 0, ⟨.box, 0, [.ref (.arg 0) [] o0 l0.length, .sc (.int .i64 j59.2.1), .sc (.int .u64 j59.2.2)]⟩), (.tmp 16 0, ⟨.lst, 2, encL c31 t7.1⟩)], [], []⟩) (fun J61 hJ61 => ?_) ?_
      · replace h := h60; clear hn
        refine ga_k fun G62 G62n G62r G62x => ?_
        refine reg_k ?_
        simp +decide only [Nat.reduceAdd, Nat.reduceMul, Int.reduceToNat, ak]
        by_cases c63 : (t7.1.length : Int) > 0
        · rw [if_pos c63] at h
          have e64 : decide ((t7.1.length : Int) > 0) = true := decide_eq_true c63
          simp +decide only [Nat.reduceAdd, Nat.reduceMul, Int.reduceToNat, ak, e64]
          obtain ⟨t65, h66, h⟩ := of_bind h
          refine call_m [(.arg 0, ⟨(.tmp 4 0), [], none, .box⟩), (.arg 1, ⟨(.arg 0), [], none, .fz⟩)] (s0 := [(.arg 0, ⟨.box, 0, [.ref (.arg 1) [] o0 l0.length, .sc (.int .i64 t52.2.1), .sc (.int .u64 t52.2.2)]⟩), (.arg 1, ⟨.fz, 1, cs0⟩)]) (by intro t ht; cases ht; decide) rfl rfl (by first | rfl | simp only [reduceCtorEq, Nat.reduceEqDiff, ak, akF, e64]) (spec_l1Next.tri (cs0) o0 l0 hv0 t52.2.1 t52.2.2 3 _ h66) (by first | rfl | simp only [reduceCtorEq, Nat.reduceEqDiff, ak, akF]) (by simp [bkOk2, memK]) (fun hl66 => ?_)
          refine call_st (s4 := [(.arg 0, ⟨.fz, 1, cs0⟩), (.tmp 2 20, ⟨.lst, 2, encL c31 ([] : List S31)⟩), (.tmp 3 0, ⟨.box, 0, [.sc (.int .u64 0), .sc (.int .u64 0)]⟩), (.tmp 4 0, ⟨.box, 0, [.ref (.arg 0) [] o0 l0.length, .sc (.int .i64 t65.2.1), .sc (.int .u64 t65.2.2)]⟩), (.tmp 16 0, ⟨.lst, 2, encL c31 t7.1⟩)]) (m1' := []) (m2' := []) (v' := .c (.sc (.int .i64 t65.1))) (Sto.mapN_killNil _ _) (mrgL_whole (new' := [.ref (.arg 0) [] o0 l0.length, .sc (.int .i64 t65.2.1), .sc (.int .u64 t65.2.2)]) (mrgL_fz (mrgL_nil' _ _ _) rfl (by first | rfl | simp only [reduceCtorEq, Nat.reduceEqDiff, ak, e64]) rfl (by intro R hR hh; cases hR; cases hh.2)) rfl (by rfl) (.inl ⟨rfl, by first | rfl | simp only [reduceCtorEq, Nat.reduceEqDiff, ak, akF, Nat.zero_add, List.append_nil, e64]⟩)) (by rfl) (mapT_killNil _ _) (by rfl) (by rfl) (by first | rfl | simp only [reduceCtorEq, Nat.reduceEqDiff, ak, akF, Nat.zero_add, List.append_nil, e64]) ?_
          simp +decide only [Nat.reduceAdd, Nat.reduceMul, Int.reduceToNat, ak]
          obtain rfl := Option.some.inj h
          refine G62n _ _ (wk [3, 4, 5, 9, 59] [pI (.arg 0) .fz, pI (.tmp 3 0) .box, pI (.tmp 4 0) .box, pI (.tmp 16 0) .lst] (h0 := by first | rfl | simp +decide only [ak, akF, e64]) (h := by first | rfl | (simp +decide only [ak, akF, e64]; done) | (simp +decide [ak, akF, e64] <;> omega))) (hJ61 _ rfl)
        · rw [if_neg c63] at h
          have e68 : decide ((t7.1.length : Int) > 0) = false := decide_eq_false c63
          simp +decide only [Nat.reduceAdd, Nat.reduceMul, Int.reduceToNat, ak, e68]
          obtain rfl := Option.some.inj h
          refine G62n _ _ (wk [3, 4, 5, 9, 59] [pI (.arg 0) .fz, pI (.tmp 3 0) .box, pI (.tmp 4 0) .box, pI (.tmp 16 0) .lst] (h0 := by first | rfl | simp +decide only [ak, akF, e68]) (h := by first | rfl | (simp +decide only [ak, akF, e68]; done) | (simp +decide [ak, akF, e68] <;> omega))) (hJ61 _ rfl)
      · replace h := hn; clear hn h60
        rintro _ rfl
        refine cond_k (b := j59.1) rfl (fun c69 => ?_) (fun c69 => ?_)
        · rw [if_pos c69] at h
          refine sr_k fun J70 hJ70 => ?_
          simp +decide only [Nat.reduceAdd, Nat.reduceMul, Int.reduceToNat, ak]
          obtain ⟨t71, h72, h⟩ := of_bind h
          refine call_m [(.arg 0, ⟨(.tmp 4 0), [], none, .box⟩), (.arg 1, ⟨(.arg 0), [], none, .fz⟩)] (s0 := [(.arg 0, ⟨.box, 0, [.ref (.arg 1) [] o0 l0.length, .sc (.int .i64 j59.2.1), .sc (.int .u64 j59.2.2)]⟩), (.arg 1, ⟨.fz, 1, cs0⟩)]) (by intro t ht; cases ht; decide) rfl rfl (by first | rfl | simp only [reduceCtorEq, Nat.reduceEqDiff, ak, akF]) (spec_l1Next.tri (cs0) o0 l0 hv0 j59.2.1 j59.2.2 (t7.1.length : Int) _ h72) (by first | rfl | simp only [reduceCtorEq, Nat.reduceEqDiff, ak, akF]) (by simp [bkOk2, memK]) (fun hl72 => ?_)
          refine call_st (s4 := [(.arg 0, ⟨.fz, 1, cs0⟩), (.tmp 3 0, ⟨.box, 0, [.sc (.int .u64 0), .sc (.int .u64 0)]⟩), (.tmp 4 0, ⟨.box, 0, [.ref (.arg 0) [] o0 l0.length, .sc (.int .i64 t71.2.1), .sc (.int .u64 t71.2.2)]⟩), (.tmp 16 0, ⟨.lst, 2, encL c31 t7.1⟩)]) (m1' := []) (m2' := []) (v' := .c (.sc (.int .i64 t71.1))) (Sto.mapN_killNil _ _) (mrgL_whole (new' := [.ref (.arg 0) [] o0 l0.length, .sc (.int .i64 t71.2.1), .sc (.int .u64 t71.2.2)]) (mrgL_fz (mrgL_nil' _ _ _) rfl (by first | rfl | simp only [reduceCtorEq, Nat.reduceEqDiff, ak]) rfl (by intro R hR hh; cases hR; cases hh.2)) rfl (by rfl) (.inl ⟨rfl, by first | rfl | simp only [reduceCtorEq, Nat.reduceEqDiff, ak, akF, Nat.zero_add, List.append_nil]⟩)) (by rfl) (mapT_killNil _ _) (by rfl) (by rfl) (by first | rfl | simp only [reduceCtorEq, Nat.reduceEqDiff, ak, akF, Nat.zero_add, List.append_nil]) ?_
          obtain ⟨b74, h⟩ := of_guard h
          have g75 : (List.drop (0 + t71.1.toNat * 2) (encL c31 t7.1)).take 2 = [.sc (.int .u64 ((rd z31 t7.1 t71.1).f0)), .sc (.int .u64 ((rd z31 t7.1 t71.1).f1))] := (Vw.whole c31_w t7.1).stretch z31 b74.1 b74.2
          simp +decide only [Nat.reduceAdd, Nat.reduceMul, Int.reduceToNat, ak, b74, g75]
          refine hJ70 _ ?_
          refine sr_k fun J76 hJ76 => ?_
          simp +decide only [Nat.reduceAdd, Nat.reduceMul, Int.reduceToNat, ak]
          refine hJ76 _ ?_
          obtain ⟨j77, h78, hn⟩ := of_bind h
          refine seq_j (fun st => st = ⟨[(3, .c (.ptr (.tmp 3 0) [] 0)), (4, .c (.ptr (.tmp 4 0) [] 0)), (5, .c (.ref (.tmp 16 0) [] 0 t7.1.length)), (9, .c (.sc (.int .u64 j77.1)))], [(.arg 0, ⟨.fz, 1, cs0⟩), (.tmp 3 0, ⟨.box, 0, [.sc (.int .u64 0), .sc (.int .u64 0)]⟩), (.tmp 4 0, ⟨.box, 0, [.ref (.arg 0) [] o0 l0.length, .sc (.int .i64 j77.2.1), .sc (.int .u64 j77.2.2)]⟩), (.tmp 16 0, ⟨.lst, 2, encL c31 t7.1⟩)], [], []⟩) (fun J79 hJ79 => ?_) ?_
          · replace h := h78; clear hn
            refine ga_k fun G80 G80n G80r G80x => ?_
            refine sr_k fun J81 hJ81 => ?_
            simp +decide only [Nat.reduceAdd, Nat.reduceMul, Int.reduceToNat, ak]
            obtain ⟨t82, h83, h⟩ := of_bind h
            refine call_m [(.arg 0, ⟨(.tmp 4 0), [], none, .box⟩), (.arg 1, ⟨(.arg 0), [], none, .fz⟩)] (s0 := [(.arg 0, ⟨.box, 0, [.ref (.arg 1) [] o0 l0.length, .sc (.int .i64 t71.2.1), .sc (.int .u64 t71.2.2)]⟩), (.arg 1, ⟨.fz, 1, cs0⟩)]) (by intro t ht; cases ht; decide) rfl rfl (by first | rfl | simp only [reduceCtorEq, Nat.reduceEqDiff, ak, akF, b74, g75]) (spec_l1Next.tri (cs0) o0 l0 hv0 t71.2.1 t71.2.2 2 _ h83) (by first | rfl | simp only [reduceCtorEq, Nat.reduceEqDiff, ak, akF]) (by simp [bkOk2, memK]) (fun hl83 => ?_)
            refine call_st (s4 := [(.arg 0, ⟨.fz, 1, cs0⟩), (.tmp 3 0, ⟨.box, 0, [.sc (.int .u64 0), .sc (.int .u64 0)]⟩), (.tmp 4 0, ⟨.box, 0, [.ref (.arg 0) [] o0 l0.length, .sc (.int .i64 t82.2.1), .sc (.int .u64 t82.2.2)]⟩), (.tmp 16 0, ⟨.lst, 2, encL c31 t7.1⟩), (.tmp 10 0, ⟨.box, 0, [.sc (.int .u64 ((rd z31 t7.1 t71.1).f0)), .sc (.int .u64 ((rd z31 t7.1 t71.1).f1))]⟩)]) (m1' := []) (m2' := []) (v' := .c (.sc (.int .i64 t82.1))) (Sto.mapN_killNil _ _) (mrgL_whole (new' := [.ref (.arg 0) [] o0 l0.length, .sc (.int .i64 t82.2.1), .sc (.int .u64 t82.2.2)]) (mrgL_fz (mrgL_nil' _ _ _) rfl (by first | rfl | simp only [reduceCtorEq, Nat.reduceEqDiff, ak, b74, g75]) rfl (by intro R hR hh; cases hR; cases hh.2)) rfl (by rfl) (.inl ⟨rfl, by first | rfl | simp only [reduceCtorEq, Nat.reduceEqDiff, ak, akF, Nat.zero_add, List.append_nil, b74]⟩)) (by rfl) (mapT_killNil _ _) (by rfl) (by rfl) (by first | rfl | simp only [reduceCtorEq, Nat.reduceEqDiff, ak, akF, Nat.zero_add, List.append_nil, b74]) ?_
            simp +decide only [Nat.reduceAdd, Nat.reduceMul, Int.reduceToNat, ak]
            refine hJ81 _ ?_
            refine cond_k (b := decide (t82.1 = 0)) rfl (fun c85 => ?_) (fun c85 => ?_)
            · replace c85 := of_decide_eq_true c85; rw [if_pos c85] at h
              refine reg_k ?_
              simp +decide only [Nat.reduceAdd, Nat.reduceMul, Int.reduceToNat, ak]
              obtain rfl := Option.some.inj h
              refine G80n _ _ (wk [3, 4, 5, 9] [pI (.arg 0) .fz, pI (.tmp 3 0) .box, pI (.tmp 4 0) .box, pI (.tmp 16 0) .lst]) (hJ79 _ rfl)
            · replace c85 := of_decide_eq_false c85; rw [if_neg c85] at h
              obtain rfl := Option.some.inj h
              refine G80n _ _ (wk [3, 4, 5, 9] [pI (.arg 0) .fz, pI (.tmp 3 0) .box, pI (.tmp 4 0) .box, pI (.tmp 16 0) .lst]) (hJ79 _ rfl)
          · replace h := hn; clear hn h78
            rintro _ rfl
            refine reg_k ?_
            simp +decide only [Nat.reduceAdd, Nat.reduceMul, Int.reduceToNat, ak]
            obtain ⟨t86, h87, h⟩ := of_bind h
            refine call_m [(.arg 0, ⟨(.tmp 4 0), [], none, .box⟩), (.arg 1, ⟨(.arg 0), [], none, .fz⟩)] (s0 := [(.arg 0, ⟨.box, 0, [.ref (.arg 1) [] o0 l0.length, .sc (.int .i64 j77.2.1), .sc (.int .u64 j77.2.2)]⟩), (.arg 1, ⟨.fz, 1, cs0⟩)]) (by intro t ht; cases ht; decide) rfl rfl (by first | rfl | simp only [reduceCtorEq, Nat.reduceEqDiff, ak, akF, b74, g75]) (spec_l1Next.tri (cs0) o0 l0 hv0 j77.2.1 j77.2.2 3 _ h87) (by first | rfl | simp only [reduceCtorEq, Nat.reduceEqDiff, ak, akF]) (by simp [bkOk2, memK]) (fun hl87 => ?_)
            refine call_st (s4 := [(.arg 0, ⟨.fz, 1, cs0⟩), (.tmp 3 0, ⟨.box, 0, [.sc (.int .u64 0), .sc (.int .u64 0)]⟩), (.tmp 4 0, ⟨.box, 0, [.ref (.arg 0) [] o0 l0.length, .sc (.int .i64 t86.2.1), .sc (.int .u64 t86.2.2)]⟩), (.tmp 16 0, ⟨.lst, 2, encL c31 t7.1⟩)]) (m1' := []) (m2' := []) (v' := .c (.sc (.int .i64 t86.1))) (Sto.mapN_killNil _ _) (mrgL_whole (new' := [.ref (.arg 0) [] o0 l0.length, .sc (.int .i64 t86.2.1), .sc (.int .u64 t86.2.2)]) (mrgL_fz (mrgL_nil' _ _ _) rfl (by first | rfl | simp only [reduceCtorEq, Nat.reduceEqDiff, ak, b74, g75]) rfl (by intro R hR hh; cases hR; cases hh.2)) rfl (by rfl) (.inl ⟨rfl, by first | rfl | simp only [reduceCtorEq, Nat.reduceEqDiff, ak, akF, Nat.zero_add, List.append_nil, b74]⟩)) (by rfl) (mapT_killNil _ _) (by rfl) (by rfl) (by first | rfl | simp only [reduceCtorEq, Nat.reduceEqDiff, ak, akF, Nat.zero_add, List.append_nil, b74]) ?_
            simp +decide only [Nat.reduceAdd, Nat.reduceMul, Int.reduceToNat, ak]
            obtain rfl := Option.some.inj h
            refine G58n _ _ (wk [3, 4, 5, 9] [pI (.arg 0) .fz, pI (.tmp 3 0) .box, pI (.tmp 4 0) .box, pI (.tmp 16 0) .lst]) (hJ57 _ rfl)
        · rw [if_neg (Bool.eq_false_iff.1 c69)] at h
          obtain rfl := Option.some.inj h
          refine G58n _ _ (wk [3, 4, 5, 9] [pI (.arg 0) .fz, pI (.tmp 3 0) .box, pI (.tmp 4 0) .box, pI (.tmp 16 0) .lst]) (hJ57 _ rfl)
    · replace h := hn; clear hn h56
      rintro _ rfl
      refine sr_k fun J89 hJ89 => ?_
      simp +decide only [Nat.reduceAdd, Nat.reduceMul, Int.reduceToNat, ak]
      obtain ⟨t90, h91, h⟩ := of_bind h
      refine call_m [(.arg 0, ⟨(.tmp 4 0), [], none, .box⟩), (.arg 1, ⟨(.arg 0), [], none, .fz⟩)] (s0 := [(.arg 0, ⟨.box, 0, [.ref (.arg 1) [] o0 l0.length, .sc (.int .i64 j55.2.1), .sc (.int .u64 j55.2.2)]⟩), (.arg 1, ⟨.fz, 1, cs0⟩)]) (by intro t ht; cases ht; decide) rfl rfl (by first | rfl | simp only [reduceCtorEq, Nat.reduceEqDiff, ak, akF]) (spec_l1Next.tri (cs0) o0 l0 hv0 j55.2.1 j55.2.2 25 _ h91) (by first | rfl | simp only [reduceCtorEq, Nat.reduceEqDiff, ak, akF]) (by simp [bkOk2, memK]) (fun hl91 => ?_)
      refine call_st (s4 := [(.arg 0, ⟨.fz, 1, cs0⟩), (.tmp 3 0, ⟨.box, 0, [.sc (.int .u64 0), .sc (.int .u64 0)]⟩), (.tmp 4 0, ⟨.box, 0, [.ref (.arg 0) [] o0 l0.length, .sc (.int .i64 t90.2.1), .sc (.int .u64 t90.2.2)]⟩), (.tmp 16 0, ⟨.lst, 2, encL c31 t7.1⟩)]) (m1' := []) (m2' := []) (v' := .c (.sc (.int .i64 t90.1))) (Sto.mapN_killNil _ _) (mrgL_whole (new' := [.ref (.arg 0) [] o0 l0.length, .sc (.int .i64 t90.2.1), .sc (.int .u64 t90.2.2)]) (mrgL_fz (mrgL_nil' _ _ _) rfl (by first | rfl | simp only [reduceCtorEq, Nat.reduceEqDiff, ak]) rfl (by intro R hR hh; cases hR; cases hh.2)) rfl (by rfl) (.inl ⟨rfl, by first | rfl | simp only [reduceCtorEq, Nat.reduceEqDiff, ak, akF, Nat.zero_add, List.append_nil]⟩)) (by rfl) (mapT_killNil _ _) (by rfl) (by rfl) (by first | rfl | simp only [reduceCtorEq, Nat.reduceEqDiff, ak, akF, Nat.zero_add, List.append_nil]) ?_
      simp +decide only [Nat.reduceAdd, Nat.reduceMul, Int.reduceToNat, ak]
      refine hJ89 _ ?_
      refine sr_k fun J93 hJ93 => ?_
      simp +decide only [Nat.reduceAdd, Nat.reduceMul, Int.reduceToNat, ak]
      obtain ⟨t94, h95, h⟩ := of_bind h
      refine call_m [(.arg 0, ⟨(.tmp 4 0), [], none, .box⟩), (.arg 1, ⟨(.arg 0), [], none, .fz⟩)] (s0 := [(.arg 0, ⟨.box, 0, [.ref (.arg 1) [] o0 l0.length, .sc (.int .i64 t90.2.1), .sc (.int .u64 t90.2.2)]⟩), (.arg 1, ⟨.fz, 1, cs0⟩)]) (by intro t ht; cases ht; decide) rfl rfl (by first | rfl | simp only [reduceCtorEq, Nat.reduceEqDiff, ak, akF]) (spec_l1Next.tri (cs0) o0 l0 hv0 t90.2.1 t90.2.2 20 _ h95) (by first | rfl | simp only [reduceCtorEq, Nat.reduceEqDiff, ak, akF]) (by simp [bkOk2, memK]) (fun hl95 => ?_)
      refine call_st (s4 := [(.arg 0, ⟨.fz, 1, cs0⟩), (.tmp 3 0, ⟨.box, 0, [.sc (.int .u64 0), .sc (.int .u64 0)]⟩), (.tmp 4 0, ⟨.box, 0, [.ref (.arg 0) [] o0 l0.length, .sc (.int .i64 t94.2.1), .sc (.int .u64 t94.2.2)]⟩), (.tmp 16 0, ⟨.lst, 2, encL c31 t7.1⟩), (.tmp 11 0, ⟨.box, 0, [.sc (.int .u64 j55.1), .sc (.int .u64 (IntKind.u64.wrap (j55.1 + (IntKind.u64.wrap t90.1))))]⟩)]) (m1' := []) (m2' := []) (v' := .c (.sc (.int .i64 t94.1))) (Sto.mapN_killNil _ _) (mrgL_whole (new' := [.ref (.arg 0) [] o0 l0.length, .sc (.int .i64 t94.2.1), .sc (.int .u64 t94.2.2)]) (mrgL_fz (mrgL_nil' _ _ _) rfl (by first | rfl | simp only [reduceCtorEq, Nat.reduceEqDiff, ak]) rfl (by intro R hR hh; cases hR; cases hh.2)) rfl (by rfl) (.inl ⟨rfl, by first | rfl | simp only [reduceCtorEq, Nat.reduceEqDiff, ak, akF, Nat.zero_add, List.append_nil]⟩)) (by rfl) (mapT_killNil _ _) (by rfl) (by rfl) (by first | rfl | simp only [reduceCtorEq, Nat.reduceEqDiff, ak, akF, Nat.zero_add, List.append_nil]) ?_
      simp +decide only [Nat.reduceAdd, Nat.reduceMul, Int.reduceToNat, ak]
      refine hJ93 _ ?_
      obtain ⟨j97, h98, hn⟩ := of_bind h
      refine seq_j (fun st => st = ⟨[(3, .c (.ptr (.tmp 3 0) [] 0)), (5, .c (.ref (.tmp 16 0) [] 0 j97.1.length)), (11, .c (.ptr (.tmp 11 0) [] 0))], [(.arg 0, ⟨.fz, 1, cs0⟩), (.tmp 3 0, ⟨.box, 0, [.sc (.int .u64 0), .sc (.int .u64 0)]⟩), (.tmp 16 0, ⟨.lst, 2, encL c31 j97.1⟩), (.tmp 11 0, ⟨.box, 0, [.sc (.int .u64 j97.2.1), .sc (.int .u64 j97.2.2)]⟩)], [], []⟩) (fun J99 hJ99 => ?_) ?_
      · replace h := h98; clear hn
        refine ga_k fun G100 G100n G100r G100x => ?_
        refine sr_k fun J101 hJ101 => ?_
        simp +decide only [Nat.reduceAdd, Nat.reduceMul, Int.reduceToNat, ak]
        refine hJ101 _ ?_
        refine cond_k (b := decide (t94.1 = 0)) rfl (fun c102 => ?_) (fun c102 => ?_)
        · replace c102 := of_decide_eq_true c102; rw [if_pos c102] at h
          refine reg_k ?_
          simp +decide only [Nat.reduceAdd, Nat.reduceMul, Int.reduceToNat, ak]
          obtain rfl := Option.some.inj h
          refine G100n _ _ (wk [3, 5, 11] [pI (.arg 0) .fz, pI (.tmp 3 0) .box, pI (.tmp 16 0) .lst, pI (.tmp 11 0) .box]) (hJ99 _ rfl)
        · replace c102 := of_decide_eq_false c102; rw [if_neg c102] at h
          refine sr_k fun J103 hJ103 => ?_
          simp +decide only [Nat.reduceAdd, Nat.reduceMul, Int.reduceToNat, ak]
          refine hJ103 _ ?_
          refine cond_k (b := decide (t94.1 = 1)) rfl (fun c104 => ?_) (fun c104 => ?_)
          · replace c104 := of_decide_eq_true c104; rw [if_pos c104] at h
            refine reg_k ?_
            simp +decide only [Nat.reduceAdd, Nat.reduceMul, Int.reduceToNat, ak]
            obtain rfl := Option.some.inj h
            refine G100n _ _ (wk [3, 5, 11] [pI (.arg 0) .fz, pI (.tmp 3 0) .box, pI (.tmp 16 0) .lst, pI (.tmp 11 0) .box]) (hJ99 _ rfl)
          · replace c104 := of_decide_eq_false c104; rw [if_neg c104] at h
            refine sr_k fun J105 hJ105 => ?_
            simp +decide only [Nat.reduceAdd, Nat.reduceMul, Int.reduceToNat, ak]
            refine hJ105 _ ?_
            refine cond_k (b := decide (t94.1 = 2)) rfl (fun c106 => ?_) (fun c106 => ?_)
            · replace c106 := of_decide_eq_true c106; rw [if_pos c106] at h
              refine reg_k ?_
              simp +decide only [Nat.reduceAdd, Nat.reduceMul, Int.reduceToNat, ak]
              obtain rfl := Option.some.inj h
              refine G100n _ _ (wk [3, 5, 11] [pI (.arg 0) .fz, pI (.tmp 3 0) .box, pI (.tmp 16 0) .lst, pI (.tmp 11 0) .box]) (hJ99 _ rfl)
            · replace c106 := of_decide_eq_false c106; rw [if_neg c106] at h
              obtain ⟨j107, h108, hn⟩ := of_bind h
              refine seq_j (fun st => st = ⟨[(3, .c (.ptr (.tmp 3 0) [] 0)), (4, .c (.ptr (.tmp 4 0) [] 0)), (5, .c (.ref (.tmp 16 0) [] 0 t7.1.length)), (11, .c (.ptr (.tmp 11 0) [] 0)), (12, .c (.sc (.int .i64 t94.1))), (102, .c (.sc (.bool j107)))], [(.arg 0, ⟨.fz, 1, cs0⟩), (.tmp 3 0, ⟨.box, 0, [.sc (.int .u64 0), .sc (.int .u64 0)]⟩), (.tmp 4 0, ⟨.box, 0, [.ref (.arg 0) [] o0 l0.length, .sc (.int .i64 t94.2.1), .sc (.int .u64 t94.2.2)]⟩), (.tmp 16 0, ⟨.lst, 2, encL c31 t7.1⟩), (.tmp 11 0, ⟨.box, 0, [.sc (.int .u64 j55.1), .sc (.int .u64 (IntKind.u64.wrap (j55.1 + (IntKind.u64.wrap t90.1))))]⟩)], [], []⟩) (fun J109 hJ109 => ?_) ?_
              · replace h := h108; clear hn
                refine ga_k fun G110 G110n G110r G110x => ?_
                refine reg_k ?_
                simp +decide only [Nat.reduceAdd, Nat.reduceMul, Int.reduceToNat, ak]
                by_cases c111 : t94.1 = 3
                · rw [if_pos c111] at h
                  have e112 : decide (t94.1 = 3) = true := decide_eq_true c111
                  simp +decide only [Nat.reduceAdd, Nat.reduceMul, Int.reduceToNat, ak, e112]
                  obtain rfl := Option.some.inj h
                  refine G110n _ _ (wk [3, 4, 5, 11, 12, 102] [pI (.arg 0) .fz, pI (.tmp 3 0) .box, pI (.tmp 4 0) .box, pI (.tmp 16 0) .lst, pI (.tmp 11 0) .box] (h0 := by first | rfl | simp +decide only [ak, akF, e112]) (h := by first | rfl | (simp +decide only [ak, akF, e112]; done) | (simp +decide [ak, akF, e112] <;> omega))) (hJ109 _ rfl)
                · rw [if_neg c111] at h
                  have e113 : decide (t94.1 = 3) = false := decide_eq_false c111
                  simp +decide only [Nat.reduceAdd, Nat.reduceMul, Int.reduceToNat, ak, e113]
                  obtain rfl := Option.some.inj h
                  refine G110n _ _ (wk [3, 4, 5, 11, 12, 102] [pI (.arg 0) .fz, pI (.tmp 3 0) .box, pI (.tmp 4 0) .box, pI (.tmp 16 0) .lst, pI (.tmp 11 0) .box] (h0 := by first | rfl | simp +decide only [ak, akF, e113]) (h := by first | rfl | (simp +decide only [ak, akF, e113]; done) | (simp +decide [ak, akF, e113] <;> omega))) (hJ109 _ rfl)
              · replace h := hn; clear hn h108
                rintro _ rfl
                refine cond_k (b := j107) rfl (fun c114 => ?_) (fun c114 => ?_)
                · rw [if_pos c114] at h
                  refine sr_k fun J115 hJ115 => ?_
                  simp +decide only [Nat.reduceAdd, Nat.reduceMul, Int.reduceToNat, ak]
                  obtain ⟨t116, h117, h⟩ := of_bind h
                  refine call_m [(.arg 0, ⟨(.tmp 4 0), [], none, .box⟩), (.arg 1, ⟨(.arg 0), [], none, .fz⟩)] (s0 := [(.arg 0, ⟨.box, 0, [.ref (.arg 1) [] o0 l0.length, .sc (.int .i64 t94.2.1), .sc (.int .u64 t94.2.2)]⟩), (.arg 1, ⟨.fz, 1, cs0⟩)]) (by intro t ht; cases ht; decide) rfl rfl (by first | rfl | simp only [reduceCtorEq, Nat.reduceEqDiff, ak, akF]) (spec_l1Next.tri (cs0) o0 l0 hv0 t94.2.1 t94.2.2 (IntKind.i64.wrap ((t7.1.length : Int) - 1)) _ h117) (by first | rfl | simp only [reduceCtorEq, Nat.reduceEqDiff, ak, akF]) (by simp [bkOk2, memK]) (fun hl117 => ?_)
                  refine call_st (s4 := [(.arg 0, ⟨.fz, 1, cs0⟩), (.tmp 3 0, ⟨.box, 0, [.sc (.int .u64 0), .sc (.int .u64 0)]⟩), (.tmp 4 0, ⟨.box, 0, [.ref (.arg 0) [] o0 l0.length, .sc (.int .i64 t116.2.1), .sc (.int .u64 t116.2.2)]⟩), (.tmp 16 0, ⟨.lst, 2, encL c31 t7.1⟩), (.tmp 11 0, ⟨.box, 0, [.sc (.int .u64 j55.1), .sc (.int .u64 (IntKind.u64.wrap (j55.1 + (IntKind.u64.wrap t90.1))))]⟩)]) (m1' := []) (m2' := []) (v' := .c (.sc (.int .i64 t116.1))) (Sto.mapN_killNil _ _) (mrgL_whole (new' := [.ref (.arg 0) [] o0 l0.length, .sc (.int .i64 t116.2.1), .sc (.int .u64 t116.2.2)]) (mrgL_fz (mrgL_nil' _ _ _) rfl (by first | rfl | simp only [reduceCtorEq, Nat.reduceEqDiff, ak]) rfl (by intro R hR hh; cases hR; cases hh.2)) rfl (by rfl) (.inl ⟨rfl, by first | rfl | simp only [reduceCtorEq, Nat.reduceEqDiff, ak, akF, Nat.zero_add, List.append_nil]⟩)) (by rfl) (mapT_killNil _ _) (by rfl) (by rfl) (by first | rfl | simp only [reduceCtorEq, Nat.reduceEqDiff, ak, akF, Nat.zero_add, List.append_nil]) ?_
                  simp +decide only [Nat.reduceAdd, Nat.reduceMul, Int.reduceToNat, ak]
                  refine hJ115 _ ?_
                  refine regD_k ?_
                  obtain ⟨b119, h⟩ := of_guard h
                  have g120 : 0 + (IntKind.i64.wrap ((IntKind.i64.wrap (1 + t116.1)) - 1)).toNat * 2 + 1 ≤ (encL c31 t7.1).length := ((Vw.whole c31_w t7.1).len_le b119.1 b119.2 (by decide))
                  have g121 : (encL c31 t7.1)[0 + (IntKind.i64.wrap ((IntKind.i64.wrap (1 + t116.1)) - 1)).toNat * 2 + 1]? = some (.sc (.int .u64 ((rd z31 t7.1 (IntKind.i64.wrap ((IntKind.i64.wrap (1 + t116.1)) - 1))).f1))) := (Vw.whole c31_w t7.1).get z31 1 b119.1 b119.2 (by decide)
                  simp +decide only [Nat.reduceAdd, Nat.reduceMul, Int.reduceToNat, ak, b119, g120, g121]
                  obtain ⟨t122, h123, h⟩ := of_bind h
                  obtain ⟨b125, h⟩ := of_guard h
                  refine alt_e ?_
                  · simp +decide only [Nat.reduceAdd, Nat.reduceMul, Int.reduceToNat, ak]
                    refine call_m [(.arg 0, ⟨(.tmp 4 0), [], none, .box⟩), (.arg 1, ⟨(.arg 0), [], none, .fz⟩)] (s0 := [(.arg 0, ⟨.box, 0, [.ref (.arg 1) [] o0 l0.length, .sc (.int .i64 t116.2.1), .sc (.int .u64 t116.2.2)]⟩), (.arg 1, ⟨.fz, 1, cs0⟩)]) (by intro t ht; cases ht; decide) rfl rfl (by first | rfl | simp only [reduceCtorEq, Nat.reduceEqDiff, ak, akF, b119, b125, g120, g121]) (spec_l1Next.tri (cs0) o0 l0 hv0 t116.2.1 t116.2.2 2 _ h123) (by first | rfl | simp only [reduceCtorEq, Nat.reduceEqDiff, ak, akF]) (by simp [bkOk2, memK]) (fun hl134 => ?_)
                    refine call_st (s4 := [(.arg 0, ⟨.fz, 1, cs0⟩), (.tmp 3 0, ⟨.box, 0, [.sc (.int .u64 0), .sc (.int .u64 0)]⟩), (.tmp 4 0, ⟨.box, 0, [.ref (.arg 0) [] o0 l0.length, .sc (.int .i64 t122.2.1), .sc (.int .u64 t122.2.2)]⟩), (.tmp 16 0, ⟨.lst, 2, encL c31 t7.1⟩), (.tmp 11 0, ⟨.box, 0, [.sc (.int .u64 j55.1), .sc (.int .u64 (IntKind.u64.wrap (j55.1 + (IntKind.u64.wrap t90.1))))]⟩)]) (m1' := []) (m2' := []) (v' := .c (.sc (.int .i64 t122.1))) (Sto.mapN_killNil _ _) (mrgL_whole (new' := [.ref (.arg 0) [] o0 l0.length, .sc (.int .i64 t122.2.1), .sc (.int .u64 t122.2.2)]) (mrgL_fz (mrgL_nil' _ _ _) rfl (by first | rfl | simp only [reduceCtorEq, Nat.reduceEqDiff, ak, b119, b125, g120, g121]) rfl (by intro R hR hh; cases hR; cases hh.2)) rfl (by rfl) (.inl ⟨rfl, by first | rfl | simp only [reduceCtorEq, Nat.reduceEqDiff, ak, akF, Nat.zero_add, List.append_nil, b119, b125]⟩)) (by rfl) (mapT_killNil _ _) (by rfl) (by rfl) (by first | rfl | simp only [reduceCtorEq, Nat.reduceEqDiff, ak, akF, Nat.zero_add, List.append_nil, b119, b125]) ?_
                    have g136 : 0 + (IntKind.i64.wrap (1 + t116.1)).toNat * 2 + 0 ≤ (encL c31 t7.1).length := ((Vw.whole c31_w t7.1).len_le b125.1 b125.2 (by decide))
                    simp +decide only [Nat.reduceAdd, Nat.reduceMul, Int.reduceToNat, ak, b119, g121, b125, g136]
                    refine alt_e ?_
                    · have g141 : 0 + (IntKind.i64.wrap (1 + t116.1)).toNat * 2 + 0 + 1 ≤ (encL c31 t7.1).length := (Vw.whole c31_w t7.1).le b125.1 b125.2 (j := 0) (q := 1) (by decide)
                      have g142 : 0 + (IntKind.i64.wrap (1 + t116.1)).toNat * 2 + 0 < (encL c31 t7.1).length := (Vw.whole c31_w t7.1).lt b125.1 b125.2 (j := 0) (by decide)
                      have g143 : (encL c31 t7.1)[0 + (IntKind.i64.wrap (1 + t116.1)).toNat * 2 + 0]? = some (.sc (.int .u64 ((rd z31 t7.1 (IntKind.i64.wrap (1 + t116.1))).f0))) := (Vw.whole c31_w t7.1).get z31 0 b125.1 b125.2 (by decide)
                      have g144 : (encL c31 t7.1).set (0 + (IntKind.i64.wrap (1 + t116.1)).toNat * 2 + 0) (.sc (.int .u64 (IntKind.u64.wrap (((rd z31 t7.1 (IntKind.i64.wrap ((IntKind.i64.wrap (1 + t116.1)) - 1))).f1) - (IntKind.u64.wrap t122.1))))) = encL c31 (t7.1.set (IntKind.i64.wrap (1 + t116.1)).toNat (⟨IntKind.u64.wrap (((rd z31 t7.1 (IntKind.i64.wrap ((IntKind.i64.wrap (1 + t116.1)) - 1))).f1) - (IntKind.u64.wrap t122.1)), (rd z31 t7.1 (IntKind.i64.wrap (1 + t116.1))).f1⟩ : S31)) := encL_put c31_w z31 b125.1 b125.2 (j := 0) (by decide) rfl
                      simp +decide only [Nat.reduceAdd, Nat.reduceMul, Int.reduceToNat, ak, b125, g141, g142, g143, g144]
                      obtain rfl := Option.some.inj h
                      refine G100n _ _ (wk [3, 5, 11] [pI (.arg 0) .fz, pI (.tmp 3 0) .box, pI (.tmp 16 0) .lst, pI (.tmp 11 0) .box] (h0 := by first | rfl | simp +decide only [ak, akF, b119, b125]) (h := by first | rfl | (simp +decide only [ak, akF, b119, b125]; done) | (simp +decide [ak, akF, b119, b125] <;> omega))) (hJ99 _ rfl)
                · rw [if_neg (Bool.eq_false_iff.1 c114)] at h
                  obtain ⟨j145, h146, hn⟩ := of_bind h
                  refine seq_j (fun st => st = ⟨[(3, .c (.ptr (.tmp 3 0) [] 0)), (5, .c (.ref (.tmp 16 0) [] 0 t7.1.length)), (11, .c (.ptr (.tmp 11 0) [] 0)), (127, .c (.sc (.bool j145)))], [(.arg 0, ⟨.fz, 1, cs0⟩), (.tmp 3 0, ⟨.box, 0, [.sc (.int .u64 0), .sc (.int .u64 0)]⟩), (.tmp 16 0, ⟨.lst, 2, encL c31 t7.1⟩), (.tmp 11 0, ⟨.box, 0, [.sc (.int .u64 j55.1), .sc (.int .u64 (IntKind.u64.wrap (j55.1 + (IntKind.u64.wrap t90.1))))]⟩)], [], []⟩) (fun J147 hJ147 => ?_) ?_
                  · replace h := h146; clear hn
                    refine ga_k fun G148 G148n G148r G148x => ?_
                    refine reg_k ?_
                    simp +decide only [Nat.reduceAdd, Nat.reduceMul, Int.reduceToNat, ak]
                    by_cases c149 : t94.1 = 4
                    · rw [if_pos c149] at h
                      have e150 : decide (t94.1 = 4) = true := decide_eq_true c149
                      simp +decide only [Nat.reduceAdd, Nat.reduceMul, Int.reduceToNat, ak, e150]
                      obtain rfl := Option.some.inj h
                      refine G148n _ _ (wk [3, 5, 11, 127] [pI (.arg 0) .fz, pI (.tmp 3 0) .box, pI (.tmp 16 0) .lst, pI (.tmp 11 0) .box] (h0 := by first | rfl | simp +decide only [ak, akF, e150]) (h := by first | rfl | (simp +decide only [ak, akF, e150]; done) | (simp +decide [ak, akF, e150] <;> omega))) (hJ147 _ rfl)
                    · rw [if_neg c149] at h
                      have e151 : decide (t94.1 = 4) = false := decide_eq_false c149
                      simp +decide only [Nat.reduceAdd, Nat.reduceMul, Int.reduceToNat, ak, e151]
                      obtain rfl := Option.some.inj h
                      refine G148n _ _ (wk [3, 5, 11, 127] [pI (.arg 0) .fz, pI (.tmp 3 0) .box, pI (.tmp 16 0) .lst, pI (.tmp 11 0) .box] (h0 := by first | rfl | simp +decide only [ak, akF, e151]) (h := by first | rfl | (simp +decide only [ak, akF, e151]; done) | (simp +decide [ak, akF, e151] <;> omega))) (hJ147 _ rfl)
                  · replace h := hn; clear hn h146
                    rintro _ rfl
                    refine cond_k (b := j145) rfl (fun c152 => ?_) (fun c152 => ?_)
                    · rw [if_pos c152] at h
                      refine reg_k ?_
                      obtain ⟨b153, h⟩ := of_guard h
                      have g154 : 0 ≤ (encL c31 t7.1).length := (by have := (Vw.whole c31_w t7.1).len_le b153.1 b153.2 (j := 0) (by decide); first | exact this | simpa using this)
                      have g155 : (encL c31 t7.1)[0]? = some (.sc (.int .u64 ((rd z31 t7.1 0).f0))) := (by have := (Vw.whole c31_w t7.1).get z31 0 b153.1 b153.2 (by decide); first | exact this | simpa using this)
                      have g156 : 1 ≤ (encL c31 t7.1).length := (by have := (Vw.whole c31_w t7.1).len_le b153.1 b153.2 (j := 1) (by decide); first | exact this | simpa using this)
                      have g157 : 1 + 1 ≤ (encL c31 t7.1).length := (by have := (Vw.whole c31_w t7.1).le b153.1 b153.2 (j := 1) (q := 1) (by decide); first | exact this | simpa using this)
                      have g158 : 1 < (encL c31 t7.1).length := (by have := (Vw.whole c31_w t7.1).lt b153.1 b153.2 (j := 1) (by decide); first | exact this | simpa using this)
                      have g159 : (encL c31 t7.1)[1]? = some (.sc (.int .u64 ((rd z31 t7.1 0).f1))) := (by have := (Vw.whole c31_w t7.1).get z31 1 b153.1 b153.2 (by decide); first | exact this | simpa using this)
                      have g160 : (encL c31 t7.1).set 1 (.sc (.int .u64 ((rd z31 t7.1 0).f0))) = encL c31 (t7.1.set 0 (⟨(rd z31 t7.1 0).f0, (rd z31 t7.1 0).f0⟩ : S31)) := (by have := encL_put c31_w z31 b153.1 b153.2 (j := 1) (x := (⟨(rd z31 t7.1 0).f0, (rd z31 t7.1 0).f0⟩ : S31)) (y := .sc (.int .u64 ((rd z31 t7.1 0).f0))) (by decide) rfl; first | exact this | simpa using this)
                      simp +decide only [Nat.reduceAdd, Nat.reduceMul, Int.reduceToNat, ak, b153, g154, g155, g156, g157, g158, g159, g160]
                      obtain rfl := Option.some.inj h
                      refine G100n _ _ (wk [3, 5, 11] [pI (.arg 0) .fz, pI (.tmp 3 0) .box, pI (.tmp 16 0) .lst, pI (.tmp 11 0) .box] (h0 := by first | rfl | simp +decide only [ak, akF, b153]) (h := by first | rfl | (simp +decide only [ak, akF, b153]; done) | (simp +decide [ak, akF, b153] <;> omega))) (hJ99 _ rfl)
                    · rw [if_neg (Bool.eq_false_iff.1 c152)] at h
                      obtain rfl := Option.some.inj h
                      refine G100n _ _ (wk [3, 5, 11] [pI (.arg 0) .fz, pI (.tmp 3 0) .box, pI (.tmp 16 0) .lst, pI (.tmp 11 0) .box]) (hJ99 _ rfl)
      · replace h := hn; clear hn h98
        rintro _ rfl
        refine sd_k fun J161 hJ161 => ?_
        simp +decide only [Nat.reduceAdd, Nat.reduceMul, Int.reduceToNat, ak]
        refine alt_e ?_
        · simp +decide only [Nat.reduceAdd, Nat.reduceMul, Int.reduceToNat, ak]
          refine hJ161 _ ?_
          obtain rfl := Option.some.inj h
          refine hKr _ ⟨_, rfl, [⟨(.tmp 16 0), [], none, .lst⟩], _, rfl, rfl, ?_⟩
          first | rfl | (simp only [reduceCtorEq, Nat.reduceEqDiff, ak, akF]; done) | (simp [reduceCtorEq, Nat.reduceEqDiff, ak, akF] <;> omega)
/-! ### spec.DrawSpanAdd: function 19 -/
def C19 : AC := .seq (.reg [.op none (.mv 2 (.const (.slice none 0 0))), .gh, .op none (.alloc 3 [.int .u64 0, .int .u64 0]), .keep [0, 3]]) (.seq (.reg [.op none (.mv 4 (.tmp 0)), .call none (some 5) 70 [.tmp 4], .op none (.extr 6 (.tmp 5) 0), .op none (.extr 7 (.tmp 5) 1), .op none (.mv 2 (.tmp 6)), .op none (.store 2 (.tmp 3) (.tmp 7)), .keep [2, 3]]) (.ret))
def r19 : List RV := [.tmp 2, .cell 3 true 2]
theorem k19 : compC Try.prog 8 C19 (Try.f19.body.getD .skip) = some C19.erase := by kernel_rfl
theorem q19 : rvsOf Try.prog Try.f19.results.toList = some r19 := by kernel_rfl
def spec_DrawSpanAdd.f (l0 : List Int) : Option ((List S31) × Int × Int) := (spec_l2DrawArgs.f l0 >>= fun t3 => (some (t3.1, t3.2.1, t3.2.2)))
theorem spec_DrawSpanAdd.tri (cs0 : List Cell) (o0 : Nat) (l0 : List Int) (hv0 : Vw c_u8 1 cs0 o0 l0) (r : (List S31) × Int × Int) (h : spec_DrawSpanAdd.f l0 = some r) : Tri Try.prog 19 [.c (.ref (.arg 0) [] o0 l0.length)] [(.arg 0, ⟨.fz, 1, cs0⟩)] (fun o => o = ⟨.tup [(false, [.ref (.res 0) [] 0 r.1.length]), (true, [.sc (.int .u64 r.2.1), .sc (.int .u64 r.2.2)])], [(.arg 0, ⟨.fz, 1, cs0⟩), (.res 0, ⟨.lst, 2, encL c31 r.1⟩)], [], []⟩) := by
  refine tri_of_body (ac := C19) (xs := r19) Try.func19 (show Try.f19.body = some (Try.f19.body.getD .skip) from rfl) k19 q19 (Nat.le_of_ble_eq_true rfl) ?_
  refine body_of fun K hKn hKr => ?_
  unfold spec_DrawSpanAdd.f at h
  unfold C19
  simp only [initT, Nat.reduceAdd]
  refine sr_k fun J1 hJ1 => ?_
  simp +decide only [Nat.reduceAdd, Nat.reduceMul, Int.reduceToNat, ak]
  refine gho_k (Weak.nm' 2 (.tmp 2 20) 2 (encL c31 ([] : List S31)) rfl rfl rfl) ?_
  simp +decide only [Nat.reduceAdd, Nat.reduceMul, Int.reduceToNat, ak]
  refine hJ1 _ ?_
  refine sr_k fun J2 hJ2 => ?_
  simp +decide only [Nat.reduceAdd, Nat.reduceMul, Int.reduceToNat, ak]
  obtain ⟨t3, h4, h⟩ := of_bind h
  refine call_m [(.arg 0, ⟨(.arg 0), [], none, .fz⟩)] (s0 := [(.arg 0, ⟨.fz, 1, cs0⟩)]) (by intro t ht; cases ht; decide) rfl rfl (by first | rfl | simp only [reduceCtorEq, Nat.reduceEqDiff, ak, akF]) (spec_l2DrawArgs.tri (cs0) o0 l0 hv0 _ h4) (by first | rfl | simp only [reduceCtorEq, Nat.reduceEqDiff, ak, akF]) (by simp [bkOk2, memK]) (fun hl4 => ?_)
  refine call_st (s4 := [(.arg 0, ⟨.fz, 1, cs0⟩), (.tmp 2 20, ⟨.lst, 2, encL c31 ([] : List S31)⟩), (.tmp 3 0, ⟨.box, 0, [.sc (.int .u64 0), .sc (.int .u64 0)]⟩), (.tmp 5 0, ⟨.lst, 2, encL c31 t3.1⟩)]) (m1' := []) (m2' := []) (v' := .tup [(false, [.ref (.tmp 5 0) [] 0 t3.1.length]), (true, [.sc (.int .u64 t3.2.1), .sc (.int .u64 t3.2.2)])]) (Sto.mapN_killNil _ _) (mrgL_fz (mrgL_nil' _ _ _) rfl (by first | rfl | simp only [reduceCtorEq, Nat.reduceEqDiff, ak]) rfl (by intro R hR hh; cases hR; cases hh.2)) (by rfl) (mapT_killNil _ _) (by rfl) (by rfl) (by first | rfl | simp only [reduceCtorEq, Nat.reduceEqDiff, ak, akF, Nat.zero_add, List.append_nil]) ?_
  simp +decide only [Nat.reduceAdd, Nat.reduceMul, Int.reduceToNat, ak]
  refine hJ2 _ ?_
  obtain rfl := Option.some.inj h
  refine hKr _ ⟨_, rfl, [⟨(.tmp 5 0), [], none, .lst⟩], _, rfl, rfl, ?_⟩
  first | rfl | (simp only [reduceCtorEq, Nat.reduceEqDiff, ak, akF]; done) | (simp [reduceCtorEq, Nat.reduceEqDiff, ak, akF] <;> omega)
/-! ### spec.l2SetOK: function 104 -/
def C104_l0 : AC := .seq (.seq (.reg [.op none (.mv 7 (.tmp 3)), .op none (.mv 8 (.tmp 0)), .op none (.len 9 (.tmp 8)), .op none (.bin 10 .lss (.tmp 7) (.tmp 9)), .keep [0, 3, 10]]) (.cond (.tmp 10) (.skip) (.gh (.exit 0)))) (.seq (.block 1 (.seq (.ga (.regD (.first (.op none (.mv 13 (.tmp 0))) (.first (.op none (.mv 14 (.tmp 3))) (.first (.op none (.iaddr 15 2 (.tmp 13) (.tmp 14))) (.first (.op none (.faddr 16 0 (.tmp 15))) (.first (.op none (.load 17 false 1 (.tmp 16))) (.first (.op none (.mv 18 (.tmp 0))) (.first (.op none (.mv 19 (.tmp 3))) (.first (.op none (.iaddr 20 2 (.tmp 18) (.tmp 19))) (.first (.op none (.faddr 21 1 (.tmp 20))) (.first (.op none (.load 22 false 1 (.tmp 21))) (.first (.op none (.bin 23 .geq (.tmp 17) (.tmp 22))) (.first (.op none (.mv 24 (.tmp 23))) (.first (.op (some (24, false)) (.mv 25 (.tmp 3))) (.first (.op (some (24, false)) (.bin 26 .gtr (.tmp 25) (.const (.int .i64 0)))) (.first (.op (some (24, false)) (.mv 27 (.tmp 26))) (.first (.op (some (27, true)) (.mv 28 (.tmp 0))) (.first (.op (some (27, true)) (.mv 29 (.tmp 3))) (.first (.op (some (27, true)) (.iaddr 30 2 (.tmp 28) (.tmp 29))) (.first (.op (some (27, true)) (.faddr 31 0 (.tmp 30))) (.first (.op (some (27, true)) (.load 32 false 1 (.tmp 31))) (.first (.op (some (27, true)) (.mv 33 (.tmp 0))) (.first (.op (some (27, true)) (.mv 34 (.tmp 3))) (.first (.op (some (27, true)) (.bin 35 .sub (.tmp 34) (.const (.int .i64 1)))) (.first (.op (some (27, true)) (.iaddr 36 2 (.tmp 33) (.tmp 35))) (.first (.op (some (27, true)) (.faddr 37 1 (.tmp 36))) (.first (.op (some (27, true)) (.load 38 false 1 (.tmp 37))) (.first (.op (some (27, true)) (.bin 39 .leq (.tmp 32) (.tmp 38))) (.first (.op (some (24, false)) (.pick 40 (.tmp 27) (.tmp 39) (.const (.bool false)))) (.first (.op none (.pick 41 (.tmp 24) (.const (.bool true)) (.tmp 40))) (.done)))))))))))))))))))))))))))))) [0, 3, 41])) (.cond (.tmp 41) (.seq (.reg [.op none (.mv 2 (.const (.bool false))), .keep [2]]) (.gh .ret)) (.skip)))) (.reg [.op none (.mv 11 (.tmp 3)), .op none (.bin 12 .add (.tmp 11) (.const (.int .i64 1))), .op none (.mv 3 (.tmp 12)), .keep [0, 3]]))
def C104 : AC := .seq (.reg [.op none (.mv 2 (.const (.bool false))), .keep [0]]) (.seq (.seq (.reg [.op none (.mv 4 (.tmp 0)), .op none (.len 5 (.tmp 4)), .op none (.bin 6 .gtr (.tmp 5) (.const (.int .i64 1000))), .keep [0, 6]]) (.cond (.tmp 6) (.seq (.reg [.op none (.mv 2 (.const (.bool false))), .keep [2]]) (.ret)) (.skip))) (.seq (.seq (.reg [.op none (.mv 3 (.const (.int .i64 0))), .keep [0, 3]]) (.block 0 (.gh (.loop (.ga C104_l0))))) (.seq (.reg [.op none (.mv 2 (.const (.bool true))), .keep [2]]) (.ret))))
def r104 : List RV := [.tmp 2]
theorem k104 : compC Try.prog 42 C104 (Try.f104.body.getD .skip) = some C104.erase := by kernel_rfl
theorem q104 : rvsOf Try.prog Try.f104.results.toList = some r104 := by kernel_rfl
def spec_l2SetOK.l0 (l0 : List S31) (x0_0 : Int) : Option (Lp Unit Bool) := (if x0_0 < (l0.length : Int) then ((if 0 ≤ x0_0 ∧ x0_0 < (l0.length : Int) then (if (rd z31 l0 x0_0).f0 ≥ (rd z31 l0 x0_0).f1 then (some true) else (if x0_0 > 0 then (if 0 ≤ IntKind.i64.wrap (x0_0 - 1) ∧ IntKind.i64.wrap (x0_0 - 1) < (l0.length : Int) then (some (decide ((rd z31 l0 x0_0).f0 ≤ (rd z31 l0 (IntKind.i64.wrap (x0_0 - 1))).f1))) else none) else (some false))) else none) >>= fun (j14 : Bool) => (if j14 = true then (some (.b false)) else (spec_l2SetOK.l0 l0 (IntKind.i64.wrap (x0_0 + 1))))) else (some (.a ())))
  partial_fixpoint
def spec_l2SetOK.f (l0 : List S31) : Option Bool := (if (l0.length : Int) > 1000 then (some false) else (spec_l2SetOK.l0 l0 0 >>= fun (y34 : Lp Unit Bool) => match y34 with | .a x36 => (some true) | .b x36 => (some x36)))
def spec_l2SetOK.l0_M (cs0 : List Cell) (o0 : Nat) (l0 : List S31) (hv0 : Vw c31 2 cs0 o0 l0) (x0_0 : Int) (y : Lp Unit Bool) : Prop := ∀ (K : AE → St → Prop), (∀ x, y = .a x → K (.exit 0) ⟨[], [(.arg 0, ⟨.fz, 2, cs0⟩)], [], []⟩) → (∀ x, y = .b x → K .ret ⟨[(2, .c (.sc (.bool x)))], [(.arg 0, ⟨.fz, 2, cs0⟩)], [], []⟩) → loopS Try.prog 42 (.ga C104_l0) K ⟨[(0, .c (.ref (.arg 0) [] o0 l0.length)), (3, .c (.sc (.int .i64 x0_0)))], [(.arg 0, ⟨.fz, 2, cs0⟩)], [], []⟩
theorem spec_l2SetOK.l0_walk (cs0 : List Cell) (o0 : Nat) (l0 : List S31) (hv0 : Vw c31 2 cs0 o0 l0) (x0_0 : Int) (y : Lp Unit Bool) (h : spec_l2SetOK.l0 l0 x0_0 = some y) : spec_l2SetOK.l0_M cs0 o0 l0 hv0 x0_0 y := by
  refine spec_l2SetOK.l0.partial_correctness l0 (motive := fun x0_0 y => spec_l2SetOK.l0_M cs0 o0 l0 hv0 x0_0 y) ?_ x0_0 y h
  clear h
  unfold spec_l2SetOK.l0_M
  intro rec ih x0_0 y h K hx0 hx1
  refine loop_unroll (ga_k fun G0 G0n G0r G0x => ?_)
  unfold C104_l0
  refine seq_k fun J9 hJ9 => ?_
  refine sr_k fun J10 hJ10 => ?_
  simp +decide only [Nat.reduceAdd, Nat.reduceMul, Int.reduceToNat, ak]
  refine hJ10 _ ?_
  refine cond_k (b := decide (x0_0 < (l0.length : Int))) rfl (fun c11 => ?_) (fun c11 => ?_)
  · replace c11 := of_decide_eq_true c11; rw [if_pos c11] at h
    refine hJ9 _ ?_
    refine seq_k fun J12 hJ12 => ?_
    refine block_k fun B13 B13n B13x B13r B13j => ?_
    obtain ⟨j14, h15, hn⟩ := of_bind h
    refine seq_j (fun st => st = ⟨[(0, .c (.ref (.arg 0) [] o0 l0.length)), (3, .c (.sc (.int .i64 x0_0))), (41, .c (.sc (.bool j14)))], [(.arg 0, ⟨.fz, 2, cs0⟩)], [], []⟩) (fun J16 hJ16 => ?_) ?_
    · replace h := h15; clear hn
      refine ga_k fun G17 G17n G17r G17x => ?_
      refine regD_k ?_
      obtain ⟨b18, h⟩ := of_guard h
      have g19 : o0 + x0_0.toNat * 2 + 0 ≤ (cs0).length := (hv0.len_le b18.1 b18.2 (by decide))
      have g20 : (cs0)[o0 + x0_0.toNat * 2 + 0]? = some (.sc (.int .u64 ((rd z31 l0 x0_0).f0))) := hv0.get z31 0 b18.1 b18.2 (by decide)
      have g21 : o0 + x0_0.toNat * 2 + 1 ≤ (cs0).length := (hv0.len_le b18.1 b18.2 (by decide))
      have g22 : (cs0)[o0 + x0_0.toNat * 2 + 1]? = some (.sc (.int .u64 ((rd z31 l0 x0_0).f1))) := hv0.get z31 1 b18.1 b18.2 (by decide)
      simp +decide only [Nat.reduceAdd, Nat.reduceMul, Int.reduceToNat, ak, b18, g19, g20, g21, g22]
      by_cases c23 : (rd z31 l0 x0_0).f0 ≥ (rd z31 l0 x0_0).f1
      · rw [if_pos c23] at h
        have e24 : decide ((rd z31 l0 x0_0).f0 ≥ (rd z31 l0 x0_0).f1) = true := decide_eq_true c23
        simp +decide only [Nat.reduceAdd, Nat.reduceMul, Int.reduceToNat, ak, e24]
        obtain rfl := Option.some.inj h
        refine G17n _ _ (wk [0, 3, 41] [pI (.arg 0) .fz] (h0 := by first | rfl | simp +decide only [ak, akF, b18, e24]) (h := by first | rfl | (simp +decide only [ak, akF, b18, e24]; done) | (simp +decide [ak, akF, b18, e24] <;> omega))) (hJ16 _ rfl)
      · rw [if_neg c23] at h
        have e25 : decide ((rd z31 l0 x0_0).f0 ≥ (rd z31 l0 x0_0).f1) = false := decide_eq_false c23
        simp +decide only [Nat.reduceAdd, Nat.reduceMul, Int.reduceToNat, ak, e25]
        by_cases c26 : x0_0 > 0
        · rw [if_pos c26] at h
          have e27 : decide (x0_0 > 0) = true := decide_eq_true c26
          obtain ⟨b28, h⟩ := of_guard h
          have g29 : o0 + (IntKind.i64.wrap (x0_0 - 1)).toNat * 2 + 1 ≤ (cs0).length := (hv0.len_le b28.1 b28.2 (by decide))
          have g30 : (cs0)[o0 + (IntKind.i64.wrap (x0_0 - 1)).toNat * 2 + 1]? = some (.sc (.int .u64 ((rd z31 l0 (IntKind.i64.wrap (x0_0 - 1))).f1))) := hv0.get z31 1 b28.1 b28.2 (by decide)
          simp +decide only [Nat.reduceAdd, Nat.reduceMul, Int.reduceToNat, ak, e27, b18, g19, g20, b28, g29, g30]
          obtain rfl := Option.some.inj h
          refine G17n _ _ (wk [0, 3, 41] [pI (.arg 0) .fz] (h0 := by first | rfl | simp +decide only [ak, akF, b18, b28, e25, e27]) (h := by first | rfl | (simp +decide only [ak, akF, b18, b28, e25, e27]; done) | (simp +decide [ak, akF, b18, b28, e25, e27] <;> omega))) (hJ16 _ rfl)
        · rw [if_neg c26] at h
          have e31 : decide (x0_0 > 0) = false := decide_eq_false c26
          simp +decide only [Nat.reduceAdd, Nat.reduceMul, Int.reduceToNat, ak, e31]
          obtain rfl := Option.some.inj h
          refine G17n _ _ (wk [0, 3, 41] [pI (.arg 0) .fz] (h0 := by first | rfl | simp +decide only [ak, akF, b18, e25, e31]) (h := by first | rfl | (simp +decide only [ak, akF, b18, e25, e31]; done) | (simp +decide [ak, akF, b18, e25, e31] <;> omega))) (hJ16 _ rfl)
    · replace h := hn; clear hn h15
      rintro _ rfl
      refine cond_k (b := j14) rfl (fun c32 => ?_) (fun c32 => ?_)
      · rw [if_pos c32] at h
        refine sr_k fun J33 hJ33 => ?_
        simp +decide only [Nat.reduceAdd, Nat.reduceMul, Int.reduceToNat, ak]
        refine hJ33 _ ?_
        obtain rfl := Option.some.inj h
        refine gh_k (wk [2] [pI (.arg 0) .fz]) ?_
        refine B13r _ ?_
        refine G0r _ ?_
        exact hx1 _ rfl
      · rw [if_neg (Bool.eq_false_iff.1 c32)] at h
        refine B13n _ ?_
        refine hJ12 _ ?_
        refine reg_k ?_
        simp +decide only [Nat.reduceAdd, Nat.reduceMul, Int.reduceToNat, ak]
        refine G0n _ _ (wk [0, 3] [pI (.arg 0) .fz]) (ih _ _ h K hx0 hx1)
  · replace c11 := of_decide_eq_false c11; rw [if_neg c11] at h
    obtain rfl := Option.some.inj h
    refine gh_k (wk [] [pI (.arg 0) .fz]) ?_
    refine G0x _ _ ?_
    exact hx0 _ rfl
theorem spec_l2SetOK.tri (cs0 : List Cell) (o0 : Nat) (l0 : List S31) (hv0 : Vw c31 2 cs0 o0 l0) (r : Bool) (h : spec_l2SetOK.f l0 = some r) : Tri Try.prog 104 [.c (.ref (.arg 0) [] o0 l0.length)] [(.arg 0, ⟨.fz, 2, cs0⟩)] (fun o => o = ⟨.c (.sc (.bool r)), [(.arg 0, ⟨.fz, 2, cs0⟩)], [], []⟩) := by
  refine tri_of_body (ac := C104) (xs := r104) Try.func104 (show Try.f104.body = some (Try.f104.body.getD .skip) from rfl) k104 q104 (Nat.le_of_ble_eq_true rfl) ?_
  refine body_of fun K hKn hKr => ?_
  unfold spec_l2SetOK.f at h
  unfold C104
  simp only [initT, Nat.reduceAdd]
  refine sr_k fun J1 hJ1 => ?_
  simp +decide only [Nat.reduceAdd, Nat.reduceMul, Int.reduceToNat, ak]
  refine hJ1 _ ?_
  refine seq_k fun J2 hJ2 => ?_
  refine sr_k fun J3 hJ3 => ?_
  simp +decide only [Nat.reduceAdd, Nat.reduceMul, Int.reduceToNat, ak]
  refine hJ3 _ ?_
  refine cond_k (b := decide ((l0.length : Int) > 1000)) rfl (fun c4 => ?_) (fun c4 => ?_)
  · replace c4 := of_decide_eq_true c4; rw [if_pos c4] at h
    refine sr_k fun J5 hJ5 => ?_
    simp +decide only [Nat.reduceAdd, Nat.reduceMul, Int.reduceToNat, ak]
    refine hJ5 _ ?_
    obtain rfl := Option.some.inj h
    refine hKr _ ⟨_, rfl, [], _, rfl, rfl, ?_⟩
    first | rfl | (simp only [reduceCtorEq, Nat.reduceEqDiff, ak, akF]; done) | (simp [reduceCtorEq, Nat.reduceEqDiff, ak, akF] <;> omega)
  · replace c4 := of_decide_eq_false c4; rw [if_neg c4] at h
    refine hJ2 _ ?_
    refine seq_k fun J6 hJ6 => ?_
    refine sr_k fun J7 hJ7 => ?_
    simp +decide only [Nat.reduceAdd, Nat.reduceMul, Int.reduceToNat, ak]
    refine hJ7 _ ?_
    refine block_k fun B8 B8n B8x B8r B8j => ?_
    obtain ⟨y34, h35, h⟩ := of_bind h
    refine gh_k (wk [0, 3] [pI (.arg 0) .fz]) ?_
    rw [e_loop]
    refine spec_l2SetOK.l0_walk cs0 o0 l0 hv0 0 _ h35 _ ?_ ?_
    · rintro x36 rfl
      dsimp only at h
      refine B8x _ ?_
      refine hJ6 _ ?_
      refine sr_k fun J37 hJ37 => ?_
      simp +decide only [Nat.reduceAdd, Nat.reduceMul, Int.reduceToNat, ak]
      refine hJ37 _ ?_
      obtain rfl := Option.some.inj h
      refine hKr _ ⟨_, rfl, [], _, rfl, rfl, ?_⟩
      first | rfl | (simp only [reduceCtorEq, Nat.reduceEqDiff, ak, akF]; done) | (simp [reduceCtorEq, Nat.reduceEqDiff, ak, akF] <;> omega)
    · rintro x36 rfl
      dsimp only at h
      refine B8r _ ?_
      obtain rfl := Option.some.inj h
      refine hKr _ ⟨_, rfl, [], _, rfl, rfl, ?_⟩
      first | rfl | (simp only [reduceCtorEq, Nat.reduceEqDiff, ak, akF]; done) | (simp [reduceCtorEq, Nat.reduceEqDiff, ak, akF] <;> omega)
/-! ### spec.l2Points: function 121 -/
def C121_l0 : AC := .seq (.seq (.reg [.op none (.mv 17 (.tmp 6)), .op none (.mv 18 (.tmp 0)), .op none (.len 19 (.tmp 18)), .op none (.bin 20 .lss (.tmp 17) (.tmp 19)), .keep [0, 5, 6, 20]]) (.cond (.tmp 20) (.skip) (.gh (.exit 0)))) (.seq (.block 1 (.seq (.reg [.op none (.mv 23 (.tmp 5)), .op none (.mv 24 (.tmp 0)), .op none (.mv 25 (.tmp 6)), .op none (.iaddr 26 2 (.tmp 24) (.tmp 25)), .op none (.faddr 27 0 (.tmp 26)), .op none (.load 28 false 1 (.tmp 27)), .op none (.bslice 29 1 [.int .u64 0] 1 [(0, .tmp 28)]), .op none (.app 30 1 8 true (.tmp 23) (.tmp 29)), .op none (.mv 5 (.tmp 30)), .keep [0, 5, 6]]) (.reg [.op none (.mv 31 (.tmp 5)), .op none (.mv 32 (.tmp 0)), .op none (.mv 33 (.tmp 6)), .op none (.iaddr 34 2 (.tmp 32) (.tmp 33)), .op none (.faddr 35 1 (.tmp 34)), .op none (.load 36 false 1 (.tmp 35)), .op none (.bslice 37 1 [.int .u64 0] 1 [(0, .tmp 36)]), .op none (.app 38 1 8 true (.tmp 31) (.tmp 37)), .op none (.mv 5 (.tmp 38)), .keep [0, 5, 6]]))) (.reg [.op none (.mv 21 (.tmp 6)), .op none (.bin 22 .add (.tmp 21) (.const (.int .i64 1))), .op none (.mv 6 (.tmp 22)), .keep [0, 5, 6]]))
def C121_l2 : AC := .seq (.seq (.reg [.op none (.mv 47 (.tmp 11)), .op none (.mv 48 (.tmp 7)), .op none (.len 49 (.tmp 48)), .op none (.bin 50 .lss (.tmp 47) (.tmp 49)), .keep [5, 7, 8, 9, 10, 11, 50]]) (.cond (.tmp 50) (.skip) (.gh (.exit 4)))) (.seq (.block 5 (.seq (.ga (.seq (.ga (.regD (.first (.op none (.mv 53 (.tmp 10))) (.first (.op none (.un 54 .not (.tmp 53))) (.first (.op none (.mv 55 (.tmp 54))) (.first (.op (some (55, true)) (.mv 56 (.tmp 5))) (.first (.op (some (55, true)) (.mv 57 (.tmp 8))) (.first (.op (some (55, true)) (.iaddr 58 1 (.tmp 56) (.tmp 57))) (.first (.op (some (55, true)) (.load 59 false 1 (.tmp 58))) (.first (.op (some (55, true)) (.mv 60 (.tmp 7))) (.first (.op (some (55, true)) (.mv 61 (.tmp 11))) (.first (.op (some (55, true)) (.iaddr 62 1 (.tmp 60) (.tmp 61))) (.first (.op (some (55, true)) (.load 63 false 1 (.tmp 62))) (.first (.op (some (55, true)) (.bin 64 .leq (.tmp 59) (.tmp 63))) (.first (.op none (.pick 65 (.tmp 55) (.tmp 64) (.const (.bool false)))) (.done)))))))))))))) [5, 7, 8, 9, 10, 11, 65])) (.cond (.tmp 65) (.seq (.reg [.op none (.mv 10 (.const (.bool true))), .keep [5, 7, 8, 9, 10, 11]]) (.seq (.regD (.first (.op none (.mv 66 (.tmp 5))) (.first (.op none (.mv 67 (.tmp 8))) (.first (.op none (.iaddr 68 1 (.tmp 66) (.tmp 67))) (.first (.op none (.load 69 false 1 (.tmp 68))) (.first (.op none (.mv 70 (.tmp 7))) (.first (.op none (.mv 71 (.tmp 11))) (.first (.op none (.iaddr 72 1 (.tmp 70) (.tmp 71))) (.first (.op none (.load 73 false 1 (.tmp 72))) (.first (.op none (.bin 74 .neq (.tmp 69) (.tmp 73))) (.done)))))))))) [5, 7, 8, 9, 10, 11, 74]) (.cond (.tmp 74) (.reg [.op none (.mv 75 (.tmp 9)), .op none (.mv 76 (.tmp 5)), .op none (.mv 77 (.tmp 8)), .op none (.iaddr 78 1 (.tmp 76) (.tmp 77)), .op none (.load 79 false 1 (.tmp 78)), .op none (.bslice 80 1 [.int .u64 0] 1 [(0, .tmp 79)]), .op none (.app 81 1 8 true (.tmp 75) (.tmp 80)), .op none (.mv 9 (.tmp 81)), .keep [5, 7, 8, 9, 10, 11]]) (.skip)))) (.skip)))) (.reg [.op none (.mv 82 (.tmp 9)), .op none (.mv 83 (.tmp 7)), .op none (.mv 84 (.tmp 11)), .op none (.iaddr 85 1 (.tmp 83) (.tmp 84)), .op none (.load 86 false 1 (.tmp 85)), .op none (.bslice 87 1 [.int .u64 0] 1 [(0, .tmp 86)]), .op none (.app 88 1 8 true (.tmp 82) (.tmp 87)), .op none (.mv 9 (.tmp 88)), .keep [5, 7, 8, 9, 10, 11]]))) (.reg [.op none (.mv 51 (.tmp 11)), .op none (.bin 52 .add (.tmp 51) (.const (.int .i64 1))), .op none (.mv 11 (.tmp 52)), .keep [5, 7, 8, 9, 10, 11]]))
def C121_l1 : AC := .seq (.seq (.reg [.op none (.mv 40 (.tmp 8)), .op none (.mv 41 (.tmp 5)), .op none (.len 42 (.tmp 41)), .op none (.bin 43 .lss (.tmp 40) (.tmp 42)), .keep [5, 7, 8, 43]]) (.cond (.tmp 43) (.skip) (.gh (.exit 2)))) (.seq (.block 3 (.seq (.reg [.op none (.bslice 46 1 [.int .u64 0] 0 []), .op none (.mv 9 (.tmp 46)), .keep [5, 7, 8, 9]]) (.seq (.reg [.op none (.mv 10 (.const (.bool false))), .keep [5, 7, 8, 9, 10]]) (.seq (.seq (.reg [.op none (.mv 11 (.const (.int .i64 0))), .keep [5, 7, 8, 9, 10, 11]]) (.block 4 (.gh (.loop (.ga C121_l2))))) (.seq (.ga (.seq (.reg [.op none (.mv 89 (.tmp 10)), .op none (.un 90 .not (.tmp 89)), .keep [5, 8, 9, 90]]) (.cond (.tmp 90) (.reg [.op none (.mv 91 (.tmp 9)), .op none (.mv 92 (.tmp 5)), .op none (.mv 93 (.tmp 8)), .op none (.iaddr 94 1 (.tmp 92) (.tmp 93)), .op none (.load 95 false 1 (.tmp 94)), .op none (.bslice 96 1 [.int .u64 0] 1 [(0, .tmp 95)]), .op none (.app 97 1 8 true (.tmp 91) (.tmp 96)), .op none (.mv 9 (.tmp 97)), .keep [5, 8, 9]]) (.skip)))) (.reg [.op none (.mv 98 (.tmp 9)), .op none (.mv 7 (.tmp 98)), .keep [5, 7, 8]])))))) (.reg [.op none (.mv 44 (.tmp 8)), .op none (.bin 45 .add (.tmp 44) (.const (.int .i64 1))), .op none (.mv 8 (.tmp 45)), .keep [5, 7, 8]]))
def C121 : AC := .seq (.reg [.op none (.box 3 (.tmp 1)), .op none (.mv 4 (.const (.slice none 0 0))), .gh, .keep [0, 3]]) (.seq (.reg [.op none (.faddr 12 0 (.tmp 3)), .op none (.load 13 false 1 (.tmp 12)), .op none (.faddr 14 1 (.tmp 3)), .op none (.load 15 false 1 (.tmp 14)), .op none (.bslice 16 1 [.int .u64 0] 2 [(0, .tmp 13), (1, .tmp 15)]), .op none (.mv 5 (.tmp 16)), .keep [0, 5]]) (.seq (.seq (.reg [.op none (.mv 6 (.const (.int .i64 0))), .keep [0, 5, 6]]) (.block 0 (.gh (.loop (.ga C121_l0))))) (.seq (.reg [.op none (.bslice 39 1 [.int .u64 0] 0 []), .op none (.mv 7 (.tmp 39)), .keep [5, 7]]) (.seq (.seq (.reg [.op none (.mv 8 (.const (.int .i64 0))), .keep [5, 7, 8]]) (.block 2 (.gh (.loop (.ga C121_l1))))) (.seq (.reg [.op none (.mv 99 (.tmp 7)), .op none (.mv 4 (.tmp 99)), .keep [4]]) (.ret))))))
def r121 : List RV := [.tmp 4]
theorem k121 : compC Try.prog 100 C121 (Try.f121.body.getD .skip) = some C121.erase := by kernel_rfl
theorem q121 : rvsOf Try.prog Try.f121.results.toList = some r121 := by kernel_rfl
def spec_l2Points.l0 (l0 : List S31) (x0_0 : Int) (x0_1 : (List Int)) : Option (List Int) := (if x0_0 < (l0.length : Int) then (if 0 ≤ x0_0 ∧ x0_0 < (l0.length : Int) then (if (x0_1.length + 1) * 8 ≤ 140737488355328 then (if ((x0_1.length + 1) + 1) * 8 ≤ 140737488355328 then (spec_l2Points.l0 l0 (IntKind.i64.wrap (x0_0 + 1)) ((x0_1 ++ ([(rd z31 l0 x0_0).f0] : List Int)) ++ ([(rd z31 l0 x0_0).f1] : List Int))) else none) else none) else none) else (some x0_1))
  partial_fixpoint
def spec_l2Points.l2 (x2_0 : Int) (x2_3 : (List Int)) (x2_4 : (List Int)) (x2_1 : Bool) (x2_2 : Int) (x2_5 : (List Int)) : Option (Bool × (List Int)) := (if x2_2 < (x2_4.length : Int) then (((if (!x2_1) = true then (if 0 ≤ x2_0 ∧ x2_0 < (x2_3.length : Int) then (if 0 ≤ x2_2 ∧ x2_2 < (x2_4.length : Int) then (some (decide ((rd 0 x2_3 x2_0) ≤ (rd 0 x2_4 x2_2)))) else none) else none) else (some false)) >>= fun (j68 : Bool) => (if j68 = true then (if 0 ≤ x2_0 ∧ x2_0 < (x2_3.length : Int) then (if 0 ≤ x2_2 ∧ x2_2 < (x2_4.length : Int) then (if (rd 0 x2_3 x2_0) ≠ (rd 0 x2_4 x2_2) then (if (x2_5.length + 1) * 8 ≤ 140737488355328 then (some (true, (x2_5 ++ ([(rd 0 x2_3 x2_0)] : List Int)))) else none) else (some (true, x2_5))) else none) else none) else (some (x2_1, x2_5)))) >>= fun (j64 : Bool × (List Int)) => (if 0 ≤ x2_2 ∧ x2_2 < (x2_4.length : Int) then (if (j64.2.length + 1) * 8 ≤ 140737488355328 then (spec_l2Points.l2 x2_0 x2_3 x2_4 j64.1 (IntKind.i64.wrap (x2_2 + 1)) (j64.2 ++ ([(rd 0 x2_4 x2_2)] : List Int))) else none) else none)) else (some (x2_1, x2_5)))
  partial_fixpoint
def spec_l2Points.l1 (x1_1 : (List Int)) (x1_0 : Int) (x1_2 : (List Int)) : Option (List Int) := (if x1_0 < (x1_1.length : Int) then (spec_l2Points.l2 x1_0 x1_1 x1_2 false 0 ([] : List Int) >>= fun (y107 : (Bool × (List Int))) => ((if (!y107.1) = true then (if 0 ≤ x1_0 ∧ x1_0 < (x1_1.length : Int) then (if (y107.2.length + 1) * 8 ≤ 140737488355328 then (some (y107.2 ++ ([(rd 0 x1_1 x1_0)] : List Int))) else none) else none) else (some y107.2)) >>= fun (j109 : (List Int)) => (spec_l2Points.l1 x1_1 (IntKind.i64.wrap (x1_0 + 1)) j109))) else (some x1_2))
  partial_fixpoint
def spec_l2Points.f (l0 : List S31) (a1_0 : Int) (a1_1 : Int) : Option (List Int) := (spec_l2Points.l0 l0 0 ([a1_0, a1_1] : List Int) >>= fun (y37 : (List Int)) => (spec_l2Points.l1 y37 0 ([] : List Int) >>= fun (y126 : (List Int)) => (some y126)))
def spec_l2Points.l0_M (cs0 : List Cell) (o0 : Nat) (l0 : List S31) (hv0 : Vw c31 2 cs0 o0 l0) (x0_0 : Int) (x0_1 : (List Int)) (y : (List Int)) : Prop := ∀ (K : AE → St → Prop), (K (.exit 0) ⟨[(5, .c (.ref (.tmp 16 0) [] 0 y.length))], [(.arg 0, ⟨.fz, 2, cs0⟩), (.tmp 16 0, ⟨.lst, 1, encL c_u64 y⟩)], [], []⟩) → loopS Try.prog 100 (.ga C121_l0) K ⟨[(0, .c (.ref (.arg 0) [] o0 l0.length)), (5, .c (.ref (.tmp 16 0) [] 0 x0_1.length)), (6, .c (.sc (.int .i64 x0_0)))], [(.arg 0, ⟨.fz, 2, cs0⟩), (.tmp 16 0, ⟨.lst, 1, encL c_u64 x0_1⟩)], [], []⟩
theorem spec_l2Points.l0_walk (cs0 : List Cell) (o0 : Nat) (l0 : List S31) (hv0 : Vw c31 2 cs0 o0 l0) (x0_0 : Int) (x0_1 : (List Int)) (y : (List Int)) (h : spec_l2Points.l0 l0 x0_0 x0_1 = some y) : spec_l2Points.l0_M cs0 o0 l0 hv0 x0_0 x0_1 y := by
  refine spec_l2Points.l0.partial_correctness l0 (motive := fun x0_0 x0_1 y => spec_l2Points.l0_M cs0 o0 l0 hv0 x0_0 x0_1 y) ?_ x0_0 x0_1 y h
  clear h
  unfold spec_l2Points.l0_M
  intro rec ih x0_0 x0_1 y h K hx0
  refine loop_unroll (ga_k fun G0 G0n G0r G0x => ?_)
  unfold C121_l0
  refine seq_k fun J9 hJ9 => ?_
  refine sr_k fun J10 hJ10 => ?_
  simp +decide only [Nat.reduceAdd, Nat.reduceMul, Int.reduceToNat, ak]
  refine hJ10 _ ?_
  refine cond_k (b := decide (x0_0 < (l0.length : Int))) rfl (fun c11 => ?_) (fun c11 => ?_)
  · replace c11 := of_decide_eq_true c11; rw [if_pos c11] at h
    refine hJ9 _ ?_
    refine seq_k fun J12 hJ12 => ?_
    refine block_k fun B13 B13n B13x B13r B13j => ?_
    refine sr_k fun J14 hJ14 => ?_
    obtain ⟨b15, h⟩ := of_guard h
    have g16 : o0 + x0_0.toNat * 2 + 0 ≤ (cs0).length := (hv0.len_le b15.1 b15.2 (by decide))
    have g17 : (cs0)[o0 + x0_0.toNat * 2 + 0]? = some (.sc (.int .u64 ((rd z31 l0 x0_0).f0))) := hv0.get z31 0 b15.1 b15.2 (by decide)
    have g18 : (List.replicate 1 ([.int .u64 0] : List Value)).flatten = [.int .u64 0] := rfl
    have g19 : (⟨.lst, 1, [.sc (.int .u64 ((rd z31 l0 x0_0).f0))]⟩ : Root) = ⟨.lst, 1, encL c_u64 ([(rd z31 l0 x0_0).f0] : List Int)⟩ := rfl
    have g20 : ([(rd z31 l0 x0_0).f0] : List Int).length = 1 := rfl
    have g21 : (encL c_u64 ([(rd z31 l0 x0_0).f0] : List Int)).length = 1 * 1 := by simp [encL_length c_u64_w]
    have g22 : (encL c_u64 ([(rd z31 l0 x0_0).f0] : List Int)).all nd = true := rfl
    obtain ⟨b23, h⟩ := of_guard h
    have g24 : appLim x0_1.length 1 8 := ⟨b23, by have := b23; omega⟩
    have g25 : (encL c_u64 x0_1).length = x0_1.length * 1 := by simp [encL_length c_u64_w]
    have g26 : encL c_u64 x0_1 ++ encL c_u64 ([(rd z31 l0 x0_0).f0] : List Int) = encL c_u64 (x0_1 ++ ([(rd z31 l0 x0_0).f0] : List Int)) := (encL_append _ _).symm
    simp +decide only [Nat.reduceAdd, Nat.reduceMul, Int.reduceToNat, ak, b15, g16, g17, g18, g19, g20, g21, g22, g24, g25, g26]
    refine hJ14 _ ?_
    refine reg_k ?_
    have g27 : o0 + x0_0.toNat * 2 + 1 ≤ (cs0).length := (hv0.len_le b15.1 b15.2 (by decide))
    have g28 : (cs0)[o0 + x0_0.toNat * 2 + 1]? = some (.sc (.int .u64 ((rd z31 l0 x0_0).f1))) := hv0.get z31 1 b15.1 b15.2 (by decide)
    have g29 : (⟨.lst, 1, [.sc (.int .u64 ((rd z31 l0 x0_0).f1))]⟩ : Root) = ⟨.lst, 1, encL c_u64 ([(rd z31 l0 x0_0).f1] : List Int)⟩ := rfl
    have g30 : ([(rd z31 l0 x0_0).f1] : List Int).length = 1 := rfl
    have g31 : (encL c_u64 ([(rd z31 l0 x0_0).f1] : List Int)).length = 1 * 1 := by simp [encL_length c_u64_w]
    have g32 : (encL c_u64 ([(rd z31 l0 x0_0).f1] : List Int)).all nd = true := rfl
    obtain ⟨b33, h⟩ := of_guard h
    have g34 : appLim (x0_1.length + 1) 1 8 := ⟨b33, by have := b33; omega⟩
    have g35 : (encL c_u64 (x0_1 ++ ([(rd z31 l0 x0_0).f0] : List Int))).length = (x0_1.length + 1) * 1 := by simp [encL_length c_u64_w]
    have g36 : encL c_u64 (x0_1 ++ ([(rd z31 l0 x0_0).f0] : List Int)) ++ encL c_u64 ([(rd z31 l0 x0_0).f1] : List Int) = encL c_u64 ((x0_1 ++ ([(rd z31 l0 x0_0).f0] : List Int)) ++ ([(rd z31 l0 x0_0).f1] : List Int)) := (encL_append _ _).symm
    simp +decide only [Nat.reduceAdd, Nat.reduceMul, Int.reduceToNat, ak, b15, g27, g28, g18, g29, g30, g31, g32, g34, g35, g36]
    refine B13n _ ?_
    refine hJ12 _ ?_
    refine reg_k ?_
    simp +decide only [Nat.reduceAdd, Nat.reduceMul, Int.reduceToNat, ak]
    refine G0n _ _ (wk [0, 5, 6] [pI (.arg 0) .fz, pI (.tmp 16 0) .lst] (h0 := by first | rfl | simp +decide only [ak, akF, b15, b23, b33]) (h := by first | rfl | (simp +decide only [ak, akF, b15, b23, b33]; done) | (simp +decide [ak, akF, b15, b23, b33] <;> omega))) (ih _ _ _ h K hx0)
  · replace c11 := of_decide_eq_false c11; rw [if_neg c11] at h
    obtain rfl := Option.some.inj h
    refine gh_k (wk [5] [pI (.arg 0) .fz, pI (.tmp 16 0) .lst]) ?_
    refine G0x _ _ ?_
    exact hx0
def spec_l2Points.l2_M (cs0 : List Cell) (o0 : Nat) (l0 : List S31) (hv0 : Vw c31 2 cs0 o0 l0) (x2_0 : Int) (x2_3 : (List Int)) (x2_4 : (List Int)) (x2_1 : Bool) (x2_2 : Int) (x2_5 : (List Int)) (y : (Bool × (List Int))) : Prop := ∀ (K : AE → St → Prop), (K (.exit 4) ⟨[(5, .c (.ref (.tmp 16 0) [] 0 x2_3.length)), (8, .c (.sc (.int .i64 x2_0))), (9, .c (.ref (.tmp 46 0) [] 0 y.2.length)), (10, .c (.sc (.bool y.1)))], [(.arg 0, ⟨.fz, 2, cs0⟩), (.tmp 16 0, ⟨.lst, 1, encL c_u64 x2_3⟩), (.tmp 46 0, ⟨.lst, 1, encL c_u64 y.2⟩)], [], []⟩) → loopS Try.prog 100 (.ga C121_l2) K ⟨[(5, .c (.ref (.tmp 16 0) [] 0 x2_3.length)), (7, .c (.ref (.tmp 39 0) [] 0 x2_4.length)), (8, .c (.sc (.int .i64 x2_0))), (9, .c (.ref (.tmp 46 0) [] 0 x2_5.length)), (10, .c (.sc (.bool x2_1))), (11, .c (.sc (.int .i64 x2_2)))], [(.arg 0, ⟨.fz, 2, cs0⟩), (.tmp 16 0, ⟨.lst, 1, encL c_u64 x2_3⟩), (.tmp 39 0, ⟨.lst, 1, encL c_u64 x2_4⟩), (.tmp 46 0, ⟨.lst, 1, encL c_u64 x2_5⟩)], [], []⟩
theorem spec_l2Points.l2_walk (cs0 : List Cell) (o0 : Nat) (l0 : List S31) (hv0 : Vw c31 2 cs0 o0 l0) (x2_0 : Int) (x2_3 : (List Int)) (x2_4 : (List Int)) (x2_1 : Bool) (x2_2 : Int) (x2_5 : (List Int)) (y : (Bool × (List Int))) (h : spec_l2Points.l2 x2_0 x2_3 x2_4 x2_1 x2_2 x2_5 = some y) : spec_l2Points.l2_M cs0 o0 l0 hv0 x2_0 x2_3 x2_4 x2_1 x2_2 x2_5 y := by
  refine spec_l2Points.l2.partial_correctness x2_0 x2_3 x2_4 (motive := fun x2_1 x2_2 x2_5 y => spec_l2Points.l2_M cs0 o0 l0 hv0 x2_0 x2_3 x2_4 x2_1 x2_2 x2_5 y) ?_ x2_1 x2_2 x2_5 y h
  clear h
  unfold spec_l2Points.l2_M
  intro rec ih x2_1 x2_2 x2_5 y h K hx0
  refine loop_unroll (ga_k fun G2 G2n G2r G2x => ?_)
  unfold C121_l2
  refine seq_k fun J59 hJ59 => ?_
  refine sr_k fun J60 hJ60 => ?_
  simp +decide only [Nat.reduceAdd, Nat.reduceMul, Int.reduceToNat, ak]
  refine hJ60 _ ?_
  refine cond_k (b := decide (x2_2 < (x2_4.length : Int))) rfl (fun c61 => ?_) (fun c61 => ?_)
  · replace c61 := of_decide_eq_true c61; rw [if_pos c61] at h
    refine hJ59 _ ?_
    refine seq_k fun J62 hJ62 => ?_
    refine block_k fun B63 B63n B63x B63r B63j => ?_
    obtain ⟨j64, h65, hn⟩ := of_bind h
    refine seq_j (fun st => st = ⟨[(5, .c (.ref (.tmp 16 0) [] 0 x2_3.length)), (7, .c (.ref (.tmp 39 0) [] 0 x2_4.length)), (8, .c (.sc (.int .i64 x2_0))), (9, .c (.ref (.tmp 46 0) [] 0 j64.2.length)), (10, .c (.sc (.bool j64.1))), (11, .c (.sc (.int .i64 x2_2)))], [(.arg 0, ⟨.fz, 2, cs0⟩), (.tmp 16 0, ⟨.lst, 1, encL c_u64 x2_3⟩), (.tmp 39 0, ⟨.lst, 1, encL c_u64 x2_4⟩), (.tmp 46 0, ⟨.lst, 1, encL c_u64 j64.2⟩)], [], []⟩) (fun J66 hJ66 => ?_) ?_
    · replace h := h65; clear hn
      refine ga_k fun G67 G67n G67r G67x => ?_
      obtain ⟨j68, h69, hn⟩ := of_bind h
      refine seq_j (fun st => st = ⟨[(5, .c (.ref (.tmp 16 0) [] 0 x2_3.length)), (7, .c (.ref (.tmp 39 0) [] 0 x2_4.length)), (8, .c (.sc (.int .i64 x2_0))), (9, .c (.ref (.tmp 46 0) [] 0 x2_5.length)), (10, .c (.sc (.bool x2_1))), (11, .c (.sc (.int .i64 x2_2))), (65, .c (.sc (.bool j68)))], [(.arg 0, ⟨.fz, 2, cs0⟩), (.tmp 16 0, ⟨.lst, 1, encL c_u64 x2_3⟩), (.tmp 39 0, ⟨.lst, 1, encL c_u64 x2_4⟩), (.tmp 46 0, ⟨.lst, 1, encL c_u64 x2_5⟩)], [], []⟩) (fun J70 hJ70 => ?_) ?_
      · replace h := h69; clear hn
        refine ga_k fun G71 G71n G71r G71x => ?_
        refine regD_k ?_
        simp +decide only [Nat.reduceAdd, Nat.reduceMul, Int.reduceToNat, ak]
        by_cases c72 : (!x2_1) = true
        · rw [if_pos c72] at h
          have e73 : (!x2_1) = true := c72
          obtain ⟨b74, h⟩ := of_guard h
          have g75 : (encL c_u64 x2_3)[0 + x2_0.toNat * 1]? = some (.sc (.int .u64 (rd 0 x2_3 x2_0))) := (Vw.whole c_u64_w x2_3).get 0 0 b74.1 b74.2 (by decide)
          obtain ⟨b76, h⟩ := of_guard h
          have g77 : (encL c_u64 x2_4)[0 + x2_2.toNat * 1]? = some (.sc (.int .u64 (rd 0 x2_4 x2_2))) := (Vw.whole c_u64_w x2_4).get 0 0 b76.1 b76.2 (by decide)
          simp +decide only [Nat.reduceAdd, Nat.reduceMul, Int.reduceToNat, ak, e73, b74, g75, b76, g77]
          obtain rfl := Option.some.inj h
          refine G71n _ _ (wk [5, 7, 8, 9, 10, 11, 65] [pI (.arg 0) .fz, pI (.tmp 16 0) .lst, pI (.tmp 39 0) .lst, pI (.tmp 46 0) .lst] (h0 := by first | rfl | simp +decide only [ak, akF, b74, b76, e73]) (h := by first | rfl | (simp +decide only [ak, akF, b74, b76, e73]; done) | (simp +decide [ak, akF, b74, b76, e73] <;> omega))) (hJ70 _ rfl)
        · rw [if_neg c72] at h
          have e78 : (!x2_1) = false := Bool.eq_false_iff.2 c72
          simp +decide only [Nat.reduceAdd, Nat.reduceMul, Int.reduceToNat, ak, e78]
          obtain rfl := Option.some.inj h
          refine G71n _ _ (wk [5, 7, 8, 9, 10, 11, 65] [pI (.arg 0) .fz, pI (.tmp 16 0) .lst, pI (.tmp 39 0) .lst, pI (.tmp 46 0) .lst] (h0 := by first | rfl | simp +decide only [ak, akF, e78]) (h := by first | rfl | (simp +decide only [ak, akF, e78]; done) | (simp +decide [ak, akF, e78] <;> omega))) (hJ70 _ rfl)
      · replace h := hn; clear hn h69
        rintro _ rfl
        refine cond_k (b := j68) rfl (fun c79 => ?_) (fun c79 => ?_)
        · rw [if_pos c79] at h
          refine sr_k fun J80 hJ80 => ?_
          simp +decide only [Nat.reduceAdd, Nat.reduceMul, Int.reduceToNat, ak]
          refine hJ80 _ ?_
          refine sd_k fun J81 hJ81 => ?_
          obtain ⟨b82, h⟩ := of_guard h
          have g83 : (encL c_u64 x2_3)[0 + x2_0.toNat * 1]? = some (.sc (.int .u64 (rd 0 x2_3 x2_0))) := (Vw.whole c_u64_w x2_3).get 0 0 b82.1 b82.2 (by decide)
          obtain ⟨b84, h⟩ := of_guard h
          have g85 : (encL c_u64 x2_4)[0 + x2_2.toNat * 1]? = some (.sc (.int .u64 (rd 0 x2_4 x2_2))) := (Vw.whole c_u64_w x2_4).get 0 0 b84.1 b84.2 (by decide)
          simp +decide only [Nat.reduceAdd, Nat.reduceMul, Int.reduceToNat, ak, b82, g83, b84, g85]
          refine hJ81 _ ?_
          refine cond_k (b := decide ((rd 0 x2_3 x2_0) ≠ (rd 0 x2_4 x2_2))) rfl (fun c86 => ?_) (fun c86 => ?_)
          · replace c86 := of_decide_eq_true c86; rw [if_pos c86] at h
            refine reg_k ?_
            have g87 : (List.replicate 1 ([.int .u64 0] : List Value)).flatten = [.int .u64 0] := rfl
            have g88 : (⟨.lst, 1, [.sc (.int .u64 (rd 0 x2_3 x2_0))]⟩ : Root) = ⟨.lst, 1, encL c_u64 ([(rd 0 x2_3 x2_0)] : List Int)⟩ := rfl
            have g89 : ([(rd 0 x2_3 x2_0)] : List Int).length = 1 := rfl
            have g90 : (encL c_u64 ([(rd 0 x2_3 x2_0)] : List Int)).length = 1 * 1 := by simp [encL_length c_u64_w]
            have g91 : (encL c_u64 ([(rd 0 x2_3 x2_0)] : List Int)).all nd = true := rfl
            obtain ⟨b92, h⟩ := of_guard h
            have g93 : appLim x2_5.length 1 8 := ⟨b92, by have := b92; omega⟩
            have g94 : (encL c_u64 x2_5).length = x2_5.length * 1 := by simp [encL_length c_u64_w]
            have g95 : encL c_u64 x2_5 ++ encL c_u64 ([(rd 0 x2_3 x2_0)] : List Int) = encL c_u64 (x2_5 ++ ([(rd 0 x2_3 x2_0)] : List Int)) := (encL_append _ _).symm
            simp +decide only [Nat.reduceAdd, Nat.reduceMul, Int.reduceToNat, ak, b82, g83, g87, g88, g89, g90, g91, g93, g94, g95]
            obtain rfl := Option.some.inj h
            refine G67n _ _ (wk [5, 7, 8, 9, 10, 11] [pI (.arg 0) .fz, pI (.tmp 16 0) .lst, pI (.tmp 39 0) .lst, pI (.tmp 46 0) .lst] (h0 := by first | rfl | simp +decide only [ak, akF, b82, b84, b92]) (h := by first | rfl | (simp +decide only [ak, akF, b82, b84, b92]; done) | (simp +decide [ak, akF, b82, b84, b92] <;> omega))) (hJ66 _ rfl)
          · replace c86 := of_decide_eq_false c86; rw [if_neg c86] at h
            obtain rfl := Option.some.inj h
            refine G67n _ _ (wk [5, 7, 8, 9, 10, 11] [pI (.arg 0) .fz, pI (.tmp 16 0) .lst, pI (.tmp 39 0) .lst, pI (.tmp 46 0) .lst]) (hJ66 _ rfl)
        · rw [if_neg (Bool.eq_false_iff.1 c79)] at h
          obtain rfl := Option.some.inj h
          refine G67n _ _ (wk [5, 7, 8, 9, 10, 11] [pI (.arg 0) .fz, pI (.tmp 16 0) .lst, pI (.tmp 39 0) .lst, pI (.tmp 46 0) .lst]) (hJ66 _ rfl)
    · replace h := hn; clear hn h65
      rintro _ rfl
      refine reg_k ?_
      obtain ⟨b96, h⟩ := of_guard h
      have g97 : (encL c_u64 x2_4)[0 + x2_2.toNat * 1]? = some (.sc (.int .u64 (rd 0 x2_4 x2_2))) := (Vw.whole c_u64_w x2_4).get 0 0 b96.1 b96.2 (by decide)
      have g98 : (List.replicate 1 ([.int .u64 0] : List Value)).flatten = [.int .u64 0] := rfl
      have g99 : (⟨.lst, 1, [.sc (.int .u64 (rd 0 x2_4 x2_2))]⟩ : Root) = ⟨.lst, 1, encL c_u64 ([(rd 0 x2_4 x2_2)] : List Int)⟩ := rfl
      have g100 : ([(rd 0 x2_4 x2_2)] : List Int).length = 1 := rfl
      have g101 : (encL c_u64 ([(rd 0 x2_4 x2_2)] : List Int)).length = 1 * 1 := by simp [encL_length c_u64_w]
      have g102 : (encL c_u64 ([(rd 0 x2_4 x2_2)] : List Int)).all nd = true := rfl
      obtain ⟨b103, h⟩ := of_guard h
      have g104 : appLim j64.2.length 1 8 := ⟨b103, by have := b103; omega⟩
      have g105 : (encL c_u64 j64.2).length = j64.2.length * 1 := by simp [encL_length c_u64_w]
      have g106 : encL c_u64 j64.2 ++ encL c_u64 ([(rd 0 x2_4 x2_2)] : List Int) = encL c_u64 (j64.2 ++ ([(rd 0 x2_4 x2_2)] : List Int)) := (encL_append _ _).symm
      simp +decide only [Nat.reduceAdd, Nat.reduceMul, Int.reduceToNat, ak, b96, g97, g98, g99, g100, g101, g102, g104, g105, g106]
      refine B63n _ ?_
      refine hJ62 _ ?_
      refine reg_k ?_
      simp +decide only [Nat.reduceAdd, Nat.reduceMul, Int.reduceToNat, ak]
      refine G2n _ _ (wk [5, 7, 8, 9, 10, 11] [pI (.arg 0) .fz, pI (.tmp 16 0) .lst, pI (.tmp 39 0) .lst, pI (.tmp 46 0) .lst] (h0 := by first | rfl | simp +decide only [ak, akF, b96, b103]) (h := by first | rfl | (simp +decide only [ak, akF, b96, b103]; done) | (simp +decide [ak, akF, b96, b103] <;> omega))) (ih _ _ _ _ h K hx0)
  · replace c61 := of_decide_eq_false c61; rw [if_neg c61] at h
    obtain rfl := Option.some.inj h
    refine gh_k (wk [5, 8, 9, 10] [pI (.arg 0) .fz, pI (.tmp 16 0) .lst, pI (.tmp 46 0) .lst]) ?_
    refine G2x _ _ ?_
    exact hx0
def spec_l2Points.l1_M (cs0 : List Cell) (o0 : Nat) (l0 : List S31) (hv0 : Vw c31 2 cs0 o0 l0) (x1_1 : (List Int)) (x1_0 : Int) (x1_2 : (List Int)) (y : (List Int)) : Prop := ∀ (K : AE → St → Prop), (K (.exit 2) ⟨[(7, .c (.ref (.tmp 39 0) [] 0 y.length))], [(.arg 0, ⟨.fz, 2, cs0⟩), (.tmp 39 0, ⟨.lst, 1, encL c_u64 y⟩)], [], []⟩) → loopS Try.prog 100 (.ga C121_l1) K ⟨[(5, .c (.ref (.tmp 16 0) [] 0 x1_1.length)), (7, .c (.ref (.tmp 39 0) [] 0 x1_2.length)), (8, .c (.sc (.int .i64 x1_0)))], [(.arg 0, ⟨.fz, 2, cs0⟩), (.tmp 16 0, ⟨.lst, 1, encL c_u64 x1_1⟩), (.tmp 39 0, ⟨.lst, 1, encL c_u64 x1_2⟩)], [], []⟩
theorem spec_l2Points.l1_walk (cs0 : List Cell) (o0 : Nat) (l0 : List S31) (hv0 : Vw c31 2 cs0 o0 l0) (x1_1 : (List Int)) (x1_0 : Int) (x1_2 : (List Int)) (y : (List Int)) (h : spec_l2Points.l1 x1_1 x1_0 x1_2 = some y) : spec_l2Points.l1_M cs0 o0 l0 hv0 x1_1 x1_0 x1_2 y := by
  refine spec_l2Points.l1.partial_correctness x1_1 (motive := fun x1_0 x1_2 y => spec_l2Points.l1_M cs0 o0 l0 hv0 x1_1 x1_0 x1_2 y) ?_ x1_0 x1_2 y h
  clear h
  unfold spec_l2Points.l1_M
  intro rec ih x1_0 x1_2 y h K hx0
  refine loop_unroll (ga_k fun G1 G1n G1r G1x => ?_)
  unfold C121_l1
  refine seq_k fun J46 hJ46 => ?_
  refine sr_k fun J47 hJ47 => ?_
  simp +decide only [Nat.reduceAdd, Nat.reduceMul, Int.reduceToNat, ak]
  refine hJ47 _ ?_
  refine cond_k (b := decide (x1_0 < (x1_1.length : Int))) rfl (fun c48 => ?_) (fun c48 => ?_)
  · replace c48 := of_decide_eq_true c48; rw [if_pos c48] at h
    refine hJ46 _ ?_
    refine seq_k fun J49 hJ49 => ?_
    refine block_k fun B50 B50n B50x B50r B50j => ?_
    refine sr_k fun J51 hJ51 => ?_
    have g52 : (List.replicate 0 ([.int .u64 0] : List Value)).flatten = [] := rfl
    have g53 : (⟨.lst, 1, []⟩ : Root) = ⟨.lst, 1, encL c_u64 ([] : List Int)⟩ := rfl
    have g54 : ([] : List Int).length = 0 := rfl
    simp +decide only [Nat.reduceAdd, Nat.reduceMul, Int.reduceToNat, ak, g52, g53, g54]
    refine hJ51 _ ?_
    refine sr_k fun J55 hJ55 => ?_
    simp +decide only [Nat.reduceAdd, Nat.reduceMul, Int.reduceToNat, ak]
    refine hJ55 _ ?_
    refine seq_k fun J56 hJ56 => ?_
    refine sr_k fun J57 hJ57 => ?_
    simp +decide only [Nat.reduceAdd, Nat.reduceMul, Int.reduceToNat, ak]
    refine hJ57 _ ?_
    refine block_k fun B58 B58n B58x B58r B58j => ?_
    obtain ⟨y107, h108, h⟩ := of_bind h
    refine gh_k (st' := ⟨[(5, .c (.ref (.tmp 16 0) [] 0 x1_1.length)), (7, .c (.ref (.tmp 39 0) [] 0 x1_2.length)), (8, .c (.sc (.int .i64 x1_0))), (9, .c (.ref (.tmp 46 0) [] 0 (([] : List Int).length))), (10, .c (.sc (.bool false))), (11, .c (.sc (.int .i64 0)))], [(.arg 0, ⟨.fz, 2, cs0⟩), (.tmp 16 0, ⟨.lst, 1, encL c_u64 x1_1⟩), (.tmp 39 0, ⟨.lst, 1, encL c_u64 x1_2⟩), (.tmp 46 0, ⟨.lst, 1, encL c_u64 ([] : List Int)⟩)], [], []⟩) (wk [5, 7, 8, 9, 10, 11] [pI (.arg 0) .fz, pI (.tmp 16 0) .lst, pI (.tmp 39 0) .lst, pI (.tmp 46 0) .lst] (h := by first | rfl | (simp +decide only [ak, akF]; done) | (simp +decide [ak, akF] <;> omega))) ?_
    rw [e_loop]
    refine spec_l2Points.l2_walk cs0 o0 l0 hv0 x1_0 x1_1 x1_2 false 0 ([] : List Int) _ h108 _ ?_
    refine B58x _ ?_
    refine hJ56 _ ?_
    obtain ⟨j109, h110, hn⟩ := of_bind h
    refine seq_j (fun st => st = ⟨[(5, .c (.ref (.tmp 16 0) [] 0 x1_1.length)), (8, .c (.sc (.int .i64 x1_0))), (9, .c (.ref (.tmp 46 0) [] 0 j109.length))], [(.arg 0, ⟨.fz, 2, cs0⟩), (.tmp 16 0, ⟨.lst, 1, encL c_u64 x1_1⟩), (.tmp 46 0, ⟨.lst, 1, encL c_u64 j109⟩)], [], []⟩) (fun J111 hJ111 => ?_) ?_
    · replace h := h110; clear hn
      refine ga_k fun G112 G112n G112r G112x => ?_
      refine sr_k fun J113 hJ113 => ?_
      simp +decide only [Nat.reduceAdd, Nat.reduceMul, Int.reduceToNat, ak]
      refine hJ113 _ ?_
      refine cond_k (b := !y107.1) rfl (fun c114 => ?_) (fun c114 => ?_)
      · rw [if_pos c114] at h
        refine reg_k ?_
        obtain ⟨b115, h⟩ := of_guard h
        have g116 : (encL c_u64 x1_1)[0 + x1_0.toNat * 1]? = some (.sc (.int .u64 (rd 0 x1_1 x1_0))) := (Vw.whole c_u64_w x1_1).get 0 0 b115.1 b115.2 (by decide)
        have g117 : (List.replicate 1 ([.int .u64 0] : List Value)).flatten = [.int .u64 0] := rfl
        have g118 : (⟨.lst, 1, [.sc (.int .u64 (rd 0 x1_1 x1_0))]⟩ : Root) = ⟨.lst, 1, encL c_u64 ([(rd 0 x1_1 x1_0)] : List Int)⟩ := rfl
        have g119 : ([(rd 0 x1_1 x1_0)] : List Int).length = 1 := rfl
        have g120 : (encL c_u64 ([(rd 0 x1_1 x1_0)] : List Int)).length = 1 * 1 := by simp [encL_length c_u64_w]
        have g121 : (encL c_u64 ([(rd 0 x1_1 x1_0)] : List Int)).all nd = true := rfl
        obtain ⟨b122, h⟩ := of_guard h
        have g123 : appLim y107.2.length 1 8 := ⟨b122, by have := b122; omega⟩
        have g124 : (encL c_u64 y107.2).length = y107.2.length * 1 := by simp [encL_length c_u64_w]
        have g125 : encL c_u64 y107.2 ++ encL c_u64 ([(rd 0 x1_1 x1_0)] : List Int) = encL c_u64 (y107.2 ++ ([(rd 0 x1_1 x1_0)] : List Int)) := (encL_append _ _).symm
        simp +decide only [Nat.reduceAdd, Nat.reduceMul, Int.reduceToNat, ak, b115, g116, g117, g118, g119, g120, g121, g123, g124, g125]
        obtain rfl := Option.some.inj h
        refine G112n _ _ (wk [5, 8, 9] [pI (.arg 0) .fz, pI (.tmp 16 0) .lst, pI (.tmp 46 0) .lst] (h0 := by first | rfl | simp +decide only [ak, akF, b115, b122]) (h := by first | rfl | (simp +decide only [ak, akF, b115, b122]; done) | (simp +decide [ak, akF, b115, b122] <;> omega))) (hJ111 _ rfl)
      · rw [if_neg (Bool.eq_false_iff.1 c114)] at h
        obtain rfl := Option.some.inj h
        refine G112n _ _ (wk [5, 8, 9] [pI (.arg 0) .fz, pI (.tmp 16 0) .lst, pI (.tmp 46 0) .lst]) (hJ111 _ rfl)
    · replace h := hn; clear hn h110
      rintro _ rfl
      refine reg_k ?_
      simp +decide only [Nat.reduceAdd, Nat.reduceMul, Int.reduceToNat, ak]
      refine B50n _ ?_
      refine hJ49 _ ?_
      refine reg_k ?_
      simp +decide only [Nat.reduceAdd, Nat.reduceMul, Int.reduceToNat, ak]
      refine G1n _ _ (wk [5, 7, 8] [pI (.arg 0) .fz, pI (.tmp 16 0) .lst, pN (.tmp 39 0) (.tmp 46 0) .lst]) (ih _ _ _ h K hx0)
  · replace c48 := of_decide_eq_false c48; rw [if_neg c48] at h
    obtain rfl := Option.some.inj h
    refine gh_k (wk [7] [pI (.arg 0) .fz, pI (.tmp 39 0) .lst]) ?_
    refine G1x _ _ ?_
    exact hx0
theorem spec_l2Points.tri (cs0 : List Cell) (o0 : Nat) (l0 : List S31) (hv0 : Vw c31 2 cs0 o0 l0) (a1_0 : Int) (a1_1 : Int) (r : (List Int)) (h : spec_l2Points.f l0 a1_0 a1_1 = some r) : Tri Try.prog 121 [.c (.ref (.arg 0) [] o0 l0.length), .g [.sc (.int .u64 a1_0), .sc (.int .u64 a1_1)]] [(.arg 0, ⟨.fz, 2, cs0⟩)] (fun o => o = ⟨.c (.ref (.res 0) [] 0 r.length), [(.arg 0, ⟨.fz, 2, cs0⟩), (.res 0, ⟨.lst, 1, encL c_u64 r⟩)], [], []⟩) := by
  refine tri_of_body (ac := C121) (xs := r121) Try.func121 (show Try.f121.body = some (Try.f121.body.getD .skip) from rfl) k121 q121 (Nat.le_of_ble_eq_true rfl) ?_
  refine body_of fun K hKn hKr => ?_
  unfold spec_l2Points.f at h
  unfold C121
  simp only [initT, Nat.reduceAdd]
  refine sr_k fun J1 hJ1 => ?_
  simp +decide only [Nat.reduceAdd, Nat.reduceMul, Int.reduceToNat, ak]
  refine gho_k (Weak.nm' 4 (.tmp 4 20) 1 (encL c_u64 ([] : List Int)) rfl rfl rfl) ?_
  simp +decide only [Nat.reduceAdd, Nat.reduceMul, Int.reduceToNat, ak]
  refine hJ1 _ ?_
  refine sr_k fun J2 hJ2 => ?_
  have g3 : (List.replicate 2 ([.int .u64 0] : List Value)).flatten = [.int .u64 0, .int .u64 0] := rfl
  have g4 : (⟨.lst, 1, [.sc (.int .u64 a1_0), .sc (.int .u64 a1_1)]⟩ : Root) = ⟨.lst, 1, encL c_u64 ([a1_0, a1_1] : List Int)⟩ := rfl
  have g5 : ([a1_0, a1_1] : List Int).length = 2 := rfl
  simp +decide only [Nat.reduceAdd, Nat.reduceMul, Int.reduceToNat, ak, g3, g4, g5]
  refine hJ2 _ ?_
  refine seq_k fun J6 hJ6 => ?_
  refine sr_k fun J7 hJ7 => ?_
  simp +decide only [Nat.reduceAdd, Nat.reduceMul, Int.reduceToNat, ak]
  refine hJ7 _ ?_
  refine block_k fun B8 B8n B8x B8r B8j => ?_
  obtain ⟨y37, h38, h⟩ := of_bind h
  refine gh_k (st' := ⟨[(0, .c (.ref (.arg 0) [] o0 l0.length)), (5, .c (.ref (.tmp 16 0) [] 0 (([a1_0, a1_1] : List Int).length))), (6, .c (.sc (.int .i64 0)))], [(.arg 0, ⟨.fz, 2, cs0⟩), (.tmp 16 0, ⟨.lst, 1, encL c_u64 ([a1_0, a1_1] : List Int)⟩)], [], []⟩) (wk [0, 5, 6] [pI (.arg 0) .fz, pI (.tmp 16 0) .lst] (h := by first | rfl | (simp +decide only [ak, akF]; done) | (simp +decide [ak, akF] <;> omega))) ?_
  rw [e_loop]
  refine spec_l2Points.l0_walk cs0 o0 l0 hv0 0 ([a1_0, a1_1] : List Int) _ h38 _ ?_
  refine B8x _ ?_
  refine hJ6 _ ?_
  refine sr_k fun J39 hJ39 => ?_
  have g40 : (List.replicate 0 ([.int .u64 0] : List Value)).flatten = [] := rfl
  have g41 : (⟨.lst, 1, []⟩ : Root) = ⟨.lst, 1, encL c_u64 ([] : List Int)⟩ := rfl
  have g42 : ([] : List Int).length = 0 := rfl
  simp +decide only [Nat.reduceAdd, Nat.reduceMul, Int.reduceToNat, ak, g40, g41, g42]
  refine hJ39 _ ?_
  refine seq_k fun J43 hJ43 => ?_
  refine sr_k fun J44 hJ44 => ?_
  simp +decide only [Nat.reduceAdd, Nat.reduceMul, Int.reduceToNat, ak]
  refine hJ44 _ ?_
  refine block_k fun B45 B45n B45x B45r B45j => ?_
  obtain ⟨y126, h127, h⟩ := of_bind h
  refine gh_k (st' := ⟨[(5, .c (.ref (.tmp 16 0) [] 0 y37.length)), (7, .c (.ref (.tmp 39 0) [] 0 (([] : List Int).length))), (8, .c (.sc (.int .i64 0)))], [(.arg 0, ⟨.fz, 2, cs0⟩), (.tmp 16 0, ⟨.lst, 1, encL c_u64 y37⟩), (.tmp 39 0, ⟨.lst, 1, encL c_u64 ([] : List Int)⟩)], [], []⟩) (wk [5, 7, 8] [pI (.arg 0) .fz, pI (.tmp 16 0) .lst, pI (.tmp 39 0) .lst] (h := by first | rfl | (simp +decide only [ak, akF]; done) | (simp +decide [ak, akF] <;> omega))) ?_
  rw [e_loop]
  refine spec_l2Points.l1_walk cs0 o0 l0 hv0 y37 0 ([] : List Int) _ h127 _ ?_
  refine B45x _ ?_
  refine hJ43 _ ?_
  refine sr_k fun J128 hJ128 => ?_
  simp +decide only [Nat.reduceAdd, Nat.reduceMul, Int.reduceToNat, ak]
  refine hJ128 _ ?_
  obtain rfl := Option.some.inj h
  refine hKr _ ⟨_, rfl, [⟨(.tmp 39 0), [], none, .lst⟩], _, rfl, rfl, ?_⟩
  first | rfl | (simp only [reduceCtorEq, Nat.reduceEqDiff, ak, akF]; done) | (simp [reduceCtorEq, Nat.reduceEqDiff, ak, akF] <;> omega)
/-! ### spec.l2In: function 122 -/
def C122_l0 : AC := .seq (.seq (.reg [.op none (.mv 6 (.tmp 5)), .op none (.mv 7 (.tmp 0)), .op none (.len 8 (.tmp 7)), .op none (.bin 9 .lss (.tmp 6) (.tmp 8)), .keep [0, 1, 5, 9]]) (.cond (.tmp 9) (.skip) (.gh (.exit 0)))) (.seq (.block 1 (.seq (.ga (.reg [.op none (.mv 12 (.tmp 1)), .op none (.mv 13 (.tmp 0)), .op none (.mv 14 (.tmp 5)), .op none (.iaddr 15 2 (.tmp 13) (.tmp 14)), .op none (.faddr 16 0 (.tmp 15)), .op none (.load 17 false 1 (.tmp 16)), .op none (.bin 18 .geq (.tmp 12) (.tmp 17)), .op none (.mv 19 (.tmp 18)), .op (some (19, true)) (.mv 20 (.tmp 1)), .op (some (19, true)) (.mv 21 (.tmp 0)), .op (some (19, true)) (.mv 22 (.tmp 5)), .op (some (19, true)) (.iaddr 23 2 (.tmp 21) (.tmp 22)), .op (some (19, true)) (.faddr 24 1 (.tmp 23)), .op (some (19, true)) (.load 25 false 1 (.tmp 24)), .op (some (19, true)) (.bin 26 .lss (.tmp 20) (.tmp 25)), .op none (.pick 27 (.tmp 19) (.tmp 26) (.const (.bool false))), .keep [0, 1, 5, 27]])) (.cond (.tmp 27) (.seq (.reg [.op none (.mv 4 (.const (.bool true))), .keep [4]]) (.gh .ret)) (.skip)))) (.reg [.op none (.mv 10 (.tmp 5)), .op none (.bin 11 .add (.tmp 10) (.const (.int .i64 1))), .op none (.mv 5 (.tmp 11)), .keep [0, 1, 5]]))
def C122 : AC := .seq (.reg [.op none (.mv 4 (.const (.bool false))), .keep [0, 1]]) (.seq (.seq (.reg [.op none (.mv 5 (.const (.int .i64 0))), .keep [0, 1, 5]]) (.block 0 (.gh (.loop (.ga C122_l0))))) (.seq (.reg [.op none (.mv 4 (.const (.bool false))), .keep [4]]) (.ret)))
def r122 : List RV := [.tmp 4]
theorem k122 : compC Try.prog 28 C122 (Try.f122.body.getD .skip) = some C122.erase := by kernel_rfl
theorem q122 : rvsOf Try.prog Try.f122.results.toList = some r122 := by kernel_rfl
def spec_l2In.l0 (l0 : List S31) (x0_0 : Int) (x0_1 : Int) : Option (Lp Unit Bool) := (if x0_1 < (l0.length : Int) then ((if 0 ≤ x0_1 ∧ x0_1 < (l0.length : Int) then (if x0_0 ≥ (rd z31 l0 x0_1).f0 then (some (decide (x0_0 < (rd z31 l0 x0_1).f1))) else (some false)) else none) >>= fun (j10 : Bool) => (if j10 = true then (some (.b true)) else (spec_l2In.l0 l0 x0_0 (IntKind.i64.wrap (x0_1 + 1))))) else (some (.a ())))
  partial_fixpoint
def spec_l2In.f (l0 : List S31) (a1 : Int) : Option Bool := (spec_l2In.l0 l0 a1 0 >>= fun (y24 : Lp Unit Bool) => match y24 with | .a x26 => (some false) | .b x26 => (some x26))
def spec_l2In.l0_M (cs0 : List Cell) (o0 : Nat) (l0 : List S31) (hv0 : Vw c31 2 cs0 o0 l0) (x0_0 : Int) (x0_1 : Int) (y : Lp Unit Bool) : Prop := ∀ (K : AE → St → Prop), (∀ x, y = .a x → K (.exit 0) ⟨[], [(.arg 0, ⟨.fz, 2, cs0⟩)], [], []⟩) → (∀ x, y = .b x → K .ret ⟨[(4, .c (.sc (.bool x)))], [(.arg 0, ⟨.fz, 2, cs0⟩)], [], []⟩) → loopS Try.prog 28 (.ga C122_l0) K ⟨[(0, .c (.ref (.arg 0) [] o0 l0.length)), (1, .c (.sc (.int .u64 x0_0))), (5, .c (.sc (.int .i64 x0_1)))], [(.arg 0, ⟨.fz, 2, cs0⟩)], [], []⟩
theorem spec_l2In.l0_walk (cs0 : List Cell) (o0 : Nat) (l0 : List S31) (hv0 : Vw c31 2 cs0 o0 l0) (x0_0 : Int) (x0_1 : Int) (y : Lp Unit Bool) (h : spec_l2In.l0 l0 x0_0 x0_1 = some y) : spec_l2In.l0_M cs0 o0 l0 hv0 x0_0 x0_1 y := by
  refine spec_l2In.l0.partial_correctness l0 x0_0 (motive := fun x0_1 y => spec_l2In.l0_M cs0 o0 l0 hv0 x0_0 x0_1 y) ?_ x0_1 y h
  clear h
  unfold spec_l2In.l0_M
  intro rec ih x0_1 y h K hx0 hx1
  refine loop_unroll (ga_k fun G0 G0n G0r G0x => ?_)
  unfold C122_l0
  refine seq_k fun J5 hJ5 => ?_
  refine sr_k fun J6 hJ6 => ?_
  simp +decide only [Nat.reduceAdd, Nat.reduceMul, Int.reduceToNat, ak]
  refine hJ6 _ ?_
  refine cond_k (b := decide (x0_1 < (l0.length : Int))) rfl (fun c7 => ?_) (fun c7 => ?_)
  · replace c7 := of_decide_eq_true c7; rw [if_pos c7] at h
    refine hJ5 _ ?_
    refine seq_k fun J8 hJ8 => ?_
    refine block_k fun B9 B9n B9x B9r B9j => ?_
    obtain ⟨j10, h11, hn⟩ := of_bind h
    refine seq_j (fun st => st = ⟨[(0, .c (.ref (.arg 0) [] o0 l0.length)), (1, .c (.sc (.int .u64 x0_0))), (5, .c (.sc (.int .i64 x0_1))), (27, .c (.sc (.bool j10)))], [(.arg 0, ⟨.fz, 2, cs0⟩)], [], []⟩) (fun J12 hJ12 => ?_) ?_
    · replace h := h11; clear hn
      refine ga_k fun G13 G13n G13r G13x => ?_
      refine reg_k ?_
      obtain ⟨b14, h⟩ := of_guard h
      have g15 : o0 + x0_1.toNat * 2 + 0 ≤ (cs0).length := (hv0.len_le b14.1 b14.2 (by decide))
      have g16 : (cs0)[o0 + x0_1.toNat * 2 + 0]? = some (.sc (.int .u64 ((rd z31 l0 x0_1).f0))) := hv0.get z31 0 b14.1 b14.2 (by decide)
      simp +decide only [Nat.reduceAdd, Nat.reduceMul, Int.reduceToNat, ak, b14, g15, g16]
      by_cases c17 : x0_0 ≥ (rd z31 l0 x0_1).f0
      · rw [if_pos c17] at h
        have e18 : decide (x0_0 ≥ (rd z31 l0 x0_1).f0) = true := decide_eq_true c17
        have g19 : o0 + x0_1.toNat * 2 + 1 ≤ (cs0).length := (hv0.len_le b14.1 b14.2 (by decide))
        have g20 : (cs0)[o0 + x0_1.toNat * 2 + 1]? = some (.sc (.int .u64 ((rd z31 l0 x0_1).f1))) := hv0.get z31 1 b14.1 b14.2 (by decide)
        simp +decide only [Nat.reduceAdd, Nat.reduceMul, Int.reduceToNat, ak, e18, b14, g19, g20]
        obtain rfl := Option.some.inj h
        refine G13n _ _ (wk [0, 1, 5, 27] [pI (.arg 0) .fz] (h0 := by first | rfl | simp +decide only [ak, akF, b14, e18]) (h := by first | rfl | (simp +decide only [ak, akF, b14, e18]; done) | (simp +decide [ak, akF, b14, e18] <;> omega))) (hJ12 _ rfl)
      · rw [if_neg c17] at h
        have e21 : decide (x0_0 ≥ (rd z31 l0 x0_1).f0) = false := decide_eq_false c17
        simp +decide only [Nat.reduceAdd, Nat.reduceMul, Int.reduceToNat, ak, e21]
        obtain rfl := Option.some.inj h
        refine G13n _ _ (wk [0, 1, 5, 27] [pI (.arg 0) .fz] (h0 := by first | rfl | simp +decide only [ak, akF, b14, e21]) (h := by first | rfl | (simp +decide only [ak, akF, b14, e21]; done) | (simp +decide [ak, akF, b14, e21] <;> omega))) (hJ12 _ rfl)
    · replace h := hn; clear hn h11
      rintro _ rfl
      refine cond_k (b := j10) rfl (fun c22 => ?_) (fun c22 => ?_)
      · rw [if_pos c22] at h
        refine sr_k fun J23 hJ23 => ?_
        simp +decide only [Nat.reduceAdd, Nat.reduceMul, Int.reduceToNat, ak]
        refine hJ23 _ ?_
        obtain rfl := Option.some.inj h
        refine gh_k (wk [4] [pI (.arg 0) .fz]) ?_
        refine B9r _ ?_
        refine G0r _ ?_
        exact hx1 _ rfl
      · rw [if_neg (Bool.eq_false_iff.1 c22)] at h
        refine B9n _ ?_
        refine hJ8 _ ?_
        refine reg_k ?_
        simp +decide only [Nat.reduceAdd, Nat.reduceMul, Int.reduceToNat, ak]
        refine G0n _ _ (wk [0, 1, 5] [pI (.arg 0) .fz]) (ih _ _ h K hx0 hx1)
  · replace c7 := of_decide_eq_false c7; rw [if_neg c7] at h
    obtain rfl := Option.some.inj h
    refine gh_k (wk [] [pI (.arg 0) .fz]) ?_
    refine G0x _ _ ?_
    exact hx0 _ rfl
theorem spec_l2In.tri (cs0 : List Cell) (o0 : Nat) (l0 : List S31) (hv0 : Vw c31 2 cs0 o0 l0) (a1 : Int) (r : Bool) (h : spec_l2In.f l0 a1 = some r) : Tri Try.prog 122 [.c (.ref (.arg 0) [] o0 l0.length), .c (.sc (.int .u64 a1))] [(.arg 0, ⟨.fz, 2, cs0⟩)] (fun o => o = ⟨.c (.sc (.bool r)), [(.arg 0, ⟨.fz, 2, cs0⟩)], [], []⟩) := by
  refine tri_of_body (ac := C122) (xs := r122) Try.func122 (show Try.f122.body = some (Try.f122.body.getD .skip) from rfl) k122 q122 (Nat.le_of_ble_eq_true rfl) ?_
  refine body_of fun K hKn hKr => ?_
  unfold spec_l2In.f at h
  unfold C122
  simp only [initT, Nat.reduceAdd]
  refine sr_k fun J1 hJ1 => ?_
  simp +decide only [Nat.reduceAdd, Nat.reduceMul, Int.reduceToNat, ak]
  refine hJ1 _ ?_
  refine seq_k fun J2 hJ2 => ?_
  refine sr_k fun J3 hJ3 => ?_
  simp +decide only [Nat.reduceAdd, Nat.reduceMul, Int.reduceToNat, ak]
  refine hJ3 _ ?_
  refine block_k fun B4 B4n B4x B4r B4j => ?_
  obtain ⟨y24, h25, h⟩ := of_bind h
  refine gh_k (wk [0, 1, 5] [pI (.arg 0) .fz]) ?_
  rw [e_loop]
  refine spec_l2In.l0_walk cs0 o0 l0 hv0 a1 0 _ h25 _ ?_ ?_
  · rintro x26 rfl
    dsimp only at h
    refine B4x _ ?_
    refine hJ2 _ ?_
    refine sr_k fun J27 hJ27 => ?_
    simp +decide only [Nat.reduceAdd, Nat.reduceMul, Int.reduceToNat, ak]
    refine hJ27 _ ?_
    obtain rfl := Option.some.inj h
    refine hKr _ ⟨_, rfl, [], _, rfl, rfl, ?_⟩
    first | rfl | (simp only [reduceCtorEq, Nat.reduceEqDiff, ak, akF]; done) | (simp [reduceCtorEq, Nat.reduceEqDiff, ak, akF] <;> omega)
  · rintro x26 rfl
    dsimp only at h
    refine B4r _ ?_
    obtain rfl := Option.some.inj h
    refine hKr _ ⟨_, rfl, [], _, rfl, rfl, ?_⟩
    first | rfl | (simp only [reduceCtorEq, Nat.reduceEqDiff, ak, akF]; done) | (simp [reduceCtorEq, Nat.reduceEqDiff, ak, akF] <;> omega)
/-! ### spec.l2Build: function 105 -/
def C105_l0 : AC := .seq (.seq (.reg [.op none (.mv 20 (.tmp 10)), .op none (.bin 21 .add (.tmp 20) (.const (.int .i64 1))), .op none (.mv 22 (.tmp 7)), .op none (.len 23 (.tmp 22)), .op none (.bin 24 .lss (.tmp 21) (.tmp 23)), .keep [0, 2, 7, 8, 9, 10, 24]]) (.cond (.tmp 24) (.skip) (.gh (.exit 0)))) (.seq (.ga (.block 1 (.seq (.reg [.op none (.mv 27 (.tmp 0)), .op none (.mv 28 (.tmp 7)), .op none (.mv 29 (.tmp 10)), .op none (.iaddr 30 1 (.tmp 28) (.tmp 29)), .op none (.load 31 false 1 (.tmp 30)), .call none (some 32) 122 [.tmp 27, .tmp 31], .op none (.mv 11 (.tmp 32)), .keep [0, 2, 7, 8, 9, 10, 11]]) (.seq (.reg [.op none (.mv 33 (.tmp 8)), .op none (.mv 34 (.tmp 7)), .op none (.mv 35 (.tmp 10)), .op none (.iaddr 36 1 (.tmp 34) (.tmp 35)), .op none (.load 37 false 1 (.tmp 36)), .call none (some 38) 122 [.tmp 33, .tmp 37], .op none (.mv 12 (.tmp 38)), .keep [0, 2, 7, 8, 9, 10, 11, 12]]) (.seq (.ga (.reg [.op none (.mv 39 (.tmp 2)), .op none (.bin 40 .eql (.tmp 39) (.const (.int .i64 1))), .op none (.mv 41 (.tmp 40)), .op (some (41, true)) (.mv 42 (.tmp 11)), .op (some (41, true)) (.mv 43 (.tmp 42)), .op (some (43, false)) (.mv 44 (.tmp 12)), .op (some (41, true)) (.pick 45 (.tmp 43) (.const (.bool true)) (.tmp 44)), .op none (.pick 46 (.tmp 41) (.tmp 45) (.const (.bool false))), .op none (.mv 47 (.tmp 46)), .op (some (47, false)) (.mv 48 (.tmp 2)), .op (some (47, false)) (.bin 49 .eql (.tmp 48) (.const (.int .i64 2))), .op (some (47, false)) (.mv 50 (.tmp 49)), .op (some (50, true)) (.mv 51 (.tmp 11)), .op (some (47, false)) (.pick 52 (.tmp 50) (.tmp 51) (.const (.bool false))), .op (some (47, false)) (.mv 53 (.tmp 52)), .op (some (53, true)) (.mv 54 (.tmp 12)), .op (some (53, true)) (.un 55 .not (.tmp 54)), .op (some (47, false)) (.pick 56 (.tmp 53) (.tmp 55) (.const (.bool false))), .op none (.pick 57 (.tmp 47) (.const (.bool true)) (.tmp 56)), .op none (.mv 58 (.tmp 57)), .op (some (58, false)) (.mv 59 (.tmp 2)), .op (some (58, false)) (.bin 60 .eql (.tmp 59) (.const (.int .i64 3))), .op (some (58, false)) (.mv 61 (.tmp 60)), .op (some (61, true)) (.mv 62 (.tmp 12)), .op (some (58, false)) (.pick 63 (.tmp 61) (.tmp 62) (.const (.bool false))), .op (some (58, false)) (.mv 64 (.tmp 63)), .op (some (64, true)) (.mv 65 (.tmp 11)), .op (some (64, true)) (.un 66 .not (.tmp 65)), .op (some (58, false)) (.pick 67 (.tmp 64) (.tmp 66) (.const (.bool false))), .op none (.pick 68 (.tmp 58) (.const (.bool true)) (.tmp 67)), .op none (.mv 69 (.tmp 68)), .op (some (69, false)) (.mv 70 (.tmp 2)), .op (some (69, false)) (.bin 71 .eql (.tmp 70) (.const (.int .i64 4))), .op (some (69, false)) (.mv 72 (.tmp 71)), .op (some (72, true)) (.mv 73 (.tmp 11)), .op (some (69, false)) (.pick 74 (.tmp 72) (.tmp 73) (.const (.bool false))), .op (some (69, false)) (.mv 75 (.tmp 74)), .op (some (75, true)) (.mv 76 (.tmp 12)), .op (some (69, false)) (.pick 77 (.tmp 75) (.tmp 76) (.const (.bool false))), .op none (.pick 78 (.tmp 69) (.const (.bool true)) (.tmp 77)), .op none (.mv 13 (.tmp 78)), .keep [0, 2, 7, 8, 9, 10, 13]])) (.seq (.seq (.reg [.op none (.mv 79 (.tmp 13)), .op none (.un 80 .not (.tmp 79)), .keep [0, 2, 7, 8, 9, 10, 80]]) (.cond (.tmp 80) (.exit 1) (.skip))) (.seq (.ga (.regD (.first (.op none (.mv 81 (.tmp 9))) (.first (.op none (.len 82 (.tmp 81))) (.first (.op none (.bin 83 .gtr (.tmp 82) (.const (.int .i64 0)))) (.first (.op none (.mv 84 (.tmp 83))) (.first (.op (some (84, true)) (.mv 85 (.tmp 9))) (.first (.op (some (84, true)) (.mv 86 (.tmp 9))) (.first (.op (some (84, true)) (.len 87 (.tmp 86))) (.first (.op (some (84, true)) (.bin 88 .sub (.tmp 87) (.const (.int .i64 1)))) (.first (.op (some (84, true)) (.iaddr 89 2 (.tmp 85) (.tmp 88))) (.first (.op (some (84, true)) (.faddr 90 1 (.tmp 89))) (.first (.op (some (84, true)) (.load 91 false 1 (.tmp 90))) (.first (.op (some (84, true)) (.mv 92 (.tmp 7))) (.first (.op (some (84, true)) (.mv 93 (.tmp 10))) (.first (.op (some (84, true)) (.iaddr 94 1 (.tmp 92) (.tmp 93))) (.first (.op (some (84, true)) (.load 95 false 1 (.tmp 94))) (.first (.op (some (84, true)) (.bin 96 .eql (.tmp 91) (.tmp 95))) (.first (.op none (.pick 97 (.tmp 84) (.tmp 96) (.const (.bool false)))) (.done)))))))))))))))))) [0, 2, 7, 8, 9, 10, 97])) (.cond (.tmp 97) (.reg [.op none (.mv 98 (.tmp 9)), .op none (.mv 99 (.tmp 9)), .op none (.len 100 (.tmp 99)), .op none (.bin 101 .sub (.tmp 100) (.const (.int .i64 1))), .op none (.mv 102 (.tmp 7)), .op none (.mv 103 (.tmp 10)), .op none (.bin 104 .add (.tmp 103) (.const (.int .i64 1))), .op none (.iaddr 105 1 (.tmp 102) (.tmp 104)), .op none (.load 106 false 1 (.tmp 105)), .op none (.iaddr 107 2 (.tmp 98) (.tmp 101)), .op none (.faddr 108 1 (.tmp 107)), .op none (.store 1 (.tmp 108) (.tmp 106)), .keep [0, 2, 7, 8, 9, 10]]) (.regD (.first (.op none (.mv 109 (.tmp 9))) (.first (.op none (.mv 110 (.tmp 7))) (.first (.op none (.mv 111 (.tmp 10))) (.first (.op none (.iaddr 112 1 (.tmp 110) (.tmp 111))) (.first (.op none (.load 113 false 1 (.tmp 112))) (.first (.op none (.mv 114 (.tmp 7))) (.first (.op none (.mv 115 (.tmp 10))) (.first (.op none (.bin 116 .add (.tmp 115) (.const (.int .i64 1)))) (.first (.op none (.iaddr 117 1 (.tmp 114) (.tmp 116))) (.first (.op none (.load 118 false 1 (.tmp 117))) (.first (.op none (.build 119 [.int .u64 0, .int .u64 0] [(0, 1, .tmp 113), (1, 1, .tmp 118)])) (.alt (.op none (.bslice 120 2 [.int .u64 0, .int .u64 0] 1 [(0, .tmp 119)])) none (.alt (.op none (.app 121 2 16 false (.tmp 109) (.tmp 120))) none (.first (.op none (.mv 9 (.tmp 121))) (.done)) (.stop)) (.stop))))))))))))) [0, 2, 7, 8, 9, 10]))))))))) (.reg [.op none (.mv 25 (.tmp 10)), .op none (.bin 26 .add (.tmp 25) (.const (.int .i64 1))), .op none (.mv 10 (.tmp 26)), .keep [0, 2, 7, 8, 9, 10]]))
def C105 : AC := .seq (.reg [.op none (.box 4 (.tmp 1)), .op none (.mv 6 (.const (.slice none 0 0))), .gh, .keep [0, 2, 4]]) (.seq (.reg [.op none (.mv 14 (.tmp 0)), .op none (.load 15 true 2 (.tmp 4)), .call none (some 16) 121 [.tmp 14, .tmp 15], .op none (.mv 7 (.tmp 16)), .keep [0, 2, 4, 7]]) (.seq (.reg [.op none (.load 17 true 2 (.tmp 4)), .op none (.bslice 18 2 [.int .u64 0, .int .u64 0] 1 [(0, .tmp 17)]), .op none (.mv 8 (.tmp 18)), .keep [0, 2, 7, 8]]) (.seq (.reg [.op none (.bslice 19 2 [.int .u64 0, .int .u64 0] 0 []), .op none (.mv 9 (.tmp 19)), .keep [0, 2, 7, 8, 9]]) (.seq (.seq (.reg [.op none (.mv 10 (.const (.int .i64 0))), .keep [0, 2, 7, 8, 9, 10]]) (.block 0 (.gh (.loop (.ga C105_l0))))) (.seq (.reg [.op none (.mv 122 (.tmp 9)), .op none (.mv 6 (.tmp 122)), .keep [6]]) (.ret))))))
def r105 : List RV := [.tmp 6]
theorem k105 : compC Try.prog 123 C105 (Try.f105.body.getD .skip) = some C105.erase := by kernel_rfl
theorem q105 : rvsOf Try.prog Try.f105.results.toList = some r105 := by kernel_rfl
def spec_l2Build.l0 (l0 : List S31) (x0_0 : Int) (x0_2 : (List Int)) (x0_3 : (List S31)) (x0_1 : Int) (x0_4 : (List S31)) : Option (List S31) := (if IntKind.i64.wrap (x0_1 + 1) < (x0_2.length : Int) then ((if 0 ≤ x0_1 ∧ x0_1 < (x0_2.length : Int) then (spec_l2In.f l0 (rd 0 x0_2 x0_1) >>= fun t28 => (spec_l2In.f x0_3 (rd 0 x0_2 x0_1) >>= fun t32 => ((if x0_0 = 1 then (if t28 = true then (some true) else (if t32 = true then (some true) else (some false))) else (if x0_0 = 2 then (if t28 = true then (if (!t32) = true then (some true) else (some false)) else (some false)) else (if x0_0 = 3 then (if t32 = true then (if (!t28) = true then (some true) else (some false)) else (some false)) else (if x0_0 = 4 then (if t28 = true then (some t32) else (some false)) else (some false))))) >>= fun (j35 : Bool) => (if (!j35) = true then (some x0_4) else ((if (x0_4.length : Int) > 0 then (if 0 ≤ IntKind.i64.wrap ((x0_4.length : Int) - 1) ∧ IntKind.i64.wrap ((x0_4.length : Int) - 1) < (x0_4.length : Int) then (some (decide ((rd z31 x0_4 (IntKind.i64.wrap ((x0_4.length : Int) - 1))).f1 = (rd 0 x0_2 x0_1)))) else none) else (some false)) >>= fun (j84 : Bool) => (if j84 = true then (if 0 ≤ IntKind.i64.wrap (x0_1 + 1) ∧ IntKind.i64.wrap (x0_1 + 1) < (x0_2.length : Int) then (if 0 ≤ IntKind.i64.wrap ((x0_4.length : Int) - 1) ∧ IntKind.i64.wrap ((x0_4.length : Int) - 1) < (x0_4.length : Int) then (some (x0_4.set (IntKind.i64.wrap ((x0_4.length : Int) - 1)).toNat (⟨(rd z31 x0_4 (IntKind.i64.wrap ((x0_4.length : Int) - 1))).f0, (rd 0 x0_2 (IntKind.i64.wrap (x0_1 + 1)))⟩ : S31))) else none) else none) else (if 0 ≤ IntKind.i64.wrap (x0_1 + 1) ∧ IntKind.i64.wrap (x0_1 + 1) < (x0_2.length : Int) then (if (x0_4.length + 1) * 16 ≤ 140737488355328 then (some (x0_4 ++ ([(⟨(rd 0 x0_2 x0_1), (rd 0 x0_2 (IntKind.i64.wrap (x0_1 + 1)))⟩ : S31)] : List S31))) else none) else none))))))) else none) >>= fun (j20 : (List S31)) => (spec_l2Build.l0 l0 x0_0 x0_2 x0_3 (IntKind.i64.wrap (x0_1 + 1)) j20)) else (some x0_4))
  partial_fixpoint
def spec_l2Build.f (l0 : List S31) (a1_0 : Int) (a1_1 : Int) (a2 : Int) : Option (List S31) := (spec_l2Points.f l0 a1_0 a1_1 >>= fun t3 => (spec_l2Build.l0 l0 a2 t3 ([(⟨a1_0, a1_1⟩ : S31)] : List S31) 0 ([] : List S31) >>= fun (y132 : (List S31)) => (some y132)))
def spec_l2Build.l0_M (cs0 : List Cell) (o0 : Nat) (l0 : List S31) (hv0 : Vw c31 2 cs0 o0 l0) (x0_0 : Int) (x0_2 : (List Int)) (x0_3 : (List S31)) (x0_1 : Int) (x0_4 : (List S31)) (y : (List S31)) : Prop := ∀ (K : AE → St → Prop), (K (.exit 0) ⟨[(9, .c (.ref (.tmp 19 0) [] 0 y.length))], [(.arg 0, ⟨.fz, 2, cs0⟩), (.tmp 19 0, ⟨.lst, 2, encL c31 y⟩)], [], []⟩) → loopS Try.prog 123 (.ga C105_l0) K ⟨[(0, .c (.ref (.arg 0) [] o0 l0.length)), (2, .c (.sc (.int .i64 x0_0))), (7, .c (.ref (.tmp 16 0) [] 0 x0_2.length)), (8, .c (.ref (.tmp 18 0) [] 0 x0_3.length)), (9, .c (.ref (.tmp 19 0) [] 0 x0_4.length)), (10, .c (.sc (.int .i64 x0_1)))], [(.arg 0, ⟨.fz, 2, cs0⟩), (.tmp 16 0, ⟨.lst, 1, encL c_u64 x0_2⟩), (.tmp 18 0, ⟨.lst, 2, encL c31 x0_3⟩), (.tmp 19 0, ⟨.lst, 2, encL c31 x0_4⟩)], [], []⟩
theorem spec_l2Build.l0_walk (cs0 : List Cell) (o0 : Nat) (l0 : List S31) (hv0 : Vw c31 2 cs0 o0 l0) (x0_0 : Int) (x0_2 : (List Int)) (x0_3 : (List S31)) (x0_1 : Int) (x0_4 : (List S31)) (y : (List S31)) (h : spec_l2Build.l0 l0 x0_0 x0_2 x0_3 x0_1 x0_4 = some y) : spec_l2Build.l0_M cs0 o0 l0 hv0 x0_0 x0_2 x0_3 x0_1 x0_4 y := by
  refine spec_l2Build.l0.partial_correctness l0 x0_0 x0_2 x0_3 (motive := fun x0_1 x0_4 y => spec_l2Build.l0_M cs0 o0 l0 hv0 x0_0 x0_2 x0_3 x0_1 x0_4 y) ?_ x0_1 x0_4 y h
  clear h
  unfold spec_l2Build.l0_M
  intro rec ih x0_1 x0_4 y h K hx0
  refine loop_unroll (ga_k fun G0 G0n G0r G0x => ?_)
  unfold C105_l0
  refine seq_k fun J17 hJ17 => ?_
  refine sr_k fun J18 hJ18 => ?_
  simp +decide only [Nat.reduceAdd, Nat.reduceMul, Int.reduceToNat, ak]
  refine hJ18 _ ?_
  refine cond_k (b := decide (IntKind.i64.wrap (x0_1 + 1) < (x0_2.length : Int))) rfl (fun c19 => ?_) (fun c19 => ?_)
  · replace c19 := of_decide_eq_true c19; rw [if_pos c19] at h
    refine hJ17 _ ?_
    obtain ⟨j20, h21, hn⟩ := of_bind h
    refine seq_j (fun st => st = ⟨[(0, .c (.ref (.arg 0) [] o0 l0.length)), (2, .c (.sc (.int .i64 x0_0))), (7, .c (.ref (.tmp 16 0) [] 0 x0_2.length)), (8, .c (.ref (.tmp 18 0) [] 0 x0_3.length)), (9, .c (.ref (.tmp 19 0) [] 0 j20.length)), (10, .c (.sc (.int .i64 x0_1)))], [(.arg 0, ⟨.fz, 2, cs0⟩), (.tmp 16 0, ⟨.lst, 1, encL c_u64 x0_2⟩), (.tmp 18 0, ⟨.lst, 2, encL c31 x0_3⟩), (.tmp 19 0, ⟨.lst, 2, encL c31 j20⟩)], [], []⟩) (fun J22 hJ22 => ?_) ?_
    · replace h := h21; clear hn
      refine ga_k fun G23 G23n G23r G23x => ?_
      refine block_k fun B24 B24n B24x B24r B24j => ?_
      refine sr_k fun J25 hJ25 => ?_
      obtain ⟨b26, h⟩ := of_guard h
      have g27 : (encL c_u64 x0_2)[0 + x0_1.toNat * 1]? = some (.sc (.int .u64 (rd 0 x0_2 x0_1))) := (Vw.whole c_u64_w x0_2).get 0 0 b26.1 b26.2 (by decide)
      simp +decide only [Nat.reduceAdd, Nat.reduceMul, Int.reduceToNat, ak, b26, g27]
      obtain ⟨t28, h29, h⟩ := of_bind h
      refine call_m [(.arg 0, ⟨(.arg 0), [], none, .fz⟩)] (s0 := [(.arg 0, ⟨.fz, 2, cs0⟩)]) (by intro t ht; cases ht; decide) rfl rfl (by first | rfl | simp only [reduceCtorEq, Nat.reduceEqDiff, ak, akF, b26, g27]) (spec_l2In.tri (cs0) o0 l0 hv0 (rd 0 x0_2 x0_1) _ h29) (by first | rfl | simp only [reduceCtorEq, Nat.reduceEqDiff, ak, akF]) (by simp [bkOk2, memK]) (fun hl29 => ?_)
      refine call_st (s4 := [(.arg 0, ⟨.fz, 2, cs0⟩), (.tmp 16 0, ⟨.lst, 1, encL c_u64 x0_2⟩), (.tmp 18 0, ⟨.lst, 2, encL c31 x0_3⟩), (.tmp 19 0, ⟨.lst, 2, encL c31 x0_4⟩)]) (m1' := []) (m2' := []) (v' := .c (.sc (.bool t28))) (Sto.mapN_killNil _ _) (mrgL_fz (mrgL_nil' _ _ _) rfl (by first | rfl | simp only [reduceCtorEq, Nat.reduceEqDiff, ak, b26, g27]) rfl (by intro R hR hh; cases hR; cases hh.2)) (by rfl) (mapT_killNil _ _) (by rfl) (by rfl) (by first | rfl | simp only [reduceCtorEq, Nat.reduceEqDiff, ak, akF, Nat.zero_add, List.append_nil, b26]) ?_
      simp +decide only [Nat.reduceAdd, Nat.reduceMul, Int.reduceToNat, ak]
      refine hJ25 _ ?_
      refine sr_k fun J31 hJ31 => ?_
      simp +decide only [Nat.reduceAdd, Nat.reduceMul, Int.reduceToNat, ak, b26, g27]
      obtain ⟨t32, h33, h⟩ := of_bind h
      refine call_m [(.arg 0, ⟨(.tmp 18 0), [], none, .fz⟩)] (s0 := [(.arg 0, ⟨.fz, 2, encL c31 x0_3⟩)]) (by intro t ht; cases ht; decide) rfl rfl (by first | rfl | simp only [reduceCtorEq, Nat.reduceEqDiff, ak, akF, b26, g27]) (spec_l2In.tri (encL c31 x0_3) 0 x0_3 (Vw.whole c31_w x0_3) (rd 0 x0_2 x0_1) _ h33) (by first | rfl | simp only [reduceCtorEq, Nat.reduceEqDiff, ak, akF]) (by simp [bkOk2, memK]) (fun hl33 => ?_)
      refine call_st (s4 := [(.arg 0, ⟨.fz, 2, cs0⟩), (.tmp 16 0, ⟨.lst, 1, encL c_u64 x0_2⟩), (.tmp 18 0, ⟨.lst, 2, encL c31 x0_3⟩), (.tmp 19 0, ⟨.lst, 2, encL c31 x0_4⟩)]) (m1' := []) (m2' := []) (v' := .c (.sc (.bool t32))) (Sto.mapN_killNil _ _) (mrgL_fz (mrgL_nil' _ _ _) rfl (by first | rfl | simp only [reduceCtorEq, Nat.reduceEqDiff, ak, b26, g27]) rfl (by intro R hR hh; cases hR; cases hh.2)) (by rfl) (mapT_killNil _ _) (by rfl) (by rfl) (by first | rfl | simp only [reduceCtorEq, Nat.reduceEqDiff, ak, akF, Nat.zero_add, List.append_nil, b26]) ?_
      simp +decide only [Nat.reduceAdd, Nat.reduceMul, Int.reduceToNat, ak]
      refine hJ31 _ ?_
      obtain ⟨j35, h36, hn⟩ := of_bind h
      refine seq_j (fun st => st = ⟨[(0, .c (.ref (.arg 0) [] o0 l0.length)), (2, .c (.sc (.int .i64 x0_0))), (7, .c (.ref (.tmp 16 0) [] 0 x0_2.length)), (8, .c (.ref (.tmp 18 0) [] 0 x0_3.length)), (9, .c (.ref (.tmp 19 0) [] 0 x0_4.length)), (10, .c (.sc (.int .i64 x0_1))), (13, .c (.sc (.bool j35)))], [(.arg 0, ⟨.fz, 2, cs0⟩), (.tmp 16 0, ⟨.lst, 1, encL c_u64 x0_2⟩), (.tmp 18 0, ⟨.lst, 2, encL c31 x0_3⟩), (.tmp 19 0, ⟨.lst, 2, encL c31 x0_4⟩)], [], []⟩) (fun J37 hJ37 => ?_) ?_
      · replace h := h36; clear hn
        refine ga_k fun G38 G38n G38r G38x => ?_
        refine reg_k ?_
        simp +decide only [Nat.reduceAdd, Nat.reduceMul, Int.reduceToNat, ak]
        by_cases c39 : x0_0 = 1
        · rw [if_pos c39] at h
          have e40 : decide (x0_0 = 1) = true := decide_eq_true c39
          simp +decide only [Nat.reduceAdd, Nat.reduceMul, Int.reduceToNat, ak, e40]
          by_cases c41 : t28 = true
          · rw [if_pos c41] at h
            have e42 : (t28) = true := c41
            simp +decide only [Nat.reduceAdd, Nat.reduceMul, Int.reduceToNat, ak, e42]
            obtain rfl := Option.some.inj h
            refine G38n _ _ (wk [0, 2, 7, 8, 9, 10, 13] [pI (.arg 0) .fz, pI (.tmp 16 0) .lst, pI (.tmp 18 0) .lst, pI (.tmp 19 0) .lst] (h0 := by first | rfl | simp +decide only [ak, akF, b26, e40, e42]) (h := by first | rfl | (simp +decide only [ak, akF, b26, e40, e42]; done) | (simp +decide [ak, akF, b26, e40, e42] <;> omega))) (hJ37 _ rfl)
          · rw [if_neg c41] at h
            have e43 : (t28) = false := Bool.eq_false_iff.2 c41
            simp +decide only [Nat.reduceAdd, Nat.reduceMul, Int.reduceToNat, ak, e43]
            by_cases c44 : t32 = true
            · rw [if_pos c44] at h
              have e45 : (t32) = true := c44
              simp +decide only [Nat.reduceAdd, Nat.reduceMul, Int.reduceToNat, ak, e45]
              obtain rfl := Option.some.inj h
              refine G38n _ _ (wk [0, 2, 7, 8, 9, 10, 13] [pI (.arg 0) .fz, pI (.tmp 16 0) .lst, pI (.tmp 18 0) .lst, pI (.tmp 19 0) .lst] (h0 := by first | rfl | simp +decide only [ak, akF, b26, e40, e43, e45]) (h := by first | rfl | (simp +decide only [ak, akF, b26, e40, e43, e45]; done) | (simp +decide [ak, akF, b26, e40, e43, e45] <;> omega))) (hJ37 _ rfl)
            · rw [if_neg c44] at h
              have e46 : (t32) = false := Bool.eq_false_iff.2 c44
              simp +decide only [Nat.reduceAdd, Nat.reduceMul, Int.reduceToNat, ak, e46]
              have e47 : decide (x0_0 = 2) = false := decide_eq_false (fun hh => absurd (hh.symm.trans (of_decide_eq_true e40)) (by decide))
              simp +decide only [Nat.reduceAdd, Nat.reduceMul, Int.reduceToNat, ak, e47]
              have e48 : decide (x0_0 = 3) = false := decide_eq_false (fun hh => absurd (hh.symm.trans (of_decide_eq_true e40)) (by decide))
              simp +decide only [Nat.reduceAdd, Nat.reduceMul, Int.reduceToNat, ak, e48]
              have e49 : decide (x0_0 = 4) = false := decide_eq_false (fun hh => absurd (hh.symm.trans (of_decide_eq_true e40)) (by decide))
              simp +decide only [Nat.reduceAdd, Nat.reduceMul, Int.reduceToNat, ak, e49]
              obtain rfl := Option.some.inj h
              refine G38n _ _ (wk [0, 2, 7, 8, 9, 10, 13] [pI (.arg 0) .fz, pI (.tmp 16 0) .lst, pI (.tmp 18 0) .lst, pI (.tmp 19 0) .lst] (h0 := by first | rfl | simp +decide only [ak, akF, b26, e40, e43, e46, e47, e48, e49]) (h := by first | rfl | (simp +decide only [ak, akF, b26, e40, e43, e46, e47, e48, e49]; done) | (simp +decide [ak, akF, b26, e40, e43, e46, e47, e48, e49] <;> omega))) (hJ37 _ rfl)
        · rw [if_neg c39] at h
          have e50 : decide (x0_0 = 1) = false := decide_eq_false c39
          simp +decide only [Nat.reduceAdd, Nat.reduceMul, Int.reduceToNat, ak, e50]
          by_cases c51 : x0_0 = 2
          · rw [if_pos c51] at h
            have e52 : decide (x0_0 = 2) = true := decide_eq_true c51
            simp +decide only [Nat.reduceAdd, Nat.reduceMul, Int.reduceToNat, ak, e52]
            by_cases c53 : t28 = true
            · rw [if_pos c53] at h
              have e54 : (t28) = true := c53
              simp +decide only [Nat.reduceAdd, Nat.reduceMul, Int.reduceToNat, ak, e54]
              by_cases c55 : (!t32) = true
              · rw [if_pos c55] at h
                have e56 : (!t32) = true := c55
                simp +decide only [Nat.reduceAdd, Nat.reduceMul, Int.reduceToNat, ak, e56]
                obtain rfl := Option.some.inj h
                refine G38n _ _ (wk [0, 2, 7, 8, 9, 10, 13] [pI (.arg 0) .fz, pI (.tmp 16 0) .lst, pI (.tmp 18 0) .lst, pI (.tmp 19 0) .lst] (h0 := by first | rfl | simp +decide only [ak, akF, b26, e50, e52, e54, e56]) (h := by first | rfl | (simp +decide only [ak, akF, b26, e50, e52, e54, e56]; done) | (simp +decide [ak, akF, b26, e50, e52, e54, e56] <;> omega))) (hJ37 _ rfl)
              · rw [if_neg c55] at h
                have e57 : (!t32) = false := Bool.eq_false_iff.2 c55
                simp +decide only [Nat.reduceAdd, Nat.reduceMul, Int.reduceToNat, ak, e57]
                have e58 : decide (x0_0 = 3) = false := decide_eq_false (fun hh => absurd (hh.symm.trans (of_decide_eq_true e52)) (by decide))
                simp +decide only [Nat.reduceAdd, Nat.reduceMul, Int.reduceToNat, ak, e58]
                have e59 : decide (x0_0 = 4) = false := decide_eq_false (fun hh => absurd (hh.symm.trans (of_decide_eq_true e52)) (by decide))
                simp +decide only [Nat.reduceAdd, Nat.reduceMul, Int.reduceToNat, ak, e59]
                obtain rfl := Option.some.inj h
                refine G38n _ _ (wk [0, 2, 7, 8, 9, 10, 13] [pI (.arg 0) .fz, pI (.tmp 16 0) .lst, pI (.tmp 18 0) .lst, pI (.tmp 19 0) .lst] (h0 := by first | rfl | simp +decide only [ak, akF, b26, e50, e52, e54, e57, e58, e59]) (h := by first | rfl | (simp +decide only [ak, akF, b26, e50, e52, e54, e57, e58, e59]; done) | (simp +decide [ak, akF, b26, e50, e52, e54, e57, e58, e59] <;> omega))) (hJ37 _ rfl)
            · rw [if_neg c53] at h
              have e60 : (t28) = false := Bool.eq_false_iff.2 c53
              simp +decide only [Nat.reduceAdd, Nat.reduceMul, Int.reduceToNat, ak, e60]
              have e61 : decide (x0_0 = 3) = false := decide_eq_false (fun hh => absurd (hh.symm.trans (of_decide_eq_true e52)) (by decide))
              simp +decide only [Nat.reduceAdd, Nat.reduceMul, Int.reduceToNat, ak, e61]
              have e62 : decide (x0_0 = 4) = false := decide_eq_false (fun hh => absurd (hh.symm.trans (of_decide_eq_true e52)) (by decide))
              simp +decide only [Nat.reduceAdd, Nat.reduceMul, Int.reduceToNat, ak, e62]
              obtain rfl := Option.some.inj h
              refine G38n _ _ (wk [0, 2, 7, 8, 9, 10, 13] [pI (.arg 0) .fz, pI (.tmp 16 0) .lst, pI (.tmp 18 0) .lst, pI (.tmp 19 0) .lst] (h0 := by first | rfl | simp +decide only [ak, akF, b26, e50, e52, e60, e61, e62]) (h := by first | rfl | (simp +decide only [ak, akF, b26, e50, e52, e60, e61, e62]; done) | (simp +decide [ak, akF, b26, e50, e52, e60, e61, e62] <;> omega))) (hJ37 _ rfl)
          · rw [if_neg c51] at h
            have e63 : decide (x0_0 = 2) = false := decide_eq_false c51
            simp +decide only [Nat.reduceAdd, Nat.reduceMul, Int.reduceToNat, ak, e63]
            by_cases c64 : x0_0 = 3
            · rw [if_pos c64] at h
              have e65 : decide (x0_0 = 3) = true := decide_eq_true c64
              simp +decide only [Nat.reduceAdd, Nat.reduceMul, Int.reduceToNat, ak, e65]
              by_cases c66 : t32 = true
              · rw [if_pos c66] at h
                have e67 : (t32) = true := c66
                simp +decide only [Nat.reduceAdd, Nat.reduceMul, Int.reduceToNat, ak, e67]
                by_cases c68 : (!t28) = true
                · rw [if_pos c68] at h
                  have e69 : (!t28) = true := c68
                  simp +decide only [Nat.reduceAdd, Nat.reduceMul, Int.reduceToNat, ak, e69]
                  obtain rfl := Option.some.inj h
                  refine G38n _ _ (wk [0, 2, 7, 8, 9, 10, 13] [pI (.arg 0) .fz, pI (.tmp 16 0) .lst, pI (.tmp 18 0) .lst, pI (.tmp 19 0) .lst] (h0 := by first | rfl | simp +decide only [ak, akF, b26, e50, e63, e65, e67, e69]) (h := by first | rfl | (simp +decide only [ak, akF, b26, e50, e63, e65, e67, e69]; done) | (simp +decide [ak, akF, b26, e50, e63, e65, e67, e69] <;> omega))) (hJ37 _ rfl)
                · rw [if_neg c68] at h
                  have e70 : (!t28) = false := Bool.eq_false_iff.2 c68
                  simp +decide only [Nat.reduceAdd, Nat.reduceMul, Int.reduceToNat, ak, e70]
                  have e71 : decide (x0_0 = 4) = false := decide_eq_false (fun hh => absurd (hh.symm.trans (of_decide_eq_true e65)) (by decide))
                  simp +decide only [Nat.reduceAdd, Nat.reduceMul, Int.reduceToNat, ak, e71]
                  obtain rfl := Option.some.inj h
                  refine G38n _ _ (wk [0, 2, 7, 8, 9, 10, 13] [pI (.arg 0) .fz, pI (.tmp 16 0) .lst, pI (.tmp 18 0) .lst, pI (.tmp 19 0) .lst] (h0 := by first | rfl | simp +decide only [ak, akF, b26, e50, e63, e65, e67, e70, e71]) (h := by first | rfl | (simp +decide only [ak, akF, b26, e50, e63, e65, e67, e70, e71]; done) | (simp +decide [ak, akF, b26, e50, e63, e65, e67, e70, e71] <;> omega))) (hJ37 _ rfl)
              · rw [if_neg c66] at h
                have e72 : (t32) = false := Bool.eq_false_iff.2 c66
                simp +decide only [Nat.reduceAdd, Nat.reduceMul, Int.reduceToNat, ak, e72]
                have e73 : decide (x0_0 = 4) = false := decide_eq_false (fun hh => absurd (hh.symm.trans (of_decide_eq_true e65)) (by decide))
                simp +decide only [Nat.reduceAdd, Nat.reduceMul, Int.reduceToNat, ak, e73]
                obtain rfl := Option.some.inj h
                refine G38n _ _ (wk [0, 2, 7, 8, 9, 10, 13] [pI (.arg 0) .fz, pI (.tmp 16 0) .lst, pI (.tmp 18 0) .lst, pI (.tmp 19 0) .lst] (h0 := by first | rfl | simp +decide only [ak, akF, b26, e50, e63, e65, e72, e73]) (h := by first | rfl | (simp +decide only [ak, akF, b26, e50, e63, e65, e72, e73]; done) | (simp +decide [ak, akF, b26, e50, e63, e65, e72, e73] <;> omega))) (hJ37 _ rfl)
            · rw [if_neg c64] at h
              have e74 : decide (x0_0 = 3) = false := decide_eq_false c64
              simp +decide only [Nat.reduceAdd, Nat.reduceMul, Int.reduceToNat, ak, e74]
              by_cases c75 : x0_0 = 4
              · rw [if_pos c75] at h
                have e76 : decide (x0_0 = 4) = true := decide_eq_true c75
                simp +decide only [Nat.reduceAdd, Nat.reduceMul, Int.reduceToNat, ak, e76]
                by_cases c77 : t28 = true
                · rw [if_pos c77] at h
                  have e78 : (t28) = true := c77
                  simp +decide only [Nat.reduceAdd, Nat.reduceMul, Int.reduceToNat, ak, e78]
                  obtain rfl := Option.some.inj h
                  refine G38n _ _ (wk [0, 2, 7, 8, 9, 10, 13] [pI (.arg 0) .fz, pI (.tmp 16 0) .lst, pI (.tmp 18 0) .lst, pI (.tmp 19 0) .lst] (h0 := by first | rfl | simp +decide only [ak, akF, b26, e50, e63, e74, e76, e78]) (h := by first | rfl | (simp +decide only [ak, akF, b26, e50, e63, e74, e76, e78]; done) | (simp +decide [ak, akF, b26, e50, e63, e74, e76, e78] <;> omega))) (hJ37 _ rfl)
                · rw [if_neg c77] at h
                  have e79 : (t28) = false := Bool.eq_false_iff.2 c77
                  simp +decide only [Nat.reduceAdd, Nat.reduceMul, Int.reduceToNat, ak, e79]
                  obtain rfl := Option.some.inj h
                  refine G38n _ _ (wk [0, 2, 7, 8, 9, 10, 13] [pI (.arg 0) .fz, pI (.tmp 16 0) .lst, pI (.tmp 18 0) .lst, pI (.tmp 19 0) .lst] (h0 := by first | rfl | simp +decide only [ak, akF, b26, e50, e63, e74, e76, e79]) (h := by first | rfl | (simp +decide only [ak, akF, b26, e50, e63, e74, e76, e79]; done) | (simp +decide [ak, akF, b26, e50, e63, e74, e76, e79] <;> omega))) (hJ37 _ rfl)
              · rw [if_neg c75] at h
                have e80 : decide (x0_0 = 4) = false := decide_eq_false c75
                simp +decide only [Nat.reduceAdd, Nat.reduceMul, Int.reduceToNat, ak, e80]
                obtain rfl := Option.some.inj h
                refine G38n _ _ (wk [0, 2, 7, 8, 9, 10, 13] [pI (.arg 0) .fz, pI (.tmp 16 0) .lst, pI (.tmp 18 0) .lst, pI (.tmp 19 0) .lst] (h0 := by first | rfl | simp +decide only [ak, akF, b26, e50, e63, e74, e80]) (h := by first | rfl | (simp +decide only [ak, akF, b26, e50, e63, e74, e80]; done) | (simp +decide [ak, akF, b26, e50, e63, e74, e80] <;> omega))) (hJ37 _ rfl)
      · replace h := hn; clear hn h36
        rintro _ rfl
        refine seq_k fun J81 hJ81 => ?_
        refine sr_k fun J82 hJ82 => ?_
        simp +decide only [Nat.reduceAdd, Nat.reduceMul, Int.reduceToNat, ak]
        refine hJ82 _ ?_
        refine cond_k (b := !j35) rfl (fun c83 => ?_) (fun c83 => ?_)
        · rw [if_pos c83] at h
          refine B24x _ ?_
          obtain rfl := Option.some.inj h
          refine G23n _ _ (wk [0, 2, 7, 8, 9, 10] [pI (.arg 0) .fz, pI (.tmp 16 0) .lst, pI (.tmp 18 0) .lst, pI (.tmp 19 0) .lst]) (hJ22 _ rfl)
        · rw [if_neg (Bool.eq_false_iff.1 c83)] at h
          refine hJ81 _ ?_
          obtain ⟨j84, h85, hn⟩ := of_bind h
          refine seq_j (fun st => st = ⟨[(0, .c (.ref (.arg 0) [] o0 l0.length)), (2, .c (.sc (.int .i64 x0_0))), (7, .c (.ref (.tmp 16 0) [] 0 x0_2.length)), (8, .c (.ref (.tmp 18 0) [] 0 x0_3.length)), (9, .c (.ref (.tmp 19 0) [] 0 x0_4.length)), (10, .c (.sc (.int .i64 x0_1))), (97, .c (.sc (.bool j84)))], [(.arg 0, ⟨.fz, 2, cs0⟩), (.tmp 16 0, ⟨.lst, 1, encL c_u64 x0_2⟩), (.tmp 18 0, ⟨.lst, 2, encL c31 x0_3⟩), (.tmp 19 0, ⟨.lst, 2, encL c31 x0_4⟩)], [], []⟩) (fun J86 hJ86 => ?_) ?_
          · replace h := h85; clear hn
            refine ga_k fun G87 G87n G87r G87x => ?_
            refine regD_k ?_
            simp +decide only [Nat.reduceAdd, Nat.reduceMul, Int.reduceToNat, ak]
            by_cases c88 : (x0_4.length : Int) > 0
            · rw [if_pos c88] at h
              have e89 : decide ((x0_4.length : Int) > 0) = true := decide_eq_true c88
              obtain ⟨b90, h⟩ := of_guard h
              have g91 : 0 + (IntKind.i64.wrap ((x0_4.length : Int) - 1)).toNat * 2 + 1 ≤ (encL c31 x0_4).length := ((Vw.whole c31_w x0_4).len_le b90.1 b90.2 (by decide))
              have g92 : (encL c31 x0_4)[0 + (IntKind.i64.wrap ((x0_4.length : Int) - 1)).toNat * 2 + 1]? = some (.sc (.int .u64 ((rd z31 x0_4 (IntKind.i64.wrap ((x0_4.length : Int) - 1))).f1))) := (Vw.whole c31_w x0_4).get z31 1 b90.1 b90.2 (by decide)
              simp +decide only [Nat.reduceAdd, Nat.reduceMul, Int.reduceToNat, ak, e89, b90, g91, g92, b26, g27]
              obtain rfl := Option.some.inj h
              refine G87n _ _ (wk [0, 2, 7, 8, 9, 10, 97] [pI (.arg 0) .fz, pI (.tmp 16 0) .lst, pI (.tmp 18 0) .lst, pI (.tmp 19 0) .lst] (h0 := by first | rfl | simp +decide only [ak, akF, b26, b90, e89]) (h := by first | rfl | (simp +decide only [ak, akF, b26, b90, e89]; done) | (simp +decide [ak, akF, b26, b90, e89] <;> omega))) (hJ86 _ rfl)
            · rw [if_neg c88] at h
              have e93 : decide ((x0_4.length : Int) > 0) = false := decide_eq_false c88
              simp +decide only [Nat.reduceAdd, Nat.reduceMul, Int.reduceToNat, ak, e93]
              obtain rfl := Option.some.inj h
              refine G87n _ _ (wk [0, 2, 7, 8, 9, 10, 97] [pI (.arg 0) .fz, pI (.tmp 16 0) .lst, pI (.tmp 18 0) .lst, pI (.tmp 19 0) .lst] (h0 := by first | rfl | simp +decide only [ak, akF, b26, e93]) (h := by first | rfl | (simp +decide only [ak, akF, b26, e93]; done) | (simp +decide [ak, akF, b26, e93] <;> omega))) (hJ86 _ rfl)
          · replace h := hn; clear hn h85
            rintro _ rfl
            refine cond_k (b := j84) rfl (fun c94 => ?_) (fun c94 => ?_)
            · rw [if_pos c94] at h
              refine reg_k ?_
              obtain ⟨b95, h⟩ := of_guard h
              have g96 : (encL c_u64 x0_2)[0 + (IntKind.i64.wrap (x0_1 + 1)).toNat * 1]? = some (.sc (.int .u64 (rd 0 x0_2 (IntKind.i64.wrap (x0_1 + 1))))) := (Vw.whole c_u64_w x0_2).get 0 0 b95.1 b95.2 (by decide)
              obtain ⟨b97, h⟩ := of_guard h
              have g98 : 0 + (IntKind.i64.wrap ((x0_4.length : Int) - 1)).toNat * 2 + 1 ≤ (encL c31 x0_4).length := ((Vw.whole c31_w x0_4).len_le b97.1 b97.2 (by decide))
              have g99 : 0 + (IntKind.i64.wrap ((x0_4.length : Int) - 1)).toNat * 2 + 1 + 1 ≤ (encL c31 x0_4).length := (Vw.whole c31_w x0_4).le b97.1 b97.2 (j := 1) (q := 1) (by decide)
              have g100 : 0 + (IntKind.i64.wrap ((x0_4.length : Int) - 1)).toNat * 2 + 1 < (encL c31 x0_4).length := (Vw.whole c31_w x0_4).lt b97.1 b97.2 (j := 1) (by decide)
              have g101 : (encL c31 x0_4)[0 + (IntKind.i64.wrap ((x0_4.length : Int) - 1)).toNat * 2 + 1]? = some (.sc (.int .u64 ((rd z31 x0_4 (IntKind.i64.wrap ((x0_4.length : Int) - 1))).f1))) := (Vw.whole c31_w x0_4).get z31 1 b97.1 b97.2 (by decide)
              have g102 : (encL c31 x0_4).set (0 + (IntKind.i64.wrap ((x0_4.length : Int) - 1)).toNat * 2 + 1) (.sc (.int .u64 (rd 0 x0_2 (IntKind.i64.wrap (x0_1 + 1))))) = encL c31 (x0_4.set (IntKind.i64.wrap ((x0_4.length : Int) - 1)).toNat (⟨(rd z31 x0_4 (IntKind.i64.wrap ((x0_4.length : Int) - 1))).f0, (rd 0 x0_2 (IntKind.i64.wrap (x0_1 + 1)))⟩ : S31)) := encL_put c31_w z31 b97.1 b97.2 (j := 1) (by decide) rfl
              simp +decide only [Nat.reduceAdd, Nat.reduceMul, Int.reduceToNat, ak, b95, g96, b97, g98, g99, g100, g101, g102]
              refine B24n _ ?_
              obtain rfl := Option.some.inj h
              refine G23n _ _ (wk [0, 2, 7, 8, 9, 10] [pI (.arg 0) .fz, pI (.tmp 16 0) .lst, pI (.tmp 18 0) .lst, pI (.tmp 19 0) .lst] (h0 := by first | rfl | simp +decide only [ak, akF, b26, b95, b97]) (h := by first | rfl | (simp +decide only [ak, akF, b26, b95, b97]; done) | (simp +decide [ak, akF, b26, b95, b97] <;> omega))) (hJ22 _ rfl)
            · rw [if_neg (Bool.eq_false_iff.1 c94)] at h
              refine regD_k ?_
              obtain ⟨b103, h⟩ := of_guard h
              have g104 : (encL c_u64 x0_2)[0 + (IntKind.i64.wrap (x0_1 + 1)).toNat * 1]? = some (.sc (.int .u64 (rd 0 x0_2 (IntKind.i64.wrap (x0_1 + 1))))) := (Vw.whole c_u64_w x0_2).get 0 0 b103.1 b103.2 (by decide)
              simp +decide only [Nat.reduceAdd, Nat.reduceMul, Int.reduceToNat, ak, b26, g27, b103, g104]
              obtain ⟨b110, h⟩ := of_guard h
              refine alt_e ?_
              · have g119 : (List.replicate 1 ([.int .u64 0, .int .u64 0] : List Value)).flatten = [.int .u64 0, .int .u64 0] := rfl
                have g120 : (⟨.lst, 2, [.sc (.int .u64 (rd 0 x0_2 x0_1)), .sc (.int .u64 (rd 0 x0_2 (IntKind.i64.wrap (x0_1 + 1))))]⟩ : Root) = ⟨.lst, 2, encL c31 ([(⟨(rd 0 x0_2 x0_1), (rd 0 x0_2 (IntKind.i64.wrap (x0_1 + 1)))⟩ : S31)] : List S31)⟩ := rfl
                have g121 : ([(⟨(rd 0 x0_2 x0_1), (rd 0 x0_2 (IntKind.i64.wrap (x0_1 + 1)))⟩ : S31)] : List S31).length = 1 := rfl
                simp +decide only [Nat.reduceAdd, Nat.reduceMul, Int.reduceToNat, ak, g119, g120, g121]
                refine alt_e ?_
                · have g127 : (encL c31 ([(⟨(rd 0 x0_2 x0_1), (rd 0 x0_2 (IntKind.i64.wrap (x0_1 + 1)))⟩ : S31)] : List S31)).take 2 = encL c31 ([(⟨(rd 0 x0_2 x0_1), (rd 0 x0_2 (IntKind.i64.wrap (x0_1 + 1)))⟩ : S31)] : List S31) := by simpa using (Vw.whole c31_w ([(⟨(rd 0 x0_2 x0_1), (rd 0 x0_2 (IntKind.i64.wrap (x0_1 + 1)))⟩ : S31)] : List S31)).all
                  have g128 : (encL c31 ([(⟨(rd 0 x0_2 x0_1), (rd 0 x0_2 (IntKind.i64.wrap (x0_1 + 1)))⟩ : S31)] : List S31)).all isSc = true := encL_all (fun _ => rfl) _
                  have g129 : appLim x0_4.length 1 16 := ⟨b110, by have := b110; omega⟩
                  have g130 : (encL c31 x0_4).length = x0_4.length * 2 := by simp [encL_length c31_w]
                  have g131 : encL c31 x0_4 ++ encL c31 ([(⟨(rd 0 x0_2 x0_1), (rd 0 x0_2 (IntKind.i64.wrap (x0_1 + 1)))⟩ : S31)] : List S31) = encL c31 (x0_4 ++ ([(⟨(rd 0 x0_2 x0_1), (rd 0 x0_2 (IntKind.i64.wrap (x0_1 + 1)))⟩ : S31)] : List S31)) := (encL_append _ _).symm
                  simp +decide only [Nat.reduceAdd, Nat.reduceMul, Int.reduceToNat, ak, g127, g128, g129, g130, g131]
                  refine B24n _ ?_
                  obtain rfl := Option.some.inj h
                  refine G23n _ _ (wk [0, 2, 7, 8, 9, 10] [pI (.arg 0) .fz, pI (.tmp 16 0) .lst, pI (.tmp 18 0) .lst, pI (.tmp 19 0) .lst] (h0 := by first | rfl | simp +decide only [ak, akF, b26, b103, b110]) (h := by first | rfl | (simp +decide only [ak, akF, b26, b103, b110]; done) | (simp +decide [ak, akF, b26, b103, b110] <;> omega))) (hJ22 _ rfl)
    · replace h := hn; clear hn h21
      rintro _ rfl
      refine reg_k ?_
      simp +decide only [Nat.reduceAdd, Nat.reduceMul, Int.reduceToNat, ak]
      refine G0n _ _ (wk [0, 2, 7, 8, 9, 10] [pI (.arg 0) .fz, pI (.tmp 16 0) .lst, pI (.tmp 18 0) .lst, pI (.tmp 19 0) .lst]) (ih _ _ _ h K hx0)
  · replace c19 := of_decide_eq_false c19; rw [if_neg c19] at h
    obtain rfl := Option.some.inj h
    refine gh_k (wk [9] [pI (.arg 0) .fz, pI (.tmp 19 0) .lst]) ?_
    refine G0x _ _ ?_
    exact hx0
theorem spec_l2Build.tri (cs0 : List Cell) (o0 : Nat) (l0 : List S31) (hv0 : Vw c31 2 cs0 o0 l0) (a1_0 : Int) (a1_1 : Int) (a2 : Int) (r : (List S31)) (h : spec_l2Build.f l0 a1_0 a1_1 a2 = some r) : Tri Try.prog 105 [.c (.ref (.arg 0) [] o0 l0.length), .g [.sc (.int .u64 a1_0), .sc (.int .u64 a1_1)], .c (.sc (.int .i64 a2))] [(.arg 0, ⟨.fz, 2, cs0⟩)] (fun o => o = ⟨.c (.ref (.res 0) [] 0 r.length), [(.arg 0, ⟨.fz, 2, cs0⟩), (.res 0, ⟨.lst, 2, encL c31 r⟩)], [], []⟩) := by
  refine tri_of_body (ac := C105) (xs := r105) Try.func105 (show Try.f105.body = some (Try.f105.body.getD .skip) from rfl) k105 q105 (Nat.le_of_ble_eq_true rfl) ?_
  refine body_of fun K hKn hKr => ?_
  unfold spec_l2Build.f at h
  unfold C105
  simp only [initT, Nat.reduceAdd]
  refine sr_k fun J1 hJ1 => ?_
  simp +decide only [Nat.reduceAdd, Nat.reduceMul, Int.reduceToNat, ak]
  refine gho_k (Weak.nm' 6 (.tmp 6 20) 2 (encL c31 ([] : List S31)) rfl rfl rfl) ?_
  simp +decide only [Nat.reduceAdd, Nat.reduceMul, Int.reduceToNat, ak]
  refine hJ1 _ ?_
  refine sr_k fun J2 hJ2 => ?_
  simp +decide only [Nat.reduceAdd, Nat.reduceMul, Int.reduceToNat, ak]
  obtain ⟨t3, h4, h⟩ := of_bind h
  refine call_m [(.arg 0, ⟨(.arg 0), [], none, .fz⟩)] (s0 := [(.arg 0, ⟨.fz, 2, cs0⟩)]) (by intro t ht; cases ht; decide) rfl rfl (by first | rfl | simp only [reduceCtorEq, Nat.reduceEqDiff, ak, akF]) (spec_l2Points.tri (cs0) o0 l0 hv0 a1_0 a1_1 _ h4) (by first | rfl | simp only [reduceCtorEq, Nat.reduceEqDiff, ak, akF]) (by simp [bkOk2, memK]) (fun hl4 => ?_)
  refine call_st (s4 := [(.arg 0, ⟨.fz, 2, cs0⟩), (.tmp 4 0, ⟨.box, 0, [.sc (.int .u64 a1_0), .sc (.int .u64 a1_1)]⟩), (.tmp 6 20, ⟨.lst, 2, encL c31 ([] : List S31)⟩), (.tmp 16 0, ⟨.lst, 1, encL c_u64 t3⟩)]) (m1' := []) (m2' := []) (v' := .c (.ref (.tmp 16 0) [] 0 t3.length)) (Sto.mapN_killNil _ _) (mrgL_fz (mrgL_nil' _ _ _) rfl (by first | rfl | simp only [reduceCtorEq, Nat.reduceEqDiff, ak]) rfl (by intro R hR hh; cases hR; cases hh.2)) (by rfl) (mapT_killNil _ _) (by rfl) (by rfl) (by first | rfl | simp only [reduceCtorEq, Nat.reduceEqDiff, ak, akF, Nat.zero_add, List.append_nil]) ?_
  simp +decide only [Nat.reduceAdd, Nat.reduceMul, Int.reduceToNat, ak]
  refine hJ2 _ ?_
  refine sr_k fun J6 hJ6 => ?_
  have g7 : (List.replicate 1 ([.int .u64 0, .int .u64 0] : List Value)).flatten = [.int .u64 0, .int .u64 0] := rfl
  have g8 : (⟨.lst, 2, [.sc (.int .u64 a1_0), .sc (.int .u64 a1_1)]⟩ : Root) = ⟨.lst, 2, encL c31 ([(⟨a1_0, a1_1⟩ : S31)] : List S31)⟩ := rfl
  have g9 : ([(⟨a1_0, a1_1⟩ : S31)] : List S31).length = 1 := rfl
  simp +decide only [Nat.reduceAdd, Nat.reduceMul, Int.reduceToNat, ak, g7, g8, g9]
  refine hJ6 _ ?_
  refine sr_k fun J10 hJ10 => ?_
  have g11 : (List.replicate 0 ([.int .u64 0, .int .u64 0] : List Value)).flatten = [] := rfl
  have g12 : (⟨.lst, 2, []⟩ : Root) = ⟨.lst, 2, encL c31 ([] : List S31)⟩ := rfl
  have g13 : ([] : List S31).length = 0 := rfl
  simp +decide only [Nat.reduceAdd, Nat.reduceMul, Int.reduceToNat, ak, g11, g12, g13]
  refine hJ10 _ ?_
  refine seq_k fun J14 hJ14 => ?_
  refine sr_k fun J15 hJ15 => ?_
  simp +decide only [Nat.reduceAdd, Nat.reduceMul, Int.reduceToNat, ak]
  refine hJ15 _ ?_
  refine block_k fun B16 B16n B16x B16r B16j => ?_
  obtain ⟨y132, h133, h⟩ := of_bind h
  refine gh_k (st' := ⟨[(0, .c (.ref (.arg 0) [] o0 l0.length)), (2, .c (.sc (.int .i64 a2))), (7, .c (.ref (.tmp 16 0) [] 0 t3.length)), (8, .c (.ref (.tmp 18 0) [] 0 (([(⟨a1_0, a1_1⟩ : S31)] : List S31).length))), (9, .c (.ref (.tmp 19 0) [] 0 (([] : List S31).length))), (10, .c (.sc (.int .i64 0)))], [(.arg 0, ⟨.fz, 2, cs0⟩), (.tmp 16 0, ⟨.lst, 1, encL c_u64 t3⟩), (.tmp 18 0, ⟨.lst, 2, encL c31 ([(⟨a1_0, a1_1⟩ : S31)] : List S31)⟩), (.tmp 19 0, ⟨.lst, 2, encL c31 ([] : List S31)⟩)], [], []⟩) (wk [0, 2, 7, 8, 9, 10] [pI (.arg 0) .fz, pI (.tmp 16 0) .lst, pI (.tmp 18 0) .lst, pI (.tmp 19 0) .lst] (h := by first | rfl | (simp +decide only [ak, akF]; done) | (simp +decide [ak, akF] <;> omega))) ?_
  rw [e_loop]
  refine spec_l2Build.l0_walk cs0 o0 l0 hv0 a2 t3 ([(⟨a1_0, a1_1⟩ : S31)] : List S31) 0 ([] : List S31) _ h133 _ ?_
  refine B16x _ ?_
  refine hJ14 _ ?_
  refine sr_k fun J134 hJ134 => ?_
  simp +decide only [Nat.reduceAdd, Nat.reduceMul, Int.reduceToNat, ak]
  refine hJ134 _ ?_
  obtain rfl := Option.some.inj h
  refine hKr _ ⟨_, rfl, [⟨(.tmp 19 0), [], none, .lst⟩], _, rfl, rfl, ?_⟩
  first | rfl | (simp only [reduceCtorEq, Nat.reduceEqDiff, ak, akF]; done) | (simp [reduceCtorEq, Nat.reduceEqDiff, ak, akF] <;> omega)
/-! ### spec.l2Do: function 65 -/
def C65 : AC := .seq (.reg [.op none (.box 4 (.tmp 1)), .op none (.mv 6 (.const (.slice none 0 0))), .gh, .op none (.mv 7 (.const (.int .i64 0))), .keep [0, 2, 4]]) (.seq (.seq (.ga (.reg [.op none (.mv 9 (.tmp 0)), .call none (some 10) 104 [.tmp 9], .op none (.un 11 .not (.tmp 10)), .op none (.mv 12 (.tmp 11)), .op (some (12, false)) (.faddr 13 0 (.tmp 4)), .op (some (12, false)) (.load 14 false 1 (.tmp 13)), .op (some (12, false)) (.faddr 15 1 (.tmp 4)), .op (some (12, false)) (.load 16 false 1 (.tmp 15)), .op (some (12, false)) (.bin 17 .gtr (.tmp 14) (.tmp 16)), .op none (.pick 18 (.tmp 12) (.const (.bool true)) (.tmp 17)), .keep [0, 2, 4, 18]])) (.cond (.tmp 18) (.seq (.reg [.op none (.mv 6 (.const (.slice none 0 0))), .gh, .op none (.mv 7 (.const (.int .i64 1))), .keep [6, 7]]) (.ret)) (.skip))) (.seq (.reg [.op none (.mv 19 (.tmp 0)), .op none (.load 20 true 2 (.tmp 4)), .op none (.mv 21 (.tmp 2)), .call none (some 22) 105 [.tmp 19, .tmp 20, .tmp 21], .op none (.mv 8 (.tmp 22)), .keep [8]]) (.seq (.seq (.reg [.op none (.mv 23 (.tmp 8)), .op none (.len 24 (.tmp 23)), .op none (.bin 25 .gtr (.tmp 24) (.const (.int .i64 1000))), .keep [8, 25]]) (.cond (.tmp 25) (.seq (.reg [.op none (.mv 6 (.const (.slice none 0 0))), .gh, .op none (.mv 7 (.const (.int .i64 5))), .keep [6, 7]]) (.ret)) (.skip))) (.seq (.reg [.op none (.mv 26 (.tmp 8)), .op none (.mv 6 (.tmp 26)), .op none (.mv 7 (.const (.int .i64 0))), .keep [6, 7]]) (.ret)))))
def r65 : List RV := [.tmp 6, .tmp 7]
theorem k65 : compC Try.prog 27 C65 (Try.f65.body.getD .skip) = some C65.erase := by kernel_rfl
theorem q65 : rvsOf Try.prog Try.f65.results.toList = some r65 := by kernel_rfl
def spec_l2Do.f (l0 : List S31) (a1_0 : Int) (a1_1 : Int) (a2 : Int) : Option ((List S31) × Int) := ((spec_l2SetOK.f l0 >>= fun t7 => (if (!t7) = true then (some true) else (some (decide (a1_0 > a1_1))))) >>= fun (j3 : Bool) => (if j3 = true then (some (([] : List S31), 1)) else (spec_l2Build.f l0 a1_0 a1_1 a2 >>= fun t16 => (if (t16.length : Int) > 1000 then (some (([] : List S31), 5)) else (some (t16, 0))))))
theorem spec_l2Do.tri (cs0 : List Cell) (o0 : Nat) (l0 : List S31) (hv0 : Vw c31 2 cs0 o0 l0) (a1_0 : Int) (a1_1 : Int) (a2 : Int) (r : (List S31) × Int) (h : spec_l2Do.f l0 a1_0 a1_1 a2 = some r) : Tri Try.prog 65 [.c (.ref (.arg 0) [] o0 l0.length), .g [.sc (.int .u64 a1_0), .sc (.int .u64 a1_1)], .c (.sc (.int .i64 a2))] [(.arg 0, ⟨.fz, 2, cs0⟩)] (fun o => o = ⟨.tup [(false, [.ref (.res 0) [] 0 r.1.length]), (false, [.sc (.int .i64 r.2)])], [(.arg 0, ⟨.fz, 2, cs0⟩), (.res 0, ⟨.lst, 2, encL c31 r.1⟩)], [], []⟩) := by
  refine tri_of_body (ac := C65) (xs := r65) Try.func65 (show Try.f65.body = some (Try.f65.body.getD .skip) from rfl) k65 q65 (Nat.le_of_ble_eq_true rfl) ?_
  refine body_of fun K hKn hKr => ?_
  unfold spec_l2Do.f at h
  unfold C65
  simp only [initT, Nat.reduceAdd]
  refine sr_k fun J1 hJ1 => ?_
  simp +decide only [Nat.reduceAdd, Nat.reduceMul, Int.reduceToNat, ak]
  refine gho_k (Weak.nm' 6 (.tmp 6 20) 2 (encL c31 ([] : List S31)) rfl rfl rfl) ?_
  simp +decide only [Nat.reduceAdd, Nat.reduceMul, Int.reduceToNat, ak]
  refine hJ1 _ ?_
  refine seq_k fun J2 hJ2 => ?_
  obtain ⟨j3, h4, hn⟩ := of_bind h
  refine seq_j (fun st => st = ⟨[(0, .c (.ref (.arg 0) [] o0 l0.length)), (2, .c (.sc (.int .i64 a2))), (4, .c (.ptr (.tmp 4 0) [] 0)), (18, .c (.sc (.bool j3)))], [(.arg 0, ⟨.fz, 2, cs0⟩), (.tmp 4 0, ⟨.box, 0, [.sc (.int .u64 a1_0), .sc (.int .u64 a1_1)]⟩)], [], []⟩) (fun J5 hJ5 => ?_) ?_
  · replace h := h4; clear hn
    refine ga_k fun G6 G6n G6r G6x => ?_
    refine reg_k ?_
    simp +decide only [Nat.reduceAdd, Nat.reduceMul, Int.reduceToNat, ak]
    obtain ⟨t7, h8, h⟩ := of_bind h
    refine call_m [(.arg 0, ⟨(.arg 0), [], none, .fz⟩)] (s0 := [(.arg 0, ⟨.fz, 2, cs0⟩)]) (by intro t ht; cases ht; decide) rfl rfl (by first | rfl | simp only [reduceCtorEq, Nat.reduceEqDiff, ak, akF]) (spec_l2SetOK.tri (cs0) o0 l0 hv0 _ h8) (by first | rfl | simp only [reduceCtorEq, Nat.reduceEqDiff, ak, akF]) (by simp [bkOk2, memK]) (fun hl8 => ?_)
    refine call_st (s4 := [(.arg 0, ⟨.fz, 2, cs0⟩), (.tmp 4 0, ⟨.box, 0, [.sc (.int .u64 a1_0), .sc (.int .u64 a1_1)]⟩), (.tmp 6 20, ⟨.lst, 2, encL c31 ([] : List S31)⟩)]) (m1' := []) (m2' := []) (v' := .c (.sc (.bool t7))) (Sto.mapN_killNil _ _) (mrgL_fz (mrgL_nil' _ _ _) rfl (by first | rfl | simp only [reduceCtorEq, Nat.reduceEqDiff, ak]) rfl (by intro R hR hh; cases hR; cases hh.2)) (by rfl) (mapT_killNil _ _) (by rfl) (by rfl) (by first | rfl | simp only [reduceCtorEq, Nat.reduceEqDiff, ak, akF, Nat.zero_add, List.append_nil]) ?_
    simp +decide only [Nat.reduceAdd, Nat.reduceMul, Int.reduceToNat, ak]
    by_cases c10 : (!t7) = true
    · rw [if_pos c10] at h
      have e11 : (!t7) = true := c10
      simp +decide only [Nat.reduceAdd, Nat.reduceMul, Int.reduceToNat, ak, e11]
      obtain rfl := Option.some.inj h
      refine G6n _ _ (wk [0, 2, 4, 18] [pI (.arg 0) .fz, pI (.tmp 4 0) .box] (h0 := by first | rfl | simp +decide only [ak, akF, e11]) (h := by first | rfl | (simp +decide only [ak, akF, e11]; done) | (simp +decide [ak, akF, e11] <;> omega))) (hJ5 _ rfl)
    · rw [if_neg c10] at h
      have e12 : (!t7) = false := Bool.eq_false_iff.2 c10
      simp +decide only [Nat.reduceAdd, Nat.reduceMul, Int.reduceToNat, ak, e12]
      obtain rfl := Option.some.inj h
      refine G6n _ _ (wk [0, 2, 4, 18] [pI (.arg 0) .fz, pI (.tmp 4 0) .box] (h0 := by first | rfl | simp +decide only [ak, akF, e12]) (h := by first | rfl | (simp +decide only [ak, akF, e12]; done) | (simp +decide [ak, akF, e12] <;> omega))) (hJ5 _ rfl)
  · replace h := hn; clear hn h4
    rintro _ rfl
    refine cond_k (b := j3) rfl (fun c13 => ?_) (fun c13 => ?_)
    · rw [if_pos c13] at h
      refine sr_k fun J14 hJ14 => ?_
      simp +decide only [Nat.reduceAdd, Nat.reduceMul, Int.reduceToNat, ak]
      refine gho_k (Weak.nm' 6 (.tmp 6 20) 2 (encL c31 ([] : List S31)) rfl rfl rfl) ?_
      simp +decide only [Nat.reduceAdd, Nat.reduceMul, Int.reduceToNat, ak]
      refine hJ14 _ ?_
      obtain rfl := Option.some.inj h
      refine hKr _ ⟨_, rfl, [⟨(.tmp 6 20), [], none, .lst⟩], _, rfl, rfl, ?_⟩
      first | rfl | (simp only [reduceCtorEq, Nat.reduceEqDiff, ak, akF]; done) | (simp [reduceCtorEq, Nat.reduceEqDiff, ak, akF] <;> omega)
    · rw [if_neg (Bool.eq_false_iff.1 c13)] at h
      refine hJ2 _ ?_
      refine sr_k fun J15 hJ15 => ?_
      simp +decide only [Nat.reduceAdd, Nat.reduceMul, Int.reduceToNat, ak]
      obtain ⟨t16, h17, h⟩ := of_bind h
      refine call_m [(.arg 0, ⟨(.arg 0), [], none, .fz⟩)] (s0 := [(.arg 0, ⟨.fz, 2, cs0⟩)]) (by intro t ht; cases ht; decide) rfl rfl (by first | rfl | simp only [reduceCtorEq, Nat.reduceEqDiff, ak, akF]) (spec_l2Build.tri (cs0) o0 l0 hv0 a1_0 a1_1 a2 _ h17) (by first | rfl | simp only [reduceCtorEq, Nat.reduceEqDiff, ak, akF]) (by simp [bkOk2, memK]) (fun hl17 => ?_)
      refine call_st (s4 := [(.arg 0, ⟨.fz, 2, cs0⟩), (.tmp 4 0, ⟨.box, 0, [.sc (.int .u64 a1_0), .sc (.int .u64 a1_1)]⟩), (.tmp 22 0, ⟨.lst, 2, encL c31 t16⟩)]) (m1' := []) (m2' := []) (v' := .c (.ref (.tmp 22 0) [] 0 t16.length)) (Sto.mapN_killNil _ _) (mrgL_fz (mrgL_nil' _ _ _) rfl (by first | rfl | simp only [reduceCtorEq, Nat.reduceEqDiff, ak]) rfl (by intro R hR hh; cases hR; cases hh.2)) (by rfl) (mapT_killNil _ _) (by rfl) (by rfl) (by first | rfl | simp only [reduceCtorEq, Nat.reduceEqDiff, ak, akF, Nat.zero_add, List.append_nil]) ?_
      simp +decide only [Nat.reduceAdd, Nat.reduceMul, Int.reduceToNat, ak]
      refine hJ15 _ ?_
      refine seq_k fun J19 hJ19 => ?_
      refine sr_k fun J20 hJ20 => ?_
      simp +decide only [Nat.reduceAdd, Nat.reduceMul, Int.reduceToNat, ak]
      refine hJ20 _ ?_
      refine cond_k (b := decide ((t16.length : Int) > 1000)) rfl (fun c21 => ?_) (fun c21 => ?_)
      · replace c21 := of_decide_eq_true c21; rw [if_pos c21] at h
        refine sr_k fun J22 hJ22 => ?_
        simp +decide only [Nat.reduceAdd, Nat.reduceMul, Int.reduceToNat, ak]
        refine gho_k (Weak.nm' 6 (.tmp 6 20) 2 (encL c31 ([] : List S31)) rfl rfl rfl) ?_
        simp +decide only [Nat.reduceAdd, Nat.reduceMul, Int.reduceToNat, ak]
        refine hJ22 _ ?_
        obtain rfl := Option.some.inj h
        refine hKr _ ⟨_, rfl, [⟨(.tmp 6 20), [], none, .lst⟩], _, rfl, rfl, ?_⟩
        first | rfl | (simp only [reduceCtorEq, Nat.reduceEqDiff, ak, akF]; done) | (simp [reduceCtorEq, Nat.reduceEqDiff, ak, akF] <;> omega)
      · replace c21 := of_decide_eq_false c21; rw [if_neg c21] at h
        refine hJ19 _ ?_
        refine sr_k fun J23 hJ23 => ?_
        simp +decide only [Nat.reduceAdd, Nat.reduceMul, Int.reduceToNat, ak]
        refine hJ23 _ ?_
        obtain rfl := Option.some.inj h
        refine hKr _ ⟨_, rfl, [⟨(.tmp 22 0), [], none, .lst⟩], _, rfl, rfl, ?_⟩
        first | rfl | (simp only [reduceCtorEq, Nat.reduceEqDiff, ak, akF]; done) | (simp [reduceCtorEq, Nat.reduceEqDiff, ak, akF] <;> omega)
end Go.AK
